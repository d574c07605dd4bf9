/- The texts VIr1 VIr, one behind the other. Conditions: each text's own. -/
import Derived.Test.YtlejgleocnemoabGreatG00
import Derived.Test.YtlejgleocnemoabGreatG02
namespace Go.Proofs.YtlejgleocnemoabGreat.I
open Go Go.V
def c91 : IR :=
 .seq (.reg none [⟨some 1, .box 66 3 (.t 0), none⟩,
  ⟨some 2, .alloc 57 [.nilsl 162 1, .bool false, .nilsl 162 1], none⟩,
  ⟨some 3, .mov (.k (.bool false)), none⟩])
 (.lv [1, 2] (.seq (.reg none [⟨some 10, .faddr 1 (.t 1), none⟩,
  ⟨some 11, .ld false 1 (.t 10), none⟩,
  ⟨some 12, .callP 128 [.t 11], none⟩,
  ⟨some 9, .mov (.t 12), none⟩,
  ⟨some 13, .ext (.t 9) 0, none⟩,
  ⟨some 14, .ext (.t 9) 1, none⟩,
  ⟨some 4, .alloc 53 [.nilsl 162 1], none⟩,
  ⟨none, .st 1 (.t 4) (.t 13), none⟩,
  ⟨some 5, .mov (.t 14), none⟩])
 (.lv [1, 2, 4, 5] (.seq (.reg none [⟨some 16, .faddr 2 (.t 1), none⟩,
  ⟨some 17, .ld false 1 (.t 16), none⟩,
  ⟨some 18, .callP 128 [.t 17], none⟩,
  ⟨some 15, .mov (.t 18), none⟩,
  ⟨some 19, .ext (.t 15) 0, none⟩,
  ⟨some 20, .ext (.t 15) 1, none⟩,
  ⟨some 6, .alloc 53 [.nilsl 162 1], none⟩,
  ⟨none, .st 1 (.t 6) (.t 19), none⟩,
  ⟨some 7, .mov (.t 20), none⟩])
 (.lv [1, 2, 4, 5, 6, 7] (.seq (.seq (.reg none [⟨some 21, .mov (.t 5), none⟩,
  ⟨some 22, .not (.t 21), none⟩,
  ⟨some 23, .mov (.t 22), none⟩,
  ⟨some 24, .mov (.t 7), (some (23, false))⟩,
  ⟨some 25, .not (.t 24), (some (23, false))⟩,
  ⟨some 26, .pick (.t 23) (.k (.bool true)) (.t 25), none⟩])
 (.lv [1, 2, 4, 6, 26] (.cond (.t 26) (.lv [2] (.seq (.reg none [⟨some 27, .build [.nilsl 162 1, .bool false, .nilsl 162 1] [], none⟩,
  ⟨none, .st 3 (.t 2) (.t 27), none⟩,
  ⟨some 3, .mov (.k (.bool false)), none⟩])
 (.ret)))
 (.skip))))
 (.lv [1, 2, 4, 6] (.seq (.reg (some [0, 1, 2, 4, 3, 5, 6, 7, 8, 9, 10, 11, 12]) [⟨some 29, .faddr 0 (.t 1), none⟩,
  ⟨some 30, .ld false 1 (.t 29), none⟩,
  ⟨some 31, .ld true 1 (.t 4), none⟩,
  ⟨some 33, .ld true 1 (.t 6), none⟩,
  ⟨some 32, .callF 109 [.t 30, .t 31], none⟩,
  ⟨some 34, .callF 109 [.k (.bool false), .t 33], none⟩,
  ⟨some 35, .callP 122 [.t 32, .t 34], none⟩,
  ⟨some 28, .mov (.t 35), none⟩,
  ⟨some 36, .ext (.t 28) 0, none⟩,
  ⟨some 37, .ext (.t 28) 1, none⟩,
  ⟨some 8, .alloc 57 [.nilsl 162 1, .bool false, .nilsl 162 1], none⟩,
  ⟨none, .st 3 (.t 8) (.t 36), none⟩,
  ⟨some 5, .mov (.t 37), none⟩])
 (.lv [1, 2, 5, 8] (.seq (.reg (some [0, 1, 2, 3, 4, 5, 6, 7, 8, 9]) [⟨some 38, .ld true 3 (.t 8), none⟩,
  ⟨some 39, .mov (.t 5), none⟩,
  ⟨some 40, .mov (.t 39), none⟩,
  ⟨some 41, .ld true 3 (.t 8), (some (40, true))⟩,
  ⟨some 42, .callR 75 [.t 41], (some (40, true))⟩,
  ⟨some 43, .ld true 3 (.t 1), (some (40, true))⟩,
  ⟨some 44, .bins .eq [0, 2, 2] (.t 42) (.t 43), (some (40, true))⟩,
  ⟨some 45, .pick (.t 40) (.t 44) (.k (.bool false)), none⟩,
  ⟨none, .sta [1] 3 (.t 2) (.t 38), none⟩,
  ⟨some 3, .mov (.t 45), none⟩])
 (.ret)))))))))))
def i91 : IFn := ⟨1, 46, c91, [.c 2 true 3, .t 3], .pure⟩
def c98 : IR :=
 .seq (.reg none [⟨some 2, .alloc 55 [.nilsl 162 1, .bool false], none⟩])
 (.lv [0, 2] (.seq (.seq (.reg none [⟨some 3, .mov (.t 0), none⟩,
  ⟨some 4, .bin .lt (.t 3) (.k (.int .i64 0)), none⟩])
 (.lv [0, 2, 4] (.cond (.t 4) (.lv [0, 2] (.seq (.reg none [⟨some 5, .mov (.t 0), none⟩,
  ⟨some 6, .bin .add (.t 5) (.k (.int .i64 1)), none⟩,
  ⟨some 7, .neg (.t 6), none⟩,
  ⟨some 8, .conv .u64 (.t 7), none⟩,
  ⟨some 9, .bin .add (.t 8) (.k (.int .u64 1)), none⟩,
  ⟨some 10, .callP 99 [.t 9], none⟩,
  ⟨some 11, .build [.nilsl 162 1, .bool false] [(0, 1, .t 10), (1, 1, .k (.bool true))], none⟩,
  ⟨none, .st 2 (.t 2) (.t 11), none⟩])
 (.ret)))
 (.skip))))
 (.lv [0, 2] (.seq (.reg none [⟨some 12, .mov (.t 0), none⟩,
  ⟨some 13, .conv .u64 (.t 12), none⟩,
  ⟨some 14, .callP 99 [.t 13], none⟩,
  ⟨some 15, .build [.nilsl 162 1, .bool false] [(0, 1, .t 14), (1, 1, .k (.bool false))], none⟩,
  ⟨none, .st 2 (.t 2) (.t 15), none⟩])
 (.ret)))))
def i98 : IFn := ⟨1, 16, c98, [.c 2 true 2], .pure⟩
def c99 : IR :=
 .seq (.reg none [⟨some 2, .alloc 53 [.nilsl 162 1], none⟩])
 (.lv [0, 2] (.seq (.reg none [⟨some 3, .mov (.t 0), none⟩,
  ⟨some 4, .conv .u32 (.t 3), none⟩,
  ⟨some 5, .mov (.t 0), none⟩,
  ⟨some 6, .bin .shr (.t 5) (.k (.int .u64 32)), none⟩,
  ⟨some 7, .conv .u32 (.t 6), none⟩,
  ⟨some 8, .bsl 162 1 [.t 4, .t 7], none⟩,
  ⟨some 9, .callF 137 [.t 8], none⟩,
  ⟨none, .st 1 (.t 2) (.t 9), none⟩])
 (.ret)))
def i99 : IFn := ⟨1, 10, c99, [.c 2 true 1], .pure⟩
def c101 : IR :=
 .seq (.reg none [⟨some 5, .mov (.k (.int .i64 0)), none⟩])
 (.lv [0, 1, 2] (.seq (.reg none [⟨some 6, .ldf true 5 (.t 2), none⟩,
  ⟨some 7, .mov (.t 0), none⟩,
  ⟨some 8, .ldf true 5 (.t 2), none⟩,
  ⟨some 9, .mov (.t 1), none⟩,
  ⟨some 10, .callP 61 [.t 6, .t 7, .t 8, .t 9], none⟩,
  ⟨some 5, .mov (.t 10), none⟩])
 (.ret)))
def i101 : IFn := ⟨3, 11, c101, [.t 5], .own⟩
def b102_0 : IR :=
 .seq (.seq (.reg none [⟨some 11, .mov (.t 8), none⟩,
  ⟨some 12, .mov (.t 1), none⟩,
  ⟨some 13, .bin .le (.t 11) (.t 12), none⟩])
 (.lv [0, 1, 2, 6, 7, 8, 13] (.cond (.t 13) (.skip)
 (.exit 0))))
 (.lv [0, 1, 2, 6, 7, 8] (.block 1 (.seq (.reg none [⟨some 14, .mov (.t 0), none⟩,
  ⟨some 15, .mov (.t 7), none⟩,
  ⟨some 16, .mov (.t 8), none⟩,
  ⟨some 17, .mov (.t 2), none⟩,
  ⟨some 18, .callM 139 [.t 14, .t 15, .t 16, .t 17], none⟩])
 (.lv [0, 1, 2, 6, 8] (.seq (.reg none [⟨some 19, .mov (.t 8), none⟩,
  ⟨some 7, .mov (.t 19), none⟩])
 (.lv [0, 1, 2, 6, 7, 8] (.reg none [⟨some 20, .mov (.t 8), none⟩,
  ⟨some 21, .mov (.t 6), none⟩,
  ⟨some 22, .bin .add (.t 20) (.t 21), none⟩,
  ⟨some 8, .mov (.t 22), none⟩])))))))
def b102_2 : IR :=
 .seq (.seq (.reg none [⟨some 33, .mov (.t 8), none⟩,
  ⟨some 34, .mov (.t 1), none⟩,
  ⟨some 35, .bin .le (.t 33) (.t 34), none⟩])
 (.lv [0, 1, 2, 6, 7, 8, 35] (.cond (.t 35) (.skip)
 (.exit 4))))
 (.lv [0, 1, 2, 6, 7, 8] (.block 5 (.seq (.reg none [⟨some 36, .mov (.t 0), none⟩,
  ⟨some 37, .mov (.t 7), none⟩,
  ⟨some 38, .mov (.t 7), none⟩,
  ⟨some 39, .mov (.t 6), none⟩,
  ⟨some 40, .bin .add (.t 38) (.t 39), none⟩,
  ⟨some 41, .mov (.t 8), none⟩,
  ⟨some 42, .mov (.t 2), none⟩,
  ⟨some 43, .callM 140 [.t 36, .t 37, .t 40, .t 41, .t 42], none⟩])
 (.lv [0, 1, 2, 6, 8] (.seq (.reg none [⟨some 44, .mov (.t 8), none⟩,
  ⟨some 7, .mov (.t 44), none⟩])
 (.lv [0, 1, 2, 6, 7, 8] (.reg none [⟨some 45, .mov (.t 8), none⟩,
  ⟨some 46, .mov (.t 6), none⟩,
  ⟨some 47, .bin .mul (.k (.int .i64 2)) (.t 46), none⟩,
  ⟨some 48, .bin .add (.t 45) (.t 47), none⟩,
  ⟨some 8, .mov (.t 48), none⟩])))))))
def k102_0 : IR :=
 .seq (.seq (.reg none [⟨some 49, .mov (.t 7), none⟩,
  ⟨some 50, .mov (.t 6), none⟩,
  ⟨some 51, .bin .add (.t 49) (.t 50), none⟩,
  ⟨some 9, .mov (.t 51), none⟩])
 (.lv [0, 1, 2, 6, 7, 9] (.seq (.reg none [⟨some 52, .mov (.t 9), none⟩,
  ⟨some 53, .mov (.t 1), none⟩,
  ⟨some 54, .bin .lt (.t 52) (.t 53), none⟩])
 (.lv [0, 1, 2, 6, 7, 9, 54] (.cond (.t 54) (.lv [0, 1, 2, 6, 7, 9] (.reg none [⟨some 55, .mov (.t 0), none⟩,
  ⟨some 56, .mov (.t 7), none⟩,
  ⟨some 57, .mov (.t 9), none⟩,
  ⟨some 58, .mov (.t 1), none⟩,
  ⟨some 59, .mov (.t 2), none⟩,
  ⟨some 60, .callM 140 [.t 55, .t 56, .t 57, .t 58, .t 59], none⟩]))
 (.skip))))))
 (.lv [0, 1, 2, 6] (.reg none [⟨some 61, .mov (.t 6), none⟩,
  ⟨some 62, .bin .mul (.t 61) (.k (.int .i64 2)), none⟩,
  ⟨some 6, .mov (.t 62), none⟩]))
def b102_1 : IR :=
 .seq (.seq (.reg none [⟨some 28, .mov (.t 6), none⟩,
  ⟨some 29, .mov (.t 1), none⟩,
  ⟨some 30, .bin .lt (.t 28) (.t 29), none⟩])
 (.lv [0, 1, 2, 6, 30] (.cond (.t 30) (.skip)
 (.exit 2))))
 (.lv [0, 1, 2, 6] (.block 3 (.seq (.reg none [⟨some 31, .mov (.t 6), none⟩,
  ⟨some 32, .bin .mul (.k (.int .i64 2)) (.t 31), none⟩,
  ⟨some 7, .mov (.k (.int .i64 0)), none⟩,
  ⟨some 8, .mov (.t 32), none⟩])
 (.lv [0, 1, 2, 6, 7, 8] (.seq (.block 4 (.loop [0, 1, 2, 6, 7, 8] none b102_2))
 k102_0)))))
def k102_1 : IR :=
 .seq (.reg none [⟨some 23, .mov (.t 0), none⟩,
  ⟨some 24, .mov (.t 7), none⟩,
  ⟨some 25, .mov (.t 1), none⟩,
  ⟨some 26, .mov (.t 2), none⟩,
  ⟨some 27, .callM 139 [.t 23, .t 24, .t 25, .t 26], none⟩])
 (.lv [0, 1, 2, 6] (.block 2 (.loop [0, 1, 2, 6] none b102_1)))
def c102 : IR :=
 .seq (.reg none [⟨some 6, .mov (.k (.int .i64 20)), none⟩])
 (.lv [0, 1, 2, 6] (.seq (.reg none [⟨some 10, .mov (.t 6), none⟩,
  ⟨some 7, .mov (.k (.int .i64 0)), none⟩,
  ⟨some 8, .mov (.t 10), none⟩])
 (.lv [0, 1, 2, 6, 7, 8] (.seq (.block 0 (.loop [0, 1, 2, 6, 7, 8] none b102_0))
 k102_1))))
def i102 : IFn := ⟨3, 63, c102, [], .ref⟩
def c103 : IR :=
 .seq (.reg none [⟨some 4, .mov (.k (.int .i64 0)), none⟩])
 (.lv [0, 1] (.seq (.reg none [⟨some 7, .mov (.t 0), none⟩,
  ⟨some 8, .callP 141 [.t 7], none⟩,
  ⟨some 5, .mov (.t 8), none⟩])
 (.lv [0, 1, 5] (.seq (.reg none [⟨some 9, .mov (.t 1), none⟩,
  ⟨some 10, .callP 141 [.t 9], none⟩,
  ⟨some 6, .mov (.t 10), none⟩])
 (.lv [0, 1, 5, 6] (.seq (.seq (.reg none [⟨some 11, .mov (.t 5), none⟩])
 (.lv [0, 1, 6, 11] (.cond (.t 11) (.lv [6] (.seq (.seq (.reg none [⟨some 12, .mov (.t 6), none⟩])
 (.lv [12] (.cond (.t 12) (.lv [] (.seq (.reg none [⟨some 4, .mov (.k (.int .i64 0)), none⟩])
 (.ret)))
 (.skip))))
 (.lv [] (.seq (.reg none [⟨some 4, .mov (.k (.int .i64 (-1))), none⟩])
 (.ret)))))
 (.skip))))
 (.lv [0, 1, 6] (.seq (.seq (.reg none [⟨some 13, .mov (.t 6), none⟩])
 (.lv [0, 1, 13] (.cond (.t 13) (.lv [] (.seq (.reg none [⟨some 4, .mov (.k (.int .i64 1)), none⟩])
 (.ret)))
 (.skip))))
 (.lv [0, 1] (.seq (.seq (.reg none [⟨some 14, .mov (.t 0), none⟩,
  ⟨some 15, .mov (.t 1), none⟩,
  ⟨some 16, .bin .lt (.t 14) (.t 15), none⟩])
 (.lv [0, 1, 16] (.cond (.t 16) (.lv [] (.seq (.reg none [⟨some 4, .mov (.k (.int .i64 (-1))), none⟩])
 (.ret)))
 (.skip))))
 (.lv [0, 1] (.seq (.seq (.reg none [⟨some 17, .mov (.t 0), none⟩,
  ⟨some 18, .mov (.t 1), none⟩,
  ⟨some 19, .bin .gt (.t 17) (.t 18), none⟩])
 (.lv [19] (.cond (.t 19) (.lv [] (.seq (.reg none [⟨some 4, .mov (.k (.int .i64 1)), none⟩])
 (.ret)))
 (.skip))))
 (.lv [] (.seq (.reg none [⟨some 4, .mov (.k (.int .i64 0)), none⟩])
 (.ret)))))))))))))))
def i103 : IFn := ⟨2, 20, c103, [.t 4], .pure⟩
def c104 : IR :=
 .seq (.reg none [⟨some 2, .box 31 5 (.t 0), none⟩,
  ⟨some 4, .mov (.k (.int .i32 0)), none⟩])
 (.lv [1, 2] (.seq (.seq (.reg none [⟨some 5, .mov (.t 1), none⟩,
  ⟨some 6, .bin .lt (.t 5) (.k (.int .i64 0)), none⟩,
  ⟨some 7, .mov (.t 6), none⟩,
  ⟨some 8, .mov (.t 1), (some (7, false))⟩,
  ⟨some 9, .faddr 2 (.t 2), (some (7, false))⟩,
  ⟨some 10, .ld false 1 (.t 9), (some (7, false))⟩,
  ⟨some 11, .lenf (.t 10), (some (7, false))⟩,
  ⟨some 12, .bin .ge (.t 8) (.t 11), (some (7, false))⟩,
  ⟨some 13, .pick (.t 7) (.k (.bool true)) (.t 12), none⟩])
 (.lv [1, 2, 13] (.cond (.t 13) (.lv [] (.seq (.reg none [⟨some 4, .mov (.k (.int .i32 0)), none⟩])
 (.ret)))
 (.skip))))
 (.lv [1, 2] (.seq (.reg none [⟨some 14, .faddr 2 (.t 2), none⟩,
  ⟨some 15, .ld false 1 (.t 14), none⟩,
  ⟨some 16, .mov (.t 1), none⟩,
  ⟨some 17, .iaddrf 1 (.t 15) (.t 16), none⟩,
  ⟨some 18, .ldf false 1 (.t 17), none⟩,
  ⟨some 4, .mov (.t 18), none⟩])
 (.ret)))))
def i104 : IFn := ⟨2, 19, c104, [.t 4], .pure⟩
def c105 : IR :=
 .seq (.reg none [⟨some 2, .mov (.k (.bool false)), none⟩])
 (.lv [0] (.seq (.reg none [⟨some 3, .mov (.t 0), none⟩,
  ⟨some 4, .mov (.t 0), none⟩,
  ⟨some 5, .bin .ne (.t 3) (.t 4), none⟩,
  ⟨some 2, .mov (.t 5), none⟩])
 (.ret)))
def i105 : IFn := ⟨1, 6, c105, [.t 2], .pure⟩
def c107 : IR :=
 .seq (.reg none [⟨some 1, .box 57 3 (.t 0), none⟩,
  ⟨some 2, .mov (.k (.bool false)), none⟩])
 (.lv [1] (.seq (.reg none [⟨some 3, .ld true 3 (.t 1), none⟩,
  ⟨some 4, .callP 111 [.t 3], none⟩,
  ⟨some 5, .callP 143 [.t 4], none⟩,
  ⟨some 2, .mov (.t 5), none⟩])
 (.ret)))
def i107 : IFn := ⟨1, 6, c107, [.t 2], .pure⟩
def c108 : IR :=
 .seq (.reg none [⟨some 1, .box 55 2 (.t 0), none⟩,
  ⟨some 2, .mov (.k (.int .i64 0)), none⟩,
  ⟨some 3, .mov (.k (.bool false)), none⟩])
 (.lv [1] (.seq (.reg none [⟨some 7, .faddr 0 (.t 1), none⟩,
  ⟨some 8, .ld true 1 (.t 7), none⟩,
  ⟨some 9, .callP 144 [.t 8], none⟩,
  ⟨some 6, .mov (.t 9), none⟩,
  ⟨some 10, .ext (.t 6) 0, none⟩,
  ⟨some 11, .ext (.t 6) 1, none⟩,
  ⟨some 4, .mov (.t 10), none⟩,
  ⟨some 5, .mov (.t 11), none⟩])
 (.lv [1, 4, 5] (.seq (.block 0 (.seq (.reg none [⟨some 13, .mov (.t 5), none⟩,
  ⟨some 14, .not (.t 13), none⟩,
  ⟨some 15, .mov (.t 14), none⟩,
  ⟨some 16, .mov (.t 4), (some (15, false))⟩,
  ⟨some 17, .bin .gt (.t 16) (.k (.int .u64 9223372036854775808)), (some (15, false))⟩,
  ⟨some 18, .pick (.t 15) (.k (.bool true)) (.t 17), none⟩,
  ⟨some 19, .mov (.t 18), none⟩,
  ⟨some 20, .mov (.t 4), (some (19, false))⟩,
  ⟨some 21, .bin .eq (.t 20) (.k (.int .u64 9223372036854775808)), (some (19, false))⟩,
  ⟨some 22, .mov (.t 21), (some (19, false))⟩,
  ⟨some 23, .faddr 1 (.t 1), (some (22, true))⟩,
  ⟨some 24, .ld false 1 (.t 23), (some (22, true))⟩,
  ⟨some 25, .not (.t 24), (some (22, true))⟩,
  ⟨some 26, .pick (.t 22) (.t 25) (.k (.bool false)), (some (19, false))⟩,
  ⟨some 27, .pick (.t 19) (.k (.bool true)) (.t 26), none⟩,
  ⟨some 12, .mov (.t 27), none⟩])
 (.lv [1, 4, 12] (.cond (.t 12) (.lv [] (.seq (.reg none [⟨some 2, .mov (.k (.int .i64 0)), none⟩,
  ⟨some 3, .mov (.k (.bool false)), none⟩])
 (.ret)))
 (.lv [1, 4] (.seq (.reg none [⟨some 29, .faddr 1 (.t 1), none⟩,
  ⟨some 30, .ld false 1 (.t 29), none⟩,
  ⟨some 28, .mov (.t 30), none⟩])
 (.lv [4, 28] (.cond (.t 28) (.lv [4] (.seq (.reg none [⟨some 31, .mov (.t 4), none⟩,
  ⟨some 32, .bin .sub (.t 31) (.k (.int .u64 1)), none⟩,
  ⟨some 33, .conv .i64 (.t 32), none⟩,
  ⟨some 34, .neg (.t 33), none⟩,
  ⟨some 35, .bin .sub (.t 34) (.k (.int .i64 1)), none⟩,
  ⟨some 2, .mov (.t 35), none⟩,
  ⟨some 3, .mov (.k (.bool true)), none⟩])
 (.ret)))
 (.skip)))))))))
 (.lv [4] (.seq (.reg none [⟨some 36, .mov (.t 4), none⟩,
  ⟨some 37, .conv .i64 (.t 36), none⟩,
  ⟨some 2, .mov (.t 37), none⟩,
  ⟨some 3, .mov (.k (.bool true)), none⟩])
 (.ret)))))))
def i108 : IFn := ⟨1, 38, c108, [.t 2, .t 3], .pure⟩
def c109 : IR :=
 .seq (.reg none [⟨some 3, .box 53 1 (.t 1), none⟩,
  ⟨some 4, .alloc 55 [.nilsl 162 1, .bool false], none⟩])
 (.lv [0, 3, 4] (.seq (.reg (some [0, 1, 2, 3, 4, 5, 6, 7, 8]) [⟨some 5, .ld true 1 (.t 3), none⟩,
  ⟨some 6, .mov (.t 0), none⟩,
  ⟨some 7, .mov (.t 6), none⟩,
  ⟨some 8, .ld true 1 (.t 3), (some (7, true))⟩,
  ⟨some 9, .callP 145 [.t 8], (some (7, true))⟩,
  ⟨some 10, .not (.t 9), (some (7, true))⟩,
  ⟨some 11, .pick (.t 7) (.t 10) (.k (.bool false)), none⟩,
  ⟨some 12, .build [.nilsl 162 1, .bool false] [(0, 1, .t 5), (1, 1, .t 11)], none⟩,
  ⟨none, .st 2 (.t 4) (.t 12), none⟩])
 (.ret)))
def i109 : IFn := ⟨2, 13, c109, [.c 4 true 2], .pure⟩
def b110_1 : IR :=
 .seq (.reg none [⟨some 32, .bin .lt (.t 31) (.t 30), none⟩])
 (.lv [3, 4, 5, 6, 7, 8, 21, 22, 23, 29, 30, 31, 32] (.seq (.cond (.t 32) (.skip)
 (.exit 2))
 (.lv [3, 4, 5, 6, 7, 8, 21, 22, 23, 29, 30, 31] (.seq (.block 3 (.seq (.reg none [⟨some 33, .mov (.t 31), none⟩,
  ⟨some 34, .iaddrf 1 (.t 29) (.t 31), none⟩,
  ⟨some 35, .ldf false 1 (.t 34), none⟩,
  ⟨some 9, .mov (.t 33), none⟩,
  ⟨some 10, .mov (.t 35), none⟩])
 (.lv [3, 4, 5, 6, 7, 8, 9, 10, 21, 22, 23, 29, 30, 31] (.seq (.reg none [⟨some 36, .mov (.t 7), none⟩,
  ⟨some 37, .conv .u64 (.t 36), none⟩,
  ⟨some 38, .mov (.t 10), none⟩,
  ⟨some 39, .conv .u64 (.t 38), none⟩,
  ⟨some 40, .bin .mul (.t 37) (.t 39), none⟩,
  ⟨some 41, .mov (.t 5), none⟩,
  ⟨some 42, .mov (.t 6), none⟩,
  ⟨some 43, .mov (.t 9), none⟩,
  ⟨some 44, .bin .add (.t 42) (.t 43), none⟩,
  ⟨some 45, .iaddr 1 (.t 41) (.t 44), none⟩,
  ⟨some 46, .ld false 1 (.t 45), none⟩,
  ⟨some 47, .conv .u64 (.t 46), none⟩,
  ⟨some 48, .bin .add (.t 40) (.t 47), none⟩,
  ⟨some 49, .mov (.t 8), none⟩,
  ⟨some 50, .bin .add (.t 48) (.t 49), none⟩,
  ⟨some 11, .mov (.t 50), none⟩])
 (.lv [3, 4, 5, 6, 7, 9, 11, 21, 22, 23, 29, 30, 31] (.reg none [⟨some 51, .mov (.t 5), none⟩,
  ⟨some 52, .mov (.t 6), none⟩,
  ⟨some 53, .mov (.t 9), none⟩,
  ⟨some 54, .bin .add (.t 52) (.t 53), none⟩,
  ⟨some 55, .mov (.t 11), none⟩,
  ⟨some 56, .conv .u32 (.t 55), none⟩,
  ⟨some 57, .mov (.t 11), none⟩,
  ⟨some 58, .bin .shr (.t 57) (.k (.int .u64 32)), none⟩,
  ⟨some 59, .iaddr 1 (.t 51) (.t 54), none⟩,
  ⟨none, .st 1 (.t 59) (.t 56), none⟩,
  ⟨some 8, .mov (.t 58), none⟩]))))))
 (.lv [3, 4, 5, 6, 7, 8, 21, 22, 23, 29, 30, 31] (.reg none [⟨some 60, .bin .add (.t 31) (.k (.int .i64 1)), none⟩,
  ⟨some 31, .mov (.t 60), none⟩]))))))
def k110_0 : IR :=
 .reg none [⟨some 61, .mov (.t 5), none⟩,
  ⟨some 62, .mov (.t 6), none⟩,
  ⟨some 63, .faddr 0 (.t 3), none⟩,
  ⟨some 64, .ld false 1 (.t 63), none⟩,
  ⟨some 65, .lenf (.t 64), none⟩,
  ⟨some 66, .bin .add (.t 62) (.t 65), none⟩,
  ⟨some 67, .mov (.t 8), none⟩,
  ⟨some 68, .conv .u32 (.t 67), none⟩,
  ⟨some 69, .iaddr 1 (.t 61) (.t 66), none⟩,
  ⟨none, .st 1 (.t 69) (.t 68), none⟩]
def k110_1 : IR :=
 .reg none [⟨some 70, .bin .add (.t 23) (.k (.int .i64 1)), none⟩,
  ⟨some 23, .mov (.t 70), none⟩]
def b110_0 : IR :=
 .seq (.reg none [⟨some 24, .bin .lt (.t 23) (.t 22), none⟩])
 (.lv [3, 4, 5, 21, 22, 23, 24] (.seq (.cond (.t 24) (.skip)
 (.exit 0))
 (.lv [3, 4, 5, 21, 22, 23] (.seq (.block 1 (.seq (.reg none [⟨some 25, .mov (.t 23), none⟩,
  ⟨some 26, .iaddrf 1 (.t 21) (.t 23), none⟩,
  ⟨some 27, .ldf false 1 (.t 26), none⟩,
  ⟨some 6, .mov (.t 25), none⟩,
  ⟨some 7, .mov (.t 27), none⟩])
 (.lv [3, 4, 5, 6, 7, 21, 22, 23] (.seq (.reg none [⟨some 8, .mov (.k (.int .u64 0)), none⟩])
 (.lv [3, 4, 5, 6, 7, 8, 21, 22, 23] (.seq (.seq (.reg none [⟨some 28, .faddr 0 (.t 3), none⟩,
  ⟨some 29, .ld false 1 (.t 28), none⟩,
  ⟨some 30, .lenf (.t 29), none⟩,
  ⟨some 31, .mov (.k (.int .i64 0)), none⟩])
 (.lv [3, 4, 5, 6, 7, 8, 21, 22, 23, 29, 30, 31] (.block 2 (.loop [3, 4, 5, 6, 7, 8, 21, 22, 23, 29, 30, 31] (some (5, [])) b110_1))))
 k110_0))))))
 k110_1))))
def k110_2 : IR :=
 .seq (.reg none [⟨some 71, .mov (.t 5), none⟩,
  ⟨some 72, .callF 137 [.t 71], none⟩,
  ⟨none, .st 1 (.t 4) (.t 72), none⟩])
 (.ret)
def c110 : IR :=
 .seq (.reg none [⟨some 2, .box 53 1 (.t 0), none⟩,
  ⟨some 3, .box 53 1 (.t 1), none⟩,
  ⟨some 4, .alloc 53 [.nilsl 162 1], none⟩])
 (.lv [2, 3, 4] (.seq (.reg none [⟨some 12, .faddr 0 (.t 2), none⟩,
  ⟨some 13, .ld false 1 (.t 12), none⟩,
  ⟨some 14, .lenf (.t 13), none⟩,
  ⟨some 15, .faddr 0 (.t 3), none⟩,
  ⟨some 16, .ld false 1 (.t 15), none⟩,
  ⟨some 17, .lenf (.t 16), none⟩,
  ⟨some 18, .bin .add (.t 14) (.t 17), none⟩,
  ⟨some 19, .mk 162 4 [.int .u32 0] (.t 18), none⟩,
  ⟨some 5, .mov (.t 19), none⟩])
 (.lv [2, 3, 4, 5] (.seq (.seq (.reg none [⟨some 20, .faddr 0 (.t 2), none⟩,
  ⟨some 21, .ld false 1 (.t 20), none⟩,
  ⟨some 22, .lenf (.t 21), none⟩,
  ⟨some 23, .mov (.k (.int .i64 0)), none⟩])
 (.lv [3, 4, 5, 21, 22, 23] (.block 0 (.loop [3, 4, 5, 21, 22, 23] (some (5, [])) b110_0))))
 k110_2))))
def i110 : IFn := ⟨2, 73, c110, [.c 4 true 1], .pure⟩
def c111 : IR :=
 .seq (.reg none [⟨some 1, .box 57 3 (.t 0), none⟩,
  ⟨some 2, .alloc 53 [.nilsl 162 1], none⟩])
 (.lv [1, 2] (.seq (.seq (.reg none [⟨some 3, .faddr 2 (.t 1), none⟩,
  ⟨some 4, .ld true 1 (.t 3), none⟩,
  ⟨some 5, .callP 145 [.t 4], none⟩])
 (.lv [1, 2, 5] (.cond (.t 5) (.lv [2] (.seq (.reg none [⟨some 6, .callP 99 [.k (.int .u64 1)], none⟩,
  ⟨none, .st 1 (.t 2) (.t 6), none⟩])
 (.ret)))
 (.skip))))
 (.lv [1, 2] (.seq (.reg none [⟨some 7, .faddr 2 (.t 1), none⟩,
  ⟨some 8, .ld true 1 (.t 7), none⟩,
  ⟨none, .st 1 (.t 2) (.t 8), none⟩])
 (.ret)))))
def i111 : IFn := ⟨1, 9, c111, [.c 2 true 1], .pure⟩
def b112_0 : IR :=
 .seq (.seq (.reg none [⟨some 24, .mov (.t 5), none⟩,
  ⟨some 25, .bin .ge (.t 24) (.k (.int .i64 0)), none⟩])
 (.lv [2, 3, 5, 25] (.cond (.t 25) (.skip)
 (.exit 0))))
 (.lv [2, 3, 5] (.seq (.block 1 (.seq (.reg (some [0, 1, 2, 3, 4, 5, 6, 7, 8, 9, 10]) [⟨some 28, .faddr 0 (.t 2), none⟩,
  ⟨some 29, .ld false 1 (.t 28), none⟩,
  ⟨some 30, .mov (.t 5), none⟩,
  ⟨some 31, .iaddrf 1 (.t 29) (.t 30), none⟩,
  ⟨some 32, .ldf false 1 (.t 31), none⟩,
  ⟨some 33, .faddr 0 (.t 3), none⟩,
  ⟨some 34, .ld false 1 (.t 33), none⟩,
  ⟨some 35, .mov (.t 5), none⟩,
  ⟨some 36, .iaddrf 1 (.t 34) (.t 35), none⟩,
  ⟨some 37, .ldf false 1 (.t 36), none⟩,
  ⟨some 38, .bin .ne (.t 32) (.t 37), none⟩])
 (.lv [2, 3, 5, 38] (.cond (.t 38) (.lv [2, 3, 5] (.seq (.seq (.reg (some [0, 1, 2, 3, 4, 5, 6, 7, 8, 9, 10]) [⟨some 39, .faddr 0 (.t 2), none⟩,
  ⟨some 40, .ld false 1 (.t 39), none⟩,
  ⟨some 41, .mov (.t 5), none⟩,
  ⟨some 42, .iaddrf 1 (.t 40) (.t 41), none⟩,
  ⟨some 43, .ldf false 1 (.t 42), none⟩,
  ⟨some 44, .faddr 0 (.t 3), none⟩,
  ⟨some 45, .ld false 1 (.t 44), none⟩,
  ⟨some 46, .mov (.t 5), none⟩,
  ⟨some 47, .iaddrf 1 (.t 45) (.t 46), none⟩,
  ⟨some 48, .ldf false 1 (.t 47), none⟩,
  ⟨some 49, .bin .lt (.t 43) (.t 48), none⟩])
 (.lv [49] (.cond (.t 49) (.lv [] (.seq (.reg none [⟨some 4, .mov (.k (.int .i64 (-1))), none⟩])
 (.ret)))
 (.skip))))
 (.lv [] (.seq (.reg none [⟨some 4, .mov (.k (.int .i64 1)), none⟩])
 (.ret)))))
 (.skip)))))
 (.lv [2, 3, 5] (.reg none [⟨some 26, .mov (.t 5), none⟩,
  ⟨some 27, .bin .sub (.t 26) (.k (.int .i64 1)), none⟩,
  ⟨some 5, .mov (.t 27), none⟩]))))
def k112_0 : IR :=
 .seq (.reg none [⟨some 4, .mov (.k (.int .i64 0)), none⟩])
 (.ret)
def c112 : IR :=
 .seq (.reg none [⟨some 2, .box 53 1 (.t 0), none⟩,
  ⟨some 3, .box 53 1 (.t 1), none⟩,
  ⟨some 4, .mov (.k (.int .i64 0)), none⟩])
 (.lv [2, 3] (.seq (.seq (.reg none [⟨some 6, .faddr 0 (.t 2), none⟩,
  ⟨some 7, .ld false 1 (.t 6), none⟩,
  ⟨some 8, .lenf (.t 7), none⟩,
  ⟨some 9, .faddr 0 (.t 3), none⟩,
  ⟨some 10, .ld false 1 (.t 9), none⟩,
  ⟨some 11, .lenf (.t 10), none⟩,
  ⟨some 12, .bin .ne (.t 8) (.t 11), none⟩])
 (.lv [2, 3, 12] (.cond (.t 12) (.lv [2, 3] (.seq (.seq (.reg none [⟨some 13, .faddr 0 (.t 2), none⟩,
  ⟨some 14, .ld false 1 (.t 13), none⟩,
  ⟨some 15, .lenf (.t 14), none⟩,
  ⟨some 16, .faddr 0 (.t 3), none⟩,
  ⟨some 17, .ld false 1 (.t 16), none⟩,
  ⟨some 18, .lenf (.t 17), none⟩,
  ⟨some 19, .bin .lt (.t 15) (.t 18), none⟩])
 (.lv [19] (.cond (.t 19) (.lv [] (.seq (.reg none [⟨some 4, .mov (.k (.int .i64 (-1))), none⟩])
 (.ret)))
 (.skip))))
 (.lv [] (.seq (.reg none [⟨some 4, .mov (.k (.int .i64 1)), none⟩])
 (.ret)))))
 (.skip))))
 (.lv [2, 3] (.seq (.seq (.reg none [⟨some 20, .faddr 0 (.t 2), none⟩,
  ⟨some 21, .ld false 1 (.t 20), none⟩,
  ⟨some 22, .lenf (.t 21), none⟩,
  ⟨some 23, .bin .sub (.t 22) (.k (.int .i64 1)), none⟩,
  ⟨some 5, .mov (.t 23), none⟩])
 (.lv [2, 3, 5] (.block 0 (.loop [2, 3, 5] (some (2, [])) b112_0))))
 k112_0))))
def i112 : IFn := ⟨2, 50, c112, [.t 4], .pure⟩
def b113_0 : IR :=
 .seq (.seq (.reg none [⟨some 15, .mov (.t 9), none⟩,
  ⟨some 16, .mov (.t 10), none⟩,
  ⟨some 17, .bin .lt (.t 15) (.t 16), none⟩])
 (.lv [0, 1, 2, 8, 9, 10, 17] (.cond (.t 17) (.skip)
 (.exit 0))))
 (.lv [0, 1, 2, 8, 9, 10] (.block 1 (.seq (.reg none [⟨some 18, .mov (.t 9), none⟩,
  ⟨some 19, .mov (.t 10), none⟩,
  ⟨some 20, .bin .add (.t 18) (.t 19), none⟩,
  ⟨some 21, .conv .u64 (.t 20), none⟩,
  ⟨some 22, .bin .shr (.t 21) (.k (.int .u64 1)), none⟩,
  ⟨some 23, .conv .i64 (.t 22), none⟩,
  ⟨some 11, .mov (.t 23), none⟩])
 (.lv [0, 1, 2, 8, 9, 10, 11] (.seq (.reg none [⟨some 24, .mov (.t 2), none⟩,
  ⟨some 25, .mov (.t 0), none⟩,
  ⟨some 26, .mov (.t 11), none⟩,
  ⟨some 27, .iaddrf 1 (.t 25) (.t 26), none⟩,
  ⟨some 28, .ldf false 1 (.t 27), none⟩,
  ⟨some 29, .mov (.t 1), none⟩,
  ⟨some 30, .callV (.t 24) [.t 28, .t 29], none⟩,
  ⟨some 31, .bin .lt (.t 30) (.k (.int .i64 0)), none⟩])
 (.lv [0, 1, 2, 8, 9, 10, 11, 31] (.cond (.t 31) (.lv [0, 1, 2, 8, 10, 11] (.reg none [⟨some 32, .mov (.t 11), none⟩,
  ⟨some 33, .bin .add (.t 32) (.k (.int .i64 1)), none⟩,
  ⟨some 9, .mov (.t 33), none⟩]))
 (.lv [0, 1, 2, 8, 9, 11] (.reg none [⟨some 34, .mov (.t 11), none⟩,
  ⟨some 10, .mov (.t 34), none⟩])))))))))
def k113_0 : IR :=
 .seq (.reg none [⟨some 35, .mov (.t 9), none⟩,
  ⟨some 36, .mov (.t 9), none⟩,
  ⟨some 37, .mov (.t 8), none⟩,
  ⟨some 38, .bin .lt (.t 36) (.t 37), none⟩,
  ⟨some 39, .mov (.t 38), none⟩,
  ⟨some 40, .mov (.t 2), (some (39, true))⟩,
  ⟨some 41, .mov (.t 0), (some (39, true))⟩,
  ⟨some 42, .mov (.t 9), (some (39, true))⟩,
  ⟨some 43, .iaddrf 1 (.t 41) (.t 42), (some (39, true))⟩,
  ⟨some 44, .ldf false 1 (.t 43), (some (39, true))⟩,
  ⟨some 45, .mov (.t 1), (some (39, true))⟩,
  ⟨some 46, .callV (.t 40) [.t 44, .t 45], (some (39, true))⟩,
  ⟨some 47, .bin .eq (.t 46) (.k (.int .i64 0)), (some (39, true))⟩,
  ⟨some 48, .pick (.t 39) (.t 47) (.k (.bool false)), none⟩,
  ⟨some 6, .mov (.t 35), none⟩,
  ⟨some 7, .mov (.t 48), none⟩])
 (.ret)
def c113 : IR :=
 .seq (.reg none [⟨some 6, .mov (.k (.int .i64 0)), none⟩,
  ⟨some 7, .mov (.k (.bool false)), none⟩])
 (.lv [0, 1, 2] (.seq (.reg none [⟨some 12, .mov (.t 0), none⟩,
  ⟨some 13, .lenf (.t 12), none⟩,
  ⟨some 8, .mov (.t 13), none⟩])
 (.lv [0, 1, 2, 8] (.seq (.reg none [⟨some 14, .mov (.t 8), none⟩,
  ⟨some 9, .mov (.k (.int .i64 0)), none⟩,
  ⟨some 10, .mov (.t 14), none⟩])
 (.lv [0, 1, 2, 8, 9, 10] (.seq (.block 0 (.loop [0, 1, 2, 8, 9, 10] (some (0, [])) b113_0))
 k113_0))))))
def i113 : IFn := ⟨3, 49, c113, [.t 6, .t 7], .pure⟩
def c114 : IR :=
 .seq (.reg none [⟨some 6, .mov (.k (.int .i64 0)), none⟩])
 (.lv [0, 1, 2, 3] (.seq (.reg none [⟨some 7, .ldf true 5 (.t 2), none⟩,
  ⟨some 8, .mov (.t 0), none⟩,
  ⟨some 9, .ldf true 5 (.t 3), none⟩,
  ⟨some 10, .mov (.t 1), none⟩,
  ⟨some 11, .callP 61 [.t 7, .t 8, .t 9, .t 10], none⟩,
  ⟨some 6, .mov (.t 11), none⟩])
 (.ret)))
def i114 : IFn := ⟨4, 12, c114, [.t 6], .own⟩
def b115_0 : IR :=
 .seq (.reg none [⟨some 35, .bin .lt (.t 34) (.t 33), none⟩])
 (.lv [3, 6, 10, 32, 33, 34, 35] (.seq (.cond (.t 35) (.skip)
 (.exit 0))
 (.lv [3, 6, 10, 32, 33, 34] (.seq (.block 1 (.seq (.reg none [⟨some 36, .iaddrf 1 (.t 32) (.t 34), none⟩,
  ⟨some 37, .ldf false 1 (.t 36), none⟩,
  ⟨some 12, .mov (.t 37), none⟩])
 (.lv [3, 6, 10, 12, 32, 33, 34] (.block 2 (.seq (.reg none [⟨some 49, .faddr 1 (.t 3), none⟩,
  ⟨some 50, .ld false 1 (.t 49), none⟩,
  ⟨some 51, .not (.t 50), none⟩,
  ⟨some 48, .mov (.t 51), none⟩])
 (.lv [3, 6, 10, 12, 32, 33, 34, 48] (.cond (.t 48) (.lv [3, 6, 10, 12, 32, 33, 34] (.reg (some [0, 1, 2, 3, 4, 5, 6, 7, 8]) [⟨some 52, .faddr 3 (.t 10), none⟩,
  ⟨some 53, .ld false 1 (.t 52), none⟩,
  ⟨some 54, .ld true 5 (.t 3), none⟩,
  ⟨some 55, .mov (.t 12), none⟩,
  ⟨some 56, .callP 24 [.t 54, .t 55], none⟩,
  ⟨some 57, .bsl 57 3 [.t 56], none⟩,
  ⟨some 58, .app 57 3 56 (.t 53) (.t 57), none⟩,
  ⟨some 59, .faddr 3 (.t 10), none⟩,
  ⟨none, .st 1 (.t 59) (.t 58), none⟩]))
 (.lv [3, 6, 10, 12, 32, 33, 34] (.seq (.reg none [⟨some 61, .mov (.t 12), none⟩,
  ⟨some 62, .bin .lt (.t 61) (.k (.int .i64 0)), none⟩,
  ⟨some 63, .mov (.t 62), none⟩,
  ⟨some 64, .mov (.t 12), (some (63, false))⟩,
  ⟨some 65, .faddr 2 (.t 3), (some (63, false))⟩,
  ⟨some 66, .ld false 1 (.t 65), (some (63, false))⟩,
  ⟨some 67, .lenf (.t 66), (some (63, false))⟩,
  ⟨some 68, .bin .ge (.t 64) (.t 67), (some (63, false))⟩,
  ⟨some 69, .pick (.t 63) (.k (.bool true)) (.t 68), none⟩,
  ⟨some 60, .mov (.t 69), none⟩])
 (.lv [3, 6, 10, 12, 32, 33, 34, 60] (.cond (.t 60) (.lv [3, 6, 10, 32, 33, 34] (.reg none [⟨some 70, .faddr 2 (.t 10), none⟩,
  ⟨some 71, .ld false 1 (.t 70), none⟩,
  ⟨some 72, .bsl 21 1 [.k (.int .i32 32)], none⟩,
  ⟨some 73, .app 21 1 4 (.t 71) (.t 72), none⟩,
  ⟨some 74, .faddr 2 (.t 10), none⟩,
  ⟨none, .st 1 (.t 74) (.t 73), none⟩]))
 (.lv [3, 6, 10, 12, 32, 33, 34] (.reg (some [0, 1, 2, 3, 4, 5, 6, 7, 8, 9, 10]) [⟨some 38, .faddr 2 (.t 10), none⟩,
  ⟨some 39, .ld false 1 (.t 38), none⟩,
  ⟨some 40, .faddr 2 (.t 3), none⟩,
  ⟨some 41, .ld false 1 (.t 40), none⟩,
  ⟨some 42, .mov (.t 12), none⟩,
  ⟨some 43, .iaddrf 1 (.t 41) (.t 42), none⟩,
  ⟨some 44, .ldf false 1 (.t 43), none⟩,
  ⟨some 45, .bsl 21 1 [.t 44], none⟩,
  ⟨some 46, .app 21 1 4 (.t 39) (.t 45), none⟩,
  ⟨some 47, .faddr 2 (.t 10), none⟩,
  ⟨none, .st 1 (.t 47) (.t 46), none⟩])))))))))))))
 (.lv [3, 6, 10, 32, 33, 34] (.reg none [⟨some 75, .bin .add (.t 34) (.k (.int .i64 1)), none⟩,
  ⟨some 34, .mov (.t 75), none⟩]))))))
def k115_0 : IR :=
 .seq (.reg none [⟨some 76, .ld true 5 (.t 10), none⟩,
  ⟨none, .st 5 (.t 6) (.t 76), none⟩,
  ⟨some 7, .mov (.k (.bool true)), none⟩])
 (.ret)
def c115 : IR :=
 .seq (.reg none [⟨some 3, .box 31 5 (.t 0), none⟩,
  ⟨some 6, .alloc 31 [.nilsl 3 1, .bool false, .nilsl 21 1, .nilsl 57 3, .bool false], none⟩,
  ⟨some 7, .mov (.k (.bool false)), none⟩])
 (.lv [1, 2, 3, 6] (.seq (.reg none [⟨some 14, .mov (.t 1), none⟩,
  ⟨some 15, .callP 78 [.t 14], none⟩,
  ⟨some 13, .mov (.t 15), none⟩,
  ⟨some 16, .ext (.t 13) 0, none⟩,
  ⟨some 17, .ext (.t 13) 1, none⟩,
  ⟨some 8, .mov (.t 16), none⟩,
  ⟨some 9, .mov (.t 17), none⟩])
 (.lv [1, 2, 3, 6, 8, 9] (.seq (.seq (.reg none [⟨some 18, .mov (.t 9), none⟩,
  ⟨some 19, .not (.t 18), none⟩,
  ⟨some 20, .mov (.t 19), none⟩,
  ⟨some 21, .mov (.t 8), (some (20, false))⟩,
  ⟨some 22, .mov (.t 2), (some (20, false))⟩,
  ⟨some 23, .lenf (.t 22), (some (20, false))⟩,
  ⟨some 24, .bin .ne (.t 21) (.t 23), (some (20, false))⟩,
  ⟨some 25, .pick (.t 20) (.k (.bool true)) (.t 24), none⟩])
 (.lv [1, 2, 3, 6, 25] (.cond (.t 25) (.lv [6] (.seq (.reg none [⟨some 26, .build [.nilsl 3 1, .bool false, .nilsl 21 1, .nilsl 57 3, .bool false] [], none⟩,
  ⟨none, .st 5 (.t 6) (.t 26), none⟩,
  ⟨some 7, .mov (.k (.bool false)), none⟩])
 (.ret)))
 (.skip))))
 (.lv [1, 2, 3, 6] (.seq (.reg (some [0, 2, 3, 1, 4, 5, 6]) [⟨some 27, .mov (.t 1), none⟩,
  ⟨some 29, .faddr 1 (.t 3), none⟩,
  ⟨some 30, .ld false 1 (.t 29), none⟩,
  ⟨some 28, .callZ 89 [.t 27], none⟩,
  ⟨some 31, .build [.nilsl 3 1, .bool false, .nilsl 21 1, .nilsl 57 3, .bool false] [(0, 1, .t 28), (1, 1, .t 30), (4, 1, .k (.bool true))], none⟩,
  ⟨some 10, .alloc 31 [.nilsl 3 1, .bool false, .nilsl 21 1, .nilsl 57 3, .bool false], none⟩,
  ⟨none, .st 5 (.t 10) (.t 31), none⟩])
 (.lv [2, 3, 6, 10] (.seq (.seq (.reg none [⟨some 32, .mov (.t 2), none⟩,
  ⟨some 33, .lenf (.t 32), none⟩,
  ⟨some 34, .mov (.k (.int .i64 0)), none⟩])
 (.lv [3, 6, 10, 32, 33, 34] (.block 0 (.loop [3, 6, 10, 32, 33, 34] (some (11, [])) b115_0))))
 k115_0))))))))
def i115 : IFn := ⟨3, 77, c115, [.c 6 true 5, .t 7], .pure⟩
def c116 : IR :=
 .seq (.reg none [⟨some 4, .box 26 4 (.t 0), none⟩,
  ⟨some 6, .box 26 4 (.t 2), none⟩,
  ⟨some 8, .mov (.k (.bool false)), none⟩])
 (.lv [1, 3, 4, 6] (.seq (.seq (.reg none [⟨some 9, .faddr 1 (.t 4), none⟩,
  ⟨some 10, .ld false 1 (.t 9), none⟩,
  ⟨some 11, .faddr 1 (.t 6), none⟩,
  ⟨some 12, .ld false 1 (.t 11), none⟩,
  ⟨some 13, .binb .ne (.t 10) (.t 12), none⟩])
 (.lv [1, 3, 4, 6, 13] (.cond (.t 13) (.lv [] (.seq (.reg none [⟨some 8, .mov (.k (.bool false)), none⟩])
 (.ret)))
 (.skip))))
 (.lv [1, 3, 4, 6] (.seq (.seq (.reg none [⟨some 14, .faddr 1 (.t 4), none⟩,
  ⟨some 15, .ld false 1 (.t 14), none⟩])
 (.lv [1, 3, 4, 6, 15] (.cond (.t 15) (.lv [1, 3, 4, 6] (.seq (.reg (some [0, 1, 2, 3, 4, 5, 6, 7, 8, 9, 10, 11]) [⟨some 16, .faddr 2 (.t 4), none⟩,
  ⟨some 17, .ld false 1 (.t 16), none⟩,
  ⟨some 18, .mov (.t 1), none⟩,
  ⟨some 19, .iaddrf 1 (.t 17) (.t 18), none⟩,
  ⟨some 20, .ldf false 1 (.t 19), none⟩,
  ⟨some 21, .faddr 2 (.t 6), none⟩,
  ⟨some 22, .ld false 1 (.t 21), none⟩,
  ⟨some 23, .mov (.t 3), none⟩,
  ⟨some 24, .iaddrf 1 (.t 22) (.t 23), none⟩,
  ⟨some 25, .ldf false 1 (.t 24), none⟩,
  ⟨some 26, .bin .eq (.t 20) (.t 25), none⟩,
  ⟨some 8, .mov (.t 26), none⟩])
 (.ret)))
 (.skip))))
 (.lv [1, 3, 4, 6] (.seq (.reg (some [0, 1, 2, 3, 4, 5, 6, 7, 8, 9, 10, 11]) [⟨some 27, .faddr 3 (.t 4), none⟩,
  ⟨some 28, .ld false 1 (.t 27), none⟩,
  ⟨some 29, .mov (.t 1), none⟩,
  ⟨some 30, .iaddrf 3 (.t 28) (.t 29), none⟩,
  ⟨some 31, .ldf true 3 (.t 30), none⟩,
  ⟨some 32, .faddr 3 (.t 6), none⟩,
  ⟨some 33, .ld false 1 (.t 32), none⟩,
  ⟨some 34, .mov (.t 3), none⟩,
  ⟨some 35, .iaddrf 3 (.t 33) (.t 34), none⟩,
  ⟨some 36, .ldf true 3 (.t 35), none⟩,
  ⟨some 37, .bins .eq [0, 2, 2] (.t 31) (.t 36), none⟩,
  ⟨some 8, .mov (.t 37), none⟩])
 (.ret)))))))
def i116 : IFn := ⟨4, 38, c116, [.t 8], .pure⟩
def c117 : IR :=
 .seq (.reg none [⟨some 1, .box 55 2 (.t 0), none⟩,
  ⟨some 2, .mov (.k (.bool false)), none⟩])
 (.lv [1] (.seq (.reg none [⟨some 3, .faddr 1 (.t 1), none⟩,
  ⟨some 4, .ld false 1 (.t 3), none⟩,
  ⟨some 2, .mov (.t 4), none⟩])
 (.ret)))
def i117 : IFn := ⟨1, 5, c117, [.t 2], .pure⟩
def b118_1 : IR :=
 .seq (.seq (.reg none [⟨some 21, .mov (.t 6), none⟩,
  ⟨some 22, .bin .lt (.t 21) (.k (.int .i64 9)), none⟩,
  ⟨some 23, .mov (.t 22), none⟩,
  ⟨some 24, .mov (.t 5), (some (23, true))⟩,
  ⟨some 25, .bin .gt (.t 24) (.k (.int .u32 0)), (some (23, true))⟩,
  ⟨some 26, .mov (.t 25), (some (23, true))⟩,
  ⟨some 27, .ld true 1 (.t 4), (some (26, false))⟩,
  ⟨some 28, .callR 145 [.t 27], (some (26, false))⟩,
  ⟨some 29, .not (.t 28), (some (26, false))⟩,
  ⟨some 30, .pick (.t 26) (.k (.bool true)) (.t 29), (some (23, true))⟩,
  ⟨some 31, .pick (.t 23) (.t 30) (.k (.bool false)), none⟩])
 (.lv [1, 3, 4, 5, 6, 31] (.cond (.t 31) (.skip)
 (.exit 2))))
 (.lv [1, 3, 4, 5, 6] (.seq (.block 3 (.seq (.reg none [⟨some 34, .mov (.t 3), none⟩,
  ⟨some 35, .mov (.t 5), none⟩,
  ⟨some 36, .bin .rem (.t 35) (.k (.int .u32 10)), none⟩,
  ⟨some 37, .bin .add (.k (.int .u32 48)) (.t 36), none⟩,
  ⟨some 38, .conv .u8 (.t 37), none⟩,
  ⟨some 39, .bsl 5 1 [.t 38], none⟩,
  ⟨some 40, .app 5 1 1 (.t 34) (.t 39), none⟩,
  ⟨some 3, .mov (.t 40), none⟩])
 (.lv [1, 3, 4, 5, 6] (.reg none [⟨some 41, .mov (.t 5), none⟩,
  ⟨some 42, .bin .quo (.t 41) (.k (.int .u32 10)), none⟩,
  ⟨some 5, .mov (.t 42), none⟩]))))
 (.lv [1, 3, 4, 5, 6] (.reg none [⟨some 32, .mov (.t 6), none⟩,
  ⟨some 33, .bin .add (.t 32) (.k (.int .i64 1)), none⟩,
  ⟨some 6, .mov (.t 33), none⟩]))))
def k118_0 : IR :=
 .reg none [⟨some 43, .ld true 1 (.t 4), none⟩,
  ⟨none, .st 1 (.t 1) (.t 43), none⟩]
def b118_0 : IR :=
 .seq (.seq (.reg none [⟨some 13, .ld true 1 (.t 1), none⟩,
  ⟨some 14, .callR 145 [.t 13], none⟩,
  ⟨some 15, .not (.t 14), none⟩])
 (.lv [1, 3, 15] (.cond (.t 15) (.skip)
 (.exit 0))))
 (.lv [1, 3] (.block 1 (.seq (.reg none [⟨some 17, .ld true 1 (.t 1), none⟩,
  ⟨some 18, .callF 146 [.t 17, .k (.int .u32 1000000000)], none⟩,
  ⟨some 16, .mov (.t 18), none⟩,
  ⟨some 19, .ext (.t 16) 0, none⟩,
  ⟨some 20, .ext (.t 16) 1, none⟩,
  ⟨some 4, .alloc 53 [.nilsl 162 1], none⟩,
  ⟨none, .st 1 (.t 4) (.t 19), none⟩,
  ⟨some 5, .mov (.t 20), none⟩])
 (.lv [1, 3, 4, 5] (.seq (.seq (.reg none [⟨some 6, .mov (.k (.int .i64 0)), none⟩])
 (.lv [1, 3, 4, 5, 6] (.block 2 (.loop [1, 3, 4, 5, 6] (some (4, [])) b118_1))))
 k118_0)))))
def b118_2 : IR :=
 .seq (.seq (.reg none [⟨some 47, .mov (.t 7), none⟩,
  ⟨some 48, .mov (.t 8), none⟩,
  ⟨some 49, .bin .lt (.t 47) (.t 48), none⟩])
 (.lv [3, 7, 8, 49] (.cond (.t 49) (.skip)
 (.exit 4))))
 (.lv [3, 7, 8] (.seq (.block 5 (.reg (some [0, 1, 2, 3, 4, 5, 6, 7, 8, 9, 10, 11, 12, 13, 14, 15]) [⟨some 54, .mov (.t 3), none⟩,
  ⟨some 55, .mov (.t 7), none⟩,
  ⟨some 56, .mov (.t 3), none⟩,
  ⟨some 57, .mov (.t 8), none⟩,
  ⟨some 58, .mov (.t 3), none⟩,
  ⟨some 59, .mov (.t 8), none⟩,
  ⟨some 60, .iaddr 1 (.t 58) (.t 59), none⟩,
  ⟨some 61, .ld false 1 (.t 60), none⟩,
  ⟨some 62, .mov (.t 3), none⟩,
  ⟨some 63, .mov (.t 7), none⟩,
  ⟨some 64, .iaddr 1 (.t 62) (.t 63), none⟩,
  ⟨some 65, .ld false 1 (.t 64), none⟩,
  ⟨some 66, .iaddr 1 (.t 54) (.t 55), none⟩,
  ⟨none, .st 1 (.t 66) (.t 61), none⟩,
  ⟨some 67, .iaddr 1 (.t 56) (.t 57), none⟩,
  ⟨none, .st 1 (.t 67) (.t 65), none⟩]))
 (.lv [3, 7, 8] (.reg none [⟨some 50, .mov (.t 7), none⟩,
  ⟨some 51, .bin .add (.t 50) (.k (.int .i64 1)), none⟩,
  ⟨some 52, .mov (.t 8), none⟩,
  ⟨some 53, .bin .sub (.t 52) (.k (.int .i64 1)), none⟩,
  ⟨some 7, .mov (.t 51), none⟩,
  ⟨some 8, .mov (.t 53), none⟩]))))
def k118_1 : IR :=
 .seq (.reg none [⟨some 68, .mov (.t 3), none⟩,
  ⟨some 69, .b2s (.t 68), none⟩,
  ⟨some 2, .mov (.t 69), none⟩])
 (.ret)
def k118_2 : IR :=
 .seq (.seq (.reg none [⟨some 44, .mov (.t 3), none⟩,
  ⟨some 45, .len (.t 44), none⟩,
  ⟨some 46, .bin .sub (.t 45) (.k (.int .i64 1)), none⟩,
  ⟨some 7, .mov (.k (.int .i64 0)), none⟩,
  ⟨some 8, .mov (.t 46), none⟩])
 (.lv [3, 7, 8] (.block 4 (.loop [3, 7, 8] (some (2, [])) b118_2))))
 k118_1
def c118 : IR :=
 .seq (.reg none [⟨some 1, .box 53 1 (.t 0), none⟩,
  ⟨some 2, .mov (.k (.str ⟨#[]⟩)), none⟩])
 (.lv [1] (.seq (.seq (.reg none [⟨some 9, .faddr 0 (.t 1), none⟩,
  ⟨some 10, .ld false 1 (.t 9), none⟩,
  ⟨some 11, .len (.t 10), none⟩,
  ⟨some 12, .bin .eq (.t 11) (.k (.int .i64 0)), none⟩])
 (.lv [1, 12] (.cond (.t 12) (.lv [] (.seq (.reg none [⟨some 2, .mov (.k (.str ⟨#[48]⟩)), none⟩])
 (.ret)))
 (.skip))))
 (.lv [1] (.seq (.reg none [⟨some 3, .newnil 5 1, none⟩])
 (.lv [1, 3] (.seq (.block 0 (.loop [1, 3] (some (2, [])) b118_0))
 k118_2))))))
def i118 : IFn := ⟨1, 70, c118, [.t 2], .pure⟩
def b119_0 : IR :=
 .seq (.seq (.reg none [⟨some 7, .mov (.t 6), none⟩,
  ⟨some 8, .mov (.t 0), none⟩,
  ⟨some 9, .lenf (.t 8), none⟩,
  ⟨some 10, .bin .lt (.t 7) (.t 9), none⟩])
 (.lv [0, 4, 5, 6, 10] (.cond (.t 10) (.skip)
 (.exit 0))))
 (.lv [0, 4, 5, 6] (.seq (.block 1 (.seq (.seq (.reg none [⟨some 13, .mov (.t 6), none⟩,
  ⟨some 14, .bin .ge (.t 13) (.k (.int .i64 8)), none⟩,
  ⟨some 15, .mov (.t 14), none⟩,
  ⟨some 16, .mov (.t 0), (some (15, false))⟩,
  ⟨some 17, .mov (.t 6), (some (15, false))⟩,
  ⟨some 18, .iaddrf 1 (.t 16) (.t 17), (some (15, false))⟩,
  ⟨some 19, .ldf false 1 (.t 18), (some (15, false))⟩,
  ⟨some 20, .bin .lt (.t 19) (.k (.int .i64 0)), (some (15, false))⟩,
  ⟨some 21, .pick (.t 15) (.k (.bool true)) (.t 20), none⟩,
  ⟨some 22, .mov (.t 21), none⟩,
  ⟨some 23, .mov (.t 0), (some (22, false))⟩,
  ⟨some 24, .mov (.t 6), (some (22, false))⟩,
  ⟨some 25, .iaddrf 1 (.t 23) (.t 24), (some (22, false))⟩,
  ⟨some 26, .ldf false 1 (.t 25), (some (22, false))⟩,
  ⟨some 27, .bin .gt (.t 26) (.k (.int .i64 4096)), (some (22, false))⟩,
  ⟨some 28, .pick (.t 22) (.k (.bool true)) (.t 27), none⟩])
 (.lv [0, 4, 5, 6, 28] (.cond (.t 28) (.lv [] (.seq (.reg none [⟨some 2, .mov (.k (.int .i64 0)), none⟩,
  ⟨some 3, .mov (.k (.bool false)), none⟩])
 (.ret)))
 (.skip))))
 (.lv [0, 4, 5, 6] (.seq (.reg none [⟨some 29, .mov (.t 5), none⟩,
  ⟨some 30, .mov (.t 0), none⟩,
  ⟨some 31, .mov (.t 6), none⟩,
  ⟨some 32, .iaddrf 1 (.t 30) (.t 31), none⟩,
  ⟨some 33, .ldf false 1 (.t 32), none⟩,
  ⟨some 34, .bin .mul (.t 29) (.t 33), none⟩,
  ⟨some 5, .mov (.t 34), none⟩])
 (.lv [0, 4, 5, 6] (.seq (.seq (.reg none [⟨some 35, .mov (.t 0), none⟩,
  ⟨some 36, .mov (.t 6), none⟩,
  ⟨some 37, .iaddrf 1 (.t 35) (.t 36), none⟩,
  ⟨some 38, .ldf false 1 (.t 37), none⟩,
  ⟨some 39, .bin .gt (.t 38) (.k (.int .i64 0)), none⟩])
 (.lv [0, 4, 5, 6, 39] (.cond (.t 39) (.lv [0, 4, 5, 6] (.reg none [⟨some 40, .mov (.t 4), none⟩,
  ⟨some 41, .mov (.t 0), none⟩,
  ⟨some 42, .mov (.t 6), none⟩,
  ⟨some 43, .iaddrf 1 (.t 41) (.t 42), none⟩,
  ⟨some 44, .ldf false 1 (.t 43), none⟩,
  ⟨some 45, .bin .mul (.t 40) (.t 44), none⟩,
  ⟨some 4, .mov (.t 45), none⟩]))
 (.skip))))
 (.lv [0, 4, 5, 6] (.seq (.reg none [⟨some 46, .mov (.t 4), none⟩,
  ⟨some 47, .bin .gt (.t 46) (.k (.int .i64 4096)), none⟩])
 (.lv [0, 4, 5, 6, 47] (.cond (.t 47) (.lv [] (.seq (.reg none [⟨some 2, .mov (.k (.int .i64 0)), none⟩,
  ⟨some 3, .mov (.k (.bool false)), none⟩])
 (.ret)))
 (.skip)))))))))))
 (.lv [0, 4, 5, 6] (.reg none [⟨some 11, .mov (.t 6), none⟩,
  ⟨some 12, .bin .add (.t 11) (.k (.int .i64 1)), none⟩,
  ⟨some 6, .mov (.t 12), none⟩]))))
def k119_0 : IR :=
 .seq (.reg none [⟨some 48, .mov (.t 5), none⟩,
  ⟨some 2, .mov (.t 48), none⟩,
  ⟨some 3, .mov (.k (.bool true)), none⟩])
 (.ret)
def c119 : IR :=
 .seq (.reg none [⟨some 2, .mov (.k (.int .i64 0)), none⟩,
  ⟨some 3, .mov (.k (.bool false)), none⟩])
 (.lv [0] (.seq (.reg none [⟨some 4, .mov (.k (.int .i64 1)), none⟩,
  ⟨some 5, .mov (.k (.int .i64 1)), none⟩])
 (.lv [0, 4, 5] (.seq (.seq (.reg none [⟨some 6, .mov (.k (.int .i64 0)), none⟩])
 (.lv [0, 4, 5, 6] (.block 0 (.loop [0, 4, 5, 6] (some (0, [])) b119_0))))
 k119_0))))
def i119 : IFn := ⟨1, 49, c119, [.t 2, .t 3], .pure⟩
def c120 : IR :=
 .seq (.reg none [⟨some 1, .box 66 3 (.t 0), none⟩,
  ⟨some 2, .mov (.k (.bool false)), none⟩])
 (.lv [1] (.seq (.seq (.reg (some [0, 1, 2, 3, 4, 5, 6, 7, 8, 9, 10, 11, 12, 13, 14, 15, 16, 17, 18, 19, 20, 21, 22, 23, 24, 25, 26, 27, 28, 29, 30]) [⟨some 3, .faddr 1 (.t 1), none⟩,
  ⟨some 4, .ld false 1 (.t 3), none⟩,
  ⟨some 5, .callP 147 [.t 4], none⟩,
  ⟨some 6, .not (.t 5), none⟩,
  ⟨some 7, .mov (.t 6), none⟩,
  ⟨some 8, .faddr 2 (.t 1), (some (7, false))⟩,
  ⟨some 9, .ld false 1 (.t 8), (some (7, false))⟩,
  ⟨some 10, .callP 147 [.t 9], (some (7, false))⟩,
  ⟨some 11, .not (.t 10), (some (7, false))⟩,
  ⟨some 12, .pick (.t 7) (.k (.bool true)) (.t 11), none⟩,
  ⟨some 13, .mov (.t 12), none⟩,
  ⟨some 14, .faddr 1 (.t 1), (some (13, false))⟩,
  ⟨some 15, .ld false 1 (.t 14), (some (13, false))⟩,
  ⟨some 16, .callP 148 [.t 15], (some (13, false))⟩,
  ⟨some 17, .faddr 1 (.t 1), (some (13, false))⟩,
  ⟨some 18, .ld false 1 (.t 17), (some (13, false))⟩,
  ⟨some 19, .bin .ne (.t 16) (.t 18), (some (13, false))⟩,
  ⟨some 20, .pick (.t 13) (.k (.bool true)) (.t 19), none⟩,
  ⟨some 21, .mov (.t 20), none⟩,
  ⟨some 22, .faddr 2 (.t 1), (some (21, false))⟩,
  ⟨some 23, .ld false 1 (.t 22), (some (21, false))⟩,
  ⟨some 24, .callP 148 [.t 23], (some (21, false))⟩,
  ⟨some 25, .faddr 2 (.t 1), (some (21, false))⟩,
  ⟨some 26, .ld false 1 (.t 25), (some (21, false))⟩,
  ⟨some 27, .bin .ne (.t 24) (.t 26), (some (21, false))⟩,
  ⟨some 28, .pick (.t 21) (.k (.bool true)) (.t 27), none⟩,
  ⟨some 29, .mov (.t 28), none⟩,
  ⟨some 30, .faddr 2 (.t 1), (some (29, false))⟩,
  ⟨some 31, .ld false 1 (.t 30), (some (29, false))⟩,
  ⟨some 32, .bin .eq (.t 31) (.k (.str ⟨#[48]⟩)), (some (29, false))⟩,
  ⟨some 33, .pick (.t 29) (.k (.bool true)) (.t 32), none⟩])
 (.lv [1, 33] (.cond (.t 33) (.lv [] (.seq (.reg none [⟨some 2, .mov (.k (.bool false)), none⟩])
 (.ret)))
 (.skip))))
 (.lv [1] (.seq (.reg none [⟨some 34, .faddr 1 (.t 1), none⟩,
  ⟨some 35, .ld false 1 (.t 34), none⟩,
  ⟨some 36, .faddr 2 (.t 1), none⟩,
  ⟨some 37, .ld false 1 (.t 36), none⟩,
  ⟨some 38, .callP 149 [.t 35, .t 37], none⟩,
  ⟨some 39, .bin .eq (.t 38) (.k (.str ⟨#[49]⟩)), none⟩,
  ⟨some 40, .mov (.t 39), none⟩,
  ⟨some 41, .faddr 0 (.t 1), (some (40, true))⟩,
  ⟨some 42, .ld false 1 (.t 41), (some (40, true))⟩,
  ⟨some 43, .mov (.t 42), (some (40, true))⟩,
  ⟨some 44, .faddr 1 (.t 1), (some (43, true))⟩,
  ⟨some 45, .ld false 1 (.t 44), (some (43, true))⟩,
  ⟨some 46, .bin .eq (.t 45) (.k (.str ⟨#[48]⟩)), (some (43, true))⟩,
  ⟨some 47, .pick (.t 43) (.t 46) (.k (.bool false)), (some (40, true))⟩,
  ⟨some 48, .not (.t 47), (some (40, true))⟩,
  ⟨some 49, .pick (.t 40) (.t 48) (.k (.bool false)), none⟩,
  ⟨some 2, .mov (.t 49), none⟩])
 (.ret)))))
def i120 : IFn := ⟨1, 50, c120, [.t 2], .pure⟩
def b121_0 : IR :=
 .seq (.seq (.reg none [⟨some 7, .mov (.t 4), none⟩,
  ⟨some 8, .bin .lt (.t 7) (.k (.int .i64 20)), none⟩,
  ⟨some 9, .mov (.t 8), none⟩,
  ⟨some 10, .mov (.t 0), (some (9, true))⟩,
  ⟨some 11, .bin .gt (.t 10) (.k (.int .u64 0)), (some (9, true))⟩,
  ⟨some 12, .pick (.t 9) (.t 11) (.k (.bool false)), none⟩])
 (.lv [0, 3, 4, 12] (.cond (.t 12) (.skip)
 (.exit 0))))
 (.lv [0, 3, 4] (.seq (.block 1 (.seq (.reg none [⟨some 15, .mov (.t 3), none⟩,
  ⟨some 16, .mov (.t 0), none⟩,
  ⟨some 17, .bin .rem (.t 16) (.k (.int .u64 10)), none⟩,
  ⟨some 18, .conv .i64 (.t 17), none⟩,
  ⟨some 19, .bsl 3 1 [.t 18], none⟩,
  ⟨some 20, .app 3 1 8 (.t 15) (.t 19), none⟩,
  ⟨some 3, .mov (.t 20), none⟩])
 (.lv [0, 3, 4] (.reg none [⟨some 21, .mov (.t 0), none⟩,
  ⟨some 22, .bin .quo (.t 21) (.k (.int .u64 10)), none⟩,
  ⟨some 0, .mov (.t 22), none⟩]))))
 (.lv [0, 3, 4] (.reg none [⟨some 13, .mov (.t 4), none⟩,
  ⟨some 14, .bin .add (.t 13) (.k (.int .i64 1)), none⟩,
  ⟨some 4, .mov (.t 14), none⟩]))))
def k121_0 : IR :=
 .seq (.reg none [⟨some 23, .mov (.t 3), none⟩,
  ⟨some 24, .callR 150 [.t 23], none⟩,
  ⟨some 2, .mov (.t 24), none⟩])
 (.ret)
def c121 : IR :=
 .seq (.reg none [⟨some 2, .mov (.k (.str ⟨#[]⟩)), none⟩])
 (.lv [0] (.seq (.seq (.reg none [⟨some 5, .mov (.t 0), none⟩,
  ⟨some 6, .bin .eq (.t 5) (.k (.int .u64 0)), none⟩])
 (.lv [0, 6] (.cond (.t 6) (.lv [] (.seq (.reg none [⟨some 2, .mov (.k (.str ⟨#[48]⟩)), none⟩])
 (.ret)))
 (.skip))))
 (.lv [0] (.seq (.reg none [⟨some 3, .newnil 3 1, none⟩])
 (.lv [0, 3] (.seq (.seq (.reg none [⟨some 4, .mov (.k (.int .i64 0)), none⟩])
 (.lv [0, 3, 4] (.block 0 (.loop [0, 3, 4] (some (1, [])) b121_0))))
 k121_0))))))
def i121 : IFn := ⟨1, 25, c121, [.t 2], .pure⟩
def c122 : IR :=
 .seq (.reg none [⟨some 2, .box 55 2 (.t 0), none⟩,
  ⟨some 3, .box 55 2 (.t 1), none⟩,
  ⟨some 4, .alloc 57 [.nilsl 162 1, .bool false, .nilsl 162 1], none⟩,
  ⟨some 5, .mov (.k (.bool false)), none⟩])
 (.lv [2, 3, 4] (.seq (.seq (.reg none [⟨some 13, .faddr 0 (.t 3), none⟩,
  ⟨some 14, .ld true 1 (.t 13), none⟩,
  ⟨some 15, .callP 145 [.t 14], none⟩])
 (.lv [2, 3, 4, 15] (.cond (.t 15) (.lv [4] (.seq (.reg none [⟨some 16, .build [.nilsl 162 1, .bool false, .nilsl 162 1] [], none⟩,
  ⟨none, .st 3 (.t 4) (.t 16), none⟩,
  ⟨some 5, .mov (.k (.bool false)), none⟩])
 (.ret)))
 (.skip))))
 (.lv [2, 3, 4] (.seq (.reg (some [0, 1, 2, 3, 4, 5, 6]) [⟨some 17, .faddr 0 (.t 2), none⟩,
  ⟨some 18, .ld true 1 (.t 17), none⟩,
  ⟨some 19, .ld true 2 (.t 3), none⟩,
  ⟨some 20, .callP 152 [.t 19], none⟩,
  ⟨some 21, .callP 151 [.t 18, .t 20], none⟩,
  ⟨some 6, .alloc 53 [.nilsl 162 1], none⟩,
  ⟨none, .st 1 (.t 6) (.t 21), none⟩])
 (.lv [2, 3, 4, 6] (.seq (.reg none [⟨some 23, .faddr 0 (.t 2), none⟩,
  ⟨some 24, .ld true 1 (.t 23), none⟩,
  ⟨some 25, .ld true 1 (.t 6), none⟩,
  ⟨some 26, .callF 153 [.t 24, .t 25], none⟩,
  ⟨some 22, .mov (.t 26), none⟩,
  ⟨some 27, .ext (.t 22) 0, none⟩,
  ⟨some 28, .ext (.t 22) 1, none⟩,
  ⟨some 29, .ext (.t 22) 2, none⟩,
  ⟨some 7, .alloc 53 [.nilsl 162 1], none⟩,
  ⟨some 8, .alloc 53 [.nilsl 162 1], none⟩,
  ⟨none, .st 1 (.t 7) (.t 27), none⟩,
  ⟨none, .st 1 (.t 8) (.t 28), none⟩,
  ⟨some 9, .mov (.t 29), none⟩])
 (.lv [2, 3, 4, 6, 7] (.seq (.reg none [⟨some 31, .faddr 0 (.t 3), none⟩,
  ⟨some 32, .ld true 1 (.t 31), none⟩,
  ⟨some 33, .ld true 1 (.t 6), none⟩,
  ⟨some 34, .callF 153 [.t 32, .t 33], none⟩,
  ⟨some 30, .mov (.t 34), none⟩,
  ⟨some 35, .ext (.t 30) 0, none⟩,
  ⟨some 36, .ext (.t 30) 1, none⟩,
  ⟨some 37, .ext (.t 30) 2, none⟩,
  ⟨some 10, .alloc 53 [.nilsl 162 1], none⟩,
  ⟨some 11, .alloc 53 [.nilsl 162 1], none⟩,
  ⟨none, .st 1 (.t 10) (.t 35), none⟩,
  ⟨none, .st 1 (.t 11) (.t 36), none⟩,
  ⟨some 12, .mov (.t 37), none⟩])
 (.lv [2, 3, 4, 7, 10] (.seq (.reg (some [0, 1, 2, 3, 4, 5, 7, 6, 8, 9, 10]) [⟨some 38, .ld true 2 (.t 2), none⟩,
  ⟨some 39, .callP 117 [.t 38], none⟩,
  ⟨some 40, .ld true 2 (.t 3), none⟩,
  ⟨some 41, .callP 117 [.t 40], none⟩,
  ⟨some 42, .binb .ne (.t 39) (.t 41), none⟩,
  ⟨some 43, .ld true 1 (.t 7), none⟩,
  ⟨some 45, .ld true 1 (.t 10), none⟩,
  ⟨some 44, .callF 109 [.t 42, .t 43], none⟩,
  ⟨some 46, .build [.nilsl 162 1, .bool false, .nilsl 162 1] [(0, 2, .t 44), (2, 1, .t 45)], none⟩,
  ⟨none, .st 3 (.t 4) (.t 46), none⟩,
  ⟨some 5, .mov (.k (.bool true)), none⟩])
 (.ret)))))))))))
def i122 : IFn := ⟨2, 47, c122, [.c 4 true 3, .t 5], .pure⟩
def b128_1 : IR :=
 .seq (.reg none [⟨some 30, .bin .lt (.t 29) (.t 28), none⟩])
 (.lv [0, 2, 4, 5, 6, 7, 27, 28, 29, 30] (.seq (.cond (.t 30) (.skip)
 (.exit 2))
 (.lv [0, 2, 4, 5, 6, 7, 27, 28, 29] (.seq (.block 3 (.seq (.reg none [⟨some 31, .iaddrf 1 (.t 27) (.t 29), none⟩,
  ⟨some 32, .ldf false 1 (.t 31), none⟩,
  ⟨some 9, .mov (.t 32), none⟩])
 (.lv [0, 2, 4, 5, 6, 7, 9, 27, 28, 29] (.seq (.seq (.reg none [⟨some 33, .mov (.t 9), none⟩,
  ⟨some 34, .bin .lt (.t 33) (.k (.int .u8 48)), none⟩,
  ⟨some 35, .mov (.t 34), none⟩,
  ⟨some 36, .mov (.t 9), (some (35, false))⟩,
  ⟨some 37, .bin .gt (.t 36) (.k (.int .u8 57)), (some (35, false))⟩,
  ⟨some 38, .pick (.t 35) (.k (.bool true)) (.t 37), none⟩])
 (.lv [0, 2, 4, 5, 6, 7, 9, 27, 28, 29, 38] (.cond (.t 38) (.lv [2] (.seq (.reg none [⟨some 39, .build [.nilsl 162 1] [], none⟩,
  ⟨none, .st 1 (.t 2) (.t 39), none⟩,
  ⟨some 3, .mov (.k (.bool false)), none⟩])
 (.ret)))
 (.skip))))
 (.lv [0, 2, 4, 5, 6, 7, 9, 27, 28, 29] (.reg none [⟨some 40, .mov (.t 6), none⟩,
  ⟨some 41, .bin .mul (.k (.int .u64 10)) (.t 40), none⟩,
  ⟨some 42, .mov (.t 9), none⟩,
  ⟨some 43, .bin .sub (.t 42) (.k (.int .u8 48)), none⟩,
  ⟨some 44, .conv .u64 (.t 43), none⟩,
  ⟨some 45, .bin .add (.t 41) (.t 44), none⟩,
  ⟨some 46, .mov (.t 7), none⟩,
  ⟨some 47, .bin .mul (.k (.int .u64 10)) (.t 46), none⟩,
  ⟨some 6, .mov (.t 45), none⟩,
  ⟨some 7, .mov (.t 47), none⟩]))))))
 (.lv [0, 2, 4, 5, 6, 7, 27, 28, 29] (.reg none [⟨some 48, .bin .add (.t 29) (.k (.int .i64 1)), none⟩,
  ⟨some 29, .mov (.t 48), none⟩]))))))
def k128_0 : IR :=
 .seq (.reg (some [0, 1, 2, 4, 3, 5, 6, 7]) [⟨some 49, .ld true 1 (.t 4), none⟩,
  ⟨some 50, .mov (.t 7), none⟩,
  ⟨some 51, .callP 99 [.t 50], none⟩,
  ⟨some 53, .mov (.t 6), none⟩,
  ⟨some 52, .callF 110 [.t 49, .t 51], none⟩,
  ⟨some 54, .callP 99 [.t 53], none⟩,
  ⟨some 55, .callP 156 [.t 52, .t 54], none⟩,
  ⟨none, .st 1 (.t 4) (.t 55), none⟩])
 (.lv [0, 2, 4, 5] (.reg none [⟨some 56, .mov (.t 0), none⟩,
  ⟨some 57, .mov (.t 5), none⟩,
  ⟨some 58, .scut (.t 56) (some (.t 57)) none, none⟩,
  ⟨some 0, .mov (.t 58), none⟩]))
def b128_0 : IR :=
 .seq (.seq (.reg none [⟨some 18, .mov (.t 0), none⟩,
  ⟨some 19, .slen (.t 18), none⟩,
  ⟨some 20, .bin .gt (.t 19) (.k (.int .i64 0)), none⟩])
 (.lv [0, 2, 4, 20] (.cond (.t 20) (.skip)
 (.exit 0))))
 (.lv [0, 2, 4] (.block 1 (.seq (.reg none [⟨some 21, .mov (.t 0), none⟩,
  ⟨some 22, .slen (.t 21), none⟩,
  ⟨some 23, .mn (.k (.int .i64 9)) (.t 22), none⟩,
  ⟨some 5, .mov (.t 23), none⟩])
 (.lv [0, 2, 4, 5] (.seq (.reg none [⟨some 6, .mov (.k (.int .u64 0)), none⟩,
  ⟨some 7, .mov (.k (.int .u64 1)), none⟩])
 (.lv [0, 2, 4, 5, 6, 7] (.seq (.seq (.reg none [⟨some 24, .mov (.t 0), none⟩,
  ⟨some 25, .mov (.t 5), none⟩,
  ⟨some 26, .scut (.t 24) none (some (.t 25)), none⟩,
  ⟨some 27, .s2b (.t 26), none⟩,
  ⟨some 28, .lenf (.t 27), none⟩,
  ⟨some 29, .mov (.k (.int .i64 0)), none⟩])
 (.lv [0, 2, 4, 5, 6, 7, 27, 28, 29] (.block 2 (.loop [0, 2, 4, 5, 6, 7, 27, 28, 29] (some (4, [])) b128_1))))
 k128_0)))))))
def k128_1 : IR :=
 .seq (.reg none [⟨some 59, .ld true 1 (.t 4), none⟩,
  ⟨none, .st 1 (.t 2) (.t 59), none⟩,
  ⟨some 3, .mov (.k (.bool true)), none⟩])
 (.ret)
def c128 : IR :=
 .seq (.reg none [⟨some 2, .alloc 53 [.nilsl 162 1], none⟩,
  ⟨some 3, .mov (.k (.bool false)), none⟩])
 (.lv [0, 2] (.seq (.seq (.reg none [⟨some 10, .mov (.t 0), none⟩,
  ⟨some 11, .bin .eq (.t 10) (.k (.str ⟨#[]⟩)), none⟩,
  ⟨some 12, .mov (.t 11), none⟩,
  ⟨some 13, .mov (.t 0), (some (12, false))⟩,
  ⟨some 14, .slen (.t 13), (some (12, false))⟩,
  ⟨some 15, .bin .gt (.t 14) (.k (.int .i64 2000)), (some (12, false))⟩,
  ⟨some 16, .pick (.t 12) (.k (.bool true)) (.t 15), none⟩])
 (.lv [0, 2, 16] (.cond (.t 16) (.lv [2] (.seq (.reg none [⟨some 17, .build [.nilsl 162 1] [], none⟩,
  ⟨none, .st 1 (.t 2) (.t 17), none⟩,
  ⟨some 3, .mov (.k (.bool false)), none⟩])
 (.ret)))
 (.skip))))
 (.lv [0, 2] (.seq (.reg none [⟨some 4, .alloc 53 [.nilsl 162 1], none⟩])
 (.lv [0, 2, 4] (.seq (.block 0 (.loop [0, 2, 4] (some (4, [])) b128_0))
 k128_1))))))
def i128 : IFn := ⟨1, 60, c128, [.c 2 true 1, .t 3], .pure⟩
def b137_0 : IR :=
 .seq (.seq (.reg none [⟨some 3, .mov (.t 0), none⟩,
  ⟨some 4, .lenf (.t 3), none⟩,
  ⟨some 5, .bin .gt (.t 4) (.k (.int .i64 0)), none⟩,
  ⟨some 6, .mov (.t 5), none⟩,
  ⟨some 7, .mov (.t 0), (some (6, true))⟩,
  ⟨some 8, .mov (.t 0), (some (6, true))⟩,
  ⟨some 9, .lenf (.t 8), (some (6, true))⟩,
  ⟨some 10, .bin .sub (.t 9) (.k (.int .i64 1)), (some (6, true))⟩,
  ⟨some 11, .iaddrf 1 (.t 7) (.t 10), (some (6, true))⟩,
  ⟨some 12, .ldf false 1 (.t 11), (some (6, true))⟩,
  ⟨some 13, .bin .eq (.t 12) (.k (.int .u32 0)), (some (6, true))⟩,
  ⟨some 14, .pick (.t 6) (.t 13) (.k (.bool false)), none⟩])
 (.lv [0, 2, 14] (.cond (.t 14) (.skip)
 (.exit 0))))
 (.lv [0, 2] (.block 1 (.reg none [⟨some 15, .mov (.t 0), none⟩,
  ⟨some 16, .mov (.t 0), none⟩,
  ⟨some 17, .lenf (.t 16), none⟩,
  ⟨some 18, .bin .sub (.t 17) (.k (.int .i64 1)), none⟩,
  ⟨some 19, .cut 1 (.t 15) none (some (.t 18)), none⟩,
  ⟨some 0, .mov (.t 19), none⟩])))
def k137_0 : IR :=
 .seq (.reg none [⟨some 20, .mov (.t 0), none⟩,
  ⟨some 21, .build [.nilsl 162 1] [(0, 1, .t 20)], none⟩,
  ⟨none, .st 1 (.t 2) (.t 21), none⟩])
 (.ret)
def c137 : IR :=
 .seq (.reg none [⟨some 2, .alloc 53 [.nilsl 162 1], none⟩])
 (.lv [0, 2] (.seq (.block 0 (.loop [0, 2] (some (2, [])) b137_0))
 k137_0))
def i137 : IFn := ⟨1, 22, c137, [.c 2 true 1], .pure⟩
def b139_1 : IR :=
 .seq (.seq (.reg (some [0, 1, 2, 3, 4, 5, 6, 7, 8, 9, 10, 11, 12, 13, 14, 15, 16]) [⟨some 18, .mov (.t 9), none⟩,
  ⟨some 19, .mov (.t 1), none⟩,
  ⟨some 20, .bin .gt (.t 18) (.t 19), none⟩,
  ⟨some 21, .mov (.t 20), none⟩,
  ⟨some 22, .mov (.t 3), (some (21, true))⟩,
  ⟨some 23, .mov (.t 0), (some (21, true))⟩,
  ⟨some 24, .mov (.t 9), (some (21, true))⟩,
  ⟨some 25, .iaddr 1 (.t 23) (.t 24), (some (21, true))⟩,
  ⟨some 26, .ld false 1 (.t 25), (some (21, true))⟩,
  ⟨some 27, .mov (.t 0), (some (21, true))⟩,
  ⟨some 28, .mov (.t 9), (some (21, true))⟩,
  ⟨some 29, .bin .sub (.t 28) (.k (.int .i64 1)), (some (21, true))⟩,
  ⟨some 30, .iaddr 1 (.t 27) (.t 29), (some (21, true))⟩,
  ⟨some 31, .ld false 1 (.t 30), (some (21, true))⟩,
  ⟨some 32, .callV (.t 22) [.t 26, .t 31], (some (21, true))⟩,
  ⟨some 33, .bin .lt (.t 32) (.k (.int .i64 0)), (some (21, true))⟩,
  ⟨some 34, .pick (.t 21) (.t 33) (.k (.bool false)), none⟩])
 (.lv [0, 1, 2, 3, 8, 9, 34] (.cond (.t 34) (.skip)
 (.exit 2))))
 (.lv [0, 1, 2, 3, 8, 9] (.seq (.block 3 (.reg (some [0, 1, 2, 3, 4, 5, 6, 7, 8, 9, 10, 11, 12, 13, 14, 15, 16, 17]) [⟨some 37, .mov (.t 0), none⟩,
  ⟨some 38, .mov (.t 9), none⟩,
  ⟨some 39, .mov (.t 0), none⟩,
  ⟨some 40, .mov (.t 9), none⟩,
  ⟨some 41, .bin .sub (.t 40) (.k (.int .i64 1)), none⟩,
  ⟨some 42, .mov (.t 0), none⟩,
  ⟨some 43, .mov (.t 9), none⟩,
  ⟨some 44, .bin .sub (.t 43) (.k (.int .i64 1)), none⟩,
  ⟨some 45, .iaddr 1 (.t 42) (.t 44), none⟩,
  ⟨some 46, .ld false 1 (.t 45), none⟩,
  ⟨some 47, .mov (.t 0), none⟩,
  ⟨some 48, .mov (.t 9), none⟩,
  ⟨some 49, .iaddr 1 (.t 47) (.t 48), none⟩,
  ⟨some 50, .ld false 1 (.t 49), none⟩,
  ⟨some 51, .iaddr 1 (.t 37) (.t 38), none⟩,
  ⟨none, .st 1 (.t 51) (.t 46), none⟩,
  ⟨some 52, .iaddr 1 (.t 39) (.t 41), none⟩,
  ⟨none, .st 1 (.t 52) (.t 50), none⟩]))
 (.lv [0, 1, 2, 3, 8, 9] (.reg none [⟨some 35, .mov (.t 9), none⟩,
  ⟨some 36, .bin .sub (.t 35) (.k (.int .i64 1)), none⟩,
  ⟨some 9, .mov (.t 36), none⟩]))))
def k139_0 : IR :=
 .reg none [⟨some 15, .mov (.t 8), none⟩,
  ⟨some 16, .bin .add (.t 15) (.k (.int .i64 1)), none⟩,
  ⟨some 8, .mov (.t 16), none⟩]
def b139_0 : IR :=
 .seq (.seq (.reg none [⟨some 12, .mov (.t 8), none⟩,
  ⟨some 13, .mov (.t 2), none⟩,
  ⟨some 14, .bin .lt (.t 12) (.t 13), none⟩])
 (.lv [0, 1, 2, 3, 8, 14] (.cond (.t 14) (.skip)
 (.exit 0))))
 (.lv [0, 1, 2, 3, 8] (.seq (.block 1 (.seq (.reg none [⟨some 17, .mov (.t 8), none⟩,
  ⟨some 9, .mov (.t 17), none⟩])
 (.lv [0, 1, 2, 3, 8, 9] (.block 2 (.loop [0, 1, 2, 3, 8, 9] none b139_1)))))
 k139_0))
def c139 : IR :=
 .seq (.reg none [⟨some 10, .mov (.t 1), none⟩,
  ⟨some 11, .bin .add (.t 10) (.k (.int .i64 1)), none⟩,
  ⟨some 8, .mov (.t 11), none⟩])
 (.lv [0, 1, 2, 3, 8] (.block 0 (.loop [0, 1, 2, 3, 8] none b139_0)))
def i139 : IFn := ⟨4, 53, c139, [], .ref⟩
def b140_0 : IR :=
 .seq (.seq (.reg none [⟨some 31, .mov (.t 10), none⟩,
  ⟨some 32, .mov (.t 11), none⟩,
  ⟨some 33, .bin .lt (.t 31) (.t 32), none⟩])
 (.lv [0, 1, 4, 10, 11, 33] (.cond (.t 33) (.skip)
 (.exit 0))))
 (.lv [0, 1, 4, 10, 11] (.block 1 (.seq (.reg none [⟨some 34, .mov (.t 10), none⟩,
  ⟨some 35, .mov (.t 11), none⟩,
  ⟨some 36, .bin .add (.t 34) (.t 35), none⟩,
  ⟨some 37, .conv .u64 (.t 36), none⟩,
  ⟨some 38, .bin .shr (.t 37) (.k (.int .u64 1)), none⟩,
  ⟨some 39, .conv .i64 (.t 38), none⟩,
  ⟨some 12, .mov (.t 39), none⟩])
 (.lv [0, 1, 4, 10, 11, 12] (.seq (.reg (some [0, 1, 2, 3, 4, 5, 6, 7, 8, 9, 10]) [⟨some 40, .mov (.t 4), none⟩,
  ⟨some 41, .mov (.t 0), none⟩,
  ⟨some 42, .mov (.t 12), none⟩,
  ⟨some 43, .iaddr 1 (.t 41) (.t 42), none⟩,
  ⟨some 44, .ld false 1 (.t 43), none⟩,
  ⟨some 45, .mov (.t 0), none⟩,
  ⟨some 46, .mov (.t 1), none⟩,
  ⟨some 47, .iaddr 1 (.t 45) (.t 46), none⟩,
  ⟨some 48, .ld false 1 (.t 47), none⟩,
  ⟨some 49, .callV (.t 40) [.t 44, .t 48], none⟩,
  ⟨some 50, .bin .lt (.t 49) (.k (.int .i64 0)), none⟩])
 (.lv [0, 1, 4, 10, 11, 12, 50] (.cond (.t 50) (.lv [0, 1, 4, 11, 12] (.reg none [⟨some 51, .mov (.t 12), none⟩,
  ⟨some 52, .bin .add (.t 51) (.k (.int .i64 1)), none⟩,
  ⟨some 10, .mov (.t 52), none⟩]))
 (.lv [0, 1, 4, 10, 12] (.reg none [⟨some 53, .mov (.t 12), none⟩,
  ⟨some 11, .mov (.t 53), none⟩])))))))))
def b140_1 : IR :=
 .seq (.seq (.reg none [⟨some 55, .mov (.t 13), none⟩,
  ⟨some 56, .mov (.t 10), none⟩,
  ⟨some 57, .bin .sub (.t 56) (.k (.int .i64 1)), none⟩,
  ⟨some 58, .bin .lt (.t 55) (.t 57), none⟩])
 (.lv [0, 10, 13, 58] (.cond (.t 58) (.skip)
 (.exit 2))))
 (.lv [0, 10, 13] (.seq (.block 3 (.reg (some [0, 1, 2, 3, 4, 5, 6, 7, 8, 9, 10, 11, 12, 13, 14, 15, 16, 17]) [⟨some 61, .mov (.t 0), none⟩,
  ⟨some 62, .mov (.t 13), none⟩,
  ⟨some 63, .mov (.t 0), none⟩,
  ⟨some 64, .mov (.t 13), none⟩,
  ⟨some 65, .bin .add (.t 64) (.k (.int .i64 1)), none⟩,
  ⟨some 66, .mov (.t 0), none⟩,
  ⟨some 67, .mov (.t 13), none⟩,
  ⟨some 68, .bin .add (.t 67) (.k (.int .i64 1)), none⟩,
  ⟨some 69, .iaddr 1 (.t 66) (.t 68), none⟩,
  ⟨some 70, .ld false 1 (.t 69), none⟩,
  ⟨some 71, .mov (.t 0), none⟩,
  ⟨some 72, .mov (.t 13), none⟩,
  ⟨some 73, .iaddr 1 (.t 71) (.t 72), none⟩,
  ⟨some 74, .ld false 1 (.t 73), none⟩,
  ⟨some 75, .iaddr 1 (.t 61) (.t 62), none⟩,
  ⟨none, .st 1 (.t 75) (.t 70), none⟩,
  ⟨some 76, .iaddr 1 (.t 63) (.t 65), none⟩,
  ⟨none, .st 1 (.t 76) (.t 74), none⟩]))
 (.lv [0, 10, 13] (.reg none [⟨some 59, .mov (.t 13), none⟩,
  ⟨some 60, .bin .add (.t 59) (.k (.int .i64 1)), none⟩,
  ⟨some 13, .mov (.t 60), none⟩]))))
def k140_0 : IR :=
 .ret
def k140_1 : IR :=
 .seq (.seq (.reg none [⟨some 54, .mov (.t 1), none⟩,
  ⟨some 13, .mov (.t 54), none⟩])
 (.lv [0, 10, 13] (.block 2 (.loop [0, 10, 13] none b140_1))))
 k140_0
def b140_2 : IR :=
 .seq (.seq (.reg none [⟨some 83, .mov (.t 14), none⟩,
  ⟨some 84, .mov (.t 15), none⟩,
  ⟨some 85, .bin .lt (.t 83) (.t 84), none⟩])
 (.lv [0, 2, 4, 14, 15, 85] (.cond (.t 85) (.skip)
 (.exit 4))))
 (.lv [0, 2, 4, 14, 15] (.block 5 (.seq (.reg none [⟨some 86, .mov (.t 14), none⟩,
  ⟨some 87, .mov (.t 15), none⟩,
  ⟨some 88, .bin .add (.t 86) (.t 87), none⟩,
  ⟨some 89, .conv .u64 (.t 88), none⟩,
  ⟨some 90, .bin .shr (.t 89) (.k (.int .u64 1)), none⟩,
  ⟨some 91, .conv .i64 (.t 90), none⟩,
  ⟨some 16, .mov (.t 91), none⟩])
 (.lv [0, 2, 4, 14, 15, 16] (.seq (.reg (some [0, 1, 2, 3, 4, 5, 6, 7, 8, 9, 10, 11]) [⟨some 92, .mov (.t 4), none⟩,
  ⟨some 93, .mov (.t 0), none⟩,
  ⟨some 94, .mov (.t 2), none⟩,
  ⟨some 95, .iaddr 1 (.t 93) (.t 94), none⟩,
  ⟨some 96, .ld false 1 (.t 95), none⟩,
  ⟨some 97, .mov (.t 0), none⟩,
  ⟨some 98, .mov (.t 16), none⟩,
  ⟨some 99, .iaddr 1 (.t 97) (.t 98), none⟩,
  ⟨some 100, .ld false 1 (.t 99), none⟩,
  ⟨some 101, .callV (.t 92) [.t 96, .t 100], none⟩,
  ⟨some 102, .bin .lt (.t 101) (.k (.int .i64 0)), none⟩,
  ⟨some 103, .not (.t 102), none⟩])
 (.lv [0, 2, 4, 14, 15, 16, 103] (.cond (.t 103) (.lv [0, 2, 4, 15, 16] (.reg none [⟨some 104, .mov (.t 16), none⟩,
  ⟨some 105, .bin .add (.t 104) (.k (.int .i64 1)), none⟩,
  ⟨some 14, .mov (.t 105), none⟩]))
 (.lv [0, 2, 4, 14, 16] (.reg none [⟨some 106, .mov (.t 16), none⟩,
  ⟨some 15, .mov (.t 106), none⟩])))))))))
def b140_3 : IR :=
 .seq (.seq (.reg none [⟨some 108, .mov (.t 17), none⟩,
  ⟨some 109, .mov (.t 14), none⟩,
  ⟨some 110, .bin .gt (.t 108) (.t 109), none⟩])
 (.lv [0, 14, 17, 110] (.cond (.t 110) (.skip)
 (.exit 6))))
 (.lv [0, 14, 17] (.seq (.block 7 (.reg (some [0, 1, 2, 3, 4, 5, 6, 7, 8, 9, 10, 11, 12, 13, 14, 15, 16, 17]) [⟨some 113, .mov (.t 0), none⟩,
  ⟨some 114, .mov (.t 17), none⟩,
  ⟨some 115, .mov (.t 0), none⟩,
  ⟨some 116, .mov (.t 17), none⟩,
  ⟨some 117, .bin .sub (.t 116) (.k (.int .i64 1)), none⟩,
  ⟨some 118, .mov (.t 0), none⟩,
  ⟨some 119, .mov (.t 17), none⟩,
  ⟨some 120, .bin .sub (.t 119) (.k (.int .i64 1)), none⟩,
  ⟨some 121, .iaddr 1 (.t 118) (.t 120), none⟩,
  ⟨some 122, .ld false 1 (.t 121), none⟩,
  ⟨some 123, .mov (.t 0), none⟩,
  ⟨some 124, .mov (.t 17), none⟩,
  ⟨some 125, .iaddr 1 (.t 123) (.t 124), none⟩,
  ⟨some 126, .ld false 1 (.t 125), none⟩,
  ⟨some 127, .iaddr 1 (.t 113) (.t 114), none⟩,
  ⟨none, .st 1 (.t 127) (.t 122), none⟩,
  ⟨some 128, .iaddr 1 (.t 115) (.t 117), none⟩,
  ⟨none, .st 1 (.t 128) (.t 126), none⟩]))
 (.lv [0, 14, 17] (.reg none [⟨some 111, .mov (.t 17), none⟩,
  ⟨some 112, .bin .sub (.t 111) (.k (.int .i64 1)), none⟩,
  ⟨some 17, .mov (.t 112), none⟩]))))
def k140_2 : IR :=
 .ret
def k140_3 : IR :=
 .seq (.seq (.reg none [⟨some 107, .mov (.t 2), none⟩,
  ⟨some 17, .mov (.t 107), none⟩])
 (.lv [0, 14, 17] (.block 6 (.loop [0, 14, 17] none b140_3))))
 k140_2
def b140_4 : IR :=
 .seq (.seq (.reg none [⟨some 149, .mov (.t 20), none⟩,
  ⟨some 150, .mov (.t 21), none⟩,
  ⟨some 151, .bin .lt (.t 149) (.t 150), none⟩])
 (.lv [0, 1, 2, 3, 4, 18, 19, 20, 21, 22, 151] (.cond (.t 151) (.skip)
 (.exit 8))))
 (.lv [0, 1, 2, 3, 4, 18, 19, 20, 21, 22] (.block 9 (.seq (.reg none [⟨some 152, .mov (.t 20), none⟩,
  ⟨some 153, .mov (.t 21), none⟩,
  ⟨some 154, .bin .add (.t 152) (.t 153), none⟩,
  ⟨some 155, .conv .u64 (.t 154), none⟩,
  ⟨some 156, .bin .shr (.t 155) (.k (.int .u64 1)), none⟩,
  ⟨some 157, .conv .i64 (.t 156), none⟩,
  ⟨some 23, .mov (.t 157), none⟩])
 (.lv [0, 1, 2, 3, 4, 18, 19, 20, 21, 22, 23] (.seq (.reg (some [0, 1, 2, 3, 4, 5, 6, 7, 8, 9, 10, 11, 12, 13]) [⟨some 158, .mov (.t 4), none⟩,
  ⟨some 159, .mov (.t 0), none⟩,
  ⟨some 160, .mov (.t 22), none⟩,
  ⟨some 161, .mov (.t 23), none⟩,
  ⟨some 162, .bin .sub (.t 160) (.t 161), none⟩,
  ⟨some 163, .iaddr 1 (.t 159) (.t 162), none⟩,
  ⟨some 164, .ld false 1 (.t 163), none⟩,
  ⟨some 165, .mov (.t 0), none⟩,
  ⟨some 166, .mov (.t 23), none⟩,
  ⟨some 167, .iaddr 1 (.t 165) (.t 166), none⟩,
  ⟨some 168, .ld false 1 (.t 167), none⟩,
  ⟨some 169, .callV (.t 158) [.t 164, .t 168], none⟩,
  ⟨some 170, .bin .lt (.t 169) (.k (.int .i64 0)), none⟩,
  ⟨some 171, .not (.t 170), none⟩])
 (.lv [0, 1, 2, 3, 4, 18, 19, 20, 21, 22, 23, 171] (.cond (.t 171) (.lv [0, 1, 2, 3, 4, 18, 19, 21, 22, 23] (.reg none [⟨some 172, .mov (.t 23), none⟩,
  ⟨some 173, .bin .add (.t 172) (.k (.int .i64 1)), none⟩,
  ⟨some 20, .mov (.t 173), none⟩]))
 (.lv [0, 1, 2, 3, 4, 18, 19, 20, 22, 23] (.reg none [⟨some 174, .mov (.t 23), none⟩,
  ⟨some 21, .mov (.t 174), none⟩])))))))))
def t140_0 : IR :=
 .seq (.reg none [⟨some 206, .mov (.t 18), none⟩,
  ⟨some 207, .mov (.t 24), none⟩,
  ⟨some 208, .bin .lt (.t 206) (.t 207), none⟩,
  ⟨some 209, .mov (.t 208), none⟩,
  ⟨some 210, .mov (.t 24), (some (209, true))⟩,
  ⟨some 211, .mov (.t 3), (some (209, true))⟩,
  ⟨some 212, .bin .lt (.t 210) (.t 211), (some (209, true))⟩,
  ⟨some 213, .pick (.t 209) (.t 212) (.k (.bool false)), none⟩])
 (.lv [0, 3, 4, 18, 24, 213] (.cond (.t 213) (.lv [0, 3, 4, 18, 24] (.reg none [⟨some 214, .mov (.t 0), none⟩,
  ⟨some 215, .mov (.t 18), none⟩,
  ⟨some 216, .mov (.t 24), none⟩,
  ⟨some 217, .mov (.t 3), none⟩,
  ⟨some 218, .mov (.t 4), none⟩,
  ⟨some 219, .callM 140 [.t 214, .t 215, .t 216, .t 217, .t 218], none⟩]))
 (.skip)))
def t140_1 : IR :=
 .seq (.seq (.reg none [⟨some 192, .mov (.t 1), none⟩,
  ⟨some 193, .mov (.t 20), none⟩,
  ⟨some 194, .bin .lt (.t 192) (.t 193), none⟩,
  ⟨some 195, .mov (.t 194), none⟩,
  ⟨some 196, .mov (.t 20), (some (195, true))⟩,
  ⟨some 197, .mov (.t 18), (some (195, true))⟩,
  ⟨some 198, .bin .lt (.t 196) (.t 197), (some (195, true))⟩,
  ⟨some 199, .pick (.t 195) (.t 198) (.k (.bool false)), none⟩])
 (.lv [0, 1, 3, 4, 18, 20, 24, 199] (.cond (.t 199) (.lv [0, 1, 3, 4, 18, 20, 24] (.reg none [⟨some 200, .mov (.t 0), none⟩,
  ⟨some 201, .mov (.t 1), none⟩,
  ⟨some 202, .mov (.t 20), none⟩,
  ⟨some 203, .mov (.t 18), none⟩,
  ⟨some 204, .mov (.t 4), none⟩,
  ⟨some 205, .callM 140 [.t 200, .t 201, .t 202, .t 203, .t 204], none⟩]))
 (.skip))))
 (.lv [0, 3, 4, 18, 24] t140_0)
def k140_4 : IR :=
 .seq (.reg none [⟨some 175, .mov (.t 19), none⟩,
  ⟨some 176, .mov (.t 20), none⟩,
  ⟨some 177, .bin .sub (.t 175) (.t 176), none⟩,
  ⟨some 24, .mov (.t 177), none⟩])
 (.lv [0, 1, 2, 3, 4, 18, 20, 24] (.seq (.seq (.reg none [⟨some 178, .mov (.t 20), none⟩,
  ⟨some 179, .mov (.t 2), none⟩,
  ⟨some 180, .bin .lt (.t 178) (.t 179), none⟩,
  ⟨some 181, .mov (.t 180), none⟩,
  ⟨some 182, .mov (.t 2), (some (181, true))⟩,
  ⟨some 183, .mov (.t 24), (some (181, true))⟩,
  ⟨some 184, .bin .lt (.t 182) (.t 183), (some (181, true))⟩,
  ⟨some 185, .pick (.t 181) (.t 184) (.k (.bool false)), none⟩])
 (.lv [0, 1, 2, 3, 4, 18, 20, 24, 185] (.cond (.t 185) (.lv [0, 1, 2, 3, 4, 18, 20, 24] (.reg none [⟨some 186, .mov (.t 0), none⟩,
  ⟨some 187, .mov (.t 20), none⟩,
  ⟨some 188, .mov (.t 2), none⟩,
  ⟨some 189, .mov (.t 24), none⟩,
  ⟨some 190, .mov (.t 4), none⟩,
  ⟨some 191, .callM 162 [.t 186, .t 187, .t 188, .t 189, .t 190], none⟩]))
 (.skip))))
 (.lv [0, 1, 3, 4, 18, 20, 24] t140_1)))
def k140_5 : IR :=
 .seq (.reg none [⟨some 129, .mov (.t 1), none⟩,
  ⟨some 130, .mov (.t 3), none⟩,
  ⟨some 131, .bin .add (.t 129) (.t 130), none⟩,
  ⟨some 132, .conv .u64 (.t 131), none⟩,
  ⟨some 133, .bin .shr (.t 132) (.k (.int .u64 1)), none⟩,
  ⟨some 134, .conv .i64 (.t 133), none⟩,
  ⟨some 18, .mov (.t 134), none⟩])
 (.lv [0, 1, 2, 3, 4, 18] (.seq (.reg none [⟨some 135, .mov (.t 18), none⟩,
  ⟨some 136, .mov (.t 2), none⟩,
  ⟨some 137, .bin .add (.t 135) (.t 136), none⟩,
  ⟨some 19, .mov (.t 137), none⟩])
 (.lv [0, 1, 2, 3, 4, 18, 19] (.seq (.reg none [⟨some 20, .mov (.k (.int .i64 0)), none⟩,
  ⟨some 21, .mov (.k (.int .i64 0)), none⟩])
 (.lv [0, 1, 2, 3, 4, 18, 19] (.seq (.seq (.reg none [⟨some 138, .mov (.t 2), none⟩,
  ⟨some 139, .mov (.t 18), none⟩,
  ⟨some 140, .bin .gt (.t 138) (.t 139), none⟩])
 (.lv [0, 1, 2, 3, 4, 18, 19, 140] (.cond (.t 140) (.lv [0, 1, 2, 3, 4, 18, 19] (.seq (.reg none [⟨some 141, .mov (.t 19), none⟩,
  ⟨some 142, .mov (.t 3), none⟩,
  ⟨some 143, .bin .sub (.t 141) (.t 142), none⟩,
  ⟨some 20, .mov (.t 143), none⟩])
 (.lv [0, 1, 2, 3, 4, 18, 19, 20] (.reg none [⟨some 144, .mov (.t 18), none⟩,
  ⟨some 21, .mov (.t 144), none⟩]))))
 (.lv [0, 1, 2, 3, 4, 18, 19] (.seq (.reg none [⟨some 145, .mov (.t 1), none⟩,
  ⟨some 20, .mov (.t 145), none⟩])
 (.lv [0, 1, 2, 3, 4, 18, 19, 20] (.reg none [⟨some 146, .mov (.t 2), none⟩,
  ⟨some 21, .mov (.t 146), none⟩])))))))
 (.lv [0, 1, 2, 3, 4, 18, 19, 20, 21] (.seq (.reg none [⟨some 147, .mov (.t 19), none⟩,
  ⟨some 148, .bin .sub (.t 147) (.k (.int .i64 1)), none⟩,
  ⟨some 22, .mov (.t 148), none⟩])
 (.lv [0, 1, 2, 3, 4, 18, 19, 20, 21, 22] (.seq (.block 8 (.loop [0, 1, 2, 3, 4, 18, 19, 20, 21, 22] none b140_4))
 k140_4))))))))))
def k140_6 : IR :=
 .seq (.seq (.reg none [⟨some 77, .mov (.t 3), none⟩,
  ⟨some 78, .mov (.t 2), none⟩,
  ⟨some 79, .bin .sub (.t 77) (.t 78), none⟩,
  ⟨some 80, .bin .eq (.t 79) (.k (.int .i64 1)), none⟩])
 (.lv [0, 1, 2, 3, 4, 80] (.cond (.t 80) (.lv [0, 1, 2, 4] (.seq (.reg none [⟨some 81, .mov (.t 1), none⟩,
  ⟨some 14, .mov (.t 81), none⟩])
 (.lv [0, 2, 4, 14] (.seq (.reg none [⟨some 82, .mov (.t 2), none⟩,
  ⟨some 15, .mov (.t 82), none⟩])
 (.lv [0, 2, 4, 14, 15] (.seq (.block 4 (.loop [0, 2, 4, 14, 15] none b140_2))
 k140_3))))))
 (.skip))))
 k140_5
def c140 : IR :=
 .seq (.seq (.reg none [⟨some 25, .mov (.t 2), none⟩,
  ⟨some 26, .mov (.t 1), none⟩,
  ⟨some 27, .bin .sub (.t 25) (.t 26), none⟩,
  ⟨some 28, .bin .eq (.t 27) (.k (.int .i64 1)), none⟩])
 (.lv [0, 1, 2, 3, 4, 28] (.cond (.t 28) (.lv [0, 1, 2, 3, 4] (.seq (.reg none [⟨some 29, .mov (.t 2), none⟩,
  ⟨some 10, .mov (.t 29), none⟩])
 (.lv [0, 1, 3, 4, 10] (.seq (.reg none [⟨some 30, .mov (.t 3), none⟩,
  ⟨some 11, .mov (.t 30), none⟩])
 (.lv [0, 1, 4, 10, 11] (.seq (.block 0 (.loop [0, 1, 4, 10, 11] none b140_0))
 k140_1))))))
 (.skip))))
 k140_6
def i140 : IFn := ⟨5, 220, c140, [], .ref⟩
def c141 : IR :=
 .seq (.reg none [⟨some 2, .mov (.k (.bool false)), none⟩])
 (.lv [0] (.seq (.reg none [⟨some 3, .mov (.t 0), none⟩,
  ⟨some 4, .mov (.t 0), none⟩,
  ⟨some 5, .bin .ne (.t 3) (.t 4), none⟩,
  ⟨some 2, .mov (.t 5), none⟩])
 (.ret)))
def i141 : IFn := ⟨1, 6, c141, [.t 2], .pure⟩
def c143 : IR :=
 .seq (.reg none [⟨some 1, .box 53 1 (.t 0), none⟩,
  ⟨some 2, .mov (.k (.bool false)), none⟩])
 (.lv [1] (.seq (.reg none [⟨some 3, .faddr 0 (.t 1), none⟩,
  ⟨some 4, .ld false 1 (.t 3), none⟩,
  ⟨some 5, .lenf (.t 4), none⟩,
  ⟨some 6, .bin .eq (.t 5) (.k (.int .i64 1)), none⟩,
  ⟨some 7, .mov (.t 6), none⟩,
  ⟨some 8, .faddr 0 (.t 1), (some (7, true))⟩,
  ⟨some 9, .ld false 1 (.t 8), (some (7, true))⟩,
  ⟨some 10, .iaddrf 1 (.t 9) (.k (.int .i64 0)), (some (7, true))⟩,
  ⟨some 11, .ldf false 1 (.t 10), (some (7, true))⟩,
  ⟨some 12, .bin .eq (.t 11) (.k (.int .u32 1)), (some (7, true))⟩,
  ⟨some 13, .pick (.t 7) (.t 12) (.k (.bool false)), none⟩,
  ⟨some 2, .mov (.t 13), none⟩])
 (.ret)))
def i143 : IFn := ⟨1, 14, c143, [.t 2], .pure⟩
def c144 : IR :=
 .seq (.reg none [⟨some 1, .box 53 1 (.t 0), none⟩,
  ⟨some 2, .mov (.k (.int .u64 0)), none⟩,
  ⟨some 3, .mov (.k (.bool false)), none⟩])
 (.lv [1] (.seq (.seq (.reg none [⟨some 4, .faddr 0 (.t 1), none⟩,
  ⟨some 5, .ld false 1 (.t 4), none⟩,
  ⟨some 6, .lenf (.t 5), none⟩])
 (.lv [1, 6] (.block 0 (.seq (.reg none [⟨some 8, .bin .eq (.t 6) (.k (.int .i64 0)), none⟩,
  ⟨some 7, .mov (.t 8), none⟩])
 (.lv [1, 6, 7] (.cond (.t 7) (.lv [] (.seq (.reg none [⟨some 2, .mov (.k (.int .u64 0)), none⟩,
  ⟨some 3, .mov (.k (.bool true)), none⟩])
 (.ret)))
 (.lv [1, 6] (.seq (.reg none [⟨some 10, .bin .eq (.t 6) (.k (.int .i64 1)), none⟩,
  ⟨some 9, .mov (.t 10), none⟩])
 (.lv [1, 6, 9] (.cond (.t 9) (.lv [1] (.seq (.reg none [⟨some 11, .faddr 0 (.t 1), none⟩,
  ⟨some 12, .ld false 1 (.t 11), none⟩,
  ⟨some 13, .iaddrf 1 (.t 12) (.k (.int .i64 0)), none⟩,
  ⟨some 14, .ldf false 1 (.t 13), none⟩,
  ⟨some 15, .conv .u64 (.t 14), none⟩,
  ⟨some 2, .mov (.t 15), none⟩,
  ⟨some 3, .mov (.k (.bool true)), none⟩])
 (.ret)))
 (.lv [1, 6] (.seq (.reg none [⟨some 17, .bin .eq (.t 6) (.k (.int .i64 2)), none⟩,
  ⟨some 16, .mov (.t 17), none⟩])
 (.lv [1, 16] (.cond (.t 16) (.lv [1] (.seq (.reg (some [0, 1, 2, 3, 4, 5, 6, 7, 8, 9, 10, 11, 12, 13]) [⟨some 18, .faddr 0 (.t 1), none⟩,
  ⟨some 19, .ld false 1 (.t 18), none⟩,
  ⟨some 20, .iaddrf 1 (.t 19) (.k (.int .i64 0)), none⟩,
  ⟨some 21, .ldf false 1 (.t 20), none⟩,
  ⟨some 22, .conv .u64 (.t 21), none⟩,
  ⟨some 23, .faddr 0 (.t 1), none⟩,
  ⟨some 24, .ld false 1 (.t 23), none⟩,
  ⟨some 25, .iaddrf 1 (.t 24) (.k (.int .i64 1)), none⟩,
  ⟨some 26, .ldf false 1 (.t 25), none⟩,
  ⟨some 27, .conv .u64 (.t 26), none⟩,
  ⟨some 28, .bin .shl (.t 27) (.k (.int .u64 32)), none⟩,
  ⟨some 29, .bin .or (.t 22) (.t 28), none⟩,
  ⟨some 2, .mov (.t 29), none⟩,
  ⟨some 3, .mov (.k (.bool true)), none⟩])
 (.ret)))
 (.skip)))))))))))))))
 (.lv [] (.seq (.reg none [⟨some 2, .mov (.k (.int .u64 0)), none⟩,
  ⟨some 3, .mov (.k (.bool false)), none⟩])
 (.ret)))))
def i144 : IFn := ⟨1, 30, c144, [.t 2, .t 3], .pure⟩
def c145 : IR :=
 .seq (.reg none [⟨some 1, .box 53 1 (.t 0), none⟩,
  ⟨some 2, .mov (.k (.bool false)), none⟩])
 (.lv [1] (.seq (.reg none [⟨some 3, .faddr 0 (.t 1), none⟩,
  ⟨some 4, .ld false 1 (.t 3), none⟩,
  ⟨some 5, .lenf (.t 4), none⟩,
  ⟨some 6, .bin .eq (.t 5) (.k (.int .i64 0)), none⟩,
  ⟨some 2, .mov (.t 6), none⟩])
 (.ret)))
def i145 : IFn := ⟨1, 7, c145, [.t 2], .pure⟩
def b146_0 : IR :=
 .seq (.seq (.reg none [⟨some 18, .mov (.t 8), none⟩,
  ⟨some 19, .bin .ge (.t 18) (.k (.int .i64 0)), none⟩])
 (.lv [1, 2, 4, 6, 7, 8, 19] (.cond (.t 19) (.skip)
 (.exit 0))))
 (.lv [1, 2, 4, 6, 7, 8] (.seq (.block 1 (.seq (.reg none [⟨some 22, .mov (.t 7), none⟩,
  ⟨some 23, .bin .shl (.t 22) (.k (.int .u64 32)), none⟩,
  ⟨some 24, .faddr 0 (.t 2), none⟩,
  ⟨some 25, .ld false 1 (.t 24), none⟩,
  ⟨some 26, .mov (.t 8), none⟩,
  ⟨some 27, .iaddrf 1 (.t 25) (.t 26), none⟩,
  ⟨some 28, .ldf false 1 (.t 27), none⟩,
  ⟨some 29, .conv .u64 (.t 28), none⟩,
  ⟨some 30, .bin .or (.t 23) (.t 29), none⟩,
  ⟨some 9, .mov (.t 30), none⟩])
 (.lv [1, 2, 4, 6, 8, 9] (.reg (some [0, 1, 2, 3, 4, 5, 6, 7, 8, 9, 10, 11, 12, 13]) [⟨some 31, .mov (.t 6), none⟩,
  ⟨some 32, .mov (.t 8), none⟩,
  ⟨some 33, .mov (.t 9), none⟩,
  ⟨some 34, .mov (.t 1), none⟩,
  ⟨some 35, .conv .u64 (.t 34), none⟩,
  ⟨some 36, .bin .quo (.t 33) (.t 35), none⟩,
  ⟨some 37, .conv .u32 (.t 36), none⟩,
  ⟨some 38, .mov (.t 9), none⟩,
  ⟨some 39, .mov (.t 1), none⟩,
  ⟨some 40, .conv .u64 (.t 39), none⟩,
  ⟨some 41, .bin .rem (.t 38) (.t 40), none⟩,
  ⟨some 42, .iaddr 1 (.t 31) (.t 32), none⟩,
  ⟨none, .st 1 (.t 42) (.t 37), none⟩,
  ⟨some 7, .mov (.t 41), none⟩]))))
 (.lv [1, 2, 4, 6, 7, 8] (.reg none [⟨some 20, .mov (.t 8), none⟩,
  ⟨some 21, .bin .sub (.t 20) (.k (.int .i64 1)), none⟩,
  ⟨some 8, .mov (.t 21), none⟩]))))
def k146_0 : IR :=
 .seq (.reg none [⟨some 43, .mov (.t 6), none⟩,
  ⟨some 44, .callF 137 [.t 43], none⟩,
  ⟨some 45, .mov (.t 7), none⟩,
  ⟨some 46, .conv .u32 (.t 45), none⟩,
  ⟨none, .st 1 (.t 4) (.t 44), none⟩,
  ⟨some 5, .mov (.t 46), none⟩])
 (.ret)
def c146 : IR :=
 .seq (.reg none [⟨some 2, .box 53 1 (.t 0), none⟩,
  ⟨some 4, .alloc 53 [.nilsl 162 1], none⟩,
  ⟨some 5, .mov (.k (.int .u32 0)), none⟩])
 (.lv [1, 2, 4] (.seq (.reg none [⟨some 10, .faddr 0 (.t 2), none⟩,
  ⟨some 11, .ld false 1 (.t 10), none⟩,
  ⟨some 12, .lenf (.t 11), none⟩,
  ⟨some 13, .mk 162 4 [.int .u32 0] (.t 12), none⟩,
  ⟨some 6, .mov (.t 13), none⟩])
 (.lv [1, 2, 4, 6] (.seq (.reg none [⟨some 7, .mov (.k (.int .u64 0)), none⟩])
 (.lv [1, 2, 4, 6, 7] (.seq (.seq (.reg none [⟨some 14, .faddr 0 (.t 2), none⟩,
  ⟨some 15, .ld false 1 (.t 14), none⟩,
  ⟨some 16, .lenf (.t 15), none⟩,
  ⟨some 17, .bin .sub (.t 16) (.k (.int .i64 1)), none⟩,
  ⟨some 8, .mov (.t 17), none⟩])
 (.lv [1, 2, 4, 6, 7, 8] (.block 0 (.loop [1, 2, 4, 6, 7, 8] (some (4, [])) b146_0))))
 k146_0))))))
def i146 : IFn := ⟨2, 47, c146, [.c 4 true 1, .t 5], .pure⟩
def b147_0 : IR :=
 .seq (.seq (.reg none [⟨some 4, .mov (.t 3), none⟩,
  ⟨some 5, .mov (.t 0), none⟩,
  ⟨some 6, .slen (.t 5), none⟩,
  ⟨some 7, .bin .lt (.t 4) (.t 6), none⟩,
  ⟨some 8, .mov (.t 7), none⟩,
  ⟨some 9, .mov (.t 3), (some (8, true))⟩,
  ⟨some 10, .bin .le (.t 9) (.k (.int .i64 2000)), (some (8, true))⟩,
  ⟨some 11, .pick (.t 8) (.t 10) (.k (.bool false)), none⟩])
 (.lv [0, 3, 11] (.cond (.t 11) (.skip)
 (.exit 0))))
 (.lv [0, 3] (.seq (.block 1 (.seq (.reg none [⟨some 14, .mov (.t 0), none⟩,
  ⟨some 15, .mov (.t 3), none⟩,
  ⟨some 16, .sidx (.t 14) (.t 15), none⟩,
  ⟨some 17, .bin .lt (.t 16) (.k (.int .u8 48)), none⟩,
  ⟨some 18, .mov (.t 17), none⟩,
  ⟨some 19, .mov (.t 0), (some (18, false))⟩,
  ⟨some 20, .mov (.t 3), (some (18, false))⟩,
  ⟨some 21, .sidx (.t 19) (.t 20), (some (18, false))⟩,
  ⟨some 22, .bin .gt (.t 21) (.k (.int .u8 57)), (some (18, false))⟩,
  ⟨some 23, .pick (.t 18) (.k (.bool true)) (.t 22), none⟩])
 (.lv [0, 3, 23] (.cond (.t 23) (.lv [] (.seq (.reg none [⟨some 2, .mov (.k (.bool false)), none⟩])
 (.ret)))
 (.skip)))))
 (.lv [0, 3] (.reg none [⟨some 12, .mov (.t 3), none⟩,
  ⟨some 13, .bin .add (.t 12) (.k (.int .i64 1)), none⟩,
  ⟨some 3, .mov (.t 13), none⟩]))))
def k147_0 : IR :=
 .seq (.reg none [⟨some 24, .mov (.t 0), none⟩,
  ⟨some 25, .slen (.t 24), none⟩,
  ⟨some 26, .bin .ge (.t 25) (.k (.int .i64 1)), none⟩,
  ⟨some 27, .mov (.t 26), none⟩,
  ⟨some 28, .mov (.t 0), (some (27, true))⟩,
  ⟨some 29, .slen (.t 28), (some (27, true))⟩,
  ⟨some 30, .bin .le (.t 29) (.k (.int .i64 2000)), (some (27, true))⟩,
  ⟨some 31, .pick (.t 27) (.t 30) (.k (.bool false)), none⟩,
  ⟨some 2, .mov (.t 31), none⟩])
 (.ret)
def c147 : IR :=
 .seq (.reg none [⟨some 2, .mov (.k (.bool false)), none⟩])
 (.lv [0] (.seq (.seq (.reg none [⟨some 3, .mov (.k (.int .i64 0)), none⟩])
 (.lv [0, 3] (.block 0 (.loop [0, 3] (some (0, [])) b147_0))))
 k147_0))
def i147 : IFn := ⟨1, 32, c147, [.t 2], .pure⟩
def b148_0 : IR :=
 .seq (.seq (.reg none [⟨some 3, .mov (.t 0), none⟩,
  ⟨some 4, .slen (.t 3), none⟩,
  ⟨some 5, .bin .gt (.t 4) (.k (.int .i64 1)), none⟩,
  ⟨some 6, .mov (.t 5), none⟩,
  ⟨some 7, .mov (.t 0), (some (6, true))⟩,
  ⟨some 8, .sidx (.t 7) (.k (.int .i64 0)), (some (6, true))⟩,
  ⟨some 9, .bin .eq (.t 8) (.k (.int .u8 48)), (some (6, true))⟩,
  ⟨some 10, .pick (.t 6) (.t 9) (.k (.bool false)), none⟩])
 (.lv [0, 10] (.cond (.t 10) (.skip)
 (.exit 0))))
 (.lv [0] (.block 1 (.reg none [⟨some 11, .mov (.t 0), none⟩,
  ⟨some 12, .scut (.t 11) (some (.k (.int .i64 1))) none, none⟩,
  ⟨some 0, .mov (.t 12), none⟩])))
def k148_0 : IR :=
 .seq (.reg none [⟨some 13, .mov (.t 0), none⟩,
  ⟨some 2, .mov (.t 13), none⟩])
 (.ret)
def c148 : IR :=
 .seq (.reg none [⟨some 2, .mov (.k (.str ⟨#[]⟩)), none⟩])
 (.lv [0] (.seq (.block 0 (.loop [0] (some (0, [])) b148_0))
 k148_0))
def i148 : IFn := ⟨1, 14, c148, [.t 2], .pure⟩
def b149_0 : IR :=
 .seq (.seq (.reg none [⟨some 8, .mov (.t 5), none⟩,
  ⟨some 9, .bin .lt (.t 8) (.k (.int .i64 20000)), none⟩,
  ⟨some 10, .mov (.t 9), none⟩,
  ⟨some 11, .mov (.t 1), (some (10, true))⟩,
  ⟨some 12, .bin .ne (.t 11) (.k (.str ⟨#[48]⟩)), (some (10, true))⟩,
  ⟨some 13, .pick (.t 10) (.t 12) (.k (.bool false)), none⟩])
 (.lv [0, 1, 5, 13] (.cond (.t 13) (.skip)
 (.exit 0))))
 (.lv [0, 1, 5] (.seq (.block 1 (.seq (.reg none [⟨some 17, .mov (.t 0), none⟩,
  ⟨some 18, .mov (.t 1), none⟩,
  ⟨some 19, .callP 158 [.t 17, .t 18], none⟩,
  ⟨some 16, .mov (.t 19), none⟩,
  ⟨some 20, .ext (.t 16) 0, none⟩,
  ⟨some 21, .ext (.t 16) 1, none⟩,
  ⟨some 6, .mov (.t 20), none⟩,
  ⟨some 7, .mov (.t 21), none⟩])
 (.lv [1, 5, 7] (.seq (.reg none [⟨some 22, .mov (.t 1), none⟩,
  ⟨some 0, .mov (.t 22), none⟩])
 (.lv [0, 5, 7] (.reg none [⟨some 23, .mov (.t 7), none⟩,
  ⟨some 1, .mov (.t 23), none⟩]))))))
 (.lv [0, 1, 5] (.reg none [⟨some 14, .mov (.t 5), none⟩,
  ⟨some 15, .bin .add (.t 14) (.k (.int .i64 1)), none⟩,
  ⟨some 5, .mov (.t 15), none⟩]))))
def k149_0 : IR :=
 .seq (.reg none [⟨some 24, .mov (.t 0), none⟩,
  ⟨some 4, .mov (.t 24), none⟩])
 (.ret)
def c149 : IR :=
 .seq (.reg none [⟨some 4, .mov (.k (.str ⟨#[]⟩)), none⟩])
 (.lv [0, 1] (.seq (.seq (.reg none [⟨some 5, .mov (.k (.int .i64 0)), none⟩])
 (.lv [0, 1, 5] (.block 0 (.loop [0, 1, 5] (some (0, [])) b149_0))))
 k149_0))
def i149 : IFn := ⟨2, 25, c149, [.t 4], .pure⟩
def b150_0 : IR :=
 .seq (.seq (.reg none [⟨some 12, .mov (.t 4), none⟩,
  ⟨some 13, .bin .ge (.t 12) (.k (.int .i64 0)), none⟩])
 (.lv [0, 3, 4, 13] (.cond (.t 13) (.skip)
 (.exit 0))))
 (.lv [0, 3, 4] (.seq (.block 1 (.reg none [⟨some 16, .mov (.t 3), none⟩,
  ⟨some 17, .mov (.t 0), none⟩,
  ⟨some 18, .mov (.t 4), none⟩,
  ⟨some 19, .iaddrf 1 (.t 17) (.t 18), none⟩,
  ⟨some 20, .ldf false 1 (.t 19), none⟩,
  ⟨some 21, .bin .add (.k (.int .i64 48)) (.t 20), none⟩,
  ⟨some 22, .conv .u8 (.t 21), none⟩,
  ⟨some 23, .bsl 5 1 [.t 22], none⟩,
  ⟨some 24, .app 5 1 1 (.t 16) (.t 23), none⟩,
  ⟨some 3, .mov (.t 24), none⟩]))
 (.lv [0, 3, 4] (.reg none [⟨some 14, .mov (.t 4), none⟩,
  ⟨some 15, .bin .sub (.t 14) (.k (.int .i64 1)), none⟩,
  ⟨some 4, .mov (.t 15), none⟩]))))
def k150_0 : IR :=
 .seq (.seq (.reg none [⟨some 25, .mov (.t 3), none⟩,
  ⟨some 26, .len (.t 25), none⟩,
  ⟨some 27, .bin .eq (.t 26) (.k (.int .i64 0)), none⟩])
 (.lv [3, 27] (.cond (.t 27) (.lv [] (.seq (.reg none [⟨some 2, .mov (.k (.str ⟨#[48]⟩)), none⟩])
 (.ret)))
 (.skip))))
 (.lv [3] (.seq (.reg none [⟨some 28, .mov (.t 3), none⟩,
  ⟨some 29, .b2s (.t 28), none⟩,
  ⟨some 30, .callP 148 [.t 29], none⟩,
  ⟨some 2, .mov (.t 30), none⟩])
 (.ret)))
def c150 : IR :=
 .seq (.reg none [⟨some 2, .mov (.k (.str ⟨#[]⟩)), none⟩])
 (.lv [0] (.seq (.reg none [⟨some 5, .mov (.t 0), none⟩,
  ⟨some 6, .lenf (.t 5), none⟩,
  ⟨some 7, .bin .add (.t 6) (.k (.int .i64 1)), none⟩,
  ⟨some 8, .mk0 5 1 1 (.t 7), none⟩,
  ⟨some 3, .mov (.t 8), none⟩])
 (.lv [0, 3] (.seq (.seq (.reg none [⟨some 9, .mov (.t 0), none⟩,
  ⟨some 10, .lenf (.t 9), none⟩,
  ⟨some 11, .bin .sub (.t 10) (.k (.int .i64 1)), none⟩,
  ⟨some 4, .mov (.t 11), none⟩])
 (.lv [0, 3, 4] (.block 0 (.loop [0, 3, 4] (some (1, [])) b150_0))))
 k150_0))))
def i150 : IFn := ⟨1, 31, c150, [.t 2], .pure⟩
def b151_1 : IR :=
 .seq (.seq (.reg none [⟨some 29, .mov (.t 7), none⟩,
  ⟨some 30, .bin .ne (.t 29) (.k (.int .u64 0)), none⟩])
 (.lv [4, 5, 7, 30] (.cond (.t 30) (.skip)
 (.exit 2))))
 (.lv [4, 5, 7] (.block 3 (.reg (some [0, 1, 2, 3, 4, 5]) [⟨some 31, .mov (.t 7), none⟩,
  ⟨some 32, .mov (.t 5), none⟩,
  ⟨some 33, .mov (.t 7), none⟩,
  ⟨some 34, .bin .rem (.t 32) (.t 33), none⟩,
  ⟨some 5, .mov (.t 31), none⟩,
  ⟨some 7, .mov (.t 34), none⟩])))
def k151_0 : IR :=
 .seq (.reg none [⟨some 35, .mov (.t 5), none⟩,
  ⟨some 36, .callP 99 [.t 35], none⟩,
  ⟨none, .st 1 (.t 4) (.t 36), none⟩])
 (.ret)
def k151_1 : IR :=
 .seq (.reg none [⟨some 38, .ld true 1 (.t 2), none⟩,
  ⟨some 39, .ld true 1 (.t 3), none⟩,
  ⟨some 40, .callF 153 [.t 38, .t 39], none⟩,
  ⟨some 37, .mov (.t 40), none⟩,
  ⟨some 41, .ext (.t 37) 0, none⟩,
  ⟨some 42, .ext (.t 37) 1, none⟩,
  ⟨some 43, .ext (.t 37) 2, none⟩,
  ⟨some 9, .alloc 53 [.nilsl 162 1], none⟩,
  ⟨some 10, .alloc 53 [.nilsl 162 1], none⟩,
  ⟨none, .st 1 (.t 9) (.t 41), none⟩,
  ⟨none, .st 1 (.t 10) (.t 42), none⟩,
  ⟨some 11, .mov (.t 43), none⟩])
 (.lv [2, 3, 4, 10] (.reg (some [0, 1, 2, 3]) [⟨some 44, .ld true 1 (.t 3), none⟩,
  ⟨some 45, .ld true 1 (.t 10), none⟩,
  ⟨none, .sta [10] 1 (.t 2) (.t 44), none⟩,
  ⟨none, .st 1 (.t 3) (.t 45), none⟩]))
def b151_0 : IR :=
 .seq (.seq (.reg none [⟨some 12, .ld true 1 (.t 3), none⟩,
  ⟨some 13, .callR 145 [.t 12], none⟩,
  ⟨some 14, .not (.t 13), none⟩])
 (.lv [2, 3, 4, 14] (.cond (.t 14) (.skip)
 (.exit 0))))
 (.lv [2, 3, 4] (.block 1 (.seq (.reg none [⟨some 16, .ld true 1 (.t 2), none⟩,
  ⟨some 17, .callR 144 [.t 16], none⟩,
  ⟨some 15, .mov (.t 17), none⟩,
  ⟨some 18, .ext (.t 15) 0, none⟩,
  ⟨some 19, .ext (.t 15) 1, none⟩,
  ⟨some 5, .mov (.t 18), none⟩,
  ⟨some 6, .mov (.t 19), none⟩])
 (.lv [2, 3, 4, 5, 6] (.seq (.reg none [⟨some 21, .ld true 1 (.t 3), none⟩,
  ⟨some 22, .callR 144 [.t 21], none⟩,
  ⟨some 20, .mov (.t 22), none⟩,
  ⟨some 23, .ext (.t 20) 0, none⟩,
  ⟨some 24, .ext (.t 20) 1, none⟩,
  ⟨some 7, .mov (.t 23), none⟩,
  ⟨some 8, .mov (.t 24), none⟩])
 (.lv [2, 3, 4, 5, 6, 7, 8] (.seq (.seq (.reg none [⟨some 25, .mov (.t 6), none⟩,
  ⟨some 26, .mov (.t 25), none⟩,
  ⟨some 27, .mov (.t 8), (some (26, true))⟩,
  ⟨some 28, .pick (.t 26) (.t 27) (.k (.bool false)), none⟩])
 (.lv [2, 3, 4, 5, 7, 28] (.cond (.t 28) (.lv [4, 5, 7] (.seq (.block 2 (.loop [4, 5, 7] (some (4, [])) b151_1))
 k151_0))
 (.skip))))
 k151_1)))))))
def k151_2 : IR :=
 .seq (.reg none [⟨some 46, .ld true 1 (.t 2), none⟩,
  ⟨none, .st 1 (.t 4) (.t 46), none⟩])
 (.ret)
def c151 : IR :=
 .seq (.reg none [⟨some 2, .box 53 1 (.t 0), none⟩,
  ⟨some 3, .box 53 1 (.t 1), none⟩,
  ⟨some 4, .alloc 53 [.nilsl 162 1], none⟩])
 (.lv [2, 3, 4] (.seq (.block 0 (.loop [2, 3, 4] (some (4, [])) b151_0))
 k151_2))
def i151 : IFn := ⟨2, 47, c151, [.c 4 true 1], .pure⟩
def c152 : IR :=
 .seq (.reg none [⟨some 1, .box 55 2 (.t 0), none⟩,
  ⟨some 2, .alloc 53 [.nilsl 162 1], none⟩])
 (.lv [1, 2] (.seq (.reg none [⟨some 3, .faddr 0 (.t 1), none⟩,
  ⟨some 4, .ld true 1 (.t 3), none⟩,
  ⟨none, .st 1 (.t 2) (.t 4), none⟩])
 (.ret)))
def i152 : IFn := ⟨1, 5, c152, [.c 2 true 1], .pure⟩
def c153 : IR :=
 .seq (.reg none [⟨some 2, .box 53 1 (.t 0), none⟩,
  ⟨some 3, .box 53 1 (.t 1), none⟩,
  ⟨some 4, .alloc 53 [.nilsl 162 1], none⟩,
  ⟨some 5, .alloc 53 [.nilsl 162 1], none⟩,
  ⟨some 6, .mov (.k (.bool false)), none⟩])
 (.lv [2, 3, 4, 5] (.seq (.block 0 (.seq (.reg none [⟨some 12, .faddr 0 (.t 3), none⟩,
  ⟨some 13, .ld false 1 (.t 12), none⟩,
  ⟨some 14, .lenf (.t 13), none⟩,
  ⟨some 15, .bin .eq (.t 14) (.k (.int .i64 0)), none⟩,
  ⟨some 11, .mov (.t 15), none⟩])
 (.lv [2, 3, 4, 5, 11] (.cond (.t 11) (.lv [4, 5] (.seq (.reg none [⟨some 16, .build [.nilsl 162 1] [], none⟩,
  ⟨some 17, .build [.nilsl 162 1] [], none⟩,
  ⟨none, .st 1 (.t 4) (.t 16), none⟩,
  ⟨none, .st 1 (.t 5) (.t 17), none⟩,
  ⟨some 6, .mov (.k (.bool false)), none⟩])
 (.ret)))
 (.lv [2, 3, 4, 5] (.seq (.reg none [⟨some 19, .ld true 1 (.t 2), none⟩,
  ⟨some 20, .ld true 1 (.t 3), none⟩,
  ⟨some 21, .callP 112 [.t 19, .t 20], none⟩,
  ⟨some 22, .bin .lt (.t 21) (.k (.int .i64 0)), none⟩,
  ⟨some 18, .mov (.t 22), none⟩])
 (.lv [2, 3, 4, 5, 18] (.cond (.t 18) (.lv [2, 4, 5] (.seq (.reg (some [0, 1, 2, 3, 4]) [⟨some 23, .build [.nilsl 162 1] [], none⟩,
  ⟨some 24, .ld true 1 (.t 2), none⟩,
  ⟨none, .sta [2] 1 (.t 4) (.t 23), none⟩,
  ⟨none, .st 1 (.t 5) (.t 24), none⟩,
  ⟨some 6, .mov (.k (.bool true)), none⟩])
 (.ret)))
 (.lv [2, 3, 4, 5] (.seq (.reg none [⟨some 26, .faddr 0 (.t 3), none⟩,
  ⟨some 27, .ld false 1 (.t 26), none⟩,
  ⟨some 28, .lenf (.t 27), none⟩,
  ⟨some 29, .bin .eq (.t 28) (.k (.int .i64 1)), none⟩,
  ⟨some 25, .mov (.t 29), none⟩])
 (.lv [2, 3, 4, 5, 25] (.cond (.t 25) (.lv [2, 3, 4, 5] (.seq (.reg (some [0, 1, 2, 3, 4, 5, 6, 7, 8, 9, 10, 11]) [⟨some 31, .ld true 1 (.t 2), none⟩,
  ⟨some 32, .faddr 0 (.t 3), none⟩,
  ⟨some 33, .ld false 1 (.t 32), none⟩,
  ⟨some 34, .iaddrf 1 (.t 33) (.k (.int .i64 0)), none⟩,
  ⟨some 35, .ldf false 1 (.t 34), none⟩,
  ⟨some 36, .callP 146 [.t 31, .t 35], none⟩,
  ⟨some 30, .mov (.t 36), none⟩,
  ⟨some 37, .ext (.t 30) 0, none⟩,
  ⟨some 38, .ext (.t 30) 1, none⟩,
  ⟨some 7, .alloc 53 [.nilsl 162 1], none⟩,
  ⟨none, .st 1 (.t 7) (.t 37), none⟩,
  ⟨some 8, .mov (.t 38), none⟩])
 (.lv [4, 5, 7, 8] (.seq (.reg (some [0, 1, 2, 3, 4, 5, 6]) [⟨some 39, .ld true 1 (.t 7), none⟩,
  ⟨some 40, .mov (.t 8), none⟩,
  ⟨some 41, .conv .u64 (.t 40), none⟩,
  ⟨some 42, .callP 99 [.t 41], none⟩,
  ⟨none, .st 1 (.t 4) (.t 39), none⟩,
  ⟨none, .st 1 (.t 5) (.t 42), none⟩,
  ⟨some 6, .mov (.k (.bool true)), none⟩])
 (.ret)))))
 (.skip)))))))))))))
 (.lv [2, 3, 4, 5] (.seq (.reg none [⟨some 44, .ld true 1 (.t 2), none⟩,
  ⟨some 45, .ld true 1 (.t 3), none⟩,
  ⟨some 46, .callP 165 [.t 44, .t 45], none⟩,
  ⟨some 43, .mov (.t 46), none⟩,
  ⟨some 47, .ext (.t 43) 0, none⟩,
  ⟨some 48, .ext (.t 43) 1, none⟩,
  ⟨some 9, .alloc 53 [.nilsl 162 1], none⟩,
  ⟨some 10, .alloc 53 [.nilsl 162 1], none⟩,
  ⟨none, .st 1 (.t 9) (.t 47), none⟩,
  ⟨none, .st 1 (.t 10) (.t 48), none⟩])
 (.lv [4, 5, 9, 10] (.seq (.reg (some [0, 1, 2, 3, 4]) [⟨some 49, .ld true 1 (.t 9), none⟩,
  ⟨some 50, .ld true 1 (.t 10), none⟩,
  ⟨none, .sta [10] 1 (.t 4) (.t 49), none⟩,
  ⟨none, .st 1 (.t 5) (.t 50), none⟩,
  ⟨some 6, .mov (.k (.bool true)), none⟩])
 (.ret)))))))
def i153 : IFn := ⟨2, 51, c153, [.c 4 true 1, .c 5 true 1, .t 6], .pure⟩
def b156_0 : IR :=
 .seq (.reg none [⟨some 29, .bin .lt (.t 28) (.t 27), none⟩])
 (.lv [4, 5, 6, 7, 8, 27, 28, 29] (.seq (.cond (.t 29) (.skip)
 (.exit 0))
 (.lv [4, 5, 6, 7, 8, 27, 28] (.seq (.block 1 (.seq (.reg none [⟨some 30, .mov (.t 28), none⟩,
  ⟨some 9, .mov (.t 30), none⟩])
 (.lv [4, 5, 6, 7, 8, 9, 27, 28] (.seq (.reg none [⟨some 10, .mov (.k (.int .u32 0)), none⟩])
 (.lv [4, 5, 6, 7, 8, 9, 10, 27, 28] (.seq (.seq (.reg none [⟨some 31, .mov (.t 9), none⟩,
  ⟨some 32, .mov (.t 6), none⟩,
  ⟨some 33, .lenf (.t 32), none⟩,
  ⟨some 34, .bin .lt (.t 31) (.t 33), none⟩])
 (.lv [4, 5, 6, 7, 8, 9, 10, 27, 28, 34] (.cond (.t 34) (.lv [4, 5, 6, 7, 8, 9, 27, 28] (.reg none [⟨some 35, .mov (.t 6), none⟩,
  ⟨some 36, .mov (.t 9), none⟩,
  ⟨some 37, .iaddrf 1 (.t 35) (.t 36), none⟩,
  ⟨some 38, .ldf false 1 (.t 37), none⟩,
  ⟨some 10, .mov (.t 38), none⟩]))
 (.skip))))
 (.lv [4, 5, 6, 7, 8, 9, 10, 27, 28] (.reg none [⟨some 40, .mov (.t 7), none⟩,
  ⟨some 41, .mov (.t 9), none⟩,
  ⟨some 42, .mov (.t 5), none⟩,
  ⟨some 43, .mov (.t 9), none⟩,
  ⟨some 44, .iaddrf 1 (.t 42) (.t 43), none⟩,
  ⟨some 45, .ldf false 1 (.t 44), none⟩,
  ⟨some 46, .mov (.t 10), none⟩,
  ⟨some 47, .mov (.t 8), none⟩,
  ⟨some 48, .callP 167 [.t 45, .t 46, .t 47], none⟩,
  ⟨some 39, .mov (.t 48), none⟩,
  ⟨some 49, .ext (.t 39) 0, none⟩,
  ⟨some 50, .ext (.t 39) 1, none⟩,
  ⟨some 51, .iaddr 1 (.t 40) (.t 41), none⟩,
  ⟨none, .st 1 (.t 51) (.t 49), none⟩,
  ⟨some 8, .mov (.t 50), none⟩]))))))))
 (.lv [4, 5, 6, 7, 8, 27, 28] (.reg none [⟨some 52, .bin .add (.t 28) (.k (.int .i64 1)), none⟩,
  ⟨some 28, .mov (.t 52), none⟩]))))))
def k156_0 : IR :=
 .seq (.reg none [⟨some 53, .mov (.t 7), none⟩,
  ⟨some 54, .mov (.t 5), none⟩,
  ⟨some 55, .lenf (.t 54), none⟩,
  ⟨some 56, .mov (.t 8), none⟩,
  ⟨some 57, .iaddr 1 (.t 53) (.t 55), none⟩,
  ⟨none, .st 1 (.t 57) (.t 56), none⟩])
 (.lv [4, 7] (.seq (.reg none [⟨some 58, .mov (.t 7), none⟩,
  ⟨some 59, .callF 137 [.t 58], none⟩,
  ⟨none, .st 1 (.t 4) (.t 59), none⟩])
 (.ret)))
def c156 : IR :=
 .seq (.reg none [⟨some 2, .box 53 1 (.t 0), none⟩,
  ⟨some 3, .box 53 1 (.t 1), none⟩,
  ⟨some 4, .alloc 53 [.nilsl 162 1], none⟩])
 (.lv [2, 3, 4] (.seq (.reg (some [0, 1, 2, 3, 4, 5]) [⟨some 11, .faddr 0 (.t 2), none⟩,
  ⟨some 12, .ld false 1 (.t 11), none⟩,
  ⟨some 13, .faddr 0 (.t 3), none⟩,
  ⟨some 14, .ld false 1 (.t 13), none⟩,
  ⟨some 5, .mov (.t 12), none⟩,
  ⟨some 6, .mov (.t 14), none⟩])
 (.lv [4, 5, 6] (.seq (.seq (.reg none [⟨some 15, .mov (.t 5), none⟩,
  ⟨some 16, .lenf (.t 15), none⟩,
  ⟨some 17, .mov (.t 6), none⟩,
  ⟨some 18, .lenf (.t 17), none⟩,
  ⟨some 19, .bin .lt (.t 16) (.t 18), none⟩])
 (.lv [4, 5, 6, 19] (.cond (.t 19) (.lv [4, 5, 6] (.reg none [⟨some 20, .mov (.t 6), none⟩,
  ⟨some 21, .mov (.t 5), none⟩,
  ⟨some 5, .mov (.t 20), none⟩,
  ⟨some 6, .mov (.t 21), none⟩]))
 (.skip))))
 (.lv [4, 5, 6] (.seq (.reg none [⟨some 22, .mov (.t 5), none⟩,
  ⟨some 23, .lenf (.t 22), none⟩,
  ⟨some 24, .bin .add (.t 23) (.k (.int .i64 1)), none⟩,
  ⟨some 25, .mk 162 4 [.int .u32 0] (.t 24), none⟩,
  ⟨some 7, .mov (.t 25), none⟩])
 (.lv [4, 5, 6, 7] (.seq (.reg none [⟨some 8, .mov (.k (.int .u32 0)), none⟩])
 (.lv [4, 5, 6, 7, 8] (.seq (.seq (.reg none [⟨some 26, .mov (.t 5), none⟩,
  ⟨some 27, .lenf (.t 26), none⟩,
  ⟨some 28, .mov (.k (.int .i64 0)), none⟩])
 (.lv [4, 5, 6, 7, 8, 27, 28] (.block 0 (.loop [4, 5, 6, 7, 8, 27, 28] (some (5, [])) b156_0))))
 k156_0))))))))))
def i156 : IFn := ⟨2, 60, c156, [.c 4 true 1], .pure⟩
def b158_1 : IR :=
 .seq (.seq (.reg none [⟨some 27, .mov (.t 7), none⟩,
  ⟨some 28, .mov (.t 1), none⟩,
  ⟨some 29, .callP 164 [.t 27, .t 28], none⟩,
  ⟨some 30, .bin .ge (.t 29) (.k (.int .i64 0)), none⟩,
  ⟨some 31, .mov (.t 30), none⟩,
  ⟨some 32, .mov (.t 9), (some (31, true))⟩,
  ⟨some 33, .bin .lt (.t 32) (.k (.int .i64 10)), (some (31, true))⟩,
  ⟨some 34, .pick (.t 31) (.t 33) (.k (.bool false)), none⟩])
 (.lv [0, 1, 6, 7, 8, 9, 34] (.cond (.t 34) (.skip)
 (.exit 2))))
 (.lv [0, 1, 6, 7, 8, 9] (.block 3 (.seq (.reg none [⟨some 35, .mov (.t 7), none⟩,
  ⟨some 36, .mov (.t 1), none⟩,
  ⟨some 37, .callP 169 [.t 35, .t 36], none⟩,
  ⟨some 7, .mov (.t 37), none⟩])
 (.lv [0, 1, 6, 7, 8, 9] (.reg none [⟨some 38, .mov (.t 9), none⟩,
  ⟨some 39, .bin .add (.t 38) (.k (.int .i64 1)), none⟩,
  ⟨some 9, .mov (.t 39), none⟩])))))
def k158_0 : IR :=
 .reg none [⟨some 40, .mov (.t 6), none⟩,
  ⟨some 41, .mov (.t 9), none⟩,
  ⟨some 42, .bin .add (.k (.int .i64 48)) (.t 41), none⟩,
  ⟨some 43, .conv .u8 (.t 42), none⟩,
  ⟨some 44, .bsl 5 1 [.t 43], none⟩,
  ⟨some 45, .app 5 1 1 (.t 40) (.t 44), none⟩,
  ⟨some 6, .mov (.t 45), none⟩]
def k158_1 : IR :=
 .reg none [⟨some 17, .mov (.t 8), none⟩,
  ⟨some 18, .bin .add (.t 17) (.k (.int .i64 1)), none⟩,
  ⟨some 8, .mov (.t 18), none⟩]
def b158_0 : IR :=
 .seq (.seq (.reg none [⟨some 13, .mov (.t 8), none⟩,
  ⟨some 14, .mov (.t 0), none⟩,
  ⟨some 15, .slen (.t 14), none⟩,
  ⟨some 16, .bin .lt (.t 13) (.t 15), none⟩])
 (.lv [0, 1, 6, 7, 8, 16] (.cond (.t 16) (.skip)
 (.exit 0))))
 (.lv [0, 1, 6, 7, 8] (.seq (.block 1 (.seq (.reg none [⟨some 19, .mov (.t 7), none⟩,
  ⟨some 20, .mov (.t 0), none⟩,
  ⟨some 21, .mov (.t 8), none⟩,
  ⟨some 22, .mov (.t 8), none⟩,
  ⟨some 23, .bin .add (.t 22) (.k (.int .i64 1)), none⟩,
  ⟨some 24, .scut (.t 20) (some (.t 21)) (some (.t 23)), none⟩,
  ⟨some 25, .bin .add (.t 19) (.t 24), none⟩,
  ⟨some 26, .callP 148 [.t 25], none⟩,
  ⟨some 7, .mov (.t 26), none⟩])
 (.lv [0, 1, 6, 7, 8] (.seq (.reg none [⟨some 9, .mov (.k (.int .i64 0)), none⟩])
 (.lv [0, 1, 6, 7, 8, 9] (.seq (.block 2 (.loop [0, 1, 6, 7, 8, 9] (some (1, [])) b158_1))
 k158_0))))))
 k158_1))
def k158_2 : IR :=
 .seq (.reg none [⟨some 46, .mov (.t 6), none⟩,
  ⟨some 47, .b2s (.t 46), none⟩,
  ⟨some 48, .callP 148 [.t 47], none⟩,
  ⟨some 49, .mov (.t 7), none⟩,
  ⟨some 4, .mov (.t 48), none⟩,
  ⟨some 5, .mov (.t 49), none⟩])
 (.ret)
def c158 : IR :=
 .seq (.reg none [⟨some 4, .mov (.k (.str ⟨#[]⟩)), none⟩,
  ⟨some 5, .mov (.k (.str ⟨#[]⟩)), none⟩])
 (.lv [0, 1] (.seq (.reg none [⟨some 10, .mov (.t 0), none⟩,
  ⟨some 11, .slen (.t 10), none⟩,
  ⟨some 12, .mk0 5 1 1 (.t 11), none⟩,
  ⟨some 6, .mov (.t 12), none⟩])
 (.lv [0, 1, 6] (.seq (.reg none [⟨some 7, .mov (.k (.str ⟨#[48]⟩)), none⟩])
 (.lv [0, 1, 6, 7] (.seq (.seq (.reg none [⟨some 8, .mov (.k (.int .i64 0)), none⟩])
 (.lv [0, 1, 6, 7, 8] (.block 0 (.loop [0, 1, 6, 7, 8] (some (1, [])) b158_0))))
 k158_2))))))
def i158 : IFn := ⟨2, 50, c158, [.t 4, .t 5], .pure⟩
def b162_0 : IR :=
 .seq (.seq (.reg none [⟨some 18, .mov (.t 10), none⟩,
  ⟨some 19, .mov (.t 11), none⟩,
  ⟨some 20, .bin .ne (.t 18) (.t 19), none⟩])
 (.lv [0, 2, 4, 10, 11, 20] (.cond (.t 20) (.skip)
 (.exit 0))))
 (.lv [0, 2, 4, 10, 11] (.block 1 (.seq (.reg none [⟨some 21, .mov (.t 10), none⟩,
  ⟨some 22, .mov (.t 11), none⟩,
  ⟨some 23, .bin .gt (.t 21) (.t 22), none⟩])
 (.lv [0, 2, 4, 10, 11, 23] (.cond (.t 23) (.lv [0, 2, 4, 10, 11] (.seq (.reg none [⟨some 24, .mov (.t 0), none⟩,
  ⟨some 25, .mov (.t 2), none⟩,
  ⟨some 26, .mov (.t 10), none⟩,
  ⟨some 27, .bin .sub (.t 25) (.t 26), none⟩,
  ⟨some 28, .mov (.t 2), none⟩,
  ⟨some 29, .mov (.t 11), none⟩,
  ⟨some 30, .mov (.t 4), none⟩,
  ⟨some 31, .callM 172 [.t 24, .t 27, .t 28, .t 29, .t 30], none⟩])
 (.lv [0, 2, 4, 10, 11] (.reg none [⟨some 32, .mov (.t 10), none⟩,
  ⟨some 33, .mov (.t 11), none⟩,
  ⟨some 34, .bin .sub (.t 32) (.t 33), none⟩,
  ⟨some 10, .mov (.t 34), none⟩]))))
 (.lv [0, 2, 4, 10, 11] (.seq (.reg none [⟨some 35, .mov (.t 0), none⟩,
  ⟨some 36, .mov (.t 2), none⟩,
  ⟨some 37, .mov (.t 10), none⟩,
  ⟨some 38, .bin .sub (.t 36) (.t 37), none⟩,
  ⟨some 39, .mov (.t 2), none⟩,
  ⟨some 40, .mov (.t 11), none⟩,
  ⟨some 41, .bin .add (.t 39) (.t 40), none⟩,
  ⟨some 42, .mov (.t 10), none⟩,
  ⟨some 43, .bin .sub (.t 41) (.t 42), none⟩,
  ⟨some 44, .mov (.t 10), none⟩,
  ⟨some 45, .mov (.t 4), none⟩,
  ⟨some 46, .callM 172 [.t 35, .t 38, .t 43, .t 44, .t 45], none⟩])
 (.lv [0, 2, 4, 10, 11] (.reg none [⟨some 47, .mov (.t 11), none⟩,
  ⟨some 48, .mov (.t 10), none⟩,
  ⟨some 49, .bin .sub (.t 47) (.t 48), none⟩,
  ⟨some 11, .mov (.t 49), none⟩])))))))))
def k162_0 : IR :=
 .reg none [⟨some 50, .mov (.t 0), none⟩,
  ⟨some 51, .mov (.t 2), none⟩,
  ⟨some 52, .mov (.t 10), none⟩,
  ⟨some 53, .bin .sub (.t 51) (.t 52), none⟩,
  ⟨some 54, .mov (.t 2), none⟩,
  ⟨some 55, .mov (.t 10), none⟩,
  ⟨some 56, .mov (.t 4), none⟩,
  ⟨some 57, .callM 172 [.t 50, .t 53, .t 54, .t 55, .t 56], none⟩]
def c162 : IR :=
 .seq (.reg none [⟨some 12, .mov (.t 2), none⟩,
  ⟨some 13, .mov (.t 1), none⟩,
  ⟨some 14, .bin .sub (.t 12) (.t 13), none⟩,
  ⟨some 10, .mov (.t 14), none⟩])
 (.lv [0, 2, 3, 4, 10] (.seq (.reg none [⟨some 15, .mov (.t 3), none⟩,
  ⟨some 16, .mov (.t 2), none⟩,
  ⟨some 17, .bin .sub (.t 15) (.t 16), none⟩,
  ⟨some 11, .mov (.t 17), none⟩])
 (.lv [0, 2, 4, 10, 11] (.seq (.block 0 (.loop [0, 2, 4, 10, 11] none b162_0))
 k162_0))))
def i162 : IFn := ⟨5, 58, c162, [], .ref⟩
def c164 : IR :=
 .seq (.reg none [⟨some 4, .mov (.k (.int .i64 0)), none⟩])
 (.lv [0, 1] (.seq (.seq (.reg none [⟨some 5, .mov (.t 0), none⟩,
  ⟨some 6, .slen (.t 5), none⟩,
  ⟨some 7, .mov (.t 1), none⟩,
  ⟨some 8, .slen (.t 7), none⟩,
  ⟨some 9, .bin .ne (.t 6) (.t 8), none⟩])
 (.lv [0, 1, 9] (.cond (.t 9) (.lv [0, 1] (.seq (.seq (.reg none [⟨some 10, .mov (.t 0), none⟩,
  ⟨some 11, .slen (.t 10), none⟩,
  ⟨some 12, .mov (.t 1), none⟩,
  ⟨some 13, .slen (.t 12), none⟩,
  ⟨some 14, .bin .lt (.t 11) (.t 13), none⟩])
 (.lv [14] (.cond (.t 14) (.lv [] (.seq (.reg none [⟨some 4, .mov (.k (.int .i64 (-1))), none⟩])
 (.ret)))
 (.skip))))
 (.lv [] (.seq (.reg none [⟨some 4, .mov (.k (.int .i64 1)), none⟩])
 (.ret)))))
 (.skip))))
 (.lv [0, 1] (.seq (.seq (.reg none [⟨some 15, .mov (.t 0), none⟩,
  ⟨some 16, .mov (.t 1), none⟩,
  ⟨some 17, .bin .eq (.t 15) (.t 16), none⟩])
 (.lv [0, 1, 17] (.cond (.t 17) (.lv [] (.seq (.reg none [⟨some 4, .mov (.k (.int .i64 0)), none⟩])
 (.ret)))
 (.skip))))
 (.lv [0, 1] (.seq (.seq (.reg none [⟨some 18, .mov (.t 0), none⟩,
  ⟨some 19, .mov (.t 1), none⟩,
  ⟨some 20, .bin .lt (.t 18) (.t 19), none⟩])
 (.lv [20] (.cond (.t 20) (.lv [] (.seq (.reg none [⟨some 4, .mov (.k (.int .i64 (-1))), none⟩])
 (.ret)))
 (.skip))))
 (.lv [] (.seq (.reg none [⟨some 4, .mov (.k (.int .i64 1)), none⟩])
 (.ret)))))))))
def i164 : IFn := ⟨2, 21, c164, [.t 4], .pure⟩
def b165_1 : IR :=
 .seq (.seq (.reg none [⟨some 94, .mov (.t 16), none⟩,
  ⟨some 95, .bin .ge (.t 94) (.k (.int .u64 4294967296)), none⟩,
  ⟨some 96, .mov (.t 95), none⟩,
  ⟨some 97, .mov (.t 16), (some (96, false))⟩,
  ⟨some 98, .mov (.t 13), (some (96, false))⟩,
  ⟨some 99, .bin .mul (.t 97) (.t 98), (some (96, false))⟩,
  ⟨some 100, .mov (.t 17), (some (96, false))⟩,
  ⟨some 101, .bin .shl (.t 100) (.k (.int .u64 32)), (some (96, false))⟩,
  ⟨some 102, .mov (.t 8), (some (96, false))⟩,
  ⟨some 103, .mov (.t 14), (some (96, false))⟩,
  ⟨some 104, .mov (.t 9), (some (96, false))⟩,
  ⟨some 105, .bin .add (.t 103) (.t 104), (some (96, false))⟩,
  ⟨some 106, .bin .sub (.t 105) (.k (.int .i64 2)), (some (96, false))⟩,
  ⟨some 107, .iaddr 1 (.t 102) (.t 106), (some (96, false))⟩,
  ⟨some 108, .ld false 1 (.t 107), (some (96, false))⟩,
  ⟨some 109, .conv .u64 (.t 108), (some (96, false))⟩,
  ⟨some 110, .bin .or (.t 101) (.t 109), (some (96, false))⟩,
  ⟨some 111, .bin .gt (.t 99) (.t 110), (some (96, false))⟩,
  ⟨some 112, .pick (.t 96) (.k (.bool true)) (.t 111), none⟩])
 (.lv [4, 5, 6, 7, 8, 9, 11, 12, 13, 14, 16, 17, 112] (.cond (.t 112) (.skip)
 (.exit 2))))
 (.lv [4, 5, 6, 7, 8, 9, 11, 12, 13, 14, 16, 17] (.block 3 (.seq (.reg none [⟨some 113, .mov (.t 16), none⟩,
  ⟨some 114, .bin .sub (.t 113) (.k (.int .u64 1)), none⟩,
  ⟨some 16, .mov (.t 114), none⟩])
 (.lv [4, 5, 6, 7, 8, 9, 11, 12, 13, 14, 16, 17] (.seq (.reg none [⟨some 115, .mov (.t 17), none⟩,
  ⟨some 116, .mov (.t 12), none⟩,
  ⟨some 117, .bin .add (.t 115) (.t 116), none⟩,
  ⟨some 17, .mov (.t 117), none⟩])
 (.lv [4, 5, 6, 7, 8, 9, 11, 12, 13, 14, 16, 17] (.seq (.reg none [⟨some 118, .mov (.t 17), none⟩,
  ⟨some 119, .bin .ge (.t 118) (.k (.int .u64 4294967296)), none⟩])
 (.lv [4, 5, 6, 7, 8, 9, 11, 12, 13, 14, 16, 17, 119] (.cond (.t 119) (.exit 2)
 (.skip))))))))))
def k165_0 : IR :=
 .seq (.seq (.reg none [⟨some 120, .mov (.t 8), none⟩,
  ⟨some 121, .mov (.t 14), none⟩,
  ⟨some 122, .mov (.t 14), none⟩,
  ⟨some 123, .mov (.t 9), none⟩,
  ⟨some 124, .bin .add (.t 122) (.t 123), none⟩,
  ⟨some 125, .bin .add (.t 124) (.k (.int .i64 1)), none⟩,
  ⟨some 126, .cut 1 (.t 120) (some (.t 121)) (some (.t 125)), none⟩,
  ⟨some 127, .mov (.t 7), none⟩,
  ⟨some 128, .mov (.t 16), none⟩,
  ⟨some 129, .callM 175 [.t 126, .t 127, .t 128], none⟩])
 (.lv [4, 5, 6, 7, 8, 9, 11, 12, 13, 14, 16, 129] (.cond (.t 129) (.lv [4, 5, 6, 7, 8, 9, 11, 12, 13, 14, 16] (.seq (.reg none [⟨some 130, .mov (.t 16), none⟩,
  ⟨some 131, .bin .sub (.t 130) (.k (.int .u64 1)), none⟩,
  ⟨some 16, .mov (.t 131), none⟩])
 (.lv [4, 5, 6, 7, 8, 9, 11, 12, 13, 14, 16] (.reg none [⟨some 132, .mov (.t 8), none⟩,
  ⟨some 133, .mov (.t 14), none⟩,
  ⟨some 134, .mov (.t 14), none⟩,
  ⟨some 135, .mov (.t 9), none⟩,
  ⟨some 136, .bin .add (.t 134) (.t 135), none⟩,
  ⟨some 137, .bin .add (.t 136) (.k (.int .i64 1)), none⟩,
  ⟨some 138, .cut 1 (.t 132) (some (.t 133)) (some (.t 137)), none⟩,
  ⟨some 139, .mov (.t 7), none⟩,
  ⟨some 140, .callM 176 [.t 138, .t 139], none⟩]))))
 (.skip))))
 (.lv [4, 5, 6, 7, 8, 9, 11, 12, 13, 14, 16] (.reg none [⟨some 141, .mov (.t 11), none⟩,
  ⟨some 142, .mov (.t 14), none⟩,
  ⟨some 143, .mov (.t 16), none⟩,
  ⟨some 144, .conv .u32 (.t 143), none⟩,
  ⟨some 145, .iaddr 1 (.t 141) (.t 142), none⟩,
  ⟨none, .st 1 (.t 145) (.t 144), none⟩]))
def k165_1 : IR :=
 .reg none [⟨some 69, .mov (.t 14), none⟩,
  ⟨some 70, .bin .sub (.t 69) (.k (.int .i64 1)), none⟩,
  ⟨some 14, .mov (.t 70), none⟩]
def b165_0 : IR :=
 .seq (.seq (.reg none [⟨some 67, .mov (.t 14), none⟩,
  ⟨some 68, .bin .ge (.t 67) (.k (.int .i64 0)), none⟩])
 (.lv [4, 5, 6, 7, 8, 9, 11, 12, 13, 14, 68] (.cond (.t 68) (.skip)
 (.exit 0))))
 (.lv [4, 5, 6, 7, 8, 9, 11, 12, 13, 14] (.seq (.block 1 (.seq (.reg (some [0, 1, 2, 3, 4, 5, 6, 7, 8, 9, 10, 11, 12, 13, 14, 15, 16, 17]) [⟨some 71, .mov (.t 8), none⟩,
  ⟨some 72, .mov (.t 14), none⟩,
  ⟨some 73, .mov (.t 9), none⟩,
  ⟨some 74, .bin .add (.t 72) (.t 73), none⟩,
  ⟨some 75, .iaddr 1 (.t 71) (.t 74), none⟩,
  ⟨some 76, .ld false 1 (.t 75), none⟩,
  ⟨some 77, .conv .u64 (.t 76), none⟩,
  ⟨some 78, .bin .shl (.t 77) (.k (.int .u64 32)), none⟩,
  ⟨some 79, .mov (.t 8), none⟩,
  ⟨some 80, .mov (.t 14), none⟩,
  ⟨some 81, .mov (.t 9), none⟩,
  ⟨some 82, .bin .add (.t 80) (.t 81), none⟩,
  ⟨some 83, .bin .sub (.t 82) (.k (.int .i64 1)), none⟩,
  ⟨some 84, .iaddr 1 (.t 79) (.t 83), none⟩,
  ⟨some 85, .ld false 1 (.t 84), none⟩,
  ⟨some 86, .conv .u64 (.t 85), none⟩,
  ⟨some 87, .bin .or (.t 78) (.t 86), none⟩,
  ⟨some 15, .mov (.t 87), none⟩])
 (.lv [4, 5, 6, 7, 8, 9, 11, 12, 13, 14, 15] (.seq (.reg (some [0, 1, 2, 3, 4, 5, 6, 7]) [⟨some 88, .mov (.t 15), none⟩,
  ⟨some 89, .mov (.t 12), none⟩,
  ⟨some 90, .bin .quo (.t 88) (.t 89), none⟩,
  ⟨some 91, .mov (.t 15), none⟩,
  ⟨some 92, .mov (.t 12), none⟩,
  ⟨some 93, .bin .rem (.t 91) (.t 92), none⟩,
  ⟨some 16, .mov (.t 90), none⟩,
  ⟨some 17, .mov (.t 93), none⟩])
 (.lv [4, 5, 6, 7, 8, 9, 11, 12, 13, 14, 16, 17] (.seq (.block 2 (.loop [4, 5, 6, 7, 8, 9, 11, 12, 13, 14, 16, 17] (some (8, [])) b165_1))
 k165_0))))))
 k165_1))
def k165_2 : IR :=
 .seq (.reg none [⟨some 146, .mov (.t 11), none⟩,
  ⟨some 147, .callF 137 [.t 146], none⟩,
  ⟨some 148, .mov (.t 8), none⟩,
  ⟨some 149, .callF 137 [.t 148], none⟩,
  ⟨some 150, .mov (.t 6), none⟩,
  ⟨some 151, .callP 177 [.t 149, .t 150], none⟩,
  ⟨none, .st 1 (.t 4) (.t 147), none⟩,
  ⟨none, .st 1 (.t 5) (.t 151), none⟩])
 (.ret)
def c165 : IR :=
 .seq (.reg none [⟨some 2, .box 53 1 (.t 0), none⟩,
  ⟨some 3, .box 53 1 (.t 1), none⟩,
  ⟨some 4, .alloc 53 [.nilsl 162 1], none⟩,
  ⟨some 5, .alloc 53 [.nilsl 162 1], none⟩])
 (.lv [2, 3, 4, 5] (.seq (.reg none [⟨some 18, .faddr 0 (.t 3), none⟩,
  ⟨some 19, .ld false 1 (.t 18), none⟩,
  ⟨some 20, .faddr 0 (.t 3), none⟩,
  ⟨some 21, .ld false 1 (.t 20), none⟩,
  ⟨some 22, .lenf (.t 21), none⟩,
  ⟨some 23, .bin .sub (.t 22) (.k (.int .i64 1)), none⟩,
  ⟨some 24, .iaddrf 1 (.t 19) (.t 23), none⟩,
  ⟨some 25, .ldf false 1 (.t 24), none⟩,
  ⟨some 26, .callP 173 [.t 25], none⟩,
  ⟨some 6, .mov (.t 26), none⟩])
 (.lv [2, 3, 4, 5, 6] (.seq (.reg none [⟨some 27, .ld true 1 (.t 3), none⟩,
  ⟨some 28, .mov (.t 6), none⟩,
  ⟨some 29, .callP 174 [.t 27, .t 28], none⟩,
  ⟨some 30, .fld false 0 1 (.t 29), none⟩,
  ⟨some 7, .mov (.t 30), none⟩])
 (.lv [2, 3, 4, 5, 6, 7] (.seq (.reg none [⟨some 31, .faddr 0 (.t 2), none⟩,
  ⟨some 32, .ld false 1 (.t 31), none⟩,
  ⟨some 33, .lenf (.t 32), none⟩,
  ⟨some 34, .bin .add (.t 33) (.k (.int .i64 1)), none⟩,
  ⟨some 35, .mk 162 4 [.int .u32 0] (.t 34), none⟩,
  ⟨some 8, .mov (.t 35), none⟩])
 (.lv [2, 3, 4, 5, 6, 7, 8] (.seq (.reg none [⟨some 36, .mov (.t 8), none⟩,
  ⟨some 37, .ld true 1 (.t 2), none⟩,
  ⟨some 38, .mov (.t 6), none⟩,
  ⟨some 39, .callP 174 [.t 37, .t 38], none⟩,
  ⟨some 40, .fld false 0 1 (.t 39), none⟩,
  ⟨some 41, .cpy 1 (.t 36) (.t 40), none⟩])
 (.lv [2, 3, 4, 5, 6, 7, 8] (.seq (.reg (some [0, 1, 2, 3, 4, 5, 6, 7, 8, 9, 10]) [⟨some 42, .mov (.t 7), none⟩,
  ⟨some 43, .lenf (.t 42), none⟩,
  ⟨some 44, .faddr 0 (.t 2), none⟩,
  ⟨some 45, .ld false 1 (.t 44), none⟩,
  ⟨some 46, .lenf (.t 45), none⟩,
  ⟨some 47, .faddr 0 (.t 3), none⟩,
  ⟨some 48, .ld false 1 (.t 47), none⟩,
  ⟨some 49, .lenf (.t 48), none⟩,
  ⟨some 50, .bin .sub (.t 46) (.t 49), none⟩,
  ⟨some 9, .mov (.t 43), none⟩,
  ⟨some 10, .mov (.t 50), none⟩])
 (.lv [4, 5, 6, 7, 8, 9, 10] (.seq (.reg none [⟨some 51, .mov (.t 10), none⟩,
  ⟨some 52, .bin .add (.t 51) (.k (.int .i64 1)), none⟩,
  ⟨some 53, .mk 162 4 [.int .u32 0] (.t 52), none⟩,
  ⟨some 11, .mov (.t 53), none⟩])
 (.lv [4, 5, 6, 7, 8, 9, 10, 11] (.seq (.reg (some [0, 1, 2, 3, 4, 5, 6, 7, 8, 9, 10, 11, 12, 13]) [⟨some 54, .mov (.t 7), none⟩,
  ⟨some 55, .mov (.t 9), none⟩,
  ⟨some 56, .bin .sub (.t 55) (.k (.int .i64 1)), none⟩,
  ⟨some 57, .iaddrf 1 (.t 54) (.t 56), none⟩,
  ⟨some 58, .ldf false 1 (.t 57), none⟩,
  ⟨some 59, .conv .u64 (.t 58), none⟩,
  ⟨some 60, .mov (.t 7), none⟩,
  ⟨some 61, .mov (.t 9), none⟩,
  ⟨some 62, .bin .sub (.t 61) (.k (.int .i64 2)), none⟩,
  ⟨some 63, .iaddrf 1 (.t 60) (.t 62), none⟩,
  ⟨some 64, .ldf false 1 (.t 63), none⟩,
  ⟨some 65, .conv .u64 (.t 64), none⟩,
  ⟨some 12, .mov (.t 59), none⟩,
  ⟨some 13, .mov (.t 65), none⟩])
 (.lv [4, 5, 6, 7, 8, 9, 10, 11, 12, 13] (.seq (.seq (.reg none [⟨some 66, .mov (.t 10), none⟩,
  ⟨some 14, .mov (.t 66), none⟩])
 (.lv [4, 5, 6, 7, 8, 9, 11, 12, 13, 14] (.block 0 (.loop [4, 5, 6, 7, 8, 9, 11, 12, 13, 14] (some (8, [])) b165_0))))
 k165_2))))))))))))))))
def i165 : IFn := ⟨2, 152, c165, [.c 4 true 1, .c 5 true 1], .pure⟩
def c167 : IR :=
 .seq (.reg none [⟨some 6, .mov (.k (.int .u32 0)), none⟩,
  ⟨some 7, .mov (.k (.int .u32 0)), none⟩])
 (.lv [0, 1, 2] (.seq (.reg none [⟨some 9, .mov (.t 0), none⟩,
  ⟨some 10, .conv .u64 (.t 9), none⟩,
  ⟨some 11, .mov (.t 1), none⟩,
  ⟨some 12, .conv .u64 (.t 11), none⟩,
  ⟨some 13, .bin .add (.t 10) (.t 12), none⟩,
  ⟨some 14, .mov (.t 2), none⟩,
  ⟨some 15, .conv .u64 (.t 14), none⟩,
  ⟨some 16, .bin .add (.t 13) (.t 15), none⟩,
  ⟨some 8, .mov (.t 16), none⟩])
 (.lv [8] (.seq (.reg none [⟨some 17, .mov (.t 8), none⟩,
  ⟨some 18, .conv .u32 (.t 17), none⟩,
  ⟨some 6, .mov (.t 18), none⟩])
 (.lv [6, 8] (.seq (.reg none [⟨some 19, .mov (.t 8), none⟩,
  ⟨some 20, .bin .shr (.t 19) (.k (.int .u64 32)), none⟩,
  ⟨some 21, .conv .u32 (.t 20), none⟩,
  ⟨some 7, .mov (.t 21), none⟩])
 (.ret)))))))
def i167 : IFn := ⟨3, 22, c167, [.t 6, .t 7], .pure⟩
def b169_0 : IR :=
 .seq (.seq (.reg none [⟨some 9, .mov (.t 7), none⟩,
  ⟨some 10, .mov (.t 0), none⟩,
  ⟨some 11, .slen (.t 10), none⟩,
  ⟨some 12, .bin .lt (.t 9) (.t 11), none⟩])
 (.lv [0, 1, 5, 6, 7, 12] (.cond (.t 12) (.skip)
 (.exit 0))))
 (.lv [0, 1, 5, 6, 7] (.seq (.block 1 (.seq (.reg none [⟨some 15, .mov (.t 0), none⟩,
  ⟨some 16, .mov (.t 7), none⟩,
  ⟨some 17, .callP 170 [.t 15, .t 16], none⟩,
  ⟨some 18, .mov (.t 1), none⟩,
  ⟨some 19, .mov (.t 7), none⟩,
  ⟨some 20, .callP 170 [.t 18, .t 19], none⟩,
  ⟨some 21, .bin .sub (.t 17) (.t 20), none⟩,
  ⟨some 22, .mov (.t 6), none⟩,
  ⟨some 23, .bin .sub (.t 21) (.t 22), none⟩,
  ⟨some 8, .mov (.t 23), none⟩])
 (.lv [0, 1, 5, 7, 8] (.seq (.reg none [⟨some 6, .mov (.k (.int .i64 0)), none⟩])
 (.lv [0, 1, 5, 6, 7, 8] (.seq (.seq (.reg none [⟨some 24, .mov (.t 8), none⟩,
  ⟨some 25, .bin .lt (.t 24) (.k (.int .i64 0)), none⟩])
 (.lv [0, 1, 5, 6, 7, 8, 25] (.cond (.t 25) (.lv [0, 1, 5, 7, 8] (.seq (.reg none [⟨some 26, .mov (.t 8), none⟩,
  ⟨some 27, .bin .add (.t 26) (.k (.int .i64 10)), none⟩,
  ⟨some 8, .mov (.t 27), none⟩])
 (.lv [0, 1, 5, 7, 8] (.reg none [⟨some 6, .mov (.k (.int .i64 1)), none⟩]))))
 (.skip))))
 (.lv [0, 1, 5, 6, 7, 8] (.reg none [⟨some 28, .mov (.t 5), none⟩,
  ⟨some 29, .mov (.t 8), none⟩,
  ⟨some 30, .bsl 3 1 [.t 29], none⟩,
  ⟨some 31, .app 3 1 8 (.t 28) (.t 30), none⟩,
  ⟨some 5, .mov (.t 31), none⟩]))))))))
 (.lv [0, 1, 5, 6, 7] (.reg none [⟨some 13, .mov (.t 7), none⟩,
  ⟨some 14, .bin .add (.t 13) (.k (.int .i64 1)), none⟩,
  ⟨some 7, .mov (.t 14), none⟩]))))
def k169_0 : IR :=
 .seq (.reg none [⟨some 32, .mov (.t 5), none⟩,
  ⟨some 33, .callR 150 [.t 32], none⟩,
  ⟨some 4, .mov (.t 33), none⟩])
 (.ret)
def c169 : IR :=
 .seq (.reg none [⟨some 4, .mov (.k (.str ⟨#[]⟩)), none⟩])
 (.lv [0, 1] (.seq (.reg none [⟨some 5, .newnil 3 1, none⟩])
 (.lv [0, 1, 5] (.seq (.reg none [⟨some 6, .mov (.k (.int .i64 0)), none⟩])
 (.lv [0, 1, 5, 6] (.seq (.seq (.reg none [⟨some 7, .mov (.k (.int .i64 0)), none⟩])
 (.lv [0, 1, 5, 6, 7] (.block 0 (.loop [0, 1, 5, 6, 7] (some (1, [])) b169_0))))
 k169_0))))))
def i169 : IFn := ⟨2, 34, c169, [.t 4], .pure⟩
def c170 : IR :=
 .seq (.reg none [⟨some 4, .mov (.k (.int .i64 0)), none⟩])
 (.lv [0, 1] (.seq (.seq (.reg none [⟨some 5, .mov (.t 1), none⟩,
  ⟨some 6, .mov (.t 0), none⟩,
  ⟨some 7, .slen (.t 6), none⟩,
  ⟨some 8, .bin .ge (.t 5) (.t 7), none⟩])
 (.lv [0, 1, 8] (.cond (.t 8) (.lv [] (.seq (.reg none [⟨some 4, .mov (.k (.int .i64 0)), none⟩])
 (.ret)))
 (.skip))))
 (.lv [0, 1] (.seq (.reg none [⟨some 9, .mov (.t 0), none⟩,
  ⟨some 10, .mov (.t 0), none⟩,
  ⟨some 11, .slen (.t 10), none⟩,
  ⟨some 12, .bin .sub (.t 11) (.k (.int .i64 1)), none⟩,
  ⟨some 13, .mov (.t 1), none⟩,
  ⟨some 14, .bin .sub (.t 12) (.t 13), none⟩,
  ⟨some 15, .sidx (.t 9) (.t 14), none⟩,
  ⟨some 16, .bin .sub (.t 15) (.k (.int .u8 48)), none⟩,
  ⟨some 17, .conv .i64 (.t 16), none⟩,
  ⟨some 4, .mov (.t 17), none⟩])
 (.ret)))))
def i170 : IFn := ⟨2, 18, c170, [.t 4], .pure⟩
def b172_0 : IR :=
 .seq (.seq (.reg none [⟨some 11, .mov (.t 10), none⟩,
  ⟨some 12, .mov (.t 3), none⟩,
  ⟨some 13, .bin .lt (.t 11) (.t 12), none⟩])
 (.lv [0, 1, 2, 3, 10, 13] (.cond (.t 13) (.skip)
 (.exit 0))))
 (.lv [0, 1, 2, 3, 10] (.seq (.block 1 (.reg (some [0, 1, 2, 3, 4, 5, 6, 7, 8, 9, 10, 11, 12, 13, 14, 15, 16, 17, 18, 19, 20, 21, 22, 23]) [⟨some 16, .mov (.t 0), none⟩,
  ⟨some 17, .mov (.t 1), none⟩,
  ⟨some 18, .mov (.t 10), none⟩,
  ⟨some 19, .bin .add (.t 17) (.t 18), none⟩,
  ⟨some 20, .mov (.t 0), none⟩,
  ⟨some 21, .mov (.t 2), none⟩,
  ⟨some 22, .mov (.t 10), none⟩,
  ⟨some 23, .bin .add (.t 21) (.t 22), none⟩,
  ⟨some 24, .mov (.t 0), none⟩,
  ⟨some 25, .mov (.t 2), none⟩,
  ⟨some 26, .mov (.t 10), none⟩,
  ⟨some 27, .bin .add (.t 25) (.t 26), none⟩,
  ⟨some 28, .iaddr 1 (.t 24) (.t 27), none⟩,
  ⟨some 29, .ld false 1 (.t 28), none⟩,
  ⟨some 30, .mov (.t 0), none⟩,
  ⟨some 31, .mov (.t 1), none⟩,
  ⟨some 32, .mov (.t 10), none⟩,
  ⟨some 33, .bin .add (.t 31) (.t 32), none⟩,
  ⟨some 34, .iaddr 1 (.t 30) (.t 33), none⟩,
  ⟨some 35, .ld false 1 (.t 34), none⟩,
  ⟨some 36, .iaddr 1 (.t 16) (.t 19), none⟩,
  ⟨none, .st 1 (.t 36) (.t 29), none⟩,
  ⟨some 37, .iaddr 1 (.t 20) (.t 23), none⟩,
  ⟨none, .st 1 (.t 37) (.t 35), none⟩]))
 (.lv [0, 1, 2, 3, 10] (.reg none [⟨some 14, .mov (.t 10), none⟩,
  ⟨some 15, .bin .add (.t 14) (.k (.int .i64 1)), none⟩,
  ⟨some 10, .mov (.t 15), none⟩]))))
def c172 : IR :=
 .seq (.reg none [⟨some 10, .mov (.k (.int .i64 0)), none⟩])
 (.lv [0, 1, 2, 3, 10] (.block 0 (.loop [0, 1, 2, 3, 10] none b172_0)))
def i172 : IFn := ⟨5, 38, c172, [], .ref⟩
def c173 : IR :=
 .seq (.reg none [⟨some 2, .mov (.k (.int .i64 0)), none⟩])
 (.lv [0] (.seq (.reg none [⟨some 3, .mov (.t 0), none⟩,
  ⟨some 4, .callP 179 [.t 3], none⟩,
  ⟨some 5, .bin .sub (.k (.int .i64 32)) (.t 4), none⟩,
  ⟨some 2, .mov (.t 5), none⟩])
 (.ret)))
def i173 : IFn := ⟨1, 6, c173, [.t 2], .pure⟩
def b174_0 : IR :=
 .seq (.reg none [⟨some 36, .bin .lt (.t 35) (.t 34), none⟩])
 (.lv [4, 5, 6, 7, 33, 34, 35, 36] (.seq (.cond (.t 36) (.skip)
 (.exit 0))
 (.lv [4, 5, 6, 7, 33, 34, 35] (.seq (.block 1 (.seq (.reg none [⟨some 37, .mov (.t 35), none⟩,
  ⟨some 38, .iaddrf 1 (.t 33) (.t 35), none⟩,
  ⟨some 39, .ldf false 1 (.t 38), none⟩,
  ⟨some 8, .mov (.t 37), none⟩,
  ⟨some 9, .mov (.t 39), none⟩])
 (.lv [4, 5, 6, 7, 8, 9, 33, 34, 35] (.seq (.reg none [⟨some 40, .mov (.t 9), none⟩,
  ⟨some 41, .conv .u64 (.t 40), none⟩,
  ⟨some 42, .mov (.t 6), none⟩,
  ⟨some 43, .bin .shl (.t 41) (.t 42), none⟩,
  ⟨some 10, .mov (.t 43), none⟩])
 (.lv [4, 5, 6, 7, 8, 10, 33, 34, 35] (.seq (.reg none [⟨some 44, .mov (.t 7), none⟩,
  ⟨some 45, .mov (.t 8), none⟩,
  ⟨some 46, .mov (.t 5), none⟩,
  ⟨some 47, .bin .add (.t 45) (.t 46), none⟩,
  ⟨some 48, .iaddr 1 (.t 44) (.t 47), none⟩,
  ⟨some 49, .ld false 1 (.t 48), none⟩,
  ⟨some 50, .mov (.t 10), none⟩,
  ⟨some 51, .conv .u32 (.t 50), none⟩,
  ⟨some 52, .bin .or (.t 49) (.t 51), none⟩,
  ⟨some 53, .iaddr 1 (.t 44) (.t 47), none⟩,
  ⟨none, .st 1 (.t 53) (.t 52), none⟩])
 (.lv [4, 5, 6, 7, 8, 10, 33, 34, 35] (.reg none [⟨some 54, .mov (.t 7), none⟩,
  ⟨some 55, .mov (.t 8), none⟩,
  ⟨some 56, .mov (.t 5), none⟩,
  ⟨some 57, .bin .add (.t 55) (.t 56), none⟩,
  ⟨some 58, .bin .add (.t 57) (.k (.int .i64 1)), none⟩,
  ⟨some 59, .mov (.t 10), none⟩,
  ⟨some 60, .bin .shr (.t 59) (.k (.int .u64 32)), none⟩,
  ⟨some 61, .conv .u32 (.t 60), none⟩,
  ⟨some 62, .iaddr 1 (.t 54) (.t 58), none⟩,
  ⟨none, .st 1 (.t 62) (.t 61), none⟩]))))))))
 (.lv [4, 5, 6, 7, 33, 34, 35] (.reg none [⟨some 63, .bin .add (.t 35) (.k (.int .i64 1)), none⟩,
  ⟨some 35, .mov (.t 63), none⟩]))))))
def k174_0 : IR :=
 .seq (.reg none [⟨some 64, .mov (.t 7), none⟩,
  ⟨some 65, .callF 137 [.t 64], none⟩,
  ⟨none, .st 1 (.t 4) (.t 65), none⟩])
 (.ret)
def c174 : IR :=
 .seq (.reg none [⟨some 2, .box 53 1 (.t 0), none⟩,
  ⟨some 4, .alloc 53 [.nilsl 162 1], none⟩])
 (.lv [1, 2, 4] (.seq (.seq (.reg none [⟨some 11, .mov (.t 1), none⟩,
  ⟨some 12, .bin .le (.t 11) (.k (.int .i64 0)), none⟩,
  ⟨some 13, .mov (.t 12), none⟩,
  ⟨some 14, .faddr 0 (.t 2), (some (13, false))⟩,
  ⟨some 15, .ld false 1 (.t 14), (some (13, false))⟩,
  ⟨some 16, .lenf (.t 15), (some (13, false))⟩,
  ⟨some 17, .bin .eq (.t 16) (.k (.int .i64 0)), (some (13, false))⟩,
  ⟨some 18, .pick (.t 13) (.k (.bool true)) (.t 17), none⟩])
 (.lv [1, 2, 4, 18] (.cond (.t 18) (.lv [2, 4] (.seq (.reg none [⟨some 19, .ld true 1 (.t 2), none⟩,
  ⟨none, .st 1 (.t 4) (.t 19), none⟩])
 (.ret)))
 (.skip))))
 (.lv [1, 2, 4] (.seq (.reg none [⟨some 20, .mov (.t 1), none⟩,
  ⟨some 21, .bin .quo (.t 20) (.k (.int .i64 32)), none⟩,
  ⟨some 22, .mov (.t 1), none⟩,
  ⟨some 23, .bin .rem (.t 22) (.k (.int .i64 32)), none⟩,
  ⟨some 24, .conv .u64 (.t 23), none⟩,
  ⟨some 5, .mov (.t 21), none⟩,
  ⟨some 6, .mov (.t 24), none⟩])
 (.lv [2, 4, 5, 6] (.seq (.reg none [⟨some 25, .faddr 0 (.t 2), none⟩,
  ⟨some 26, .ld false 1 (.t 25), none⟩,
  ⟨some 27, .lenf (.t 26), none⟩,
  ⟨some 28, .mov (.t 5), none⟩,
  ⟨some 29, .bin .add (.t 27) (.t 28), none⟩,
  ⟨some 30, .bin .add (.t 29) (.k (.int .i64 1)), none⟩,
  ⟨some 31, .mk 162 4 [.int .u32 0] (.t 30), none⟩,
  ⟨some 7, .mov (.t 31), none⟩])
 (.lv [2, 4, 5, 6, 7] (.seq (.seq (.reg none [⟨some 32, .faddr 0 (.t 2), none⟩,
  ⟨some 33, .ld false 1 (.t 32), none⟩,
  ⟨some 34, .lenf (.t 33), none⟩,
  ⟨some 35, .mov (.k (.int .i64 0)), none⟩])
 (.lv [4, 5, 6, 7, 33, 34, 35] (.block 0 (.loop [4, 5, 6, 7, 33, 34, 35] (some (4, [])) b174_0))))
 k174_0))))))))
def i174 : IFn := ⟨2, 66, c174, [.c 4 true 1], .pure⟩
def b175_0 : IR :=
 .seq (.reg none [⟨some 15, .bin .lt (.t 14) (.t 13), none⟩])
 (.lv [0, 1, 2, 7, 8, 12, 13, 14, 15] (.seq (.cond (.t 15) (.skip)
 (.exit 0))
 (.lv [0, 1, 2, 7, 8, 12, 13, 14] (.seq (.block 1 (.seq (.reg none [⟨some 16, .mov (.t 14), none⟩,
  ⟨some 17, .iaddr 1 (.t 12) (.t 14), none⟩,
  ⟨some 18, .ld false 1 (.t 17), none⟩,
  ⟨some 9, .mov (.t 16), none⟩,
  ⟨some 10, .mov (.t 18), none⟩])
 (.lv [0, 1, 2, 7, 8, 9, 10, 12, 13, 14] (.seq (.reg none [⟨some 19, .mov (.t 2), none⟩,
  ⟨some 20, .mov (.t 10), none⟩,
  ⟨some 21, .conv .u64 (.t 20), none⟩,
  ⟨some 22, .bin .mul (.t 19) (.t 21), none⟩,
  ⟨some 23, .mov (.t 7), none⟩,
  ⟨some 24, .bin .add (.t 22) (.t 23), none⟩,
  ⟨some 11, .mov (.t 24), none⟩])
 (.lv [0, 1, 2, 8, 9, 11, 12, 13, 14] (.seq (.reg none [⟨some 25, .mov (.t 11), none⟩,
  ⟨some 26, .bin .shr (.t 25) (.k (.int .u64 32)), none⟩,
  ⟨some 7, .mov (.t 26), none⟩])
 (.lv [0, 1, 2, 7, 8, 9, 11, 12, 13, 14] (.reg none [⟨some 28, .mov (.t 0), none⟩,
  ⟨some 29, .mov (.t 9), none⟩,
  ⟨some 30, .mov (.t 0), none⟩,
  ⟨some 31, .mov (.t 9), none⟩,
  ⟨some 32, .iaddr 1 (.t 30) (.t 31), none⟩,
  ⟨some 33, .ld false 1 (.t 32), none⟩,
  ⟨some 34, .mov (.t 11), none⟩,
  ⟨some 35, .conv .u32 (.t 34), none⟩,
  ⟨some 36, .mov (.t 8), none⟩,
  ⟨some 37, .callR 178 [.t 33, .t 35, .t 36], none⟩,
  ⟨some 27, .mov (.t 37), none⟩,
  ⟨some 38, .ext (.t 27) 0, none⟩,
  ⟨some 39, .ext (.t 27) 1, none⟩,
  ⟨some 40, .iaddr 1 (.t 28) (.t 29), none⟩,
  ⟨none, .st 1 (.t 40) (.t 38), none⟩,
  ⟨some 8, .mov (.t 39), none⟩]))))))))
 (.lv [0, 1, 2, 7, 8, 12, 13, 14] (.reg none [⟨some 41, .bin .add (.t 14) (.k (.int .i64 1)), none⟩,
  ⟨some 14, .mov (.t 41), none⟩]))))))
def k175_0 : IR :=
 .seq (.reg none [⟨some 43, .mov (.t 0), none⟩,
  ⟨some 44, .mov (.t 1), none⟩,
  ⟨some 45, .len (.t 44), none⟩,
  ⟨some 46, .mov (.t 0), none⟩,
  ⟨some 47, .mov (.t 1), none⟩,
  ⟨some 48, .len (.t 47), none⟩,
  ⟨some 49, .iaddr 1 (.t 46) (.t 48), none⟩,
  ⟨some 50, .ld false 1 (.t 49), none⟩,
  ⟨some 51, .mov (.t 7), none⟩,
  ⟨some 52, .conv .u32 (.t 51), none⟩,
  ⟨some 53, .mov (.t 8), none⟩,
  ⟨some 54, .callR 178 [.t 50, .t 52, .t 53], none⟩,
  ⟨some 42, .mov (.t 54), none⟩,
  ⟨some 55, .ext (.t 42) 0, none⟩,
  ⟨some 56, .ext (.t 42) 1, none⟩,
  ⟨some 57, .iaddr 1 (.t 43) (.t 45), none⟩,
  ⟨none, .st 1 (.t 57) (.t 55), none⟩,
  ⟨some 8, .mov (.t 56), none⟩])
 (.lv [8] (.seq (.reg none [⟨some 58, .mov (.t 8), none⟩,
  ⟨some 59, .bin .eq (.t 58) (.k (.int .u32 1)), none⟩,
  ⟨some 6, .mov (.t 59), none⟩])
 (.ret)))
def c175 : IR :=
 .seq (.reg none [⟨some 6, .mov (.k (.bool false)), none⟩])
 (.lv [0, 1, 2] (.seq (.reg none [⟨some 7, .mov (.k (.int .u64 0)), none⟩,
  ⟨some 8, .mov (.k (.int .u32 0)), none⟩])
 (.lv [0, 1, 2, 7, 8] (.seq (.seq (.reg none [⟨some 12, .mov (.t 1), none⟩,
  ⟨some 13, .len (.t 12), none⟩,
  ⟨some 14, .mov (.k (.int .i64 0)), none⟩])
 (.lv [0, 1, 2, 7, 8, 12, 13, 14] (.block 0 (.loop [0, 1, 2, 7, 8, 12, 13, 14] none b175_0))))
 k175_0))))
def i175 : IFn := ⟨3, 60, c175, [.t 6], .ref⟩
def b176_0 : IR :=
 .seq (.reg none [⟨some 10, .bin .lt (.t 9) (.t 8), none⟩])
 (.lv [0, 1, 4, 7, 8, 9, 10] (.seq (.cond (.t 10) (.skip)
 (.exit 0))
 (.lv [0, 1, 4, 7, 8, 9] (.seq (.block 1 (.seq (.reg none [⟨some 11, .mov (.t 9), none⟩,
  ⟨some 12, .iaddr 1 (.t 7) (.t 9), none⟩,
  ⟨some 13, .ld false 1 (.t 12), none⟩,
  ⟨some 5, .mov (.t 11), none⟩,
  ⟨some 6, .mov (.t 13), none⟩])
 (.lv [0, 1, 4, 5, 6, 7, 8, 9] (.reg none [⟨some 15, .mov (.t 0), none⟩,
  ⟨some 16, .mov (.t 5), none⟩,
  ⟨some 17, .mov (.t 0), none⟩,
  ⟨some 18, .mov (.t 5), none⟩,
  ⟨some 19, .iaddr 1 (.t 17) (.t 18), none⟩,
  ⟨some 20, .ld false 1 (.t 19), none⟩,
  ⟨some 21, .mov (.t 6), none⟩,
  ⟨some 22, .mov (.t 4), none⟩,
  ⟨some 23, .callR 167 [.t 20, .t 21, .t 22], none⟩,
  ⟨some 14, .mov (.t 23), none⟩,
  ⟨some 24, .ext (.t 14) 0, none⟩,
  ⟨some 25, .ext (.t 14) 1, none⟩,
  ⟨some 26, .iaddr 1 (.t 15) (.t 16), none⟩,
  ⟨none, .st 1 (.t 26) (.t 24), none⟩,
  ⟨some 4, .mov (.t 25), none⟩]))))
 (.lv [0, 1, 4, 7, 8, 9] (.reg none [⟨some 27, .bin .add (.t 9) (.k (.int .i64 1)), none⟩,
  ⟨some 9, .mov (.t 27), none⟩]))))))
def k176_0 : IR :=
 .reg none [⟨some 28, .mov (.t 0), none⟩,
  ⟨some 29, .mov (.t 1), none⟩,
  ⟨some 30, .len (.t 29), none⟩,
  ⟨some 31, .iaddr 1 (.t 28) (.t 30), none⟩,
  ⟨some 32, .ld false 1 (.t 31), none⟩,
  ⟨some 33, .mov (.t 4), none⟩,
  ⟨some 34, .bin .add (.t 32) (.t 33), none⟩,
  ⟨some 35, .iaddr 1 (.t 28) (.t 30), none⟩,
  ⟨none, .st 1 (.t 35) (.t 34), none⟩]
def c176 : IR :=
 .seq (.reg none [⟨some 4, .mov (.k (.int .u32 0)), none⟩])
 (.lv [0, 1, 4] (.seq (.seq (.reg none [⟨some 7, .mov (.t 1), none⟩,
  ⟨some 8, .len (.t 7), none⟩,
  ⟨some 9, .mov (.k (.int .i64 0)), none⟩])
 (.lv [0, 1, 4, 7, 8, 9] (.block 0 (.loop [0, 1, 4, 7, 8, 9] none b176_0))))
 k176_0))
def i176 : IFn := ⟨2, 36, c176, [], .ref⟩
def b177_0 : IR :=
 .seq (.reg none [⟨some 33, .bin .lt (.t 32) (.t 31), none⟩])
 (.lv [2, 4, 5, 6, 7, 31, 32, 33] (.seq (.cond (.t 33) (.skip)
 (.exit 0))
 (.lv [2, 4, 5, 6, 7, 31, 32] (.seq (.block 1 (.seq (.reg none [⟨some 34, .mov (.t 32), none⟩,
  ⟨some 8, .mov (.t 34), none⟩])
 (.lv [2, 4, 5, 6, 7, 8, 31, 32] (.seq (.reg none [⟨some 35, .faddr 0 (.t 2), none⟩,
  ⟨some 36, .ld false 1 (.t 35), none⟩,
  ⟨some 37, .mov (.t 8), none⟩,
  ⟨some 38, .mov (.t 5), none⟩,
  ⟨some 39, .bin .add (.t 37) (.t 38), none⟩,
  ⟨some 40, .iaddrf 1 (.t 36) (.t 39), none⟩,
  ⟨some 41, .ldf false 1 (.t 40), none⟩,
  ⟨some 42, .conv .u64 (.t 41), none⟩,
  ⟨some 9, .mov (.t 42), none⟩])
 (.lv [2, 4, 5, 6, 7, 8, 9, 31, 32] (.seq (.seq (.reg none [⟨some 43, .mov (.t 8), none⟩,
  ⟨some 44, .mov (.t 5), none⟩,
  ⟨some 45, .bin .add (.t 43) (.t 44), none⟩,
  ⟨some 46, .bin .add (.t 45) (.k (.int .i64 1)), none⟩,
  ⟨some 47, .faddr 0 (.t 2), none⟩,
  ⟨some 48, .ld false 1 (.t 47), none⟩,
  ⟨some 49, .lenf (.t 48), none⟩,
  ⟨some 50, .bin .lt (.t 46) (.t 49), none⟩])
 (.lv [2, 4, 5, 6, 7, 8, 9, 31, 32, 50] (.cond (.t 50) (.lv [2, 4, 5, 6, 7, 8, 9, 31, 32] (.reg none [⟨some 51, .mov (.t 9), none⟩,
  ⟨some 52, .faddr 0 (.t 2), none⟩,
  ⟨some 53, .ld false 1 (.t 52), none⟩,
  ⟨some 54, .mov (.t 8), none⟩,
  ⟨some 55, .mov (.t 5), none⟩,
  ⟨some 56, .bin .add (.t 54) (.t 55), none⟩,
  ⟨some 57, .bin .add (.t 56) (.k (.int .i64 1)), none⟩,
  ⟨some 58, .iaddrf 1 (.t 53) (.t 57), none⟩,
  ⟨some 59, .ldf false 1 (.t 58), none⟩,
  ⟨some 60, .conv .u64 (.t 59), none⟩,
  ⟨some 61, .bin .shl (.t 60) (.k (.int .u64 32)), none⟩,
  ⟨some 62, .bin .or (.t 51) (.t 61), none⟩,
  ⟨some 9, .mov (.t 62), none⟩]))
 (.skip))))
 (.lv [2, 4, 5, 6, 7, 8, 9, 31, 32] (.reg none [⟨some 63, .mov (.t 7), none⟩,
  ⟨some 64, .mov (.t 8), none⟩,
  ⟨some 65, .mov (.t 9), none⟩,
  ⟨some 66, .mov (.t 6), none⟩,
  ⟨some 67, .bin .shr (.t 65) (.t 66), none⟩,
  ⟨some 68, .conv .u32 (.t 67), none⟩,
  ⟨some 69, .iaddr 1 (.t 63) (.t 64), none⟩,
  ⟨none, .st 1 (.t 69) (.t 68), none⟩]))))))))
 (.lv [2, 4, 5, 6, 7, 31, 32] (.reg none [⟨some 70, .bin .add (.t 32) (.k (.int .i64 1)), none⟩,
  ⟨some 32, .mov (.t 70), none⟩]))))))
def k177_0 : IR :=
 .seq (.reg none [⟨some 71, .mov (.t 7), none⟩,
  ⟨some 72, .callF 137 [.t 71], none⟩,
  ⟨none, .st 1 (.t 4) (.t 72), none⟩])
 (.ret)
def c177 : IR :=
 .seq (.reg none [⟨some 2, .box 53 1 (.t 0), none⟩,
  ⟨some 4, .alloc 53 [.nilsl 162 1], none⟩])
 (.lv [1, 2, 4] (.seq (.seq (.reg none [⟨some 10, .mov (.t 1), none⟩,
  ⟨some 11, .bin .le (.t 10) (.k (.int .i64 0)), none⟩])
 (.lv [1, 2, 4, 11] (.cond (.t 11) (.lv [2, 4] (.seq (.reg none [⟨some 12, .ld true 1 (.t 2), none⟩,
  ⟨none, .st 1 (.t 4) (.t 12), none⟩])
 (.ret)))
 (.skip))))
 (.lv [1, 2, 4] (.seq (.reg none [⟨some 13, .mov (.t 1), none⟩,
  ⟨some 14, .bin .quo (.t 13) (.k (.int .i64 32)), none⟩,
  ⟨some 15, .mov (.t 1), none⟩,
  ⟨some 16, .bin .rem (.t 15) (.k (.int .i64 32)), none⟩,
  ⟨some 17, .conv .u64 (.t 16), none⟩,
  ⟨some 5, .mov (.t 14), none⟩,
  ⟨some 6, .mov (.t 17), none⟩])
 (.lv [2, 4, 5, 6] (.seq (.seq (.reg none [⟨some 18, .mov (.t 5), none⟩,
  ⟨some 19, .faddr 0 (.t 2), none⟩,
  ⟨some 20, .ld false 1 (.t 19), none⟩,
  ⟨some 21, .lenf (.t 20), none⟩,
  ⟨some 22, .bin .ge (.t 18) (.t 21), none⟩])
 (.lv [2, 4, 5, 6, 22] (.cond (.t 22) (.lv [4] (.seq (.reg none [⟨some 23, .build [.nilsl 162 1] [], none⟩,
  ⟨none, .st 1 (.t 4) (.t 23), none⟩])
 (.ret)))
 (.skip))))
 (.lv [2, 4, 5, 6] (.seq (.reg none [⟨some 24, .faddr 0 (.t 2), none⟩,
  ⟨some 25, .ld false 1 (.t 24), none⟩,
  ⟨some 26, .lenf (.t 25), none⟩,
  ⟨some 27, .mov (.t 5), none⟩,
  ⟨some 28, .bin .sub (.t 26) (.t 27), none⟩,
  ⟨some 29, .mk 162 4 [.int .u32 0] (.t 28), none⟩,
  ⟨some 7, .mov (.t 29), none⟩])
 (.lv [2, 4, 5, 6, 7] (.seq (.seq (.reg none [⟨some 30, .mov (.t 7), none⟩,
  ⟨some 31, .len (.t 30), none⟩,
  ⟨some 32, .mov (.k (.int .i64 0)), none⟩])
 (.lv [2, 4, 5, 6, 7, 31, 32] (.block 0 (.loop [2, 4, 5, 6, 7, 31, 32] (some (4, [])) b177_0))))
 k177_0))))))))))
def i177 : IFn := ⟨2, 73, c177, [.c 4 true 1], .pure⟩
def c178 : IR :=
 .seq (.reg none [⟨some 6, .mov (.k (.int .u32 0)), none⟩,
  ⟨some 7, .mov (.k (.int .u32 0)), none⟩])
 (.lv [0, 1, 2] (.seq (.reg none [⟨some 8, .mov (.t 0), none⟩,
  ⟨some 9, .mov (.t 1), none⟩,
  ⟨some 10, .bin .sub (.t 8) (.t 9), none⟩,
  ⟨some 11, .mov (.t 2), none⟩,
  ⟨some 12, .bin .sub (.t 10) (.t 11), none⟩,
  ⟨some 6, .mov (.t 12), none⟩])
 (.lv [0, 1, 6] (.seq (.reg none [⟨some 13, .mov (.t 0), none⟩,
  ⟨some 14, .com (.t 13), none⟩,
  ⟨some 15, .mov (.t 1), none⟩,
  ⟨some 16, .bin .and (.t 14) (.t 15), none⟩,
  ⟨some 17, .mov (.t 0), none⟩,
  ⟨some 18, .mov (.t 1), none⟩,
  ⟨some 19, .bin .xor (.t 17) (.t 18), none⟩,
  ⟨some 20, .com (.t 19), none⟩,
  ⟨some 21, .mov (.t 6), none⟩,
  ⟨some 22, .bin .and (.t 20) (.t 21), none⟩,
  ⟨some 23, .bin .or (.t 16) (.t 22), none⟩,
  ⟨some 24, .bin .shr (.t 23) (.k (.int .u64 31)), none⟩,
  ⟨some 7, .mov (.t 24), none⟩])
 (.ret)))))
def i178 : IFn := ⟨3, 25, c178, [.t 6, .t 7], .pure⟩
def c179 : IR :=
 .seq (.reg none [⟨some 2, .mov (.k (.int .i64 0)), none⟩])
 (.lv [0, 2] (.seq (.seq (.reg none [⟨some 3, .mov (.t 0), none⟩,
  ⟨some 4, .bin .ge (.t 3) (.k (.int .u32 65536)), none⟩])
 (.lv [0, 2, 4] (.cond (.t 4) (.lv [0] (.seq (.reg none [⟨some 5, .mov (.t 0), none⟩,
  ⟨some 6, .bin .shr (.t 5) (.k (.int .u64 16)), none⟩,
  ⟨some 0, .mov (.t 6), none⟩])
 (.lv [0] (.reg none [⟨some 2, .mov (.k (.int .i64 16)), none⟩]))))
 (.skip))))
 (.lv [0, 2] (.seq (.seq (.reg none [⟨some 7, .mov (.t 0), none⟩,
  ⟨some 8, .bin .ge (.t 7) (.k (.int .u32 256)), none⟩])
 (.lv [0, 2, 8] (.cond (.t 8) (.lv [0, 2] (.seq (.reg none [⟨some 9, .mov (.t 0), none⟩,
  ⟨some 10, .bin .shr (.t 9) (.k (.int .u64 8)), none⟩,
  ⟨some 0, .mov (.t 10), none⟩])
 (.lv [0, 2] (.reg none [⟨some 11, .mov (.t 2), none⟩,
  ⟨some 12, .bin .add (.t 11) (.k (.int .i64 8)), none⟩,
  ⟨some 2, .mov (.t 12), none⟩]))))
 (.skip))))
 (.lv [0, 2] (.seq (.reg none [⟨some 13, .mov (.t 2), none⟩,
  ⟨some 14, .mov (.t 0), none⟩,
  ⟨some 15, .conv .u8 (.t 14), none⟩,
  ⟨some 16, .sidx (.k (.str ⟨#[0, 1, 2, 2, 3, 3, 3, 3, 4, 4, 4, 4, 4, 4, 4, 4, 5, 5, 5, 5, 5, 5, 5, 5, 5, 5, 5, 5, 5, 5, 5, 5, 6, 6, 6, 6, 6, 6, 6, 6, 6, 6, 6, 6, 6, 6, 6, 6, 6, 6, 6, 6, 6, 6, 6, 6, 6, 6, 6, 6, 6, 6, 6, 6, 7, 7, 7, 7, 7, 7, 7, 7, 7, 7, 7, 7, 7, 7, 7, 7, 7, 7, 7, 7, 7, 7, 7, 7, 7, 7, 7, 7, 7, 7, 7, 7, 7, 7, 7, 7, 7, 7, 7, 7, 7, 7, 7, 7, 7, 7, 7, 7, 7, 7, 7, 7, 7, 7, 7, 7, 7, 7, 7, 7, 7, 7, 7, 7, 8, 8, 8, 8, 8, 8, 8, 8, 8, 8, 8, 8, 8, 8, 8, 8, 8, 8, 8, 8, 8, 8, 8, 8, 8, 8, 8, 8, 8, 8, 8, 8, 8, 8, 8, 8, 8, 8, 8, 8, 8, 8, 8, 8, 8, 8, 8, 8, 8, 8, 8, 8, 8, 8, 8, 8, 8, 8, 8, 8, 8, 8, 8, 8, 8, 8, 8, 8, 8, 8, 8, 8, 8, 8, 8, 8, 8, 8, 8, 8, 8, 8, 8, 8, 8, 8, 8, 8, 8, 8, 8, 8, 8, 8, 8, 8, 8, 8, 8, 8, 8, 8, 8, 8, 8, 8, 8, 8, 8, 8, 8, 8, 8, 8, 8, 8, 8, 8, 8, 8, 8, 8, 8, 8, 8, 8, 8, 8]⟩)) (.t 15), none⟩,
  ⟨some 17, .conv .i64 (.t 16), none⟩,
  ⟨some 18, .bin .add (.t 13) (.t 17), none⟩,
  ⟨some 2, .mov (.t 18), none⟩])
 (.ret)))))))
def i179 : IFn := ⟨1, 19, c179, [.t 2], .pure⟩
end Go.Proofs.YtlejgleocnemoabGreat.I

namespace Go.Proofs.YtlejgleocnemoabGreat.I
open Go Go.V
def tab0 : Nat → Option IFn
  | 7 => some i7
  | 11 => some i11
  | 16 => some i16
  | 17 => some i17
  | 18 => some i18
  | 19 => some i19
  | 21 => some i21
  | 22 => some i22
  | 23 => some i23
  | 24 => some i24
  | 25 => some i25
  | 26 => some i26
  | 27 => some i27
  | 28 => some i28
  | 29 => some i29
  | 30 => some i30
  | 31 => some i31
  | 32 => some i32
  | 34 => some i34
  | 35 => some i35
  | 36 => some i36
  | 38 => some i38
  | 39 => some i39
  | 45 => some i45
  | 52 => some i52
  | 53 => some i53
  | 55 => some i55
  | 56 => some i56
  | 57 => some i57
  | 58 => some i58
  | 59 => some i59
  | 60 => some i60
  | 61 => some i61
  | 62 => some i62
  | 63 => some i63
  | 65 => some i65
  | 66 => some i66
  | 67 => some i67
  | 68 => some i68
  | 69 => some i69
  | 70 => some i70
  | 71 => some i71
  | 72 => some i72
  | 73 => some i73
  | 74 => some i74
  | 75 => some i75
  | 76 => some i76
  | 78 => some i78
  | 80 => some i80
  | 81 => some i81
  | 91 => some i91
  | _ => none
def tab1 : Nat → Option IFn
  | 98 => some i98
  | 99 => some i99
  | 101 => some i101
  | 102 => some i102
  | 103 => some i103
  | 104 => some i104
  | 105 => some i105
  | 107 => some i107
  | 108 => some i108
  | 109 => some i109
  | 110 => some i110
  | 111 => some i111
  | 112 => some i112
  | 113 => some i113
  | 114 => some i114
  | 115 => some i115
  | 116 => some i116
  | 117 => some i117
  | 118 => some i118
  | 119 => some i119
  | 120 => some i120
  | 121 => some i121
  | 122 => some i122
  | 128 => some i128
  | 137 => some i137
  | 139 => some i139
  | 140 => some i140
  | 141 => some i141
  | 143 => some i143
  | 144 => some i144
  | 145 => some i145
  | 146 => some i146
  | 147 => some i147
  | 148 => some i148
  | 149 => some i149
  | 150 => some i150
  | 151 => some i151
  | 152 => some i152
  | 153 => some i153
  | 156 => some i156
  | 158 => some i158
  | 162 => some i162
  | 164 => some i164
  | 165 => some i165
  | 167 => some i167
  | 169 => some i169
  | 170 => some i170
  | 172 => some i172
  | 173 => some i173
  | 174 => some i174
  | 175 => some i175
  | 176 => some i176
  | 177 => some i177
  | 178 => some i178
  | 179 => some i179
  | _ => none
def tab (f : Nat) : Option IFn := match tab0 f with | some i => some i | none => tab1 f
end Go.Proofs.YtlejgleocnemoabGreat.I
