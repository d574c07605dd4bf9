/- The texts VIr1, one behind the other. Conditions: each text's own. -/
import Derived.Test.YtlejgleocnemoaaGreatG00
namespace Go.Proofs.YtlejgleocnemoaaGreat.I
open Go Go.V
def b66_2 : IR :=
 .seq (.reg none [⟨some 88, .bin .lt (.t 87) (.t 86), none⟩])
 (.lv [2, 3, 4, 6, 9, 11, 12, 14, 17, 18, 19, 20, 21, 77, 78, 81, 82, 86, 87, 88] (.seq (.cond (.t 88) (.skip)
 (.exit 4))
 (.lv [2, 3, 4, 6, 9, 11, 12, 14, 17, 18, 19, 20, 21, 77, 78, 81, 82, 86, 87] (.seq (.block 5 (.seq (.reg none [⟨some 89, .mov (.t 87), none⟩,
  ⟨some 22, .mov (.t 89), none⟩])
 (.lv [2, 3, 4, 6, 9, 11, 12, 14, 17, 18, 19, 20, 21, 22, 77, 78, 81, 82, 86, 87] (.seq (.reg (some [0, 1, 2, 3, 4, 5, 6, 7, 8, 9, 10, 13, 14, 15, 16, 17, 18, 19, 20, 21, 11, 12, 22, 23, 24, 25]) [⟨some 90, .ld true 3 (.t 21), none⟩,
  ⟨some 91, .ld true 5 (.t 3), none⟩,
  ⟨some 92, .mov (.t 19), none⟩,
  ⟨some 93, .mov (.t 9), none⟩,
  ⟨some 94, .bin .mul (.t 92) (.t 93), none⟩,
  ⟨some 95, .mov (.t 22), none⟩,
  ⟨some 96, .mov (.t 9), none⟩,
  ⟨some 97, .bin .sub (.t 96) (.k (.int .i64 1)), none⟩,
  ⟨some 98, .mn (.t 95) (.t 97), none⟩,
  ⟨some 99, .bin .add (.t 94) (.t 98), none⟩,
  ⟨some 100, .callP 62 [.t 91, .t 99], none⟩,
  ⟨some 103, .ld true 5 (.t 4), none⟩,
  ⟨some 104, .mov (.t 22), none⟩,
  ⟨some 105, .mov (.t 12), none⟩,
  ⟨some 106, .bin .sub (.t 105) (.k (.int .i64 1)), none⟩,
  ⟨some 107, .mn (.t 104) (.t 106), none⟩,
  ⟨some 108, .mov (.t 11), none⟩,
  ⟨some 109, .bin .mul (.t 107) (.t 108), none⟩,
  ⟨some 110, .mov (.t 20), none⟩,
  ⟨some 111, .bin .add (.t 109) (.t 110), none⟩,
  ⟨some 101, .bsl 98 3 [.t 100], none⟩,
  ⟨some 102, .callF 119 [.t 90, .t 101], none⟩,
  ⟨some 112, .callP 62 [.t 103, .t 111], none⟩,
  ⟨some 113, .bsl 98 3 [.t 112], none⟩,
  ⟨some 114, .callF 74 [.t 102, .t 113], none⟩,
  ⟨none, .st 3 (.t 21) (.t 114), none⟩])
 (.lv [2, 3, 4, 6, 9, 11, 12, 14, 17, 18, 19, 20, 21, 77, 78, 81, 82, 86, 87] (.seq (.reg none [⟨some 115, .ld true 3 (.t 21), none⟩,
  ⟨some 116, .callR 73 [.t 115], none⟩,
  ⟨some 117, .mov (.t 2), none⟩,
  ⟨some 118, .bin .gt (.t 116) (.t 117), none⟩])
 (.lv [2, 3, 4, 6, 9, 11, 12, 14, 17, 18, 19, 20, 21, 77, 78, 81, 82, 86, 87, 118] (.cond (.t 118) (.lv [6] (.seq (.reg none [⟨some 119, .build [.sl 0 1 [], .bool false, .sl 0 1 [], .sl 0 3 [], .bool false] [], none⟩,
  ⟨none, .st 5 (.t 6) (.t 119), none⟩,
  ⟨some 7, .mov (.k (.int .i64 26)), none⟩])
 (.ret)))
 (.skip)))))))))
 (.lv [2, 3, 4, 6, 9, 11, 12, 14, 17, 18, 19, 20, 21, 77, 78, 81, 82, 86, 87] (.reg none [⟨some 120, .bin .add (.t 87) (.k (.int .i64 1)), none⟩,
  ⟨some 87, .mov (.t 120), none⟩]))))))
def k66_0 : IR :=
 .reg none [⟨some 121, .mov (.t 18), none⟩,
  ⟨some 122, .ld true 3 (.t 21), none⟩,
  ⟨some 123, .bsl 98 3 [.t 122], none⟩,
  ⟨some 124, .app 98 3 56 (.t 121) (.t 123), none⟩,
  ⟨some 18, .mov (.t 124), none⟩]
def k66_1 : IR :=
 .reg none [⟨some 125, .bin .add (.t 82) (.k (.int .i64 1)), none⟩,
  ⟨some 82, .mov (.t 125), none⟩]
def b66_1 : IR :=
 .seq (.reg none [⟨some 83, .bin .lt (.t 82) (.t 81), none⟩])
 (.lv [2, 3, 4, 6, 9, 11, 12, 14, 17, 18, 19, 77, 78, 81, 82, 83] (.seq (.cond (.t 83) (.skip)
 (.exit 2))
 (.lv [2, 3, 4, 6, 9, 11, 12, 14, 17, 18, 19, 77, 78, 81, 82] (.seq (.block 3 (.seq (.reg none [⟨some 84, .mov (.t 82), none⟩,
  ⟨some 20, .mov (.t 84), none⟩])
 (.lv [2, 3, 4, 6, 9, 11, 12, 14, 17, 18, 19, 20, 77, 78, 81, 82] (.seq (.reg none [⟨some 85, .build [.sl 0 1 [], .bool false, .sl 0 1 []] [], none⟩,
  ⟨some 21, .alloc 98 [.nilsl 191 1, .bool false, .nilsl 191 1], none⟩,
  ⟨none, .st 3 (.t 21) (.t 85), none⟩])
 (.lv [2, 3, 4, 6, 9, 11, 12, 14, 17, 18, 19, 20, 21, 77, 78, 81, 82] (.seq (.seq (.reg none [⟨some 86, .mov (.t 17), none⟩,
  ⟨some 87, .mov (.k (.int .i64 0)), none⟩])
 (.lv [2, 3, 4, 6, 9, 11, 12, 14, 17, 18, 19, 20, 21, 77, 78, 81, 82, 86, 87] (.block 4 (.loop [2, 3, 4, 6, 9, 11, 12, 14, 17, 18, 19, 20, 21, 77, 78, 81, 82, 86, 87] (some (12, [])) b66_2))))
 k66_0))))))
 k66_1))))
def k66_2 : IR :=
 .reg none [⟨some 126, .bin .add (.t 78) (.k (.int .i64 1)), none⟩,
  ⟨some 78, .mov (.t 126), none⟩]
def b66_0 : IR :=
 .seq (.reg none [⟨some 79, .bin .lt (.t 78) (.t 77), none⟩])
 (.lv [2, 3, 4, 6, 9, 11, 12, 14, 17, 18, 77, 78, 79] (.seq (.cond (.t 79) (.skip)
 (.exit 0))
 (.lv [2, 3, 4, 6, 9, 11, 12, 14, 17, 18, 77, 78] (.seq (.block 1 (.seq (.reg none [⟨some 80, .mov (.t 78), none⟩,
  ⟨some 19, .mov (.t 80), none⟩])
 (.lv [2, 3, 4, 6, 9, 11, 12, 14, 17, 18, 19, 77, 78] (.seq (.reg none [⟨some 81, .mov (.t 11), none⟩,
  ⟨some 82, .mov (.k (.int .i64 0)), none⟩])
 (.lv [2, 3, 4, 6, 9, 11, 12, 14, 17, 18, 19, 77, 78, 81, 82] (.block 2 (.loop [2, 3, 4, 6, 9, 11, 12, 14, 17, 18, 19, 77, 78, 81, 82] (some (9, [])) b66_1)))))))
 k66_2))))
def k66_3 : IR :=
 .seq (.reg none [⟨some 128, .mov (.t 14), none⟩,
  ⟨some 129, .mov (.t 18), none⟩,
  ⟨some 130, .callF 64 [.t 128, .t 129], none⟩,
  ⟨some 127, .mov (.t 130), none⟩,
  ⟨some 131, .ext (.t 127) 0, none⟩,
  ⟨some 132, .ext (.t 127) 1, none⟩,
  ⟨some 23, .alloc 35 [.nilsl 3 1, .bool false, .nilsl 21 1, .nilsl 98 3, .bool false], none⟩,
  ⟨none, .st 5 (.t 23) (.t 131), none⟩,
  ⟨some 24, .mov (.t 132), none⟩])
 (.lv [6, 23] (.seq (.reg none [⟨some 133, .ld true 5 (.t 23), none⟩,
  ⟨none, .st 5 (.t 6) (.t 133), none⟩,
  ⟨some 7, .mov (.k (.int .i64 0)), none⟩])
 (.ret)))
def c66 : IR :=
 .seq (.reg none [⟨some 3, .box 35 5 (.t 0), none⟩,
  ⟨some 4, .box 35 5 (.t 1), none⟩,
  ⟨some 6, .alloc 35 [.nilsl 3 1, .bool false, .nilsl 21 1, .nilsl 98 3, .bool false], none⟩,
  ⟨some 7, .mov (.k (.int .i64 0)), none⟩])
 (.lv [2, 3, 4, 6] (.seq (.seq (.reg none [⟨some 25, .ld true 5 (.t 3), none⟩,
  ⟨some 26, .ld true 5 (.t 4), none⟩,
  ⟨some 27, .bsl 35 5 [.t 25, .t 26], none⟩,
  ⟨some 28, .callR 68 [.t 27], none⟩,
  ⟨some 29, .not (.t 28), none⟩])
 (.lv [2, 3, 4, 6, 29] (.cond (.t 29) (.lv [6] (.seq (.reg none [⟨some 30, .build [.sl 0 1 [], .bool false, .sl 0 1 [], .sl 0 3 [], .bool false] [], none⟩,
  ⟨none, .st 5 (.t 6) (.t 30), none⟩,
  ⟨some 7, .mov (.k (.int .i64 22)), none⟩])
 (.ret)))
 (.skip))))
 (.lv [2, 3, 4, 6] (.seq (.reg none [⟨some 32, .ld true 5 (.t 3), none⟩,
  ⟨some 33, .callP 118 [.t 32], none⟩,
  ⟨some 31, .mov (.t 33), none⟩,
  ⟨some 34, .ext (.t 31) 0, none⟩,
  ⟨some 35, .ext (.t 31) 1, none⟩,
  ⟨some 36, .ext (.t 31) 2, none⟩,
  ⟨some 8, .mov (.t 34), none⟩,
  ⟨some 9, .mov (.t 35), none⟩,
  ⟨some 10, .mov (.t 36), none⟩])
 (.lv [2, 3, 4, 6, 8, 9, 10] (.seq (.reg none [⟨some 38, .ld true 5 (.t 4), none⟩,
  ⟨some 39, .callP 71 [.t 38], none⟩,
  ⟨some 37, .mov (.t 39), none⟩,
  ⟨some 40, .ext (.t 37) 0, none⟩,
  ⟨some 41, .ext (.t 37) 1, none⟩,
  ⟨some 42, .ext (.t 37) 2, none⟩,
  ⟨some 11, .mov (.t 40), none⟩,
  ⟨some 12, .mov (.t 41), none⟩,
  ⟨some 13, .mov (.t 42), none⟩])
 (.lv [2, 3, 4, 6, 8, 9, 10, 11, 12, 13] (.seq (.seq (.reg none [⟨some 43, .mov (.t 9), none⟩,
  ⟨some 44, .mov (.t 12), none⟩,
  ⟨some 45, .bin .ne (.t 43) (.t 44), none⟩,
  ⟨some 46, .mov (.t 45), none⟩,
  ⟨some 47, .mov (.t 9), (some (46, true))⟩,
  ⟨some 48, .bin .ne (.t 47) (.k (.int .i64 1)), (some (46, true))⟩,
  ⟨some 49, .pick (.t 46) (.t 48) (.k (.bool false)), none⟩,
  ⟨some 50, .mov (.t 49), none⟩,
  ⟨some 51, .mov (.t 12), (some (50, true))⟩,
  ⟨some 52, .bin .ne (.t 51) (.k (.int .i64 1)), (some (50, true))⟩,
  ⟨some 53, .pick (.t 50) (.t 52) (.k (.bool false)), none⟩])
 (.lv [2, 3, 4, 6, 8, 9, 10, 11, 12, 13, 53] (.cond (.t 53) (.lv [6] (.seq (.reg none [⟨some 54, .build [.sl 0 1 [], .bool false, .sl 0 1 [], .sl 0 3 [], .bool false] [], none⟩,
  ⟨none, .st 5 (.t 6) (.t 54), none⟩,
  ⟨some 7, .mov (.k (.int .i64 24)), none⟩])
 (.ret)))
 (.skip))))
 (.lv [2, 3, 4, 6, 8, 9, 10, 11, 12, 13] (.seq (.reg none [⟨some 55, .mov (.t 10), none⟩,
  ⟨some 56, .mov (.t 13), none⟩,
  ⟨some 57, .bsl 22 1 [.t 55, .t 56], none⟩,
  ⟨some 58, .callF 69 [.t 57], none⟩,
  ⟨some 14, .mov (.t 58), none⟩])
 (.lv [2, 3, 4, 6, 8, 9, 11, 12, 14] (.seq (.seq (.reg none [⟨some 60, .mov (.t 14), none⟩,
  ⟨some 61, .callP 70 [.t 60], none⟩,
  ⟨some 59, .mov (.t 61), none⟩,
  ⟨some 62, .ext (.t 59) 0, none⟩,
  ⟨some 63, .ext (.t 59) 1, none⟩,
  ⟨some 15, .mov (.t 62), none⟩,
  ⟨some 16, .mov (.t 63), none⟩])
 (.lv [2, 3, 4, 6, 8, 9, 11, 12, 14, 16] (.seq (.reg none [⟨some 64, .mov (.t 16), none⟩,
  ⟨some 65, .bin .ne (.t 64) (.k (.int .i64 0)), none⟩])
 (.lv [2, 3, 4, 6, 8, 9, 11, 12, 14, 16, 65] (.cond (.t 65) (.lv [6, 16] (.seq (.reg none [⟨some 66, .build [.sl 0 1 [], .bool false, .sl 0 1 [], .sl 0 3 [], .bool false] [], none⟩,
  ⟨some 67, .mov (.t 16), none⟩,
  ⟨none, .st 5 (.t 6) (.t 66), none⟩,
  ⟨some 7, .mov (.t 67), none⟩])
 (.ret)))
 (.skip))))))
 (.lv [2, 3, 4, 6, 8, 9, 11, 12, 14] (.seq (.reg none [⟨some 68, .mov (.t 9), none⟩,
  ⟨some 69, .mov (.t 12), none⟩,
  ⟨some 70, .mx (.t 68) (.t 69), none⟩,
  ⟨some 17, .mov (.t 70), none⟩])
 (.lv [2, 3, 4, 6, 8, 9, 11, 12, 14, 17] (.seq (.seq (.reg none [⟨some 71, .mov (.t 9), none⟩,
  ⟨some 72, .bin .eq (.t 71) (.k (.int .i64 0)), none⟩,
  ⟨some 73, .mov (.t 72), none⟩,
  ⟨some 74, .mov (.t 12), (some (73, false))⟩,
  ⟨some 75, .bin .eq (.t 74) (.k (.int .i64 0)), (some (73, false))⟩,
  ⟨some 76, .pick (.t 73) (.k (.bool true)) (.t 75), none⟩])
 (.lv [2, 3, 4, 6, 8, 9, 11, 12, 14, 17, 76] (.cond (.t 76) (.lv [2, 3, 4, 6, 8, 9, 11, 12, 14] (.reg none [⟨some 17, .mov (.k (.int .i64 0)), none⟩]))
 (.skip))))
 (.lv [2, 3, 4, 6, 8, 9, 11, 12, 14, 17] (.seq (.reg none [⟨some 18, .newnil 98 3, none⟩])
 (.lv [2, 3, 4, 6, 8, 9, 11, 12, 14, 17, 18] (.seq (.seq (.reg none [⟨some 77, .mov (.t 8), none⟩,
  ⟨some 78, .mov (.k (.int .i64 0)), none⟩])
 (.lv [2, 3, 4, 6, 9, 11, 12, 14, 17, 18, 77, 78] (.block 0 (.loop [2, 3, 4, 6, 9, 11, 12, 14, 17, 18, 77, 78] (some (9, [])) b66_0))))
 k66_3))))))))))))))))))))
def i66 : IFn := ⟨3, 134, c66, [.c 6 true 5, .t 7], .pure⟩
def c67 : IR :=
 .seq (.reg none [⟨some 2, .alloc 26 [.nilsl 3 1, .bool false, .nilsl 21 1, .nilsl 72 3], none⟩])
 (.lv [0, 2] (.seq (.reg none [⟨some 3, .mov (.t 0), none⟩,
  ⟨some 4, .callP 88 [.t 3], none⟩,
  ⟨some 5, .callP 120 [.t 4], none⟩,
  ⟨none, .st 4 (.t 2) (.t 5), none⟩])
 (.ret)))
def i67 : IFn := ⟨1, 6, c67, [.c 2 true 4], .pure⟩
def b68_0 : IR :=
 .seq (.reg none [⟨some 8, .bin .lt (.t 7) (.t 6), none⟩])
 (.lv [5, 6, 7, 8] (.seq (.cond (.t 8) (.skip)
 (.exit 0))
 (.lv [5, 6, 7] (.seq (.block 1 (.seq (.reg none [⟨some 9, .iaddrf 5 (.t 5) (.t 7), none⟩,
  ⟨some 10, .ldf true 5 (.t 9), none⟩,
  ⟨some 4, .alloc 35 [.nilsl 3 1, .bool false, .nilsl 21 1, .nilsl 98 3, .bool false], none⟩,
  ⟨none, .st 5 (.t 4) (.t 10), none⟩])
 (.lv [4, 5, 6, 7] (.seq (.reg none [⟨some 11, .ld true 5 (.t 4), none⟩,
  ⟨some 12, .callR 58 [.t 11], none⟩,
  ⟨some 13, .mov (.t 12), none⟩,
  ⟨some 14, .ld true 5 (.t 4), (some (13, true))⟩,
  ⟨some 15, .callR 55 [.t 14], (some (13, true))⟩,
  ⟨some 16, .bin .gt (.t 15) (.k (.int .i64 0)), (some (13, true))⟩,
  ⟨some 17, .pick (.t 13) (.t 16) (.k (.bool false)), none⟩])
 (.lv [5, 6, 7, 17] (.cond (.t 17) (.lv [] (.seq (.reg none [⟨some 2, .mov (.k (.bool false)), none⟩])
 (.ret)))
 (.skip)))))))
 (.lv [5, 6, 7] (.reg none [⟨some 18, .bin .add (.t 7) (.k (.int .i64 1)), none⟩,
  ⟨some 7, .mov (.t 18), none⟩]))))))
def k68_0 : IR :=
 .seq (.reg none [⟨some 2, .mov (.k (.bool true)), none⟩])
 (.ret)
def c68 : IR :=
 .seq (.reg none [⟨some 2, .mov (.k (.bool false)), none⟩])
 (.lv [0] (.seq (.seq (.reg none [⟨some 5, .mov (.t 0), none⟩,
  ⟨some 6, .lenf (.t 5), none⟩,
  ⟨some 7, .mov (.k (.int .i64 0)), none⟩])
 (.lv [5, 6, 7] (.block 0 (.loop [5, 6, 7] (some (0, [])) b68_0))))
 k68_0))
def i68 : IFn := ⟨1, 19, c68, [.t 2], .pure⟩
def c69 : IR :=
 .seq (.reg none [⟨some 2, .newnil 3 1, none⟩])
 (.lv [0] (.seq (.reg none [⟨some 3, .mov (.t 0), none⟩,
  ⟨some 4, .callP 121 [.t 3], none⟩,
  ⟨some 2, .mov (.t 4), none⟩])
 (.ret)))
def i69 : IFn := ⟨1, 5, c69, [.t 2], .pure⟩
def c70 : IR :=
 .seq (.reg none [⟨some 2, .mov (.k (.int .i64 0)), none⟩,
  ⟨some 3, .mov (.k (.int .i64 0)), none⟩])
 (.lv [0] (.seq (.reg none [⟨some 7, .mov (.t 0), none⟩,
  ⟨some 8, .callP 90 [.t 7], none⟩,
  ⟨some 6, .mov (.t 8), none⟩,
  ⟨some 9, .ext (.t 6) 0, none⟩,
  ⟨some 10, .ext (.t 6) 1, none⟩,
  ⟨some 4, .mov (.t 9), none⟩,
  ⟨some 5, .mov (.t 10), none⟩])
 (.lv [0, 4, 5] (.seq (.block 0 (.seq (.reg none [⟨some 12, .mov (.t 0), none⟩,
  ⟨some 13, .lenf (.t 12), none⟩,
  ⟨some 14, .bin .gt (.t 13) (.k (.int .i64 8)), none⟩,
  ⟨some 11, .mov (.t 14), none⟩])
 (.lv [4, 5, 11] (.cond (.t 11) (.lv [] (.seq (.reg none [⟨some 2, .mov (.k (.int .i64 0)), none⟩,
  ⟨some 3, .mov (.k (.int .i64 23)), none⟩])
 (.ret)))
 (.lv [4, 5] (.seq (.reg none [⟨some 16, .mov (.t 5), none⟩,
  ⟨some 17, .not (.t 16), none⟩,
  ⟨some 15, .mov (.t 17), none⟩])
 (.lv [4, 15] (.cond (.t 15) (.lv [] (.seq (.reg none [⟨some 2, .mov (.k (.int .i64 0)), none⟩,
  ⟨some 3, .mov (.k (.int .i64 26)), none⟩])
 (.ret)))
 (.skip)))))))))
 (.lv [4] (.seq (.reg none [⟨some 18, .mov (.t 4), none⟩,
  ⟨some 2, .mov (.t 18), none⟩,
  ⟨some 3, .mov (.k (.int .i64 0)), none⟩])
 (.ret)))))))
def i70 : IFn := ⟨1, 19, c70, [.t 2, .t 3], .pure⟩
def c71 : IR :=
 .seq (.reg none [⟨some 1, .box 35 5 (.t 0), none⟩,
  ⟨some 2, .mov (.k (.int .i64 0)), none⟩,
  ⟨some 3, .mov (.k (.int .i64 0)), none⟩,
  ⟨some 4, .newnil 3 1, none⟩])
 (.lv [1] (.seq (.reg none [⟨some 10, .ld true 5 (.t 1), none⟩,
  ⟨some 11, .callP 48 [.t 10], none⟩,
  ⟨some 5, .mov (.t 11), none⟩])
 (.lv [5] (.seq (.seq (.reg none [⟨some 12, .mov (.t 5), none⟩,
  ⟨some 13, .lenf (.t 12), none⟩,
  ⟨some 14, .bin .eq (.t 13) (.k (.int .i64 0)), none⟩])
 (.lv [5, 14] (.cond (.t 14) (.lv [] (.seq (.reg none [⟨some 2, .mov (.k (.int .i64 1)), none⟩,
  ⟨some 3, .mov (.k (.int .i64 1)), none⟩,
  ⟨some 4, .newnil 3 1, none⟩])
 (.ret)))
 (.skip))))
 (.lv [5] (.seq (.reg none [⟨some 16, .mov (.t 5), none⟩,
  ⟨some 17, .callP 122 [.t 16, .k (.int .i64 0)], none⟩,
  ⟨some 15, .mov (.t 17), none⟩,
  ⟨some 18, .ext (.t 15) 0, none⟩,
  ⟨some 19, .ext (.t 15) 1, none⟩,
  ⟨some 20, .ext (.t 15) 2, none⟩,
  ⟨some 21, .ext (.t 15) 3, none⟩,
  ⟨some 6, .mov (.t 18), none⟩,
  ⟨some 7, .mov (.t 19), none⟩,
  ⟨some 8, .mov (.t 20), none⟩,
  ⟨some 9, .mov (.t 21), none⟩])
 (.lv [5, 7, 8] (.seq (.reg (some [0, 1, 2, 3, 4, 5, 6]) [⟨some 22, .mov (.t 8), none⟩,
  ⟨some 23, .mov (.t 7), none⟩,
  ⟨some 24, .mov (.t 5), none⟩,
  ⟨some 25, .cut 1 (.t 24) (some (.k (.int .i64 1))) none, none⟩,
  ⟨some 2, .mov (.t 22), none⟩,
  ⟨some 3, .mov (.t 23), none⟩,
  ⟨some 4, .mov (.t 25), none⟩])
 (.ret)))))))))
def i71 : IFn := ⟨1, 26, c71, [.t 2, .t 3, .t 4], .pure⟩
def c72 : IR :=
 .seq (.reg none [⟨some 2, .box 98 3 (.t 0), none⟩,
  ⟨some 3, .box 98 3 (.t 1), none⟩,
  ⟨some 4, .alloc 98 [.nilsl 191 1, .bool false, .nilsl 191 1], none⟩])
 (.lv [2, 3, 4] (.seq (.reg none [⟨some 8, .ld true 3 (.t 3), none⟩,
  ⟨some 9, .ld true 3 (.t 2), none⟩,
  ⟨some 10, .callP 76 [.t 8, .t 9], none⟩,
  ⟨some 7, .mov (.t 10), none⟩,
  ⟨some 11, .ext (.t 7) 0, none⟩,
  ⟨some 12, .ext (.t 7) 1, none⟩,
  ⟨some 5, .alloc 98 [.nilsl 191 1, .bool false, .nilsl 191 1], none⟩,
  ⟨none, .st 3 (.t 5) (.t 11), none⟩,
  ⟨some 6, .mov (.t 12), none⟩])
 (.lv [2, 3, 4, 5, 6] (.seq (.seq (.reg none [⟨some 13, .mov (.t 6), none⟩,
  ⟨some 14, .not (.t 13), none⟩])
 (.lv [2, 3, 4, 5, 14] (.cond (.t 14) (.lv [3, 4] (.seq (.reg none [⟨some 15, .ld true 3 (.t 3), none⟩,
  ⟨none, .st 3 (.t 4) (.t 15), none⟩])
 (.ret)))
 (.skip))))
 (.lv [2, 3, 4, 5] (.seq (.reg (some [0, 1, 2, 3, 4, 5, 6, 7, 8, 9, 10]) [⟨some 16, .ld true 3 (.t 3), none⟩,
  ⟨some 17, .ld true 3 (.t 2), none⟩,
  ⟨some 18, .ld true 3 (.t 5), none⟩,
  ⟨some 19, .callF 124 [.t 18], none⟩,
  ⟨some 20, .callP 123 [.t 19], none⟩,
  ⟨some 21, .bsl 98 3 [.t 20], none⟩,
  ⟨some 22, .callF 119 [.t 17, .t 21], none⟩,
  ⟨some 23, .callP 75 [.t 22], none⟩,
  ⟨some 24, .bsl 98 3 [.t 23], none⟩,
  ⟨some 25, .callF 74 [.t 16, .t 24], none⟩,
  ⟨none, .st 3 (.t 4) (.t 25), none⟩])
 (.ret)))))))
def i72 : IFn := ⟨2, 26, c72, [.c 4 true 3], .pure⟩
def c73 : IR :=
 .seq (.reg none [⟨some 1, .box 98 3 (.t 0), none⟩,
  ⟨some 2, .mov (.k (.int .i64 0)), none⟩])
 (.lv [1] (.seq (.reg (some [0, 1, 2, 3, 4, 5, 6, 7, 8]) [⟨some 3, .faddr 0 (.t 1), none⟩,
  ⟨some 4, .faddr 0 (.t 3), none⟩,
  ⟨some 5, .ld true 1 (.t 4), none⟩,
  ⟨some 6, .callP 125 [.t 5], none⟩,
  ⟨some 7, .ld true 3 (.t 1), none⟩,
  ⟨some 8, .callP 126 [.t 7], none⟩,
  ⟨some 9, .callP 125 [.t 8], none⟩,
  ⟨some 10, .mx (.t 6) (.t 9), none⟩,
  ⟨some 2, .mov (.t 10), none⟩])
 (.ret)))
def i73 : IFn := ⟨1, 11, c73, [.t 2], .pure⟩
def b74_0 : IR :=
 .seq (.reg none [⟨some 10, .bin .lt (.t 9) (.t 8), none⟩])
 (.lv [2, 4, 7, 8, 9, 10] (.seq (.cond (.t 10) (.skip)
 (.exit 0))
 (.lv [2, 4, 7, 8, 9] (.seq (.block 1 (.seq (.reg none [⟨some 11, .iaddrf 3 (.t 7) (.t 9), none⟩,
  ⟨some 12, .ldf true 3 (.t 11), none⟩,
  ⟨some 6, .alloc 98 [.nilsl 191 1, .bool false, .nilsl 191 1], none⟩,
  ⟨none, .st 3 (.t 6) (.t 12), none⟩])
 (.lv [2, 4, 6, 7, 8, 9] (.reg (some [0, 1, 2, 6, 7, 8, 14, 16, 3, 4, 5, 9, 10, 11, 12, 13, 15, 17, 18, 19, 20, 21, 22, 23, 24]) [⟨some 14, .faddr 0 (.t 2), none⟩,
  ⟨some 15, .ld true 2 (.t 14), none⟩,
  ⟨some 16, .ld true 3 (.t 6), none⟩,
  ⟨some 20, .faddr 0 (.t 6), none⟩,
  ⟨some 21, .ld true 2 (.t 20), none⟩,
  ⟨some 22, .ld true 3 (.t 2), none⟩,
  ⟨some 28, .ld true 3 (.t 2), none⟩,
  ⟨some 30, .ld true 3 (.t 6), none⟩,
  ⟨some 17, .callF 129 [.t 16], none⟩,
  ⟨some 18, .bsl 96 2 [.t 17], none⟩,
  ⟨some 19, .callF 128 [.t 15, .t 18], none⟩,
  ⟨some 23, .callP 129 [.t 22], none⟩,
  ⟨some 24, .bsl 96 2 [.t 23], none⟩,
  ⟨some 25, .callF 128 [.t 21, .t 24], none⟩,
  ⟨some 26, .bsl 96 2 [.t 25], none⟩,
  ⟨some 27, .callF 130 [.t 19, .t 26], none⟩,
  ⟨some 29, .callP 129 [.t 28], none⟩,
  ⟨some 31, .callF 129 [.t 30], none⟩,
  ⟨some 32, .bsl 96 2 [.t 31], none⟩,
  ⟨some 33, .callF 128 [.t 29, .t 32], none⟩,
  ⟨some 34, .callP 127 [.t 27, .t 33], none⟩,
  ⟨some 13, .mov (.t 34), none⟩,
  ⟨some 35, .ext (.t 13) 0, none⟩,
  ⟨some 36, .ext (.t 13) 1, none⟩,
  ⟨none, .st 3 (.t 2) (.t 35), none⟩]))))
 (.lv [2, 4, 7, 8, 9] (.reg none [⟨some 37, .bin .add (.t 9) (.k (.int .i64 1)), none⟩,
  ⟨some 9, .mov (.t 37), none⟩]))))))
def k74_0 : IR :=
 .seq (.reg none [⟨some 38, .ld true 3 (.t 2), none⟩,
  ⟨none, .st 3 (.t 4) (.t 38), none⟩])
 (.ret)
def c74 : IR :=
 .seq (.reg none [⟨some 2, .box 98 3 (.t 0), none⟩,
  ⟨some 4, .alloc 98 [.nilsl 191 1, .bool false, .nilsl 191 1], none⟩])
 (.lv [1, 2, 4] (.seq (.seq (.reg none [⟨some 7, .mov (.t 1), none⟩,
  ⟨some 8, .lenf (.t 7), none⟩,
  ⟨some 9, .mov (.k (.int .i64 0)), none⟩])
 (.lv [2, 4, 7, 8, 9] (.block 0 (.loop [2, 4, 7, 8, 9] (some (4, [])) b74_0))))
 k74_0))
def i74 : IFn := ⟨2, 39, c74, [.c 4 true 3], .pure⟩
def c75 : IR :=
 .seq (.reg none [⟨some 1, .box 98 3 (.t 0), none⟩,
  ⟨some 2, .alloc 98 [.nilsl 191 1, .bool false, .nilsl 191 1], none⟩])
 (.lv [1, 2] (.seq (.reg (some [0, 1, 2, 3, 4, 5, 6]) [⟨some 3, .faddr 0 (.t 1), none⟩,
  ⟨some 4, .ld true 2 (.t 3), none⟩,
  ⟨some 5, .callP 131 [.t 4], none⟩,
  ⟨some 6, .ld true 3 (.t 1), none⟩,
  ⟨some 7, .callP 126 [.t 6], none⟩,
  ⟨some 8, .build [.nilsl 191 1, .bool false, .nilsl 191 1] [(0, 2, .t 5), (2, 1, .t 7)], none⟩,
  ⟨none, .st 3 (.t 2) (.t 8), none⟩])
 (.ret)))
def i75 : IFn := ⟨1, 9, c75, [.c 2 true 3], .pure⟩
def c76 : IR :=
 .seq (.reg none [⟨some 2, .box 98 3 (.t 0), none⟩,
  ⟨some 3, .box 98 3 (.t 1), none⟩,
  ⟨some 4, .alloc 98 [.nilsl 191 1, .bool false, .nilsl 191 1], none⟩,
  ⟨some 5, .mov (.k (.bool false)), none⟩])
 (.lv [2, 3, 4] (.seq (.reg (some [0, 1, 2, 3, 4, 5, 6, 7, 8, 9, 10, 11, 12, 13, 14, 15, 16]) [⟨some 6, .faddr 0 (.t 2), none⟩,
  ⟨some 7, .ld true 2 (.t 6), none⟩,
  ⟨some 8, .ld true 3 (.t 3), none⟩,
  ⟨some 9, .callP 129 [.t 8], none⟩,
  ⟨some 10, .bslF 96 2 [.t 9], none⟩,
  ⟨some 11, .callP 128 [.t 7, .t 10], none⟩,
  ⟨some 12, .ld true 3 (.t 2), none⟩,
  ⟨some 13, .callP 129 [.t 12], none⟩,
  ⟨some 14, .faddr 0 (.t 3), none⟩,
  ⟨some 15, .ld true 2 (.t 14), none⟩,
  ⟨some 16, .bslF 96 2 [.t 15], none⟩,
  ⟨some 17, .callP 128 [.t 13, .t 16], none⟩,
  ⟨some 18, .callP 127 [.t 11, .t 17], none⟩,
  ⟨some 19, .ext (.t 18) 0, none⟩,
  ⟨some 20, .ext (.t 18) 1, none⟩,
  ⟨none, .st 3 (.t 4) (.t 19), none⟩,
  ⟨some 5, .mov (.t 20), none⟩])
 (.ret)))
def i76 : IFn := ⟨2, 21, c76, [.c 4 true 3, .t 5], .pure⟩
def c77 : IR :=
 .seq (.reg none [⟨some 2, .mov (.k (.int .i64 0)), none⟩])
 (.lv [0] (.seq (.seq (.reg none [⟨some 5, .mov (.t 0), none⟩,
  ⟨some 6, .lenf (.t 5), none⟩,
  ⟨some 7, .bin .gt (.t 6) (.k (.int .i64 8)), none⟩])
 (.lv [0, 7] (.cond (.t 7) (.lv [] (.seq (.reg none [⟨some 2, .mov (.k (.int .i64 23)), none⟩])
 (.ret)))
 (.skip))))
 (.lv [0] (.seq (.reg none [⟨some 9, .mov (.t 0), none⟩,
  ⟨some 10, .callP 78 [.t 9], none⟩,
  ⟨some 8, .mov (.t 10), none⟩,
  ⟨some 11, .ext (.t 8) 0, none⟩,
  ⟨some 12, .ext (.t 8) 1, none⟩,
  ⟨some 3, .mov (.t 11), none⟩,
  ⟨some 4, .mov (.t 12), none⟩])
 (.lv [4] (.seq (.seq (.reg none [⟨some 13, .mov (.t 4), none⟩,
  ⟨some 14, .not (.t 13), none⟩])
 (.lv [14] (.cond (.t 14) (.lv [] (.seq (.reg none [⟨some 2, .mov (.k (.int .i64 26)), none⟩])
 (.ret)))
 (.skip))))
 (.lv [] (.seq (.reg none [⟨some 2, .mov (.k (.int .i64 0)), none⟩])
 (.ret)))))))))
def i77 : IFn := ⟨1, 15, c77, [.t 2], .pure⟩
def b78_0 : IR :=
 .seq (.seq (.reg none [⟨some 7, .mov (.t 6), none⟩,
  ⟨some 8, .mov (.t 0), none⟩,
  ⟨some 9, .lenf (.t 8), none⟩,
  ⟨some 10, .bin .lt (.t 7) (.t 9), none⟩])
 (.lv [0, 4, 5, 6, 10] (.cond (.t 10) (.skip)
 (.exit 0))))
 (.lv [0, 4, 5, 6] (.seq (.block 1 (.seq (.seq (.reg none [⟨some 13, .mov (.t 6), none⟩,
  ⟨some 14, .bin .ge (.t 13) (.k (.int .i64 8)), none⟩,
  ⟨some 15, .mov (.t 14), none⟩,
  ⟨some 16, .mov (.t 0), (some (15, false))⟩,
  ⟨some 17, .mov (.t 6), (some (15, false))⟩,
  ⟨some 18, .iaddrf 1 (.t 16) (.t 17), (some (15, false))⟩,
  ⟨some 19, .ldf false 1 (.t 18), (some (15, false))⟩,
  ⟨some 20, .bin .lt (.t 19) (.k (.int .i64 0)), (some (15, false))⟩,
  ⟨some 21, .pick (.t 15) (.k (.bool true)) (.t 20), none⟩,
  ⟨some 22, .mov (.t 21), none⟩,
  ⟨some 23, .mov (.t 0), (some (22, false))⟩,
  ⟨some 24, .mov (.t 6), (some (22, false))⟩,
  ⟨some 25, .iaddrf 1 (.t 23) (.t 24), (some (22, false))⟩,
  ⟨some 26, .ldf false 1 (.t 25), (some (22, false))⟩,
  ⟨some 27, .bin .gt (.t 26) (.k (.int .i64 4096)), (some (22, false))⟩,
  ⟨some 28, .pick (.t 22) (.k (.bool true)) (.t 27), none⟩])
 (.lv [0, 4, 5, 6, 28] (.cond (.t 28) (.lv [] (.seq (.reg none [⟨some 2, .mov (.k (.int .i64 0)), none⟩,
  ⟨some 3, .mov (.k (.bool false)), none⟩])
 (.ret)))
 (.skip))))
 (.lv [0, 4, 5, 6] (.seq (.reg none [⟨some 29, .mov (.t 5), none⟩,
  ⟨some 30, .mov (.t 0), none⟩,
  ⟨some 31, .mov (.t 6), none⟩,
  ⟨some 32, .iaddrf 1 (.t 30) (.t 31), none⟩,
  ⟨some 33, .ldf false 1 (.t 32), none⟩,
  ⟨some 34, .bin .mul (.t 29) (.t 33), none⟩,
  ⟨some 5, .mov (.t 34), none⟩])
 (.lv [0, 4, 5, 6] (.seq (.seq (.reg none [⟨some 35, .mov (.t 0), none⟩,
  ⟨some 36, .mov (.t 6), none⟩,
  ⟨some 37, .iaddrf 1 (.t 35) (.t 36), none⟩,
  ⟨some 38, .ldf false 1 (.t 37), none⟩,
  ⟨some 39, .bin .gt (.t 38) (.k (.int .i64 0)), none⟩])
 (.lv [0, 4, 5, 6, 39] (.cond (.t 39) (.lv [0, 4, 5, 6] (.reg none [⟨some 40, .mov (.t 4), none⟩,
  ⟨some 41, .mov (.t 0), none⟩,
  ⟨some 42, .mov (.t 6), none⟩,
  ⟨some 43, .iaddrf 1 (.t 41) (.t 42), none⟩,
  ⟨some 44, .ldf false 1 (.t 43), none⟩,
  ⟨some 45, .bin .mul (.t 40) (.t 44), none⟩,
  ⟨some 4, .mov (.t 45), none⟩]))
 (.skip))))
 (.lv [0, 4, 5, 6] (.seq (.reg none [⟨some 46, .mov (.t 4), none⟩,
  ⟨some 47, .bin .gt (.t 46) (.k (.int .i64 4096)), none⟩])
 (.lv [0, 4, 5, 6, 47] (.cond (.t 47) (.lv [] (.seq (.reg none [⟨some 2, .mov (.k (.int .i64 0)), none⟩,
  ⟨some 3, .mov (.k (.bool false)), none⟩])
 (.ret)))
 (.skip)))))))))))
 (.lv [0, 4, 5, 6] (.reg none [⟨some 11, .mov (.t 6), none⟩,
  ⟨some 12, .bin .add (.t 11) (.k (.int .i64 1)), none⟩,
  ⟨some 6, .mov (.t 12), none⟩]))))
def k78_0 : IR :=
 .seq (.reg none [⟨some 48, .mov (.t 5), none⟩,
  ⟨some 2, .mov (.t 48), none⟩,
  ⟨some 3, .mov (.k (.bool true)), none⟩])
 (.ret)
def c78 : IR :=
 .seq (.reg none [⟨some 2, .mov (.k (.int .i64 0)), none⟩,
  ⟨some 3, .mov (.k (.bool false)), none⟩])
 (.lv [0] (.seq (.reg none [⟨some 4, .mov (.k (.int .i64 1)), none⟩,
  ⟨some 5, .mov (.k (.int .i64 1)), none⟩])
 (.lv [0, 4, 5] (.seq (.seq (.reg none [⟨some 6, .mov (.k (.int .i64 0)), none⟩])
 (.lv [0, 4, 5, 6] (.block 0 (.loop [0, 4, 5, 6] (some (0, [])) b78_0))))
 k78_0))))
def i78 : IFn := ⟨1, 49, c78, [.t 2, .t 3], .pure⟩
def c79 : IR :=
 .seq (.reg none [⟨some 1, .box 26 4 (.t 0), none⟩,
  ⟨some 2, .alloc 26 [.nilsl 3 1, .bool false, .nilsl 21 1, .nilsl 72 3], none⟩])
 (.lv [1, 2] (.seq (.seq (.reg none [⟨some 3, .faddr 0 (.t 1), none⟩,
  ⟨some 4, .ld false 1 (.t 3), none⟩,
  ⟨some 5, .len (.t 4), none⟩,
  ⟨some 6, .bin .eq (.t 5) (.k (.int .i64 0)), none⟩])
 (.lv [1, 2, 6] (.cond (.t 6) (.lv [1, 2] (.reg none [⟨some 7, .bsl 3 1 [.k (.int .i64 1)], none⟩,
  ⟨some 8, .faddr 0 (.t 1), none⟩,
  ⟨none, .st 1 (.t 8) (.t 7), none⟩]))
 (.skip))))
 (.lv [1, 2] (.seq (.reg none [⟨some 9, .ld true 4 (.t 1), none⟩,
  ⟨none, .st 4 (.t 2) (.t 9), none⟩])
 (.ret)))))
def i79 : IFn := ⟨1, 10, c79, [.c 2 true 4], .pure⟩
def b80_2 : IR :=
 .seq (.seq (.reg none [⟨some 22, .mov (.t 7), none⟩,
  ⟨some 23, .mov (.t 0), none⟩,
  ⟨some 24, .mov (.t 4), none⟩,
  ⟨some 25, .iaddrf 1 (.t 23) (.t 24), none⟩,
  ⟨some 26, .ldf false 1 (.t 25), none⟩,
  ⟨some 27, .bin .lt (.t 22) (.t 26), none⟩,
  ⟨some 28, .mov (.t 27), none⟩,
  ⟨some 29, .mov (.t 7), (some (28, true))⟩,
  ⟨some 30, .bin .lt (.t 29) (.k (.int .i64 4096)), (some (28, true))⟩,
  ⟨some 31, .pick (.t 28) (.t 30) (.k (.bool false)), none⟩])
 (.lv [0, 3, 4, 5, 6, 7, 31] (.cond (.t 31) (.skip)
 (.exit 4))))
 (.lv [0, 3, 4, 5, 6, 7] (.seq (.block 5 (.reg none [⟨some 34, .mov (.t 5), none⟩,
  ⟨some 35, .bsl 3 1 [], none⟩,
  ⟨some 36, .mov (.t 3), none⟩,
  ⟨some 37, .mov (.t 6), none⟩,
  ⟨some 38, .iaddr 1 (.t 36) (.t 37), none⟩,
  ⟨some 39, .ld false 1 (.t 38), none⟩,
  ⟨some 40, .app 3 1 8 (.t 35) (.t 39), none⟩,
  ⟨some 41, .mov (.t 7), none⟩,
  ⟨some 42, .bsl 3 1 [.t 41], none⟩,
  ⟨some 43, .app 3 1 8 (.t 40) (.t 42), none⟩,
  ⟨some 44, .bsl 22 1 [.t 43], none⟩,
  ⟨some 45, .app 22 1 24 (.t 34) (.t 44), none⟩,
  ⟨some 5, .mov (.t 45), none⟩]))
 (.lv [0, 3, 4, 5, 6, 7] (.reg none [⟨some 32, .mov (.t 7), none⟩,
  ⟨some 33, .bin .add (.t 32) (.k (.int .i64 1)), none⟩,
  ⟨some 7, .mov (.t 33), none⟩]))))
def k80_0 : IR :=
 .reg none [⟨some 20, .mov (.t 6), none⟩,
  ⟨some 21, .bin .add (.t 20) (.k (.int .i64 1)), none⟩,
  ⟨some 6, .mov (.t 21), none⟩]
def b80_1 : IR :=
 .seq (.seq (.reg none [⟨some 16, .mov (.t 6), none⟩,
  ⟨some 17, .mov (.t 3), none⟩,
  ⟨some 18, .len (.t 17), none⟩,
  ⟨some 19, .bin .lt (.t 16) (.t 18), none⟩])
 (.lv [0, 3, 4, 5, 6, 19] (.cond (.t 19) (.skip)
 (.exit 2))))
 (.lv [0, 3, 4, 5, 6] (.seq (.block 3 (.seq (.reg none [⟨some 7, .mov (.k (.int .i64 0)), none⟩])
 (.lv [0, 3, 4, 5, 6, 7] (.block 4 (.loop [0, 3, 4, 5, 6, 7] (some (1, [])) b80_2)))))
 k80_0))
def k80_1 : IR :=
 .reg none [⟨some 46, .mov (.t 5), none⟩,
  ⟨some 3, .mov (.t 46), none⟩]
def k80_2 : IR :=
 .reg none [⟨some 14, .mov (.t 4), none⟩,
  ⟨some 15, .bin .add (.t 14) (.k (.int .i64 1)), none⟩,
  ⟨some 4, .mov (.t 15), none⟩]
def b80_0 : IR :=
 .seq (.seq (.reg none [⟨some 10, .mov (.t 4), none⟩,
  ⟨some 11, .mov (.t 0), none⟩,
  ⟨some 12, .lenf (.t 11), none⟩,
  ⟨some 13, .bin .lt (.t 10) (.t 12), none⟩])
 (.lv [0, 3, 4, 13] (.cond (.t 13) (.skip)
 (.exit 0))))
 (.lv [0, 3, 4] (.seq (.block 1 (.seq (.reg none [⟨some 5, .newnil 22 1, none⟩])
 (.lv [0, 3, 4, 5] (.seq (.seq (.reg none [⟨some 6, .mov (.k (.int .i64 0)), none⟩])
 (.lv [0, 3, 4, 5, 6] (.block 2 (.loop [0, 3, 4, 5, 6] (some (1, [])) b80_1))))
 k80_1))))
 k80_2))
def k80_3 : IR :=
 .seq (.reg none [⟨some 47, .mov (.t 3), none⟩,
  ⟨some 2, .mov (.t 47), none⟩])
 (.ret)
def c80 : IR :=
 .seq (.reg none [⟨some 2, .newnil 22 1, none⟩])
 (.lv [0] (.seq (.reg none [⟨some 8, .bsl 3 1 [], none⟩,
  ⟨some 9, .bsl 22 1 [.t 8], none⟩,
  ⟨some 3, .mov (.t 9), none⟩])
 (.lv [0, 3] (.seq (.seq (.reg none [⟨some 4, .mov (.k (.int .i64 0)), none⟩])
 (.lv [0, 3, 4] (.block 0 (.loop [0, 3, 4] (some (0, [3])) b80_0))))
 k80_3))))
def i80 : IFn := ⟨1, 48, c80, [.t 2], .pure⟩
def b81_0 : IR :=
 .seq (.seq (.reg none [⟨some 10, .mov (.t 8), none⟩,
  ⟨some 11, .mov (.t 0), none⟩,
  ⟨some 12, .mov (.t 1), none⟩,
  ⟨some 13, .iaddrf 1 (.t 11) (.t 12), none⟩,
  ⟨some 14, .ldf false 1 (.t 13), none⟩,
  ⟨some 15, .bin .lt (.t 10) (.t 14), none⟩])
 (.lv [0, 1, 2, 7, 8, 15] (.cond (.t 15) (.skip)
 (.exit 0))))
 (.lv [0, 1, 2, 7, 8] (.seq (.block 1 (.seq (.reg none [⟨some 18, .bsl 3 1 [], none⟩,
  ⟨some 19, .mov (.t 2), none⟩,
  ⟨some 20, .mov (.t 1), none⟩,
  ⟨some 21, .cut 1 (.t 19) none (some (.t 20)), none⟩,
  ⟨some 22, .app 3 1 8 (.t 18) (.t 21), none⟩,
  ⟨some 23, .mov (.t 8), none⟩,
  ⟨some 24, .bsl 3 1 [.t 23], none⟩,
  ⟨some 25, .app 3 1 8 (.t 22) (.t 24), none⟩,
  ⟨some 9, .mov (.t 25), none⟩])
 (.lv [0, 1, 2, 7, 8, 9] (.reg none [⟨some 26, .mov (.t 7), none⟩,
  ⟨some 27, .mov (.t 0), none⟩,
  ⟨some 28, .mov (.t 9), none⟩,
  ⟨some 29, .mov (.t 2), none⟩,
  ⟨some 30, .mov (.t 1), none⟩,
  ⟨some 31, .cut 1 (.t 29) (some (.t 30)) none, none⟩,
  ⟨some 32, .app 3 1 8 (.t 28) (.t 31), none⟩,
  ⟨some 33, .callR 99 [.t 27, .t 32], none⟩,
  ⟨some 34, .bsl 3 1 [.t 33], none⟩,
  ⟨some 35, .app 3 1 8 (.t 26) (.t 34), none⟩,
  ⟨some 7, .mov (.t 35), none⟩]))))
 (.lv [0, 1, 2, 7, 8] (.reg none [⟨some 16, .mov (.t 8), none⟩,
  ⟨some 17, .bin .add (.t 16) (.k (.int .i64 1)), none⟩,
  ⟨some 8, .mov (.t 17), none⟩]))))
def k81_0 : IR :=
 .seq (.reg none [⟨some 36, .mov (.t 7), none⟩,
  ⟨some 6, .mov (.t 36), none⟩])
 (.ret)
def c81 : IR :=
 .seq (.reg none [⟨some 6, .newnil 3 1, none⟩])
 (.lv [0, 1, 2] (.seq (.reg none [⟨some 7, .newnil 3 1, none⟩])
 (.lv [0, 1, 2, 7] (.seq (.seq (.reg none [⟨some 8, .mov (.k (.int .i64 0)), none⟩])
 (.lv [0, 1, 2, 7, 8] (.block 0 (.loop [0, 1, 2, 7, 8] (some (2, [])) b81_0))))
 k81_0))))
def i81 : IFn := ⟨3, 37, c81, [.t 6], .pure⟩
def b82_0 : IR :=
 .seq (.seq (.reg none [⟨some 15, .mov (.t 6), none⟩,
  ⟨some 16, .bin .ge (.t 15) (.k (.int .i64 0)), none⟩])
 (.lv [0, 3, 5, 6, 16] (.cond (.t 16) (.skip)
 (.exit 0))))
 (.lv [0, 3, 5, 6] (.seq (.block 1 (.seq (.reg (some [0, 1, 2, 3, 4, 5, 6, 7, 8, 9]) [⟨some 19, .mov (.t 5), none⟩,
  ⟨some 20, .mov (.t 6), none⟩,
  ⟨some 21, .mov (.t 0), none⟩,
  ⟨some 22, .mov (.t 6), none⟩,
  ⟨some 23, .iaddrf 3 (.t 21) (.t 22), none⟩,
  ⟨some 24, .ldf true 3 (.t 23), none⟩,
  ⟨some 25, .ld true 3 (.t 3), none⟩,
  ⟨some 26, .callP 132 [.t 24, .t 25], none⟩,
  ⟨some 27, .iaddr 3 (.t 19) (.t 20), none⟩,
  ⟨none, .st 3 (.t 27) (.t 26), none⟩])
 (.lv [0, 3, 5, 6] (.seq (.reg (some [0, 1, 2, 3, 4, 5, 6, 7, 8, 9, 10, 11, 12, 13, 14, 15, 16, 17]) [⟨some 29, .ld true 3 (.t 3), none⟩,
  ⟨some 30, .mov (.t 5), none⟩,
  ⟨some 31, .mov (.t 6), none⟩,
  ⟨some 32, .iaddr 3 (.t 30) (.t 31), none⟩,
  ⟨some 33, .ld true 3 (.t 32), none⟩,
  ⟨some 34, .callP 135 [.t 33], none⟩,
  ⟨some 35, .callP 134 [.t 29, .t 34], none⟩,
  ⟨some 36, .mov (.t 0), none⟩,
  ⟨some 37, .mov (.t 6), none⟩,
  ⟨some 38, .iaddrf 3 (.t 36) (.t 37), none⟩,
  ⟨some 39, .ldf true 3 (.t 38), none⟩,
  ⟨some 40, .callP 133 [.t 35, .t 39], none⟩,
  ⟨some 28, .mov (.t 40), none⟩,
  ⟨some 41, .ext (.t 28) 0, none⟩,
  ⟨some 42, .ext (.t 28) 1, none⟩,
  ⟨some 7, .alloc 72 [.bool false, .str ⟨#[]⟩, .str ⟨#[]⟩], none⟩,
  ⟨none, .st 3 (.t 7) (.t 41), none⟩,
  ⟨some 8, .mov (.t 42), none⟩])
 (.lv [0, 3, 5, 6, 7, 8] (.seq (.reg none [⟨some 43, .ld true 3 (.t 7), none⟩,
  ⟨none, .st 3 (.t 3) (.t 43), none⟩])
 (.lv [0, 3, 5, 6, 8] (.seq (.reg none [⟨some 44, .mov (.t 8), none⟩,
  ⟨some 45, .not (.t 44), none⟩])
 (.lv [0, 3, 5, 6, 45] (.cond (.t 45) (.lv [0, 3, 5, 6] (.reg none [⟨some 46, .callP 115 [], none⟩,
  ⟨none, .st 3 (.t 3) (.t 46), none⟩]))
 (.skip)))))))))))
 (.lv [0, 3, 5, 6] (.reg none [⟨some 17, .mov (.t 6), none⟩,
  ⟨some 18, .bin .sub (.t 17) (.k (.int .i64 1)), none⟩,
  ⟨some 6, .mov (.t 18), none⟩]))))
def k82_0 : IR :=
 .seq (.reg none [⟨some 47, .mov (.t 5), none⟩,
  ⟨some 4, .mov (.t 47), none⟩])
 (.ret)
def c82 : IR :=
 .seq (.reg none [⟨some 3, .box 72 3 (.t 1), none⟩,
  ⟨some 4, .newnil 72 3, none⟩])
 (.lv [0, 3] (.seq (.reg none [⟨some 9, .mov (.t 0), none⟩,
  ⟨some 10, .lenf (.t 9), none⟩,
  ⟨some 11, .mk 72 40 [.bool false, .str ⟨#[]⟩, .str ⟨#[]⟩] (.t 10), none⟩,
  ⟨some 5, .mov (.t 11), none⟩])
 (.lv [0, 3, 5] (.seq (.seq (.reg none [⟨some 12, .mov (.t 0), none⟩,
  ⟨some 13, .lenf (.t 12), none⟩,
  ⟨some 14, .bin .sub (.t 13) (.k (.int .i64 1)), none⟩,
  ⟨some 6, .mov (.t 14), none⟩])
 (.lv [0, 3, 5, 6] (.block 0 (.loop [0, 3, 5, 6] (some (3, [])) b82_0))))
 k82_0))))
def i82 : IFn := ⟨2, 48, c82, [.t 4], .pure⟩
def b83_0 : IR :=
 .seq (.seq (.reg none [⟨some 7, .mov (.t 6), none⟩,
  ⟨some 8, .mov (.t 1), none⟩,
  ⟨some 9, .lenf (.t 8), none⟩,
  ⟨some 10, .bin .lt (.t 7) (.t 9), none⟩])
 (.lv [1, 2, 5, 6, 10] (.cond (.t 10) (.skip)
 (.exit 0))))
 (.lv [1, 2, 5, 6] (.seq (.block 1 (.reg (some [0, 1, 2, 3, 4, 5, 6, 7, 8, 9, 10, 11]) [⟨some 13, .mov (.t 5), none⟩,
  ⟨some 14, .faddr 3 (.t 2), none⟩,
  ⟨some 15, .ld false 1 (.t 14), none⟩,
  ⟨some 16, .mov (.t 1), none⟩,
  ⟨some 17, .mov (.t 6), none⟩,
  ⟨some 18, .iaddrf 1 (.t 16) (.t 17), none⟩,
  ⟨some 19, .ldf false 1 (.t 18), none⟩,
  ⟨some 20, .iaddrf 3 (.t 15) (.t 19), none⟩,
  ⟨some 21, .ldf true 3 (.t 20), none⟩,
  ⟨some 22, .bsl 72 3 [.t 21], none⟩,
  ⟨some 23, .app 72 3 40 (.t 13) (.t 22), none⟩,
  ⟨some 5, .mov (.t 23), none⟩]))
 (.lv [1, 2, 5, 6] (.reg none [⟨some 11, .mov (.t 6), none⟩,
  ⟨some 12, .bin .add (.t 11) (.k (.int .i64 1)), none⟩,
  ⟨some 6, .mov (.t 12), none⟩]))))
def k83_0 : IR :=
 .seq (.reg none [⟨some 24, .mov (.t 5), none⟩,
  ⟨some 4, .mov (.t 24), none⟩])
 (.ret)
def c83 : IR :=
 .seq (.reg none [⟨some 2, .box 26 4 (.t 0), none⟩,
  ⟨some 4, .newnil 72 3, none⟩])
 (.lv [1, 2] (.seq (.reg none [⟨some 5, .newnil 72 3, none⟩])
 (.lv [1, 2, 5] (.seq (.seq (.reg none [⟨some 6, .mov (.k (.int .i64 0)), none⟩])
 (.lv [1, 2, 5, 6] (.block 0 (.loop [1, 2, 5, 6] (some (3, [])) b83_0))))
 k83_0))))
def i83 : IFn := ⟨2, 25, c83, [.t 4], .pure⟩
def c84 : IR :=
 .seq (.reg none [⟨some 1, .box 72 3 (.t 0), none⟩,
  ⟨some 2, .mov (.k (.int .i64 0)), none⟩])
 (.lv [1] (.seq (.reg (some [0, 1, 2, 3, 4, 5, 6, 7]) [⟨some 5, .faddr 1 (.t 1), none⟩,
  ⟨some 6, .ld false 1 (.t 5), none⟩,
  ⟨some 7, .callP 136 [.t 6], none⟩,
  ⟨some 8, .faddr 2 (.t 1), none⟩,
  ⟨some 9, .ld false 1 (.t 8), none⟩,
  ⟨some 10, .callP 136 [.t 9], none⟩,
  ⟨some 3, .mov (.t 7), none⟩,
  ⟨some 4, .mov (.t 10), none⟩])
 (.lv [3, 4] (.seq (.seq (.reg none [⟨some 11, .mov (.t 3), none⟩,
  ⟨some 12, .mov (.t 4), none⟩,
  ⟨some 13, .bin .gt (.t 11) (.t 12), none⟩])
 (.lv [3, 4, 13] (.cond (.t 13) (.lv [3] (.seq (.reg none [⟨some 14, .mov (.t 3), none⟩,
  ⟨some 2, .mov (.t 14), none⟩])
 (.ret)))
 (.skip))))
 (.lv [4] (.seq (.reg none [⟨some 15, .mov (.t 4), none⟩,
  ⟨some 2, .mov (.t 15), none⟩])
 (.ret)))))))
def i84 : IFn := ⟨1, 16, c84, [.t 2], .pure⟩
def b86_0 : IR :=
 .seq (.seq (.reg none [⟨some 11, .mov (.t 5), none⟩,
  ⟨some 12, .mov (.t 0), none⟩,
  ⟨some 13, .lenf (.t 12), none⟩,
  ⟨some 14, .bin .lt (.t 11) (.t 13), none⟩])
 (.lv [0, 1, 5, 14] (.cond (.t 14) (.skip)
 (.exit 0))))
 (.lv [0, 1, 5] (.seq (.block 1 (.seq (.reg (some [0, 1, 2, 3, 4, 5, 6, 7, 8]) [⟨some 17, .mov (.t 0), none⟩,
  ⟨some 18, .mov (.t 5), none⟩,
  ⟨some 19, .iaddrf 1 (.t 17) (.t 18), none⟩,
  ⟨some 20, .ldf false 1 (.t 19), none⟩,
  ⟨some 21, .mov (.t 1), none⟩,
  ⟨some 22, .mov (.t 5), none⟩,
  ⟨some 23, .iaddrf 1 (.t 21) (.t 22), none⟩,
  ⟨some 24, .ldf false 1 (.t 23), none⟩,
  ⟨some 25, .bin .ne (.t 20) (.t 24), none⟩])
 (.lv [0, 1, 5, 25] (.cond (.t 25) (.lv [] (.seq (.reg none [⟨some 4, .mov (.k (.bool false)), none⟩])
 (.ret)))
 (.skip)))))
 (.lv [0, 1, 5] (.reg none [⟨some 15, .mov (.t 5), none⟩,
  ⟨some 16, .bin .add (.t 15) (.k (.int .i64 1)), none⟩,
  ⟨some 5, .mov (.t 16), none⟩]))))
def k86_0 : IR :=
 .seq (.reg none [⟨some 4, .mov (.k (.bool true)), none⟩])
 (.ret)
def c86 : IR :=
 .seq (.reg none [⟨some 4, .mov (.k (.bool false)), none⟩])
 (.lv [0, 1] (.seq (.seq (.reg none [⟨some 6, .mov (.t 0), none⟩,
  ⟨some 7, .lenf (.t 6), none⟩,
  ⟨some 8, .mov (.t 1), none⟩,
  ⟨some 9, .lenf (.t 8), none⟩,
  ⟨some 10, .bin .ne (.t 7) (.t 9), none⟩])
 (.lv [0, 1, 10] (.cond (.t 10) (.lv [] (.seq (.reg none [⟨some 4, .mov (.k (.bool false)), none⟩])
 (.ret)))
 (.skip))))
 (.lv [0, 1] (.seq (.seq (.reg none [⟨some 5, .mov (.k (.int .i64 0)), none⟩])
 (.lv [0, 1, 5] (.block 0 (.loop [0, 1, 5] (some (0, [])) b86_0))))
 k86_0))))
def i86 : IFn := ⟨2, 26, c86, [.t 4], .pure⟩
def c87 : IR :=
 .seq (.reg none [⟨some 1, .box 98 3 (.t 0), none⟩,
  ⟨some 2, .alloc 72 [.bool false, .str ⟨#[]⟩, .str ⟨#[]⟩], none⟩])
 (.lv [1, 2] (.seq (.reg (some [0, 1, 2, 3, 4, 5, 6, 7, 8, 9, 10, 11]) [⟨some 3, .faddr 0 (.t 1), none⟩,
  ⟨some 4, .ld true 2 (.t 3), none⟩,
  ⟨some 5, .callP 137 [.t 4], none⟩,
  ⟨some 6, .faddr 0 (.t 1), none⟩,
  ⟨some 7, .faddr 0 (.t 6), none⟩,
  ⟨some 8, .ld true 1 (.t 7), none⟩,
  ⟨some 9, .callP 138 [.t 8], none⟩,
  ⟨some 10, .ld true 3 (.t 1), none⟩,
  ⟨some 11, .callP 126 [.t 10], none⟩,
  ⟨some 12, .callP 138 [.t 11], none⟩,
  ⟨some 13, .build [.bool false, .str ⟨#[]⟩, .str ⟨#[]⟩] [(0, 1, .t 5), (1, 1, .t 9), (2, 1, .t 12)], none⟩,
  ⟨none, .st 3 (.t 2) (.t 13), none⟩])
 (.ret)))
def i87 : IFn := ⟨1, 14, c87, [.c 2 true 3], .pure⟩
def c88 : IR :=
 .seq (.reg none [⟨some 2, .alloc 72 [.bool false, .str ⟨#[]⟩, .str ⟨#[]⟩], none⟩])
 (.lv [0, 2] (.seq (.reg none [⟨some 4, .mov (.t 0), none⟩,
  ⟨some 5, .callP 139 [.t 4], none⟩,
  ⟨some 3, .alloc 164 [.bool false, .str ⟨#[]⟩], none⟩,
  ⟨none, .st 2 (.t 3) (.t 5), none⟩])
 (.lv [2, 3] (.seq (.reg none [⟨some 6, .faddr 0 (.t 3), none⟩,
  ⟨some 7, .ld false 1 (.t 6), none⟩,
  ⟨some 8, .faddr 1 (.t 3), none⟩,
  ⟨some 9, .ld false 1 (.t 8), none⟩,
  ⟨some 10, .build [.bool false, .str ⟨#[]⟩, .str ⟨#[]⟩] [(0, 1, .t 7), (1, 1, .t 9), (2, 1, .k (.str ⟨#[49]⟩))], none⟩,
  ⟨none, .st 3 (.t 2) (.t 10), none⟩])
 (.ret)))))
def i88 : IFn := ⟨1, 11, c88, [.c 2 true 3], .pure⟩
def b90_0 : IR :=
 .seq (.reg none [⟨some 14, .bin .lt (.t 13) (.t 12), none⟩])
 (.lv [4, 5, 11, 12, 13, 14] (.seq (.cond (.t 14) (.skip)
 (.exit 0))
 (.lv [4, 5, 11, 12, 13] (.seq (.block 1 (.seq (.reg none [⟨some 15, .iaddrf 1 (.t 11) (.t 13), none⟩,
  ⟨some 16, .ldf false 1 (.t 15), none⟩,
  ⟨some 7, .mov (.t 16), none⟩])
 (.lv [4, 5, 7, 11, 12, 13] (.seq (.seq (.reg none [⟨some 17, .mov (.t 7), none⟩,
  ⟨some 18, .bin .lt (.t 17) (.k (.int .i64 0)), none⟩,
  ⟨some 19, .mov (.t 18), none⟩,
  ⟨some 20, .mov (.t 7), (some (19, false))⟩,
  ⟨some 21, .mov (.t 4), (some (19, false))⟩,
  ⟨some 22, .bin .quo (.k (.int .i64 4096)) (.t 21), (some (19, false))⟩,
  ⟨some 23, .bin .gt (.t 20) (.t 22), (some (19, false))⟩,
  ⟨some 24, .pick (.t 19) (.k (.bool true)) (.t 23), none⟩])
 (.lv [4, 5, 7, 11, 12, 13, 24] (.cond (.t 24) (.lv [] (.seq (.reg none [⟨some 2, .mov (.k (.int .i64 0)), none⟩,
  ⟨some 3, .mov (.k (.bool false)), none⟩])
 (.ret)))
 (.skip))))
 (.lv [4, 5, 7, 11, 12, 13] (.seq (.reg none [⟨some 25, .mov (.t 5), none⟩,
  ⟨some 26, .mov (.t 25), none⟩,
  ⟨some 27, .mov (.t 7), (some (26, false))⟩,
  ⟨some 28, .bin .eq (.t 27) (.k (.int .i64 0)), (some (26, false))⟩,
  ⟨some 29, .pick (.t 26) (.k (.bool true)) (.t 28), none⟩,
  ⟨some 5, .mov (.t 29), none⟩])
 (.lv [4, 5, 7, 11, 12, 13] (.reg none [⟨some 30, .mov (.t 4), none⟩,
  ⟨some 31, .mov (.t 7), none⟩,
  ⟨some 32, .mx (.k (.int .i64 1)) (.t 31), none⟩,
  ⟨some 33, .bin .mul (.t 30) (.t 32), none⟩,
  ⟨some 4, .mov (.t 33), none⟩]))))))))
 (.lv [4, 5, 11, 12, 13] (.reg none [⟨some 34, .bin .add (.t 13) (.k (.int .i64 1)), none⟩,
  ⟨some 13, .mov (.t 34), none⟩]))))))
def k90_0 : IR :=
 .seq (.seq (.reg none [⟨some 35, .mov (.t 5), none⟩])
 (.lv [4, 35] (.cond (.t 35) (.lv [] (.reg none [⟨some 4, .mov (.k (.int .i64 0)), none⟩]))
 (.skip))))
 (.lv [4] (.seq (.reg none [⟨some 36, .mov (.t 4), none⟩,
  ⟨some 2, .mov (.t 36), none⟩,
  ⟨some 3, .mov (.k (.bool true)), none⟩])
 (.ret)))
def c90 : IR :=
 .seq (.reg none [⟨some 2, .mov (.k (.int .i64 0)), none⟩,
  ⟨some 3, .mov (.k (.bool false)), none⟩])
 (.lv [0] (.seq (.seq (.reg none [⟨some 8, .mov (.t 0), none⟩,
  ⟨some 9, .lenf (.t 8), none⟩,
  ⟨some 10, .bin .gt (.t 9) (.k (.int .i64 8)), none⟩])
 (.lv [0, 10] (.cond (.t 10) (.lv [] (.seq (.reg none [⟨some 2, .mov (.k (.int .i64 0)), none⟩,
  ⟨some 3, .mov (.k (.bool false)), none⟩])
 (.ret)))
 (.skip))))
 (.lv [0] (.seq (.reg none [⟨some 4, .mov (.k (.int .i64 1)), none⟩,
  ⟨some 5, .mov (.k (.bool false)), none⟩])
 (.lv [0, 4, 5] (.seq (.seq (.reg none [⟨some 11, .mov (.t 0), none⟩,
  ⟨some 12, .lenf (.t 11), none⟩,
  ⟨some 13, .mov (.k (.int .i64 0)), none⟩])
 (.lv [4, 5, 11, 12, 13] (.block 0 (.loop [4, 5, 11, 12, 13] (some (0, [])) b90_0))))
 k90_0))))))
def i90 : IFn := ⟨1, 37, c90, [.t 2, .t 3], .pure⟩
def b99_0 : IR :=
 .seq (.seq (.reg none [⟨some 7, .mov (.t 6), none⟩,
  ⟨some 8, .mov (.t 0), none⟩,
  ⟨some 9, .lenf (.t 8), none⟩,
  ⟨some 10, .bin .lt (.t 7) (.t 9), none⟩,
  ⟨some 11, .mov (.t 10), none⟩,
  ⟨some 12, .mov (.t 6), (some (11, true))⟩,
  ⟨some 13, .mov (.t 1), (some (11, true))⟩,
  ⟨some 14, .lenf (.t 13), (some (11, true))⟩,
  ⟨some 15, .bin .lt (.t 12) (.t 14), (some (11, true))⟩,
  ⟨some 16, .pick (.t 11) (.t 15) (.k (.bool false)), none⟩])
 (.lv [0, 1, 5, 6, 16] (.cond (.t 16) (.skip)
 (.exit 0))))
 (.lv [0, 1, 5, 6] (.seq (.block 1 (.seq (.seq (.reg (some [0, 1, 2, 3, 4, 5, 6, 7, 8, 9, 10, 11, 12, 13, 14, 15]) [⟨some 19, .mov (.t 1), none⟩,
  ⟨some 20, .mov (.t 6), none⟩,
  ⟨some 21, .iaddrf 1 (.t 19) (.t 20), none⟩,
  ⟨some 22, .ldf false 1 (.t 21), none⟩,
  ⟨some 23, .bin .lt (.t 22) (.k (.int .i64 0)), none⟩,
  ⟨some 24, .mov (.t 23), none⟩,
  ⟨some 25, .mov (.t 1), (some (24, false))⟩,
  ⟨some 26, .mov (.t 6), (some (24, false))⟩,
  ⟨some 27, .iaddrf 1 (.t 25) (.t 26), (some (24, false))⟩,
  ⟨some 28, .ldf false 1 (.t 27), (some (24, false))⟩,
  ⟨some 29, .mov (.t 0), (some (24, false))⟩,
  ⟨some 30, .mov (.t 6), (some (24, false))⟩,
  ⟨some 31, .iaddrf 1 (.t 29) (.t 30), (some (24, false))⟩,
  ⟨some 32, .ldf false 1 (.t 31), (some (24, false))⟩,
  ⟨some 33, .bin .ge (.t 28) (.t 32), (some (24, false))⟩,
  ⟨some 34, .pick (.t 24) (.k (.bool true)) (.t 33), none⟩])
 (.lv [0, 1, 5, 6, 34] (.cond (.t 34) (.lv [] (.seq (.reg none [⟨some 4, .mov (.k (.int .i64 (-1))), none⟩])
 (.ret)))
 (.skip))))
 (.lv [0, 1, 5, 6] (.reg (some [0, 1, 2, 3, 4, 5, 6, 7, 8, 9, 10, 11]) [⟨some 35, .mov (.t 5), none⟩,
  ⟨some 36, .mov (.t 0), none⟩,
  ⟨some 37, .mov (.t 6), none⟩,
  ⟨some 38, .iaddrf 1 (.t 36) (.t 37), none⟩,
  ⟨some 39, .ldf false 1 (.t 38), none⟩,
  ⟨some 40, .bin .mul (.t 35) (.t 39), none⟩,
  ⟨some 41, .mov (.t 1), none⟩,
  ⟨some 42, .mov (.t 6), none⟩,
  ⟨some 43, .iaddrf 1 (.t 41) (.t 42), none⟩,
  ⟨some 44, .ldf false 1 (.t 43), none⟩,
  ⟨some 45, .bin .add (.t 40) (.t 44), none⟩,
  ⟨some 5, .mov (.t 45), none⟩]))))
 (.lv [0, 1, 5, 6] (.reg none [⟨some 17, .mov (.t 6), none⟩,
  ⟨some 18, .bin .add (.t 17) (.k (.int .i64 1)), none⟩,
  ⟨some 6, .mov (.t 18), none⟩]))))
def k99_0 : IR :=
 .seq (.reg none [⟨some 46, .mov (.t 5), none⟩,
  ⟨some 4, .mov (.t 46), none⟩])
 (.ret)
def c99 : IR :=
 .seq (.reg none [⟨some 4, .mov (.k (.int .i64 0)), none⟩])
 (.lv [0, 1] (.seq (.reg none [⟨some 5, .mov (.k (.int .i64 0)), none⟩])
 (.lv [0, 1, 5] (.seq (.seq (.reg none [⟨some 6, .mov (.k (.int .i64 0)), none⟩])
 (.lv [0, 1, 5, 6] (.block 0 (.loop [0, 1, 5, 6] (some (0, [])) b99_0))))
 k99_0))))
def i99 : IFn := ⟨2, 47, c99, [.t 4], .pure⟩
def c106 : IR :=
 .seq (.reg none [⟨some 1, .box 72 3 (.t 0), none⟩,
  ⟨some 2, .mov (.k (.bool false)), none⟩])
 (.lv [1] (.seq (.seq (.reg (some [0, 1, 2, 3, 4, 5, 6, 7, 8, 9, 10, 11, 12, 13, 14, 15, 16, 17, 18, 19, 20, 21, 22, 23, 24, 25, 26, 27, 28, 29, 30]) [⟨some 3, .faddr 1 (.t 1), none⟩,
  ⟨some 4, .ld false 1 (.t 3), none⟩,
  ⟨some 5, .callP 145 [.t 4], none⟩,
  ⟨some 6, .not (.t 5), none⟩,
  ⟨some 7, .mov (.t 6), none⟩,
  ⟨some 8, .faddr 2 (.t 1), (some (7, false))⟩,
  ⟨some 9, .ld false 1 (.t 8), (some (7, false))⟩,
  ⟨some 10, .callP 145 [.t 9], (some (7, false))⟩,
  ⟨some 11, .not (.t 10), (some (7, false))⟩,
  ⟨some 12, .pick (.t 7) (.k (.bool true)) (.t 11), none⟩,
  ⟨some 13, .mov (.t 12), none⟩,
  ⟨some 14, .faddr 1 (.t 1), (some (13, false))⟩,
  ⟨some 15, .ld false 1 (.t 14), (some (13, false))⟩,
  ⟨some 16, .callP 146 [.t 15], (some (13, false))⟩,
  ⟨some 17, .faddr 1 (.t 1), (some (13, false))⟩,
  ⟨some 18, .ld false 1 (.t 17), (some (13, false))⟩,
  ⟨some 19, .bin .ne (.t 16) (.t 18), (some (13, false))⟩,
  ⟨some 20, .pick (.t 13) (.k (.bool true)) (.t 19), none⟩,
  ⟨some 21, .mov (.t 20), none⟩,
  ⟨some 22, .faddr 2 (.t 1), (some (21, false))⟩,
  ⟨some 23, .ld false 1 (.t 22), (some (21, false))⟩,
  ⟨some 24, .callP 146 [.t 23], (some (21, false))⟩,
  ⟨some 25, .faddr 2 (.t 1), (some (21, false))⟩,
  ⟨some 26, .ld false 1 (.t 25), (some (21, false))⟩,
  ⟨some 27, .bin .ne (.t 24) (.t 26), (some (21, false))⟩,
  ⟨some 28, .pick (.t 21) (.k (.bool true)) (.t 27), none⟩,
  ⟨some 29, .mov (.t 28), none⟩,
  ⟨some 30, .faddr 2 (.t 1), (some (29, false))⟩,
  ⟨some 31, .ld false 1 (.t 30), (some (29, false))⟩,
  ⟨some 32, .bin .eq (.t 31) (.k (.str ⟨#[48]⟩)), (some (29, false))⟩,
  ⟨some 33, .pick (.t 29) (.k (.bool true)) (.t 32), none⟩])
 (.lv [1, 33] (.cond (.t 33) (.lv [] (.seq (.reg none [⟨some 2, .mov (.k (.bool false)), none⟩])
 (.ret)))
 (.skip))))
 (.lv [1] (.seq (.reg none [⟨some 34, .faddr 1 (.t 1), none⟩,
  ⟨some 35, .ld false 1 (.t 34), none⟩,
  ⟨some 36, .faddr 2 (.t 1), none⟩,
  ⟨some 37, .ld false 1 (.t 36), none⟩,
  ⟨some 38, .callP 147 [.t 35, .t 37], none⟩,
  ⟨some 39, .bin .eq (.t 38) (.k (.str ⟨#[49]⟩)), none⟩,
  ⟨some 40, .mov (.t 39), none⟩,
  ⟨some 41, .faddr 0 (.t 1), (some (40, true))⟩,
  ⟨some 42, .ld false 1 (.t 41), (some (40, true))⟩,
  ⟨some 43, .mov (.t 42), (some (40, true))⟩,
  ⟨some 44, .faddr 1 (.t 1), (some (43, true))⟩,
  ⟨some 45, .ld false 1 (.t 44), (some (43, true))⟩,
  ⟨some 46, .bin .eq (.t 45) (.k (.str ⟨#[48]⟩)), (some (43, true))⟩,
  ⟨some 47, .pick (.t 43) (.t 46) (.k (.bool false)), (some (40, true))⟩,
  ⟨some 48, .not (.t 47), (some (40, true))⟩,
  ⟨some 49, .pick (.t 40) (.t 48) (.k (.bool false)), none⟩,
  ⟨some 2, .mov (.t 49), none⟩])
 (.ret)))))
def i106 : IFn := ⟨1, 50, c106, [.t 2], .pure⟩
def c107 : IR :=
 .seq (.reg none [⟨some 2, .alloc 98 [.nilsl 191 1, .bool false, .nilsl 191 1], none⟩])
 (.lv [0, 2] (.seq (.reg none [⟨some 3, .mov (.t 0), none⟩,
  ⟨some 4, .callP 148 [.t 3], none⟩,
  ⟨some 5, .callP 149 [.k (.int .u64 1)], none⟩,
  ⟨some 6, .build [.nilsl 191 1, .bool false, .nilsl 191 1] [(0, 2, .t 4), (2, 1, .t 5)], none⟩,
  ⟨none, .st 3 (.t 2) (.t 6), none⟩])
 (.ret)))
def i107 : IFn := ⟨1, 7, c107, [.c 2 true 3], .pure⟩
def c108 : IR :=
 .seq (.reg none [⟨some 1, .box 98 3 (.t 0), none⟩,
  ⟨some 2, .alloc 35 [.nilsl 3 1, .bool false, .nilsl 21 1, .nilsl 98 3, .bool false], none⟩])
 (.lv [1, 2] (.seq (.reg none [⟨some 3, .ld true 3 (.t 1), none⟩,
  ⟨some 4, .bsl 98 3 [.t 3], none⟩,
  ⟨some 5, .build [.nilsl 3 1, .bool false, .nilsl 21 1, .nilsl 98 3, .bool false] [(0, 1, .k (.nilsl 3 1)), (1, 1, .k (.bool false)), (2, 1, .k (.nilsl 21 1)), (3, 1, .t 4), (4, 1, .k (.bool true))], none⟩,
  ⟨none, .st 5 (.t 2) (.t 5), none⟩])
 (.ret)))
def i108 : IFn := ⟨1, 6, c108, [.c 2 true 5], .pure⟩
def c113 : IR :=
 .seq (.reg none [⟨some 1, .box 72 3 (.t 0), none⟩,
  ⟨some 2, .alloc 98 [.nilsl 191 1, .bool false, .nilsl 191 1], none⟩,
  ⟨some 3, .mov (.k (.bool false)), none⟩])
 (.lv [1, 2] (.seq (.reg none [⟨some 10, .faddr 1 (.t 1), none⟩,
  ⟨some 11, .ld false 1 (.t 10), none⟩,
  ⟨some 12, .callP 150 [.t 11], none⟩,
  ⟨some 9, .mov (.t 12), none⟩,
  ⟨some 13, .ext (.t 9) 0, none⟩,
  ⟨some 14, .ext (.t 9) 1, none⟩,
  ⟨some 4, .alloc 94 [.nilsl 191 1], none⟩,
  ⟨none, .st 1 (.t 4) (.t 13), none⟩,
  ⟨some 5, .mov (.t 14), none⟩])
 (.lv [1, 2, 4, 5] (.seq (.reg none [⟨some 16, .faddr 2 (.t 1), none⟩,
  ⟨some 17, .ld false 1 (.t 16), none⟩,
  ⟨some 18, .callP 150 [.t 17], none⟩,
  ⟨some 15, .mov (.t 18), none⟩,
  ⟨some 19, .ext (.t 15) 0, none⟩,
  ⟨some 20, .ext (.t 15) 1, none⟩,
  ⟨some 6, .alloc 94 [.nilsl 191 1], none⟩,
  ⟨none, .st 1 (.t 6) (.t 19), none⟩,
  ⟨some 7, .mov (.t 20), none⟩])
 (.lv [1, 2, 4, 5, 6, 7] (.seq (.seq (.reg none [⟨some 21, .mov (.t 5), none⟩,
  ⟨some 22, .not (.t 21), none⟩,
  ⟨some 23, .mov (.t 22), none⟩,
  ⟨some 24, .mov (.t 7), (some (23, false))⟩,
  ⟨some 25, .not (.t 24), (some (23, false))⟩,
  ⟨some 26, .pick (.t 23) (.k (.bool true)) (.t 25), none⟩])
 (.lv [1, 2, 4, 6, 26] (.cond (.t 26) (.lv [2] (.seq (.reg none [⟨some 27, .build [.nilsl 191 1, .bool false, .nilsl 191 1] [], none⟩,
  ⟨none, .st 3 (.t 2) (.t 27), none⟩,
  ⟨some 3, .mov (.k (.bool false)), none⟩])
 (.ret)))
 (.skip))))
 (.lv [1, 2, 4, 6] (.seq (.reg (some [0, 1, 2, 4, 3, 5, 6, 7, 8, 9, 10, 11, 12]) [⟨some 29, .faddr 0 (.t 1), none⟩,
  ⟨some 30, .ld false 1 (.t 29), none⟩,
  ⟨some 31, .ld true 1 (.t 4), none⟩,
  ⟨some 33, .ld true 1 (.t 6), none⟩,
  ⟨some 32, .callF 151 [.t 30, .t 31], none⟩,
  ⟨some 34, .callF 151 [.k (.bool false), .t 33], none⟩,
  ⟨some 35, .callP 127 [.t 32, .t 34], none⟩,
  ⟨some 28, .mov (.t 35), none⟩,
  ⟨some 36, .ext (.t 28) 0, none⟩,
  ⟨some 37, .ext (.t 28) 1, none⟩,
  ⟨some 8, .alloc 98 [.nilsl 191 1, .bool false, .nilsl 191 1], none⟩,
  ⟨none, .st 3 (.t 8) (.t 36), none⟩,
  ⟨some 5, .mov (.t 37), none⟩])
 (.lv [1, 2, 5, 8] (.seq (.reg (some [0, 1, 2, 3, 4, 5, 6, 7, 8, 9]) [⟨some 38, .ld true 3 (.t 8), none⟩,
  ⟨some 39, .mov (.t 5), none⟩,
  ⟨some 40, .mov (.t 39), none⟩,
  ⟨some 41, .ld true 3 (.t 8), (some (40, true))⟩,
  ⟨some 42, .callR 87 [.t 41], (some (40, true))⟩,
  ⟨some 43, .ld true 3 (.t 1), (some (40, true))⟩,
  ⟨some 44, .bins .eq [0, 2, 2] (.t 42) (.t 43), (some (40, true))⟩,
  ⟨some 45, .pick (.t 40) (.t 44) (.k (.bool false)), none⟩,
  ⟨none, .sta [1] 3 (.t 2) (.t 38), none⟩,
  ⟨some 3, .mov (.t 45), none⟩])
 (.ret)))))))))))
def i113 : IFn := ⟨1, 46, c113, [.c 2 true 3, .t 3], .pure⟩
def c115 : IR :=
 .seq (.reg none [⟨some 0, .alloc 72 [.bool false, .str ⟨#[]⟩, .str ⟨#[]⟩], none⟩])
 (.lv [0] (.seq (.reg none [⟨some 1, .build [.bool false, .str ⟨#[]⟩, .str ⟨#[]⟩] [(1, 1, .k (.str ⟨#[48]⟩)), (2, 1, .k (.str ⟨#[49]⟩))], none⟩,
  ⟨none, .st 3 (.t 0) (.t 1), none⟩])
 (.ret)))
def i115 : IFn := ⟨0, 2, c115, [.c 0 true 3], .pure⟩
def c118 : IR :=
 .seq (.reg none [⟨some 1, .box 35 5 (.t 0), none⟩,
  ⟨some 2, .mov (.k (.int .i64 0)), none⟩,
  ⟨some 3, .mov (.k (.int .i64 0)), none⟩,
  ⟨some 4, .newnil 3 1, none⟩])
 (.lv [1] (.seq (.reg none [⟨some 10, .ld true 5 (.t 1), none⟩,
  ⟨some 11, .callP 48 [.t 10], none⟩,
  ⟨some 5, .mov (.t 11), none⟩])
 (.lv [5] (.seq (.seq (.reg none [⟨some 12, .mov (.t 5), none⟩,
  ⟨some 13, .lenf (.t 12), none⟩,
  ⟨some 14, .bin .eq (.t 13) (.k (.int .i64 0)), none⟩])
 (.lv [5, 14] (.cond (.t 14) (.lv [] (.seq (.reg none [⟨some 2, .mov (.k (.int .i64 1)), none⟩,
  ⟨some 3, .mov (.k (.int .i64 1)), none⟩,
  ⟨some 4, .newnil 3 1, none⟩])
 (.ret)))
 (.skip))))
 (.lv [5] (.seq (.reg none [⟨some 16, .mov (.t 5), none⟩,
  ⟨some 17, .mov (.t 5), none⟩,
  ⟨some 18, .lenf (.t 17), none⟩,
  ⟨some 19, .bin .sub (.t 18) (.k (.int .i64 1)), none⟩,
  ⟨some 20, .callP 122 [.t 16, .t 19], none⟩,
  ⟨some 15, .mov (.t 20), none⟩,
  ⟨some 21, .ext (.t 15) 0, none⟩,
  ⟨some 22, .ext (.t 15) 1, none⟩,
  ⟨some 23, .ext (.t 15) 2, none⟩,
  ⟨some 24, .ext (.t 15) 3, none⟩,
  ⟨some 6, .mov (.t 21), none⟩,
  ⟨some 7, .mov (.t 22), none⟩,
  ⟨some 8, .mov (.t 23), none⟩,
  ⟨some 9, .mov (.t 24), none⟩])
 (.lv [5, 6, 7] (.seq (.reg (some [0, 1, 2, 3, 4, 5, 6, 7, 8, 9]) [⟨some 25, .mov (.t 6), none⟩,
  ⟨some 26, .mov (.t 7), none⟩,
  ⟨some 27, .mov (.t 5), none⟩,
  ⟨some 28, .mov (.t 5), none⟩,
  ⟨some 29, .lenf (.t 28), none⟩,
  ⟨some 30, .bin .sub (.t 29) (.k (.int .i64 1)), none⟩,
  ⟨some 31, .cut 1 (.t 27) none (some (.t 30)), none⟩,
  ⟨some 2, .mov (.t 25), none⟩,
  ⟨some 3, .mov (.t 26), none⟩,
  ⟨some 4, .mov (.t 31), none⟩])
 (.ret)))))))))
def i118 : IFn := ⟨1, 32, c118, [.t 2, .t 3, .t 4], .pure⟩
def b119_0 : IR :=
 .seq (.reg none [⟨some 10, .bin .lt (.t 9) (.t 8), none⟩])
 (.lv [2, 4, 7, 8, 9, 10] (.seq (.cond (.t 10) (.skip)
 (.exit 0))
 (.lv [2, 4, 7, 8, 9] (.seq (.block 1 (.seq (.reg none [⟨some 11, .iaddrf 3 (.t 7) (.t 9), none⟩,
  ⟨some 12, .ldf true 3 (.t 11), none⟩,
  ⟨some 6, .alloc 98 [.nilsl 191 1, .bool false, .nilsl 191 1], none⟩,
  ⟨none, .st 3 (.t 6) (.t 12), none⟩])
 (.lv [2, 4, 6, 7, 8, 9] (.reg (some [0, 1, 2, 3, 6, 8, 4, 5, 7, 9, 10, 11, 12, 13, 14, 15, 16]) [⟨some 14, .faddr 0 (.t 2), none⟩,
  ⟨some 15, .ld true 2 (.t 14), none⟩,
  ⟨some 16, .faddr 0 (.t 6), none⟩,
  ⟨some 17, .ld true 2 (.t 16), none⟩,
  ⟨some 20, .ld true 3 (.t 2), none⟩,
  ⟨some 22, .ld true 3 (.t 6), none⟩,
  ⟨some 18, .bsl 96 2 [.t 17], none⟩,
  ⟨some 19, .callF 128 [.t 15, .t 18], none⟩,
  ⟨some 21, .callP 129 [.t 20], none⟩,
  ⟨some 23, .callF 129 [.t 22], none⟩,
  ⟨some 24, .bsl 96 2 [.t 23], none⟩,
  ⟨some 25, .callF 128 [.t 21, .t 24], none⟩,
  ⟨some 26, .callP 127 [.t 19, .t 25], none⟩,
  ⟨some 13, .mov (.t 26), none⟩,
  ⟨some 27, .ext (.t 13) 0, none⟩,
  ⟨some 28, .ext (.t 13) 1, none⟩,
  ⟨none, .st 3 (.t 2) (.t 27), none⟩]))))
 (.lv [2, 4, 7, 8, 9] (.reg none [⟨some 29, .bin .add (.t 9) (.k (.int .i64 1)), none⟩,
  ⟨some 9, .mov (.t 29), none⟩]))))))
def k119_0 : IR :=
 .seq (.reg none [⟨some 30, .ld true 3 (.t 2), none⟩,
  ⟨none, .st 3 (.t 4) (.t 30), none⟩])
 (.ret)
def c119 : IR :=
 .seq (.reg none [⟨some 2, .box 98 3 (.t 0), none⟩,
  ⟨some 4, .alloc 98 [.nilsl 191 1, .bool false, .nilsl 191 1], none⟩])
 (.lv [1, 2, 4] (.seq (.seq (.reg none [⟨some 7, .mov (.t 1), none⟩,
  ⟨some 8, .lenf (.t 7), none⟩,
  ⟨some 9, .mov (.k (.int .i64 0)), none⟩])
 (.lv [2, 4, 7, 8, 9] (.block 0 (.loop [2, 4, 7, 8, 9] (some (4, [])) b119_0))))
 k119_0))
def i119 : IFn := ⟨2, 31, c119, [.c 4 true 3], .pure⟩
def c120 : IR :=
 .seq (.reg none [⟨some 1, .box 72 3 (.t 0), none⟩,
  ⟨some 2, .alloc 26 [.nilsl 3 1, .bool false, .nilsl 21 1, .nilsl 72 3], none⟩])
 (.lv [1, 2] (.seq (.reg none [⟨some 3, .ld true 3 (.t 1), none⟩,
  ⟨some 4, .bsl 72 3 [.t 3], none⟩,
  ⟨some 5, .build [.nilsl 3 1, .bool false, .nilsl 21 1, .nilsl 72 3] [(3, 1, .t 4)], none⟩,
  ⟨none, .st 4 (.t 2) (.t 5), none⟩])
 (.ret)))
def i120 : IFn := ⟨1, 6, c120, [.c 2 true 4], .pure⟩
def b121_0 : IR :=
 .seq (.reg none [⟨some 12, .bin .lt (.t 11) (.t 10), none⟩])
 (.lv [0, 3, 9, 10, 11, 12] (.seq (.cond (.t 12) (.skip)
 (.exit 0))
 (.lv [0, 3, 9, 10, 11] (.seq (.block 1 (.seq (.reg none [⟨some 13, .iaddrf 1 (.t 9) (.t 11), none⟩,
  ⟨some 14, .ldf false 1 (.t 13), none⟩,
  ⟨some 5, .mov (.t 14), none⟩])
 (.lv [0, 3, 5, 9, 10, 11] (.seq (.reg none [⟨some 15, .mov (.t 3), none⟩,
  ⟨some 16, .mov (.t 5), none⟩,
  ⟨some 17, .lenf (.t 16), none⟩,
  ⟨some 18, .bin .add (.t 15) (.t 17), none⟩,
  ⟨some 3, .mov (.t 18), none⟩])
 (.lv [0, 3, 9, 10, 11] (.seq (.reg none [⟨some 19, .mov (.t 3), none⟩,
  ⟨some 20, .bin .lt (.t 19) (.k (.int .i64 0)), none⟩])
 (.lv [0, 3, 9, 10, 11, 20] (.cond (.t 20) (.lv [0, 3, 9, 10, 11] (.reg none [⟨some 21, .bad, none⟩,
  ⟨none, .bad, none⟩]))
 (.skip)))))))))
 (.lv [0, 3, 9, 10, 11] (.reg none [⟨some 22, .bin .add (.t 11) (.k (.int .i64 1)), none⟩,
  ⟨some 11, .mov (.t 22), none⟩]))))))
def b121_1 : IR :=
 .seq (.reg none [⟨some 28, .bin .lt (.t 27) (.t 26), none⟩])
 (.lv [6, 25, 26, 27, 28] (.seq (.cond (.t 28) (.skip)
 (.exit 2))
 (.lv [6, 25, 26, 27] (.seq (.block 3 (.seq (.reg none [⟨some 29, .iaddrf 1 (.t 25) (.t 27), none⟩,
  ⟨some 30, .ldf false 1 (.t 29), none⟩,
  ⟨some 8, .mov (.t 30), none⟩])
 (.lv [6, 8, 25, 26, 27] (.reg none [⟨some 31, .mov (.t 6), none⟩,
  ⟨some 32, .mov (.t 8), none⟩,
  ⟨some 33, .app 3 1 8 (.t 31) (.t 32), none⟩,
  ⟨some 6, .mov (.t 33), none⟩]))))
 (.lv [6, 25, 26, 27] (.reg none [⟨some 34, .bin .add (.t 27) (.k (.int .i64 1)), none⟩,
  ⟨some 27, .mov (.t 34), none⟩]))))))
def k121_0 : IR :=
 .seq (.reg none [⟨some 35, .mov (.t 6), none⟩,
  ⟨some 2, .mov (.t 35), none⟩])
 (.ret)
def k121_1 : IR :=
 .seq (.reg none [⟨some 23, .mov (.t 3), none⟩,
  ⟨some 24, .callG 152 [.k (.nilsl 3 1), .t 23], none⟩,
  ⟨some 6, .mov (.t 24), none⟩])
 (.lv [0, 6] (.seq (.seq (.reg none [⟨some 25, .mov (.t 0), none⟩,
  ⟨some 26, .lenf (.t 25), none⟩,
  ⟨some 27, .mov (.k (.int .i64 0)), none⟩])
 (.lv [6, 25, 26, 27] (.block 2 (.loop [6, 25, 26, 27] (some (2, [])) b121_1))))
 k121_0))
def c121 : IR :=
 .seq (.reg none [⟨some 2, .newnil 3 1, none⟩])
 (.lv [0] (.seq (.reg none [⟨some 3, .mov (.k (.int .i64 0)), none⟩])
 (.lv [0, 3] (.seq (.seq (.reg none [⟨some 9, .mov (.t 0), none⟩,
  ⟨some 10, .lenf (.t 9), none⟩,
  ⟨some 11, .mov (.k (.int .i64 0)), none⟩])
 (.lv [0, 3, 9, 10, 11] (.block 0 (.loop [0, 3, 9, 10, 11] (some (1, [])) b121_0))))
 k121_1))))
def i121 : IFn := ⟨1, 36, c121, [.t 2], .pure⟩
def c122 : IR :=
 .seq (.reg none [⟨some 4, .mov (.k (.int .i64 0)), none⟩,
  ⟨some 5, .mov (.k (.int .i64 0)), none⟩,
  ⟨some 6, .mov (.k (.int .i64 0)), none⟩,
  ⟨some 7, .mov (.k (.bool false)), none⟩])
 (.lv [0, 1] (.seq (.seq (.reg none [⟨some 15, .mov (.t 0), none⟩,
  ⟨some 16, .callP 90 [.t 15], none⟩,
  ⟨some 14, .mov (.t 16), none⟩,
  ⟨some 17, .ext (.t 14) 0, none⟩,
  ⟨some 18, .ext (.t 14) 1, none⟩,
  ⟨some 8, .mov (.t 17), none⟩,
  ⟨some 9, .mov (.t 18), none⟩])
 (.lv [0, 1, 9] (.seq (.reg none [⟨some 19, .mov (.t 9), none⟩,
  ⟨some 20, .not (.t 19), none⟩,
  ⟨some 21, .mov (.t 20), none⟩,
  ⟨some 22, .mov (.t 1), (some (21, false))⟩,
  ⟨some 23, .bin .lt (.t 22) (.k (.int .i64 0)), (some (21, false))⟩,
  ⟨some 24, .pick (.t 21) (.k (.bool true)) (.t 23), none⟩,
  ⟨some 25, .mov (.t 24), none⟩,
  ⟨some 26, .mov (.t 1), (some (25, false))⟩,
  ⟨some 27, .mov (.t 0), (some (25, false))⟩,
  ⟨some 28, .lenf (.t 27), (some (25, false))⟩,
  ⟨some 29, .bin .ge (.t 26) (.t 28), (some (25, false))⟩,
  ⟨some 30, .pick (.t 25) (.k (.bool true)) (.t 29), none⟩])
 (.lv [0, 1, 30] (.cond (.t 30) (.lv [] (.seq (.reg none [⟨some 4, .mov (.k (.int .i64 0)), none⟩,
  ⟨some 5, .mov (.k (.int .i64 0)), none⟩,
  ⟨some 6, .mov (.k (.int .i64 0)), none⟩,
  ⟨some 7, .mov (.k (.bool false)), none⟩])
 (.ret)))
 (.skip))))))
 (.lv [0, 1] (.seq (.reg none [⟨some 32, .mov (.t 0), none⟩,
  ⟨some 33, .mov (.t 1), none⟩,
  ⟨some 34, .cut 1 (.t 32) none (some (.t 33)), none⟩,
  ⟨some 35, .callP 90 [.t 34], none⟩,
  ⟨some 31, .mov (.t 35), none⟩,
  ⟨some 36, .ext (.t 31) 0, none⟩,
  ⟨some 37, .ext (.t 31) 1, none⟩,
  ⟨some 10, .mov (.t 36), none⟩,
  ⟨some 11, .mov (.t 37), none⟩])
 (.lv [0, 1, 10] (.seq (.reg none [⟨some 39, .mov (.t 0), none⟩,
  ⟨some 40, .mov (.t 1), none⟩,
  ⟨some 41, .bin .add (.t 40) (.k (.int .i64 1)), none⟩,
  ⟨some 42, .cut 1 (.t 39) (some (.t 41)) none, none⟩,
  ⟨some 43, .callP 90 [.t 42], none⟩,
  ⟨some 38, .mov (.t 43), none⟩,
  ⟨some 44, .ext (.t 38) 0, none⟩,
  ⟨some 45, .ext (.t 38) 1, none⟩,
  ⟨some 12, .mov (.t 44), none⟩,
  ⟨some 13, .mov (.t 45), none⟩])
 (.lv [0, 1, 10, 12] (.seq (.reg (some [0, 1, 2, 3, 4, 5, 6, 7, 8, 9]) [⟨some 46, .mov (.t 10), none⟩,
  ⟨some 47, .mov (.t 0), none⟩,
  ⟨some 48, .mov (.t 1), none⟩,
  ⟨some 49, .iaddrf 1 (.t 47) (.t 48), none⟩,
  ⟨some 50, .ldf false 1 (.t 49), none⟩,
  ⟨some 51, .mov (.t 12), none⟩,
  ⟨some 4, .mov (.t 46), none⟩,
  ⟨some 5, .mov (.t 50), none⟩,
  ⟨some 6, .mov (.t 51), none⟩,
  ⟨some 7, .mov (.k (.bool true)), none⟩])
 (.ret)))))))))
def i122 : IFn := ⟨2, 52, c122, [.t 4, .t 5, .t 6, .t 7], .pure⟩
def c123 : IR :=
 .seq (.reg none [⟨some 1, .box 96 2 (.t 0), none⟩,
  ⟨some 2, .alloc 98 [.nilsl 191 1, .bool false, .nilsl 191 1], none⟩])
 (.lv [1, 2] (.seq (.reg (some [0, 1, 2, 3]) [⟨some 3, .ld true 2 (.t 1), none⟩,
  ⟨some 4, .callP 149 [.k (.int .u64 1)], none⟩,
  ⟨some 5, .build [.nilsl 191 1, .bool false, .nilsl 191 1] [(0, 2, .t 3), (2, 1, .t 4)], none⟩,
  ⟨none, .st 3 (.t 2) (.t 5), none⟩])
 (.ret)))
def i123 : IFn := ⟨1, 6, c123, [.c 2 true 3], .pure⟩
def c124 : IR :=
 .rsv true 96 2 (.seq (.reg none [⟨some 1, .box 98 3 (.t 0), none⟩,
  ⟨some 2, .alloc 96 [.nilsl 191 1, .bool false], none⟩])
 (.lv [1, 2] (.seq (.reg (some [0, 1, 2, 3, 4, 5, 6, 7, 8, 10, 9, 11, 12, 13]) [⟨some 7, .faddrb 0 (.t 1), none⟩,
  ⟨some 8, .ldb true 2 (.t 7), none⟩,
  ⟨some 9, .ldb true 3 (.t 1), none⟩,
  ⟨some 10, .callP 129 [.t 9], none⟩,
  ⟨some 11, .callP 153 [.t 8, .t 10], none⟩,
  ⟨some 6, .mov (.t 11), none⟩,
  ⟨some 12, .ext (.t 6) 0, none⟩,
  ⟨some 13, .ext (.t 6) 1, none⟩,
  ⟨some 14, .ext (.t 6) 2, none⟩,
  ⟨some 4, .allocA [] 0 96 [.nilsl 191 1, .bool false], none⟩,
  ⟨some 3, .alloc 96 [.nilsl 191 1, .bool false], none⟩,
  ⟨none, .st 2 (.t 3) (.t 12), none⟩,
  ⟨none, .st 2 (.t 4) (.t 13), none⟩,
  ⟨some 5, .mov (.t 14), none⟩])
 (.lv [2, 3] (.seq (.reg none [⟨some 15, .ld true 2 (.t 3), none⟩,
  ⟨none, .st 2 (.t 2) (.t 15), none⟩])
 (.ret))))))
def i124 : IFn := ⟨1, 16, c124, [.c 2 true 2], .pure⟩
def c125 : IR :=
 .seq (.reg none [⟨some 1, .box 94 1 (.t 0), none⟩,
  ⟨some 2, .mov (.k (.int .i64 0)), none⟩])
 (.lv [1] (.seq (.reg none [⟨some 3, .faddr 0 (.t 1), none⟩,
  ⟨some 4, .ld false 1 (.t 3), none⟩,
  ⟨some 5, .lenf (.t 4), none⟩,
  ⟨some 2, .mov (.t 5), none⟩])
 (.ret)))
def i125 : IFn := ⟨1, 6, c125, [.t 2], .pure⟩
def c126 : IR :=
 .seq (.reg none [⟨some 1, .box 98 3 (.t 0), none⟩,
  ⟨some 2, .alloc 94 [.nilsl 191 1], none⟩])
 (.lv [1, 2] (.seq (.seq (.reg none [⟨some 3, .faddr 2 (.t 1), none⟩,
  ⟨some 4, .ld true 1 (.t 3), none⟩,
  ⟨some 5, .callP 154 [.t 4], none⟩])
 (.lv [1, 2, 5] (.cond (.t 5) (.lv [2] (.seq (.reg none [⟨some 6, .callP 149 [.k (.int .u64 1)], none⟩,
  ⟨none, .st 1 (.t 2) (.t 6), none⟩])
 (.ret)))
 (.skip))))
 (.lv [1, 2] (.seq (.reg none [⟨some 7, .faddr 2 (.t 1), none⟩,
  ⟨some 8, .ld true 1 (.t 7), none⟩,
  ⟨none, .st 1 (.t 2) (.t 8), none⟩])
 (.ret)))))
def i126 : IFn := ⟨1, 9, c126, [.c 2 true 1], .pure⟩
def c127 : IR :=
 .seq (.reg none [⟨some 2, .box 96 2 (.t 0), none⟩,
  ⟨some 3, .box 96 2 (.t 1), none⟩,
  ⟨some 4, .alloc 98 [.nilsl 191 1, .bool false, .nilsl 191 1], none⟩,
  ⟨some 5, .mov (.k (.bool false)), none⟩])
 (.lv [2, 3, 4] (.seq (.seq (.reg none [⟨some 13, .faddr 0 (.t 3), none⟩,
  ⟨some 14, .ld true 1 (.t 13), none⟩,
  ⟨some 15, .callP 154 [.t 14], none⟩])
 (.lv [2, 3, 4, 15] (.cond (.t 15) (.lv [4] (.seq (.reg none [⟨some 16, .build [.nilsl 191 1, .bool false, .nilsl 191 1] [], none⟩,
  ⟨none, .st 3 (.t 4) (.t 16), none⟩,
  ⟨some 5, .mov (.k (.bool false)), none⟩])
 (.ret)))
 (.skip))))
 (.lv [2, 3, 4] (.seq (.reg (some [0, 1, 2, 3, 4, 5, 6]) [⟨some 17, .faddr 0 (.t 2), none⟩,
  ⟨some 18, .ld true 1 (.t 17), none⟩,
  ⟨some 19, .ld true 2 (.t 3), none⟩,
  ⟨some 20, .callP 156 [.t 19], none⟩,
  ⟨some 21, .callP 155 [.t 18, .t 20], none⟩,
  ⟨some 6, .alloc 94 [.nilsl 191 1], none⟩,
  ⟨none, .st 1 (.t 6) (.t 21), none⟩])
 (.lv [2, 3, 4, 6] (.seq (.reg none [⟨some 23, .faddr 0 (.t 2), none⟩,
  ⟨some 24, .ld true 1 (.t 23), none⟩,
  ⟨some 25, .ld true 1 (.t 6), none⟩,
  ⟨some 26, .callF 157 [.t 24, .t 25], none⟩,
  ⟨some 22, .mov (.t 26), none⟩,
  ⟨some 27, .ext (.t 22) 0, none⟩,
  ⟨some 28, .ext (.t 22) 1, none⟩,
  ⟨some 29, .ext (.t 22) 2, none⟩,
  ⟨some 7, .alloc 94 [.nilsl 191 1], none⟩,
  ⟨some 8, .alloc 94 [.nilsl 191 1], none⟩,
  ⟨none, .st 1 (.t 7) (.t 27), none⟩,
  ⟨none, .st 1 (.t 8) (.t 28), none⟩,
  ⟨some 9, .mov (.t 29), none⟩])
 (.lv [2, 3, 4, 6, 7] (.seq (.reg none [⟨some 31, .faddr 0 (.t 3), none⟩,
  ⟨some 32, .ld true 1 (.t 31), none⟩,
  ⟨some 33, .ld true 1 (.t 6), none⟩,
  ⟨some 34, .callF 157 [.t 32, .t 33], none⟩,
  ⟨some 30, .mov (.t 34), none⟩,
  ⟨some 35, .ext (.t 30) 0, none⟩,
  ⟨some 36, .ext (.t 30) 1, none⟩,
  ⟨some 37, .ext (.t 30) 2, none⟩,
  ⟨some 10, .alloc 94 [.nilsl 191 1], none⟩,
  ⟨some 11, .alloc 94 [.nilsl 191 1], none⟩,
  ⟨none, .st 1 (.t 10) (.t 35), none⟩,
  ⟨none, .st 1 (.t 11) (.t 36), none⟩,
  ⟨some 12, .mov (.t 37), none⟩])
 (.lv [2, 3, 4, 7, 10] (.seq (.reg (some [0, 1, 2, 3, 4, 5, 7, 6, 8, 9, 10]) [⟨some 38, .ld true 2 (.t 2), none⟩,
  ⟨some 39, .callP 137 [.t 38], none⟩,
  ⟨some 40, .ld true 2 (.t 3), none⟩,
  ⟨some 41, .callP 137 [.t 40], none⟩,
  ⟨some 42, .binb .ne (.t 39) (.t 41), none⟩,
  ⟨some 43, .ld true 1 (.t 7), none⟩,
  ⟨some 45, .ld true 1 (.t 10), none⟩,
  ⟨some 44, .callF 151 [.t 42, .t 43], none⟩,
  ⟨some 46, .build [.nilsl 191 1, .bool false, .nilsl 191 1] [(0, 2, .t 44), (2, 1, .t 45)], none⟩,
  ⟨none, .st 3 (.t 4) (.t 46), none⟩,
  ⟨some 5, .mov (.k (.bool true)), none⟩])
 (.ret)))))))))))
def i127 : IFn := ⟨2, 47, c127, [.c 4 true 3, .t 5], .pure⟩
def b128_0 : IR :=
 .seq (.reg none [⟨some 10, .bin .lt (.t 9) (.t 8), none⟩])
 (.lv [2, 4, 7, 8, 9, 10] (.seq (.cond (.t 10) (.skip)
 (.exit 0))
 (.lv [2, 4, 7, 8, 9] (.seq (.block 1 (.seq (.reg none [⟨some 11, .iaddrf 2 (.t 7) (.t 9), none⟩,
  ⟨some 12, .ldf true 2 (.t 11), none⟩,
  ⟨some 6, .alloc 96 [.nilsl 191 1, .bool false], none⟩,
  ⟨none, .st 2 (.t 6) (.t 12), none⟩])
 (.lv [2, 4, 6, 7, 8, 9] (.reg (some [0, 1, 2, 3, 4, 5, 6, 7, 8, 9, 10, 11]) [⟨some 13, .faddr 1 (.t 2), none⟩,
  ⟨some 14, .ld false 1 (.t 13), none⟩,
  ⟨some 15, .faddr 1 (.t 6), none⟩,
  ⟨some 16, .ld false 1 (.t 15), none⟩,
  ⟨some 17, .binb .ne (.t 14) (.t 16), none⟩,
  ⟨some 18, .faddr 0 (.t 2), none⟩,
  ⟨some 19, .ld true 1 (.t 18), none⟩,
  ⟨some 20, .faddr 0 (.t 6), none⟩,
  ⟨some 21, .ld true 1 (.t 20), none⟩,
  ⟨some 22, .callF 158 [.t 19, .t 21], none⟩,
  ⟨some 23, .callP 151 [.t 17, .t 22], none⟩,
  ⟨none, .st 2 (.t 2) (.t 23), none⟩]))))
 (.lv [2, 4, 7, 8, 9] (.reg none [⟨some 24, .bin .add (.t 9) (.k (.int .i64 1)), none⟩,
  ⟨some 9, .mov (.t 24), none⟩]))))))
def k128_0 : IR :=
 .seq (.reg none [⟨some 25, .ld true 2 (.t 2), none⟩,
  ⟨none, .st 2 (.t 4) (.t 25), none⟩])
 (.ret)
def c128 : IR :=
 .seq (.reg none [⟨some 2, .box 96 2 (.t 0), none⟩,
  ⟨some 4, .alloc 96 [.nilsl 191 1, .bool false], none⟩])
 (.lv [1, 2, 4] (.seq (.seq (.reg none [⟨some 7, .mov (.t 1), none⟩,
  ⟨some 8, .lenf (.t 7), none⟩,
  ⟨some 9, .mov (.k (.int .i64 0)), none⟩])
 (.lv [2, 4, 7, 8, 9] (.block 0 (.loop [2, 4, 7, 8, 9] (some (3, [])) b128_0))))
 k128_0))
def i128 : IFn := ⟨2, 26, c128, [.c 4 true 2], .pure⟩
def c129 : IR :=
 .seq (.reg none [⟨some 1, .box 98 3 (.t 0), none⟩,
  ⟨some 2, .alloc 96 [.nilsl 191 1, .bool false], none⟩])
 (.lv [1, 2] (.seq (.reg none [⟨some 3, .ld true 3 (.t 1), none⟩,
  ⟨some 4, .callP 126 [.t 3], none⟩,
  ⟨some 5, .callP 151 [.k (.bool false), .t 4], none⟩,
  ⟨none, .st 2 (.t 2) (.t 5), none⟩])
 (.ret)))
def i129 : IFn := ⟨1, 6, c129, [.c 2 true 2], .pure⟩
def b130_0 : IR :=
 .seq (.reg none [⟨some 10, .bin .lt (.t 9) (.t 8), none⟩])
 (.lv [2, 4, 7, 8, 9, 10] (.seq (.cond (.t 10) (.skip)
 (.exit 0))
 (.lv [2, 4, 7, 8, 9] (.seq (.block 1 (.seq (.reg none [⟨some 11, .iaddrf 2 (.t 7) (.t 9), none⟩,
  ⟨some 12, .ldf true 2 (.t 11), none⟩,
  ⟨some 6, .alloc 96 [.nilsl 191 1, .bool false], none⟩,
  ⟨none, .st 2 (.t 6) (.t 12), none⟩])
 (.lv [2, 4, 6, 7, 8, 9] (.reg none [⟨some 13, .ld true 2 (.t 2), none⟩,
  ⟨some 14, .ld true 2 (.t 6), none⟩,
  ⟨some 15, .callF 159 [.t 13, .t 14], none⟩,
  ⟨none, .st 2 (.t 2) (.t 15), none⟩]))))
 (.lv [2, 4, 7, 8, 9] (.reg none [⟨some 16, .bin .add (.t 9) (.k (.int .i64 1)), none⟩,
  ⟨some 9, .mov (.t 16), none⟩]))))))
def k130_0 : IR :=
 .seq (.reg none [⟨some 17, .ld true 2 (.t 2), none⟩,
  ⟨none, .st 2 (.t 4) (.t 17), none⟩])
 (.ret)
def c130 : IR :=
 .seq (.reg none [⟨some 2, .box 96 2 (.t 0), none⟩,
  ⟨some 4, .alloc 96 [.nilsl 191 1, .bool false], none⟩])
 (.lv [1, 2, 4] (.seq (.seq (.reg none [⟨some 7, .mov (.t 1), none⟩,
  ⟨some 8, .lenf (.t 7), none⟩,
  ⟨some 9, .mov (.k (.int .i64 0)), none⟩])
 (.lv [2, 4, 7, 8, 9] (.block 0 (.loop [2, 4, 7, 8, 9] (some (3, [])) b130_0))))
 k130_0))
def i130 : IFn := ⟨2, 18, c130, [.c 4 true 2], .pure⟩
def c131 : IR :=
 .seq (.reg none [⟨some 1, .box 96 2 (.t 0), none⟩,
  ⟨some 2, .alloc 96 [.nilsl 191 1, .bool false], none⟩])
 (.lv [1, 2] (.seq (.reg none [⟨some 3, .faddr 1 (.t 1), none⟩,
  ⟨some 4, .ld false 1 (.t 3), none⟩,
  ⟨some 5, .not (.t 4), none⟩,
  ⟨some 6, .faddr 0 (.t 1), none⟩,
  ⟨some 7, .ld true 1 (.t 6), none⟩,
  ⟨some 8, .callP 151 [.t 5, .t 7], none⟩,
  ⟨none, .st 2 (.t 2) (.t 8), none⟩])
 (.ret)))
def i131 : IFn := ⟨1, 9, c131, [.c 2 true 2], .pure⟩
def c132 : IR :=
 .seq (.reg none [⟨some 2, .box 72 3 (.t 0), none⟩,
  ⟨some 3, .box 72 3 (.t 1), none⟩,
  ⟨some 4, .alloc 72 [.bool false, .str ⟨#[]⟩, .str ⟨#[]⟩], none⟩])
 (.lv [2, 3, 4] (.seq (.reg none [⟨some 8, .ld true 3 (.t 3), none⟩,
  ⟨some 9, .ld true 3 (.t 2), none⟩,
  ⟨some 10, .callP 133 [.t 8, .t 9], none⟩,
  ⟨some 7, .mov (.t 10), none⟩,
  ⟨some 11, .ext (.t 7) 0, none⟩,
  ⟨some 12, .ext (.t 7) 1, none⟩,
  ⟨some 5, .alloc 72 [.bool false, .str ⟨#[]⟩, .str ⟨#[]⟩], none⟩,
  ⟨none, .st 3 (.t 5) (.t 11), none⟩,
  ⟨some 6, .mov (.t 12), none⟩])
 (.lv [2, 3, 4, 5, 6] (.seq (.seq (.reg none [⟨some 13, .mov (.t 6), none⟩,
  ⟨some 14, .not (.t 13), none⟩])
 (.lv [2, 3, 4, 5, 14] (.cond (.t 14) (.lv [3, 4] (.seq (.reg none [⟨some 15, .ld true 3 (.t 3), none⟩,
  ⟨none, .st 3 (.t 4) (.t 15), none⟩])
 (.ret)))
 (.skip))))
 (.lv [2, 3, 4, 5] (.seq (.reg (some [0, 1, 2, 3, 4, 5, 6, 7, 8]) [⟨some 16, .ld true 3 (.t 3), none⟩,
  ⟨some 17, .ld true 3 (.t 2), none⟩,
  ⟨some 18, .ld true 3 (.t 5), none⟩,
  ⟨some 19, .callP 162 [.t 18], none⟩,
  ⟨some 20, .callP 161 [.t 19], none⟩,
  ⟨some 21, .callP 160 [.t 17, .t 20], none⟩,
  ⟨some 22, .callP 135 [.t 21], none⟩,
  ⟨some 23, .callP 134 [.t 16, .t 22], none⟩,
  ⟨none, .st 3 (.t 4) (.t 23), none⟩])
 (.ret)))))))
def i132 : IFn := ⟨2, 24, c132, [.c 4 true 3], .pure⟩
def c133 : IR :=
 .seq (.reg none [⟨some 2, .box 72 3 (.t 0), none⟩,
  ⟨some 3, .box 72 3 (.t 1), none⟩,
  ⟨some 4, .alloc 72 [.bool false, .str ⟨#[]⟩, .str ⟨#[]⟩], none⟩,
  ⟨some 5, .mov (.k (.bool false)), none⟩])
 (.lv [2, 3, 4] (.seq (.reg (some [0, 1, 2, 3, 4, 5, 6, 7, 8, 9, 10, 11, 12, 13, 14]) [⟨some 6, .ld true 3 (.t 2), none⟩,
  ⟨some 7, .callP 165 [.t 6], none⟩,
  ⟨some 8, .ld true 3 (.t 3), none⟩,
  ⟨some 9, .callP 166 [.t 8], none⟩,
  ⟨some 10, .callP 164 [.t 7, .t 9], none⟩,
  ⟨some 11, .ld true 3 (.t 2), none⟩,
  ⟨some 12, .callP 166 [.t 11], none⟩,
  ⟨some 13, .ld true 3 (.t 3), none⟩,
  ⟨some 14, .callP 165 [.t 13], none⟩,
  ⟨some 15, .callP 164 [.t 12, .t 14], none⟩,
  ⟨some 16, .callP 163 [.t 10, .t 15], none⟩,
  ⟨some 17, .ext (.t 16) 0, none⟩,
  ⟨some 18, .ext (.t 16) 1, none⟩,
  ⟨none, .st 3 (.t 4) (.t 17), none⟩,
  ⟨some 5, .mov (.t 18), none⟩])
 (.ret)))
def i133 : IFn := ⟨2, 19, c133, [.c 4 true 3, .t 5], .pure⟩
def c134 : IR :=
 .seq (.reg none [⟨some 2, .box 72 3 (.t 0), none⟩,
  ⟨some 3, .box 72 3 (.t 1), none⟩,
  ⟨some 4, .alloc 72 [.bool false, .str ⟨#[]⟩, .str ⟨#[]⟩], none⟩])
 (.lv [2, 3, 4] (.seq (.reg (some [0, 1, 2, 3, 4, 5, 6, 7, 8, 9, 10, 11, 12, 13, 14, 15, 16, 17, 18, 19, 20, 21, 22]) [⟨some 8, .ld true 3 (.t 2), none⟩,
  ⟨some 9, .callP 165 [.t 8], none⟩,
  ⟨some 10, .ld true 3 (.t 3), none⟩,
  ⟨some 11, .callP 166 [.t 10], none⟩,
  ⟨some 12, .callP 164 [.t 9, .t 11], none⟩,
  ⟨some 13, .ld true 3 (.t 3), none⟩,
  ⟨some 14, .callP 165 [.t 13], none⟩,
  ⟨some 15, .ld true 3 (.t 2), none⟩,
  ⟨some 16, .callP 166 [.t 15], none⟩,
  ⟨some 17, .callP 164 [.t 14, .t 16], none⟩,
  ⟨some 18, .callP 167 [.t 12, .t 17], none⟩,
  ⟨some 19, .ld true 3 (.t 2), none⟩,
  ⟨some 20, .callP 166 [.t 19], none⟩,
  ⟨some 21, .ld true 3 (.t 3), none⟩,
  ⟨some 22, .callP 166 [.t 21], none⟩,
  ⟨some 23, .callP 164 [.t 20, .t 22], none⟩,
  ⟨some 24, .callP 163 [.t 18, .t 23], none⟩,
  ⟨some 7, .mov (.t 24), none⟩,
  ⟨some 25, .ext (.t 7) 0, none⟩,
  ⟨some 26, .ext (.t 7) 1, none⟩,
  ⟨some 5, .alloc 72 [.bool false, .str ⟨#[]⟩, .str ⟨#[]⟩], none⟩,
  ⟨none, .st 3 (.t 5) (.t 25), none⟩,
  ⟨some 6, .mov (.t 26), none⟩])
 (.lv [4, 5] (.seq (.reg none [⟨some 27, .ld true 3 (.t 5), none⟩,
  ⟨none, .st 3 (.t 4) (.t 27), none⟩])
 (.ret)))))
def i134 : IFn := ⟨2, 28, c134, [.c 4 true 3], .pure⟩
def c135 : IR :=
 .seq (.reg none [⟨some 1, .box 72 3 (.t 0), none⟩,
  ⟨some 2, .alloc 72 [.bool false, .str ⟨#[]⟩, .str ⟨#[]⟩], none⟩])
 (.lv [1, 2] (.seq (.reg none [⟨some 3, .faddr 0 (.t 1), none⟩,
  ⟨some 4, .ld false 1 (.t 3), none⟩,
  ⟨some 5, .not (.t 4), none⟩,
  ⟨some 6, .mov (.t 5), none⟩,
  ⟨some 7, .faddr 1 (.t 1), (some (6, true))⟩,
  ⟨some 8, .ld false 1 (.t 7), (some (6, true))⟩,
  ⟨some 9, .bin .ne (.t 8) (.k (.str ⟨#[48]⟩)), (some (6, true))⟩,
  ⟨some 10, .pick (.t 6) (.t 9) (.k (.bool false)), none⟩,
  ⟨some 11, .faddr 0 (.t 1), none⟩,
  ⟨none, .st 1 (.t 11) (.t 10), none⟩])
 (.lv [1, 2] (.seq (.reg none [⟨some 12, .ld true 3 (.t 1), none⟩,
  ⟨none, .st 3 (.t 2) (.t 12), none⟩])
 (.ret)))))
def i135 : IFn := ⟨1, 13, c135, [.c 2 true 3], .pure⟩
def c136 : IR :=
 .seq (.reg none [⟨some 2, .mov (.k (.int .i64 0)), none⟩])
 (.lv [0] (.seq (.reg none [⟨some 3, .mov (.t 0), none⟩,
  ⟨some 4, .callP 168 [.t 3], none⟩,
  ⟨some 5, .bin .add (.t 4) (.k (.int .i64 31)), none⟩,
  ⟨some 6, .bin .quo (.t 5) (.k (.int .i64 32)), none⟩,
  ⟨some 2, .mov (.t 6), none⟩])
 (.ret)))
def i136 : IFn := ⟨1, 7, c136, [.t 2], .pure⟩
def c137 : IR :=
 .seq (.reg none [⟨some 1, .box 96 2 (.t 0), none⟩,
  ⟨some 2, .mov (.k (.bool false)), none⟩])
 (.lv [1] (.seq (.reg none [⟨some 3, .faddr 1 (.t 1), none⟩,
  ⟨some 4, .ld false 1 (.t 3), none⟩,
  ⟨some 2, .mov (.t 4), none⟩])
 (.ret)))
def i137 : IFn := ⟨1, 5, c137, [.t 2], .pure⟩
def b138_1 : IR :=
 .seq (.seq (.reg none [⟨some 21, .mov (.t 6), none⟩,
  ⟨some 22, .bin .lt (.t 21) (.k (.int .i64 9)), none⟩,
  ⟨some 23, .mov (.t 22), none⟩,
  ⟨some 24, .mov (.t 5), (some (23, true))⟩,
  ⟨some 25, .bin .gt (.t 24) (.k (.int .u32 0)), (some (23, true))⟩,
  ⟨some 26, .mov (.t 25), (some (23, true))⟩,
  ⟨some 27, .ld true 1 (.t 4), (some (26, false))⟩,
  ⟨some 28, .callR 154 [.t 27], (some (26, false))⟩,
  ⟨some 29, .not (.t 28), (some (26, false))⟩,
  ⟨some 30, .pick (.t 26) (.k (.bool true)) (.t 29), (some (23, true))⟩,
  ⟨some 31, .pick (.t 23) (.t 30) (.k (.bool false)), none⟩])
 (.lv [1, 3, 4, 5, 6, 31] (.cond (.t 31) (.skip)
 (.exit 2))))
 (.lv [1, 3, 4, 5, 6] (.seq (.block 3 (.seq (.reg none [⟨some 34, .mov (.t 3), none⟩,
  ⟨some 35, .mov (.t 5), none⟩,
  ⟨some 36, .bin .rem (.t 35) (.k (.int .u32 10)), none⟩,
  ⟨some 37, .bin .add (.k (.int .u32 48)) (.t 36), none⟩,
  ⟨some 38, .conv .u8 (.t 37), none⟩,
  ⟨some 39, .bsl 5 1 [.t 38], none⟩,
  ⟨some 40, .app 5 1 1 (.t 34) (.t 39), none⟩,
  ⟨some 3, .mov (.t 40), none⟩])
 (.lv [1, 3, 4, 5, 6] (.reg none [⟨some 41, .mov (.t 5), none⟩,
  ⟨some 42, .bin .quo (.t 41) (.k (.int .u32 10)), none⟩,
  ⟨some 5, .mov (.t 42), none⟩]))))
 (.lv [1, 3, 4, 5, 6] (.reg none [⟨some 32, .mov (.t 6), none⟩,
  ⟨some 33, .bin .add (.t 32) (.k (.int .i64 1)), none⟩,
  ⟨some 6, .mov (.t 33), none⟩]))))
def k138_0 : IR :=
 .reg none [⟨some 43, .ld true 1 (.t 4), none⟩,
  ⟨none, .st 1 (.t 1) (.t 43), none⟩]
def b138_0 : IR :=
 .seq (.seq (.reg none [⟨some 13, .ld true 1 (.t 1), none⟩,
  ⟨some 14, .callR 154 [.t 13], none⟩,
  ⟨some 15, .not (.t 14), none⟩])
 (.lv [1, 3, 15] (.cond (.t 15) (.skip)
 (.exit 0))))
 (.lv [1, 3] (.block 1 (.seq (.reg none [⟨some 17, .ld true 1 (.t 1), none⟩,
  ⟨some 18, .callF 169 [.t 17, .k (.int .u32 1000000000)], none⟩,
  ⟨some 16, .mov (.t 18), none⟩,
  ⟨some 19, .ext (.t 16) 0, none⟩,
  ⟨some 20, .ext (.t 16) 1, none⟩,
  ⟨some 4, .alloc 94 [.nilsl 191 1], none⟩,
  ⟨none, .st 1 (.t 4) (.t 19), none⟩,
  ⟨some 5, .mov (.t 20), none⟩])
 (.lv [1, 3, 4, 5] (.seq (.seq (.reg none [⟨some 6, .mov (.k (.int .i64 0)), none⟩])
 (.lv [1, 3, 4, 5, 6] (.block 2 (.loop [1, 3, 4, 5, 6] (some (4, [])) b138_1))))
 k138_0)))))
def b138_2 : IR :=
 .seq (.seq (.reg none [⟨some 47, .mov (.t 7), none⟩,
  ⟨some 48, .mov (.t 8), none⟩,
  ⟨some 49, .bin .lt (.t 47) (.t 48), none⟩])
 (.lv [3, 7, 8, 49] (.cond (.t 49) (.skip)
 (.exit 4))))
 (.lv [3, 7, 8] (.seq (.block 5 (.reg (some [0, 1, 2, 3, 4, 5, 6, 7, 8, 9, 10, 11, 12, 13, 14, 15]) [⟨some 54, .mov (.t 3), none⟩,
  ⟨some 55, .mov (.t 7), none⟩,
  ⟨some 56, .mov (.t 3), none⟩,
  ⟨some 57, .mov (.t 8), none⟩,
  ⟨some 58, .mov (.t 3), none⟩,
  ⟨some 59, .mov (.t 8), none⟩,
  ⟨some 60, .iaddr 1 (.t 58) (.t 59), none⟩,
  ⟨some 61, .ld false 1 (.t 60), none⟩,
  ⟨some 62, .mov (.t 3), none⟩,
  ⟨some 63, .mov (.t 7), none⟩,
  ⟨some 64, .iaddr 1 (.t 62) (.t 63), none⟩,
  ⟨some 65, .ld false 1 (.t 64), none⟩,
  ⟨some 66, .iaddr 1 (.t 54) (.t 55), none⟩,
  ⟨none, .st 1 (.t 66) (.t 61), none⟩,
  ⟨some 67, .iaddr 1 (.t 56) (.t 57), none⟩,
  ⟨none, .st 1 (.t 67) (.t 65), none⟩]))
 (.lv [3, 7, 8] (.reg none [⟨some 50, .mov (.t 7), none⟩,
  ⟨some 51, .bin .add (.t 50) (.k (.int .i64 1)), none⟩,
  ⟨some 52, .mov (.t 8), none⟩,
  ⟨some 53, .bin .sub (.t 52) (.k (.int .i64 1)), none⟩,
  ⟨some 7, .mov (.t 51), none⟩,
  ⟨some 8, .mov (.t 53), none⟩]))))
def k138_1 : IR :=
 .seq (.reg none [⟨some 68, .mov (.t 3), none⟩,
  ⟨some 69, .b2s (.t 68), none⟩,
  ⟨some 2, .mov (.t 69), none⟩])
 (.ret)
def k138_2 : IR :=
 .seq (.seq (.reg none [⟨some 44, .mov (.t 3), none⟩,
  ⟨some 45, .len (.t 44), none⟩,
  ⟨some 46, .bin .sub (.t 45) (.k (.int .i64 1)), none⟩,
  ⟨some 7, .mov (.k (.int .i64 0)), none⟩,
  ⟨some 8, .mov (.t 46), none⟩])
 (.lv [3, 7, 8] (.block 4 (.loop [3, 7, 8] (some (2, [])) b138_2))))
 k138_1
def c138 : IR :=
 .seq (.reg none [⟨some 1, .box 94 1 (.t 0), none⟩,
  ⟨some 2, .mov (.k (.str ⟨#[]⟩)), none⟩])
 (.lv [1] (.seq (.seq (.reg none [⟨some 9, .faddr 0 (.t 1), none⟩,
  ⟨some 10, .ld false 1 (.t 9), none⟩,
  ⟨some 11, .len (.t 10), none⟩,
  ⟨some 12, .bin .eq (.t 11) (.k (.int .i64 0)), none⟩])
 (.lv [1, 12] (.cond (.t 12) (.lv [] (.seq (.reg none [⟨some 2, .mov (.k (.str ⟨#[48]⟩)), none⟩])
 (.ret)))
 (.skip))))
 (.lv [1] (.seq (.reg none [⟨some 3, .newnil 5 1, none⟩])
 (.lv [1, 3] (.seq (.block 0 (.loop [1, 3] (some (2, [])) b138_0))
 k138_2))))))
def i138 : IFn := ⟨1, 70, c138, [.t 2], .pure⟩
def c139 : IR :=
 .seq (.reg none [⟨some 2, .alloc 164 [.bool false, .str ⟨#[]⟩], none⟩])
 (.lv [0, 2] (.seq (.seq (.reg none [⟨some 3, .mov (.t 0), none⟩,
  ⟨some 4, .bin .lt (.t 3) (.k (.int .i64 0)), none⟩])
 (.lv [0, 2, 4] (.cond (.t 4) (.lv [0, 2] (.seq (.reg none [⟨some 5, .mov (.t 0), none⟩,
  ⟨some 6, .bin .add (.t 5) (.k (.int .i64 1)), none⟩,
  ⟨some 7, .bin .sub (.k (.int .i64 0)) (.t 6), none⟩,
  ⟨some 8, .conv .u64 (.t 7), none⟩,
  ⟨some 9, .bin .add (.t 8) (.k (.int .u64 1)), none⟩,
  ⟨some 10, .callP 170 [.t 9], none⟩,
  ⟨some 11, .build [.bool false, .str ⟨#[]⟩] [(0, 1, .k (.bool true)), (1, 1, .t 10)], none⟩,
  ⟨none, .st 2 (.t 2) (.t 11), none⟩])
 (.ret)))
 (.skip))))
 (.lv [0, 2] (.seq (.reg none [⟨some 12, .mov (.t 0), none⟩,
  ⟨some 13, .conv .u64 (.t 12), none⟩,
  ⟨some 14, .callP 170 [.t 13], none⟩,
  ⟨some 15, .build [.bool false, .str ⟨#[]⟩] [(0, 1, .k (.bool false)), (1, 1, .t 14)], none⟩,
  ⟨none, .st 2 (.t 2) (.t 15), none⟩])
 (.ret)))))
def i139 : IFn := ⟨1, 16, c139, [.c 2 true 2], .pure⟩
def b145_0 : IR :=
 .seq (.seq (.reg none [⟨some 4, .mov (.t 3), none⟩,
  ⟨some 5, .mov (.t 0), none⟩,
  ⟨some 6, .slen (.t 5), none⟩,
  ⟨some 7, .bin .lt (.t 4) (.t 6), none⟩,
  ⟨some 8, .mov (.t 7), none⟩,
  ⟨some 9, .mov (.t 3), (some (8, true))⟩,
  ⟨some 10, .bin .le (.t 9) (.k (.int .i64 2000)), (some (8, true))⟩,
  ⟨some 11, .pick (.t 8) (.t 10) (.k (.bool false)), none⟩])
 (.lv [0, 3, 11] (.cond (.t 11) (.skip)
 (.exit 0))))
 (.lv [0, 3] (.seq (.block 1 (.seq (.reg none [⟨some 14, .mov (.t 0), none⟩,
  ⟨some 15, .mov (.t 3), none⟩,
  ⟨some 16, .sidx (.t 14) (.t 15), none⟩,
  ⟨some 17, .bin .lt (.t 16) (.k (.int .u8 48)), none⟩,
  ⟨some 18, .mov (.t 17), none⟩,
  ⟨some 19, .mov (.t 0), (some (18, false))⟩,
  ⟨some 20, .mov (.t 3), (some (18, false))⟩,
  ⟨some 21, .sidx (.t 19) (.t 20), (some (18, false))⟩,
  ⟨some 22, .bin .gt (.t 21) (.k (.int .u8 57)), (some (18, false))⟩,
  ⟨some 23, .pick (.t 18) (.k (.bool true)) (.t 22), none⟩])
 (.lv [0, 3, 23] (.cond (.t 23) (.lv [] (.seq (.reg none [⟨some 2, .mov (.k (.bool false)), none⟩])
 (.ret)))
 (.skip)))))
 (.lv [0, 3] (.reg none [⟨some 12, .mov (.t 3), none⟩,
  ⟨some 13, .bin .add (.t 12) (.k (.int .i64 1)), none⟩,
  ⟨some 3, .mov (.t 13), none⟩]))))
def k145_0 : IR :=
 .seq (.reg none [⟨some 24, .mov (.t 0), none⟩,
  ⟨some 25, .slen (.t 24), none⟩,
  ⟨some 26, .bin .ge (.t 25) (.k (.int .i64 1)), none⟩,
  ⟨some 27, .mov (.t 26), none⟩,
  ⟨some 28, .mov (.t 0), (some (27, true))⟩,
  ⟨some 29, .slen (.t 28), (some (27, true))⟩,
  ⟨some 30, .bin .le (.t 29) (.k (.int .i64 2000)), (some (27, true))⟩,
  ⟨some 31, .pick (.t 27) (.t 30) (.k (.bool false)), none⟩,
  ⟨some 2, .mov (.t 31), none⟩])
 (.ret)
def c145 : IR :=
 .seq (.reg none [⟨some 2, .mov (.k (.bool false)), none⟩])
 (.lv [0] (.seq (.seq (.reg none [⟨some 3, .mov (.k (.int .i64 0)), none⟩])
 (.lv [0, 3] (.block 0 (.loop [0, 3] (some (0, [])) b145_0))))
 k145_0))
def i145 : IFn := ⟨1, 32, c145, [.t 2], .pure⟩
def b146_0 : IR :=
 .seq (.seq (.reg none [⟨some 3, .mov (.t 0), none⟩,
  ⟨some 4, .slen (.t 3), none⟩,
  ⟨some 5, .bin .gt (.t 4) (.k (.int .i64 1)), none⟩,
  ⟨some 6, .mov (.t 5), none⟩,
  ⟨some 7, .mov (.t 0), (some (6, true))⟩,
  ⟨some 8, .sidx (.t 7) (.k (.int .i64 0)), (some (6, true))⟩,
  ⟨some 9, .bin .eq (.t 8) (.k (.int .u8 48)), (some (6, true))⟩,
  ⟨some 10, .pick (.t 6) (.t 9) (.k (.bool false)), none⟩])
 (.lv [0, 10] (.cond (.t 10) (.skip)
 (.exit 0))))
 (.lv [0] (.block 1 (.reg none [⟨some 11, .mov (.t 0), none⟩,
  ⟨some 12, .scut (.t 11) (some (.k (.int .i64 1))) none, none⟩,
  ⟨some 0, .mov (.t 12), none⟩])))
def k146_0 : IR :=
 .seq (.reg none [⟨some 13, .mov (.t 0), none⟩,
  ⟨some 2, .mov (.t 13), none⟩])
 (.ret)
def c146 : IR :=
 .seq (.reg none [⟨some 2, .mov (.k (.str ⟨#[]⟩)), none⟩])
 (.lv [0] (.seq (.block 0 (.loop [0] (some (0, [])) b146_0))
 k146_0))
def i146 : IFn := ⟨1, 14, c146, [.t 2], .pure⟩
def b147_0 : IR :=
 .seq (.seq (.reg none [⟨some 8, .mov (.t 5), none⟩,
  ⟨some 9, .bin .lt (.t 8) (.k (.int .i64 20000)), none⟩,
  ⟨some 10, .mov (.t 9), none⟩,
  ⟨some 11, .mov (.t 1), (some (10, true))⟩,
  ⟨some 12, .bin .ne (.t 11) (.k (.str ⟨#[48]⟩)), (some (10, true))⟩,
  ⟨some 13, .pick (.t 10) (.t 12) (.k (.bool false)), none⟩])
 (.lv [0, 1, 5, 13] (.cond (.t 13) (.skip)
 (.exit 0))))
 (.lv [0, 1, 5] (.seq (.block 1 (.seq (.reg none [⟨some 17, .mov (.t 0), none⟩,
  ⟨some 18, .mov (.t 1), none⟩,
  ⟨some 19, .callP 174 [.t 17, .t 18], none⟩,
  ⟨some 16, .mov (.t 19), none⟩,
  ⟨some 20, .ext (.t 16) 0, none⟩,
  ⟨some 21, .ext (.t 16) 1, none⟩,
  ⟨some 6, .mov (.t 20), none⟩,
  ⟨some 7, .mov (.t 21), none⟩])
 (.lv [1, 5, 7] (.seq (.reg none [⟨some 22, .mov (.t 1), none⟩,
  ⟨some 0, .mov (.t 22), none⟩])
 (.lv [0, 5, 7] (.reg none [⟨some 23, .mov (.t 7), none⟩,
  ⟨some 1, .mov (.t 23), none⟩]))))))
 (.lv [0, 1, 5] (.reg none [⟨some 14, .mov (.t 5), none⟩,
  ⟨some 15, .bin .add (.t 14) (.k (.int .i64 1)), none⟩,
  ⟨some 5, .mov (.t 15), none⟩]))))
def k147_0 : IR :=
 .seq (.reg none [⟨some 24, .mov (.t 0), none⟩,
  ⟨some 4, .mov (.t 24), none⟩])
 (.ret)
def c147 : IR :=
 .seq (.reg none [⟨some 4, .mov (.k (.str ⟨#[]⟩)), none⟩])
 (.lv [0, 1] (.seq (.seq (.reg none [⟨some 5, .mov (.k (.int .i64 0)), none⟩])
 (.lv [0, 1, 5] (.block 0 (.loop [0, 1, 5] (some (0, [])) b147_0))))
 k147_0))
def i147 : IFn := ⟨2, 25, c147, [.t 4], .pure⟩
def c148 : IR :=
 .seq (.reg none [⟨some 2, .alloc 96 [.nilsl 191 1, .bool false], none⟩])
 (.lv [0, 2] (.seq (.seq (.reg none [⟨some 3, .mov (.t 0), none⟩,
  ⟨some 4, .bin .lt (.t 3) (.k (.int .i64 0)), none⟩])
 (.lv [0, 2, 4] (.cond (.t 4) (.lv [0, 2] (.seq (.reg none [⟨some 5, .mov (.t 0), none⟩,
  ⟨some 6, .bin .add (.t 5) (.k (.int .i64 1)), none⟩,
  ⟨some 7, .neg (.t 6), none⟩,
  ⟨some 8, .conv .u64 (.t 7), none⟩,
  ⟨some 9, .bin .add (.t 8) (.k (.int .u64 1)), none⟩,
  ⟨some 10, .callP 149 [.t 9], none⟩,
  ⟨some 11, .build [.nilsl 191 1, .bool false] [(0, 1, .t 10), (1, 1, .k (.bool true))], none⟩,
  ⟨none, .st 2 (.t 2) (.t 11), none⟩])
 (.ret)))
 (.skip))))
 (.lv [0, 2] (.seq (.reg none [⟨some 12, .mov (.t 0), none⟩,
  ⟨some 13, .conv .u64 (.t 12), none⟩,
  ⟨some 14, .callP 149 [.t 13], none⟩,
  ⟨some 15, .build [.nilsl 191 1, .bool false] [(0, 1, .t 14), (1, 1, .k (.bool false))], none⟩,
  ⟨none, .st 2 (.t 2) (.t 15), none⟩])
 (.ret)))))
def i148 : IFn := ⟨1, 16, c148, [.c 2 true 2], .pure⟩
def c149 : IR :=
 .seq (.reg none [⟨some 2, .alloc 94 [.nilsl 191 1], none⟩])
 (.lv [0, 2] (.seq (.reg none [⟨some 3, .mov (.t 0), none⟩,
  ⟨some 4, .conv .u32 (.t 3), none⟩,
  ⟨some 5, .mov (.t 0), none⟩,
  ⟨some 6, .bin .shr (.t 5) (.k (.int .u64 32)), none⟩,
  ⟨some 7, .conv .u32 (.t 6), none⟩,
  ⟨some 8, .bsl 191 1 [.t 4, .t 7], none⟩,
  ⟨some 9, .callF 175 [.t 8], none⟩,
  ⟨none, .st 1 (.t 2) (.t 9), none⟩])
 (.ret)))
def i149 : IFn := ⟨1, 10, c149, [.c 2 true 1], .pure⟩
def b150_1 : IR :=
 .seq (.reg none [⟨some 30, .bin .lt (.t 29) (.t 28), none⟩])
 (.lv [0, 2, 4, 5, 6, 7, 27, 28, 29, 30] (.seq (.cond (.t 30) (.skip)
 (.exit 2))
 (.lv [0, 2, 4, 5, 6, 7, 27, 28, 29] (.seq (.block 3 (.seq (.reg none [⟨some 31, .iaddrf 1 (.t 27) (.t 29), none⟩,
  ⟨some 32, .ldf false 1 (.t 31), none⟩,
  ⟨some 9, .mov (.t 32), none⟩])
 (.lv [0, 2, 4, 5, 6, 7, 9, 27, 28, 29] (.seq (.seq (.reg none [⟨some 33, .mov (.t 9), none⟩,
  ⟨some 34, .bin .lt (.t 33) (.k (.int .u8 48)), none⟩,
  ⟨some 35, .mov (.t 34), none⟩,
  ⟨some 36, .mov (.t 9), (some (35, false))⟩,
  ⟨some 37, .bin .gt (.t 36) (.k (.int .u8 57)), (some (35, false))⟩,
  ⟨some 38, .pick (.t 35) (.k (.bool true)) (.t 37), none⟩])
 (.lv [0, 2, 4, 5, 6, 7, 9, 27, 28, 29, 38] (.cond (.t 38) (.lv [2] (.seq (.reg none [⟨some 39, .build [.nilsl 191 1] [], none⟩,
  ⟨none, .st 1 (.t 2) (.t 39), none⟩,
  ⟨some 3, .mov (.k (.bool false)), none⟩])
 (.ret)))
 (.skip))))
 (.lv [0, 2, 4, 5, 6, 7, 9, 27, 28, 29] (.reg none [⟨some 40, .mov (.t 6), none⟩,
  ⟨some 41, .bin .mul (.k (.int .u64 10)) (.t 40), none⟩,
  ⟨some 42, .mov (.t 9), none⟩,
  ⟨some 43, .bin .sub (.t 42) (.k (.int .u8 48)), none⟩,
  ⟨some 44, .conv .u64 (.t 43), none⟩,
  ⟨some 45, .bin .add (.t 41) (.t 44), none⟩,
  ⟨some 46, .mov (.t 7), none⟩,
  ⟨some 47, .bin .mul (.k (.int .u64 10)) (.t 46), none⟩,
  ⟨some 6, .mov (.t 45), none⟩,
  ⟨some 7, .mov (.t 47), none⟩]))))))
 (.lv [0, 2, 4, 5, 6, 7, 27, 28, 29] (.reg none [⟨some 48, .bin .add (.t 29) (.k (.int .i64 1)), none⟩,
  ⟨some 29, .mov (.t 48), none⟩]))))))
def k150_0 : IR :=
 .seq (.reg (some [0, 1, 2, 4, 3, 5, 6, 7]) [⟨some 49, .ld true 1 (.t 4), none⟩,
  ⟨some 50, .mov (.t 7), none⟩,
  ⟨some 51, .callP 149 [.t 50], none⟩,
  ⟨some 53, .mov (.t 6), none⟩,
  ⟨some 52, .callF 158 [.t 49, .t 51], none⟩,
  ⟨some 54, .callP 149 [.t 53], none⟩,
  ⟨some 55, .callP 176 [.t 52, .t 54], none⟩,
  ⟨none, .st 1 (.t 4) (.t 55), none⟩])
 (.lv [0, 2, 4, 5] (.reg none [⟨some 56, .mov (.t 0), none⟩,
  ⟨some 57, .mov (.t 5), none⟩,
  ⟨some 58, .scut (.t 56) (some (.t 57)) none, none⟩,
  ⟨some 0, .mov (.t 58), none⟩]))
def b150_0 : IR :=
 .seq (.seq (.reg none [⟨some 18, .mov (.t 0), none⟩,
  ⟨some 19, .slen (.t 18), none⟩,
  ⟨some 20, .bin .gt (.t 19) (.k (.int .i64 0)), none⟩])
 (.lv [0, 2, 4, 20] (.cond (.t 20) (.skip)
 (.exit 0))))
 (.lv [0, 2, 4] (.block 1 (.seq (.reg none [⟨some 21, .mov (.t 0), none⟩,
  ⟨some 22, .slen (.t 21), none⟩,
  ⟨some 23, .mn (.k (.int .i64 9)) (.t 22), none⟩,
  ⟨some 5, .mov (.t 23), none⟩])
 (.lv [0, 2, 4, 5] (.seq (.reg none [⟨some 6, .mov (.k (.int .u64 0)), none⟩,
  ⟨some 7, .mov (.k (.int .u64 1)), none⟩])
 (.lv [0, 2, 4, 5, 6, 7] (.seq (.seq (.reg none [⟨some 24, .mov (.t 0), none⟩,
  ⟨some 25, .mov (.t 5), none⟩,
  ⟨some 26, .scut (.t 24) none (some (.t 25)), none⟩,
  ⟨some 27, .s2b (.t 26), none⟩,
  ⟨some 28, .lenf (.t 27), none⟩,
  ⟨some 29, .mov (.k (.int .i64 0)), none⟩])
 (.lv [0, 2, 4, 5, 6, 7, 27, 28, 29] (.block 2 (.loop [0, 2, 4, 5, 6, 7, 27, 28, 29] (some (4, [])) b150_1))))
 k150_0)))))))
def k150_1 : IR :=
 .seq (.reg none [⟨some 59, .ld true 1 (.t 4), none⟩,
  ⟨none, .st 1 (.t 2) (.t 59), none⟩,
  ⟨some 3, .mov (.k (.bool true)), none⟩])
 (.ret)
def c150 : IR :=
 .seq (.reg none [⟨some 2, .alloc 94 [.nilsl 191 1], none⟩,
  ⟨some 3, .mov (.k (.bool false)), none⟩])
 (.lv [0, 2] (.seq (.seq (.reg none [⟨some 10, .mov (.t 0), none⟩,
  ⟨some 11, .bin .eq (.t 10) (.k (.str ⟨#[]⟩)), none⟩,
  ⟨some 12, .mov (.t 11), none⟩,
  ⟨some 13, .mov (.t 0), (some (12, false))⟩,
  ⟨some 14, .slen (.t 13), (some (12, false))⟩,
  ⟨some 15, .bin .gt (.t 14) (.k (.int .i64 2000)), (some (12, false))⟩,
  ⟨some 16, .pick (.t 12) (.k (.bool true)) (.t 15), none⟩])
 (.lv [0, 2, 16] (.cond (.t 16) (.lv [2] (.seq (.reg none [⟨some 17, .build [.nilsl 191 1] [], none⟩,
  ⟨none, .st 1 (.t 2) (.t 17), none⟩,
  ⟨some 3, .mov (.k (.bool false)), none⟩])
 (.ret)))
 (.skip))))
 (.lv [0, 2] (.seq (.reg none [⟨some 4, .alloc 94 [.nilsl 191 1], none⟩])
 (.lv [0, 2, 4] (.seq (.block 0 (.loop [0, 2, 4] (some (4, [])) b150_0))
 k150_1))))))
def i150 : IFn := ⟨1, 60, c150, [.c 2 true 1, .t 3], .pure⟩
def c151 : IR :=
 .seq (.reg none [⟨some 3, .box 94 1 (.t 1), none⟩,
  ⟨some 4, .alloc 96 [.nilsl 191 1, .bool false], none⟩])
 (.lv [0, 3, 4] (.seq (.reg (some [0, 1, 2, 3, 4, 5, 6, 7, 8]) [⟨some 5, .ld true 1 (.t 3), none⟩,
  ⟨some 6, .mov (.t 0), none⟩,
  ⟨some 7, .mov (.t 6), none⟩,
  ⟨some 8, .ld true 1 (.t 3), (some (7, true))⟩,
  ⟨some 9, .callP 154 [.t 8], (some (7, true))⟩,
  ⟨some 10, .not (.t 9), (some (7, true))⟩,
  ⟨some 11, .pick (.t 7) (.t 10) (.k (.bool false)), none⟩,
  ⟨some 12, .build [.nilsl 191 1, .bool false] [(0, 1, .t 5), (1, 1, .t 11)], none⟩,
  ⟨none, .st 2 (.t 4) (.t 12), none⟩])
 (.ret)))
def i151 : IFn := ⟨2, 13, c151, [.c 4 true 2], .pure⟩
def c153 : IR :=
 .seq (.reg none [⟨some 2, .box 96 2 (.t 0), none⟩,
  ⟨some 3, .box 96 2 (.t 1), none⟩,
  ⟨some 4, .alloc 96 [.nilsl 191 1, .bool false], none⟩,
  ⟨some 5, .alloc 96 [.nilsl 191 1, .bool false], none⟩,
  ⟨some 6, .mov (.k (.bool false)), none⟩])
 (.lv [2, 3, 4, 5] (.seq (.reg none [⟨some 13, .faddr 0 (.t 2), none⟩,
  ⟨some 14, .ld true 1 (.t 13), none⟩,
  ⟨some 15, .faddr 0 (.t 3), none⟩,
  ⟨some 16, .ld true 1 (.t 15), none⟩,
  ⟨some 17, .callP 157 [.t 14, .t 16], none⟩,
  ⟨some 12, .mov (.t 17), none⟩,
  ⟨some 18, .ext (.t 12) 0, none⟩,
  ⟨some 19, .ext (.t 12) 1, none⟩,
  ⟨some 20, .ext (.t 12) 2, none⟩,
  ⟨some 7, .alloc 94 [.nilsl 191 1], none⟩,
  ⟨some 8, .alloc 94 [.nilsl 191 1], none⟩,
  ⟨none, .st 1 (.t 7) (.t 18), none⟩,
  ⟨none, .st 1 (.t 8) (.t 19), none⟩,
  ⟨some 9, .mov (.t 20), none⟩])
 (.lv [2, 3, 4, 5, 7, 8, 9] (.seq (.seq (.reg none [⟨some 21, .mov (.t 9), none⟩,
  ⟨some 22, .not (.t 21), none⟩])
 (.lv [2, 3, 4, 5, 7, 8, 22] (.cond (.t 22) (.lv [4, 5] (.seq (.reg none [⟨some 23, .build [.nilsl 191 1, .bool false] [], none⟩,
  ⟨some 24, .build [.nilsl 191 1, .bool false] [], none⟩,
  ⟨none, .st 2 (.t 4) (.t 23), none⟩,
  ⟨none, .st 2 (.t 5) (.t 24), none⟩,
  ⟨some 6, .mov (.k (.bool false)), none⟩])
 (.ret)))
 (.skip))))
 (.lv [2, 3, 4, 5, 7, 8] (.seq (.seq (.reg none [⟨some 25, .faddr 1 (.t 2), none⟩,
  ⟨some 26, .ld false 1 (.t 25), none⟩,
  ⟨some 27, .faddr 1 (.t 3), none⟩,
  ⟨some 28, .ld false 1 (.t 27), none⟩,
  ⟨some 29, .binb .eq (.t 26) (.t 28), none⟩,
  ⟨some 30, .mov (.t 29), none⟩,
  ⟨some 31, .ld true 1 (.t 8), (some (30, false))⟩,
  ⟨some 32, .callR 154 [.t 31], (some (30, false))⟩,
  ⟨some 33, .pick (.t 30) (.k (.bool true)) (.t 32), none⟩])
 (.lv [2, 3, 4, 5, 7, 8, 33] (.cond (.t 33) (.lv [2, 3, 4, 5, 7, 8] (.seq (.reg (some [0, 1, 2, 3, 4, 5, 7, 8, 9, 6, 10, 11, 12, 13]) [⟨some 34, .faddr 1 (.t 2), none⟩,
  ⟨some 35, .ld false 1 (.t 34), none⟩,
  ⟨some 36, .faddr 1 (.t 3), none⟩,
  ⟨some 37, .ld false 1 (.t 36), none⟩,
  ⟨some 38, .binb .ne (.t 35) (.t 37), none⟩,
  ⟨some 39, .ld true 1 (.t 7), none⟩,
  ⟨some 41, .faddr 1 (.t 3), none⟩,
  ⟨some 42, .ld false 1 (.t 41), none⟩,
  ⟨some 43, .ld true 1 (.t 8), none⟩,
  ⟨some 40, .callF 151 [.t 38, .t 39], none⟩,
  ⟨some 44, .callF 151 [.t 42, .t 43], none⟩,
  ⟨none, .st 2 (.t 4) (.t 40), none⟩,
  ⟨none, .st 2 (.t 5) (.t 44), none⟩,
  ⟨some 6, .mov (.k (.bool true)), none⟩])
 (.ret)))
 (.skip))))
 (.lv [3, 4, 5, 7, 8] (.seq (.reg none [⟨some 46, .faddr 0 (.t 3), none⟩,
  ⟨some 47, .ld true 1 (.t 46), none⟩,
  ⟨some 48, .ld true 1 (.t 8), none⟩,
  ⟨some 49, .callF 177 [.t 47, .t 48], none⟩,
  ⟨some 45, .mov (.t 49), none⟩,
  ⟨some 50, .ext (.t 45) 0, none⟩,
  ⟨some 51, .ext (.t 45) 1, none⟩,
  ⟨some 10, .alloc 94 [.nilsl 191 1], none⟩,
  ⟨none, .st 1 (.t 10) (.t 50), none⟩,
  ⟨some 11, .mov (.t 51), none⟩])
 (.lv [3, 4, 5, 7, 10] (.seq (.reg (some [0, 1, 4, 5, 6, 2, 3, 7, 8, 9, 10]) [⟨some 52, .ld true 1 (.t 7), none⟩,
  ⟨some 53, .callP 149 [.k (.int .u64 1)], none⟩,
  ⟨some 56, .faddr 1 (.t 3), none⟩,
  ⟨some 57, .ld false 1 (.t 56), none⟩,
  ⟨some 58, .ld true 1 (.t 10), none⟩,
  ⟨some 54, .callF 176 [.t 52, .t 53], none⟩,
  ⟨some 55, .callP 151 [.k (.bool true), .t 54], none⟩,
  ⟨some 59, .callF 151 [.t 57, .t 58], none⟩,
  ⟨none, .st 2 (.t 4) (.t 55), none⟩,
  ⟨none, .st 2 (.t 5) (.t 59), none⟩,
  ⟨some 6, .mov (.k (.bool true)), none⟩])
 (.ret)))))))))))
def i153 : IFn := ⟨2, 60, c153, [.c 4 true 2, .c 5 true 2, .t 6], .pure⟩
def c154 : IR :=
 .seq (.reg none [⟨some 1, .box 94 1 (.t 0), none⟩,
  ⟨some 2, .mov (.k (.bool false)), none⟩])
 (.lv [1] (.seq (.reg none [⟨some 3, .faddr 0 (.t 1), none⟩,
  ⟨some 4, .ld false 1 (.t 3), none⟩,
  ⟨some 5, .lenf (.t 4), none⟩,
  ⟨some 6, .bin .eq (.t 5) (.k (.int .i64 0)), none⟩,
  ⟨some 2, .mov (.t 6), none⟩])
 (.ret)))
def i154 : IFn := ⟨1, 7, c154, [.t 2], .pure⟩
def b155_1 : IR :=
 .seq (.seq (.reg none [⟨some 29, .mov (.t 7), none⟩,
  ⟨some 30, .bin .ne (.t 29) (.k (.int .u64 0)), none⟩])
 (.lv [4, 5, 7, 30] (.cond (.t 30) (.skip)
 (.exit 2))))
 (.lv [4, 5, 7] (.block 3 (.reg (some [0, 1, 2, 3, 4, 5]) [⟨some 31, .mov (.t 7), none⟩,
  ⟨some 32, .mov (.t 5), none⟩,
  ⟨some 33, .mov (.t 7), none⟩,
  ⟨some 34, .bin .rem (.t 32) (.t 33), none⟩,
  ⟨some 5, .mov (.t 31), none⟩,
  ⟨some 7, .mov (.t 34), none⟩])))
def k155_0 : IR :=
 .seq (.reg none [⟨some 35, .mov (.t 5), none⟩,
  ⟨some 36, .callP 149 [.t 35], none⟩,
  ⟨none, .st 1 (.t 4) (.t 36), none⟩])
 (.ret)
def k155_1 : IR :=
 .seq (.reg none [⟨some 38, .ld true 1 (.t 2), none⟩,
  ⟨some 39, .ld true 1 (.t 3), none⟩,
  ⟨some 40, .callF 157 [.t 38, .t 39], none⟩,
  ⟨some 37, .mov (.t 40), none⟩,
  ⟨some 41, .ext (.t 37) 0, none⟩,
  ⟨some 42, .ext (.t 37) 1, none⟩,
  ⟨some 43, .ext (.t 37) 2, none⟩,
  ⟨some 9, .alloc 94 [.nilsl 191 1], none⟩,
  ⟨some 10, .alloc 94 [.nilsl 191 1], none⟩,
  ⟨none, .st 1 (.t 9) (.t 41), none⟩,
  ⟨none, .st 1 (.t 10) (.t 42), none⟩,
  ⟨some 11, .mov (.t 43), none⟩])
 (.lv [2, 3, 4, 10] (.reg (some [0, 1, 2, 3]) [⟨some 44, .ld true 1 (.t 3), none⟩,
  ⟨some 45, .ld true 1 (.t 10), none⟩,
  ⟨none, .sta [10] 1 (.t 2) (.t 44), none⟩,
  ⟨none, .st 1 (.t 3) (.t 45), none⟩]))
def b155_0 : IR :=
 .seq (.seq (.reg none [⟨some 12, .ld true 1 (.t 3), none⟩,
  ⟨some 13, .callR 154 [.t 12], none⟩,
  ⟨some 14, .not (.t 13), none⟩])
 (.lv [2, 3, 4, 14] (.cond (.t 14) (.skip)
 (.exit 0))))
 (.lv [2, 3, 4] (.block 1 (.seq (.reg none [⟨some 16, .ld true 1 (.t 2), none⟩,
  ⟨some 17, .callR 178 [.t 16], none⟩,
  ⟨some 15, .mov (.t 17), none⟩,
  ⟨some 18, .ext (.t 15) 0, none⟩,
  ⟨some 19, .ext (.t 15) 1, none⟩,
  ⟨some 5, .mov (.t 18), none⟩,
  ⟨some 6, .mov (.t 19), none⟩])
 (.lv [2, 3, 4, 5, 6] (.seq (.reg none [⟨some 21, .ld true 1 (.t 3), none⟩,
  ⟨some 22, .callR 178 [.t 21], none⟩,
  ⟨some 20, .mov (.t 22), none⟩,
  ⟨some 23, .ext (.t 20) 0, none⟩,
  ⟨some 24, .ext (.t 20) 1, none⟩,
  ⟨some 7, .mov (.t 23), none⟩,
  ⟨some 8, .mov (.t 24), none⟩])
 (.lv [2, 3, 4, 5, 6, 7, 8] (.seq (.seq (.reg none [⟨some 25, .mov (.t 6), none⟩,
  ⟨some 26, .mov (.t 25), none⟩,
  ⟨some 27, .mov (.t 8), (some (26, true))⟩,
  ⟨some 28, .pick (.t 26) (.t 27) (.k (.bool false)), none⟩])
 (.lv [2, 3, 4, 5, 7, 28] (.cond (.t 28) (.lv [4, 5, 7] (.seq (.block 2 (.loop [4, 5, 7] (some (4, [])) b155_1))
 k155_0))
 (.skip))))
 k155_1)))))))
def k155_2 : IR :=
 .seq (.reg none [⟨some 46, .ld true 1 (.t 2), none⟩,
  ⟨none, .st 1 (.t 4) (.t 46), none⟩])
 (.ret)
def c155 : IR :=
 .seq (.reg none [⟨some 2, .box 94 1 (.t 0), none⟩,
  ⟨some 3, .box 94 1 (.t 1), none⟩,
  ⟨some 4, .alloc 94 [.nilsl 191 1], none⟩])
 (.lv [2, 3, 4] (.seq (.block 0 (.loop [2, 3, 4] (some (4, [])) b155_0))
 k155_2))
def i155 : IFn := ⟨2, 47, c155, [.c 4 true 1], .pure⟩
def c156 : IR :=
 .seq (.reg none [⟨some 1, .box 96 2 (.t 0), none⟩,
  ⟨some 2, .alloc 94 [.nilsl 191 1], none⟩])
 (.lv [1, 2] (.seq (.reg none [⟨some 3, .faddr 0 (.t 1), none⟩,
  ⟨some 4, .ld true 1 (.t 3), none⟩,
  ⟨none, .st 1 (.t 2) (.t 4), none⟩])
 (.ret)))
def i156 : IFn := ⟨1, 5, c156, [.c 2 true 1], .pure⟩
def c157 : IR :=
 .seq (.reg none [⟨some 2, .box 94 1 (.t 0), none⟩,
  ⟨some 3, .box 94 1 (.t 1), none⟩,
  ⟨some 4, .alloc 94 [.nilsl 191 1], none⟩,
  ⟨some 5, .alloc 94 [.nilsl 191 1], none⟩,
  ⟨some 6, .mov (.k (.bool false)), none⟩])
 (.lv [2, 3, 4, 5] (.seq (.block 0 (.seq (.reg none [⟨some 12, .faddr 0 (.t 3), none⟩,
  ⟨some 13, .ld false 1 (.t 12), none⟩,
  ⟨some 14, .lenf (.t 13), none⟩,
  ⟨some 15, .bin .eq (.t 14) (.k (.int .i64 0)), none⟩,
  ⟨some 11, .mov (.t 15), none⟩])
 (.lv [2, 3, 4, 5, 11] (.cond (.t 11) (.lv [4, 5] (.seq (.reg none [⟨some 16, .build [.nilsl 191 1] [], none⟩,
  ⟨some 17, .build [.nilsl 191 1] [], none⟩,
  ⟨none, .st 1 (.t 4) (.t 16), none⟩,
  ⟨none, .st 1 (.t 5) (.t 17), none⟩,
  ⟨some 6, .mov (.k (.bool false)), none⟩])
 (.ret)))
 (.lv [2, 3, 4, 5] (.seq (.reg none [⟨some 19, .ld true 1 (.t 2), none⟩,
  ⟨some 20, .ld true 1 (.t 3), none⟩,
  ⟨some 21, .callP 179 [.t 19, .t 20], none⟩,
  ⟨some 22, .bin .lt (.t 21) (.k (.int .i64 0)), none⟩,
  ⟨some 18, .mov (.t 22), none⟩])
 (.lv [2, 3, 4, 5, 18] (.cond (.t 18) (.lv [2, 4, 5] (.seq (.reg (some [0, 1, 2, 3, 4]) [⟨some 23, .build [.nilsl 191 1] [], none⟩,
  ⟨some 24, .ld true 1 (.t 2), none⟩,
  ⟨none, .sta [2] 1 (.t 4) (.t 23), none⟩,
  ⟨none, .st 1 (.t 5) (.t 24), none⟩,
  ⟨some 6, .mov (.k (.bool true)), none⟩])
 (.ret)))
 (.lv [2, 3, 4, 5] (.seq (.reg none [⟨some 26, .faddr 0 (.t 3), none⟩,
  ⟨some 27, .ld false 1 (.t 26), none⟩,
  ⟨some 28, .lenf (.t 27), none⟩,
  ⟨some 29, .bin .eq (.t 28) (.k (.int .i64 1)), none⟩,
  ⟨some 25, .mov (.t 29), none⟩])
 (.lv [2, 3, 4, 5, 25] (.cond (.t 25) (.lv [2, 3, 4, 5] (.seq (.reg (some [0, 1, 2, 3, 4, 5, 6, 7, 8, 9, 10, 11]) [⟨some 31, .ld true 1 (.t 2), none⟩,
  ⟨some 32, .faddr 0 (.t 3), none⟩,
  ⟨some 33, .ld false 1 (.t 32), none⟩,
  ⟨some 34, .iaddrf 1 (.t 33) (.k (.int .i64 0)), none⟩,
  ⟨some 35, .ldf false 1 (.t 34), none⟩,
  ⟨some 36, .callP 169 [.t 31, .t 35], none⟩,
  ⟨some 30, .mov (.t 36), none⟩,
  ⟨some 37, .ext (.t 30) 0, none⟩,
  ⟨some 38, .ext (.t 30) 1, none⟩,
  ⟨some 7, .alloc 94 [.nilsl 191 1], none⟩,
  ⟨none, .st 1 (.t 7) (.t 37), none⟩,
  ⟨some 8, .mov (.t 38), none⟩])
 (.lv [4, 5, 7, 8] (.seq (.reg (some [0, 1, 2, 3, 4, 5, 6]) [⟨some 39, .ld true 1 (.t 7), none⟩,
  ⟨some 40, .mov (.t 8), none⟩,
  ⟨some 41, .conv .u64 (.t 40), none⟩,
  ⟨some 42, .callP 149 [.t 41], none⟩,
  ⟨none, .st 1 (.t 4) (.t 39), none⟩,
  ⟨none, .st 1 (.t 5) (.t 42), none⟩,
  ⟨some 6, .mov (.k (.bool true)), none⟩])
 (.ret)))))
 (.skip)))))))))))))
 (.lv [2, 3, 4, 5] (.seq (.reg none [⟨some 44, .ld true 1 (.t 2), none⟩,
  ⟨some 45, .ld true 1 (.t 3), none⟩,
  ⟨some 46, .callP 180 [.t 44, .t 45], none⟩,
  ⟨some 43, .mov (.t 46), none⟩,
  ⟨some 47, .ext (.t 43) 0, none⟩,
  ⟨some 48, .ext (.t 43) 1, none⟩,
  ⟨some 9, .alloc 94 [.nilsl 191 1], none⟩,
  ⟨some 10, .alloc 94 [.nilsl 191 1], none⟩,
  ⟨none, .st 1 (.t 9) (.t 47), none⟩,
  ⟨none, .st 1 (.t 10) (.t 48), none⟩])
 (.lv [4, 5, 9, 10] (.seq (.reg (some [0, 1, 2, 3, 4]) [⟨some 49, .ld true 1 (.t 9), none⟩,
  ⟨some 50, .ld true 1 (.t 10), none⟩,
  ⟨none, .sta [10] 1 (.t 4) (.t 49), none⟩,
  ⟨none, .st 1 (.t 5) (.t 50), none⟩,
  ⟨some 6, .mov (.k (.bool true)), none⟩])
 (.ret)))))))
def i157 : IFn := ⟨2, 51, c157, [.c 4 true 1, .c 5 true 1, .t 6], .pure⟩
def b158_1 : IR :=
 .seq (.reg none [⟨some 32, .bin .lt (.t 31) (.t 30), none⟩])
 (.lv [3, 4, 5, 6, 7, 8, 21, 22, 23, 29, 30, 31, 32] (.seq (.cond (.t 32) (.skip)
 (.exit 2))
 (.lv [3, 4, 5, 6, 7, 8, 21, 22, 23, 29, 30, 31] (.seq (.block 3 (.seq (.reg none [⟨some 33, .mov (.t 31), none⟩,
  ⟨some 34, .iaddrf 1 (.t 29) (.t 31), none⟩,
  ⟨some 35, .ldf false 1 (.t 34), none⟩,
  ⟨some 9, .mov (.t 33), none⟩,
  ⟨some 10, .mov (.t 35), none⟩])
 (.lv [3, 4, 5, 6, 7, 8, 9, 10, 21, 22, 23, 29, 30, 31] (.seq (.reg none [⟨some 36, .mov (.t 7), none⟩,
  ⟨some 37, .conv .u64 (.t 36), none⟩,
  ⟨some 38, .mov (.t 10), none⟩,
  ⟨some 39, .conv .u64 (.t 38), none⟩,
  ⟨some 40, .bin .mul (.t 37) (.t 39), none⟩,
  ⟨some 41, .mov (.t 5), none⟩,
  ⟨some 42, .mov (.t 6), none⟩,
  ⟨some 43, .mov (.t 9), none⟩,
  ⟨some 44, .bin .add (.t 42) (.t 43), none⟩,
  ⟨some 45, .iaddr 1 (.t 41) (.t 44), none⟩,
  ⟨some 46, .ld false 1 (.t 45), none⟩,
  ⟨some 47, .conv .u64 (.t 46), none⟩,
  ⟨some 48, .bin .add (.t 40) (.t 47), none⟩,
  ⟨some 49, .mov (.t 8), none⟩,
  ⟨some 50, .bin .add (.t 48) (.t 49), none⟩,
  ⟨some 11, .mov (.t 50), none⟩])
 (.lv [3, 4, 5, 6, 7, 9, 11, 21, 22, 23, 29, 30, 31] (.reg none [⟨some 51, .mov (.t 5), none⟩,
  ⟨some 52, .mov (.t 6), none⟩,
  ⟨some 53, .mov (.t 9), none⟩,
  ⟨some 54, .bin .add (.t 52) (.t 53), none⟩,
  ⟨some 55, .mov (.t 11), none⟩,
  ⟨some 56, .conv .u32 (.t 55), none⟩,
  ⟨some 57, .mov (.t 11), none⟩,
  ⟨some 58, .bin .shr (.t 57) (.k (.int .u64 32)), none⟩,
  ⟨some 59, .iaddr 1 (.t 51) (.t 54), none⟩,
  ⟨none, .st 1 (.t 59) (.t 56), none⟩,
  ⟨some 8, .mov (.t 58), none⟩]))))))
 (.lv [3, 4, 5, 6, 7, 8, 21, 22, 23, 29, 30, 31] (.reg none [⟨some 60, .bin .add (.t 31) (.k (.int .i64 1)), none⟩,
  ⟨some 31, .mov (.t 60), none⟩]))))))
def k158_0 : IR :=
 .reg none [⟨some 61, .mov (.t 5), none⟩,
  ⟨some 62, .mov (.t 6), none⟩,
  ⟨some 63, .faddr 0 (.t 3), none⟩,
  ⟨some 64, .ld false 1 (.t 63), none⟩,
  ⟨some 65, .lenf (.t 64), none⟩,
  ⟨some 66, .bin .add (.t 62) (.t 65), none⟩,
  ⟨some 67, .mov (.t 8), none⟩,
  ⟨some 68, .conv .u32 (.t 67), none⟩,
  ⟨some 69, .iaddr 1 (.t 61) (.t 66), none⟩,
  ⟨none, .st 1 (.t 69) (.t 68), none⟩]
def k158_1 : IR :=
 .reg none [⟨some 70, .bin .add (.t 23) (.k (.int .i64 1)), none⟩,
  ⟨some 23, .mov (.t 70), none⟩]
def b158_0 : IR :=
 .seq (.reg none [⟨some 24, .bin .lt (.t 23) (.t 22), none⟩])
 (.lv [3, 4, 5, 21, 22, 23, 24] (.seq (.cond (.t 24) (.skip)
 (.exit 0))
 (.lv [3, 4, 5, 21, 22, 23] (.seq (.block 1 (.seq (.reg none [⟨some 25, .mov (.t 23), none⟩,
  ⟨some 26, .iaddrf 1 (.t 21) (.t 23), none⟩,
  ⟨some 27, .ldf false 1 (.t 26), none⟩,
  ⟨some 6, .mov (.t 25), none⟩,
  ⟨some 7, .mov (.t 27), none⟩])
 (.lv [3, 4, 5, 6, 7, 21, 22, 23] (.seq (.reg none [⟨some 8, .mov (.k (.int .u64 0)), none⟩])
 (.lv [3, 4, 5, 6, 7, 8, 21, 22, 23] (.seq (.seq (.reg none [⟨some 28, .faddr 0 (.t 3), none⟩,
  ⟨some 29, .ld false 1 (.t 28), none⟩,
  ⟨some 30, .lenf (.t 29), none⟩,
  ⟨some 31, .mov (.k (.int .i64 0)), none⟩])
 (.lv [3, 4, 5, 6, 7, 8, 21, 22, 23, 29, 30, 31] (.block 2 (.loop [3, 4, 5, 6, 7, 8, 21, 22, 23, 29, 30, 31] (some (5, [])) b158_1))))
 k158_0))))))
 k158_1))))
def k158_2 : IR :=
 .seq (.reg none [⟨some 71, .mov (.t 5), none⟩,
  ⟨some 72, .callF 175 [.t 71], none⟩,
  ⟨none, .st 1 (.t 4) (.t 72), none⟩])
 (.ret)
def c158 : IR :=
 .seq (.reg none [⟨some 2, .box 94 1 (.t 0), none⟩,
  ⟨some 3, .box 94 1 (.t 1), none⟩,
  ⟨some 4, .alloc 94 [.nilsl 191 1], none⟩])
 (.lv [2, 3, 4] (.seq (.reg none [⟨some 12, .faddr 0 (.t 2), none⟩,
  ⟨some 13, .ld false 1 (.t 12), none⟩,
  ⟨some 14, .lenf (.t 13), none⟩,
  ⟨some 15, .faddr 0 (.t 3), none⟩,
  ⟨some 16, .ld false 1 (.t 15), none⟩,
  ⟨some 17, .lenf (.t 16), none⟩,
  ⟨some 18, .bin .add (.t 14) (.t 17), none⟩,
  ⟨some 19, .mk 191 4 [.int .u32 0] (.t 18), none⟩,
  ⟨some 5, .mov (.t 19), none⟩])
 (.lv [2, 3, 4, 5] (.seq (.seq (.reg none [⟨some 20, .faddr 0 (.t 2), none⟩,
  ⟨some 21, .ld false 1 (.t 20), none⟩,
  ⟨some 22, .lenf (.t 21), none⟩,
  ⟨some 23, .mov (.k (.int .i64 0)), none⟩])
 (.lv [3, 4, 5, 21, 22, 23] (.block 0 (.loop [3, 4, 5, 21, 22, 23] (some (5, [])) b158_0))))
 k158_2))))
def i158 : IFn := ⟨2, 73, c158, [.c 4 true 1], .pure⟩
def c159 : IR :=
 .seq (.reg none [⟨some 2, .box 96 2 (.t 0), none⟩,
  ⟨some 3, .box 96 2 (.t 1), none⟩,
  ⟨some 4, .alloc 96 [.nilsl 191 1, .bool false], none⟩])
 (.lv [2, 3, 4] (.seq (.seq (.reg none [⟨some 9, .faddr 1 (.t 2), none⟩,
  ⟨some 10, .ld false 1 (.t 9), none⟩,
  ⟨some 11, .faddr 1 (.t 3), none⟩,
  ⟨some 12, .ld false 1 (.t 11), none⟩,
  ⟨some 13, .binb .eq (.t 10) (.t 12), none⟩])
 (.lv [2, 3, 4, 13] (.cond (.t 13) (.lv [2, 3, 4] (.seq (.reg (some [0, 1, 2, 3, 4, 5, 6, 7, 8]) [⟨some 14, .faddr 1 (.t 2), none⟩,
  ⟨some 15, .ld false 1 (.t 14), none⟩,
  ⟨some 16, .faddr 0 (.t 2), none⟩,
  ⟨some 17, .ld true 1 (.t 16), none⟩,
  ⟨some 18, .faddr 0 (.t 3), none⟩,
  ⟨some 19, .ld true 1 (.t 18), none⟩,
  ⟨some 20, .callP 176 [.t 17, .t 19], none⟩,
  ⟨some 21, .callP 151 [.t 15, .t 20], none⟩,
  ⟨none, .st 2 (.t 4) (.t 21), none⟩])
 (.ret)))
 (.skip))))
 (.lv [2, 3, 4] (.seq (.seq (.reg none [⟨some 23, .faddr 0 (.t 2), none⟩,
  ⟨some 24, .ld true 1 (.t 23), none⟩,
  ⟨some 25, .faddr 0 (.t 3), none⟩,
  ⟨some 26, .ld true 1 (.t 25), none⟩,
  ⟨some 27, .callP 177 [.t 24, .t 26], none⟩,
  ⟨some 22, .mov (.t 27), none⟩,
  ⟨some 28, .ext (.t 22) 0, none⟩,
  ⟨some 29, .ext (.t 22) 1, none⟩,
  ⟨some 5, .alloc 94 [.nilsl 191 1], none⟩,
  ⟨none, .st 1 (.t 5) (.t 28), none⟩,
  ⟨some 6, .mov (.t 29), none⟩])
 (.lv [2, 3, 4, 5, 6] (.seq (.reg none [⟨some 30, .mov (.t 6), none⟩])
 (.lv [2, 3, 4, 5, 30] (.cond (.t 30) (.lv [2, 4, 5] (.seq (.reg none [⟨some 31, .faddr 1 (.t 2), none⟩,
  ⟨some 32, .ld false 1 (.t 31), none⟩,
  ⟨some 33, .ld true 1 (.t 5), none⟩,
  ⟨some 34, .callF 151 [.t 32, .t 33], none⟩,
  ⟨none, .st 2 (.t 4) (.t 34), none⟩])
 (.ret)))
 (.skip))))))
 (.lv [2, 3, 4] (.seq (.reg none [⟨some 36, .faddr 0 (.t 3), none⟩,
  ⟨some 37, .ld true 1 (.t 36), none⟩,
  ⟨some 38, .faddr 0 (.t 2), none⟩,
  ⟨some 39, .ld true 1 (.t 38), none⟩,
  ⟨some 40, .callP 177 [.t 37, .t 39], none⟩,
  ⟨some 35, .mov (.t 40), none⟩,
  ⟨some 41, .ext (.t 35) 0, none⟩,
  ⟨some 42, .ext (.t 35) 1, none⟩,
  ⟨some 7, .alloc 94 [.nilsl 191 1], none⟩,
  ⟨none, .st 1 (.t 7) (.t 41), none⟩,
  ⟨some 8, .mov (.t 42), none⟩])
 (.lv [3, 4, 7] (.seq (.reg none [⟨some 43, .faddr 1 (.t 3), none⟩,
  ⟨some 44, .ld false 1 (.t 43), none⟩,
  ⟨some 45, .ld true 1 (.t 7), none⟩,
  ⟨some 46, .callF 151 [.t 44, .t 45], none⟩,
  ⟨none, .st 2 (.t 4) (.t 46), none⟩])
 (.ret)))))))))
def i159 : IFn := ⟨2, 47, c159, [.c 4 true 2], .pure⟩
def c160 : IR :=
 .seq (.reg none [⟨some 2, .box 72 3 (.t 0), none⟩,
  ⟨some 3, .box 72 3 (.t 1), none⟩,
  ⟨some 4, .alloc 72 [.bool false, .str ⟨#[]⟩, .str ⟨#[]⟩], none⟩])
 (.lv [2, 3, 4] (.seq (.reg (some [0, 1, 2, 3, 4, 5, 6, 7, 8, 9, 10, 11, 12, 13, 14, 15, 16]) [⟨some 8, .ld true 3 (.t 2), none⟩,
  ⟨some 9, .callP 165 [.t 8], none⟩,
  ⟨some 10, .ld true 3 (.t 3), none⟩,
  ⟨some 11, .callP 165 [.t 10], none⟩,
  ⟨some 12, .callP 164 [.t 9, .t 11], none⟩,
  ⟨some 13, .ld true 3 (.t 2), none⟩,
  ⟨some 14, .callP 166 [.t 13], none⟩,
  ⟨some 15, .ld true 3 (.t 3), none⟩,
  ⟨some 16, .callP 166 [.t 15], none⟩,
  ⟨some 17, .callP 164 [.t 14, .t 16], none⟩,
  ⟨some 18, .callP 163 [.t 12, .t 17], none⟩,
  ⟨some 7, .mov (.t 18), none⟩,
  ⟨some 19, .ext (.t 7) 0, none⟩,
  ⟨some 20, .ext (.t 7) 1, none⟩,
  ⟨some 5, .alloc 72 [.bool false, .str ⟨#[]⟩, .str ⟨#[]⟩], none⟩,
  ⟨none, .st 3 (.t 5) (.t 19), none⟩,
  ⟨some 6, .mov (.t 20), none⟩])
 (.lv [4, 5] (.seq (.reg none [⟨some 21, .ld true 3 (.t 5), none⟩,
  ⟨none, .st 3 (.t 4) (.t 21), none⟩])
 (.ret)))))
def i160 : IFn := ⟨2, 22, c160, [.c 4 true 3], .pure⟩
def c161 : IR :=
 .seq (.reg none [⟨some 1, .box 164 2 (.t 0), none⟩,
  ⟨some 2, .alloc 72 [.bool false, .str ⟨#[]⟩, .str ⟨#[]⟩], none⟩])
 (.lv [1, 2] (.seq (.reg none [⟨some 3, .faddr 0 (.t 1), none⟩,
  ⟨some 4, .ld false 1 (.t 3), none⟩,
  ⟨some 5, .faddr 1 (.t 1), none⟩,
  ⟨some 6, .ld false 1 (.t 5), none⟩,
  ⟨some 7, .build [.bool false, .str ⟨#[]⟩, .str ⟨#[]⟩] [(0, 1, .t 4), (1, 1, .t 6), (2, 1, .k (.str ⟨#[49]⟩))], none⟩,
  ⟨none, .st 3 (.t 2) (.t 7), none⟩])
 (.ret)))
def i161 : IFn := ⟨1, 8, c161, [.c 2 true 3], .pure⟩
def c162 : IR :=
 .rsv true 164 2 (.seq (.reg none [⟨some 1, .box 72 3 (.t 0), none⟩,
  ⟨some 2, .alloc 164 [.bool false, .str ⟨#[]⟩], none⟩])
 (.lv [1, 2] (.seq (.reg (some [0, 1, 2, 3, 4, 5, 6, 7, 9, 8, 10, 11]) [⟨some 6, .ldb true 3 (.t 1), none⟩,
  ⟨some 7, .callP 165 [.t 6], none⟩,
  ⟨some 8, .ldb true 3 (.t 1), none⟩,
  ⟨some 9, .callP 166 [.t 8], none⟩,
  ⟨some 10, .callP 181 [.t 7, .t 9], none⟩,
  ⟨some 5, .mov (.t 10), none⟩,
  ⟨some 11, .ext (.t 5) 0, none⟩,
  ⟨some 12, .ext (.t 5) 1, none⟩,
  ⟨some 4, .allocA [] 0 164 [.bool false, .str ⟨#[]⟩], none⟩,
  ⟨some 3, .alloc 164 [.bool false, .str ⟨#[]⟩], none⟩,
  ⟨none, .st 2 (.t 3) (.t 11), none⟩,
  ⟨none, .st 2 (.t 4) (.t 12), none⟩])
 (.lv [2, 3] (.seq (.reg none [⟨some 13, .ld true 2 (.t 3), none⟩,
  ⟨none, .st 2 (.t 2) (.t 13), none⟩])
 (.ret))))))
def i162 : IFn := ⟨1, 14, c162, [.c 2 true 2], .pure⟩
def c163 : IR :=
 .seq (.reg none [⟨some 2, .box 164 2 (.t 0), none⟩,
  ⟨some 3, .box 164 2 (.t 1), none⟩,
  ⟨some 4, .alloc 72 [.bool false, .str ⟨#[]⟩, .str ⟨#[]⟩], none⟩,
  ⟨some 5, .mov (.k (.bool false)), none⟩])
 (.lv [2, 3, 4] (.seq (.seq (.reg none [⟨some 11, .faddr 1 (.t 3), none⟩,
  ⟨some 12, .ld false 1 (.t 11), none⟩,
  ⟨some 13, .bin .eq (.t 12) (.k (.str ⟨#[48]⟩)), none⟩])
 (.lv [2, 3, 4, 13] (.cond (.t 13) (.lv [4] (.seq (.reg none [⟨some 14, .callP 115 [], none⟩,
  ⟨none, .st 3 (.t 4) (.t 14), none⟩,
  ⟨some 5, .mov (.k (.bool false)), none⟩])
 (.ret)))
 (.skip))))
 (.lv [2, 3, 4] (.seq (.reg none [⟨some 15, .faddr 1 (.t 2), none⟩,
  ⟨some 16, .ld false 1 (.t 15), none⟩,
  ⟨some 17, .faddr 1 (.t 3), none⟩,
  ⟨some 18, .ld false 1 (.t 17), none⟩,
  ⟨some 19, .callP 147 [.t 16, .t 18], none⟩,
  ⟨some 6, .mov (.t 19), none⟩])
 (.lv [2, 3, 4, 6] (.seq (.reg none [⟨some 21, .faddr 1 (.t 2), none⟩,
  ⟨some 22, .ld false 1 (.t 21), none⟩,
  ⟨some 23, .mov (.t 6), none⟩,
  ⟨some 24, .callP 174 [.t 22, .t 23], none⟩,
  ⟨some 20, .mov (.t 24), none⟩,
  ⟨some 25, .ext (.t 20) 0, none⟩,
  ⟨some 26, .ext (.t 20) 1, none⟩,
  ⟨some 7, .mov (.t 25), none⟩,
  ⟨some 8, .mov (.t 26), none⟩])
 (.lv [2, 3, 4, 6, 7] (.seq (.reg none [⟨some 28, .faddr 1 (.t 3), none⟩,
  ⟨some 29, .ld false 1 (.t 28), none⟩,
  ⟨some 30, .mov (.t 6), none⟩,
  ⟨some 31, .callP 174 [.t 29, .t 30], none⟩,
  ⟨some 27, .mov (.t 31), none⟩,
  ⟨some 32, .ext (.t 27) 0, none⟩,
  ⟨some 33, .ext (.t 27) 1, none⟩,
  ⟨some 9, .mov (.t 32), none⟩,
  ⟨some 10, .mov (.t 33), none⟩])
 (.lv [2, 3, 4, 7, 9] (.seq (.reg none [⟨some 34, .faddr 0 (.t 2), none⟩,
  ⟨some 35, .ld false 1 (.t 34), none⟩,
  ⟨some 36, .faddr 0 (.t 3), none⟩,
  ⟨some 37, .ld false 1 (.t 36), none⟩,
  ⟨some 38, .binb .ne (.t 35) (.t 37), none⟩,
  ⟨some 39, .mov (.t 38), none⟩,
  ⟨some 40, .mov (.t 7), (some (39, true))⟩,
  ⟨some 41, .bin .ne (.t 40) (.k (.str ⟨#[48]⟩)), (some (39, true))⟩,
  ⟨some 42, .pick (.t 39) (.t 41) (.k (.bool false)), none⟩,
  ⟨some 43, .mov (.t 7), none⟩,
  ⟨some 44, .mov (.t 9), none⟩,
  ⟨some 45, .build [.bool false, .str ⟨#[]⟩, .str ⟨#[]⟩] [(0, 1, .t 42), (1, 1, .t 43), (2, 1, .t 44)], none⟩,
  ⟨none, .st 3 (.t 4) (.t 45), none⟩,
  ⟨some 5, .mov (.k (.bool true)), none⟩])
 (.ret)))))))))))
def i163 : IFn := ⟨2, 46, c163, [.c 4 true 3, .t 5], .pure⟩
def c164 : IR :=
 .seq (.reg none [⟨some 2, .box 164 2 (.t 0), none⟩,
  ⟨some 3, .box 164 2 (.t 1), none⟩,
  ⟨some 4, .alloc 164 [.bool false, .str ⟨#[]⟩], none⟩])
 (.lv [2, 3, 4] (.seq (.reg (some [0, 1, 2, 3, 4, 5, 6, 7, 8, 9, 10, 11]) [⟨some 5, .faddr 0 (.t 2), none⟩,
  ⟨some 6, .ld false 1 (.t 5), none⟩,
  ⟨some 7, .faddr 0 (.t 3), none⟩,
  ⟨some 8, .ld false 1 (.t 7), none⟩,
  ⟨some 9, .binb .ne (.t 6) (.t 8), none⟩,
  ⟨some 10, .faddr 1 (.t 2), none⟩,
  ⟨some 11, .ld false 1 (.t 10), none⟩,
  ⟨some 12, .faddr 1 (.t 3), none⟩,
  ⟨some 13, .ld false 1 (.t 12), none⟩,
  ⟨some 14, .callP 183 [.t 11, .t 13], none⟩,
  ⟨some 15, .callP 182 [.t 9, .t 14], none⟩,
  ⟨none, .st 2 (.t 4) (.t 15), none⟩])
 (.ret)))
def i164 : IFn := ⟨2, 16, c164, [.c 4 true 2], .pure⟩
def c165 : IR :=
 .seq (.reg none [⟨some 1, .box 72 3 (.t 0), none⟩,
  ⟨some 2, .alloc 164 [.bool false, .str ⟨#[]⟩], none⟩])
 (.lv [1, 2] (.seq (.reg none [⟨some 3, .faddr 0 (.t 1), none⟩,
  ⟨some 4, .ld false 1 (.t 3), none⟩,
  ⟨some 5, .faddr 1 (.t 1), none⟩,
  ⟨some 6, .ld false 1 (.t 5), none⟩,
  ⟨some 7, .callP 182 [.t 4, .t 6], none⟩,
  ⟨none, .st 2 (.t 2) (.t 7), none⟩])
 (.ret)))
def i165 : IFn := ⟨1, 8, c165, [.c 2 true 2], .pure⟩
def c166 : IR :=
 .seq (.reg none [⟨some 1, .box 72 3 (.t 0), none⟩,
  ⟨some 2, .alloc 164 [.bool false, .str ⟨#[]⟩], none⟩])
 (.lv [1, 2] (.seq (.reg none [⟨some 3, .faddr 2 (.t 1), none⟩,
  ⟨some 4, .ld false 1 (.t 3), none⟩,
  ⟨some 5, .callP 182 [.k (.bool false), .t 4], none⟩,
  ⟨none, .st 2 (.t 2) (.t 5), none⟩])
 (.ret)))
def i166 : IFn := ⟨1, 6, c166, [.c 2 true 2], .pure⟩
def c167 : IR :=
 .seq (.reg none [⟨some 2, .box 164 2 (.t 0), none⟩,
  ⟨some 3, .box 164 2 (.t 1), none⟩,
  ⟨some 4, .alloc 164 [.bool false, .str ⟨#[]⟩], none⟩])
 (.lv [2, 3, 4] (.seq (.seq (.reg none [⟨some 5, .faddr 0 (.t 2), none⟩,
  ⟨some 6, .ld false 1 (.t 5), none⟩,
  ⟨some 7, .faddr 0 (.t 3), none⟩,
  ⟨some 8, .ld false 1 (.t 7), none⟩,
  ⟨some 9, .binb .eq (.t 6) (.t 8), none⟩])
 (.lv [2, 3, 4, 9] (.cond (.t 9) (.lv [2, 3, 4] (.seq (.reg (some [0, 1, 2, 3, 4, 5, 6, 7, 8]) [⟨some 10, .faddr 0 (.t 2), none⟩,
  ⟨some 11, .ld false 1 (.t 10), none⟩,
  ⟨some 12, .faddr 1 (.t 2), none⟩,
  ⟨some 13, .ld false 1 (.t 12), none⟩,
  ⟨some 14, .faddr 1 (.t 3), none⟩,
  ⟨some 15, .ld false 1 (.t 14), none⟩,
  ⟨some 16, .callP 184 [.t 13, .t 15], none⟩,
  ⟨some 17, .callP 182 [.t 11, .t 16], none⟩,
  ⟨none, .st 2 (.t 4) (.t 17), none⟩])
 (.ret)))
 (.skip))))
 (.lv [2, 3, 4] (.seq (.seq (.reg none [⟨some 18, .faddr 1 (.t 2), none⟩,
  ⟨some 19, .ld false 1 (.t 18), none⟩,
  ⟨some 20, .faddr 1 (.t 3), none⟩,
  ⟨some 21, .ld false 1 (.t 20), none⟩,
  ⟨some 22, .callP 185 [.t 19, .t 21], none⟩,
  ⟨some 23, .bin .ge (.t 22) (.k (.int .i64 0)), none⟩])
 (.lv [2, 3, 4, 23] (.cond (.t 23) (.lv [2, 3, 4] (.seq (.reg (some [0, 1, 2, 3, 4, 5, 6, 7, 8]) [⟨some 24, .faddr 0 (.t 2), none⟩,
  ⟨some 25, .ld false 1 (.t 24), none⟩,
  ⟨some 26, .faddr 1 (.t 2), none⟩,
  ⟨some 27, .ld false 1 (.t 26), none⟩,
  ⟨some 28, .faddr 1 (.t 3), none⟩,
  ⟨some 29, .ld false 1 (.t 28), none⟩,
  ⟨some 30, .callP 186 [.t 27, .t 29], none⟩,
  ⟨some 31, .callP 182 [.t 25, .t 30], none⟩,
  ⟨none, .st 2 (.t 4) (.t 31), none⟩])
 (.ret)))
 (.skip))))
 (.lv [2, 3, 4] (.seq (.reg (some [0, 1, 2, 3, 4, 5, 6, 7, 8]) [⟨some 32, .faddr 0 (.t 3), none⟩,
  ⟨some 33, .ld false 1 (.t 32), none⟩,
  ⟨some 34, .faddr 1 (.t 3), none⟩,
  ⟨some 35, .ld false 1 (.t 34), none⟩,
  ⟨some 36, .faddr 1 (.t 2), none⟩,
  ⟨some 37, .ld false 1 (.t 36), none⟩,
  ⟨some 38, .callP 186 [.t 35, .t 37], none⟩,
  ⟨some 39, .callP 182 [.t 33, .t 38], none⟩,
  ⟨none, .st 2 (.t 4) (.t 39), none⟩])
 (.ret)))))))
def i167 : IFn := ⟨2, 40, c167, [.c 4 true 2], .pure⟩
def b168_1 : IR :=
 .seq (.seq (.reg none [⟨some 16, .mov (.t 8), none⟩,
  ⟨some 17, .mov (.t 3), none⟩,
  ⟨some 18, .len (.t 17), none⟩,
  ⟨some 19, .bin .lt (.t 16) (.t 18), none⟩])
 (.lv [3, 4, 5, 6, 7, 8, 19] (.cond (.t 19) (.skip)
 (.exit 2))))
 (.lv [3, 4, 5, 6, 7, 8] (.seq (.block 3 (.seq (.reg none [⟨some 22, .mov (.t 7), none⟩,
  ⟨some 23, .bin .mul (.t 22) (.k (.int .i64 1000000000)), none⟩,
  ⟨some 24, .mov (.t 3), none⟩,
  ⟨some 25, .mov (.t 8), none⟩,
  ⟨some 26, .iaddr 1 (.t 24) (.t 25), none⟩,
  ⟨some 27, .ld false 1 (.t 26), none⟩,
  ⟨some 28, .bin .add (.t 23) (.t 27), none⟩,
  ⟨some 9, .mov (.t 28), none⟩])
 (.lv [3, 4, 5, 6, 8, 9] (.seq (.reg none [⟨some 29, .mov (.t 9), none⟩,
  ⟨some 30, .bin .rem (.t 29) (.k (.int .i64 65536)), none⟩,
  ⟨some 7, .mov (.t 30), none⟩])
 (.lv [3, 4, 5, 6, 7, 8, 9] (.seq (.reg none [⟨some 31, .mov (.t 6), none⟩,
  ⟨some 32, .len (.t 31), none⟩,
  ⟨some 33, .bin .gt (.t 32) (.k (.int .i64 0)), none⟩,
  ⟨some 34, .mov (.t 33), none⟩,
  ⟨some 35, .mov (.t 9), (some (34, false))⟩,
  ⟨some 36, .bin .quo (.t 35) (.k (.int .i64 65536)), (some (34, false))⟩,
  ⟨some 37, .bin .gt (.t 36) (.k (.int .i64 0)), (some (34, false))⟩,
  ⟨some 38, .pick (.t 34) (.k (.bool true)) (.t 37), none⟩])
 (.lv [3, 4, 5, 6, 7, 8, 9, 38] (.cond (.t 38) (.lv [3, 4, 5, 6, 7, 8, 9] (.reg none [⟨some 39, .mov (.t 6), none⟩,
  ⟨some 40, .mov (.t 9), none⟩,
  ⟨some 41, .bin .quo (.t 40) (.k (.int .i64 65536)), none⟩,
  ⟨some 42, .bsl 3 1 [.t 41], none⟩,
  ⟨some 43, .app 3 1 8 (.t 39) (.t 42), none⟩,
  ⟨some 6, .mov (.t 43), none⟩]))
 (.skip)))))))))
 (.lv [3, 4, 5, 6, 7, 8] (.reg none [⟨some 20, .mov (.t 8), none⟩,
  ⟨some 21, .bin .add (.t 20) (.k (.int .i64 1)), none⟩,
  ⟨some 8, .mov (.t 21), none⟩]))))
def b168_2 : IR :=
 .seq (.seq (.reg none [⟨some 47, .mov (.t 7), none⟩,
  ⟨some 48, .bin .gt (.t 47) (.k (.int .i64 0)), none⟩])
 (.lv [4, 7, 48] (.cond (.t 48) (.skip)
 (.exit 4))))
 (.lv [4, 7] (.block 5 (.seq (.reg none [⟨some 49, .mov (.t 7), none⟩,
  ⟨some 50, .bin .quo (.t 49) (.k (.int .i64 2)), none⟩,
  ⟨some 7, .mov (.t 50), none⟩])
 (.lv [4, 7] (.reg none [⟨some 51, .mov (.t 4), none⟩,
  ⟨some 52, .bin .add (.t 51) (.k (.int .i64 1)), none⟩,
  ⟨some 4, .mov (.t 52), none⟩])))))
def k168_0 : IR :=
 .seq (.reg none [⟨some 53, .mov (.t 4), none⟩,
  ⟨some 2, .mov (.t 53), none⟩])
 (.ret)
def k168_1 : IR :=
 .seq (.reg none [⟨some 54, .mov (.t 4), none⟩,
  ⟨some 55, .bin .add (.t 54) (.k (.int .i64 16)), none⟩,
  ⟨some 4, .mov (.t 55), none⟩])
 (.lv [4, 5, 6] (.reg none [⟨some 56, .mov (.t 6), none⟩,
  ⟨some 3, .mov (.t 56), none⟩]))
def k168_2 : IR :=
 .seq (.seq (.reg none [⟨some 44, .mov (.t 6), none⟩,
  ⟨some 45, .len (.t 44), none⟩,
  ⟨some 46, .bin .eq (.t 45) (.k (.int .i64 0)), none⟩])
 (.lv [4, 5, 6, 7, 46] (.cond (.t 46) (.lv [4, 7] (.seq (.block 4 (.loop [4, 7] (some (1, [])) b168_2))
 k168_0))
 (.skip))))
 k168_1
def k168_3 : IR :=
 .reg none [⟨some 14, .mov (.t 5), none⟩,
  ⟨some 15, .bin .add (.t 14) (.k (.int .i64 1)), none⟩,
  ⟨some 5, .mov (.t 15), none⟩]
def b168_0 : IR :=
 .seq (.seq (.reg none [⟨some 12, .mov (.t 5), none⟩,
  ⟨some 13, .bin .lt (.t 12) (.k (.int .i64 10000)), none⟩])
 (.lv [3, 4, 5, 13] (.cond (.t 13) (.skip)
 (.exit 0))))
 (.lv [3, 4, 5] (.seq (.block 1 (.seq (.reg none [⟨some 6, .newnil 3 1, none⟩])
 (.lv [3, 4, 5, 6] (.seq (.reg none [⟨some 7, .mov (.k (.int .i64 0)), none⟩])
 (.lv [3, 4, 5, 6, 7] (.seq (.seq (.reg none [⟨some 8, .mov (.k (.int .i64 0)), none⟩])
 (.lv [3, 4, 5, 6, 7, 8] (.block 2 (.loop [3, 4, 5, 6, 7, 8] (some (1, [])) b168_1))))
 k168_2))))))
 k168_3))
def k168_4 : IR :=
 .seq (.reg none [⟨some 57, .mov (.t 4), none⟩,
  ⟨some 2, .mov (.t 57), none⟩])
 (.ret)
def c168 : IR :=
 .seq (.reg none [⟨some 2, .mov (.k (.int .i64 0)), none⟩])
 (.lv [0] (.seq (.reg none [⟨some 10, .mov (.t 0), none⟩,
  ⟨some 11, .callP 187 [.t 10], none⟩,
  ⟨some 3, .mov (.t 11), none⟩])
 (.lv [3] (.seq (.reg none [⟨some 4, .mov (.k (.int .i64 0)), none⟩])
 (.lv [3, 4] (.seq (.seq (.reg none [⟨some 5, .mov (.k (.int .i64 0)), none⟩])
 (.lv [3, 4, 5] (.block 0 (.loop [3, 4, 5] (some (0, [3])) b168_0))))
 k168_4))))))
def i168 : IFn := ⟨1, 58, c168, [.t 2], .pure⟩
def b169_0 : IR :=
 .seq (.seq (.reg none [⟨some 18, .mov (.t 8), none⟩,
  ⟨some 19, .bin .ge (.t 18) (.k (.int .i64 0)), none⟩])
 (.lv [1, 2, 4, 6, 7, 8, 19] (.cond (.t 19) (.skip)
 (.exit 0))))
 (.lv [1, 2, 4, 6, 7, 8] (.seq (.block 1 (.seq (.reg none [⟨some 22, .mov (.t 7), none⟩,
  ⟨some 23, .bin .shl (.t 22) (.k (.int .u64 32)), none⟩,
  ⟨some 24, .faddr 0 (.t 2), none⟩,
  ⟨some 25, .ld false 1 (.t 24), none⟩,
  ⟨some 26, .mov (.t 8), none⟩,
  ⟨some 27, .iaddrf 1 (.t 25) (.t 26), none⟩,
  ⟨some 28, .ldf false 1 (.t 27), none⟩,
  ⟨some 29, .conv .u64 (.t 28), none⟩,
  ⟨some 30, .bin .or (.t 23) (.t 29), none⟩,
  ⟨some 9, .mov (.t 30), none⟩])
 (.lv [1, 2, 4, 6, 8, 9] (.reg (some [0, 1, 2, 3, 4, 5, 6, 7, 8, 9, 10, 11, 12, 13]) [⟨some 31, .mov (.t 6), none⟩,
  ⟨some 32, .mov (.t 8), none⟩,
  ⟨some 33, .mov (.t 9), none⟩,
  ⟨some 34, .mov (.t 1), none⟩,
  ⟨some 35, .conv .u64 (.t 34), none⟩,
  ⟨some 36, .bin .quo (.t 33) (.t 35), none⟩,
  ⟨some 37, .conv .u32 (.t 36), none⟩,
  ⟨some 38, .mov (.t 9), none⟩,
  ⟨some 39, .mov (.t 1), none⟩,
  ⟨some 40, .conv .u64 (.t 39), none⟩,
  ⟨some 41, .bin .rem (.t 38) (.t 40), none⟩,
  ⟨some 42, .iaddr 1 (.t 31) (.t 32), none⟩,
  ⟨none, .st 1 (.t 42) (.t 37), none⟩,
  ⟨some 7, .mov (.t 41), none⟩]))))
 (.lv [1, 2, 4, 6, 7, 8] (.reg none [⟨some 20, .mov (.t 8), none⟩,
  ⟨some 21, .bin .sub (.t 20) (.k (.int .i64 1)), none⟩,
  ⟨some 8, .mov (.t 21), none⟩]))))
def k169_0 : IR :=
 .seq (.reg none [⟨some 43, .mov (.t 6), none⟩,
  ⟨some 44, .callF 175 [.t 43], none⟩,
  ⟨some 45, .mov (.t 7), none⟩,
  ⟨some 46, .conv .u32 (.t 45), none⟩,
  ⟨none, .st 1 (.t 4) (.t 44), none⟩,
  ⟨some 5, .mov (.t 46), none⟩])
 (.ret)
def c169 : IR :=
 .seq (.reg none [⟨some 2, .box 94 1 (.t 0), none⟩,
  ⟨some 4, .alloc 94 [.nilsl 191 1], none⟩,
  ⟨some 5, .mov (.k (.int .u32 0)), none⟩])
 (.lv [1, 2, 4] (.seq (.reg none [⟨some 10, .faddr 0 (.t 2), none⟩,
  ⟨some 11, .ld false 1 (.t 10), none⟩,
  ⟨some 12, .lenf (.t 11), none⟩,
  ⟨some 13, .mk 191 4 [.int .u32 0] (.t 12), none⟩,
  ⟨some 6, .mov (.t 13), none⟩])
 (.lv [1, 2, 4, 6] (.seq (.reg none [⟨some 7, .mov (.k (.int .u64 0)), none⟩])
 (.lv [1, 2, 4, 6, 7] (.seq (.seq (.reg none [⟨some 14, .faddr 0 (.t 2), none⟩,
  ⟨some 15, .ld false 1 (.t 14), none⟩,
  ⟨some 16, .lenf (.t 15), none⟩,
  ⟨some 17, .bin .sub (.t 16) (.k (.int .i64 1)), none⟩,
  ⟨some 8, .mov (.t 17), none⟩])
 (.lv [1, 2, 4, 6, 7, 8] (.block 0 (.loop [1, 2, 4, 6, 7, 8] (some (4, [])) b169_0))))
 k169_0))))))
def i169 : IFn := ⟨2, 47, c169, [.c 4 true 1, .t 5], .pure⟩
def b170_0 : IR :=
 .seq (.seq (.reg none [⟨some 7, .mov (.t 4), none⟩,
  ⟨some 8, .bin .lt (.t 7) (.k (.int .i64 20)), none⟩,
  ⟨some 9, .mov (.t 8), none⟩,
  ⟨some 10, .mov (.t 0), (some (9, true))⟩,
  ⟨some 11, .bin .gt (.t 10) (.k (.int .u64 0)), (some (9, true))⟩,
  ⟨some 12, .pick (.t 9) (.t 11) (.k (.bool false)), none⟩])
 (.lv [0, 3, 4, 12] (.cond (.t 12) (.skip)
 (.exit 0))))
 (.lv [0, 3, 4] (.seq (.block 1 (.seq (.reg none [⟨some 15, .mov (.t 3), none⟩,
  ⟨some 16, .mov (.t 0), none⟩,
  ⟨some 17, .bin .rem (.t 16) (.k (.int .u64 10)), none⟩,
  ⟨some 18, .conv .i64 (.t 17), none⟩,
  ⟨some 19, .bsl 3 1 [.t 18], none⟩,
  ⟨some 20, .app 3 1 8 (.t 15) (.t 19), none⟩,
  ⟨some 3, .mov (.t 20), none⟩])
 (.lv [0, 3, 4] (.reg none [⟨some 21, .mov (.t 0), none⟩,
  ⟨some 22, .bin .quo (.t 21) (.k (.int .u64 10)), none⟩,
  ⟨some 0, .mov (.t 22), none⟩]))))
 (.lv [0, 3, 4] (.reg none [⟨some 13, .mov (.t 4), none⟩,
  ⟨some 14, .bin .add (.t 13) (.k (.int .i64 1)), none⟩,
  ⟨some 4, .mov (.t 14), none⟩]))))
def k170_0 : IR :=
 .seq (.reg none [⟨some 23, .mov (.t 3), none⟩,
  ⟨some 24, .callR 188 [.t 23], none⟩,
  ⟨some 2, .mov (.t 24), none⟩])
 (.ret)
def c170 : IR :=
 .seq (.reg none [⟨some 2, .mov (.k (.str ⟨#[]⟩)), none⟩])
 (.lv [0] (.seq (.seq (.reg none [⟨some 5, .mov (.t 0), none⟩,
  ⟨some 6, .bin .eq (.t 5) (.k (.int .u64 0)), none⟩])
 (.lv [0, 6] (.cond (.t 6) (.lv [] (.seq (.reg none [⟨some 2, .mov (.k (.str ⟨#[48]⟩)), none⟩])
 (.ret)))
 (.skip))))
 (.lv [0] (.seq (.reg none [⟨some 3, .newnil 3 1, none⟩])
 (.lv [0, 3] (.seq (.seq (.reg none [⟨some 4, .mov (.k (.int .i64 0)), none⟩])
 (.lv [0, 3, 4] (.block 0 (.loop [0, 3, 4] (some (1, [])) b170_0))))
 k170_0))))))
def i170 : IFn := ⟨1, 25, c170, [.t 2], .pure⟩
def b174_1 : IR :=
 .seq (.seq (.reg none [⟨some 27, .mov (.t 7), none⟩,
  ⟨some 28, .mov (.t 1), none⟩,
  ⟨some 29, .callP 185 [.t 27, .t 28], none⟩,
  ⟨some 30, .bin .ge (.t 29) (.k (.int .i64 0)), none⟩,
  ⟨some 31, .mov (.t 30), none⟩,
  ⟨some 32, .mov (.t 9), (some (31, true))⟩,
  ⟨some 33, .bin .lt (.t 32) (.k (.int .i64 10)), (some (31, true))⟩,
  ⟨some 34, .pick (.t 31) (.t 33) (.k (.bool false)), none⟩])
 (.lv [0, 1, 6, 7, 8, 9, 34] (.cond (.t 34) (.skip)
 (.exit 2))))
 (.lv [0, 1, 6, 7, 8, 9] (.block 3 (.seq (.reg none [⟨some 35, .mov (.t 7), none⟩,
  ⟨some 36, .mov (.t 1), none⟩,
  ⟨some 37, .callP 186 [.t 35, .t 36], none⟩,
  ⟨some 7, .mov (.t 37), none⟩])
 (.lv [0, 1, 6, 7, 8, 9] (.reg none [⟨some 38, .mov (.t 9), none⟩,
  ⟨some 39, .bin .add (.t 38) (.k (.int .i64 1)), none⟩,
  ⟨some 9, .mov (.t 39), none⟩])))))
def k174_0 : IR :=
 .reg none [⟨some 40, .mov (.t 6), none⟩,
  ⟨some 41, .mov (.t 9), none⟩,
  ⟨some 42, .bin .add (.k (.int .i64 48)) (.t 41), none⟩,
  ⟨some 43, .conv .u8 (.t 42), none⟩,
  ⟨some 44, .bsl 5 1 [.t 43], none⟩,
  ⟨some 45, .app 5 1 1 (.t 40) (.t 44), none⟩,
  ⟨some 6, .mov (.t 45), none⟩]
def k174_1 : IR :=
 .reg none [⟨some 17, .mov (.t 8), none⟩,
  ⟨some 18, .bin .add (.t 17) (.k (.int .i64 1)), none⟩,
  ⟨some 8, .mov (.t 18), none⟩]
def b174_0 : IR :=
 .seq (.seq (.reg none [⟨some 13, .mov (.t 8), none⟩,
  ⟨some 14, .mov (.t 0), none⟩,
  ⟨some 15, .slen (.t 14), none⟩,
  ⟨some 16, .bin .lt (.t 13) (.t 15), none⟩])
 (.lv [0, 1, 6, 7, 8, 16] (.cond (.t 16) (.skip)
 (.exit 0))))
 (.lv [0, 1, 6, 7, 8] (.seq (.block 1 (.seq (.reg none [⟨some 19, .mov (.t 7), none⟩,
  ⟨some 20, .mov (.t 0), none⟩,
  ⟨some 21, .mov (.t 8), none⟩,
  ⟨some 22, .mov (.t 8), none⟩,
  ⟨some 23, .bin .add (.t 22) (.k (.int .i64 1)), none⟩,
  ⟨some 24, .scut (.t 20) (some (.t 21)) (some (.t 23)), none⟩,
  ⟨some 25, .bin .add (.t 19) (.t 24), none⟩,
  ⟨some 26, .callP 146 [.t 25], none⟩,
  ⟨some 7, .mov (.t 26), none⟩])
 (.lv [0, 1, 6, 7, 8] (.seq (.reg none [⟨some 9, .mov (.k (.int .i64 0)), none⟩])
 (.lv [0, 1, 6, 7, 8, 9] (.seq (.block 2 (.loop [0, 1, 6, 7, 8, 9] (some (1, [])) b174_1))
 k174_0))))))
 k174_1))
def k174_2 : IR :=
 .seq (.reg none [⟨some 46, .mov (.t 6), none⟩,
  ⟨some 47, .b2s (.t 46), none⟩,
  ⟨some 48, .callP 146 [.t 47], none⟩,
  ⟨some 49, .mov (.t 7), none⟩,
  ⟨some 4, .mov (.t 48), none⟩,
  ⟨some 5, .mov (.t 49), none⟩])
 (.ret)
def c174 : IR :=
 .seq (.reg none [⟨some 4, .mov (.k (.str ⟨#[]⟩)), none⟩,
  ⟨some 5, .mov (.k (.str ⟨#[]⟩)), none⟩])
 (.lv [0, 1] (.seq (.reg none [⟨some 10, .mov (.t 0), none⟩,
  ⟨some 11, .slen (.t 10), none⟩,
  ⟨some 12, .mk0 5 1 1 (.t 11), none⟩,
  ⟨some 6, .mov (.t 12), none⟩])
 (.lv [0, 1, 6] (.seq (.reg none [⟨some 7, .mov (.k (.str ⟨#[48]⟩)), none⟩])
 (.lv [0, 1, 6, 7] (.seq (.seq (.reg none [⟨some 8, .mov (.k (.int .i64 0)), none⟩])
 (.lv [0, 1, 6, 7, 8] (.block 0 (.loop [0, 1, 6, 7, 8] (some (1, [])) b174_0))))
 k174_2))))))
def i174 : IFn := ⟨2, 50, c174, [.t 4, .t 5], .pure⟩
def b175_0 : IR :=
 .seq (.seq (.reg none [⟨some 3, .mov (.t 0), none⟩,
  ⟨some 4, .lenf (.t 3), none⟩,
  ⟨some 5, .bin .gt (.t 4) (.k (.int .i64 0)), none⟩,
  ⟨some 6, .mov (.t 5), none⟩,
  ⟨some 7, .mov (.t 0), (some (6, true))⟩,
  ⟨some 8, .mov (.t 0), (some (6, true))⟩,
  ⟨some 9, .lenf (.t 8), (some (6, true))⟩,
  ⟨some 10, .bin .sub (.t 9) (.k (.int .i64 1)), (some (6, true))⟩,
  ⟨some 11, .iaddrf 1 (.t 7) (.t 10), (some (6, true))⟩,
  ⟨some 12, .ldf false 1 (.t 11), (some (6, true))⟩,
  ⟨some 13, .bin .eq (.t 12) (.k (.int .u32 0)), (some (6, true))⟩,
  ⟨some 14, .pick (.t 6) (.t 13) (.k (.bool false)), none⟩])
 (.lv [0, 2, 14] (.cond (.t 14) (.skip)
 (.exit 0))))
 (.lv [0, 2] (.block 1 (.reg none [⟨some 15, .mov (.t 0), none⟩,
  ⟨some 16, .mov (.t 0), none⟩,
  ⟨some 17, .lenf (.t 16), none⟩,
  ⟨some 18, .bin .sub (.t 17) (.k (.int .i64 1)), none⟩,
  ⟨some 19, .cut 1 (.t 15) none (some (.t 18)), none⟩,
  ⟨some 0, .mov (.t 19), none⟩])))
def k175_0 : IR :=
 .seq (.reg none [⟨some 20, .mov (.t 0), none⟩,
  ⟨some 21, .build [.nilsl 191 1] [(0, 1, .t 20)], none⟩,
  ⟨none, .st 1 (.t 2) (.t 21), none⟩])
 (.ret)
def c175 : IR :=
 .seq (.reg none [⟨some 2, .alloc 94 [.nilsl 191 1], none⟩])
 (.lv [0, 2] (.seq (.block 0 (.loop [0, 2] (some (2, [])) b175_0))
 k175_0))
def i175 : IFn := ⟨1, 22, c175, [.c 2 true 1], .pure⟩
def b176_0 : IR :=
 .seq (.reg none [⟨some 29, .bin .lt (.t 28) (.t 27), none⟩])
 (.lv [4, 5, 6, 7, 8, 27, 28, 29] (.seq (.cond (.t 29) (.skip)
 (.exit 0))
 (.lv [4, 5, 6, 7, 8, 27, 28] (.seq (.block 1 (.seq (.reg none [⟨some 30, .mov (.t 28), none⟩,
  ⟨some 9, .mov (.t 30), none⟩])
 (.lv [4, 5, 6, 7, 8, 9, 27, 28] (.seq (.reg none [⟨some 10, .mov (.k (.int .u32 0)), none⟩])
 (.lv [4, 5, 6, 7, 8, 9, 10, 27, 28] (.seq (.seq (.reg none [⟨some 31, .mov (.t 9), none⟩,
  ⟨some 32, .mov (.t 6), none⟩,
  ⟨some 33, .lenf (.t 32), none⟩,
  ⟨some 34, .bin .lt (.t 31) (.t 33), none⟩])
 (.lv [4, 5, 6, 7, 8, 9, 10, 27, 28, 34] (.cond (.t 34) (.lv [4, 5, 6, 7, 8, 9, 27, 28] (.reg none [⟨some 35, .mov (.t 6), none⟩,
  ⟨some 36, .mov (.t 9), none⟩,
  ⟨some 37, .iaddrf 1 (.t 35) (.t 36), none⟩,
  ⟨some 38, .ldf false 1 (.t 37), none⟩,
  ⟨some 10, .mov (.t 38), none⟩]))
 (.skip))))
 (.lv [4, 5, 6, 7, 8, 9, 10, 27, 28] (.reg none [⟨some 40, .mov (.t 7), none⟩,
  ⟨some 41, .mov (.t 9), none⟩,
  ⟨some 42, .mov (.t 5), none⟩,
  ⟨some 43, .mov (.t 9), none⟩,
  ⟨some 44, .iaddrf 1 (.t 42) (.t 43), none⟩,
  ⟨some 45, .ldf false 1 (.t 44), none⟩,
  ⟨some 46, .mov (.t 10), none⟩,
  ⟨some 47, .mov (.t 8), none⟩,
  ⟨some 48, .callP 191 [.t 45, .t 46, .t 47], none⟩,
  ⟨some 39, .mov (.t 48), none⟩,
  ⟨some 49, .ext (.t 39) 0, none⟩,
  ⟨some 50, .ext (.t 39) 1, none⟩,
  ⟨some 51, .iaddr 1 (.t 40) (.t 41), none⟩,
  ⟨none, .st 1 (.t 51) (.t 49), none⟩,
  ⟨some 8, .mov (.t 50), none⟩]))))))))
 (.lv [4, 5, 6, 7, 8, 27, 28] (.reg none [⟨some 52, .bin .add (.t 28) (.k (.int .i64 1)), none⟩,
  ⟨some 28, .mov (.t 52), none⟩]))))))
def k176_0 : IR :=
 .seq (.reg none [⟨some 53, .mov (.t 7), none⟩,
  ⟨some 54, .mov (.t 5), none⟩,
  ⟨some 55, .lenf (.t 54), none⟩,
  ⟨some 56, .mov (.t 8), none⟩,
  ⟨some 57, .iaddr 1 (.t 53) (.t 55), none⟩,
  ⟨none, .st 1 (.t 57) (.t 56), none⟩])
 (.lv [4, 7] (.seq (.reg none [⟨some 58, .mov (.t 7), none⟩,
  ⟨some 59, .callF 175 [.t 58], none⟩,
  ⟨none, .st 1 (.t 4) (.t 59), none⟩])
 (.ret)))
def c176 : IR :=
 .seq (.reg none [⟨some 2, .box 94 1 (.t 0), none⟩,
  ⟨some 3, .box 94 1 (.t 1), none⟩,
  ⟨some 4, .alloc 94 [.nilsl 191 1], none⟩])
 (.lv [2, 3, 4] (.seq (.reg (some [0, 1, 2, 3, 4, 5]) [⟨some 11, .faddr 0 (.t 2), none⟩,
  ⟨some 12, .ld false 1 (.t 11), none⟩,
  ⟨some 13, .faddr 0 (.t 3), none⟩,
  ⟨some 14, .ld false 1 (.t 13), none⟩,
  ⟨some 5, .mov (.t 12), none⟩,
  ⟨some 6, .mov (.t 14), none⟩])
 (.lv [4, 5, 6] (.seq (.seq (.reg none [⟨some 15, .mov (.t 5), none⟩,
  ⟨some 16, .lenf (.t 15), none⟩,
  ⟨some 17, .mov (.t 6), none⟩,
  ⟨some 18, .lenf (.t 17), none⟩,
  ⟨some 19, .bin .lt (.t 16) (.t 18), none⟩])
 (.lv [4, 5, 6, 19] (.cond (.t 19) (.lv [4, 5, 6] (.reg none [⟨some 20, .mov (.t 6), none⟩,
  ⟨some 21, .mov (.t 5), none⟩,
  ⟨some 5, .mov (.t 20), none⟩,
  ⟨some 6, .mov (.t 21), none⟩]))
 (.skip))))
 (.lv [4, 5, 6] (.seq (.reg none [⟨some 22, .mov (.t 5), none⟩,
  ⟨some 23, .lenf (.t 22), none⟩,
  ⟨some 24, .bin .add (.t 23) (.k (.int .i64 1)), none⟩,
  ⟨some 25, .mk 191 4 [.int .u32 0] (.t 24), none⟩,
  ⟨some 7, .mov (.t 25), none⟩])
 (.lv [4, 5, 6, 7] (.seq (.reg none [⟨some 8, .mov (.k (.int .u32 0)), none⟩])
 (.lv [4, 5, 6, 7, 8] (.seq (.seq (.reg none [⟨some 26, .mov (.t 5), none⟩,
  ⟨some 27, .lenf (.t 26), none⟩,
  ⟨some 28, .mov (.k (.int .i64 0)), none⟩])
 (.lv [4, 5, 6, 7, 8, 27, 28] (.block 0 (.loop [4, 5, 6, 7, 8, 27, 28] (some (5, [])) b176_0))))
 k176_0))))))))))
def i176 : IFn := ⟨2, 60, c176, [.c 4 true 1], .pure⟩
end Go.Proofs.YtlejgleocnemoaaGreat.I
