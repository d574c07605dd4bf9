/- The texts VIr2 VIr, one behind the other. Conditions: each text's own. -/
import Derived.Test.YtlejgleocnemoaaGreatG00
import Derived.Test.YtlejgleocnemoaaGreatG02
import Derived.Test.YtlejgleocnemoaaGreatG03
namespace Go.Proofs.YtlejgleocnemoaaGreat.I
open Go Go.V
def b177_0 : IR :=
 .seq (.reg none [⟨some 23, .bin .lt (.t 22) (.t 21), none⟩])
 (.lv [2, 3, 4, 6, 7, 21, 22, 23] (.seq (.cond (.t 23) (.skip)
 (.exit 0))
 (.lv [2, 3, 4, 6, 7, 21, 22] (.seq (.block 1 (.seq (.reg none [⟨some 24, .mov (.t 22), none⟩,
  ⟨some 8, .mov (.t 24), none⟩])
 (.lv [2, 3, 4, 6, 7, 8, 21, 22] (.seq (.reg none [⟨some 9, .mov (.k (.int .u32 0)), none⟩])
 (.lv [2, 3, 4, 6, 7, 8, 9, 21, 22] (.seq (.seq (.reg none [⟨some 25, .mov (.t 8), none⟩,
  ⟨some 26, .faddr 0 (.t 3), none⟩,
  ⟨some 27, .ld false 1 (.t 26), none⟩,
  ⟨some 28, .lenf (.t 27), none⟩,
  ⟨some 29, .bin .lt (.t 25) (.t 28), none⟩])
 (.lv [2, 3, 4, 6, 7, 8, 9, 21, 22, 29] (.cond (.t 29) (.lv [2, 3, 4, 6, 7, 8, 21, 22] (.reg none [⟨some 30, .faddr 0 (.t 3), none⟩,
  ⟨some 31, .ld false 1 (.t 30), none⟩,
  ⟨some 32, .mov (.t 8), none⟩,
  ⟨some 33, .iaddrf 1 (.t 31) (.t 32), none⟩,
  ⟨some 34, .ldf false 1 (.t 33), none⟩,
  ⟨some 9, .mov (.t 34), none⟩]))
 (.skip))))
 (.lv [2, 3, 4, 6, 7, 8, 9, 21, 22] (.reg none [⟨some 36, .mov (.t 6), none⟩,
  ⟨some 37, .mov (.t 8), none⟩,
  ⟨some 38, .faddr 0 (.t 2), none⟩,
  ⟨some 39, .ld false 1 (.t 38), none⟩,
  ⟨some 40, .mov (.t 8), none⟩,
  ⟨some 41, .iaddrf 1 (.t 39) (.t 40), none⟩,
  ⟨some 42, .ldf false 1 (.t 41), none⟩,
  ⟨some 43, .mov (.t 9), none⟩,
  ⟨some 44, .mov (.t 7), none⟩,
  ⟨some 45, .callP 192 [.t 42, .t 43, .t 44], none⟩,
  ⟨some 35, .mov (.t 45), none⟩,
  ⟨some 46, .ext (.t 35) 0, none⟩,
  ⟨some 47, .ext (.t 35) 1, none⟩,
  ⟨some 48, .iaddr 1 (.t 36) (.t 37), none⟩,
  ⟨none, .st 1 (.t 48) (.t 46), none⟩,
  ⟨some 7, .mov (.t 47), none⟩]))))))))
 (.lv [2, 3, 4, 6, 7, 21, 22] (.reg none [⟨some 49, .bin .add (.t 22) (.k (.int .i64 1)), none⟩,
  ⟨some 22, .mov (.t 49), none⟩]))))))
def k177_0 : IR :=
 .seq (.reg none [⟨some 50, .mov (.t 6), none⟩,
  ⟨some 51, .callF 175 [.t 50], none⟩,
  ⟨none, .st 1 (.t 4) (.t 51), none⟩,
  ⟨some 5, .mov (.k (.bool true)), none⟩])
 (.ret)
def c177 : IR :=
 .seq (.reg none [⟨some 2, .box 94 1 (.t 0), none⟩,
  ⟨some 3, .box 94 1 (.t 1), none⟩,
  ⟨some 4, .alloc 94 [.nilsl 191 1], none⟩,
  ⟨some 5, .mov (.k (.bool false)), none⟩])
 (.lv [2, 3, 4] (.seq (.seq (.reg none [⟨some 10, .ld true 1 (.t 2), none⟩,
  ⟨some 11, .ld true 1 (.t 3), none⟩,
  ⟨some 12, .callP 179 [.t 10, .t 11], none⟩,
  ⟨some 13, .bin .lt (.t 12) (.k (.int .i64 0)), none⟩])
 (.lv [2, 3, 4, 13] (.cond (.t 13) (.lv [4] (.seq (.reg none [⟨some 14, .build [.nilsl 191 1] [], none⟩,
  ⟨none, .st 1 (.t 4) (.t 14), none⟩,
  ⟨some 5, .mov (.k (.bool false)), none⟩])
 (.ret)))
 (.skip))))
 (.lv [2, 3, 4] (.seq (.reg none [⟨some 15, .faddr 0 (.t 2), none⟩,
  ⟨some 16, .ld false 1 (.t 15), none⟩,
  ⟨some 17, .lenf (.t 16), none⟩,
  ⟨some 18, .mk 191 4 [.int .u32 0] (.t 17), none⟩,
  ⟨some 6, .mov (.t 18), none⟩])
 (.lv [2, 3, 4, 6] (.seq (.reg none [⟨some 7, .mov (.k (.int .u32 0)), none⟩])
 (.lv [2, 3, 4, 6, 7] (.seq (.seq (.reg none [⟨some 19, .faddr 0 (.t 2), none⟩,
  ⟨some 20, .ld false 1 (.t 19), none⟩,
  ⟨some 21, .lenf (.t 20), none⟩,
  ⟨some 22, .mov (.k (.int .i64 0)), none⟩])
 (.lv [2, 3, 4, 6, 7, 21, 22] (.block 0 (.loop [2, 3, 4, 6, 7, 21, 22] (some (5, [])) b177_0))))
 k177_0))))))))
def i177 : IFn := ⟨2, 52, c177, [.c 4 true 1, .t 5], .pure⟩
def c178 : IR :=
 .seq (.reg none [⟨some 1, .box 94 1 (.t 0), none⟩,
  ⟨some 2, .mov (.k (.int .u64 0)), none⟩,
  ⟨some 3, .mov (.k (.bool false)), none⟩])
 (.lv [1] (.seq (.seq (.reg none [⟨some 4, .faddr 0 (.t 1), none⟩,
  ⟨some 5, .ld false 1 (.t 4), none⟩,
  ⟨some 6, .lenf (.t 5), none⟩])
 (.lv [1, 6] (.block 0 (.seq (.reg none [⟨some 8, .bin .eq (.t 6) (.k (.int .i64 0)), none⟩,
  ⟨some 7, .mov (.t 8), none⟩])
 (.lv [1, 6, 7] (.cond (.t 7) (.lv [] (.seq (.reg none [⟨some 2, .mov (.k (.int .u64 0)), none⟩,
  ⟨some 3, .mov (.k (.bool true)), none⟩])
 (.ret)))
 (.lv [1, 6] (.seq (.reg none [⟨some 10, .bin .eq (.t 6) (.k (.int .i64 1)), none⟩,
  ⟨some 9, .mov (.t 10), none⟩])
 (.lv [1, 6, 9] (.cond (.t 9) (.lv [1] (.seq (.reg none [⟨some 11, .faddr 0 (.t 1), none⟩,
  ⟨some 12, .ld false 1 (.t 11), none⟩,
  ⟨some 13, .iaddrf 1 (.t 12) (.k (.int .i64 0)), none⟩,
  ⟨some 14, .ldf false 1 (.t 13), none⟩,
  ⟨some 15, .conv .u64 (.t 14), none⟩,
  ⟨some 2, .mov (.t 15), none⟩,
  ⟨some 3, .mov (.k (.bool true)), none⟩])
 (.ret)))
 (.lv [1, 6] (.seq (.reg none [⟨some 17, .bin .eq (.t 6) (.k (.int .i64 2)), none⟩,
  ⟨some 16, .mov (.t 17), none⟩])
 (.lv [1, 16] (.cond (.t 16) (.lv [1] (.seq (.reg (some [0, 1, 2, 3, 4, 5, 6, 7, 8, 9, 10, 11, 12, 13]) [⟨some 18, .faddr 0 (.t 1), none⟩,
  ⟨some 19, .ld false 1 (.t 18), none⟩,
  ⟨some 20, .iaddrf 1 (.t 19) (.k (.int .i64 0)), none⟩,
  ⟨some 21, .ldf false 1 (.t 20), none⟩,
  ⟨some 22, .conv .u64 (.t 21), none⟩,
  ⟨some 23, .faddr 0 (.t 1), none⟩,
  ⟨some 24, .ld false 1 (.t 23), none⟩,
  ⟨some 25, .iaddrf 1 (.t 24) (.k (.int .i64 1)), none⟩,
  ⟨some 26, .ldf false 1 (.t 25), none⟩,
  ⟨some 27, .conv .u64 (.t 26), none⟩,
  ⟨some 28, .bin .shl (.t 27) (.k (.int .u64 32)), none⟩,
  ⟨some 29, .bin .or (.t 22) (.t 28), none⟩,
  ⟨some 2, .mov (.t 29), none⟩,
  ⟨some 3, .mov (.k (.bool true)), none⟩])
 (.ret)))
 (.skip)))))))))))))))
 (.lv [] (.seq (.reg none [⟨some 2, .mov (.k (.int .u64 0)), none⟩,
  ⟨some 3, .mov (.k (.bool false)), none⟩])
 (.ret)))))
def i178 : IFn := ⟨1, 30, c178, [.t 2, .t 3], .pure⟩
def b179_0 : IR :=
 .seq (.seq (.reg none [⟨some 24, .mov (.t 5), none⟩,
  ⟨some 25, .bin .ge (.t 24) (.k (.int .i64 0)), none⟩])
 (.lv [2, 3, 5, 25] (.cond (.t 25) (.skip)
 (.exit 0))))
 (.lv [2, 3, 5] (.seq (.block 1 (.seq (.reg (some [0, 1, 2, 3, 4, 5, 6, 7, 8, 9, 10]) [⟨some 28, .faddr 0 (.t 2), none⟩,
  ⟨some 29, .ld false 1 (.t 28), none⟩,
  ⟨some 30, .mov (.t 5), none⟩,
  ⟨some 31, .iaddrf 1 (.t 29) (.t 30), none⟩,
  ⟨some 32, .ldf false 1 (.t 31), none⟩,
  ⟨some 33, .faddr 0 (.t 3), none⟩,
  ⟨some 34, .ld false 1 (.t 33), none⟩,
  ⟨some 35, .mov (.t 5), none⟩,
  ⟨some 36, .iaddrf 1 (.t 34) (.t 35), none⟩,
  ⟨some 37, .ldf false 1 (.t 36), none⟩,
  ⟨some 38, .bin .ne (.t 32) (.t 37), none⟩])
 (.lv [2, 3, 5, 38] (.cond (.t 38) (.lv [2, 3, 5] (.seq (.seq (.reg (some [0, 1, 2, 3, 4, 5, 6, 7, 8, 9, 10]) [⟨some 39, .faddr 0 (.t 2), none⟩,
  ⟨some 40, .ld false 1 (.t 39), none⟩,
  ⟨some 41, .mov (.t 5), none⟩,
  ⟨some 42, .iaddrf 1 (.t 40) (.t 41), none⟩,
  ⟨some 43, .ldf false 1 (.t 42), none⟩,
  ⟨some 44, .faddr 0 (.t 3), none⟩,
  ⟨some 45, .ld false 1 (.t 44), none⟩,
  ⟨some 46, .mov (.t 5), none⟩,
  ⟨some 47, .iaddrf 1 (.t 45) (.t 46), none⟩,
  ⟨some 48, .ldf false 1 (.t 47), none⟩,
  ⟨some 49, .bin .lt (.t 43) (.t 48), none⟩])
 (.lv [49] (.cond (.t 49) (.lv [] (.seq (.reg none [⟨some 4, .mov (.k (.int .i64 (-1))), none⟩])
 (.ret)))
 (.skip))))
 (.lv [] (.seq (.reg none [⟨some 4, .mov (.k (.int .i64 1)), none⟩])
 (.ret)))))
 (.skip)))))
 (.lv [2, 3, 5] (.reg none [⟨some 26, .mov (.t 5), none⟩,
  ⟨some 27, .bin .sub (.t 26) (.k (.int .i64 1)), none⟩,
  ⟨some 5, .mov (.t 27), none⟩]))))
def k179_0 : IR :=
 .seq (.reg none [⟨some 4, .mov (.k (.int .i64 0)), none⟩])
 (.ret)
def c179 : IR :=
 .seq (.reg none [⟨some 2, .box 94 1 (.t 0), none⟩,
  ⟨some 3, .box 94 1 (.t 1), none⟩,
  ⟨some 4, .mov (.k (.int .i64 0)), none⟩])
 (.lv [2, 3] (.seq (.seq (.reg none [⟨some 6, .faddr 0 (.t 2), none⟩,
  ⟨some 7, .ld false 1 (.t 6), none⟩,
  ⟨some 8, .lenf (.t 7), none⟩,
  ⟨some 9, .faddr 0 (.t 3), none⟩,
  ⟨some 10, .ld false 1 (.t 9), none⟩,
  ⟨some 11, .lenf (.t 10), none⟩,
  ⟨some 12, .bin .ne (.t 8) (.t 11), none⟩])
 (.lv [2, 3, 12] (.cond (.t 12) (.lv [2, 3] (.seq (.seq (.reg none [⟨some 13, .faddr 0 (.t 2), none⟩,
  ⟨some 14, .ld false 1 (.t 13), none⟩,
  ⟨some 15, .lenf (.t 14), none⟩,
  ⟨some 16, .faddr 0 (.t 3), none⟩,
  ⟨some 17, .ld false 1 (.t 16), none⟩,
  ⟨some 18, .lenf (.t 17), none⟩,
  ⟨some 19, .bin .lt (.t 15) (.t 18), none⟩])
 (.lv [19] (.cond (.t 19) (.lv [] (.seq (.reg none [⟨some 4, .mov (.k (.int .i64 (-1))), none⟩])
 (.ret)))
 (.skip))))
 (.lv [] (.seq (.reg none [⟨some 4, .mov (.k (.int .i64 1)), none⟩])
 (.ret)))))
 (.skip))))
 (.lv [2, 3] (.seq (.seq (.reg none [⟨some 20, .faddr 0 (.t 2), none⟩,
  ⟨some 21, .ld false 1 (.t 20), none⟩,
  ⟨some 22, .lenf (.t 21), none⟩,
  ⟨some 23, .bin .sub (.t 22) (.k (.int .i64 1)), none⟩,
  ⟨some 5, .mov (.t 23), none⟩])
 (.lv [2, 3, 5] (.block 0 (.loop [2, 3, 5] (some (2, [])) b179_0))))
 k179_0))))
def i179 : IFn := ⟨2, 50, c179, [.t 4], .pure⟩
def b180_1 : IR :=
 .seq (.seq (.reg none [⟨some 94, .mov (.t 16), none⟩,
  ⟨some 95, .bin .ge (.t 94) (.k (.int .u64 4294967296)), none⟩,
  ⟨some 96, .mov (.t 95), none⟩,
  ⟨some 97, .mov (.t 16), (some (96, false))⟩,
  ⟨some 98, .mov (.t 13), (some (96, false))⟩,
  ⟨some 99, .bin .mul (.t 97) (.t 98), (some (96, false))⟩,
  ⟨some 100, .mov (.t 17), (some (96, false))⟩,
  ⟨some 101, .bin .shl (.t 100) (.k (.int .u64 32)), (some (96, false))⟩,
  ⟨some 102, .mov (.t 8), (some (96, false))⟩,
  ⟨some 103, .mov (.t 14), (some (96, false))⟩,
  ⟨some 104, .mov (.t 9), (some (96, false))⟩,
  ⟨some 105, .bin .add (.t 103) (.t 104), (some (96, false))⟩,
  ⟨some 106, .bin .sub (.t 105) (.k (.int .i64 2)), (some (96, false))⟩,
  ⟨some 107, .iaddr 1 (.t 102) (.t 106), (some (96, false))⟩,
  ⟨some 108, .ld false 1 (.t 107), (some (96, false))⟩,
  ⟨some 109, .conv .u64 (.t 108), (some (96, false))⟩,
  ⟨some 110, .bin .or (.t 101) (.t 109), (some (96, false))⟩,
  ⟨some 111, .bin .gt (.t 99) (.t 110), (some (96, false))⟩,
  ⟨some 112, .pick (.t 96) (.k (.bool true)) (.t 111), none⟩])
 (.lv [4, 5, 6, 7, 8, 9, 11, 12, 13, 14, 16, 17, 112] (.cond (.t 112) (.skip)
 (.exit 2))))
 (.lv [4, 5, 6, 7, 8, 9, 11, 12, 13, 14, 16, 17] (.block 3 (.seq (.reg none [⟨some 113, .mov (.t 16), none⟩,
  ⟨some 114, .bin .sub (.t 113) (.k (.int .u64 1)), none⟩,
  ⟨some 16, .mov (.t 114), none⟩])
 (.lv [4, 5, 6, 7, 8, 9, 11, 12, 13, 14, 16, 17] (.seq (.reg none [⟨some 115, .mov (.t 17), none⟩,
  ⟨some 116, .mov (.t 12), none⟩,
  ⟨some 117, .bin .add (.t 115) (.t 116), none⟩,
  ⟨some 17, .mov (.t 117), none⟩])
 (.lv [4, 5, 6, 7, 8, 9, 11, 12, 13, 14, 16, 17] (.seq (.reg none [⟨some 118, .mov (.t 17), none⟩,
  ⟨some 119, .bin .ge (.t 118) (.k (.int .u64 4294967296)), none⟩])
 (.lv [4, 5, 6, 7, 8, 9, 11, 12, 13, 14, 16, 17, 119] (.cond (.t 119) (.exit 2)
 (.skip))))))))))
def k180_0 : IR :=
 .seq (.seq (.reg none [⟨some 120, .mov (.t 8), none⟩,
  ⟨some 121, .mov (.t 14), none⟩,
  ⟨some 122, .mov (.t 14), none⟩,
  ⟨some 123, .mov (.t 9), none⟩,
  ⟨some 124, .bin .add (.t 122) (.t 123), none⟩,
  ⟨some 125, .bin .add (.t 124) (.k (.int .i64 1)), none⟩,
  ⟨some 126, .cut 1 (.t 120) (some (.t 121)) (some (.t 125)), none⟩,
  ⟨some 127, .mov (.t 7), none⟩,
  ⟨some 128, .mov (.t 16), none⟩,
  ⟨some 129, .callM 195 [.t 126, .t 127, .t 128], none⟩])
 (.lv [4, 5, 6, 7, 8, 9, 11, 12, 13, 14, 16, 129] (.cond (.t 129) (.lv [4, 5, 6, 7, 8, 9, 11, 12, 13, 14, 16] (.seq (.reg none [⟨some 130, .mov (.t 16), none⟩,
  ⟨some 131, .bin .sub (.t 130) (.k (.int .u64 1)), none⟩,
  ⟨some 16, .mov (.t 131), none⟩])
 (.lv [4, 5, 6, 7, 8, 9, 11, 12, 13, 14, 16] (.reg none [⟨some 132, .mov (.t 8), none⟩,
  ⟨some 133, .mov (.t 14), none⟩,
  ⟨some 134, .mov (.t 14), none⟩,
  ⟨some 135, .mov (.t 9), none⟩,
  ⟨some 136, .bin .add (.t 134) (.t 135), none⟩,
  ⟨some 137, .bin .add (.t 136) (.k (.int .i64 1)), none⟩,
  ⟨some 138, .cut 1 (.t 132) (some (.t 133)) (some (.t 137)), none⟩,
  ⟨some 139, .mov (.t 7), none⟩,
  ⟨some 140, .callM 196 [.t 138, .t 139], none⟩]))))
 (.skip))))
 (.lv [4, 5, 6, 7, 8, 9, 11, 12, 13, 14, 16] (.reg none [⟨some 141, .mov (.t 11), none⟩,
  ⟨some 142, .mov (.t 14), none⟩,
  ⟨some 143, .mov (.t 16), none⟩,
  ⟨some 144, .conv .u32 (.t 143), none⟩,
  ⟨some 145, .iaddr 1 (.t 141) (.t 142), none⟩,
  ⟨none, .st 1 (.t 145) (.t 144), none⟩]))
def k180_1 : IR :=
 .reg none [⟨some 69, .mov (.t 14), none⟩,
  ⟨some 70, .bin .sub (.t 69) (.k (.int .i64 1)), none⟩,
  ⟨some 14, .mov (.t 70), none⟩]
def b180_0 : IR :=
 .seq (.seq (.reg none [⟨some 67, .mov (.t 14), none⟩,
  ⟨some 68, .bin .ge (.t 67) (.k (.int .i64 0)), none⟩])
 (.lv [4, 5, 6, 7, 8, 9, 11, 12, 13, 14, 68] (.cond (.t 68) (.skip)
 (.exit 0))))
 (.lv [4, 5, 6, 7, 8, 9, 11, 12, 13, 14] (.seq (.block 1 (.seq (.reg (some [0, 1, 2, 3, 4, 5, 6, 7, 8, 9, 10, 11, 12, 13, 14, 15, 16, 17]) [⟨some 71, .mov (.t 8), none⟩,
  ⟨some 72, .mov (.t 14), none⟩,
  ⟨some 73, .mov (.t 9), none⟩,
  ⟨some 74, .bin .add (.t 72) (.t 73), none⟩,
  ⟨some 75, .iaddr 1 (.t 71) (.t 74), none⟩,
  ⟨some 76, .ld false 1 (.t 75), none⟩,
  ⟨some 77, .conv .u64 (.t 76), none⟩,
  ⟨some 78, .bin .shl (.t 77) (.k (.int .u64 32)), none⟩,
  ⟨some 79, .mov (.t 8), none⟩,
  ⟨some 80, .mov (.t 14), none⟩,
  ⟨some 81, .mov (.t 9), none⟩,
  ⟨some 82, .bin .add (.t 80) (.t 81), none⟩,
  ⟨some 83, .bin .sub (.t 82) (.k (.int .i64 1)), none⟩,
  ⟨some 84, .iaddr 1 (.t 79) (.t 83), none⟩,
  ⟨some 85, .ld false 1 (.t 84), none⟩,
  ⟨some 86, .conv .u64 (.t 85), none⟩,
  ⟨some 87, .bin .or (.t 78) (.t 86), none⟩,
  ⟨some 15, .mov (.t 87), none⟩])
 (.lv [4, 5, 6, 7, 8, 9, 11, 12, 13, 14, 15] (.seq (.reg (some [0, 1, 2, 3, 4, 5, 6, 7]) [⟨some 88, .mov (.t 15), none⟩,
  ⟨some 89, .mov (.t 12), none⟩,
  ⟨some 90, .bin .quo (.t 88) (.t 89), none⟩,
  ⟨some 91, .mov (.t 15), none⟩,
  ⟨some 92, .mov (.t 12), none⟩,
  ⟨some 93, .bin .rem (.t 91) (.t 92), none⟩,
  ⟨some 16, .mov (.t 90), none⟩,
  ⟨some 17, .mov (.t 93), none⟩])
 (.lv [4, 5, 6, 7, 8, 9, 11, 12, 13, 14, 16, 17] (.seq (.block 2 (.loop [4, 5, 6, 7, 8, 9, 11, 12, 13, 14, 16, 17] (some (8, [])) b180_1))
 k180_0))))))
 k180_1))
def k180_2 : IR :=
 .seq (.reg none [⟨some 146, .mov (.t 11), none⟩,
  ⟨some 147, .callF 175 [.t 146], none⟩,
  ⟨some 148, .mov (.t 8), none⟩,
  ⟨some 149, .callF 175 [.t 148], none⟩,
  ⟨some 150, .mov (.t 6), none⟩,
  ⟨some 151, .callP 197 [.t 149, .t 150], none⟩,
  ⟨none, .st 1 (.t 4) (.t 147), none⟩,
  ⟨none, .st 1 (.t 5) (.t 151), none⟩])
 (.ret)
def c180 : IR :=
 .seq (.reg none [⟨some 2, .box 94 1 (.t 0), none⟩,
  ⟨some 3, .box 94 1 (.t 1), none⟩,
  ⟨some 4, .alloc 94 [.nilsl 191 1], none⟩,
  ⟨some 5, .alloc 94 [.nilsl 191 1], none⟩])
 (.lv [2, 3, 4, 5] (.seq (.reg none [⟨some 18, .faddr 0 (.t 3), none⟩,
  ⟨some 19, .ld false 1 (.t 18), none⟩,
  ⟨some 20, .faddr 0 (.t 3), none⟩,
  ⟨some 21, .ld false 1 (.t 20), none⟩,
  ⟨some 22, .lenf (.t 21), none⟩,
  ⟨some 23, .bin .sub (.t 22) (.k (.int .i64 1)), none⟩,
  ⟨some 24, .iaddrf 1 (.t 19) (.t 23), none⟩,
  ⟨some 25, .ldf false 1 (.t 24), none⟩,
  ⟨some 26, .callP 193 [.t 25], none⟩,
  ⟨some 6, .mov (.t 26), none⟩])
 (.lv [2, 3, 4, 5, 6] (.seq (.reg none [⟨some 27, .ld true 1 (.t 3), none⟩,
  ⟨some 28, .mov (.t 6), none⟩,
  ⟨some 29, .callP 194 [.t 27, .t 28], none⟩,
  ⟨some 30, .fld false 0 1 (.t 29), none⟩,
  ⟨some 7, .mov (.t 30), none⟩])
 (.lv [2, 3, 4, 5, 6, 7] (.seq (.reg none [⟨some 31, .faddr 0 (.t 2), none⟩,
  ⟨some 32, .ld false 1 (.t 31), none⟩,
  ⟨some 33, .lenf (.t 32), none⟩,
  ⟨some 34, .bin .add (.t 33) (.k (.int .i64 1)), none⟩,
  ⟨some 35, .mk 191 4 [.int .u32 0] (.t 34), none⟩,
  ⟨some 8, .mov (.t 35), none⟩])
 (.lv [2, 3, 4, 5, 6, 7, 8] (.seq (.reg none [⟨some 36, .mov (.t 8), none⟩,
  ⟨some 37, .ld true 1 (.t 2), none⟩,
  ⟨some 38, .mov (.t 6), none⟩,
  ⟨some 39, .callP 194 [.t 37, .t 38], none⟩,
  ⟨some 40, .fld false 0 1 (.t 39), none⟩,
  ⟨some 41, .cpy 1 (.t 36) (.t 40), none⟩])
 (.lv [2, 3, 4, 5, 6, 7, 8] (.seq (.reg (some [0, 1, 2, 3, 4, 5, 6, 7, 8, 9, 10]) [⟨some 42, .mov (.t 7), none⟩,
  ⟨some 43, .lenf (.t 42), none⟩,
  ⟨some 44, .faddr 0 (.t 2), none⟩,
  ⟨some 45, .ld false 1 (.t 44), none⟩,
  ⟨some 46, .lenf (.t 45), none⟩,
  ⟨some 47, .faddr 0 (.t 3), none⟩,
  ⟨some 48, .ld false 1 (.t 47), none⟩,
  ⟨some 49, .lenf (.t 48), none⟩,
  ⟨some 50, .bin .sub (.t 46) (.t 49), none⟩,
  ⟨some 9, .mov (.t 43), none⟩,
  ⟨some 10, .mov (.t 50), none⟩])
 (.lv [4, 5, 6, 7, 8, 9, 10] (.seq (.reg none [⟨some 51, .mov (.t 10), none⟩,
  ⟨some 52, .bin .add (.t 51) (.k (.int .i64 1)), none⟩,
  ⟨some 53, .mk 191 4 [.int .u32 0] (.t 52), none⟩,
  ⟨some 11, .mov (.t 53), none⟩])
 (.lv [4, 5, 6, 7, 8, 9, 10, 11] (.seq (.reg (some [0, 1, 2, 3, 4, 5, 6, 7, 8, 9, 10, 11, 12, 13]) [⟨some 54, .mov (.t 7), none⟩,
  ⟨some 55, .mov (.t 9), none⟩,
  ⟨some 56, .bin .sub (.t 55) (.k (.int .i64 1)), none⟩,
  ⟨some 57, .iaddrf 1 (.t 54) (.t 56), none⟩,
  ⟨some 58, .ldf false 1 (.t 57), none⟩,
  ⟨some 59, .conv .u64 (.t 58), none⟩,
  ⟨some 60, .mov (.t 7), none⟩,
  ⟨some 61, .mov (.t 9), none⟩,
  ⟨some 62, .bin .sub (.t 61) (.k (.int .i64 2)), none⟩,
  ⟨some 63, .iaddrf 1 (.t 60) (.t 62), none⟩,
  ⟨some 64, .ldf false 1 (.t 63), none⟩,
  ⟨some 65, .conv .u64 (.t 64), none⟩,
  ⟨some 12, .mov (.t 59), none⟩,
  ⟨some 13, .mov (.t 65), none⟩])
 (.lv [4, 5, 6, 7, 8, 9, 10, 11, 12, 13] (.seq (.seq (.reg none [⟨some 66, .mov (.t 10), none⟩,
  ⟨some 14, .mov (.t 66), none⟩])
 (.lv [4, 5, 6, 7, 8, 9, 11, 12, 13, 14] (.block 0 (.loop [4, 5, 6, 7, 8, 9, 11, 12, 13, 14] (some (8, [])) b180_0))))
 k180_2))))))))))))))))
def i180 : IFn := ⟨2, 152, c180, [.c 4 true 1, .c 5 true 1], .pure⟩
def b181_0 : IR :=
 .seq (.seq (.reg (some [0, 1, 2, 3, 4, 5, 6, 7, 8, 9, 10, 11, 12, 13, 14, 15, 16, 17, 18]) [⟨some 34, .mov (.t 9), none⟩,
  ⟨some 35, .bin .lt (.t 34) (.k (.int .i64 2)), none⟩,
  ⟨some 36, .mov (.t 35), none⟩,
  ⟨some 37, .ld true 2 (.t 8), (some (36, true))⟩,
  ⟨some 38, .faddr 1 (.t 3), (some (36, true))⟩,
  ⟨some 39, .ld false 1 (.t 38), (some (36, true))⟩,
  ⟨some 40, .callP 182 [.k (.bool false), .t 39], (some (36, true))⟩,
  ⟨some 41, .callP 164 [.t 37, .t 40], (some (36, true))⟩,
  ⟨some 42, .faddr 0 (.t 2), (some (36, true))⟩,
  ⟨some 43, .ld false 1 (.t 42), (some (36, true))⟩,
  ⟨some 44, .faddr 0 (.t 3), (some (36, true))⟩,
  ⟨some 45, .ld false 1 (.t 44), (some (36, true))⟩,
  ⟨some 46, .binb .ne (.t 43) (.t 45), (some (36, true))⟩,
  ⟨some 47, .faddr 1 (.t 2), (some (36, true))⟩,
  ⟨some 48, .ld false 1 (.t 47), (some (36, true))⟩,
  ⟨some 49, .callP 182 [.t 46, .t 48], (some (36, true))⟩,
  ⟨some 50, .callP 198 [.t 41, .t 49], (some (36, true))⟩,
  ⟨some 51, .bin .gt (.t 50) (.k (.int .i64 0)), (some (36, true))⟩,
  ⟨some 52, .pick (.t 36) (.t 51) (.k (.bool false)), none⟩])
 (.lv [2, 3, 4, 5, 8, 9, 52] (.cond (.t 52) (.skip)
 (.exit 0))))
 (.lv [2, 3, 4, 5, 8, 9] (.seq (.block 1 (.reg none [⟨some 55, .ld true 2 (.t 8), none⟩,
  ⟨some 56, .build [.bool false, .str ⟨#[]⟩] [(0, 1, .k (.bool true)), (1, 1, .k (.str ⟨#[49]⟩))], none⟩,
  ⟨some 57, .callP 167 [.t 55, .t 56], none⟩,
  ⟨none, .st 2 (.t 8) (.t 57), none⟩]))
 (.lv [2, 3, 4, 5, 8, 9] (.reg none [⟨some 53, .mov (.t 9), none⟩,
  ⟨some 54, .bin .add (.t 53) (.k (.int .i64 1)), none⟩,
  ⟨some 9, .mov (.t 54), none⟩]))))
def k181_0 : IR :=
 .seq (.reg (some [0, 1, 2, 3, 4, 5, 6, 7, 8]) [⟨some 58, .ld true 2 (.t 8), none⟩,
  ⟨some 59, .ld true 2 (.t 2), none⟩,
  ⟨some 60, .ld true 2 (.t 8), none⟩,
  ⟨some 61, .ld true 2 (.t 3), none⟩,
  ⟨some 62, .callP 164 [.t 60, .t 61], none⟩,
  ⟨some 63, .callP 199 [.t 62], none⟩,
  ⟨some 64, .callP 167 [.t 59, .t 63], none⟩,
  ⟨none, .st 2 (.t 4) (.t 58), none⟩,
  ⟨none, .st 2 (.t 5) (.t 64), none⟩])
 (.ret)
def c181 : IR :=
 .seq (.reg none [⟨some 2, .box 164 2 (.t 0), none⟩,
  ⟨some 3, .box 164 2 (.t 1), none⟩,
  ⟨some 4, .alloc 164 [.bool false, .str ⟨#[]⟩], none⟩,
  ⟨some 5, .alloc 164 [.bool false, .str ⟨#[]⟩], none⟩])
 (.lv [2, 3, 4, 5] (.seq (.reg none [⟨some 11, .faddr 1 (.t 2), none⟩,
  ⟨some 12, .ld false 1 (.t 11), none⟩,
  ⟨some 13, .faddr 1 (.t 3), none⟩,
  ⟨some 14, .ld false 1 (.t 13), none⟩,
  ⟨some 15, .callP 174 [.t 12, .t 14], none⟩,
  ⟨some 10, .mov (.t 15), none⟩,
  ⟨some 16, .ext (.t 10) 0, none⟩,
  ⟨some 17, .ext (.t 10) 1, none⟩,
  ⟨some 6, .mov (.t 16), none⟩,
  ⟨some 7, .mov (.t 17), none⟩])
 (.lv [2, 3, 4, 5, 6] (.seq (.reg none [⟨some 18, .faddr 0 (.t 2), none⟩,
  ⟨some 19, .ld false 1 (.t 18), none⟩,
  ⟨some 20, .faddr 0 (.t 3), none⟩,
  ⟨some 21, .ld false 1 (.t 20), none⟩,
  ⟨some 22, .binb .ne (.t 19) (.t 21), none⟩,
  ⟨some 23, .mov (.t 6), none⟩,
  ⟨some 24, .callP 182 [.t 22, .t 23], none⟩,
  ⟨some 8, .alloc 164 [.bool false, .str ⟨#[]⟩], none⟩,
  ⟨none, .st 2 (.t 8) (.t 24), none⟩])
 (.lv [2, 3, 4, 5, 8] (.seq (.seq (.reg none [⟨some 25, .faddr 0 (.t 8), none⟩,
  ⟨some 26, .ld false 1 (.t 25), none⟩,
  ⟨some 27, .mov (.t 26), none⟩,
  ⟨some 28, .faddr 0 (.t 2), (some (27, false))⟩,
  ⟨some 29, .ld false 1 (.t 28), (some (27, false))⟩,
  ⟨some 30, .faddr 0 (.t 3), (some (27, false))⟩,
  ⟨some 31, .ld false 1 (.t 30), (some (27, false))⟩,
  ⟨some 32, .binb .ne (.t 29) (.t 31), (some (27, false))⟩,
  ⟨some 33, .pick (.t 27) (.k (.bool true)) (.t 32), none⟩])
 (.lv [2, 3, 4, 5, 8, 33] (.cond (.t 33) (.lv [2, 3, 4, 5, 8] (.seq (.reg none [⟨some 9, .mov (.k (.int .i64 0)), none⟩])
 (.lv [2, 3, 4, 5, 8, 9] (.block 0 (.loop [2, 3, 4, 5, 8, 9] (some (5, [])) b181_0)))))
 (.skip))))
 k181_0))))))
def i181 : IFn := ⟨2, 65, c181, [.c 4 true 2, .c 5 true 2], .pure⟩
def c182 : IR :=
 .seq (.reg none [⟨some 4, .alloc 164 [.bool false, .str ⟨#[]⟩], none⟩])
 (.lv [0, 1, 4] (.seq (.reg none [⟨some 5, .mov (.t 1), none⟩,
  ⟨some 6, .callP 146 [.t 5], none⟩,
  ⟨some 1, .mov (.t 6), none⟩])
 (.lv [0, 1, 4] (.seq (.reg none [⟨some 7, .mov (.t 0), none⟩,
  ⟨some 8, .mov (.t 7), none⟩,
  ⟨some 9, .mov (.t 1), (some (8, true))⟩,
  ⟨some 10, .bin .ne (.t 9) (.k (.str ⟨#[48]⟩)), (some (8, true))⟩,
  ⟨some 11, .pick (.t 8) (.t 10) (.k (.bool false)), none⟩,
  ⟨some 12, .mov (.t 1), none⟩,
  ⟨some 13, .build [.bool false, .str ⟨#[]⟩] [(0, 1, .t 11), (1, 1, .t 12)], none⟩,
  ⟨none, .st 2 (.t 4) (.t 13), none⟩])
 (.ret)))))
def i182 : IFn := ⟨2, 14, c182, [.c 4 true 2], .pure⟩
def b183_1 : IR :=
 .seq (.seq (.reg none [⟨some 23, .mov (.t 8), none⟩,
  ⟨some 24, .mov (.t 1), none⟩,
  ⟨some 25, .slen (.t 24), none⟩,
  ⟨some 26, .bin .lt (.t 23) (.t 25), none⟩,
  ⟨some 27, .mov (.t 26), none⟩,
  ⟨some 28, .mov (.t 7), (some (27, false))⟩,
  ⟨some 29, .bin .gt (.t 28) (.k (.int .i64 0)), (some (27, false))⟩,
  ⟨some 30, .pick (.t 27) (.k (.bool true)) (.t 29), none⟩])
 (.lv [0, 1, 5, 6, 7, 8, 30] (.cond (.t 30) (.skip)
 (.exit 2))))
 (.lv [0, 1, 5, 6, 7, 8] (.seq (.block 3 (.seq (.reg (some [0, 1, 2, 3, 4, 5, 6, 7, 8, 9, 10, 11, 12, 13, 14, 15, 16]) [⟨some 33, .mov (.t 5), none⟩,
  ⟨some 34, .mov (.t 6), none⟩,
  ⟨some 35, .mov (.t 8), none⟩,
  ⟨some 36, .bin .add (.t 34) (.t 35), none⟩,
  ⟨some 37, .iaddr 1 (.t 33) (.t 36), none⟩,
  ⟨some 38, .ld false 1 (.t 37), none⟩,
  ⟨some 39, .mov (.t 0), none⟩,
  ⟨some 40, .mov (.t 6), none⟩,
  ⟨some 41, .callP 200 [.t 39, .t 40], none⟩,
  ⟨some 42, .mov (.t 1), none⟩,
  ⟨some 43, .mov (.t 8), none⟩,
  ⟨some 44, .callP 200 [.t 42, .t 43], none⟩,
  ⟨some 45, .bin .mul (.t 41) (.t 44), none⟩,
  ⟨some 46, .bin .add (.t 38) (.t 45), none⟩,
  ⟨some 47, .mov (.t 7), none⟩,
  ⟨some 48, .bin .add (.t 46) (.t 47), none⟩,
  ⟨some 9, .mov (.t 48), none⟩])
 (.lv [0, 1, 5, 6, 8, 9] (.seq (.reg none [⟨some 49, .mov (.t 5), none⟩,
  ⟨some 50, .mov (.t 6), none⟩,
  ⟨some 51, .mov (.t 8), none⟩,
  ⟨some 52, .bin .add (.t 50) (.t 51), none⟩,
  ⟨some 53, .mov (.t 9), none⟩,
  ⟨some 54, .bin .rem (.t 53) (.k (.int .i64 10)), none⟩,
  ⟨some 55, .iaddr 1 (.t 49) (.t 52), none⟩,
  ⟨none, .st 1 (.t 55) (.t 54), none⟩])
 (.lv [0, 1, 5, 6, 8, 9] (.reg none [⟨some 56, .mov (.t 9), none⟩,
  ⟨some 57, .bin .quo (.t 56) (.k (.int .i64 10)), none⟩,
  ⟨some 7, .mov (.t 57), none⟩]))))))
 (.lv [0, 1, 5, 6, 7, 8] (.reg none [⟨some 31, .mov (.t 8), none⟩,
  ⟨some 32, .bin .add (.t 31) (.k (.int .i64 1)), none⟩,
  ⟨some 8, .mov (.t 32), none⟩]))))
def k183_0 : IR :=
 .reg none [⟨some 21, .mov (.t 6), none⟩,
  ⟨some 22, .bin .add (.t 21) (.k (.int .i64 1)), none⟩,
  ⟨some 6, .mov (.t 22), none⟩]
def b183_0 : IR :=
 .seq (.seq (.reg none [⟨some 17, .mov (.t 6), none⟩,
  ⟨some 18, .mov (.t 0), none⟩,
  ⟨some 19, .slen (.t 18), none⟩,
  ⟨some 20, .bin .lt (.t 17) (.t 19), none⟩])
 (.lv [0, 1, 5, 6, 20] (.cond (.t 20) (.skip)
 (.exit 0))))
 (.lv [0, 1, 5, 6] (.seq (.block 1 (.seq (.reg none [⟨some 7, .mov (.k (.int .i64 0)), none⟩])
 (.lv [0, 1, 5, 6, 7] (.seq (.reg none [⟨some 8, .mov (.k (.int .i64 0)), none⟩])
 (.lv [0, 1, 5, 6, 7, 8] (.block 2 (.loop [0, 1, 5, 6, 7, 8] (some (1, [])) b183_1)))))))
 k183_0))
def k183_1 : IR :=
 .seq (.reg none [⟨some 58, .mov (.t 5), none⟩,
  ⟨some 59, .callR 188 [.t 58], none⟩,
  ⟨some 4, .mov (.t 59), none⟩])
 (.ret)
def c183 : IR :=
 .seq (.reg none [⟨some 4, .mov (.k (.str ⟨#[]⟩)), none⟩])
 (.lv [0, 1] (.seq (.reg none [⟨some 10, .mov (.t 0), none⟩,
  ⟨some 11, .slen (.t 10), none⟩,
  ⟨some 12, .mov (.t 1), none⟩,
  ⟨some 13, .slen (.t 12), none⟩,
  ⟨some 14, .bin .add (.t 11) (.t 13), none⟩,
  ⟨some 15, .bin .add (.t 14) (.k (.int .i64 1)), none⟩,
  ⟨some 16, .mk 3 8 [.int .i64 0] (.t 15), none⟩,
  ⟨some 5, .mov (.t 16), none⟩])
 (.lv [0, 1, 5] (.seq (.seq (.reg none [⟨some 6, .mov (.k (.int .i64 0)), none⟩])
 (.lv [0, 1, 5, 6] (.block 0 (.loop [0, 1, 5, 6] (some (1, [])) b183_0))))
 k183_1))))
def i183 : IFn := ⟨2, 60, c183, [.t 4], .pure⟩
def b184_0 : IR :=
 .seq (.seq (.reg none [⟨some 9, .mov (.t 7), none⟩,
  ⟨some 10, .mov (.t 0), none⟩,
  ⟨some 11, .slen (.t 10), none⟩,
  ⟨some 12, .bin .lt (.t 9) (.t 11), none⟩,
  ⟨some 13, .mov (.t 12), none⟩,
  ⟨some 14, .mov (.t 7), (some (13, false))⟩,
  ⟨some 15, .mov (.t 1), (some (13, false))⟩,
  ⟨some 16, .slen (.t 15), (some (13, false))⟩,
  ⟨some 17, .bin .lt (.t 14) (.t 16), (some (13, false))⟩,
  ⟨some 18, .pick (.t 13) (.k (.bool true)) (.t 17), none⟩,
  ⟨some 19, .mov (.t 18), none⟩,
  ⟨some 20, .mov (.t 6), (some (19, false))⟩,
  ⟨some 21, .bin .gt (.t 20) (.k (.int .i64 0)), (some (19, false))⟩,
  ⟨some 22, .pick (.t 19) (.k (.bool true)) (.t 21), none⟩])
 (.lv [0, 1, 5, 6, 7, 22] (.cond (.t 22) (.skip)
 (.exit 0))))
 (.lv [0, 1, 5, 6, 7] (.seq (.block 1 (.seq (.reg none [⟨some 25, .mov (.t 0), none⟩,
  ⟨some 26, .mov (.t 7), none⟩,
  ⟨some 27, .callP 200 [.t 25, .t 26], none⟩,
  ⟨some 28, .mov (.t 1), none⟩,
  ⟨some 29, .mov (.t 7), none⟩,
  ⟨some 30, .callP 200 [.t 28, .t 29], none⟩,
  ⟨some 31, .bin .add (.t 27) (.t 30), none⟩,
  ⟨some 32, .mov (.t 6), none⟩,
  ⟨some 33, .bin .add (.t 31) (.t 32), none⟩,
  ⟨some 8, .mov (.t 33), none⟩])
 (.lv [0, 1, 5, 7, 8] (.seq (.reg none [⟨some 34, .mov (.t 5), none⟩,
  ⟨some 35, .mov (.t 8), none⟩,
  ⟨some 36, .bin .rem (.t 35) (.k (.int .i64 10)), none⟩,
  ⟨some 37, .bsl 3 1 [.t 36], none⟩,
  ⟨some 38, .app 3 1 8 (.t 34) (.t 37), none⟩,
  ⟨some 5, .mov (.t 38), none⟩])
 (.lv [0, 1, 5, 7, 8] (.reg none [⟨some 39, .mov (.t 8), none⟩,
  ⟨some 40, .bin .quo (.t 39) (.k (.int .i64 10)), none⟩,
  ⟨some 6, .mov (.t 40), none⟩]))))))
 (.lv [0, 1, 5, 6, 7] (.reg none [⟨some 23, .mov (.t 7), none⟩,
  ⟨some 24, .bin .add (.t 23) (.k (.int .i64 1)), none⟩,
  ⟨some 7, .mov (.t 24), none⟩]))))
def k184_0 : IR :=
 .seq (.reg none [⟨some 41, .mov (.t 5), none⟩,
  ⟨some 42, .callR 188 [.t 41], none⟩,
  ⟨some 4, .mov (.t 42), none⟩])
 (.ret)
def c184 : IR :=
 .seq (.reg none [⟨some 4, .mov (.k (.str ⟨#[]⟩)), none⟩])
 (.lv [0, 1] (.seq (.reg none [⟨some 5, .newnil 3 1, none⟩])
 (.lv [0, 1, 5] (.seq (.reg none [⟨some 6, .mov (.k (.int .i64 0)), none⟩])
 (.lv [0, 1, 5, 6] (.seq (.seq (.reg none [⟨some 7, .mov (.k (.int .i64 0)), none⟩])
 (.lv [0, 1, 5, 6, 7] (.block 0 (.loop [0, 1, 5, 6, 7] (some (1, [])) b184_0))))
 k184_0))))))
def i184 : IFn := ⟨2, 43, c184, [.t 4], .pure⟩
def c185 : IR :=
 .seq (.reg none [⟨some 4, .mov (.k (.int .i64 0)), none⟩])
 (.lv [0, 1] (.seq (.seq (.reg none [⟨some 5, .mov (.t 0), none⟩,
  ⟨some 6, .slen (.t 5), none⟩,
  ⟨some 7, .mov (.t 1), none⟩,
  ⟨some 8, .slen (.t 7), none⟩,
  ⟨some 9, .bin .ne (.t 6) (.t 8), none⟩])
 (.lv [0, 1, 9] (.cond (.t 9) (.lv [0, 1] (.seq (.seq (.reg none [⟨some 10, .mov (.t 0), none⟩,
  ⟨some 11, .slen (.t 10), none⟩,
  ⟨some 12, .mov (.t 1), none⟩,
  ⟨some 13, .slen (.t 12), none⟩,
  ⟨some 14, .bin .lt (.t 11) (.t 13), none⟩])
 (.lv [14] (.cond (.t 14) (.lv [] (.seq (.reg none [⟨some 4, .mov (.k (.int .i64 (-1))), none⟩])
 (.ret)))
 (.skip))))
 (.lv [] (.seq (.reg none [⟨some 4, .mov (.k (.int .i64 1)), none⟩])
 (.ret)))))
 (.skip))))
 (.lv [0, 1] (.seq (.seq (.reg none [⟨some 15, .mov (.t 0), none⟩,
  ⟨some 16, .mov (.t 1), none⟩,
  ⟨some 17, .bin .eq (.t 15) (.t 16), none⟩])
 (.lv [0, 1, 17] (.cond (.t 17) (.lv [] (.seq (.reg none [⟨some 4, .mov (.k (.int .i64 0)), none⟩])
 (.ret)))
 (.skip))))
 (.lv [0, 1] (.seq (.seq (.reg none [⟨some 18, .mov (.t 0), none⟩,
  ⟨some 19, .mov (.t 1), none⟩,
  ⟨some 20, .bin .lt (.t 18) (.t 19), none⟩])
 (.lv [20] (.cond (.t 20) (.lv [] (.seq (.reg none [⟨some 4, .mov (.k (.int .i64 (-1))), none⟩])
 (.ret)))
 (.skip))))
 (.lv [] (.seq (.reg none [⟨some 4, .mov (.k (.int .i64 1)), none⟩])
 (.ret)))))))))
def i185 : IFn := ⟨2, 21, c185, [.t 4], .pure⟩
def b186_0 : IR :=
 .seq (.seq (.reg none [⟨some 9, .mov (.t 7), none⟩,
  ⟨some 10, .mov (.t 0), none⟩,
  ⟨some 11, .slen (.t 10), none⟩,
  ⟨some 12, .bin .lt (.t 9) (.t 11), none⟩])
 (.lv [0, 1, 5, 6, 7, 12] (.cond (.t 12) (.skip)
 (.exit 0))))
 (.lv [0, 1, 5, 6, 7] (.seq (.block 1 (.seq (.reg none [⟨some 15, .mov (.t 0), none⟩,
  ⟨some 16, .mov (.t 7), none⟩,
  ⟨some 17, .callP 200 [.t 15, .t 16], none⟩,
  ⟨some 18, .mov (.t 1), none⟩,
  ⟨some 19, .mov (.t 7), none⟩,
  ⟨some 20, .callP 200 [.t 18, .t 19], none⟩,
  ⟨some 21, .bin .sub (.t 17) (.t 20), none⟩,
  ⟨some 22, .mov (.t 6), none⟩,
  ⟨some 23, .bin .sub (.t 21) (.t 22), none⟩,
  ⟨some 8, .mov (.t 23), none⟩])
 (.lv [0, 1, 5, 7, 8] (.seq (.reg none [⟨some 6, .mov (.k (.int .i64 0)), none⟩])
 (.lv [0, 1, 5, 6, 7, 8] (.seq (.seq (.reg none [⟨some 24, .mov (.t 8), none⟩,
  ⟨some 25, .bin .lt (.t 24) (.k (.int .i64 0)), none⟩])
 (.lv [0, 1, 5, 6, 7, 8, 25] (.cond (.t 25) (.lv [0, 1, 5, 7, 8] (.seq (.reg none [⟨some 26, .mov (.t 8), none⟩,
  ⟨some 27, .bin .add (.t 26) (.k (.int .i64 10)), none⟩,
  ⟨some 8, .mov (.t 27), none⟩])
 (.lv [0, 1, 5, 7, 8] (.reg none [⟨some 6, .mov (.k (.int .i64 1)), none⟩]))))
 (.skip))))
 (.lv [0, 1, 5, 6, 7, 8] (.reg none [⟨some 28, .mov (.t 5), none⟩,
  ⟨some 29, .mov (.t 8), none⟩,
  ⟨some 30, .bsl 3 1 [.t 29], none⟩,
  ⟨some 31, .app 3 1 8 (.t 28) (.t 30), none⟩,
  ⟨some 5, .mov (.t 31), none⟩]))))))))
 (.lv [0, 1, 5, 6, 7] (.reg none [⟨some 13, .mov (.t 7), none⟩,
  ⟨some 14, .bin .add (.t 13) (.k (.int .i64 1)), none⟩,
  ⟨some 7, .mov (.t 14), none⟩]))))
def k186_0 : IR :=
 .seq (.reg none [⟨some 32, .mov (.t 5), none⟩,
  ⟨some 33, .callR 188 [.t 32], none⟩,
  ⟨some 4, .mov (.t 33), none⟩])
 (.ret)
def c186 : IR :=
 .seq (.reg none [⟨some 4, .mov (.k (.str ⟨#[]⟩)), none⟩])
 (.lv [0, 1] (.seq (.reg none [⟨some 5, .newnil 3 1, none⟩])
 (.lv [0, 1, 5] (.seq (.reg none [⟨some 6, .mov (.k (.int .i64 0)), none⟩])
 (.lv [0, 1, 5, 6] (.seq (.seq (.reg none [⟨some 7, .mov (.k (.int .i64 0)), none⟩])
 (.lv [0, 1, 5, 6, 7] (.block 0 (.loop [0, 1, 5, 6, 7] (some (1, [])) b186_0))))
 k186_0))))))
def i186 : IFn := ⟨2, 34, c186, [.t 4], .pure⟩
def b187_0 : IR :=
 .seq (.seq (.reg none [⟨some 9, .mov (.t 6), none⟩,
  ⟨some 10, .mov (.t 0), none⟩,
  ⟨some 11, .slen (.t 10), none⟩,
  ⟨some 12, .bin .lt (.t 9) (.t 11), none⟩])
 (.lv [0, 3, 4, 5, 6, 12] (.cond (.t 12) (.skip)
 (.exit 0))))
 (.lv [0, 3, 4, 5, 6] (.seq (.block 1 (.seq (.reg none [⟨some 15, .mov (.t 4), none⟩,
  ⟨some 16, .bin .mul (.t 15) (.k (.int .i64 10)), none⟩,
  ⟨some 17, .mov (.t 0), none⟩,
  ⟨some 18, .mov (.t 6), none⟩,
  ⟨some 19, .sidx (.t 17) (.t 18), none⟩,
  ⟨some 20, .bin .sub (.t 19) (.k (.int .u8 48)), none⟩,
  ⟨some 21, .conv .i64 (.t 20), none⟩,
  ⟨some 22, .bin .add (.t 16) (.t 21), none⟩,
  ⟨some 4, .mov (.t 22), none⟩])
 (.lv [0, 3, 4, 5, 6] (.seq (.reg none [⟨some 23, .mov (.t 5), none⟩,
  ⟨some 24, .bin .sub (.t 23) (.k (.int .i64 1)), none⟩,
  ⟨some 5, .mov (.t 24), none⟩])
 (.lv [0, 3, 4, 5, 6] (.seq (.reg none [⟨some 25, .mov (.t 5), none⟩,
  ⟨some 26, .bin .rem (.t 25) (.k (.int .i64 9)), none⟩,
  ⟨some 27, .bin .eq (.t 26) (.k (.int .i64 0)), none⟩])
 (.lv [0, 3, 4, 5, 6, 27] (.cond (.t 27) (.lv [0, 3, 4, 5, 6] (.seq (.reg none [⟨some 28, .mov (.t 3), none⟩,
  ⟨some 29, .mov (.t 4), none⟩,
  ⟨some 30, .bsl 3 1 [.t 29], none⟩,
  ⟨some 31, .app 3 1 8 (.t 28) (.t 30), none⟩,
  ⟨some 3, .mov (.t 31), none⟩])
 (.lv [0, 3, 5, 6] (.reg none [⟨some 4, .mov (.k (.int .i64 0)), none⟩]))))
 (.skip)))))))))
 (.lv [0, 3, 4, 5, 6] (.reg none [⟨some 13, .mov (.t 6), none⟩,
  ⟨some 14, .bin .add (.t 13) (.k (.int .i64 1)), none⟩,
  ⟨some 6, .mov (.t 14), none⟩]))))
def k187_0 : IR :=
 .seq (.reg none [⟨some 32, .mov (.t 3), none⟩,
  ⟨some 2, .mov (.t 32), none⟩])
 (.ret)
def c187 : IR :=
 .seq (.reg none [⟨some 2, .newnil 3 1, none⟩])
 (.lv [0] (.seq (.reg none [⟨some 3, .newnil 3 1, none⟩])
 (.lv [0, 3] (.seq (.reg none [⟨some 7, .mov (.t 0), none⟩,
  ⟨some 8, .slen (.t 7), none⟩,
  ⟨some 4, .mov (.k (.int .i64 0)), none⟩,
  ⟨some 5, .mov (.t 8), none⟩])
 (.lv [0, 3, 4, 5] (.seq (.seq (.reg none [⟨some 6, .mov (.k (.int .i64 0)), none⟩])
 (.lv [0, 3, 4, 5, 6] (.block 0 (.loop [0, 3, 4, 5, 6] (some (2, [])) b187_0))))
 k187_0))))))
def i187 : IFn := ⟨1, 33, c187, [.t 2], .pure⟩
def b188_0 : IR :=
 .seq (.seq (.reg none [⟨some 12, .mov (.t 4), none⟩,
  ⟨some 13, .bin .ge (.t 12) (.k (.int .i64 0)), none⟩])
 (.lv [0, 3, 4, 13] (.cond (.t 13) (.skip)
 (.exit 0))))
 (.lv [0, 3, 4] (.seq (.block 1 (.reg none [⟨some 16, .mov (.t 3), none⟩,
  ⟨some 17, .mov (.t 0), none⟩,
  ⟨some 18, .mov (.t 4), none⟩,
  ⟨some 19, .iaddrf 1 (.t 17) (.t 18), none⟩,
  ⟨some 20, .ldf false 1 (.t 19), none⟩,
  ⟨some 21, .bin .add (.k (.int .i64 48)) (.t 20), none⟩,
  ⟨some 22, .conv .u8 (.t 21), none⟩,
  ⟨some 23, .bsl 5 1 [.t 22], none⟩,
  ⟨some 24, .app 5 1 1 (.t 16) (.t 23), none⟩,
  ⟨some 3, .mov (.t 24), none⟩]))
 (.lv [0, 3, 4] (.reg none [⟨some 14, .mov (.t 4), none⟩,
  ⟨some 15, .bin .sub (.t 14) (.k (.int .i64 1)), none⟩,
  ⟨some 4, .mov (.t 15), none⟩]))))
def k188_0 : IR :=
 .seq (.seq (.reg none [⟨some 25, .mov (.t 3), none⟩,
  ⟨some 26, .len (.t 25), none⟩,
  ⟨some 27, .bin .eq (.t 26) (.k (.int .i64 0)), none⟩])
 (.lv [3, 27] (.cond (.t 27) (.lv [] (.seq (.reg none [⟨some 2, .mov (.k (.str ⟨#[48]⟩)), none⟩])
 (.ret)))
 (.skip))))
 (.lv [3] (.seq (.reg none [⟨some 28, .mov (.t 3), none⟩,
  ⟨some 29, .b2s (.t 28), none⟩,
  ⟨some 30, .callP 146 [.t 29], none⟩,
  ⟨some 2, .mov (.t 30), none⟩])
 (.ret)))
def c188 : IR :=
 .seq (.reg none [⟨some 2, .mov (.k (.str ⟨#[]⟩)), none⟩])
 (.lv [0] (.seq (.reg none [⟨some 5, .mov (.t 0), none⟩,
  ⟨some 6, .lenf (.t 5), none⟩,
  ⟨some 7, .bin .add (.t 6) (.k (.int .i64 1)), none⟩,
  ⟨some 8, .mk0 5 1 1 (.t 7), none⟩,
  ⟨some 3, .mov (.t 8), none⟩])
 (.lv [0, 3] (.seq (.seq (.reg none [⟨some 9, .mov (.t 0), none⟩,
  ⟨some 10, .lenf (.t 9), none⟩,
  ⟨some 11, .bin .sub (.t 10) (.k (.int .i64 1)), none⟩,
  ⟨some 4, .mov (.t 11), none⟩])
 (.lv [0, 3, 4] (.block 0 (.loop [0, 3, 4] (some (1, [])) b188_0))))
 k188_0))))
def i188 : IFn := ⟨1, 31, c188, [.t 2], .pure⟩
def c191 : IR :=
 .seq (.reg none [⟨some 6, .mov (.k (.int .u32 0)), none⟩,
  ⟨some 7, .mov (.k (.int .u32 0)), none⟩])
 (.lv [0, 1, 2] (.seq (.reg none [⟨some 9, .mov (.t 0), none⟩,
  ⟨some 10, .conv .u64 (.t 9), none⟩,
  ⟨some 11, .mov (.t 1), none⟩,
  ⟨some 12, .conv .u64 (.t 11), none⟩,
  ⟨some 13, .bin .add (.t 10) (.t 12), none⟩,
  ⟨some 14, .mov (.t 2), none⟩,
  ⟨some 15, .conv .u64 (.t 14), none⟩,
  ⟨some 16, .bin .add (.t 13) (.t 15), none⟩,
  ⟨some 8, .mov (.t 16), none⟩])
 (.lv [8] (.seq (.reg none [⟨some 17, .mov (.t 8), none⟩,
  ⟨some 18, .conv .u32 (.t 17), none⟩,
  ⟨some 6, .mov (.t 18), none⟩])
 (.lv [6, 8] (.seq (.reg none [⟨some 19, .mov (.t 8), none⟩,
  ⟨some 20, .bin .shr (.t 19) (.k (.int .u64 32)), none⟩,
  ⟨some 21, .conv .u32 (.t 20), none⟩,
  ⟨some 7, .mov (.t 21), none⟩])
 (.ret)))))))
def i191 : IFn := ⟨3, 22, c191, [.t 6, .t 7], .pure⟩
def c192 : IR :=
 .seq (.reg none [⟨some 6, .mov (.k (.int .u32 0)), none⟩,
  ⟨some 7, .mov (.k (.int .u32 0)), none⟩])
 (.lv [0, 1, 2] (.seq (.reg none [⟨some 8, .mov (.t 0), none⟩,
  ⟨some 9, .mov (.t 1), none⟩,
  ⟨some 10, .bin .sub (.t 8) (.t 9), none⟩,
  ⟨some 11, .mov (.t 2), none⟩,
  ⟨some 12, .bin .sub (.t 10) (.t 11), none⟩,
  ⟨some 6, .mov (.t 12), none⟩])
 (.lv [0, 1, 6] (.seq (.reg none [⟨some 13, .mov (.t 0), none⟩,
  ⟨some 14, .com (.t 13), none⟩,
  ⟨some 15, .mov (.t 1), none⟩,
  ⟨some 16, .bin .and (.t 14) (.t 15), none⟩,
  ⟨some 17, .mov (.t 0), none⟩,
  ⟨some 18, .mov (.t 1), none⟩,
  ⟨some 19, .bin .xor (.t 17) (.t 18), none⟩,
  ⟨some 20, .com (.t 19), none⟩,
  ⟨some 21, .mov (.t 6), none⟩,
  ⟨some 22, .bin .and (.t 20) (.t 21), none⟩,
  ⟨some 23, .bin .or (.t 16) (.t 22), none⟩,
  ⟨some 24, .bin .shr (.t 23) (.k (.int .u64 31)), none⟩,
  ⟨some 7, .mov (.t 24), none⟩])
 (.ret)))))
def i192 : IFn := ⟨3, 25, c192, [.t 6, .t 7], .pure⟩
def c193 : IR :=
 .seq (.reg none [⟨some 2, .mov (.k (.int .i64 0)), none⟩])
 (.lv [0] (.seq (.reg none [⟨some 3, .mov (.t 0), none⟩,
  ⟨some 4, .callP 201 [.t 3], none⟩,
  ⟨some 5, .bin .sub (.k (.int .i64 32)) (.t 4), none⟩,
  ⟨some 2, .mov (.t 5), none⟩])
 (.ret)))
def i193 : IFn := ⟨1, 6, c193, [.t 2], .pure⟩
def b194_0 : IR :=
 .seq (.reg none [⟨some 36, .bin .lt (.t 35) (.t 34), none⟩])
 (.lv [4, 5, 6, 7, 33, 34, 35, 36] (.seq (.cond (.t 36) (.skip)
 (.exit 0))
 (.lv [4, 5, 6, 7, 33, 34, 35] (.seq (.block 1 (.seq (.reg none [⟨some 37, .mov (.t 35), none⟩,
  ⟨some 38, .iaddrf 1 (.t 33) (.t 35), none⟩,
  ⟨some 39, .ldf false 1 (.t 38), none⟩,
  ⟨some 8, .mov (.t 37), none⟩,
  ⟨some 9, .mov (.t 39), none⟩])
 (.lv [4, 5, 6, 7, 8, 9, 33, 34, 35] (.seq (.reg none [⟨some 40, .mov (.t 9), none⟩,
  ⟨some 41, .conv .u64 (.t 40), none⟩,
  ⟨some 42, .mov (.t 6), none⟩,
  ⟨some 43, .bin .shl (.t 41) (.t 42), none⟩,
  ⟨some 10, .mov (.t 43), none⟩])
 (.lv [4, 5, 6, 7, 8, 10, 33, 34, 35] (.seq (.reg none [⟨some 44, .mov (.t 7), none⟩,
  ⟨some 45, .mov (.t 8), none⟩,
  ⟨some 46, .mov (.t 5), none⟩,
  ⟨some 47, .bin .add (.t 45) (.t 46), none⟩,
  ⟨some 48, .iaddr 1 (.t 44) (.t 47), none⟩,
  ⟨some 49, .ld false 1 (.t 48), none⟩,
  ⟨some 50, .mov (.t 10), none⟩,
  ⟨some 51, .conv .u32 (.t 50), none⟩,
  ⟨some 52, .bin .or (.t 49) (.t 51), none⟩,
  ⟨some 53, .iaddr 1 (.t 44) (.t 47), none⟩,
  ⟨none, .st 1 (.t 53) (.t 52), none⟩])
 (.lv [4, 5, 6, 7, 8, 10, 33, 34, 35] (.reg none [⟨some 54, .mov (.t 7), none⟩,
  ⟨some 55, .mov (.t 8), none⟩,
  ⟨some 56, .mov (.t 5), none⟩,
  ⟨some 57, .bin .add (.t 55) (.t 56), none⟩,
  ⟨some 58, .bin .add (.t 57) (.k (.int .i64 1)), none⟩,
  ⟨some 59, .mov (.t 10), none⟩,
  ⟨some 60, .bin .shr (.t 59) (.k (.int .u64 32)), none⟩,
  ⟨some 61, .conv .u32 (.t 60), none⟩,
  ⟨some 62, .iaddr 1 (.t 54) (.t 58), none⟩,
  ⟨none, .st 1 (.t 62) (.t 61), none⟩]))))))))
 (.lv [4, 5, 6, 7, 33, 34, 35] (.reg none [⟨some 63, .bin .add (.t 35) (.k (.int .i64 1)), none⟩,
  ⟨some 35, .mov (.t 63), none⟩]))))))
def k194_0 : IR :=
 .seq (.reg none [⟨some 64, .mov (.t 7), none⟩,
  ⟨some 65, .callF 175 [.t 64], none⟩,
  ⟨none, .st 1 (.t 4) (.t 65), none⟩])
 (.ret)
def c194 : IR :=
 .seq (.reg none [⟨some 2, .box 94 1 (.t 0), none⟩,
  ⟨some 4, .alloc 94 [.nilsl 191 1], none⟩])
 (.lv [1, 2, 4] (.seq (.seq (.reg none [⟨some 11, .mov (.t 1), none⟩,
  ⟨some 12, .bin .le (.t 11) (.k (.int .i64 0)), none⟩,
  ⟨some 13, .mov (.t 12), none⟩,
  ⟨some 14, .faddr 0 (.t 2), (some (13, false))⟩,
  ⟨some 15, .ld false 1 (.t 14), (some (13, false))⟩,
  ⟨some 16, .lenf (.t 15), (some (13, false))⟩,
  ⟨some 17, .bin .eq (.t 16) (.k (.int .i64 0)), (some (13, false))⟩,
  ⟨some 18, .pick (.t 13) (.k (.bool true)) (.t 17), none⟩])
 (.lv [1, 2, 4, 18] (.cond (.t 18) (.lv [2, 4] (.seq (.reg none [⟨some 19, .ld true 1 (.t 2), none⟩,
  ⟨none, .st 1 (.t 4) (.t 19), none⟩])
 (.ret)))
 (.skip))))
 (.lv [1, 2, 4] (.seq (.reg none [⟨some 20, .mov (.t 1), none⟩,
  ⟨some 21, .bin .quo (.t 20) (.k (.int .i64 32)), none⟩,
  ⟨some 22, .mov (.t 1), none⟩,
  ⟨some 23, .bin .rem (.t 22) (.k (.int .i64 32)), none⟩,
  ⟨some 24, .conv .u64 (.t 23), none⟩,
  ⟨some 5, .mov (.t 21), none⟩,
  ⟨some 6, .mov (.t 24), none⟩])
 (.lv [2, 4, 5, 6] (.seq (.reg none [⟨some 25, .faddr 0 (.t 2), none⟩,
  ⟨some 26, .ld false 1 (.t 25), none⟩,
  ⟨some 27, .lenf (.t 26), none⟩,
  ⟨some 28, .mov (.t 5), none⟩,
  ⟨some 29, .bin .add (.t 27) (.t 28), none⟩,
  ⟨some 30, .bin .add (.t 29) (.k (.int .i64 1)), none⟩,
  ⟨some 31, .mk 191 4 [.int .u32 0] (.t 30), none⟩,
  ⟨some 7, .mov (.t 31), none⟩])
 (.lv [2, 4, 5, 6, 7] (.seq (.seq (.reg none [⟨some 32, .faddr 0 (.t 2), none⟩,
  ⟨some 33, .ld false 1 (.t 32), none⟩,
  ⟨some 34, .lenf (.t 33), none⟩,
  ⟨some 35, .mov (.k (.int .i64 0)), none⟩])
 (.lv [4, 5, 6, 7, 33, 34, 35] (.block 0 (.loop [4, 5, 6, 7, 33, 34, 35] (some (4, [])) b194_0))))
 k194_0))))))))
def i194 : IFn := ⟨2, 66, c194, [.c 4 true 1], .pure⟩
def b195_0 : IR :=
 .seq (.reg none [⟨some 15, .bin .lt (.t 14) (.t 13), none⟩])
 (.lv [0, 1, 2, 7, 8, 12, 13, 14, 15] (.seq (.cond (.t 15) (.skip)
 (.exit 0))
 (.lv [0, 1, 2, 7, 8, 12, 13, 14] (.seq (.block 1 (.seq (.reg none [⟨some 16, .mov (.t 14), none⟩,
  ⟨some 17, .iaddr 1 (.t 12) (.t 14), none⟩,
  ⟨some 18, .ld false 1 (.t 17), none⟩,
  ⟨some 9, .mov (.t 16), none⟩,
  ⟨some 10, .mov (.t 18), none⟩])
 (.lv [0, 1, 2, 7, 8, 9, 10, 12, 13, 14] (.seq (.reg none [⟨some 19, .mov (.t 2), none⟩,
  ⟨some 20, .mov (.t 10), none⟩,
  ⟨some 21, .conv .u64 (.t 20), none⟩,
  ⟨some 22, .bin .mul (.t 19) (.t 21), none⟩,
  ⟨some 23, .mov (.t 7), none⟩,
  ⟨some 24, .bin .add (.t 22) (.t 23), none⟩,
  ⟨some 11, .mov (.t 24), none⟩])
 (.lv [0, 1, 2, 8, 9, 11, 12, 13, 14] (.seq (.reg none [⟨some 25, .mov (.t 11), none⟩,
  ⟨some 26, .bin .shr (.t 25) (.k (.int .u64 32)), none⟩,
  ⟨some 7, .mov (.t 26), none⟩])
 (.lv [0, 1, 2, 7, 8, 9, 11, 12, 13, 14] (.reg none [⟨some 28, .mov (.t 0), none⟩,
  ⟨some 29, .mov (.t 9), none⟩,
  ⟨some 30, .mov (.t 0), none⟩,
  ⟨some 31, .mov (.t 9), none⟩,
  ⟨some 32, .iaddr 1 (.t 30) (.t 31), none⟩,
  ⟨some 33, .ld false 1 (.t 32), none⟩,
  ⟨some 34, .mov (.t 11), none⟩,
  ⟨some 35, .conv .u32 (.t 34), none⟩,
  ⟨some 36, .mov (.t 8), none⟩,
  ⟨some 37, .callR 192 [.t 33, .t 35, .t 36], none⟩,
  ⟨some 27, .mov (.t 37), none⟩,
  ⟨some 38, .ext (.t 27) 0, none⟩,
  ⟨some 39, .ext (.t 27) 1, none⟩,
  ⟨some 40, .iaddr 1 (.t 28) (.t 29), none⟩,
  ⟨none, .st 1 (.t 40) (.t 38), none⟩,
  ⟨some 8, .mov (.t 39), none⟩]))))))))
 (.lv [0, 1, 2, 7, 8, 12, 13, 14] (.reg none [⟨some 41, .bin .add (.t 14) (.k (.int .i64 1)), none⟩,
  ⟨some 14, .mov (.t 41), none⟩]))))))
def k195_0 : IR :=
 .seq (.reg none [⟨some 43, .mov (.t 0), none⟩,
  ⟨some 44, .mov (.t 1), none⟩,
  ⟨some 45, .len (.t 44), none⟩,
  ⟨some 46, .mov (.t 0), none⟩,
  ⟨some 47, .mov (.t 1), none⟩,
  ⟨some 48, .len (.t 47), none⟩,
  ⟨some 49, .iaddr 1 (.t 46) (.t 48), none⟩,
  ⟨some 50, .ld false 1 (.t 49), none⟩,
  ⟨some 51, .mov (.t 7), none⟩,
  ⟨some 52, .conv .u32 (.t 51), none⟩,
  ⟨some 53, .mov (.t 8), none⟩,
  ⟨some 54, .callR 192 [.t 50, .t 52, .t 53], none⟩,
  ⟨some 42, .mov (.t 54), none⟩,
  ⟨some 55, .ext (.t 42) 0, none⟩,
  ⟨some 56, .ext (.t 42) 1, none⟩,
  ⟨some 57, .iaddr 1 (.t 43) (.t 45), none⟩,
  ⟨none, .st 1 (.t 57) (.t 55), none⟩,
  ⟨some 8, .mov (.t 56), none⟩])
 (.lv [8] (.seq (.reg none [⟨some 58, .mov (.t 8), none⟩,
  ⟨some 59, .bin .eq (.t 58) (.k (.int .u32 1)), none⟩,
  ⟨some 6, .mov (.t 59), none⟩])
 (.ret)))
def c195 : IR :=
 .seq (.reg none [⟨some 6, .mov (.k (.bool false)), none⟩])
 (.lv [0, 1, 2] (.seq (.reg none [⟨some 7, .mov (.k (.int .u64 0)), none⟩,
  ⟨some 8, .mov (.k (.int .u32 0)), none⟩])
 (.lv [0, 1, 2, 7, 8] (.seq (.seq (.reg none [⟨some 12, .mov (.t 1), none⟩,
  ⟨some 13, .len (.t 12), none⟩,
  ⟨some 14, .mov (.k (.int .i64 0)), none⟩])
 (.lv [0, 1, 2, 7, 8, 12, 13, 14] (.block 0 (.loop [0, 1, 2, 7, 8, 12, 13, 14] none b195_0))))
 k195_0))))
def i195 : IFn := ⟨3, 60, c195, [.t 6], .ref⟩
def b196_0 : IR :=
 .seq (.reg none [⟨some 10, .bin .lt (.t 9) (.t 8), none⟩])
 (.lv [0, 1, 4, 7, 8, 9, 10] (.seq (.cond (.t 10) (.skip)
 (.exit 0))
 (.lv [0, 1, 4, 7, 8, 9] (.seq (.block 1 (.seq (.reg none [⟨some 11, .mov (.t 9), none⟩,
  ⟨some 12, .iaddr 1 (.t 7) (.t 9), none⟩,
  ⟨some 13, .ld false 1 (.t 12), none⟩,
  ⟨some 5, .mov (.t 11), none⟩,
  ⟨some 6, .mov (.t 13), none⟩])
 (.lv [0, 1, 4, 5, 6, 7, 8, 9] (.reg none [⟨some 15, .mov (.t 0), none⟩,
  ⟨some 16, .mov (.t 5), none⟩,
  ⟨some 17, .mov (.t 0), none⟩,
  ⟨some 18, .mov (.t 5), none⟩,
  ⟨some 19, .iaddr 1 (.t 17) (.t 18), none⟩,
  ⟨some 20, .ld false 1 (.t 19), none⟩,
  ⟨some 21, .mov (.t 6), none⟩,
  ⟨some 22, .mov (.t 4), none⟩,
  ⟨some 23, .callR 191 [.t 20, .t 21, .t 22], none⟩,
  ⟨some 14, .mov (.t 23), none⟩,
  ⟨some 24, .ext (.t 14) 0, none⟩,
  ⟨some 25, .ext (.t 14) 1, none⟩,
  ⟨some 26, .iaddr 1 (.t 15) (.t 16), none⟩,
  ⟨none, .st 1 (.t 26) (.t 24), none⟩,
  ⟨some 4, .mov (.t 25), none⟩]))))
 (.lv [0, 1, 4, 7, 8, 9] (.reg none [⟨some 27, .bin .add (.t 9) (.k (.int .i64 1)), none⟩,
  ⟨some 9, .mov (.t 27), none⟩]))))))
def k196_0 : IR :=
 .reg none [⟨some 28, .mov (.t 0), none⟩,
  ⟨some 29, .mov (.t 1), none⟩,
  ⟨some 30, .len (.t 29), none⟩,
  ⟨some 31, .iaddr 1 (.t 28) (.t 30), none⟩,
  ⟨some 32, .ld false 1 (.t 31), none⟩,
  ⟨some 33, .mov (.t 4), none⟩,
  ⟨some 34, .bin .add (.t 32) (.t 33), none⟩,
  ⟨some 35, .iaddr 1 (.t 28) (.t 30), none⟩,
  ⟨none, .st 1 (.t 35) (.t 34), none⟩]
def c196 : IR :=
 .seq (.reg none [⟨some 4, .mov (.k (.int .u32 0)), none⟩])
 (.lv [0, 1, 4] (.seq (.seq (.reg none [⟨some 7, .mov (.t 1), none⟩,
  ⟨some 8, .len (.t 7), none⟩,
  ⟨some 9, .mov (.k (.int .i64 0)), none⟩])
 (.lv [0, 1, 4, 7, 8, 9] (.block 0 (.loop [0, 1, 4, 7, 8, 9] none b196_0))))
 k196_0))
def i196 : IFn := ⟨2, 36, c196, [], .ref⟩
def b197_0 : IR :=
 .seq (.reg none [⟨some 33, .bin .lt (.t 32) (.t 31), none⟩])
 (.lv [2, 4, 5, 6, 7, 31, 32, 33] (.seq (.cond (.t 33) (.skip)
 (.exit 0))
 (.lv [2, 4, 5, 6, 7, 31, 32] (.seq (.block 1 (.seq (.reg none [⟨some 34, .mov (.t 32), none⟩,
  ⟨some 8, .mov (.t 34), none⟩])
 (.lv [2, 4, 5, 6, 7, 8, 31, 32] (.seq (.reg none [⟨some 35, .faddr 0 (.t 2), none⟩,
  ⟨some 36, .ld false 1 (.t 35), none⟩,
  ⟨some 37, .mov (.t 8), none⟩,
  ⟨some 38, .mov (.t 5), none⟩,
  ⟨some 39, .bin .add (.t 37) (.t 38), none⟩,
  ⟨some 40, .iaddrf 1 (.t 36) (.t 39), none⟩,
  ⟨some 41, .ldf false 1 (.t 40), none⟩,
  ⟨some 42, .conv .u64 (.t 41), none⟩,
  ⟨some 9, .mov (.t 42), none⟩])
 (.lv [2, 4, 5, 6, 7, 8, 9, 31, 32] (.seq (.seq (.reg none [⟨some 43, .mov (.t 8), none⟩,
  ⟨some 44, .mov (.t 5), none⟩,
  ⟨some 45, .bin .add (.t 43) (.t 44), none⟩,
  ⟨some 46, .bin .add (.t 45) (.k (.int .i64 1)), none⟩,
  ⟨some 47, .faddr 0 (.t 2), none⟩,
  ⟨some 48, .ld false 1 (.t 47), none⟩,
  ⟨some 49, .lenf (.t 48), none⟩,
  ⟨some 50, .bin .lt (.t 46) (.t 49), none⟩])
 (.lv [2, 4, 5, 6, 7, 8, 9, 31, 32, 50] (.cond (.t 50) (.lv [2, 4, 5, 6, 7, 8, 9, 31, 32] (.reg none [⟨some 51, .mov (.t 9), none⟩,
  ⟨some 52, .faddr 0 (.t 2), none⟩,
  ⟨some 53, .ld false 1 (.t 52), none⟩,
  ⟨some 54, .mov (.t 8), none⟩,
  ⟨some 55, .mov (.t 5), none⟩,
  ⟨some 56, .bin .add (.t 54) (.t 55), none⟩,
  ⟨some 57, .bin .add (.t 56) (.k (.int .i64 1)), none⟩,
  ⟨some 58, .iaddrf 1 (.t 53) (.t 57), none⟩,
  ⟨some 59, .ldf false 1 (.t 58), none⟩,
  ⟨some 60, .conv .u64 (.t 59), none⟩,
  ⟨some 61, .bin .shl (.t 60) (.k (.int .u64 32)), none⟩,
  ⟨some 62, .bin .or (.t 51) (.t 61), none⟩,
  ⟨some 9, .mov (.t 62), none⟩]))
 (.skip))))
 (.lv [2, 4, 5, 6, 7, 8, 9, 31, 32] (.reg none [⟨some 63, .mov (.t 7), none⟩,
  ⟨some 64, .mov (.t 8), none⟩,
  ⟨some 65, .mov (.t 9), none⟩,
  ⟨some 66, .mov (.t 6), none⟩,
  ⟨some 67, .bin .shr (.t 65) (.t 66), none⟩,
  ⟨some 68, .conv .u32 (.t 67), none⟩,
  ⟨some 69, .iaddr 1 (.t 63) (.t 64), none⟩,
  ⟨none, .st 1 (.t 69) (.t 68), none⟩]))))))))
 (.lv [2, 4, 5, 6, 7, 31, 32] (.reg none [⟨some 70, .bin .add (.t 32) (.k (.int .i64 1)), none⟩,
  ⟨some 32, .mov (.t 70), none⟩]))))))
def k197_0 : IR :=
 .seq (.reg none [⟨some 71, .mov (.t 7), none⟩,
  ⟨some 72, .callF 175 [.t 71], none⟩,
  ⟨none, .st 1 (.t 4) (.t 72), none⟩])
 (.ret)
def c197 : IR :=
 .seq (.reg none [⟨some 2, .box 94 1 (.t 0), none⟩,
  ⟨some 4, .alloc 94 [.nilsl 191 1], none⟩])
 (.lv [1, 2, 4] (.seq (.seq (.reg none [⟨some 10, .mov (.t 1), none⟩,
  ⟨some 11, .bin .le (.t 10) (.k (.int .i64 0)), none⟩])
 (.lv [1, 2, 4, 11] (.cond (.t 11) (.lv [2, 4] (.seq (.reg none [⟨some 12, .ld true 1 (.t 2), none⟩,
  ⟨none, .st 1 (.t 4) (.t 12), none⟩])
 (.ret)))
 (.skip))))
 (.lv [1, 2, 4] (.seq (.reg none [⟨some 13, .mov (.t 1), none⟩,
  ⟨some 14, .bin .quo (.t 13) (.k (.int .i64 32)), none⟩,
  ⟨some 15, .mov (.t 1), none⟩,
  ⟨some 16, .bin .rem (.t 15) (.k (.int .i64 32)), none⟩,
  ⟨some 17, .conv .u64 (.t 16), none⟩,
  ⟨some 5, .mov (.t 14), none⟩,
  ⟨some 6, .mov (.t 17), none⟩])
 (.lv [2, 4, 5, 6] (.seq (.seq (.reg none [⟨some 18, .mov (.t 5), none⟩,
  ⟨some 19, .faddr 0 (.t 2), none⟩,
  ⟨some 20, .ld false 1 (.t 19), none⟩,
  ⟨some 21, .lenf (.t 20), none⟩,
  ⟨some 22, .bin .ge (.t 18) (.t 21), none⟩])
 (.lv [2, 4, 5, 6, 22] (.cond (.t 22) (.lv [4] (.seq (.reg none [⟨some 23, .build [.nilsl 191 1] [], none⟩,
  ⟨none, .st 1 (.t 4) (.t 23), none⟩])
 (.ret)))
 (.skip))))
 (.lv [2, 4, 5, 6] (.seq (.reg none [⟨some 24, .faddr 0 (.t 2), none⟩,
  ⟨some 25, .ld false 1 (.t 24), none⟩,
  ⟨some 26, .lenf (.t 25), none⟩,
  ⟨some 27, .mov (.t 5), none⟩,
  ⟨some 28, .bin .sub (.t 26) (.t 27), none⟩,
  ⟨some 29, .mk 191 4 [.int .u32 0] (.t 28), none⟩,
  ⟨some 7, .mov (.t 29), none⟩])
 (.lv [2, 4, 5, 6, 7] (.seq (.seq (.reg none [⟨some 30, .mov (.t 7), none⟩,
  ⟨some 31, .len (.t 30), none⟩,
  ⟨some 32, .mov (.k (.int .i64 0)), none⟩])
 (.lv [2, 4, 5, 6, 7, 31, 32] (.block 0 (.loop [2, 4, 5, 6, 7, 31, 32] (some (4, [])) b197_0))))
 k197_0))))))))))
def i197 : IFn := ⟨2, 73, c197, [.c 4 true 1], .pure⟩
def c198 : IR :=
 .seq (.reg none [⟨some 2, .box 164 2 (.t 0), none⟩,
  ⟨some 3, .box 164 2 (.t 1), none⟩,
  ⟨some 4, .mov (.k (.int .i64 0)), none⟩])
 (.lv [2, 3] (.seq (.seq (.reg (some [0, 1, 2, 3, 4]) [⟨some 5, .ld true 2 (.t 2), none⟩,
  ⟨some 6, .callP 202 [.t 5], none⟩,
  ⟨some 7, .ld true 2 (.t 3), none⟩,
  ⟨some 8, .callP 202 [.t 7], none⟩,
  ⟨some 9, .bin .ne (.t 6) (.t 8), none⟩])
 (.lv [2, 3, 9] (.cond (.t 9) (.lv [2, 3] (.seq (.seq (.reg (some [0, 1, 2, 3, 4]) [⟨some 10, .ld true 2 (.t 2), none⟩,
  ⟨some 11, .callP 202 [.t 10], none⟩,
  ⟨some 12, .ld true 2 (.t 3), none⟩,
  ⟨some 13, .callP 202 [.t 12], none⟩,
  ⟨some 14, .bin .lt (.t 11) (.t 13), none⟩])
 (.lv [14] (.cond (.t 14) (.lv [] (.seq (.reg none [⟨some 4, .mov (.k (.int .i64 (-1))), none⟩])
 (.ret)))
 (.skip))))
 (.lv [] (.seq (.reg none [⟨some 4, .mov (.k (.int .i64 1)), none⟩])
 (.ret)))))
 (.skip))))
 (.lv [2, 3] (.seq (.seq (.reg none [⟨some 15, .faddr 0 (.t 2), none⟩,
  ⟨some 16, .ld false 1 (.t 15), none⟩])
 (.lv [2, 3, 16] (.cond (.t 16) (.lv [2, 3] (.seq (.reg none [⟨some 17, .faddr 1 (.t 3), none⟩,
  ⟨some 18, .ld false 1 (.t 17), none⟩,
  ⟨some 19, .faddr 1 (.t 2), none⟩,
  ⟨some 20, .ld false 1 (.t 19), none⟩,
  ⟨some 21, .callP 185 [.t 18, .t 20], none⟩,
  ⟨some 4, .mov (.t 21), none⟩])
 (.ret)))
 (.skip))))
 (.lv [2, 3] (.seq (.reg none [⟨some 22, .faddr 1 (.t 2), none⟩,
  ⟨some 23, .ld false 1 (.t 22), none⟩,
  ⟨some 24, .faddr 1 (.t 3), none⟩,
  ⟨some 25, .ld false 1 (.t 24), none⟩,
  ⟨some 26, .callP 185 [.t 23, .t 25], none⟩,
  ⟨some 4, .mov (.t 26), none⟩])
 (.ret)))))))
def i198 : IFn := ⟨2, 27, c198, [.t 4], .pure⟩
def c199 : IR :=
 .seq (.reg none [⟨some 1, .box 164 2 (.t 0), none⟩,
  ⟨some 2, .alloc 164 [.bool false, .str ⟨#[]⟩], none⟩])
 (.lv [1, 2] (.seq (.reg none [⟨some 3, .faddr 0 (.t 1), none⟩,
  ⟨some 4, .ld false 1 (.t 3), none⟩,
  ⟨some 5, .not (.t 4), none⟩,
  ⟨some 6, .faddr 1 (.t 1), none⟩,
  ⟨some 7, .ld false 1 (.t 6), none⟩,
  ⟨some 8, .callP 182 [.t 5, .t 7], none⟩,
  ⟨none, .st 2 (.t 2) (.t 8), none⟩])
 (.ret)))
def i199 : IFn := ⟨1, 9, c199, [.c 2 true 2], .pure⟩
def c200 : IR :=
 .seq (.reg none [⟨some 4, .mov (.k (.int .i64 0)), none⟩])
 (.lv [0, 1] (.seq (.seq (.reg none [⟨some 5, .mov (.t 1), none⟩,
  ⟨some 6, .mov (.t 0), none⟩,
  ⟨some 7, .slen (.t 6), none⟩,
  ⟨some 8, .bin .ge (.t 5) (.t 7), none⟩])
 (.lv [0, 1, 8] (.cond (.t 8) (.lv [] (.seq (.reg none [⟨some 4, .mov (.k (.int .i64 0)), none⟩])
 (.ret)))
 (.skip))))
 (.lv [0, 1] (.seq (.reg none [⟨some 9, .mov (.t 0), none⟩,
  ⟨some 10, .mov (.t 0), none⟩,
  ⟨some 11, .slen (.t 10), none⟩,
  ⟨some 12, .bin .sub (.t 11) (.k (.int .i64 1)), none⟩,
  ⟨some 13, .mov (.t 1), none⟩,
  ⟨some 14, .bin .sub (.t 12) (.t 13), none⟩,
  ⟨some 15, .sidx (.t 9) (.t 14), none⟩,
  ⟨some 16, .bin .sub (.t 15) (.k (.int .u8 48)), none⟩,
  ⟨some 17, .conv .i64 (.t 16), none⟩,
  ⟨some 4, .mov (.t 17), none⟩])
 (.ret)))))
def i200 : IFn := ⟨2, 18, c200, [.t 4], .pure⟩
def c201 : IR :=
 .seq (.reg none [⟨some 2, .mov (.k (.int .i64 0)), none⟩])
 (.lv [0, 2] (.seq (.seq (.reg none [⟨some 3, .mov (.t 0), none⟩,
  ⟨some 4, .bin .ge (.t 3) (.k (.int .u32 65536)), none⟩])
 (.lv [0, 2, 4] (.cond (.t 4) (.lv [0] (.seq (.reg none [⟨some 5, .mov (.t 0), none⟩,
  ⟨some 6, .bin .shr (.t 5) (.k (.int .u64 16)), none⟩,
  ⟨some 0, .mov (.t 6), none⟩])
 (.lv [0] (.reg none [⟨some 2, .mov (.k (.int .i64 16)), none⟩]))))
 (.skip))))
 (.lv [0, 2] (.seq (.seq (.reg none [⟨some 7, .mov (.t 0), none⟩,
  ⟨some 8, .bin .ge (.t 7) (.k (.int .u32 256)), none⟩])
 (.lv [0, 2, 8] (.cond (.t 8) (.lv [0, 2] (.seq (.reg none [⟨some 9, .mov (.t 0), none⟩,
  ⟨some 10, .bin .shr (.t 9) (.k (.int .u64 8)), none⟩,
  ⟨some 0, .mov (.t 10), none⟩])
 (.lv [0, 2] (.reg none [⟨some 11, .mov (.t 2), none⟩,
  ⟨some 12, .bin .add (.t 11) (.k (.int .i64 8)), none⟩,
  ⟨some 2, .mov (.t 12), none⟩]))))
 (.skip))))
 (.lv [0, 2] (.seq (.reg none [⟨some 13, .mov (.t 2), none⟩,
  ⟨some 14, .mov (.t 0), none⟩,
  ⟨some 15, .conv .u8 (.t 14), none⟩,
  ⟨some 16, .sidx (.k (.str ⟨#[0, 1, 2, 2, 3, 3, 3, 3, 4, 4, 4, 4, 4, 4, 4, 4, 5, 5, 5, 5, 5, 5, 5, 5, 5, 5, 5, 5, 5, 5, 5, 5, 6, 6, 6, 6, 6, 6, 6, 6, 6, 6, 6, 6, 6, 6, 6, 6, 6, 6, 6, 6, 6, 6, 6, 6, 6, 6, 6, 6, 6, 6, 6, 6, 7, 7, 7, 7, 7, 7, 7, 7, 7, 7, 7, 7, 7, 7, 7, 7, 7, 7, 7, 7, 7, 7, 7, 7, 7, 7, 7, 7, 7, 7, 7, 7, 7, 7, 7, 7, 7, 7, 7, 7, 7, 7, 7, 7, 7, 7, 7, 7, 7, 7, 7, 7, 7, 7, 7, 7, 7, 7, 7, 7, 7, 7, 7, 7, 8, 8, 8, 8, 8, 8, 8, 8, 8, 8, 8, 8, 8, 8, 8, 8, 8, 8, 8, 8, 8, 8, 8, 8, 8, 8, 8, 8, 8, 8, 8, 8, 8, 8, 8, 8, 8, 8, 8, 8, 8, 8, 8, 8, 8, 8, 8, 8, 8, 8, 8, 8, 8, 8, 8, 8, 8, 8, 8, 8, 8, 8, 8, 8, 8, 8, 8, 8, 8, 8, 8, 8, 8, 8, 8, 8, 8, 8, 8, 8, 8, 8, 8, 8, 8, 8, 8, 8, 8, 8, 8, 8, 8, 8, 8, 8, 8, 8, 8, 8, 8, 8, 8, 8, 8, 8, 8, 8, 8, 8, 8, 8, 8, 8, 8, 8, 8, 8, 8, 8, 8, 8, 8, 8, 8, 8, 8, 8]⟩)) (.t 15), none⟩,
  ⟨some 17, .conv .i64 (.t 16), none⟩,
  ⟨some 18, .bin .add (.t 13) (.t 17), none⟩,
  ⟨some 2, .mov (.t 18), none⟩])
 (.ret)))))))
def i201 : IFn := ⟨1, 19, c201, [.t 2], .pure⟩
def c202 : IR :=
 .seq (.reg none [⟨some 1, .box 164 2 (.t 0), none⟩,
  ⟨some 2, .mov (.k (.int .i64 0)), none⟩])
 (.lv [1] (.seq (.seq (.reg none [⟨some 3, .faddr 1 (.t 1), none⟩,
  ⟨some 4, .ld false 1 (.t 3), none⟩,
  ⟨some 5, .bin .eq (.t 4) (.k (.str ⟨#[48]⟩)), none⟩])
 (.lv [1, 5] (.cond (.t 5) (.lv [] (.seq (.reg none [⟨some 2, .mov (.k (.int .i64 0)), none⟩])
 (.ret)))
 (.skip))))
 (.lv [1] (.seq (.seq (.reg none [⟨some 6, .faddr 0 (.t 1), none⟩,
  ⟨some 7, .ld false 1 (.t 6), none⟩])
 (.lv [7] (.cond (.t 7) (.lv [] (.seq (.reg none [⟨some 2, .mov (.k (.int .i64 (-1))), none⟩])
 (.ret)))
 (.skip))))
 (.lv [] (.seq (.reg none [⟨some 2, .mov (.k (.int .i64 1)), none⟩])
 (.ret)))))))
def i202 : IFn := ⟨1, 8, c202, [.t 2], .pure⟩
end Go.Proofs.YtlejgleocnemoaaGreat.I

namespace Go.Proofs.YtlejgleocnemoaaGreat.I
open Go Go.V
def tab0 : Nat → Option IFn
  | 5 => some i5
  | 10 => some i10
  | 13 => some i13
  | 19 => some i19
  | 20 => some i20
  | 21 => some i21
  | 22 => some i22
  | 23 => some i23
  | 24 => some i24
  | 29 => some i29
  | 31 => some i31
  | 32 => some i32
  | 44 => some i44
  | 45 => some i45
  | 46 => some i46
  | 48 => some i48
  | 51 => some i51
  | 55 => some i55
  | 58 => some i58
  | 59 => some i59
  | 62 => some i62
  | 64 => some i64
  | 65 => some i65
  | 66 => some i66
  | 67 => some i67
  | 68 => some i68
  | 69 => some i69
  | 70 => some i70
  | 71 => some i71
  | 72 => some i72
  | 73 => some i73
  | 74 => some i74
  | 75 => some i75
  | 76 => some i76
  | 77 => some i77
  | 78 => some i78
  | 79 => some i79
  | 80 => some i80
  | 81 => some i81
  | 82 => some i82
  | 83 => some i83
  | 84 => some i84
  | 86 => some i86
  | 87 => some i87
  | 88 => some i88
  | 90 => some i90
  | _ => none
def tab1 : Nat → Option IFn
  | 99 => some i99
  | 106 => some i106
  | 107 => some i107
  | 108 => some i108
  | 113 => some i113
  | 115 => some i115
  | 118 => some i118
  | 119 => some i119
  | 120 => some i120
  | 121 => some i121
  | 122 => some i122
  | 123 => some i123
  | 124 => some i124
  | 125 => some i125
  | 126 => some i126
  | 127 => some i127
  | 128 => some i128
  | 129 => some i129
  | 130 => some i130
  | 131 => some i131
  | 132 => some i132
  | 133 => some i133
  | 134 => some i134
  | 135 => some i135
  | 136 => some i136
  | 137 => some i137
  | 138 => some i138
  | 139 => some i139
  | 145 => some i145
  | 146 => some i146
  | 147 => some i147
  | 148 => some i148
  | 149 => some i149
  | 150 => some i150
  | 151 => some i151
  | 153 => some i153
  | 154 => some i154
  | 155 => some i155
  | 156 => some i156
  | 157 => some i157
  | 158 => some i158
  | 159 => some i159
  | 160 => some i160
  | 161 => some i161
  | 162 => some i162
  | 163 => some i163
  | 164 => some i164
  | 165 => some i165
  | 166 => some i166
  | 167 => some i167
  | 168 => some i168
  | 169 => some i169
  | 170 => some i170
  | 174 => some i174
  | 175 => some i175
  | 176 => some i176
  | 177 => some i177
  | 178 => some i178
  | 179 => some i179
  | 180 => some i180
  | 181 => some i181
  | 182 => some i182
  | 183 => some i183
  | 184 => some i184
  | 185 => some i185
  | _ => none
def tab2 : Nat → Option IFn
  | 186 => some i186
  | 187 => some i187
  | 188 => some i188
  | 191 => some i191
  | 192 => some i192
  | 193 => some i193
  | 194 => some i194
  | 195 => some i195
  | 196 => some i196
  | 197 => some i197
  | 198 => some i198
  | 199 => some i199
  | 200 => some i200
  | 201 => some i201
  | 202 => some i202
  | _ => none
def tab (f : Nat) : Option IFn := match tab0 f with | some i => some i | none => match tab1 f with | some i => some i | none => tab2 f
end Go.Proofs.YtlejgleocnemoaaGreat.I
