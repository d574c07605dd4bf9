/- The texts VIr0, one behind the other. Conditions: each text's own. -/
import Derived.Test.YtcmbaabkfihdmaaGreatG00
/- The functions' code in the small form: written by a program (irgen.py) out of Lean's own print of the loaded functions. -/
namespace Go.Proofs.YtcmbaabkfihdmaaGreat.I
open Go Go.V
/-! 3: typeball/typeballlaw17.DrawRolls -/
def c3 : IR :=
 .seq (.reg none [⟨some 3, .box 26 4 (.t 0), none⟩,
  ⟨some 6, .mov (.k (.bool false)), none⟩])
 (.lv [1, 2, 3] (.seq (.seq (.reg none [⟨some 14, .ld true 4 (.t 3), none⟩,
  ⟨some 15, .callP 4 [.t 14], none⟩,
  ⟨some 16, .not (.t 15), none⟩,
  ⟨some 17, .mov (.t 16), none⟩,
  ⟨some 18, .mov (.t 1), (some (17, false))⟩,
  ⟨some 19, .lenf (.t 18), (some (17, false))⟩,
  ⟨some 20, .bin .gt (.t 19) (.k (.int .i64 300)), (some (17, false))⟩,
  ⟨some 21, .pick (.t 17) (.k (.bool true)) (.t 20), none⟩])
 (.lv [1, 2, 3, 21] (.cond (.t 21) (.lv [] (.seq (.reg none [⟨some 22, .callP 5 [], none⟩,
  ⟨some 6, .mov (.t 22), none⟩])
 (.ret)))
 (.skip))))
 (.lv [1, 2, 3] (.seq (.reg none [⟨some 23, .mov (.t 1), none⟩,
  ⟨some 24, .callO 6 [.t 23], none⟩,
  ⟨some 7, .mov (.t 24), none⟩])
 (.lv [1, 2, 3, 7] (.seq (.reg none [⟨some 25, .mov (.t 7), none⟩,
  ⟨some 26, .callM 7 [.t 25], none⟩,
  ⟨some 8, .mov (.t 26), none⟩])
 (.lv [1, 2, 3, 7, 8] (.seq (.reg none [⟨some 28, .ld true 4 (.t 3), none⟩,
  ⟨some 29, .callP 9 [.t 28], none⟩,
  ⟨some 30, .mov (.t 7), none⟩,
  ⟨some 31, .mov (.t 2), none⟩,
  ⟨some 32, .callP 10 [.t 31], none⟩,
  ⟨some 33, .callM 8 [.t 29, .t 30, .t 32], none⟩,
  ⟨some 27, .mov (.t 33), none⟩,
  ⟨some 34, .ext (.t 27) 0, none⟩,
  ⟨some 35, .ext (.t 27) 1, none⟩,
  ⟨some 9, .alloc 36 [.nilsl 3 1, .bool false, .nilsl 21 1, .nilsl 62 3, .bool false], none⟩,
  ⟨none, .st 5 (.t 9) (.t 34), none⟩,
  ⟨some 10, .mov (.t 35), none⟩])
 (.lv [1, 2, 3, 7, 8, 9, 10] (.seq (.reg (some [0, 1, 2, 3, 4, 5, 6, 7, 8, 9, 10, 11, 12]) [⟨some 37, .ld true 4 (.t 3), none⟩,
  ⟨some 38, .mov (.t 1), none⟩,
  ⟨some 39, .mov (.t 2), none⟩,
  ⟨some 40, .callP 10 [.t 39], none⟩,
  ⟨some 41, .callP 11 [.t 37, .t 38, .k (.int .i64 1), .t 40], none⟩,
  ⟨some 36, .mov (.t 41), none⟩,
  ⟨some 42, .ext (.t 36) 0, none⟩,
  ⟨some 43, .ext (.t 36) 1, none⟩,
  ⟨some 44, .ext (.t 36) 2, none⟩,
  ⟨some 11, .alloc 26 [.nilsl 3 1, .bool false, .nilsl 21 1, .nilsl 71 3], none⟩,
  ⟨none, .st 4 (.t 11) (.t 42), none⟩,
  ⟨some 12, .mov (.t 43), none⟩,
  ⟨some 13, .mov (.t 44), none⟩])
 (.lv [1, 7, 8, 9, 10, 11, 12, 13] (.seq (.reg none [⟨some 45, .mov (.t 8), none⟩,
  ⟨some 46, .mov (.t 1), none⟩,
  ⟨some 47, .callP 12 [.t 46, .k (.int .i64 0)], none⟩,
  ⟨some 48, .bin .eq (.t 45) (.t 47), none⟩,
  ⟨some 49, .mov (.t 48), none⟩,
  ⟨some 50, .ld true 5 (.t 9), (some (49, true))⟩,
  ⟨some 51, .mov (.t 10), (some (49, true))⟩,
  ⟨some 52, .ld true 4 (.t 11), (some (49, true))⟩,
  ⟨some 53, .mov (.t 13), (some (49, true))⟩,
  ⟨some 54, .callR 13 [.t 50, .t 51, .t 52, .t 53], (some (49, true))⟩,
  ⟨some 55, .pick (.t 49) (.t 54) (.k (.bool false)), none⟩,
  ⟨some 56, .mov (.t 55), none⟩,
  ⟨some 57, .mov (.t 7), (some (56, true))⟩,
  ⟨some 58, .callR 14 [.t 57], (some (56, true))⟩,
  ⟨some 59, .mov (.t 12), (some (56, true))⟩,
  ⟨some 60, .bin .eq (.t 58) (.t 59), (some (56, true))⟩,
  ⟨some 61, .pick (.t 56) (.t 60) (.k (.bool false)), none⟩,
  ⟨some 62, .mov (.t 61), none⟩,
  ⟨some 63, .callP 5 [], (some (62, true))⟩,
  ⟨some 64, .pick (.t 62) (.t 63) (.k (.bool false)), none⟩,
  ⟨some 6, .mov (.t 64), none⟩])
 (.ret)))))))))))))
def i3 : IFn := ⟨3, 65, c3, [.t 6], .pure⟩

/-! 4: typeball/typeballlaw17.light -/
def c4 : IR :=
 .seq (.reg none [⟨some 1, .box 26 4 (.t 0), none⟩,
  ⟨some 2, .mov (.k (.bool false)), none⟩])
 (.lv [1] (.seq (.reg none [⟨some 3, .ld true 4 (.t 1), none⟩,
  ⟨some 4, .callP 15 [.t 3, .k (.int .i64 200)], none⟩,
  ⟨some 2, .mov (.t 4), none⟩])
 (.ret)))
def i4 : IFn := ⟨1, 5, c4, [.t 2], .pure⟩

/-! 5: typeball/typeballlaw17.awake -/
def c5 : IR :=
 .seq (.reg none [⟨some 0, .mov (.k (.bool false)), none⟩])
 (.lv [] (.seq (.reg none [⟨some 4, .callP 17 [.k (.int .i64 2)], none⟩,
  ⟨some 5, .callP 17 [.k (.int .i64 3)], none⟩,
  ⟨some 6, .bsl 32 1 [.k (.int .u64 2), .k (.int .u64 1)], none⟩,
  ⟨some 7, .callO 6 [.t 6], none⟩,
  ⟨some 8, .callM 16 [.t 4, .t 5, .t 7, .k (.int .i64 1)], none⟩,
  ⟨some 3, .mov (.t 8), none⟩,
  ⟨some 9, .ext (.t 3) 0, none⟩,
  ⟨some 10, .ext (.t 3) 1, none⟩,
  ⟨some 1, .alloc 36 [.nilsl 3 1, .bool false, .nilsl 21 1, .nilsl 62 3, .bool false], none⟩,
  ⟨none, .st 5 (.t 1) (.t 9), none⟩,
  ⟨some 2, .mov (.t 10), none⟩])
 (.lv [1, 2] (.seq (.reg (some [0, 1, 2, 3, 4, 5]) [⟨some 11, .ld true 5 (.t 1), none⟩,
  ⟨some 12, .mov (.t 2), none⟩,
  ⟨some 13, .bsl 3 1 [.k (.int .i64 3), .k (.int .i64 1)], none⟩,
  ⟨some 14, .callF 18 [.t 13], none⟩,
  ⟨some 15, .callR 13 [.t 11, .t 12, .t 14, .k (.int .i64 0)], none⟩,
  ⟨some 0, .mov (.t 15), none⟩])
 (.ret)))))
def i5 : IFn := ⟨0, 16, c5, [.t 0], .pure⟩

/-! 6: typeball/draw.New -/
def c6 : IR :=
 .seq (.reg none [⟨some 2, .mov (.k (.nilptr)), none⟩])
 (.lv [0] (.seq (.reg none [⟨some 3, .bsl 32 1 [], none⟩,
  ⟨some 4, .mov (.t 0), none⟩,
  ⟨some 5, .app 32 1 8 (.t 3) (.t 4), none⟩,
  ⟨some 6, .build [.nilsl 32 1, .int .i64 0] [(0, 1, .t 5)], none⟩,
  ⟨some 7, .box 53 2 (.t 6), none⟩,
  ⟨some 2, .mov (.t 7), none⟩])
 (.ret)))
def i6 : IFn := ⟨1, 8, c6, [.t 2], .own⟩

/-! 7: (*typeball/draw.Source).Next -/
def c7 : IR :=
 .seq (.reg none [⟨some 2, .mov (.k (.int .u64 0)), none⟩])
 (.lv [0] (.seq (.seq (.reg none [⟨some 3, .mov (.t 0), none⟩,
  ⟨some 4, .binp .eq (.t 3) (.k (.nilptr)), none⟩])
 (.lv [0, 4] (.cond (.t 4) (.lv [] (.seq (.reg none [⟨some 2, .mov (.k (.int .u64 0)), none⟩])
 (.ret)))
 (.skip))))
 (.lv [0] (.seq (.reg none [⟨some 5, .mov (.t 0), none⟩,
  ⟨some 6, .nilchk (.t 5), none⟩,
  ⟨some 7, .faddr 1 (.t 6), none⟩,
  ⟨some 8, .ld false 1 (.t 7), none⟩,
  ⟨some 9, .bin .add (.t 8) (.k (.int .i64 1)), none⟩,
  ⟨some 10, .nilchk (.t 5), none⟩,
  ⟨some 11, .faddr 1 (.t 10), none⟩,
  ⟨none, .st 1 (.t 11) (.t 9), none⟩])
 (.lv [0] (.seq (.seq (.reg (some [0, 1, 2, 3, 4, 5, 6, 7, 8, 9]) [⟨some 12, .mov (.t 0), none⟩,
  ⟨some 13, .nilchk (.t 12), none⟩,
  ⟨some 14, .faddr 1 (.t 13), none⟩,
  ⟨some 15, .ld false 1 (.t 14), none⟩,
  ⟨some 16, .mov (.t 0), none⟩,
  ⟨some 17, .nilchk (.t 16), none⟩,
  ⟨some 18, .faddr 0 (.t 17), none⟩,
  ⟨some 19, .ld false 1 (.t 18), none⟩,
  ⟨some 20, .len (.t 19), none⟩,
  ⟨some 21, .bin .gt (.t 15) (.t 20), none⟩])
 (.lv [0, 21] (.cond (.t 21) (.lv [] (.seq (.reg none [⟨some 2, .mov (.k (.int .u64 0)), none⟩])
 (.ret)))
 (.skip))))
 (.lv [0] (.seq (.reg (some [0, 1, 2, 3, 4, 5, 6, 7, 8, 9, 10, 11]) [⟨some 22, .mov (.t 0), none⟩,
  ⟨some 23, .nilchk (.t 22), none⟩,
  ⟨some 24, .faddr 0 (.t 23), none⟩,
  ⟨some 25, .ld false 1 (.t 24), none⟩,
  ⟨some 26, .mov (.t 0), none⟩,
  ⟨some 27, .nilchk (.t 26), none⟩,
  ⟨some 28, .faddr 1 (.t 27), none⟩,
  ⟨some 29, .ld false 1 (.t 28), none⟩,
  ⟨some 30, .bin .sub (.t 29) (.k (.int .i64 1)), none⟩,
  ⟨some 31, .iaddr 1 (.t 25) (.t 30), none⟩,
  ⟨some 32, .ld false 1 (.t 31), none⟩,
  ⟨some 2, .mov (.t 32), none⟩])
 (.ret)))))))))
def i7 : IFn := ⟨1, 33, c7, [.t 2], .ref⟩

/-! 8: typeball/draw.Roll -/
def b8_0 : IR :=
 .seq (.reg none [⟨some 28, .bin .lt (.t 27) (.t 26), none⟩])
 (.lv [1, 2, 3, 6, 8, 25, 26, 27, 28] (.seq (.cond (.t 28) (.skip)
 (.exit 0))
 (.lv [1, 2, 3, 6, 8, 25, 26, 27] (.seq (.block 1 (.seq (.reg none [⟨some 29, .iaddr 1 (.t 25) (.t 27), none⟩,
  ⟨some 30, .ld false 1 (.t 29), none⟩,
  ⟨some 11, .mov (.t 30), none⟩])
 (.lv [1, 2, 3, 6, 8, 11, 25, 26, 27] (.seq (.reg none [⟨some 31, .mov (.t 11), none⟩,
  ⟨some 32, .bin .lt (.t 31) (.k (.int .i64 1)), none⟩])
 (.lv [1, 2, 3, 6, 8, 25, 26, 27, 32] (.cond (.t 32) (.lv [6] (.seq (.reg none [⟨some 33, .build [.nilsl 3 1, .bool false, .nilsl 21 1, .nilsl 62 3, .bool false] [], none⟩,
  ⟨none, .st 5 (.t 6) (.t 33), none⟩,
  ⟨some 7, .mov (.k (.int .i64 22)), none⟩])
 (.ret)))
 (.skip)))))))
 (.lv [1, 2, 3, 6, 8, 25, 26, 27] (.reg none [⟨some 34, .bin .add (.t 27) (.k (.int .i64 1)), none⟩,
  ⟨some 27, .mov (.t 34), none⟩]))))))
def b8_1 : IR :=
 .seq (.reg none [⟨some 41, .bin .lt (.t 40) (.t 39), none⟩])
 (.lv [1, 2, 3, 6, 12, 38, 39, 40, 41] (.seq (.cond (.t 41) (.skip)
 (.exit 2))
 (.lv [1, 2, 3, 6, 12, 38, 39, 40] (.seq (.block 3 (.seq (.reg none [⟨some 42, .mov (.t 40), none⟩,
  ⟨some 43, .iaddr 1 (.t 38) (.t 40), none⟩,
  ⟨some 44, .ld false 1 (.t 43), none⟩,
  ⟨some 13, .mov (.t 42), none⟩,
  ⟨some 14, .mov (.t 44), none⟩])
 (.lv [1, 2, 3, 6, 12, 13, 14, 38, 39, 40] (.reg none [⟨some 45, .mov (.t 12), none⟩,
  ⟨some 46, .mov (.t 13), none⟩,
  ⟨some 47, .mov (.t 1), none⟩,
  ⟨some 48, .callM 7 [.t 47], none⟩,
  ⟨some 49, .mov (.t 14), none⟩,
  ⟨some 50, .conv .u64 (.t 49), none⟩,
  ⟨some 51, .bin .rem (.t 48) (.t 50), none⟩,
  ⟨some 52, .conv .i64 (.t 51), none⟩,
  ⟨some 53, .callP 20 [.t 52], none⟩,
  ⟨some 54, .mov (.t 2), none⟩,
  ⟨some 55, .callF 20 [.t 54], none⟩,
  ⟨some 56, .bslF 62 3 [.t 55], none⟩,
  ⟨some 57, .callP 21 [.t 53, .t 56], none⟩,
  ⟨some 58, .iaddr 3 (.t 45) (.t 46), none⟩,
  ⟨none, .st 3 (.t 58) (.t 57), none⟩]))))
 (.lv [1, 2, 3, 6, 12, 38, 39, 40] (.reg none [⟨some 59, .bin .add (.t 40) (.k (.int .i64 1)), none⟩,
  ⟨some 40, .mov (.t 59), none⟩]))))))
def k8_0 : IR :=
 .seq (.reg none [⟨some 61, .ld true 5 (.t 3), none⟩,
  ⟨some 62, .callF 23 [.t 61], none⟩,
  ⟨some 63, .mov (.t 12), none⟩,
  ⟨some 64, .callF 22 [.t 62, .t 63], none⟩,
  ⟨some 60, .mov (.t 64), none⟩,
  ⟨some 65, .ext (.t 60) 0, none⟩,
  ⟨some 66, .ext (.t 60) 1, none⟩,
  ⟨some 15, .alloc 36 [.nilsl 3 1, .bool false, .nilsl 21 1, .nilsl 62 3, .bool false], none⟩,
  ⟨none, .st 5 (.t 15) (.t 65), none⟩,
  ⟨some 16, .mov (.t 66), none⟩])
 (.lv [6, 15] (.seq (.reg none [⟨some 67, .ld true 5 (.t 15), none⟩,
  ⟨none, .st 5 (.t 6) (.t 67), none⟩,
  ⟨some 7, .mov (.k (.int .i64 0)), none⟩])
 (.ret)))
def k8_1 : IR :=
 .seq (.reg none [⟨some 35, .mov (.t 8), none⟩,
  ⟨some 36, .len (.t 35), none⟩,
  ⟨some 37, .mk 62 56 [.sl 0 1 [], .bool false, .sl 0 1 []] (.t 36), none⟩,
  ⟨some 12, .mov (.t 37), none⟩])
 (.lv [1, 2, 3, 6, 8, 12] (.seq (.seq (.reg none [⟨some 38, .mov (.t 8), none⟩,
  ⟨some 39, .len (.t 38), none⟩,
  ⟨some 40, .mov (.k (.int .i64 0)), none⟩])
 (.lv [1, 2, 3, 6, 12, 38, 39, 40] (.block 2 (.loop [1, 2, 3, 6, 12, 38, 39, 40] none b8_1))))
 k8_0))
def c8 : IR :=
 .seq (.reg none [⟨some 3, .box 36 5 (.t 0), none⟩,
  ⟨some 6, .alloc 36 [.nilsl 3 1, .bool false, .nilsl 21 1, .nilsl 62 3, .bool false], none⟩,
  ⟨some 7, .mov (.k (.int .i64 0)), none⟩])
 (.lv [1, 2, 3, 6] (.seq (.reg none [⟨some 18, .ld true 5 (.t 3), none⟩,
  ⟨some 19, .callO 19 [.t 18], none⟩,
  ⟨some 17, .mov (.t 19), none⟩,
  ⟨some 20, .ext (.t 17) 0, none⟩,
  ⟨some 21, .ext (.t 17) 1, none⟩,
  ⟨some 8, .mov (.t 20), none⟩,
  ⟨some 9, .mov (.t 21), none⟩])
 (.lv [1, 2, 3, 6, 8, 9] (.seq (.seq (.reg none [⟨some 22, .mov (.t 9), none⟩,
  ⟨some 23, .not (.t 22), none⟩])
 (.lv [1, 2, 3, 6, 8, 23] (.cond (.t 23) (.lv [6] (.seq (.reg none [⟨some 24, .build [.nilsl 3 1, .bool false, .nilsl 21 1, .nilsl 62 3, .bool false] [], none⟩,
  ⟨none, .st 5 (.t 6) (.t 24), none⟩,
  ⟨some 7, .mov (.k (.int .i64 22)), none⟩])
 (.ret)))
 (.skip))))
 (.lv [1, 2, 3, 6, 8] (.seq (.seq (.reg none [⟨some 25, .mov (.t 8), none⟩,
  ⟨some 26, .len (.t 25), none⟩,
  ⟨some 27, .mov (.k (.int .i64 0)), none⟩])
 (.lv [1, 2, 3, 6, 8, 25, 26, 27] (.block 0 (.loop [1, 2, 3, 6, 8, 25, 26, 27] none b8_0))))
 k8_1))))))
def i8 : IFn := ⟨3, 68, c8, [.c 6 true 5, .t 7], .ref⟩

/-! 9: typeball/typeballlaw06.Of -/
def c9 : IR :=
 .seq (.reg none [⟨some 1, .box 26 4 (.t 0), none⟩,
  ⟨some 2, .alloc 36 [.nilsl 3 1, .bool false, .nilsl 21 1, .nilsl 62 3, .bool false], none⟩])
 (.lv [1, 2] (.seq (.reg none [⟨some 6, .ld true 4 (.t 1), none⟩,
  ⟨some 7, .callP 24 [.t 6], none⟩,
  ⟨some 5, .mov (.t 7), none⟩,
  ⟨some 8, .ext (.t 5) 0, none⟩,
  ⟨some 9, .ext (.t 5) 1, none⟩,
  ⟨some 3, .alloc 36 [.nilsl 3 1, .bool false, .nilsl 21 1, .nilsl 62 3, .bool false], none⟩,
  ⟨none, .st 5 (.t 3) (.t 8), none⟩,
  ⟨some 4, .mov (.t 9), none⟩])
 (.lv [2, 3] (.seq (.reg none [⟨some 10, .ld true 5 (.t 3), none⟩,
  ⟨none, .st 5 (.t 2) (.t 10), none⟩])
 (.ret)))))
def i9 : IFn := ⟨1, 11, c9, [.c 2 true 5], .pure⟩

/-! 10: typeball/typeballlaw17.origin -/
def c10 : IR :=
 .seq (.reg none [⟨some 2, .mov (.k (.int .i64 0)), none⟩])
 (.lv [0] (.seq (.seq (.reg none [⟨some 3, .mov (.t 0), none⟩])
 (.lv [3] (.cond (.t 3) (.lv [] (.seq (.reg none [⟨some 2, .mov (.k (.int .i64 1)), none⟩])
 (.ret)))
 (.skip))))
 (.lv [] (.seq (.reg none [⟨some 2, .mov (.k (.int .i64 0)), none⟩])
 (.ret)))))
def i10 : IFn := ⟨1, 4, c10, [.t 2], .pure⟩

/-! 11: typeball/typeballref17.Roll -/
def b11_0 : IR :=
 .seq (.seq (.reg none [⟨some 27, .mov (.t 14), none⟩,
  ⟨some 28, .mov (.t 11), none⟩,
  ⟨some 29, .len (.t 28), none⟩,
  ⟨some 30, .bin .lt (.t 27) (.t 29), none⟩])
 (.lv [1, 2, 3, 8, 11, 13, 14, 30] (.cond (.t 30) (.skip)
 (.exit 0))))
 (.lv [1, 2, 3, 8, 11, 13, 14] (.seq (.block 1 (.seq (.seq (.reg none [⟨some 33, .mov (.t 11), none⟩,
  ⟨some 34, .mov (.t 14), none⟩,
  ⟨some 35, .iaddr 1 (.t 33) (.t 34), none⟩,
  ⟨some 36, .ld false 1 (.t 35), none⟩,
  ⟨some 37, .bin .lt (.t 36) (.k (.int .i64 1)), none⟩])
 (.lv [1, 2, 3, 8, 11, 13, 14, 37] (.cond (.t 37) (.lv [2, 8] (.seq (.reg none [⟨some 38, .build [.nilsl 3 1, .bool false, .nilsl 21 1, .nilsl 71 3] [], none⟩,
  ⟨some 39, .mov (.t 2), none⟩,
  ⟨none, .st 4 (.t 8) (.t 38), none⟩,
  ⟨some 9, .mov (.t 39), none⟩,
  ⟨some 10, .mov (.k (.int .i64 22)), none⟩])
 (.ret)))
 (.skip))))
 (.lv [1, 2, 3, 8, 11, 13, 14] (.reg (some [0, 1, 2, 3, 4, 5, 6, 7, 8, 9, 10, 11, 12, 13, 14, 15, 16, 17, 18, 19, 20, 21]) [⟨some 40, .faddr 3 (.t 13), none⟩,
  ⟨some 41, .ld false 1 (.t 40), none⟩,
  ⟨some 42, .mov (.t 1), none⟩,
  ⟨some 43, .mov (.t 2), none⟩,
  ⟨some 44, .mov (.t 14), none⟩,
  ⟨some 45, .bin .add (.t 43) (.t 44), none⟩,
  ⟨some 46, .callP 12 [.t 42, .t 45], none⟩,
  ⟨some 47, .mov (.t 11), none⟩,
  ⟨some 48, .mov (.t 14), none⟩,
  ⟨some 49, .iaddr 1 (.t 47) (.t 48), none⟩,
  ⟨some 50, .ld false 1 (.t 49), none⟩,
  ⟨some 51, .conv .u64 (.t 50), none⟩,
  ⟨some 52, .bin .rem (.t 46) (.t 51), none⟩,
  ⟨some 53, .conv .i64 (.t 52), none⟩,
  ⟨some 54, .callP 27 [.t 53], none⟩,
  ⟨some 55, .mov (.t 3), none⟩,
  ⟨some 56, .callP 27 [.t 55], none⟩,
  ⟨some 57, .callP 26 [.t 54, .t 56], none⟩,
  ⟨some 58, .bsl 71 3 [.t 57], none⟩,
  ⟨some 59, .app 71 3 40 (.t 41) (.t 58), none⟩,
  ⟨some 60, .faddr 3 (.t 13), none⟩,
  ⟨none, .st 1 (.t 60) (.t 59), none⟩]))))
 (.lv [1, 2, 3, 8, 11, 13, 14] (.reg none [⟨some 31, .mov (.t 14), none⟩,
  ⟨some 32, .bin .add (.t 31) (.k (.int .i64 1)), none⟩,
  ⟨some 14, .mov (.t 32), none⟩]))))
def k11_0 : IR :=
 .seq (.reg none [⟨some 61, .ld true 4 (.t 13), none⟩,
  ⟨some 62, .mov (.t 2), none⟩,
  ⟨some 63, .mov (.t 11), none⟩,
  ⟨some 64, .len (.t 63), none⟩,
  ⟨some 65, .bin .add (.t 62) (.t 64), none⟩,
  ⟨none, .st 4 (.t 8) (.t 61), none⟩,
  ⟨some 9, .mov (.t 65), none⟩,
  ⟨some 10, .mov (.k (.int .i64 0)), none⟩])
 (.ret)
def c11 : IR :=
 .seq (.reg none [⟨some 4, .box 26 4 (.t 0), none⟩,
  ⟨some 8, .alloc 26 [.nilsl 3 1, .bool false, .nilsl 21 1, .nilsl 71 3], none⟩,
  ⟨some 9, .mov (.k (.int .i64 0)), none⟩,
  ⟨some 10, .mov (.k (.int .i64 0)), none⟩])
 (.lv [1, 2, 3, 4, 8] (.seq (.reg none [⟨some 16, .ld true 4 (.t 4), none⟩,
  ⟨some 17, .callO 25 [.t 16], none⟩,
  ⟨some 15, .mov (.t 17), none⟩,
  ⟨some 18, .ext (.t 15) 0, none⟩,
  ⟨some 19, .ext (.t 15) 1, none⟩,
  ⟨some 11, .mov (.t 18), none⟩,
  ⟨some 12, .mov (.t 19), none⟩])
 (.lv [1, 2, 3, 4, 8, 11, 12] (.seq (.seq (.reg none [⟨some 20, .mov (.t 12), none⟩,
  ⟨some 21, .not (.t 20), none⟩])
 (.lv [1, 2, 3, 4, 8, 11, 21] (.cond (.t 21) (.lv [2, 8] (.seq (.reg none [⟨some 22, .build [.nilsl 3 1, .bool false, .nilsl 21 1, .nilsl 71 3] [], none⟩,
  ⟨some 23, .mov (.t 2), none⟩,
  ⟨none, .st 4 (.t 8) (.t 22), none⟩,
  ⟨some 9, .mov (.t 23), none⟩,
  ⟨some 10, .mov (.k (.int .i64 22)), none⟩])
 (.ret)))
 (.skip))))
 (.lv [1, 2, 3, 4, 8, 11] (.seq (.reg none [⟨some 24, .faddr 0 (.t 4), none⟩,
  ⟨some 25, .ld false 1 (.t 24), none⟩,
  ⟨some 26, .build [.nilsl 3 1, .bool false, .nilsl 21 1, .nilsl 71 3] [(0, 1, .t 25)], none⟩,
  ⟨some 13, .alloc 26 [.nilsl 3 1, .bool false, .nilsl 21 1, .nilsl 71 3], none⟩,
  ⟨none, .st 4 (.t 13) (.t 26), none⟩])
 (.lv [1, 2, 3, 8, 11, 13] (.seq (.seq (.reg none [⟨some 14, .mov (.k (.int .i64 0)), none⟩])
 (.lv [1, 2, 3, 8, 11, 13, 14] (.block 0 (.loop [1, 2, 3, 8, 11, 13, 14] (some (12, [])) b11_0))))
 k11_0))))))))
def i11 : IFn := ⟨4, 66, c11, [.c 8 true 4, .t 9, .t 10], .pure⟩

/-! 12: typeball/typeballref17.Lot -/
def c12 : IR :=
 .seq (.reg none [⟨some 4, .mov (.k (.int .u64 0)), none⟩])
 (.lv [0, 1] (.seq (.seq (.reg none [⟨some 5, .mov (.t 1), none⟩,
  ⟨some 6, .mov (.t 0), none⟩,
  ⟨some 7, .lenf (.t 6), none⟩,
  ⟨some 8, .bin .ge (.t 5) (.t 7), none⟩])
 (.lv [0, 1, 8] (.cond (.t 8) (.lv [] (.seq (.reg none [⟨some 4, .mov (.k (.int .u64 0)), none⟩])
 (.ret)))
 (.skip))))
 (.lv [0, 1] (.seq (.reg none [⟨some 9, .mov (.t 0), none⟩,
  ⟨some 10, .mov (.t 1), none⟩,
  ⟨some 11, .iaddrf 1 (.t 9) (.t 10), none⟩,
  ⟨some 12, .ldf false 1 (.t 11), none⟩,
  ⟨some 4, .mov (.t 12), none⟩])
 (.ret)))))
def i12 : IFn := ⟨2, 13, c12, [.t 4], .pure⟩

/-! 13: typeball/typeballlaw17.shows -/
def c13 : IR :=
 .seq (.reg none [⟨some 4, .box 36 5 (.t 0), none⟩,
  ⟨some 6, .box 26 4 (.t 2), none⟩,
  ⟨some 8, .mov (.k (.bool false)), none⟩])
 (.lv [1, 3, 4, 6] (.seq (.seq (.reg none [⟨some 9, .mov (.t 1), none⟩,
  ⟨some 10, .mov (.t 3), none⟩,
  ⟨some 11, .bin .ne (.t 9) (.t 10), none⟩])
 (.lv [3, 4, 6, 11] (.cond (.t 11) (.lv [] (.seq (.reg none [⟨some 8, .mov (.k (.bool false)), none⟩])
 (.ret)))
 (.skip))))
 (.lv [3, 4, 6] (.seq (.seq (.reg none [⟨some 12, .mov (.t 3), none⟩,
  ⟨some 13, .bin .ne (.t 12) (.k (.int .i64 0)), none⟩])
 (.lv [4, 6, 13] (.cond (.t 13) (.lv [4] (.seq (.reg none [⟨some 14, .ld true 5 (.t 4), none⟩,
  ⟨some 15, .callP 28 [.t 14], none⟩,
  ⟨some 16, .bin .eq (.t 15) (.k (.int .i64 0)), none⟩,
  ⟨some 8, .mov (.t 16), none⟩])
 (.ret)))
 (.skip))))
 (.lv [4, 6] (.seq (.reg (some [0, 1, 2, 3, 4]) [⟨some 17, .ld true 5 (.t 4), none⟩,
  ⟨some 18, .callP 30 [.t 17], none⟩,
  ⟨some 19, .ld true 4 (.t 6), none⟩,
  ⟨some 20, .callP 29 [.t 18, .t 19], none⟩,
  ⟨some 8, .mov (.t 20), none⟩])
 (.ret)))))))
def i13 : IFn := ⟨4, 21, c13, [.t 8], .pure⟩

/-! 14: (*typeball/draw.Source).At -/
def c14 : IR :=
 .seq (.reg none [⟨some 2, .mov (.k (.int .i64 0)), none⟩])
 (.lv [0] (.seq (.seq (.reg none [⟨some 3, .mov (.t 0), none⟩,
  ⟨some 4, .binp .eq (.t 3) (.k (.nilptr)), none⟩])
 (.lv [0, 4] (.cond (.t 4) (.lv [] (.seq (.reg none [⟨some 2, .mov (.k (.int .i64 0)), none⟩])
 (.ret)))
 (.skip))))
 (.lv [0] (.seq (.reg none [⟨some 5, .mov (.t 0), none⟩,
  ⟨some 6, .nilchk (.t 5), none⟩,
  ⟨some 7, .faddr 1 (.t 6), none⟩,
  ⟨some 8, .ldf false 1 (.t 7), none⟩,
  ⟨some 2, .mov (.t 8), none⟩])
 (.ret)))))
def i14 : IFn := ⟨1, 9, c14, [.t 2], .pure⟩

/-! 15: typeball/typeballref06.Light -/
def b15_0 : IR :=
 .seq (.seq (.reg none [⟨some 24, .mov (.t 5), none⟩,
  ⟨some 25, .faddr 3 (.t 2), none⟩,
  ⟨some 26, .ld false 1 (.t 25), none⟩,
  ⟨some 27, .lenf (.t 26), none⟩,
  ⟨some 28, .bin .lt (.t 24) (.t 27), none⟩])
 (.lv [2, 5, 28] (.cond (.t 28) (.skip)
 (.exit 0))))
 (.lv [2, 5] (.seq (.block 1 (.seq (.reg none [⟨some 31, .faddr 3 (.t 2), none⟩,
  ⟨some 32, .ld false 1 (.t 31), none⟩,
  ⟨some 33, .mov (.t 5), none⟩,
  ⟨some 34, .iaddrf 3 (.t 32) (.t 33), none⟩,
  ⟨some 35, .faddr 1 (.t 34), none⟩,
  ⟨some 36, .ldf false 1 (.t 35), none⟩,
  ⟨some 37, .slen (.t 36), none⟩,
  ⟨some 38, .bin .gt (.t 37) (.k (.int .i64 40)), none⟩,
  ⟨some 39, .mov (.t 38), none⟩,
  ⟨some 40, .faddr 3 (.t 2), (some (39, false))⟩,
  ⟨some 41, .ld false 1 (.t 40), (some (39, false))⟩,
  ⟨some 42, .mov (.t 5), (some (39, false))⟩,
  ⟨some 43, .iaddrf 3 (.t 41) (.t 42), (some (39, false))⟩,
  ⟨some 44, .faddr 2 (.t 43), (some (39, false))⟩,
  ⟨some 45, .ldf false 1 (.t 44), (some (39, false))⟩,
  ⟨some 46, .slen (.t 45), (some (39, false))⟩,
  ⟨some 47, .bin .gt (.t 46) (.k (.int .i64 40)), (some (39, false))⟩,
  ⟨some 48, .pick (.t 39) (.k (.bool true)) (.t 47), none⟩])
 (.lv [2, 5, 48] (.cond (.t 48) (.lv [] (.seq (.reg none [⟨some 4, .mov (.k (.bool false)), none⟩])
 (.ret)))
 (.skip)))))
 (.lv [2, 5] (.reg none [⟨some 29, .mov (.t 5), none⟩,
  ⟨some 30, .bin .add (.t 29) (.k (.int .i64 1)), none⟩,
  ⟨some 5, .mov (.t 30), none⟩]))))
def k15_0 : IR :=
 .seq (.reg none [⟨some 49, .ld true 4 (.t 2), none⟩,
  ⟨some 50, .callP 31 [.t 49], none⟩,
  ⟨some 4, .mov (.t 50), none⟩])
 (.ret)
def c15 : IR :=
 .seq (.reg none [⟨some 2, .box 26 4 (.t 0), none⟩,
  ⟨some 4, .mov (.k (.bool false)), none⟩])
 (.lv [1, 2] (.seq (.seq (.reg none [⟨some 6, .faddr 2 (.t 2), none⟩,
  ⟨some 7, .ld false 1 (.t 6), none⟩,
  ⟨some 8, .lenf (.t 7), none⟩,
  ⟨some 9, .mov (.t 1), none⟩,
  ⟨some 10, .bin .gt (.t 8) (.t 9), none⟩,
  ⟨some 11, .mov (.t 10), none⟩,
  ⟨some 12, .faddr 3 (.t 2), (some (11, false))⟩,
  ⟨some 13, .ld false 1 (.t 12), (some (11, false))⟩,
  ⟨some 14, .lenf (.t 13), (some (11, false))⟩,
  ⟨some 15, .mov (.t 1), (some (11, false))⟩,
  ⟨some 16, .bin .gt (.t 14) (.t 15), (some (11, false))⟩,
  ⟨some 17, .pick (.t 11) (.k (.bool true)) (.t 16), none⟩,
  ⟨some 18, .mov (.t 17), none⟩,
  ⟨some 19, .faddr 0 (.t 2), (some (18, false))⟩,
  ⟨some 20, .ld false 1 (.t 19), (some (18, false))⟩,
  ⟨some 21, .lenf (.t 20), (some (18, false))⟩,
  ⟨some 22, .bin .gt (.t 21) (.k (.int .i64 8)), (some (18, false))⟩,
  ⟨some 23, .pick (.t 18) (.k (.bool true)) (.t 22), none⟩])
 (.lv [2, 23] (.cond (.t 23) (.lv [] (.seq (.reg none [⟨some 4, .mov (.k (.bool false)), none⟩])
 (.ret)))
 (.skip))))
 (.lv [2] (.seq (.seq (.reg none [⟨some 5, .mov (.k (.int .i64 0)), none⟩])
 (.lv [2, 5] (.block 0 (.loop [2, 5] (some (1, [])) b15_0))))
 k15_0))))
def i15 : IFn := ⟨2, 51, c15, [.t 4], .pure⟩

/-! 16: typeball/draw.Deal -/
def b16_0 : IR :=
 .seq (.reg none [⟨some 50, .bin .lt (.t 49) (.t 48), none⟩])
 (.lv [2, 3, 8, 10, 12, 13, 48, 49, 50] (.seq (.cond (.t 50) (.skip)
 (.exit 1))
 (.lv [2, 3, 8, 10, 12, 13, 48, 49] (.seq (.block 2 (.seq (.reg none [⟨some 51, .mov (.t 49), none⟩,
  ⟨some 14, .mov (.t 51), none⟩])
 (.lv [2, 3, 8, 10, 12, 13, 14, 48, 49] (.reg none [⟨some 52, .mov (.t 13), none⟩,
  ⟨some 53, .mov (.t 14), none⟩,
  ⟨some 54, .mov (.t 3), none⟩,
  ⟨some 55, .mov (.t 14), none⟩,
  ⟨some 56, .bin .add (.t 54) (.t 55), none⟩,
  ⟨some 57, .iaddr 1 (.t 52) (.t 53), none⟩,
  ⟨none, .st 1 (.t 57) (.t 56), none⟩]))))
 (.lv [2, 3, 8, 10, 12, 13, 48, 49] (.reg none [⟨some 58, .bin .add (.t 49) (.k (.int .i64 1)), none⟩,
  ⟨some 49, .mov (.t 58), none⟩]))))))
def b16_1 : IR :=
 .seq (.reg none [⟨some 61, .bin .lt (.t 60) (.t 59), none⟩])
 (.lv [2, 8, 10, 12, 13, 59, 60, 61] (.seq (.cond (.t 61) (.skip)
 (.exit 3))
 (.lv [2, 8, 10, 12, 13, 59, 60] (.seq (.block 4 (.seq (.reg none [⟨some 62, .mov (.t 60), none⟩,
  ⟨some 15, .mov (.t 62), none⟩])
 (.lv [2, 8, 10, 12, 13, 15, 59, 60] (.seq (.reg none [⟨some 63, .mov (.t 15), none⟩,
  ⟨some 64, .mov (.t 2), none⟩,
  ⟨some 65, .callM 7 [.t 64], none⟩,
  ⟨some 66, .mov (.t 12), none⟩,
  ⟨some 67, .mov (.t 15), none⟩,
  ⟨some 68, .bin .sub (.t 66) (.t 67), none⟩,
  ⟨some 69, .conv .u64 (.t 68), none⟩,
  ⟨some 70, .bin .rem (.t 65) (.t 69), none⟩,
  ⟨some 71, .conv .i64 (.t 70), none⟩,
  ⟨some 72, .bin .add (.t 63) (.t 71), none⟩,
  ⟨some 16, .mov (.t 72), none⟩])
 (.lv [2, 8, 10, 12, 13, 15, 16, 59, 60] (.reg (some [0, 1, 2, 3, 4, 5, 6, 7, 8, 9, 10, 11, 12, 13, 14, 15]) [⟨some 73, .mov (.t 13), none⟩,
  ⟨some 74, .mov (.t 15), none⟩,
  ⟨some 75, .mov (.t 13), none⟩,
  ⟨some 76, .mov (.t 16), none⟩,
  ⟨some 77, .mov (.t 13), none⟩,
  ⟨some 78, .mov (.t 16), none⟩,
  ⟨some 79, .iaddr 1 (.t 77) (.t 78), none⟩,
  ⟨some 80, .ld false 1 (.t 79), none⟩,
  ⟨some 81, .mov (.t 13), none⟩,
  ⟨some 82, .mov (.t 15), none⟩,
  ⟨some 83, .iaddr 1 (.t 81) (.t 82), none⟩,
  ⟨some 84, .ld false 1 (.t 83), none⟩,
  ⟨some 85, .iaddr 1 (.t 73) (.t 74), none⟩,
  ⟨none, .st 1 (.t 85) (.t 80), none⟩,
  ⟨some 86, .iaddr 1 (.t 75) (.t 76), none⟩,
  ⟨none, .st 1 (.t 86) (.t 84), none⟩]))))))
 (.lv [2, 8, 10, 12, 13, 59, 60] (.reg none [⟨some 87, .bin .add (.t 60) (.k (.int .i64 1)), none⟩,
  ⟨some 60, .mov (.t 87), none⟩]))))))
def k16_0 : IR :=
 .seq (.reg none [⟨some 88, .mov (.t 13), none⟩,
  ⟨some 89, .mov (.t 10), none⟩,
  ⟨some 90, .cut 1 (.t 88) none (some (.t 89)), none⟩,
  ⟨some 91, .callF 33 [.t 90], none⟩,
  ⟨none, .st 5 (.t 8) (.t 91), none⟩,
  ⟨some 9, .mov (.k (.int .i64 0)), none⟩])
 (.ret)
def k16_1 : IR :=
 .seq (.seq (.reg none [⟨some 59, .mov (.t 10), none⟩,
  ⟨some 60, .mov (.k (.int .i64 0)), none⟩])
 (.lv [2, 8, 10, 12, 13, 59, 60] (.block 3 (.loop [2, 8, 10, 12, 13, 59, 60] none b16_1))))
 k16_0
def c16 : IR :=
 .seq (.reg none [⟨some 4, .box 36 5 (.t 0), none⟩,
  ⟨some 5, .box 36 5 (.t 1), none⟩,
  ⟨some 8, .alloc 36 [.nilsl 3 1, .bool false, .nilsl 21 1, .nilsl 62 3, .bool false], none⟩,
  ⟨some 9, .mov (.k (.int .i64 0)), none⟩])
 (.lv [2, 3, 4, 5, 8] (.seq (.reg none [⟨some 18, .ld true 5 (.t 4), none⟩,
  ⟨some 19, .callR 32 [.t 18], none⟩,
  ⟨some 17, .mov (.t 19), none⟩,
  ⟨some 20, .ext (.t 17) 0, none⟩,
  ⟨some 21, .ext (.t 17) 1, none⟩,
  ⟨some 10, .mov (.t 20), none⟩,
  ⟨some 11, .mov (.t 21), none⟩])
 (.lv [2, 3, 5, 8, 10, 11] (.seq (.seq (.reg none [⟨some 22, .mov (.t 11), none⟩,
  ⟨some 23, .bin .ne (.t 22) (.k (.int .i64 0)), none⟩])
 (.lv [2, 3, 5, 8, 10, 11, 23] (.cond (.t 23) (.lv [8, 11] (.seq (.reg none [⟨some 24, .build [.nilsl 3 1, .bool false, .nilsl 21 1, .nilsl 62 3, .bool false] [], none⟩,
  ⟨some 25, .mov (.t 11), none⟩,
  ⟨none, .st 5 (.t 8) (.t 24), none⟩,
  ⟨some 9, .mov (.t 25), none⟩])
 (.ret)))
 (.skip))))
 (.lv [2, 3, 5, 8, 10] (.seq (.reg none [⟨some 27, .ld true 5 (.t 5), none⟩,
  ⟨some 28, .callR 32 [.t 27], none⟩,
  ⟨some 26, .mov (.t 28), none⟩,
  ⟨some 29, .ext (.t 26) 0, none⟩,
  ⟨some 30, .ext (.t 26) 1, none⟩,
  ⟨some 12, .mov (.t 29), none⟩,
  ⟨some 11, .mov (.t 30), none⟩])
 (.lv [2, 3, 8, 10, 11, 12] (.seq (.block 0 (.seq (.reg none [⟨some 32, .mov (.t 11), none⟩,
  ⟨some 33, .bin .ne (.t 32) (.k (.int .i64 0)), none⟩,
  ⟨some 31, .mov (.t 33), none⟩])
 (.lv [2, 3, 8, 10, 11, 12, 31] (.cond (.t 31) (.lv [8, 11] (.seq (.reg none [⟨some 34, .build [.nilsl 3 1, .bool false, .nilsl 21 1, .nilsl 62 3, .bool false] [], none⟩,
  ⟨some 35, .mov (.t 11), none⟩,
  ⟨none, .st 5 (.t 8) (.t 34), none⟩,
  ⟨some 9, .mov (.t 35), none⟩])
 (.ret)))
 (.lv [2, 3, 8, 10, 12] (.seq (.reg none [⟨some 37, .mov (.t 10), none⟩,
  ⟨some 38, .mov (.t 12), none⟩,
  ⟨some 39, .bin .gt (.t 37) (.t 38), none⟩,
  ⟨some 36, .mov (.t 39), none⟩])
 (.lv [2, 3, 8, 10, 12, 36] (.cond (.t 36) (.lv [8] (.seq (.reg none [⟨some 40, .build [.nilsl 3 1, .bool false, .nilsl 21 1, .nilsl 62 3, .bool false] [], none⟩,
  ⟨none, .st 5 (.t 8) (.t 40), none⟩,
  ⟨some 9, .mov (.k (.int .i64 22)), none⟩])
 (.ret)))
 (.lv [2, 3, 8, 10, 12] (.seq (.reg none [⟨some 42, .mov (.t 12), none⟩,
  ⟨some 43, .bin .gt (.t 42) (.k (.int .i64 4096)), none⟩,
  ⟨some 41, .mov (.t 43), none⟩])
 (.lv [2, 3, 8, 10, 12, 41] (.cond (.t 41) (.lv [8] (.seq (.reg none [⟨some 44, .build [.nilsl 3 1, .bool false, .nilsl 21 1, .nilsl 62 3, .bool false] [], none⟩,
  ⟨none, .st 5 (.t 8) (.t 44), none⟩,
  ⟨some 9, .mov (.k (.int .i64 26)), none⟩])
 (.ret)))
 (.skip)))))))))))))
 (.lv [2, 3, 8, 10, 12] (.seq (.reg none [⟨some 45, .mov (.t 12), none⟩,
  ⟨some 46, .mk 3 8 [.int .i64 0] (.t 45), none⟩,
  ⟨some 13, .mov (.t 46), none⟩])
 (.lv [2, 3, 8, 10, 12, 13] (.seq (.seq (.reg none [⟨some 47, .mov (.t 13), none⟩,
  ⟨some 48, .len (.t 47), none⟩,
  ⟨some 49, .mov (.k (.int .i64 0)), none⟩])
 (.lv [2, 3, 8, 10, 12, 13, 48, 49] (.block 1 (.loop [2, 3, 8, 10, 12, 13, 48, 49] none b16_0))))
 k16_1))))))))))))
def i16 : IFn := ⟨4, 92, c16, [.c 8 true 5, .t 9], .ref⟩

/-! 17: typeball/array.Int -/
def c17 : IR :=
 .seq (.reg none [⟨some 2, .alloc 36 [.nilsl 3 1, .bool false, .nilsl 21 1, .nilsl 62 3, .bool false], none⟩])
 (.lv [0, 2] (.seq (.reg none [⟨some 3, .mov (.t 0), none⟩,
  ⟨some 4, .callP 20 [.t 3], none⟩,
  ⟨some 5, .callP 34 [.t 4], none⟩,
  ⟨none, .st 5 (.t 2) (.t 5), none⟩])
 (.ret)))
def i17 : IFn := ⟨1, 6, c17, [.c 2 true 5], .pure⟩

/-! 18: typeball/typeballref06.Ints -/
def b18_0 : IR :=
 .seq (.seq (.reg none [⟨some 9, .mov (.t 4), none⟩,
  ⟨some 10, .mov (.t 0), none⟩,
  ⟨some 11, .lenf (.t 10), none⟩,
  ⟨some 12, .bin .lt (.t 9) (.t 11), none⟩])
 (.lv [0, 2, 3, 4, 12] (.cond (.t 12) (.skip)
 (.exit 0))))
 (.lv [0, 2, 3, 4] (.seq (.block 1 (.reg (some [0, 1, 2, 3, 4, 5, 6, 7, 8, 9, 10]) [⟨some 15, .faddr 3 (.t 3), none⟩,
  ⟨some 16, .ld false 1 (.t 15), none⟩,
  ⟨some 17, .mov (.t 0), none⟩,
  ⟨some 18, .mov (.t 4), none⟩,
  ⟨some 19, .iaddrf 1 (.t 17) (.t 18), none⟩,
  ⟨some 20, .ldf false 1 (.t 19), none⟩,
  ⟨some 21, .callP 27 [.t 20], none⟩,
  ⟨some 22, .bsl 71 3 [.t 21], none⟩,
  ⟨some 23, .app 71 3 40 (.t 16) (.t 22), none⟩,
  ⟨some 24, .faddr 3 (.t 3), none⟩,
  ⟨none, .st 1 (.t 24) (.t 23), none⟩]))
 (.lv [0, 2, 3, 4] (.reg none [⟨some 13, .mov (.t 4), none⟩,
  ⟨some 14, .bin .add (.t 13) (.k (.int .i64 1)), none⟩,
  ⟨some 4, .mov (.t 14), none⟩]))))
def k18_0 : IR :=
 .seq (.reg none [⟨some 25, .ld true 4 (.t 3), none⟩,
  ⟨none, .st 4 (.t 2) (.t 25), none⟩])
 (.ret)
def c18 : IR :=
 .seq (.reg none [⟨some 2, .alloc 26 [.nilsl 3 1, .bool false, .nilsl 21 1, .nilsl 71 3], none⟩])
 (.lv [0, 2] (.seq (.reg none [⟨some 5, .mov (.t 0), none⟩,
  ⟨some 6, .lenf (.t 5), none⟩,
  ⟨some 7, .bsl 3 1 [.t 6], none⟩,
  ⟨some 8, .build [.nilsl 3 1, .bool false, .nilsl 21 1, .nilsl 71 3] [(0, 1, .t 7)], none⟩,
  ⟨some 3, .alloc 26 [.nilsl 3 1, .bool false, .nilsl 21 1, .nilsl 71 3], none⟩,
  ⟨none, .st 4 (.t 3) (.t 8), none⟩])
 (.lv [0, 2, 3] (.seq (.seq (.reg none [⟨some 4, .mov (.k (.int .i64 0)), none⟩])
 (.lv [0, 2, 3, 4] (.block 0 (.loop [0, 2, 3, 4] (some (11, [])) b18_0))))
 k18_0))))
def i18 : IFn := ⟨1, 26, c18, [.c 2 true 4], .pure⟩

/-! 19: (typeball/array.Array).Whole -/
def b19_0 : IR :=
 .seq (.reg none [⟨some 20, .bin .lt (.t 19) (.t 18), none⟩])
 (.lv [4, 17, 18, 19, 20] (.seq (.cond (.t 20) (.skip)
 (.exit 0))
 (.lv [4, 17, 18, 19] (.seq (.block 1 (.seq (.reg none [⟨some 21, .iaddrf 3 (.t 17) (.t 19), none⟩,
  ⟨some 22, .ldf true 3 (.t 21), none⟩,
  ⟨some 6, .alloc 62 [.nilsl 107 1, .bool false, .nilsl 107 1], none⟩,
  ⟨none, .st 3 (.t 6) (.t 22), none⟩])
 (.lv [4, 6, 17, 18, 19] (.seq (.reg none [⟨some 24, .ld true 3 (.t 6), none⟩,
  ⟨some 25, .callR 35 [.t 24], none⟩,
  ⟨some 23, .mov (.t 25), none⟩,
  ⟨some 26, .ext (.t 23) 0, none⟩,
  ⟨some 27, .ext (.t 23) 1, none⟩,
  ⟨some 7, .mov (.t 26), none⟩,
  ⟨some 8, .mov (.t 27), none⟩])
 (.lv [4, 7, 8, 17, 18, 19] (.seq (.seq (.reg none [⟨some 28, .mov (.t 8), none⟩,
  ⟨some 29, .not (.t 28), none⟩])
 (.lv [4, 7, 17, 18, 19, 29] (.cond (.t 29) (.lv [] (.seq (.reg none [⟨some 2, .newnil 3 1, none⟩,
  ⟨some 3, .mov (.k (.bool false)), none⟩])
 (.ret)))
 (.skip))))
 (.lv [4, 7, 17, 18, 19] (.reg none [⟨some 30, .mov (.t 4), none⟩,
  ⟨some 31, .mov (.t 7), none⟩,
  ⟨some 32, .bsl 3 1 [.t 31], none⟩,
  ⟨some 33, .app 3 1 8 (.t 30) (.t 32), none⟩,
  ⟨some 4, .mov (.t 33), none⟩]))))))))
 (.lv [4, 17, 18, 19] (.reg none [⟨some 34, .bin .add (.t 19) (.k (.int .i64 1)), none⟩,
  ⟨some 19, .mov (.t 34), none⟩]))))))
def k19_0 : IR :=
 .seq (.reg none [⟨some 35, .mov (.t 4), none⟩,
  ⟨some 2, .mov (.t 35), none⟩,
  ⟨some 3, .mov (.k (.bool true)), none⟩])
 (.ret)
def c19 : IR :=
 .seq (.reg none [⟨some 1, .box 36 5 (.t 0), none⟩,
  ⟨some 2, .newnil 3 1, none⟩,
  ⟨some 3, .mov (.k (.bool false)), none⟩])
 (.lv [1] (.seq (.seq (.reg none [⟨some 9, .faddr 1 (.t 1), none⟩,
  ⟨some 10, .ld false 1 (.t 9), none⟩,
  ⟨some 11, .mov (.t 10), none⟩,
  ⟨some 12, .ld true 5 (.t 1), (some (11, true))⟩,
  ⟨some 13, .callP 28 [.t 12], (some (11, true))⟩,
  ⟨some 14, .bin .gt (.t 13) (.k (.int .i64 0)), (some (11, true))⟩,
  ⟨some 15, .pick (.t 11) (.t 14) (.k (.bool false)), none⟩])
 (.lv [1, 15] (.cond (.t 15) (.lv [] (.seq (.reg none [⟨some 2, .newnil 3 1, none⟩,
  ⟨some 3, .mov (.k (.bool false)), none⟩])
 (.ret)))
 (.skip))))
 (.lv [1] (.seq (.reg none [⟨some 4, .newnil 3 1, none⟩])
 (.lv [1, 4] (.seq (.seq (.reg none [⟨some 16, .faddr 3 (.t 1), none⟩,
  ⟨some 17, .ld false 1 (.t 16), none⟩,
  ⟨some 18, .lenf (.t 17), none⟩,
  ⟨some 19, .mov (.k (.int .i64 0)), none⟩])
 (.lv [4, 17, 18, 19] (.block 0 (.loop [4, 17, 18, 19] (some (3, [])) b19_0))))
 k19_0))))))
def i19 : IFn := ⟨1, 36, c19, [.t 2, .t 3], .own⟩

/-! 20: typeball/ratio.From -/
def c20 : IR :=
 .seq (.reg none [⟨some 2, .alloc 62 [.nilsl 107 1, .bool false, .nilsl 107 1], none⟩])
 (.lv [0, 2] (.seq (.reg none [⟨some 3, .mov (.t 0), none⟩,
  ⟨some 4, .callP 36 [.t 3], none⟩,
  ⟨some 5, .callP 37 [.k (.int .u64 1)], none⟩,
  ⟨some 6, .build [.nilsl 107 1, .bool false, .nilsl 107 1] [(0, 2, .t 4), (2, 1, .t 5)], none⟩,
  ⟨none, .st 3 (.t 2) (.t 6), none⟩])
 (.ret)))
def i20 : IFn := ⟨1, 7, c20, [.c 2 true 3], .pure⟩

/-! 21: (typeball/ratio.Rat).Plus -/
def b21_0 : IR :=
 .seq (.reg none [⟨some 10, .bin .lt (.t 9) (.t 8), none⟩])
 (.lv [2, 4, 7, 8, 9, 10] (.seq (.cond (.t 10) (.skip)
 (.exit 0))
 (.lv [2, 4, 7, 8, 9] (.seq (.block 1 (.seq (.reg none [⟨some 11, .iaddrf 3 (.t 7) (.t 9), none⟩,
  ⟨some 12, .ldf true 3 (.t 11), none⟩,
  ⟨some 6, .alloc 62 [.nilsl 107 1, .bool false, .nilsl 107 1], none⟩,
  ⟨none, .st 3 (.t 6) (.t 12), none⟩])
 (.lv [2, 4, 6, 7, 8, 9] (.reg (some [0, 1, 2, 6, 7, 8, 14, 16, 3, 4, 5, 9, 10, 11, 12, 13, 15, 17, 18, 19, 20, 21, 22, 23, 24]) [⟨some 14, .faddr 0 (.t 2), none⟩,
  ⟨some 15, .ld true 2 (.t 14), none⟩,
  ⟨some 16, .ld true 3 (.t 6), none⟩,
  ⟨some 20, .faddr 0 (.t 6), none⟩,
  ⟨some 21, .ld true 2 (.t 20), none⟩,
  ⟨some 22, .ld true 3 (.t 2), none⟩,
  ⟨some 28, .ld true 3 (.t 2), none⟩,
  ⟨some 30, .ld true 3 (.t 6), none⟩,
  ⟨some 17, .callF 40 [.t 16], none⟩,
  ⟨some 18, .bsl 60 2 [.t 17], none⟩,
  ⟨some 19, .callF 39 [.t 15, .t 18], none⟩,
  ⟨some 23, .callP 40 [.t 22], none⟩,
  ⟨some 24, .bsl 60 2 [.t 23], none⟩,
  ⟨some 25, .callF 39 [.t 21, .t 24], none⟩,
  ⟨some 26, .bsl 60 2 [.t 25], none⟩,
  ⟨some 27, .callF 41 [.t 19, .t 26], none⟩,
  ⟨some 29, .callP 40 [.t 28], none⟩,
  ⟨some 31, .callF 40 [.t 30], none⟩,
  ⟨some 32, .bsl 60 2 [.t 31], none⟩,
  ⟨some 33, .callF 39 [.t 29, .t 32], none⟩,
  ⟨some 34, .callP 38 [.t 27, .t 33], none⟩,
  ⟨some 13, .mov (.t 34), none⟩,
  ⟨some 35, .ext (.t 13) 0, none⟩,
  ⟨some 36, .ext (.t 13) 1, none⟩,
  ⟨none, .st 3 (.t 2) (.t 35), none⟩]))))
 (.lv [2, 4, 7, 8, 9] (.reg none [⟨some 37, .bin .add (.t 9) (.k (.int .i64 1)), none⟩,
  ⟨some 9, .mov (.t 37), none⟩]))))))
def k21_0 : IR :=
 .seq (.reg none [⟨some 38, .ld true 3 (.t 2), none⟩,
  ⟨none, .st 3 (.t 4) (.t 38), none⟩])
 (.ret)
def c21 : IR :=
 .seq (.reg none [⟨some 2, .box 62 3 (.t 0), none⟩,
  ⟨some 4, .alloc 62 [.nilsl 107 1, .bool false, .nilsl 107 1], none⟩])
 (.lv [1, 2, 4] (.seq (.seq (.reg none [⟨some 7, .mov (.t 1), none⟩,
  ⟨some 8, .lenf (.t 7), none⟩,
  ⟨some 9, .mov (.k (.int .i64 0)), none⟩])
 (.lv [2, 4, 7, 8, 9] (.block 0 (.loop [2, 4, 7, 8, 9] (some (4, [])) b21_0))))
 k21_0))
def i21 : IFn := ⟨2, 39, c21, [.c 4 true 3], .pure⟩

/-! 22: typeball/array.Nums -/
def c22 : IR :=
 .seq (.reg none [⟨some 4, .alloc 36 [.nilsl 3 1, .bool false, .nilsl 21 1, .nilsl 62 3, .bool false], none⟩,
  ⟨some 5, .mov (.k (.bool false)), none⟩])
 (.lv [0, 1, 4] (.seq (.reg none [⟨some 9, .mov (.t 0), none⟩,
  ⟨some 10, .callP 42 [.t 9], none⟩,
  ⟨some 8, .mov (.t 10), none⟩,
  ⟨some 11, .ext (.t 8) 0, none⟩,
  ⟨some 12, .ext (.t 8) 1, none⟩,
  ⟨some 6, .mov (.t 11), none⟩,
  ⟨some 7, .mov (.t 12), none⟩])
 (.lv [0, 1, 4, 6, 7] (.seq (.seq (.reg none [⟨some 13, .mov (.t 7), none⟩,
  ⟨some 14, .not (.t 13), none⟩,
  ⟨some 15, .mov (.t 14), none⟩,
  ⟨some 16, .mov (.t 6), (some (15, false))⟩,
  ⟨some 17, .mov (.t 1), (some (15, false))⟩,
  ⟨some 18, .lenf (.t 17), (some (15, false))⟩,
  ⟨some 19, .bin .ne (.t 16) (.t 18), (some (15, false))⟩,
  ⟨some 20, .pick (.t 15) (.k (.bool true)) (.t 19), none⟩])
 (.lv [0, 1, 4, 20] (.cond (.t 20) (.lv [4] (.seq (.reg none [⟨some 21, .build [.nilsl 3 1, .bool false, .nilsl 21 1, .nilsl 62 3, .bool false] [], none⟩,
  ⟨none, .st 5 (.t 4) (.t 21), none⟩,
  ⟨some 5, .mov (.k (.bool false)), none⟩])
 (.ret)))
 (.skip))))
 (.lv [0, 1, 4] (.seq (.reg none [⟨some 22, .mov (.t 0), none⟩,
  ⟨some 23, .callO 43 [.t 22], none⟩,
  ⟨some 24, .mov (.t 1), none⟩,
  ⟨some 25, .callO 44 [.t 24], none⟩,
  ⟨some 26, .build [.nilsl 3 1, .bool false, .nilsl 21 1, .nilsl 62 3, .bool false] [(0, 1, .t 23), (1, 1, .k (.bool false)), (2, 1, .k (.nilsl 21 1)), (3, 1, .t 25), (4, 1, .k (.bool true))], none⟩,
  ⟨none, .st 5 (.t 4) (.t 26), none⟩,
  ⟨some 5, .mov (.k (.bool true)), none⟩])
 (.ret)))))))
def i22 : IFn := ⟨2, 27, c22, [.c 4 true 5, .t 5], .pure⟩

/-! 23: (typeball/array.Array).Shape -/
def c23 : IR :=
 .seq (.reg none [⟨some 1, .box 36 5 (.t 0), none⟩,
  ⟨some 2, .newnil 3 1, none⟩])
 (.lv [1] (.seq (.seq (.reg none [⟨some 3, .faddr 4 (.t 1), none⟩,
  ⟨some 4, .ld false 1 (.t 3), none⟩,
  ⟨some 5, .not (.t 4), none⟩])
 (.lv [1, 5] (.cond (.t 5) (.lv [] (.seq (.reg none [⟨some 6, .bsl 3 1 [.k (.int .i64 0)], none⟩,
  ⟨some 2, .mov (.t 6), none⟩])
 (.ret)))
 (.skip))))
 (.lv [1] (.seq (.reg none [⟨some 7, .faddr 0 (.t 1), none⟩,
  ⟨some 8, .ld false 1 (.t 7), none⟩,
  ⟨some 9, .callO 43 [.t 8], none⟩,
  ⟨some 2, .mov (.t 9), none⟩])
 (.ret)))))
def i23 : IFn := ⟨1, 10, c23, [.t 2], .pure⟩

/-! 24: typeball/array.Of -/
def b24_0 : IR :=
 .seq (.reg none [⟨some 68, .bin .lt (.t 67) (.t 66), none⟩])
 (.lv [2, 6, 65, 66, 67, 68] (.seq (.cond (.t 68) (.skip)
 (.exit 0))
 (.lv [2, 6, 65, 66, 67] (.seq (.block 1 (.seq (.reg none [⟨some 69, .iaddrf 3 (.t 65) (.t 67), none⟩,
  ⟨some 70, .ldf true 3 (.t 69), none⟩,
  ⟨some 8, .alloc 71 [.bool false, .str ⟨#[]⟩, .str ⟨#[]⟩], none⟩,
  ⟨none, .st 3 (.t 8) (.t 70), none⟩])
 (.lv [2, 6, 8, 65, 66, 67] (.seq (.reg none [⟨some 72, .ld true 3 (.t 8), none⟩,
  ⟨some 73, .callP 46 [.t 72], none⟩,
  ⟨some 71, .mov (.t 73), none⟩,
  ⟨some 74, .ext (.t 71) 0, none⟩,
  ⟨some 75, .ext (.t 71) 1, none⟩,
  ⟨some 9, .alloc 62 [.nilsl 107 1, .bool false, .nilsl 107 1], none⟩,
  ⟨none, .st 3 (.t 9) (.t 74), none⟩,
  ⟨some 10, .mov (.t 75), none⟩])
 (.lv [2, 6, 9, 10, 65, 66, 67] (.seq (.seq (.reg none [⟨some 76, .mov (.t 10), none⟩,
  ⟨some 77, .not (.t 76), none⟩])
 (.lv [2, 6, 9, 65, 66, 67, 77] (.cond (.t 77) (.lv [2] (.seq (.reg none [⟨some 78, .build [.nilsl 3 1, .bool false, .nilsl 21 1, .nilsl 62 3, .bool false] [], none⟩,
  ⟨none, .st 5 (.t 2) (.t 78), none⟩,
  ⟨some 3, .mov (.k (.bool false)), none⟩])
 (.ret)))
 (.skip))))
 (.lv [2, 6, 9, 65, 66, 67] (.reg none [⟨some 79, .faddr 3 (.t 6), none⟩,
  ⟨some 80, .ld false 1 (.t 79), none⟩,
  ⟨some 81, .ld true 3 (.t 9), none⟩,
  ⟨some 82, .bsl 62 3 [.t 81], none⟩,
  ⟨some 83, .app 62 3 56 (.t 80) (.t 82), none⟩,
  ⟨some 84, .faddr 3 (.t 6), none⟩,
  ⟨none, .st 1 (.t 84) (.t 83), none⟩]))))))))
 (.lv [2, 6, 65, 66, 67] (.reg none [⟨some 85, .bin .add (.t 67) (.k (.int .i64 1)), none⟩,
  ⟨some 67, .mov (.t 85), none⟩]))))))
def k24_0 : IR :=
 .seq (.reg none [⟨some 86, .ld true 5 (.t 6), none⟩,
  ⟨none, .st 5 (.t 2) (.t 86), none⟩,
  ⟨some 3, .mov (.k (.bool true)), none⟩])
 (.ret)
def c24 : IR :=
 .seq (.reg none [⟨some 1, .box 26 4 (.t 0), none⟩,
  ⟨some 2, .alloc 36 [.nilsl 3 1, .bool false, .nilsl 21 1, .nilsl 62 3, .bool false], none⟩,
  ⟨some 3, .mov (.k (.bool false)), none⟩])
 (.lv [1, 2] (.seq (.reg none [⟨some 12, .faddr 0 (.t 1), none⟩,
  ⟨some 13, .ld false 1 (.t 12), none⟩,
  ⟨some 14, .callP 42 [.t 13], none⟩,
  ⟨some 11, .mov (.t 14), none⟩,
  ⟨some 15, .ext (.t 11) 0, none⟩,
  ⟨some 16, .ext (.t 11) 1, none⟩,
  ⟨some 4, .mov (.t 15), none⟩,
  ⟨some 5, .mov (.t 16), none⟩])
 (.lv [1, 2, 4, 5] (.seq (.seq (.reg none [⟨some 17, .mov (.t 5), none⟩,
  ⟨some 18, .not (.t 17), none⟩,
  ⟨some 19, .mov (.t 18), none⟩,
  ⟨some 20, .faddr 1 (.t 1), (some (19, false))⟩,
  ⟨some 21, .ld false 1 (.t 20), (some (19, false))⟩,
  ⟨some 22, .mov (.t 21), (some (19, false))⟩,
  ⟨some 23, .faddr 2 (.t 1), (some (22, true))⟩,
  ⟨some 24, .ld false 1 (.t 23), (some (22, true))⟩,
  ⟨some 25, .lenf (.t 24), (some (22, true))⟩,
  ⟨some 26, .mov (.t 4), (some (22, true))⟩,
  ⟨some 27, .bin .ne (.t 25) (.t 26), (some (22, true))⟩,
  ⟨some 28, .mov (.t 27), (some (22, true))⟩,
  ⟨some 29, .faddr 3 (.t 1), (some (28, false))⟩,
  ⟨some 30, .ld false 1 (.t 29), (some (28, false))⟩,
  ⟨some 31, .lenf (.t 30), (some (28, false))⟩,
  ⟨some 32, .bin .gt (.t 31) (.k (.int .i64 0)), (some (28, false))⟩,
  ⟨some 33, .pick (.t 28) (.k (.bool true)) (.t 32), (some (22, true))⟩,
  ⟨some 34, .pick (.t 22) (.t 33) (.k (.bool false)), (some (19, false))⟩,
  ⟨some 35, .pick (.t 19) (.k (.bool true)) (.t 34), none⟩,
  ⟨some 36, .mov (.t 35), none⟩,
  ⟨some 37, .faddr 1 (.t 1), (some (36, false))⟩,
  ⟨some 38, .ld false 1 (.t 37), (some (36, false))⟩,
  ⟨some 39, .not (.t 38), (some (36, false))⟩,
  ⟨some 40, .mov (.t 39), (some (36, false))⟩,
  ⟨some 41, .faddr 3 (.t 1), (some (40, true))⟩,
  ⟨some 42, .ld false 1 (.t 41), (some (40, true))⟩,
  ⟨some 43, .lenf (.t 42), (some (40, true))⟩,
  ⟨some 44, .mov (.t 4), (some (40, true))⟩,
  ⟨some 45, .bin .ne (.t 43) (.t 44), (some (40, true))⟩,
  ⟨some 46, .mov (.t 45), (some (40, true))⟩,
  ⟨some 47, .faddr 2 (.t 1), (some (46, false))⟩,
  ⟨some 48, .ld false 1 (.t 47), (some (46, false))⟩,
  ⟨some 49, .lenf (.t 48), (some (46, false))⟩,
  ⟨some 50, .bin .gt (.t 49) (.k (.int .i64 0)), (some (46, false))⟩,
  ⟨some 51, .pick (.t 46) (.k (.bool true)) (.t 50), (some (40, true))⟩,
  ⟨some 52, .pick (.t 40) (.t 51) (.k (.bool false)), (some (36, false))⟩,
  ⟨some 53, .pick (.t 36) (.k (.bool true)) (.t 52), none⟩])
 (.lv [1, 2, 53] (.cond (.t 53) (.lv [2] (.seq (.reg none [⟨some 54, .build [.nilsl 3 1, .bool false, .nilsl 21 1, .nilsl 62 3, .bool false] [], none⟩,
  ⟨none, .st 5 (.t 2) (.t 54), none⟩,
  ⟨some 3, .mov (.k (.bool false)), none⟩])
 (.ret)))
 (.skip))))
 (.lv [1, 2] (.seq (.reg (some [0, 1, 3, 4, 5, 6, 2, 7, 8, 9, 10]) [⟨some 55, .faddr 0 (.t 1), none⟩,
  ⟨some 56, .ld false 1 (.t 55), none⟩,
  ⟨some 58, .faddr 1 (.t 1), none⟩,
  ⟨some 59, .ld false 1 (.t 58), none⟩,
  ⟨some 60, .faddr 2 (.t 1), none⟩,
  ⟨some 61, .ld false 1 (.t 60), none⟩,
  ⟨some 57, .callZ 43 [.t 56], none⟩,
  ⟨some 62, .callZ 45 [.t 61], none⟩,
  ⟨some 63, .build [.nilsl 3 1, .bool false, .nilsl 21 1, .nilsl 62 3, .bool false] [(0, 1, .t 57), (1, 1, .t 59), (2, 1, .t 62), (3, 1, .k (.nilsl 62 3)), (4, 1, .k (.bool true))], none⟩,
  ⟨some 6, .alloc 36 [.nilsl 3 1, .bool false, .nilsl 21 1, .nilsl 62 3, .bool false], none⟩,
  ⟨none, .st 5 (.t 6) (.t 63), none⟩])
 (.lv [1, 2, 6] (.seq (.seq (.reg none [⟨some 64, .faddr 3 (.t 1), none⟩,
  ⟨some 65, .ld false 1 (.t 64), none⟩,
  ⟨some 66, .lenf (.t 65), none⟩,
  ⟨some 67, .mov (.k (.int .i64 0)), none⟩])
 (.lv [2, 6, 65, 66, 67] (.block 0 (.loop [2, 6, 65, 66, 67] (some (10, [])) b24_0))))
 k24_0))))))))
def i24 : IFn := ⟨1, 87, c24, [.c 2 true 5, .t 3], .pure⟩

/-! 25: typeball/typeballref06.Whole -/
def b25_0 : IR :=
 .seq (.seq (.reg none [⟨some 12, .mov (.t 5), none⟩,
  ⟨some 13, .faddr 3 (.t 1), none⟩,
  ⟨some 14, .ld false 1 (.t 13), none⟩,
  ⟨some 15, .lenf (.t 14), none⟩,
  ⟨some 16, .bin .lt (.t 12) (.t 15), none⟩])
 (.lv [1, 4, 5, 16] (.cond (.t 16) (.skip)
 (.exit 0))))
 (.lv [1, 4, 5] (.seq (.block 1 (.seq (.reg none [⟨some 20, .faddr 3 (.t 1), none⟩,
  ⟨some 21, .ld false 1 (.t 20), none⟩,
  ⟨some 22, .mov (.t 5), none⟩,
  ⟨some 23, .iaddrf 3 (.t 21) (.t 22), none⟩,
  ⟨some 24, .ldf true 3 (.t 23), none⟩,
  ⟨some 25, .callP 47 [.t 24], none⟩,
  ⟨some 19, .mov (.t 25), none⟩,
  ⟨some 26, .ext (.t 19) 0, none⟩,
  ⟨some 27, .ext (.t 19) 1, none⟩,
  ⟨some 6, .mov (.t 26), none⟩,
  ⟨some 7, .mov (.t 27), none⟩])
 (.lv [1, 4, 5, 6, 7] (.seq (.seq (.reg none [⟨some 28, .mov (.t 7), none⟩,
  ⟨some 29, .not (.t 28), none⟩])
 (.lv [1, 4, 5, 6, 29] (.cond (.t 29) (.lv [] (.seq (.reg none [⟨some 2, .newnil 3 1, none⟩,
  ⟨some 3, .mov (.k (.bool false)), none⟩])
 (.ret)))
 (.skip))))
 (.lv [1, 4, 5, 6] (.reg none [⟨some 30, .mov (.t 4), none⟩,
  ⟨some 31, .mov (.t 6), none⟩,
  ⟨some 32, .bsl 3 1 [.t 31], none⟩,
  ⟨some 33, .app 3 1 8 (.t 30) (.t 32), none⟩,
  ⟨some 4, .mov (.t 33), none⟩]))))))
 (.lv [1, 4, 5] (.reg none [⟨some 17, .mov (.t 5), none⟩,
  ⟨some 18, .bin .add (.t 17) (.k (.int .i64 1)), none⟩,
  ⟨some 5, .mov (.t 18), none⟩]))))
def k25_0 : IR :=
 .seq (.reg none [⟨some 34, .mov (.t 4), none⟩,
  ⟨some 2, .mov (.t 34), none⟩,
  ⟨some 3, .mov (.k (.bool true)), none⟩])
 (.ret)
def c25 : IR :=
 .seq (.reg none [⟨some 1, .box 26 4 (.t 0), none⟩,
  ⟨some 2, .newnil 3 1, none⟩,
  ⟨some 3, .mov (.k (.bool false)), none⟩])
 (.lv [1] (.seq (.seq (.reg none [⟨some 8, .faddr 2 (.t 1), none⟩,
  ⟨some 9, .ld false 1 (.t 8), none⟩,
  ⟨some 10, .lenf (.t 9), none⟩,
  ⟨some 11, .bin .gt (.t 10) (.k (.int .i64 0)), none⟩])
 (.lv [1, 11] (.cond (.t 11) (.lv [] (.seq (.reg none [⟨some 2, .newnil 3 1, none⟩,
  ⟨some 3, .mov (.k (.bool false)), none⟩])
 (.ret)))
 (.skip))))
 (.lv [1] (.seq (.reg none [⟨some 4, .newnil 3 1, none⟩])
 (.lv [1, 4] (.seq (.seq (.reg none [⟨some 5, .mov (.k (.int .i64 0)), none⟩])
 (.lv [1, 4, 5] (.block 0 (.loop [1, 4, 5] (some (3, [])) b25_0))))
 k25_0))))))
def i25 : IFn := ⟨1, 35, c25, [.t 2, .t 3], .own⟩

/-! 26: typeball/typeballref03.Add -/
def c26 : IR :=
 .seq (.reg none [⟨some 2, .box 71 3 (.t 0), none⟩,
  ⟨some 3, .box 71 3 (.t 1), none⟩,
  ⟨some 4, .alloc 71 [.bool false, .str ⟨#[]⟩, .str ⟨#[]⟩], none⟩])
 (.lv [2, 3, 4] (.seq (.reg (some [0, 1, 2, 3, 4, 5, 6, 7, 8, 9, 10, 11, 12, 13, 14, 15, 16, 17, 18, 19, 20, 21, 22]) [⟨some 8, .ld true 3 (.t 2), none⟩,
  ⟨some 9, .callP 51 [.t 8], none⟩,
  ⟨some 10, .ld true 3 (.t 3), none⟩,
  ⟨some 11, .callP 52 [.t 10], none⟩,
  ⟨some 12, .callP 50 [.t 9, .t 11], none⟩,
  ⟨some 13, .ld true 3 (.t 3), none⟩,
  ⟨some 14, .callP 51 [.t 13], none⟩,
  ⟨some 15, .ld true 3 (.t 2), none⟩,
  ⟨some 16, .callP 52 [.t 15], none⟩,
  ⟨some 17, .callP 50 [.t 14, .t 16], none⟩,
  ⟨some 18, .callP 49 [.t 12, .t 17], none⟩,
  ⟨some 19, .ld true 3 (.t 2), none⟩,
  ⟨some 20, .callP 52 [.t 19], none⟩,
  ⟨some 21, .ld true 3 (.t 3), none⟩,
  ⟨some 22, .callP 52 [.t 21], none⟩,
  ⟨some 23, .callP 50 [.t 20, .t 22], none⟩,
  ⟨some 24, .callP 48 [.t 18, .t 23], none⟩,
  ⟨some 7, .mov (.t 24), none⟩,
  ⟨some 25, .ext (.t 7) 0, none⟩,
  ⟨some 26, .ext (.t 7) 1, none⟩,
  ⟨some 5, .alloc 71 [.bool false, .str ⟨#[]⟩, .str ⟨#[]⟩], none⟩,
  ⟨none, .st 3 (.t 5) (.t 25), none⟩,
  ⟨some 6, .mov (.t 26), none⟩])
 (.lv [4, 5] (.seq (.reg none [⟨some 27, .ld true 3 (.t 5), none⟩,
  ⟨none, .st 3 (.t 4) (.t 27), none⟩])
 (.ret)))))
def i26 : IFn := ⟨2, 28, c26, [.c 4 true 3], .pure⟩

/-! 27: typeball/typeballref03.From -/
def c27 : IR :=
 .seq (.reg none [⟨some 2, .alloc 71 [.bool false, .str ⟨#[]⟩, .str ⟨#[]⟩], none⟩])
 (.lv [0, 2] (.seq (.reg none [⟨some 4, .mov (.t 0), none⟩,
  ⟨some 5, .callP 53 [.t 4], none⟩,
  ⟨some 3, .alloc 97 [.bool false, .str ⟨#[]⟩], none⟩,
  ⟨none, .st 2 (.t 3) (.t 5), none⟩])
 (.lv [2, 3] (.seq (.reg none [⟨some 6, .faddr 0 (.t 3), none⟩,
  ⟨some 7, .ld false 1 (.t 6), none⟩,
  ⟨some 8, .faddr 1 (.t 3), none⟩,
  ⟨some 9, .ld false 1 (.t 8), none⟩,
  ⟨some 10, .build [.bool false, .str ⟨#[]⟩, .str ⟨#[]⟩] [(0, 1, .t 7), (1, 1, .t 9), (2, 1, .k (.str ⟨#[49]⟩))], none⟩,
  ⟨none, .st 3 (.t 2) (.t 10), none⟩])
 (.ret)))))
def i27 : IFn := ⟨1, 11, c27, [.c 2 true 3], .pure⟩

/-! 28: (typeball/array.Array).Len -/
def c28 : IR :=
 .seq (.reg none [⟨some 1, .box 36 5 (.t 0), none⟩,
  ⟨some 2, .mov (.k (.int .i64 0)), none⟩])
 (.lv [1] (.seq (.reg none [⟨some 3, .faddr 2 (.t 1), none⟩,
  ⟨some 4, .ld false 1 (.t 3), none⟩,
  ⟨some 5, .lenf (.t 4), none⟩,
  ⟨some 6, .faddr 3 (.t 1), none⟩,
  ⟨some 7, .ld false 1 (.t 6), none⟩,
  ⟨some 8, .lenf (.t 7), none⟩,
  ⟨some 9, .bin .add (.t 5) (.t 8), none⟩,
  ⟨some 2, .mov (.t 9), none⟩])
 (.ret)))
def i28 : IFn := ⟨1, 10, c28, [.t 2], .pure⟩

/-! 29: typeball/typeballref06.Same -/
def b29_0 : IR :=
 .seq (.seq (.reg none [⟨some 36, .mov (.t 5), none⟩,
  ⟨some 37, .faddr 3 (.t 2), none⟩,
  ⟨some 38, .ld false 1 (.t 37), none⟩,
  ⟨some 39, .lenf (.t 38), none⟩,
  ⟨some 40, .bin .lt (.t 36) (.t 39), none⟩])
 (.lv [2, 3, 5, 40] (.cond (.t 40) (.skip)
 (.exit 0))))
 (.lv [2, 3, 5] (.seq (.block 1 (.seq (.reg (some [0, 1, 2, 3, 4, 5, 6, 7, 8, 9, 10]) [⟨some 43, .faddr 3 (.t 2), none⟩,
  ⟨some 44, .ld false 1 (.t 43), none⟩,
  ⟨some 45, .mov (.t 5), none⟩,
  ⟨some 46, .iaddrf 3 (.t 44) (.t 45), none⟩,
  ⟨some 47, .ldf true 3 (.t 46), none⟩,
  ⟨some 48, .faddr 3 (.t 3), none⟩,
  ⟨some 49, .ld false 1 (.t 48), none⟩,
  ⟨some 50, .mov (.t 5), none⟩,
  ⟨some 51, .iaddrf 3 (.t 49) (.t 50), none⟩,
  ⟨some 52, .ldf true 3 (.t 51), none⟩,
  ⟨some 53, .bins .ne [0, 2, 2] (.t 47) (.t 52), none⟩])
 (.lv [2, 3, 5, 53] (.cond (.t 53) (.lv [] (.seq (.reg none [⟨some 4, .mov (.k (.bool false)), none⟩])
 (.ret)))
 (.skip)))))
 (.lv [2, 3, 5] (.reg none [⟨some 41, .mov (.t 5), none⟩,
  ⟨some 42, .bin .add (.t 41) (.k (.int .i64 1)), none⟩,
  ⟨some 5, .mov (.t 42), none⟩]))))
def k29_0 : IR :=
 .seq (.reg none [⟨some 4, .mov (.k (.bool true)), none⟩])
 (.ret)
def c29 : IR :=
 .seq (.reg none [⟨some 2, .box 26 4 (.t 0), none⟩,
  ⟨some 3, .box 26 4 (.t 1), none⟩,
  ⟨some 4, .mov (.k (.bool false)), none⟩])
 (.lv [2, 3] (.seq (.seq (.reg none [⟨some 6, .faddr 1 (.t 2), none⟩,
  ⟨some 7, .ld false 1 (.t 6), none⟩,
  ⟨some 8, .faddr 1 (.t 3), none⟩,
  ⟨some 9, .ld false 1 (.t 8), none⟩,
  ⟨some 10, .binb .ne (.t 7) (.t 9), none⟩,
  ⟨some 11, .mov (.t 10), none⟩,
  ⟨some 12, .faddr 0 (.t 2), (some (11, false))⟩,
  ⟨some 13, .ld false 1 (.t 12), (some (11, false))⟩,
  ⟨some 14, .faddr 0 (.t 3), (some (11, false))⟩,
  ⟨some 15, .ld false 1 (.t 14), (some (11, false))⟩,
  ⟨some 16, .callP 54 [.t 13, .t 15], (some (11, false))⟩,
  ⟨some 17, .not (.t 16), (some (11, false))⟩,
  ⟨some 18, .pick (.t 11) (.k (.bool true)) (.t 17), none⟩,
  ⟨some 19, .mov (.t 18), none⟩,
  ⟨some 20, .faddr 2 (.t 2), (some (19, false))⟩,
  ⟨some 21, .ld false 1 (.t 20), (some (19, false))⟩,
  ⟨some 22, .faddr 2 (.t 3), (some (19, false))⟩,
  ⟨some 23, .ld false 1 (.t 22), (some (19, false))⟩,
  ⟨some 24, .callP 55 [.t 21, .t 23], (some (19, false))⟩,
  ⟨some 25, .not (.t 24), (some (19, false))⟩,
  ⟨some 26, .pick (.t 19) (.k (.bool true)) (.t 25), none⟩,
  ⟨some 27, .mov (.t 26), none⟩,
  ⟨some 28, .faddr 3 (.t 2), (some (27, false))⟩,
  ⟨some 29, .ld false 1 (.t 28), (some (27, false))⟩,
  ⟨some 30, .lenf (.t 29), (some (27, false))⟩,
  ⟨some 31, .faddr 3 (.t 3), (some (27, false))⟩,
  ⟨some 32, .ld false 1 (.t 31), (some (27, false))⟩,
  ⟨some 33, .lenf (.t 32), (some (27, false))⟩,
  ⟨some 34, .bin .ne (.t 30) (.t 33), (some (27, false))⟩,
  ⟨some 35, .pick (.t 27) (.k (.bool true)) (.t 34), none⟩])
 (.lv [2, 3, 35] (.cond (.t 35) (.lv [] (.seq (.reg none [⟨some 4, .mov (.k (.bool false)), none⟩])
 (.ret)))
 (.skip))))
 (.lv [2, 3] (.seq (.seq (.reg none [⟨some 5, .mov (.k (.int .i64 0)), none⟩])
 (.lv [2, 3, 5] (.block 0 (.loop [2, 3, 5] (some (2, [])) b29_0))))
 k29_0))))
def i29 : IFn := ⟨2, 54, c29, [.t 4], .pure⟩

/-! 30: (typeball/array.Array).Plain -/
def b30_0 : IR :=
 .seq (.reg none [⟨some 17, .bin .lt (.t 16) (.t 15), none⟩])
 (.lv [2, 3, 14, 15, 16, 17] (.seq (.cond (.t 17) (.skip)
 (.exit 0))
 (.lv [2, 3, 14, 15, 16] (.seq (.block 1 (.seq (.reg none [⟨some 18, .iaddrf 3 (.t 14) (.t 16), none⟩,
  ⟨some 19, .ldf true 3 (.t 18), none⟩,
  ⟨some 5, .alloc 62 [.nilsl 107 1, .bool false, .nilsl 107 1], none⟩,
  ⟨none, .st 3 (.t 5) (.t 19), none⟩])
 (.lv [2, 3, 5, 14, 15, 16] (.reg (some [0, 1, 2, 3, 4, 5, 6, 7]) [⟨some 20, .faddr 3 (.t 3), none⟩,
  ⟨some 21, .ld false 1 (.t 20), none⟩,
  ⟨some 22, .ld true 3 (.t 5), none⟩,
  ⟨some 23, .callR 57 [.t 22], none⟩,
  ⟨some 24, .bsl 71 3 [.t 23], none⟩,
  ⟨some 25, .app 71 3 40 (.t 21) (.t 24), none⟩,
  ⟨some 26, .faddr 3 (.t 3), none⟩,
  ⟨none, .st 1 (.t 26) (.t 25), none⟩]))))
 (.lv [2, 3, 14, 15, 16] (.reg none [⟨some 27, .bin .add (.t 16) (.k (.int .i64 1)), none⟩,
  ⟨some 16, .mov (.t 27), none⟩]))))))
def k30_0 : IR :=
 .seq (.reg none [⟨some 28, .ld true 4 (.t 3), none⟩,
  ⟨none, .st 4 (.t 2) (.t 28), none⟩])
 (.ret)
def c30 : IR :=
 .seq (.reg none [⟨some 1, .box 36 5 (.t 0), none⟩,
  ⟨some 2, .alloc 26 [.nilsl 3 1, .bool false, .nilsl 21 1, .nilsl 71 3], none⟩])
 (.lv [1, 2] (.seq (.reg (some [0, 1, 2, 3, 4, 5, 6, 7, 8]) [⟨some 6, .ld true 5 (.t 1), none⟩,
  ⟨some 7, .callP 23 [.t 6], none⟩,
  ⟨some 8, .faddr 1 (.t 1), none⟩,
  ⟨some 9, .ld false 1 (.t 8), none⟩,
  ⟨some 10, .ld true 5 (.t 1), none⟩,
  ⟨some 11, .callZ 56 [.t 10], none⟩,
  ⟨some 12, .build [.nilsl 3 1, .bool false, .nilsl 21 1, .nilsl 71 3] [(0, 1, .t 7), (1, 1, .t 9), (2, 1, .t 11)], none⟩,
  ⟨some 3, .alloc 26 [.nilsl 3 1, .bool false, .nilsl 21 1, .nilsl 71 3], none⟩,
  ⟨none, .st 4 (.t 3) (.t 12), none⟩])
 (.lv [1, 2, 3] (.seq (.seq (.reg none [⟨some 13, .faddr 3 (.t 1), none⟩,
  ⟨some 14, .ld false 1 (.t 13), none⟩,
  ⟨some 15, .lenf (.t 14), none⟩,
  ⟨some 16, .mov (.k (.int .i64 0)), none⟩])
 (.lv [2, 3, 14, 15, 16] (.block 0 (.loop [2, 3, 14, 15, 16] (some (10, [])) b30_0))))
 k30_0))))
def i30 : IFn := ⟨1, 29, c30, [.c 2 true 4], .pure⟩

/-! 31: typeball/typeballref06.Right -/
def b31_0 : IR :=
 .seq (.seq (.reg none [⟨some 49, .mov (.t 5), none⟩,
  ⟨some 50, .faddr 3 (.t 1), none⟩,
  ⟨some 51, .ld false 1 (.t 50), none⟩,
  ⟨some 52, .lenf (.t 51), none⟩,
  ⟨some 53, .bin .lt (.t 49) (.t 52), none⟩])
 (.lv [1, 5, 53] (.cond (.t 53) (.skip)
 (.exit 0))))
 (.lv [1, 5] (.seq (.block 1 (.seq (.reg none [⟨some 56, .faddr 3 (.t 1), none⟩,
  ⟨some 57, .ld false 1 (.t 56), none⟩,
  ⟨some 58, .mov (.t 5), none⟩,
  ⟨some 59, .iaddrf 3 (.t 57) (.t 58), none⟩,
  ⟨some 60, .ldf true 3 (.t 59), none⟩,
  ⟨some 61, .callP 59 [.t 60], none⟩,
  ⟨some 62, .not (.t 61), none⟩])
 (.lv [1, 5, 62] (.cond (.t 62) (.lv [] (.seq (.reg none [⟨some 2, .mov (.k (.bool false)), none⟩])
 (.ret)))
 (.skip)))))
 (.lv [1, 5] (.reg none [⟨some 54, .mov (.t 5), none⟩,
  ⟨some 55, .bin .add (.t 54) (.k (.int .i64 1)), none⟩,
  ⟨some 5, .mov (.t 55), none⟩]))))
def k31_0 : IR :=
 .seq (.reg none [⟨some 2, .mov (.k (.bool true)), none⟩])
 (.ret)
def c31 : IR :=
 .seq (.reg none [⟨some 1, .box 26 4 (.t 0), none⟩,
  ⟨some 2, .mov (.k (.bool false)), none⟩])
 (.lv [1] (.seq (.reg none [⟨some 7, .faddr 0 (.t 1), none⟩,
  ⟨some 8, .ld false 1 (.t 7), none⟩,
  ⟨some 9, .callP 58 [.t 8], none⟩,
  ⟨some 6, .mov (.t 9), none⟩,
  ⟨some 10, .ext (.t 6) 0, none⟩,
  ⟨some 11, .ext (.t 6) 1, none⟩,
  ⟨some 3, .mov (.t 10), none⟩,
  ⟨some 4, .mov (.t 11), none⟩])
 (.lv [1, 3, 4] (.seq (.seq (.reg none [⟨some 12, .mov (.t 4), none⟩,
  ⟨some 13, .not (.t 12), none⟩,
  ⟨some 14, .mov (.t 13), none⟩,
  ⟨some 15, .faddr 1 (.t 1), (some (14, false))⟩,
  ⟨some 16, .ld false 1 (.t 15), (some (14, false))⟩,
  ⟨some 17, .mov (.t 16), (some (14, false))⟩,
  ⟨some 18, .faddr 2 (.t 1), (some (17, true))⟩,
  ⟨some 19, .ld false 1 (.t 18), (some (17, true))⟩,
  ⟨some 20, .lenf (.t 19), (some (17, true))⟩,
  ⟨some 21, .mov (.t 3), (some (17, true))⟩,
  ⟨some 22, .bin .ne (.t 20) (.t 21), (some (17, true))⟩,
  ⟨some 23, .mov (.t 22), (some (17, true))⟩,
  ⟨some 24, .faddr 3 (.t 1), (some (23, false))⟩,
  ⟨some 25, .ld false 1 (.t 24), (some (23, false))⟩,
  ⟨some 26, .lenf (.t 25), (some (23, false))⟩,
  ⟨some 27, .bin .ne (.t 26) (.k (.int .i64 0)), (some (23, false))⟩,
  ⟨some 28, .pick (.t 23) (.k (.bool true)) (.t 27), (some (17, true))⟩,
  ⟨some 29, .pick (.t 17) (.t 28) (.k (.bool false)), (some (14, false))⟩,
  ⟨some 30, .pick (.t 14) (.k (.bool true)) (.t 29), none⟩,
  ⟨some 31, .mov (.t 30), none⟩,
  ⟨some 32, .faddr 1 (.t 1), (some (31, false))⟩,
  ⟨some 33, .ld false 1 (.t 32), (some (31, false))⟩,
  ⟨some 34, .not (.t 33), (some (31, false))⟩,
  ⟨some 35, .mov (.t 34), (some (31, false))⟩,
  ⟨some 36, .faddr 3 (.t 1), (some (35, true))⟩,
  ⟨some 37, .ld false 1 (.t 36), (some (35, true))⟩,
  ⟨some 38, .lenf (.t 37), (some (35, true))⟩,
  ⟨some 39, .mov (.t 3), (some (35, true))⟩,
  ⟨some 40, .bin .ne (.t 38) (.t 39), (some (35, true))⟩,
  ⟨some 41, .mov (.t 40), (some (35, true))⟩,
  ⟨some 42, .faddr 2 (.t 1), (some (41, false))⟩,
  ⟨some 43, .ld false 1 (.t 42), (some (41, false))⟩,
  ⟨some 44, .lenf (.t 43), (some (41, false))⟩,
  ⟨some 45, .bin .ne (.t 44) (.k (.int .i64 0)), (some (41, false))⟩,
  ⟨some 46, .pick (.t 41) (.k (.bool true)) (.t 45), (some (35, true))⟩,
  ⟨some 47, .pick (.t 35) (.t 46) (.k (.bool false)), (some (31, false))⟩,
  ⟨some 48, .pick (.t 31) (.k (.bool true)) (.t 47), none⟩])
 (.lv [1, 48] (.cond (.t 48) (.lv [] (.seq (.reg none [⟨some 2, .mov (.k (.bool false)), none⟩])
 (.ret)))
 (.skip))))
 (.lv [1] (.seq (.seq (.reg none [⟨some 5, .mov (.k (.int .i64 0)), none⟩])
 (.lv [1, 5] (.block 0 (.loop [1, 5] (some (1, [])) b31_0))))
 k31_0))))))
def i31 : IFn := ⟨1, 63, c31, [.t 2], .pure⟩

/-! 32: typeball/draw.one -/
def c32 : IR :=
 .seq (.reg none [⟨some 1, .box 36 5 (.t 0), none⟩,
  ⟨some 2, .mov (.k (.int .i64 0)), none⟩,
  ⟨some 3, .mov (.k (.int .i64 0)), none⟩])
 (.lv [1] (.seq (.seq (.reg none [⟨some 6, .ld true 5 (.t 1), none⟩,
  ⟨some 7, .callP 60 [.t 6], none⟩,
  ⟨some 8, .bin .gt (.t 7) (.k (.int .i64 1)), none⟩,
  ⟨some 9, .mov (.t 8), none⟩,
  ⟨some 10, .ld true 5 (.t 1), (some (9, false))⟩,
  ⟨some 11, .callP 28 [.t 10], (some (9, false))⟩,
  ⟨some 12, .bin .ne (.t 11) (.k (.int .i64 1)), (some (9, false))⟩,
  ⟨some 13, .pick (.t 9) (.k (.bool true)) (.t 12), none⟩])
 (.lv [1, 13] (.cond (.t 13) (.lv [] (.seq (.reg none [⟨some 2, .mov (.k (.int .i64 0)), none⟩,
  ⟨some 3, .mov (.k (.int .i64 23)), none⟩])
 (.ret)))
 (.skip))))
 (.lv [1] (.seq (.reg none [⟨some 15, .ld true 5 (.t 1), none⟩,
  ⟨some 16, .callO 19 [.t 15], none⟩,
  ⟨some 14, .mov (.t 16), none⟩,
  ⟨some 17, .ext (.t 14) 0, none⟩,
  ⟨some 18, .ext (.t 14) 1, none⟩,
  ⟨some 4, .mov (.t 17), none⟩,
  ⟨some 5, .mov (.t 18), none⟩])
 (.lv [4, 5] (.seq (.seq (.reg none [⟨some 19, .mov (.t 5), none⟩,
  ⟨some 20, .not (.t 19), none⟩,
  ⟨some 21, .mov (.t 20), none⟩,
  ⟨some 22, .mov (.t 4), (some (21, false))⟩,
  ⟨some 23, .iaddr 1 (.t 22) (.k (.int .i64 0)), (some (21, false))⟩,
  ⟨some 24, .ld false 1 (.t 23), (some (21, false))⟩,
  ⟨some 25, .bin .lt (.t 24) (.k (.int .i64 0)), (some (21, false))⟩,
  ⟨some 26, .pick (.t 21) (.k (.bool true)) (.t 25), none⟩])
 (.lv [4, 26] (.cond (.t 26) (.lv [] (.seq (.reg none [⟨some 2, .mov (.k (.int .i64 0)), none⟩,
  ⟨some 3, .mov (.k (.int .i64 22)), none⟩])
 (.ret)))
 (.skip))))
 (.lv [4] (.seq (.reg none [⟨some 27, .mov (.t 4), none⟩,
  ⟨some 28, .iaddr 1 (.t 27) (.k (.int .i64 0)), none⟩,
  ⟨some 29, .ld false 1 (.t 28), none⟩,
  ⟨some 2, .mov (.t 29), none⟩,
  ⟨some 3, .mov (.k (.int .i64 0)), none⟩])
 (.ret)))))))))
def i32 : IFn := ⟨1, 30, c32, [.t 2, .t 3], .pure⟩

/-! 33: typeball/array.Ints -/
def b33_0 : IR :=
 .seq (.reg none [⟨some 13, .bin .lt (.t 12) (.t 11), none⟩])
 (.lv [2, 3, 10, 11, 12, 13] (.seq (.cond (.t 13) (.skip)
 (.exit 0))
 (.lv [2, 3, 10, 11, 12] (.seq (.block 1 (.seq (.reg none [⟨some 14, .iaddrf 1 (.t 10) (.t 12), none⟩,
  ⟨some 15, .ldf false 1 (.t 14), none⟩,
  ⟨some 5, .mov (.t 15), none⟩])
 (.lv [2, 3, 5, 10, 11, 12] (.reg (some [0, 1, 2, 3, 4, 5, 6, 7]) [⟨some 16, .faddr 3 (.t 3), none⟩,
  ⟨some 17, .ld false 1 (.t 16), none⟩,
  ⟨some 18, .mov (.t 5), none⟩,
  ⟨some 19, .callP 20 [.t 18], none⟩,
  ⟨some 20, .bsl 62 3 [.t 19], none⟩,
  ⟨some 21, .app 62 3 56 (.t 17) (.t 20), none⟩,
  ⟨some 22, .faddr 3 (.t 3), none⟩,
  ⟨none, .st 1 (.t 22) (.t 21), none⟩]))))
 (.lv [2, 3, 10, 11, 12] (.reg none [⟨some 23, .bin .add (.t 12) (.k (.int .i64 1)), none⟩,
  ⟨some 12, .mov (.t 23), none⟩]))))))
def k33_0 : IR :=
 .seq (.reg none [⟨some 24, .ld true 5 (.t 3), none⟩,
  ⟨none, .st 5 (.t 2) (.t 24), none⟩])
 (.ret)
def c33 : IR :=
 .seq (.reg none [⟨some 2, .alloc 36 [.nilsl 3 1, .bool false, .nilsl 21 1, .nilsl 62 3, .bool false], none⟩])
 (.lv [0, 2] (.seq (.reg none [⟨some 6, .mov (.t 0), none⟩,
  ⟨some 7, .lenf (.t 6), none⟩,
  ⟨some 8, .bsl 3 1 [.t 7], none⟩,
  ⟨some 9, .build [.nilsl 3 1, .bool false, .nilsl 21 1, .nilsl 62 3, .bool false] [(0, 1, .t 8), (4, 1, .k (.bool true))], none⟩,
  ⟨some 3, .alloc 36 [.nilsl 3 1, .bool false, .nilsl 21 1, .nilsl 62 3, .bool false], none⟩,
  ⟨none, .st 5 (.t 3) (.t 9), none⟩])
 (.lv [0, 2, 3] (.seq (.seq (.reg none [⟨some 10, .mov (.t 0), none⟩,
  ⟨some 11, .lenf (.t 10), none⟩,
  ⟨some 12, .mov (.k (.int .i64 0)), none⟩])
 (.lv [2, 3, 10, 11, 12] (.block 0 (.loop [2, 3, 10, 11, 12] (some (11, [])) b33_0))))
 k33_0))))
def i33 : IFn := ⟨1, 25, c33, [.c 2 true 5], .pure⟩

/-! 34: typeball/array.Num -/
def c34 : IR :=
 .seq (.reg none [⟨some 1, .box 62 3 (.t 0), none⟩,
  ⟨some 2, .alloc 36 [.nilsl 3 1, .bool false, .nilsl 21 1, .nilsl 62 3, .bool false], none⟩])
 (.lv [1, 2] (.seq (.reg none [⟨some 3, .ld true 3 (.t 1), none⟩,
  ⟨some 4, .bsl 62 3 [.t 3], none⟩,
  ⟨some 5, .build [.nilsl 3 1, .bool false, .nilsl 21 1, .nilsl 62 3, .bool false] [(0, 1, .k (.nilsl 3 1)), (1, 1, .k (.bool false)), (2, 1, .k (.nilsl 21 1)), (3, 1, .t 4), (4, 1, .k (.bool true))], none⟩,
  ⟨none, .st 5 (.t 2) (.t 5), none⟩])
 (.ret)))
def i34 : IFn := ⟨1, 6, c34, [.c 2 true 5], .pure⟩

/-! 35: (typeball/ratio.Rat).Int -/
def c35 : IR :=
 .seq (.reg none [⟨some 1, .box 62 3 (.t 0), none⟩,
  ⟨some 2, .mov (.k (.int .i64 0)), none⟩,
  ⟨some 3, .mov (.k (.bool false)), none⟩])
 (.lv [1] (.seq (.seq (.reg none [⟨some 4, .ld true 3 (.t 1), none⟩,
  ⟨some 5, .callP 61 [.t 4], none⟩,
  ⟨some 6, .not (.t 5), none⟩])
 (.lv [1, 6] (.cond (.t 6) (.lv [] (.seq (.reg none [⟨some 2, .mov (.k (.int .i64 0)), none⟩,
  ⟨some 3, .mov (.k (.bool false)), none⟩])
 (.ret)))
 (.skip))))
 (.lv [1] (.seq (.reg none [⟨some 7, .faddr 0 (.t 1), none⟩,
  ⟨some 8, .ld true 2 (.t 7), none⟩,
  ⟨some 9, .callP 62 [.t 8], none⟩,
  ⟨some 10, .ext (.t 9) 0, none⟩,
  ⟨some 11, .ext (.t 9) 1, none⟩,
  ⟨some 2, .mov (.t 10), none⟩,
  ⟨some 3, .mov (.t 11), none⟩])
 (.ret)))))
def i35 : IFn := ⟨1, 12, c35, [.t 2, .t 3], .pure⟩

/-! 36: typeball/whole.From -/
def c36 : IR :=
 .seq (.reg none [⟨some 2, .alloc 60 [.nilsl 107 1, .bool false], none⟩])
 (.lv [0, 2] (.seq (.seq (.reg none [⟨some 3, .mov (.t 0), none⟩,
  ⟨some 4, .bin .lt (.t 3) (.k (.int .i64 0)), none⟩])
 (.lv [0, 2, 4] (.cond (.t 4) (.lv [0, 2] (.seq (.reg none [⟨some 5, .mov (.t 0), none⟩,
  ⟨some 6, .bin .add (.t 5) (.k (.int .i64 1)), none⟩,
  ⟨some 7, .neg (.t 6), none⟩,
  ⟨some 8, .conv .u64 (.t 7), none⟩,
  ⟨some 9, .bin .add (.t 8) (.k (.int .u64 1)), none⟩,
  ⟨some 10, .callP 37 [.t 9], none⟩,
  ⟨some 11, .build [.nilsl 107 1, .bool false] [(0, 1, .t 10), (1, 1, .k (.bool true))], none⟩,
  ⟨none, .st 2 (.t 2) (.t 11), none⟩])
 (.ret)))
 (.skip))))
 (.lv [0, 2] (.seq (.reg none [⟨some 12, .mov (.t 0), none⟩,
  ⟨some 13, .conv .u64 (.t 12), none⟩,
  ⟨some 14, .callP 37 [.t 13], none⟩,
  ⟨some 15, .build [.nilsl 107 1, .bool false] [(0, 1, .t 14), (1, 1, .k (.bool false))], none⟩,
  ⟨none, .st 2 (.t 2) (.t 15), none⟩])
 (.ret)))))
def i36 : IFn := ⟨1, 16, c36, [.c 2 true 2], .pure⟩

/-! 37: typeball/nat.Of -/
def c37 : IR :=
 .seq (.reg none [⟨some 2, .alloc 58 [.nilsl 107 1], none⟩])
 (.lv [0, 2] (.seq (.reg none [⟨some 3, .mov (.t 0), none⟩,
  ⟨some 4, .conv .u32 (.t 3), none⟩,
  ⟨some 5, .mov (.t 0), none⟩,
  ⟨some 6, .bin .shr (.t 5) (.k (.int .u64 32)), none⟩,
  ⟨some 7, .conv .u32 (.t 6), none⟩,
  ⟨some 8, .bsl 107 1 [.t 4, .t 7], none⟩,
  ⟨some 9, .callF 63 [.t 8], none⟩,
  ⟨none, .st 1 (.t 2) (.t 9), none⟩])
 (.ret)))
def i37 : IFn := ⟨1, 10, c37, [.c 2 true 1], .pure⟩

/-! 38: typeball/ratio.New -/
def c38 : IR :=
 .seq (.reg none [⟨some 2, .box 60 2 (.t 0), none⟩,
  ⟨some 3, .box 60 2 (.t 1), none⟩,
  ⟨some 4, .alloc 62 [.nilsl 107 1, .bool false, .nilsl 107 1], none⟩,
  ⟨some 5, .mov (.k (.bool false)), none⟩])
 (.lv [2, 3, 4] (.seq (.seq (.reg none [⟨some 13, .faddr 0 (.t 3), none⟩,
  ⟨some 14, .ld true 1 (.t 13), none⟩,
  ⟨some 15, .callP 64 [.t 14], none⟩])
 (.lv [2, 3, 4, 15] (.cond (.t 15) (.lv [4] (.seq (.reg none [⟨some 16, .build [.nilsl 107 1, .bool false, .nilsl 107 1] [], none⟩,
  ⟨none, .st 3 (.t 4) (.t 16), none⟩,
  ⟨some 5, .mov (.k (.bool false)), none⟩])
 (.ret)))
 (.skip))))
 (.lv [2, 3, 4] (.seq (.reg (some [0, 1, 2, 3, 4, 5, 6]) [⟨some 17, .faddr 0 (.t 2), none⟩,
  ⟨some 18, .ld true 1 (.t 17), none⟩,
  ⟨some 19, .ld true 2 (.t 3), none⟩,
  ⟨some 20, .callP 66 [.t 19], none⟩,
  ⟨some 21, .callP 65 [.t 18, .t 20], none⟩,
  ⟨some 6, .alloc 58 [.nilsl 107 1], none⟩,
  ⟨none, .st 1 (.t 6) (.t 21), none⟩])
 (.lv [2, 3, 4, 6] (.seq (.reg none [⟨some 23, .faddr 0 (.t 2), none⟩,
  ⟨some 24, .ld true 1 (.t 23), none⟩,
  ⟨some 25, .ld true 1 (.t 6), none⟩,
  ⟨some 26, .callF 67 [.t 24, .t 25], none⟩,
  ⟨some 22, .mov (.t 26), none⟩,
  ⟨some 27, .ext (.t 22) 0, none⟩,
  ⟨some 28, .ext (.t 22) 1, none⟩,
  ⟨some 29, .ext (.t 22) 2, none⟩,
  ⟨some 7, .alloc 58 [.nilsl 107 1], none⟩,
  ⟨some 8, .alloc 58 [.nilsl 107 1], none⟩,
  ⟨none, .st 1 (.t 7) (.t 27), none⟩,
  ⟨none, .st 1 (.t 8) (.t 28), none⟩,
  ⟨some 9, .mov (.t 29), none⟩])
 (.lv [2, 3, 4, 6, 7] (.seq (.reg none [⟨some 31, .faddr 0 (.t 3), none⟩,
  ⟨some 32, .ld true 1 (.t 31), none⟩,
  ⟨some 33, .ld true 1 (.t 6), none⟩,
  ⟨some 34, .callF 67 [.t 32, .t 33], none⟩,
  ⟨some 30, .mov (.t 34), none⟩,
  ⟨some 35, .ext (.t 30) 0, none⟩,
  ⟨some 36, .ext (.t 30) 1, none⟩,
  ⟨some 37, .ext (.t 30) 2, none⟩,
  ⟨some 10, .alloc 58 [.nilsl 107 1], none⟩,
  ⟨some 11, .alloc 58 [.nilsl 107 1], none⟩,
  ⟨none, .st 1 (.t 10) (.t 35), none⟩,
  ⟨none, .st 1 (.t 11) (.t 36), none⟩,
  ⟨some 12, .mov (.t 37), none⟩])
 (.lv [2, 3, 4, 7, 10] (.seq (.reg (some [0, 1, 2, 3, 4, 5, 7, 6, 8, 9, 10]) [⟨some 38, .ld true 2 (.t 2), none⟩,
  ⟨some 39, .callP 69 [.t 38], none⟩,
  ⟨some 40, .ld true 2 (.t 3), none⟩,
  ⟨some 41, .callP 69 [.t 40], none⟩,
  ⟨some 42, .binb .ne (.t 39) (.t 41), none⟩,
  ⟨some 43, .ld true 1 (.t 7), none⟩,
  ⟨some 45, .ld true 1 (.t 10), none⟩,
  ⟨some 44, .callF 68 [.t 42, .t 43], none⟩,
  ⟨some 46, .build [.nilsl 107 1, .bool false, .nilsl 107 1] [(0, 2, .t 44), (2, 1, .t 45)], none⟩,
  ⟨none, .st 3 (.t 4) (.t 46), none⟩,
  ⟨some 5, .mov (.k (.bool true)), none⟩])
 (.ret)))))))))))
def i38 : IFn := ⟨2, 47, c38, [.c 4 true 3, .t 5], .pure⟩

/-! 39: (typeball/whole.Int).Times -/
def b39_0 : IR :=
 .seq (.reg none [⟨some 10, .bin .lt (.t 9) (.t 8), none⟩])
 (.lv [2, 4, 7, 8, 9, 10] (.seq (.cond (.t 10) (.skip)
 (.exit 0))
 (.lv [2, 4, 7, 8, 9] (.seq (.block 1 (.seq (.reg none [⟨some 11, .iaddrf 2 (.t 7) (.t 9), none⟩,
  ⟨some 12, .ldf true 2 (.t 11), none⟩,
  ⟨some 6, .alloc 60 [.nilsl 107 1, .bool false], none⟩,
  ⟨none, .st 2 (.t 6) (.t 12), none⟩])
 (.lv [2, 4, 6, 7, 8, 9] (.reg (some [0, 1, 2, 3, 4, 5, 6, 7, 8, 9, 10, 11]) [⟨some 13, .faddr 1 (.t 2), none⟩,
  ⟨some 14, .ld false 1 (.t 13), none⟩,
  ⟨some 15, .faddr 1 (.t 6), none⟩,
  ⟨some 16, .ld false 1 (.t 15), none⟩,
  ⟨some 17, .binb .ne (.t 14) (.t 16), none⟩,
  ⟨some 18, .faddr 0 (.t 2), none⟩,
  ⟨some 19, .ld true 1 (.t 18), none⟩,
  ⟨some 20, .faddr 0 (.t 6), none⟩,
  ⟨some 21, .ld true 1 (.t 20), none⟩,
  ⟨some 22, .callF 70 [.t 19, .t 21], none⟩,
  ⟨some 23, .callP 68 [.t 17, .t 22], none⟩,
  ⟨none, .st 2 (.t 2) (.t 23), none⟩]))))
 (.lv [2, 4, 7, 8, 9] (.reg none [⟨some 24, .bin .add (.t 9) (.k (.int .i64 1)), none⟩,
  ⟨some 9, .mov (.t 24), none⟩]))))))
def k39_0 : IR :=
 .seq (.reg none [⟨some 25, .ld true 2 (.t 2), none⟩,
  ⟨none, .st 2 (.t 4) (.t 25), none⟩])
 (.ret)
def c39 : IR :=
 .seq (.reg none [⟨some 2, .box 60 2 (.t 0), none⟩,
  ⟨some 4, .alloc 60 [.nilsl 107 1, .bool false], none⟩])
 (.lv [1, 2, 4] (.seq (.seq (.reg none [⟨some 7, .mov (.t 1), none⟩,
  ⟨some 8, .lenf (.t 7), none⟩,
  ⟨some 9, .mov (.k (.int .i64 0)), none⟩])
 (.lv [2, 4, 7, 8, 9] (.block 0 (.loop [2, 4, 7, 8, 9] (some (3, [])) b39_0))))
 k39_0))
def i39 : IFn := ⟨2, 26, c39, [.c 4 true 2], .pure⟩

/-! 40: (typeball/ratio.Rat).under -/
def c40 : IR :=
 .seq (.reg none [⟨some 1, .box 62 3 (.t 0), none⟩,
  ⟨some 2, .alloc 60 [.nilsl 107 1, .bool false], none⟩])
 (.lv [1, 2] (.seq (.reg none [⟨some 3, .ld true 3 (.t 1), none⟩,
  ⟨some 4, .callP 71 [.t 3], none⟩,
  ⟨some 5, .callP 68 [.k (.bool false), .t 4], none⟩,
  ⟨none, .st 2 (.t 2) (.t 5), none⟩])
 (.ret)))
def i40 : IFn := ⟨1, 6, c40, [.c 2 true 2], .pure⟩

/-! 41: (typeball/whole.Int).Plus -/
def b41_0 : IR :=
 .seq (.reg none [⟨some 10, .bin .lt (.t 9) (.t 8), none⟩])
 (.lv [2, 4, 7, 8, 9, 10] (.seq (.cond (.t 10) (.skip)
 (.exit 0))
 (.lv [2, 4, 7, 8, 9] (.seq (.block 1 (.seq (.reg none [⟨some 11, .iaddrf 2 (.t 7) (.t 9), none⟩,
  ⟨some 12, .ldf true 2 (.t 11), none⟩,
  ⟨some 6, .alloc 60 [.nilsl 107 1, .bool false], none⟩,
  ⟨none, .st 2 (.t 6) (.t 12), none⟩])
 (.lv [2, 4, 6, 7, 8, 9] (.reg none [⟨some 13, .ld true 2 (.t 2), none⟩,
  ⟨some 14, .ld true 2 (.t 6), none⟩,
  ⟨some 15, .callF 72 [.t 13, .t 14], none⟩,
  ⟨none, .st 2 (.t 2) (.t 15), none⟩]))))
 (.lv [2, 4, 7, 8, 9] (.reg none [⟨some 16, .bin .add (.t 9) (.k (.int .i64 1)), none⟩,
  ⟨some 9, .mov (.t 16), none⟩]))))))
def k41_0 : IR :=
 .seq (.reg none [⟨some 17, .ld true 2 (.t 2), none⟩,
  ⟨none, .st 2 (.t 4) (.t 17), none⟩])
 (.ret)
def c41 : IR :=
 .seq (.reg none [⟨some 2, .box 60 2 (.t 0), none⟩,
  ⟨some 4, .alloc 60 [.nilsl 107 1, .bool false], none⟩])
 (.lv [1, 2, 4] (.seq (.seq (.reg none [⟨some 7, .mov (.t 1), none⟩,
  ⟨some 8, .lenf (.t 7), none⟩,
  ⟨some 9, .mov (.k (.int .i64 0)), none⟩])
 (.lv [2, 4, 7, 8, 9] (.block 0 (.loop [2, 4, 7, 8, 9] (some (3, [])) b41_0))))
 k41_0))
def i41 : IFn := ⟨2, 18, c41, [.c 4 true 2], .pure⟩

/-! 42: typeball/array.Count -/
def b42_0 : IR :=
 .seq (.reg none [⟨some 14, .bin .lt (.t 13) (.t 12), none⟩])
 (.lv [4, 5, 11, 12, 13, 14] (.seq (.cond (.t 14) (.skip)
 (.exit 0))
 (.lv [4, 5, 11, 12, 13] (.seq (.block 1 (.seq (.reg none [⟨some 15, .iaddrf 1 (.t 11) (.t 13), none⟩,
  ⟨some 16, .ldf false 1 (.t 15), none⟩,
  ⟨some 7, .mov (.t 16), none⟩])
 (.lv [4, 5, 7, 11, 12, 13] (.seq (.seq (.reg none [⟨some 17, .mov (.t 7), none⟩,
  ⟨some 18, .bin .lt (.t 17) (.k (.int .i64 0)), none⟩,
  ⟨some 19, .mov (.t 18), none⟩,
  ⟨some 20, .mov (.t 7), (some (19, false))⟩,
  ⟨some 21, .mov (.t 4), (some (19, false))⟩,
  ⟨some 22, .bin .quo (.k (.int .i64 4096)) (.t 21), (some (19, false))⟩,
  ⟨some 23, .bin .gt (.t 20) (.t 22), (some (19, false))⟩,
  ⟨some 24, .pick (.t 19) (.k (.bool true)) (.t 23), none⟩])
 (.lv [4, 5, 7, 11, 12, 13, 24] (.cond (.t 24) (.lv [] (.seq (.reg none [⟨some 2, .mov (.k (.int .i64 0)), none⟩,
  ⟨some 3, .mov (.k (.bool false)), none⟩])
 (.ret)))
 (.skip))))
 (.lv [4, 5, 7, 11, 12, 13] (.seq (.reg none [⟨some 25, .mov (.t 5), none⟩,
  ⟨some 26, .mov (.t 25), none⟩,
  ⟨some 27, .mov (.t 7), (some (26, false))⟩,
  ⟨some 28, .bin .eq (.t 27) (.k (.int .i64 0)), (some (26, false))⟩,
  ⟨some 29, .pick (.t 26) (.k (.bool true)) (.t 28), none⟩,
  ⟨some 5, .mov (.t 29), none⟩])
 (.lv [4, 5, 7, 11, 12, 13] (.reg none [⟨some 30, .mov (.t 4), none⟩,
  ⟨some 31, .mov (.t 7), none⟩,
  ⟨some 32, .mx (.k (.int .i64 1)) (.t 31), none⟩,
  ⟨some 33, .bin .mul (.t 30) (.t 32), none⟩,
  ⟨some 4, .mov (.t 33), none⟩]))))))))
 (.lv [4, 5, 11, 12, 13] (.reg none [⟨some 34, .bin .add (.t 13) (.k (.int .i64 1)), none⟩,
  ⟨some 13, .mov (.t 34), none⟩]))))))
def k42_0 : IR :=
 .seq (.seq (.reg none [⟨some 35, .mov (.t 5), none⟩])
 (.lv [4, 35] (.cond (.t 35) (.lv [] (.reg none [⟨some 4, .mov (.k (.int .i64 0)), none⟩]))
 (.skip))))
 (.lv [4] (.seq (.reg none [⟨some 36, .mov (.t 4), none⟩,
  ⟨some 2, .mov (.t 36), none⟩,
  ⟨some 3, .mov (.k (.bool true)), none⟩])
 (.ret)))
def c42 : IR :=
 .seq (.reg none [⟨some 2, .mov (.k (.int .i64 0)), none⟩,
  ⟨some 3, .mov (.k (.bool false)), none⟩])
 (.lv [0] (.seq (.seq (.reg none [⟨some 8, .mov (.t 0), none⟩,
  ⟨some 9, .lenf (.t 8), none⟩,
  ⟨some 10, .bin .gt (.t 9) (.k (.int .i64 8)), none⟩])
 (.lv [0, 10] (.cond (.t 10) (.lv [] (.seq (.reg none [⟨some 2, .mov (.k (.int .i64 0)), none⟩,
  ⟨some 3, .mov (.k (.bool false)), none⟩])
 (.ret)))
 (.skip))))
 (.lv [0] (.seq (.reg none [⟨some 4, .mov (.k (.int .i64 1)), none⟩,
  ⟨some 5, .mov (.k (.bool false)), none⟩])
 (.lv [0, 4, 5] (.seq (.seq (.reg none [⟨some 11, .mov (.t 0), none⟩,
  ⟨some 12, .lenf (.t 11), none⟩,
  ⟨some 13, .mov (.k (.int .i64 0)), none⟩])
 (.lv [4, 5, 11, 12, 13] (.block 0 (.loop [4, 5, 11, 12, 13] (some (0, [])) b42_0))))
 k42_0))))))
def i42 : IFn := ⟨1, 37, c42, [.t 2, .t 3], .pure⟩

/-! 46: typeball/ratio.Of -/
def c46 : IR :=
 .seq (.reg none [⟨some 1, .box 71 3 (.t 0), none⟩,
  ⟨some 2, .alloc 62 [.nilsl 107 1, .bool false, .nilsl 107 1], none⟩,
  ⟨some 3, .mov (.k (.bool false)), none⟩])
 (.lv [1, 2] (.seq (.reg none [⟨some 10, .faddr 1 (.t 1), none⟩,
  ⟨some 11, .ld false 1 (.t 10), none⟩,
  ⟨some 12, .callP 73 [.t 11], none⟩,
  ⟨some 9, .mov (.t 12), none⟩,
  ⟨some 13, .ext (.t 9) 0, none⟩,
  ⟨some 14, .ext (.t 9) 1, none⟩,
  ⟨some 4, .alloc 58 [.nilsl 107 1], none⟩,
  ⟨none, .st 1 (.t 4) (.t 13), none⟩,
  ⟨some 5, .mov (.t 14), none⟩])
 (.lv [1, 2, 4, 5] (.seq (.reg none [⟨some 16, .faddr 2 (.t 1), none⟩,
  ⟨some 17, .ld false 1 (.t 16), none⟩,
  ⟨some 18, .callP 73 [.t 17], none⟩,
  ⟨some 15, .mov (.t 18), none⟩,
  ⟨some 19, .ext (.t 15) 0, none⟩,
  ⟨some 20, .ext (.t 15) 1, none⟩,
  ⟨some 6, .alloc 58 [.nilsl 107 1], none⟩,
  ⟨none, .st 1 (.t 6) (.t 19), none⟩,
  ⟨some 7, .mov (.t 20), none⟩])
 (.lv [1, 2, 4, 5, 6, 7] (.seq (.seq (.reg none [⟨some 21, .mov (.t 5), none⟩,
  ⟨some 22, .not (.t 21), none⟩,
  ⟨some 23, .mov (.t 22), none⟩,
  ⟨some 24, .mov (.t 7), (some (23, false))⟩,
  ⟨some 25, .not (.t 24), (some (23, false))⟩,
  ⟨some 26, .pick (.t 23) (.k (.bool true)) (.t 25), none⟩])
 (.lv [1, 2, 4, 6, 26] (.cond (.t 26) (.lv [2] (.seq (.reg none [⟨some 27, .build [.nilsl 107 1, .bool false, .nilsl 107 1] [], none⟩,
  ⟨none, .st 3 (.t 2) (.t 27), none⟩,
  ⟨some 3, .mov (.k (.bool false)), none⟩])
 (.ret)))
 (.skip))))
 (.lv [1, 2, 4, 6] (.seq (.reg (some [0, 1, 2, 4, 3, 5, 6, 7, 8, 9, 10, 11, 12]) [⟨some 29, .faddr 0 (.t 1), none⟩,
  ⟨some 30, .ld false 1 (.t 29), none⟩,
  ⟨some 31, .ld true 1 (.t 4), none⟩,
  ⟨some 33, .ld true 1 (.t 6), none⟩,
  ⟨some 32, .callF 68 [.t 30, .t 31], none⟩,
  ⟨some 34, .callF 68 [.k (.bool false), .t 33], none⟩,
  ⟨some 35, .callP 38 [.t 32, .t 34], none⟩,
  ⟨some 28, .mov (.t 35), none⟩,
  ⟨some 36, .ext (.t 28) 0, none⟩,
  ⟨some 37, .ext (.t 28) 1, none⟩,
  ⟨some 8, .alloc 62 [.nilsl 107 1, .bool false, .nilsl 107 1], none⟩,
  ⟨none, .st 3 (.t 8) (.t 36), none⟩,
  ⟨some 5, .mov (.t 37), none⟩])
 (.lv [1, 2, 5, 8] (.seq (.reg (some [0, 1, 2, 3, 4, 5, 6, 7, 8, 9]) [⟨some 38, .ld true 3 (.t 8), none⟩,
  ⟨some 39, .mov (.t 5), none⟩,
  ⟨some 40, .mov (.t 39), none⟩,
  ⟨some 41, .ld true 3 (.t 8), (some (40, true))⟩,
  ⟨some 42, .callR 57 [.t 41], (some (40, true))⟩,
  ⟨some 43, .ld true 3 (.t 1), (some (40, true))⟩,
  ⟨some 44, .bins .eq [0, 2, 2] (.t 42) (.t 43), (some (40, true))⟩,
  ⟨some 45, .pick (.t 40) (.t 44) (.k (.bool false)), none⟩,
  ⟨none, .sta [1] 3 (.t 2) (.t 38), none⟩,
  ⟨some 3, .mov (.t 45), none⟩])
 (.ret)))))))))))
def i46 : IFn := ⟨1, 46, c46, [.c 2 true 3, .t 3], .pure⟩

/-! 47: typeball/typeballref03.Int -/
def c47 : IR :=
 .seq (.reg none [⟨some 1, .box 71 3 (.t 0), none⟩,
  ⟨some 2, .mov (.k (.int .i64 0)), none⟩,
  ⟨some 3, .mov (.k (.bool false)), none⟩])
 (.lv [1] (.seq (.seq (.reg none [⟨some 4, .faddr 2 (.t 1), none⟩,
  ⟨some 5, .ld false 1 (.t 4), none⟩,
  ⟨some 6, .bin .ne (.t 5) (.k (.str ⟨#[49]⟩)), none⟩])
 (.lv [1, 6] (.cond (.t 6) (.lv [] (.seq (.reg none [⟨some 2, .mov (.k (.int .i64 0)), none⟩,
  ⟨some 3, .mov (.k (.bool false)), none⟩])
 (.ret)))
 (.skip))))
 (.lv [1] (.seq (.reg none [⟨some 7, .ld true 3 (.t 1), none⟩,
  ⟨some 8, .callP 51 [.t 7], none⟩,
  ⟨some 9, .callP 74 [.t 8], none⟩,
  ⟨some 10, .ext (.t 9) 0, none⟩,
  ⟨some 11, .ext (.t 9) 1, none⟩,
  ⟨some 2, .mov (.t 10), none⟩,
  ⟨some 3, .mov (.t 11), none⟩])
 (.ret)))))
def i47 : IFn := ⟨1, 12, c47, [.t 2, .t 3], .pure⟩

/-! 48: typeball/typeballref03.New -/
def c48 : IR :=
 .seq (.reg none [⟨some 2, .box 97 2 (.t 0), none⟩,
  ⟨some 3, .box 97 2 (.t 1), none⟩,
  ⟨some 4, .alloc 71 [.bool false, .str ⟨#[]⟩, .str ⟨#[]⟩], none⟩,
  ⟨some 5, .mov (.k (.bool false)), none⟩])
 (.lv [2, 3, 4] (.seq (.seq (.reg none [⟨some 11, .faddr 1 (.t 3), none⟩,
  ⟨some 12, .ld false 1 (.t 11), none⟩,
  ⟨some 13, .bin .eq (.t 12) (.k (.str ⟨#[48]⟩)), none⟩])
 (.lv [2, 3, 4, 13] (.cond (.t 13) (.lv [4] (.seq (.reg none [⟨some 14, .callP 75 [], none⟩,
  ⟨none, .st 3 (.t 4) (.t 14), none⟩,
  ⟨some 5, .mov (.k (.bool false)), none⟩])
 (.ret)))
 (.skip))))
 (.lv [2, 3, 4] (.seq (.reg none [⟨some 15, .faddr 1 (.t 2), none⟩,
  ⟨some 16, .ld false 1 (.t 15), none⟩,
  ⟨some 17, .faddr 1 (.t 3), none⟩,
  ⟨some 18, .ld false 1 (.t 17), none⟩,
  ⟨some 19, .callP 76 [.t 16, .t 18], none⟩,
  ⟨some 6, .mov (.t 19), none⟩])
 (.lv [2, 3, 4, 6] (.seq (.reg none [⟨some 21, .faddr 1 (.t 2), none⟩,
  ⟨some 22, .ld false 1 (.t 21), none⟩,
  ⟨some 23, .mov (.t 6), none⟩,
  ⟨some 24, .callP 77 [.t 22, .t 23], none⟩,
  ⟨some 20, .mov (.t 24), none⟩,
  ⟨some 25, .ext (.t 20) 0, none⟩,
  ⟨some 26, .ext (.t 20) 1, none⟩,
  ⟨some 7, .mov (.t 25), none⟩,
  ⟨some 8, .mov (.t 26), none⟩])
 (.lv [2, 3, 4, 6, 7] (.seq (.reg none [⟨some 28, .faddr 1 (.t 3), none⟩,
  ⟨some 29, .ld false 1 (.t 28), none⟩,
  ⟨some 30, .mov (.t 6), none⟩,
  ⟨some 31, .callP 77 [.t 29, .t 30], none⟩,
  ⟨some 27, .mov (.t 31), none⟩,
  ⟨some 32, .ext (.t 27) 0, none⟩,
  ⟨some 33, .ext (.t 27) 1, none⟩,
  ⟨some 9, .mov (.t 32), none⟩,
  ⟨some 10, .mov (.t 33), none⟩])
 (.lv [2, 3, 4, 7, 9] (.seq (.reg none [⟨some 34, .faddr 0 (.t 2), none⟩,
  ⟨some 35, .ld false 1 (.t 34), none⟩,
  ⟨some 36, .faddr 0 (.t 3), none⟩,
  ⟨some 37, .ld false 1 (.t 36), none⟩,
  ⟨some 38, .binb .ne (.t 35) (.t 37), none⟩,
  ⟨some 39, .mov (.t 38), none⟩,
  ⟨some 40, .mov (.t 7), (some (39, true))⟩,
  ⟨some 41, .bin .ne (.t 40) (.k (.str ⟨#[48]⟩)), (some (39, true))⟩,
  ⟨some 42, .pick (.t 39) (.t 41) (.k (.bool false)), none⟩,
  ⟨some 43, .mov (.t 7), none⟩,
  ⟨some 44, .mov (.t 9), none⟩,
  ⟨some 45, .build [.bool false, .str ⟨#[]⟩, .str ⟨#[]⟩] [(0, 1, .t 42), (1, 1, .t 43), (2, 1, .t 44)], none⟩,
  ⟨none, .st 3 (.t 4) (.t 45), none⟩,
  ⟨some 5, .mov (.k (.bool true)), none⟩])
 (.ret)))))))))))
def i48 : IFn := ⟨2, 46, c48, [.c 4 true 3, .t 5], .pure⟩

/-! 49: typeball/typeballref02.Add -/
def c49 : IR :=
 .seq (.reg none [⟨some 2, .box 97 2 (.t 0), none⟩,
  ⟨some 3, .box 97 2 (.t 1), none⟩,
  ⟨some 4, .alloc 97 [.bool false, .str ⟨#[]⟩], none⟩])
 (.lv [2, 3, 4] (.seq (.seq (.reg none [⟨some 5, .faddr 0 (.t 2), none⟩,
  ⟨some 6, .ld false 1 (.t 5), none⟩,
  ⟨some 7, .faddr 0 (.t 3), none⟩,
  ⟨some 8, .ld false 1 (.t 7), none⟩,
  ⟨some 9, .binb .eq (.t 6) (.t 8), none⟩])
 (.lv [2, 3, 4, 9] (.cond (.t 9) (.lv [2, 3, 4] (.seq (.reg (some [0, 1, 2, 3, 4, 5, 6, 7, 8]) [⟨some 10, .faddr 0 (.t 2), none⟩,
  ⟨some 11, .ld false 1 (.t 10), none⟩,
  ⟨some 12, .faddr 1 (.t 2), none⟩,
  ⟨some 13, .ld false 1 (.t 12), none⟩,
  ⟨some 14, .faddr 1 (.t 3), none⟩,
  ⟨some 15, .ld false 1 (.t 14), none⟩,
  ⟨some 16, .callP 79 [.t 13, .t 15], none⟩,
  ⟨some 17, .callP 78 [.t 11, .t 16], none⟩,
  ⟨none, .st 2 (.t 4) (.t 17), none⟩])
 (.ret)))
 (.skip))))
 (.lv [2, 3, 4] (.seq (.seq (.reg none [⟨some 18, .faddr 1 (.t 2), none⟩,
  ⟨some 19, .ld false 1 (.t 18), none⟩,
  ⟨some 20, .faddr 1 (.t 3), none⟩,
  ⟨some 21, .ld false 1 (.t 20), none⟩,
  ⟨some 22, .callP 80 [.t 19, .t 21], none⟩,
  ⟨some 23, .bin .ge (.t 22) (.k (.int .i64 0)), none⟩])
 (.lv [2, 3, 4, 23] (.cond (.t 23) (.lv [2, 3, 4] (.seq (.reg (some [0, 1, 2, 3, 4, 5, 6, 7, 8]) [⟨some 24, .faddr 0 (.t 2), none⟩,
  ⟨some 25, .ld false 1 (.t 24), none⟩,
  ⟨some 26, .faddr 1 (.t 2), none⟩,
  ⟨some 27, .ld false 1 (.t 26), none⟩,
  ⟨some 28, .faddr 1 (.t 3), none⟩,
  ⟨some 29, .ld false 1 (.t 28), none⟩,
  ⟨some 30, .callP 81 [.t 27, .t 29], none⟩,
  ⟨some 31, .callP 78 [.t 25, .t 30], none⟩,
  ⟨none, .st 2 (.t 4) (.t 31), none⟩])
 (.ret)))
 (.skip))))
 (.lv [2, 3, 4] (.seq (.reg (some [0, 1, 2, 3, 4, 5, 6, 7, 8]) [⟨some 32, .faddr 0 (.t 3), none⟩,
  ⟨some 33, .ld false 1 (.t 32), none⟩,
  ⟨some 34, .faddr 1 (.t 3), none⟩,
  ⟨some 35, .ld false 1 (.t 34), none⟩,
  ⟨some 36, .faddr 1 (.t 2), none⟩,
  ⟨some 37, .ld false 1 (.t 36), none⟩,
  ⟨some 38, .callP 81 [.t 35, .t 37], none⟩,
  ⟨some 39, .callP 78 [.t 33, .t 38], none⟩,
  ⟨none, .st 2 (.t 4) (.t 39), none⟩])
 (.ret)))))))
def i49 : IFn := ⟨2, 40, c49, [.c 4 true 2], .pure⟩

/-! 50: typeball/typeballref02.Mul -/
def c50 : IR :=
 .seq (.reg none [⟨some 2, .box 97 2 (.t 0), none⟩,
  ⟨some 3, .box 97 2 (.t 1), none⟩,
  ⟨some 4, .alloc 97 [.bool false, .str ⟨#[]⟩], none⟩])
 (.lv [2, 3, 4] (.seq (.reg (some [0, 1, 2, 3, 4, 5, 6, 7, 8, 9, 10, 11]) [⟨some 5, .faddr 0 (.t 2), none⟩,
  ⟨some 6, .ld false 1 (.t 5), none⟩,
  ⟨some 7, .faddr 0 (.t 3), none⟩,
  ⟨some 8, .ld false 1 (.t 7), none⟩,
  ⟨some 9, .binb .ne (.t 6) (.t 8), none⟩,
  ⟨some 10, .faddr 1 (.t 2), none⟩,
  ⟨some 11, .ld false 1 (.t 10), none⟩,
  ⟨some 12, .faddr 1 (.t 3), none⟩,
  ⟨some 13, .ld false 1 (.t 12), none⟩,
  ⟨some 14, .callP 82 [.t 11, .t 13], none⟩,
  ⟨some 15, .callP 78 [.t 9, .t 14], none⟩,
  ⟨none, .st 2 (.t 4) (.t 15), none⟩])
 (.ret)))
def i50 : IFn := ⟨2, 16, c50, [.c 4 true 2], .pure⟩

/-! 51: typeball/typeballref03.Top -/
def c51 : IR :=
 .seq (.reg none [⟨some 1, .box 71 3 (.t 0), none⟩,
  ⟨some 2, .alloc 97 [.bool false, .str ⟨#[]⟩], none⟩])
 (.lv [1, 2] (.seq (.reg none [⟨some 3, .faddr 0 (.t 1), none⟩,
  ⟨some 4, .ld false 1 (.t 3), none⟩,
  ⟨some 5, .faddr 1 (.t 1), none⟩,
  ⟨some 6, .ld false 1 (.t 5), none⟩,
  ⟨some 7, .callP 78 [.t 4, .t 6], none⟩,
  ⟨none, .st 2 (.t 2) (.t 7), none⟩])
 (.ret)))
def i51 : IFn := ⟨1, 8, c51, [.c 2 true 2], .pure⟩

/-! 52: typeball/typeballref03.Bot -/
def c52 : IR :=
 .seq (.reg none [⟨some 1, .box 71 3 (.t 0), none⟩,
  ⟨some 2, .alloc 97 [.bool false, .str ⟨#[]⟩], none⟩])
 (.lv [1, 2] (.seq (.reg none [⟨some 3, .faddr 2 (.t 1), none⟩,
  ⟨some 4, .ld false 1 (.t 3), none⟩,
  ⟨some 5, .callP 78 [.k (.bool false), .t 4], none⟩,
  ⟨none, .st 2 (.t 2) (.t 5), none⟩])
 (.ret)))
def i52 : IFn := ⟨1, 6, c52, [.c 2 true 2], .pure⟩

/-! 53: typeball/typeballref02.From -/
def c53 : IR :=
 .seq (.reg none [⟨some 2, .alloc 97 [.bool false, .str ⟨#[]⟩], none⟩])
 (.lv [0, 2] (.seq (.seq (.reg none [⟨some 3, .mov (.t 0), none⟩,
  ⟨some 4, .bin .lt (.t 3) (.k (.int .i64 0)), none⟩])
 (.lv [0, 2, 4] (.cond (.t 4) (.lv [0, 2] (.seq (.reg none [⟨some 5, .mov (.t 0), none⟩,
  ⟨some 6, .bin .add (.t 5) (.k (.int .i64 1)), none⟩,
  ⟨some 7, .bin .sub (.k (.int .i64 0)) (.t 6), none⟩,
  ⟨some 8, .conv .u64 (.t 7), none⟩,
  ⟨some 9, .bin .add (.t 8) (.k (.int .u64 1)), none⟩,
  ⟨some 10, .callP 83 [.t 9], none⟩,
  ⟨some 11, .build [.bool false, .str ⟨#[]⟩] [(0, 1, .k (.bool true)), (1, 1, .t 10)], none⟩,
  ⟨none, .st 2 (.t 2) (.t 11), none⟩])
 (.ret)))
 (.skip))))
 (.lv [0, 2] (.seq (.reg none [⟨some 12, .mov (.t 0), none⟩,
  ⟨some 13, .conv .u64 (.t 12), none⟩,
  ⟨some 14, .callP 83 [.t 13], none⟩,
  ⟨some 15, .build [.bool false, .str ⟨#[]⟩] [(0, 1, .k (.bool false)), (1, 1, .t 14)], none⟩,
  ⟨none, .st 2 (.t 2) (.t 15), none⟩])
 (.ret)))))
def i53 : IFn := ⟨1, 16, c53, [.c 2 true 2], .pure⟩

/-! 54: typeball/typeballref06.IntsSame -/
def b54_0 : IR :=
 .seq (.seq (.reg none [⟨some 11, .mov (.t 5), none⟩,
  ⟨some 12, .mov (.t 0), none⟩,
  ⟨some 13, .lenf (.t 12), none⟩,
  ⟨some 14, .bin .lt (.t 11) (.t 13), none⟩])
 (.lv [0, 1, 5, 14] (.cond (.t 14) (.skip)
 (.exit 0))))
 (.lv [0, 1, 5] (.seq (.block 1 (.seq (.reg (some [0, 1, 2, 3, 4, 5, 6, 7, 8]) [⟨some 17, .mov (.t 0), none⟩,
  ⟨some 18, .mov (.t 5), none⟩,
  ⟨some 19, .iaddrf 1 (.t 17) (.t 18), none⟩,
  ⟨some 20, .ldf false 1 (.t 19), none⟩,
  ⟨some 21, .mov (.t 1), none⟩,
  ⟨some 22, .mov (.t 5), none⟩,
  ⟨some 23, .iaddrf 1 (.t 21) (.t 22), none⟩,
  ⟨some 24, .ldf false 1 (.t 23), none⟩,
  ⟨some 25, .bin .ne (.t 20) (.t 24), none⟩])
 (.lv [0, 1, 5, 25] (.cond (.t 25) (.lv [] (.seq (.reg none [⟨some 4, .mov (.k (.bool false)), none⟩])
 (.ret)))
 (.skip)))))
 (.lv [0, 1, 5] (.reg none [⟨some 15, .mov (.t 5), none⟩,
  ⟨some 16, .bin .add (.t 15) (.k (.int .i64 1)), none⟩,
  ⟨some 5, .mov (.t 16), none⟩]))))
def k54_0 : IR :=
 .seq (.reg none [⟨some 4, .mov (.k (.bool true)), none⟩])
 (.ret)
def c54 : IR :=
 .seq (.reg none [⟨some 4, .mov (.k (.bool false)), none⟩])
 (.lv [0, 1] (.seq (.seq (.reg none [⟨some 6, .mov (.t 0), none⟩,
  ⟨some 7, .lenf (.t 6), none⟩,
  ⟨some 8, .mov (.t 1), none⟩,
  ⟨some 9, .lenf (.t 8), none⟩,
  ⟨some 10, .bin .ne (.t 7) (.t 9), none⟩])
 (.lv [0, 1, 10] (.cond (.t 10) (.lv [] (.seq (.reg none [⟨some 4, .mov (.k (.bool false)), none⟩])
 (.ret)))
 (.skip))))
 (.lv [0, 1] (.seq (.seq (.reg none [⟨some 5, .mov (.k (.int .i64 0)), none⟩])
 (.lv [0, 1, 5] (.block 0 (.loop [0, 1, 5] (some (0, [])) b54_0))))
 k54_0))))
def i54 : IFn := ⟨2, 26, c54, [.t 4], .pure⟩

/-! 55: typeball/typeballref05.Runes -/
def b55_0 : IR :=
 .seq (.seq (.reg none [⟨some 11, .mov (.t 5), none⟩,
  ⟨some 12, .mov (.t 0), none⟩,
  ⟨some 13, .lenf (.t 12), none⟩,
  ⟨some 14, .bin .lt (.t 11) (.t 13), none⟩])
 (.lv [0, 1, 5, 14] (.cond (.t 14) (.skip)
 (.exit 0))))
 (.lv [0, 1, 5] (.seq (.block 1 (.seq (.reg (some [0, 1, 2, 3, 4, 5, 6, 7, 8]) [⟨some 17, .mov (.t 0), none⟩,
  ⟨some 18, .mov (.t 5), none⟩,
  ⟨some 19, .iaddrf 1 (.t 17) (.t 18), none⟩,
  ⟨some 20, .ldf false 1 (.t 19), none⟩,
  ⟨some 21, .mov (.t 1), none⟩,
  ⟨some 22, .mov (.t 5), none⟩,
  ⟨some 23, .iaddrf 1 (.t 21) (.t 22), none⟩,
  ⟨some 24, .ldf false 1 (.t 23), none⟩,
  ⟨some 25, .bin .ne (.t 20) (.t 24), none⟩])
 (.lv [0, 1, 5, 25] (.cond (.t 25) (.lv [] (.seq (.reg none [⟨some 4, .mov (.k (.bool false)), none⟩])
 (.ret)))
 (.skip)))))
 (.lv [0, 1, 5] (.reg none [⟨some 15, .mov (.t 5), none⟩,
  ⟨some 16, .bin .add (.t 15) (.k (.int .i64 1)), none⟩,
  ⟨some 5, .mov (.t 16), none⟩]))))
def k55_0 : IR :=
 .seq (.reg none [⟨some 4, .mov (.k (.bool true)), none⟩])
 (.ret)
def c55 : IR :=
 .seq (.reg none [⟨some 4, .mov (.k (.bool false)), none⟩])
 (.lv [0, 1] (.seq (.seq (.reg none [⟨some 6, .mov (.t 0), none⟩,
  ⟨some 7, .lenf (.t 6), none⟩,
  ⟨some 8, .mov (.t 1), none⟩,
  ⟨some 9, .lenf (.t 8), none⟩,
  ⟨some 10, .bin .ne (.t 7) (.t 9), none⟩])
 (.lv [0, 1, 10] (.cond (.t 10) (.lv [] (.seq (.reg none [⟨some 4, .mov (.k (.bool false)), none⟩])
 (.ret)))
 (.skip))))
 (.lv [0, 1] (.seq (.seq (.reg none [⟨some 5, .mov (.k (.int .i64 0)), none⟩])
 (.lv [0, 1, 5] (.block 0 (.loop [0, 1, 5] (some (0, [])) b55_0))))
 k55_0))))
def i55 : IFn := ⟨2, 26, c55, [.t 4], .pure⟩

/-! 56: (typeball/array.Array).Runes -/
def c56 : IR :=
 .seq (.reg none [⟨some 1, .box 36 5 (.t 0), none⟩,
  ⟨some 2, .newnil 21 1, none⟩])
 (.lv [1] (.seq (.reg none [⟨some 3, .faddr 2 (.t 1), none⟩,
  ⟨some 4, .ld false 1 (.t 3), none⟩,
  ⟨some 5, .callO 45 [.t 4], none⟩,
  ⟨some 2, .mov (.t 5), none⟩])
 (.ret)))
def i56 : IFn := ⟨1, 6, c56, [.t 2], .own⟩

/-! 57: (typeball/ratio.Rat).Num -/
def c57 : IR :=
 .seq (.reg none [⟨some 1, .box 62 3 (.t 0), none⟩,
  ⟨some 2, .alloc 71 [.bool false, .str ⟨#[]⟩, .str ⟨#[]⟩], none⟩])
 (.lv [1, 2] (.seq (.reg (some [0, 1, 2, 3, 4, 5, 6, 7, 8, 9, 10, 11]) [⟨some 3, .faddr 0 (.t 1), none⟩,
  ⟨some 4, .ld true 2 (.t 3), none⟩,
  ⟨some 5, .callP 69 [.t 4], none⟩,
  ⟨some 6, .faddr 0 (.t 1), none⟩,
  ⟨some 7, .faddr 0 (.t 6), none⟩,
  ⟨some 8, .ld true 1 (.t 7), none⟩,
  ⟨some 9, .callP 84 [.t 8], none⟩,
  ⟨some 10, .ld true 3 (.t 1), none⟩,
  ⟨some 11, .callP 71 [.t 10], none⟩,
  ⟨some 12, .callP 84 [.t 11], none⟩,
  ⟨some 13, .build [.bool false, .str ⟨#[]⟩, .str ⟨#[]⟩] [(0, 1, .t 5), (1, 1, .t 9), (2, 1, .t 12)], none⟩,
  ⟨none, .st 3 (.t 2) (.t 13), none⟩])
 (.ret)))
def i57 : IFn := ⟨1, 14, c57, [.c 2 true 3], .pure⟩

/-! 58: typeball/typeballref06.Count -/
def b58_0 : IR :=
 .seq (.seq (.reg none [⟨some 7, .mov (.t 6), none⟩,
  ⟨some 8, .mov (.t 0), none⟩,
  ⟨some 9, .lenf (.t 8), none⟩,
  ⟨some 10, .bin .lt (.t 7) (.t 9), none⟩])
 (.lv [0, 4, 5, 6, 10] (.cond (.t 10) (.skip)
 (.exit 0))))
 (.lv [0, 4, 5, 6] (.seq (.block 1 (.seq (.seq (.reg none [⟨some 13, .mov (.t 6), none⟩,
  ⟨some 14, .bin .ge (.t 13) (.k (.int .i64 8)), none⟩,
  ⟨some 15, .mov (.t 14), none⟩,
  ⟨some 16, .mov (.t 0), (some (15, false))⟩,
  ⟨some 17, .mov (.t 6), (some (15, false))⟩,
  ⟨some 18, .iaddrf 1 (.t 16) (.t 17), (some (15, false))⟩,
  ⟨some 19, .ldf false 1 (.t 18), (some (15, false))⟩,
  ⟨some 20, .bin .lt (.t 19) (.k (.int .i64 0)), (some (15, false))⟩,
  ⟨some 21, .pick (.t 15) (.k (.bool true)) (.t 20), none⟩,
  ⟨some 22, .mov (.t 21), none⟩,
  ⟨some 23, .mov (.t 0), (some (22, false))⟩,
  ⟨some 24, .mov (.t 6), (some (22, false))⟩,
  ⟨some 25, .iaddrf 1 (.t 23) (.t 24), (some (22, false))⟩,
  ⟨some 26, .ldf false 1 (.t 25), (some (22, false))⟩,
  ⟨some 27, .bin .gt (.t 26) (.k (.int .i64 4096)), (some (22, false))⟩,
  ⟨some 28, .pick (.t 22) (.k (.bool true)) (.t 27), none⟩])
 (.lv [0, 4, 5, 6, 28] (.cond (.t 28) (.lv [] (.seq (.reg none [⟨some 2, .mov (.k (.int .i64 0)), none⟩,
  ⟨some 3, .mov (.k (.bool false)), none⟩])
 (.ret)))
 (.skip))))
 (.lv [0, 4, 5, 6] (.seq (.reg none [⟨some 29, .mov (.t 5), none⟩,
  ⟨some 30, .mov (.t 0), none⟩,
  ⟨some 31, .mov (.t 6), none⟩,
  ⟨some 32, .iaddrf 1 (.t 30) (.t 31), none⟩,
  ⟨some 33, .ldf false 1 (.t 32), none⟩,
  ⟨some 34, .bin .mul (.t 29) (.t 33), none⟩,
  ⟨some 5, .mov (.t 34), none⟩])
 (.lv [0, 4, 5, 6] (.seq (.seq (.reg none [⟨some 35, .mov (.t 0), none⟩,
  ⟨some 36, .mov (.t 6), none⟩,
  ⟨some 37, .iaddrf 1 (.t 35) (.t 36), none⟩,
  ⟨some 38, .ldf false 1 (.t 37), none⟩,
  ⟨some 39, .bin .gt (.t 38) (.k (.int .i64 0)), none⟩])
 (.lv [0, 4, 5, 6, 39] (.cond (.t 39) (.lv [0, 4, 5, 6] (.reg none [⟨some 40, .mov (.t 4), none⟩,
  ⟨some 41, .mov (.t 0), none⟩,
  ⟨some 42, .mov (.t 6), none⟩,
  ⟨some 43, .iaddrf 1 (.t 41) (.t 42), none⟩,
  ⟨some 44, .ldf false 1 (.t 43), none⟩,
  ⟨some 45, .bin .mul (.t 40) (.t 44), none⟩,
  ⟨some 4, .mov (.t 45), none⟩]))
 (.skip))))
 (.lv [0, 4, 5, 6] (.seq (.reg none [⟨some 46, .mov (.t 4), none⟩,
  ⟨some 47, .bin .gt (.t 46) (.k (.int .i64 4096)), none⟩])
 (.lv [0, 4, 5, 6, 47] (.cond (.t 47) (.lv [] (.seq (.reg none [⟨some 2, .mov (.k (.int .i64 0)), none⟩,
  ⟨some 3, .mov (.k (.bool false)), none⟩])
 (.ret)))
 (.skip)))))))))))
 (.lv [0, 4, 5, 6] (.reg none [⟨some 11, .mov (.t 6), none⟩,
  ⟨some 12, .bin .add (.t 11) (.k (.int .i64 1)), none⟩,
  ⟨some 6, .mov (.t 12), none⟩]))))
def k58_0 : IR :=
 .seq (.reg none [⟨some 48, .mov (.t 5), none⟩,
  ⟨some 2, .mov (.t 48), none⟩,
  ⟨some 3, .mov (.k (.bool true)), none⟩])
 (.ret)
def c58 : IR :=
 .seq (.reg none [⟨some 2, .mov (.k (.int .i64 0)), none⟩,
  ⟨some 3, .mov (.k (.bool false)), none⟩])
 (.lv [0] (.seq (.reg none [⟨some 4, .mov (.k (.int .i64 1)), none⟩,
  ⟨some 5, .mov (.k (.int .i64 1)), none⟩])
 (.lv [0, 4, 5] (.seq (.seq (.reg none [⟨some 6, .mov (.k (.int .i64 0)), none⟩])
 (.lv [0, 4, 5, 6] (.block 0 (.loop [0, 4, 5, 6] (some (0, [])) b58_0))))
 k58_0))))
def i58 : IFn := ⟨1, 49, c58, [.t 2, .t 3], .pure⟩

/-! 59: typeball/typeballref03.Right -/
def c59 : IR :=
 .seq (.reg none [⟨some 1, .box 71 3 (.t 0), none⟩,
  ⟨some 2, .mov (.k (.bool false)), none⟩])
 (.lv [1] (.seq (.seq (.reg (some [0, 1, 2, 3, 4, 5, 6, 7, 8, 9, 10, 11, 12, 13, 14, 15, 16, 17, 18, 19, 20, 21, 22, 23, 24, 25, 26, 27, 28, 29, 30]) [⟨some 3, .faddr 1 (.t 1), none⟩,
  ⟨some 4, .ld false 1 (.t 3), none⟩,
  ⟨some 5, .callP 85 [.t 4], none⟩,
  ⟨some 6, .not (.t 5), none⟩,
  ⟨some 7, .mov (.t 6), none⟩,
  ⟨some 8, .faddr 2 (.t 1), (some (7, false))⟩,
  ⟨some 9, .ld false 1 (.t 8), (some (7, false))⟩,
  ⟨some 10, .callP 85 [.t 9], (some (7, false))⟩,
  ⟨some 11, .not (.t 10), (some (7, false))⟩,
  ⟨some 12, .pick (.t 7) (.k (.bool true)) (.t 11), none⟩,
  ⟨some 13, .mov (.t 12), none⟩,
  ⟨some 14, .faddr 1 (.t 1), (some (13, false))⟩,
  ⟨some 15, .ld false 1 (.t 14), (some (13, false))⟩,
  ⟨some 16, .callP 86 [.t 15], (some (13, false))⟩,
  ⟨some 17, .faddr 1 (.t 1), (some (13, false))⟩,
  ⟨some 18, .ld false 1 (.t 17), (some (13, false))⟩,
  ⟨some 19, .bin .ne (.t 16) (.t 18), (some (13, false))⟩,
  ⟨some 20, .pick (.t 13) (.k (.bool true)) (.t 19), none⟩,
  ⟨some 21, .mov (.t 20), none⟩,
  ⟨some 22, .faddr 2 (.t 1), (some (21, false))⟩,
  ⟨some 23, .ld false 1 (.t 22), (some (21, false))⟩,
  ⟨some 24, .callP 86 [.t 23], (some (21, false))⟩,
  ⟨some 25, .faddr 2 (.t 1), (some (21, false))⟩,
  ⟨some 26, .ld false 1 (.t 25), (some (21, false))⟩,
  ⟨some 27, .bin .ne (.t 24) (.t 26), (some (21, false))⟩,
  ⟨some 28, .pick (.t 21) (.k (.bool true)) (.t 27), none⟩,
  ⟨some 29, .mov (.t 28), none⟩,
  ⟨some 30, .faddr 2 (.t 1), (some (29, false))⟩,
  ⟨some 31, .ld false 1 (.t 30), (some (29, false))⟩,
  ⟨some 32, .bin .eq (.t 31) (.k (.str ⟨#[48]⟩)), (some (29, false))⟩,
  ⟨some 33, .pick (.t 29) (.k (.bool true)) (.t 32), none⟩])
 (.lv [1, 33] (.cond (.t 33) (.lv [] (.seq (.reg none [⟨some 2, .mov (.k (.bool false)), none⟩])
 (.ret)))
 (.skip))))
 (.lv [1] (.seq (.reg none [⟨some 34, .faddr 1 (.t 1), none⟩,
  ⟨some 35, .ld false 1 (.t 34), none⟩,
  ⟨some 36, .faddr 2 (.t 1), none⟩,
  ⟨some 37, .ld false 1 (.t 36), none⟩,
  ⟨some 38, .callP 76 [.t 35, .t 37], none⟩,
  ⟨some 39, .bin .eq (.t 38) (.k (.str ⟨#[49]⟩)), none⟩,
  ⟨some 40, .mov (.t 39), none⟩,
  ⟨some 41, .faddr 0 (.t 1), (some (40, true))⟩,
  ⟨some 42, .ld false 1 (.t 41), (some (40, true))⟩,
  ⟨some 43, .mov (.t 42), (some (40, true))⟩,
  ⟨some 44, .faddr 1 (.t 1), (some (43, true))⟩,
  ⟨some 45, .ld false 1 (.t 44), (some (43, true))⟩,
  ⟨some 46, .bin .eq (.t 45) (.k (.str ⟨#[48]⟩)), (some (43, true))⟩,
  ⟨some 47, .pick (.t 43) (.t 46) (.k (.bool false)), (some (40, true))⟩,
  ⟨some 48, .not (.t 47), (some (40, true))⟩,
  ⟨some 49, .pick (.t 40) (.t 48) (.k (.bool false)), none⟩,
  ⟨some 2, .mov (.t 49), none⟩])
 (.ret)))))
def i59 : IFn := ⟨1, 50, c59, [.t 2], .pure⟩

/-! 60: (typeball/array.Array).Rank -/
def c60 : IR :=
 .seq (.reg none [⟨some 1, .box 36 5 (.t 0), none⟩,
  ⟨some 2, .mov (.k (.int .i64 0)), none⟩])
 (.lv [1] (.seq (.reg none [⟨some 3, .ld true 5 (.t 1), none⟩,
  ⟨some 4, .callP 23 [.t 3], none⟩,
  ⟨some 5, .lenf (.t 4), none⟩,
  ⟨some 2, .mov (.t 5), none⟩])
 (.ret)))
def i60 : IFn := ⟨1, 6, c60, [.t 2], .pure⟩

/-! 61: (typeball/ratio.Rat).IsWhole -/
def c61 : IR :=
 .seq (.reg none [⟨some 1, .box 62 3 (.t 0), none⟩,
  ⟨some 2, .mov (.k (.bool false)), none⟩])
 (.lv [1] (.seq (.reg none [⟨some 3, .ld true 3 (.t 1), none⟩,
  ⟨some 4, .callP 71 [.t 3], none⟩,
  ⟨some 5, .callP 87 [.t 4], none⟩,
  ⟨some 2, .mov (.t 5), none⟩])
 (.ret)))
def i61 : IFn := ⟨1, 6, c61, [.t 2], .pure⟩

/-! 62: (typeball/whole.Int).Int -/
def c62 : IR :=
 .seq (.reg none [⟨some 1, .box 60 2 (.t 0), none⟩,
  ⟨some 2, .mov (.k (.int .i64 0)), none⟩,
  ⟨some 3, .mov (.k (.bool false)), none⟩])
 (.lv [1] (.seq (.reg none [⟨some 7, .faddr 0 (.t 1), none⟩,
  ⟨some 8, .ld true 1 (.t 7), none⟩,
  ⟨some 9, .callP 88 [.t 8], none⟩,
  ⟨some 6, .mov (.t 9), none⟩,
  ⟨some 10, .ext (.t 6) 0, none⟩,
  ⟨some 11, .ext (.t 6) 1, none⟩,
  ⟨some 4, .mov (.t 10), none⟩,
  ⟨some 5, .mov (.t 11), none⟩])
 (.lv [1, 4, 5] (.seq (.block 0 (.seq (.reg none [⟨some 13, .mov (.t 5), none⟩,
  ⟨some 14, .not (.t 13), none⟩,
  ⟨some 15, .mov (.t 14), none⟩,
  ⟨some 16, .mov (.t 4), (some (15, false))⟩,
  ⟨some 17, .bin .gt (.t 16) (.k (.int .u64 9223372036854775808)), (some (15, false))⟩,
  ⟨some 18, .pick (.t 15) (.k (.bool true)) (.t 17), none⟩,
  ⟨some 19, .mov (.t 18), none⟩,
  ⟨some 20, .mov (.t 4), (some (19, false))⟩,
  ⟨some 21, .bin .eq (.t 20) (.k (.int .u64 9223372036854775808)), (some (19, false))⟩,
  ⟨some 22, .mov (.t 21), (some (19, false))⟩,
  ⟨some 23, .faddr 1 (.t 1), (some (22, true))⟩,
  ⟨some 24, .ld false 1 (.t 23), (some (22, true))⟩,
  ⟨some 25, .not (.t 24), (some (22, true))⟩,
  ⟨some 26, .pick (.t 22) (.t 25) (.k (.bool false)), (some (19, false))⟩,
  ⟨some 27, .pick (.t 19) (.k (.bool true)) (.t 26), none⟩,
  ⟨some 12, .mov (.t 27), none⟩])
 (.lv [1, 4, 12] (.cond (.t 12) (.lv [] (.seq (.reg none [⟨some 2, .mov (.k (.int .i64 0)), none⟩,
  ⟨some 3, .mov (.k (.bool false)), none⟩])
 (.ret)))
 (.lv [1, 4] (.seq (.reg none [⟨some 29, .faddr 1 (.t 1), none⟩,
  ⟨some 30, .ld false 1 (.t 29), none⟩,
  ⟨some 28, .mov (.t 30), none⟩])
 (.lv [4, 28] (.cond (.t 28) (.lv [4] (.seq (.reg none [⟨some 31, .mov (.t 4), none⟩,
  ⟨some 32, .bin .sub (.t 31) (.k (.int .u64 1)), none⟩,
  ⟨some 33, .conv .i64 (.t 32), none⟩,
  ⟨some 34, .neg (.t 33), none⟩,
  ⟨some 35, .bin .sub (.t 34) (.k (.int .i64 1)), none⟩,
  ⟨some 2, .mov (.t 35), none⟩,
  ⟨some 3, .mov (.k (.bool true)), none⟩])
 (.ret)))
 (.skip)))))))))
 (.lv [4] (.seq (.reg none [⟨some 36, .mov (.t 4), none⟩,
  ⟨some 37, .conv .i64 (.t 36), none⟩,
  ⟨some 2, .mov (.t 37), none⟩,
  ⟨some 3, .mov (.k (.bool true)), none⟩])
 (.ret)))))))
def i62 : IFn := ⟨1, 38, c62, [.t 2, .t 3], .pure⟩

/-! 63: typeball/nat.trim -/
def b63_0 : IR :=
 .seq (.seq (.reg none [⟨some 3, .mov (.t 0), none⟩,
  ⟨some 4, .lenf (.t 3), none⟩,
  ⟨some 5, .bin .gt (.t 4) (.k (.int .i64 0)), none⟩,
  ⟨some 6, .mov (.t 5), none⟩,
  ⟨some 7, .mov (.t 0), (some (6, true))⟩,
  ⟨some 8, .mov (.t 0), (some (6, true))⟩,
  ⟨some 9, .lenf (.t 8), (some (6, true))⟩,
  ⟨some 10, .bin .sub (.t 9) (.k (.int .i64 1)), (some (6, true))⟩,
  ⟨some 11, .iaddrf 1 (.t 7) (.t 10), (some (6, true))⟩,
  ⟨some 12, .ldf false 1 (.t 11), (some (6, true))⟩,
  ⟨some 13, .bin .eq (.t 12) (.k (.int .u32 0)), (some (6, true))⟩,
  ⟨some 14, .pick (.t 6) (.t 13) (.k (.bool false)), none⟩])
 (.lv [0, 2, 14] (.cond (.t 14) (.skip)
 (.exit 0))))
 (.lv [0, 2] (.block 1 (.reg none [⟨some 15, .mov (.t 0), none⟩,
  ⟨some 16, .mov (.t 0), none⟩,
  ⟨some 17, .lenf (.t 16), none⟩,
  ⟨some 18, .bin .sub (.t 17) (.k (.int .i64 1)), none⟩,
  ⟨some 19, .cut 1 (.t 15) none (some (.t 18)), none⟩,
  ⟨some 0, .mov (.t 19), none⟩])))
def k63_0 : IR :=
 .seq (.reg none [⟨some 20, .mov (.t 0), none⟩,
  ⟨some 21, .build [.nilsl 107 1] [(0, 1, .t 20)], none⟩,
  ⟨none, .st 1 (.t 2) (.t 21), none⟩])
 (.ret)
def c63 : IR :=
 .seq (.reg none [⟨some 2, .alloc 58 [.nilsl 107 1], none⟩])
 (.lv [0, 2] (.seq (.block 0 (.loop [0, 2] (some (2, [])) b63_0))
 k63_0))
def i63 : IFn := ⟨1, 22, c63, [.c 2 true 1], .pure⟩

/-! 64: (typeball/nat.Nat).Zero -/
def c64 : IR :=
 .seq (.reg none [⟨some 1, .box 58 1 (.t 0), none⟩,
  ⟨some 2, .mov (.k (.bool false)), none⟩])
 (.lv [1] (.seq (.reg none [⟨some 3, .faddr 0 (.t 1), none⟩,
  ⟨some 4, .ld false 1 (.t 3), none⟩,
  ⟨some 5, .lenf (.t 4), none⟩,
  ⟨some 6, .bin .eq (.t 5) (.k (.int .i64 0)), none⟩,
  ⟨some 2, .mov (.t 6), none⟩])
 (.ret)))
def i64 : IFn := ⟨1, 7, c64, [.t 2], .pure⟩

/-! 65: (typeball/nat.Nat).Gcd -/
def b65_1 : IR :=
 .seq (.seq (.reg none [⟨some 29, .mov (.t 7), none⟩,
  ⟨some 30, .bin .ne (.t 29) (.k (.int .u64 0)), none⟩])
 (.lv [4, 5, 7, 30] (.cond (.t 30) (.skip)
 (.exit 2))))
 (.lv [4, 5, 7] (.block 3 (.reg (some [0, 1, 2, 3, 4, 5]) [⟨some 31, .mov (.t 7), none⟩,
  ⟨some 32, .mov (.t 5), none⟩,
  ⟨some 33, .mov (.t 7), none⟩,
  ⟨some 34, .bin .rem (.t 32) (.t 33), none⟩,
  ⟨some 5, .mov (.t 31), none⟩,
  ⟨some 7, .mov (.t 34), none⟩])))
def k65_0 : IR :=
 .seq (.reg none [⟨some 35, .mov (.t 5), none⟩,
  ⟨some 36, .callP 37 [.t 35], none⟩,
  ⟨none, .st 1 (.t 4) (.t 36), none⟩])
 (.ret)
def k65_1 : IR :=
 .seq (.reg none [⟨some 38, .ld true 1 (.t 2), none⟩,
  ⟨some 39, .ld true 1 (.t 3), none⟩,
  ⟨some 40, .callF 67 [.t 38, .t 39], none⟩,
  ⟨some 37, .mov (.t 40), none⟩,
  ⟨some 41, .ext (.t 37) 0, none⟩,
  ⟨some 42, .ext (.t 37) 1, none⟩,
  ⟨some 43, .ext (.t 37) 2, none⟩,
  ⟨some 9, .alloc 58 [.nilsl 107 1], none⟩,
  ⟨some 10, .alloc 58 [.nilsl 107 1], none⟩,
  ⟨none, .st 1 (.t 9) (.t 41), none⟩,
  ⟨none, .st 1 (.t 10) (.t 42), none⟩,
  ⟨some 11, .mov (.t 43), none⟩])
 (.lv [2, 3, 4, 10] (.reg (some [0, 1, 2, 3]) [⟨some 44, .ld true 1 (.t 3), none⟩,
  ⟨some 45, .ld true 1 (.t 10), none⟩,
  ⟨none, .sta [10] 1 (.t 2) (.t 44), none⟩,
  ⟨none, .st 1 (.t 3) (.t 45), none⟩]))
def b65_0 : IR :=
 .seq (.seq (.reg none [⟨some 12, .ld true 1 (.t 3), none⟩,
  ⟨some 13, .callR 64 [.t 12], none⟩,
  ⟨some 14, .not (.t 13), none⟩])
 (.lv [2, 3, 4, 14] (.cond (.t 14) (.skip)
 (.exit 0))))
 (.lv [2, 3, 4] (.block 1 (.seq (.reg none [⟨some 16, .ld true 1 (.t 2), none⟩,
  ⟨some 17, .callR 88 [.t 16], none⟩,
  ⟨some 15, .mov (.t 17), none⟩,
  ⟨some 18, .ext (.t 15) 0, none⟩,
  ⟨some 19, .ext (.t 15) 1, none⟩,
  ⟨some 5, .mov (.t 18), none⟩,
  ⟨some 6, .mov (.t 19), none⟩])
 (.lv [2, 3, 4, 5, 6] (.seq (.reg none [⟨some 21, .ld true 1 (.t 3), none⟩,
  ⟨some 22, .callR 88 [.t 21], none⟩,
  ⟨some 20, .mov (.t 22), none⟩,
  ⟨some 23, .ext (.t 20) 0, none⟩,
  ⟨some 24, .ext (.t 20) 1, none⟩,
  ⟨some 7, .mov (.t 23), none⟩,
  ⟨some 8, .mov (.t 24), none⟩])
 (.lv [2, 3, 4, 5, 6, 7, 8] (.seq (.seq (.reg none [⟨some 25, .mov (.t 6), none⟩,
  ⟨some 26, .mov (.t 25), none⟩,
  ⟨some 27, .mov (.t 8), (some (26, true))⟩,
  ⟨some 28, .pick (.t 26) (.t 27) (.k (.bool false)), none⟩])
 (.lv [2, 3, 4, 5, 7, 28] (.cond (.t 28) (.lv [4, 5, 7] (.seq (.block 2 (.loop [4, 5, 7] (some (4, [])) b65_1))
 k65_0))
 (.skip))))
 k65_1)))))))
def k65_2 : IR :=
 .seq (.reg none [⟨some 46, .ld true 1 (.t 2), none⟩,
  ⟨none, .st 1 (.t 4) (.t 46), none⟩])
 (.ret)
def c65 : IR :=
 .seq (.reg none [⟨some 2, .box 58 1 (.t 0), none⟩,
  ⟨some 3, .box 58 1 (.t 1), none⟩,
  ⟨some 4, .alloc 58 [.nilsl 107 1], none⟩])
 (.lv [2, 3, 4] (.seq (.block 0 (.loop [2, 3, 4] (some (4, [])) b65_0))
 k65_2))
def i65 : IFn := ⟨2, 47, c65, [.c 4 true 1], .pure⟩

/-! 66: (typeball/whole.Int).Size -/
def c66 : IR :=
 .seq (.reg none [⟨some 1, .box 60 2 (.t 0), none⟩,
  ⟨some 2, .alloc 58 [.nilsl 107 1], none⟩])
 (.lv [1, 2] (.seq (.reg none [⟨some 3, .faddr 0 (.t 1), none⟩,
  ⟨some 4, .ld true 1 (.t 3), none⟩,
  ⟨none, .st 1 (.t 2) (.t 4), none⟩])
 (.ret)))
def i66 : IFn := ⟨1, 5, c66, [.c 2 true 1], .pure⟩

/-! 67: (typeball/nat.Nat).DivMod -/
def c67 : IR :=
 .seq (.reg none [⟨some 2, .box 58 1 (.t 0), none⟩,
  ⟨some 3, .box 58 1 (.t 1), none⟩,
  ⟨some 4, .alloc 58 [.nilsl 107 1], none⟩,
  ⟨some 5, .alloc 58 [.nilsl 107 1], none⟩,
  ⟨some 6, .mov (.k (.bool false)), none⟩])
 (.lv [2, 3, 4, 5] (.seq (.block 0 (.seq (.reg none [⟨some 12, .faddr 0 (.t 3), none⟩,
  ⟨some 13, .ld false 1 (.t 12), none⟩,
  ⟨some 14, .lenf (.t 13), none⟩,
  ⟨some 15, .bin .eq (.t 14) (.k (.int .i64 0)), none⟩,
  ⟨some 11, .mov (.t 15), none⟩])
 (.lv [2, 3, 4, 5, 11] (.cond (.t 11) (.lv [4, 5] (.seq (.reg none [⟨some 16, .build [.nilsl 107 1] [], none⟩,
  ⟨some 17, .build [.nilsl 107 1] [], none⟩,
  ⟨none, .st 1 (.t 4) (.t 16), none⟩,
  ⟨none, .st 1 (.t 5) (.t 17), none⟩,
  ⟨some 6, .mov (.k (.bool false)), none⟩])
 (.ret)))
 (.lv [2, 3, 4, 5] (.seq (.reg none [⟨some 19, .ld true 1 (.t 2), none⟩,
  ⟨some 20, .ld true 1 (.t 3), none⟩,
  ⟨some 21, .callP 89 [.t 19, .t 20], none⟩,
  ⟨some 22, .bin .lt (.t 21) (.k (.int .i64 0)), none⟩,
  ⟨some 18, .mov (.t 22), none⟩])
 (.lv [2, 3, 4, 5, 18] (.cond (.t 18) (.lv [2, 4, 5] (.seq (.reg (some [0, 1, 2, 3, 4]) [⟨some 23, .build [.nilsl 107 1] [], none⟩,
  ⟨some 24, .ld true 1 (.t 2), none⟩,
  ⟨none, .sta [2] 1 (.t 4) (.t 23), none⟩,
  ⟨none, .st 1 (.t 5) (.t 24), none⟩,
  ⟨some 6, .mov (.k (.bool true)), none⟩])
 (.ret)))
 (.lv [2, 3, 4, 5] (.seq (.reg none [⟨some 26, .faddr 0 (.t 3), none⟩,
  ⟨some 27, .ld false 1 (.t 26), none⟩,
  ⟨some 28, .lenf (.t 27), none⟩,
  ⟨some 29, .bin .eq (.t 28) (.k (.int .i64 1)), none⟩,
  ⟨some 25, .mov (.t 29), none⟩])
 (.lv [2, 3, 4, 5, 25] (.cond (.t 25) (.lv [2, 3, 4, 5] (.seq (.reg (some [0, 1, 2, 3, 4, 5, 6, 7, 8, 9, 10, 11]) [⟨some 31, .ld true 1 (.t 2), none⟩,
  ⟨some 32, .faddr 0 (.t 3), none⟩,
  ⟨some 33, .ld false 1 (.t 32), none⟩,
  ⟨some 34, .iaddrf 1 (.t 33) (.k (.int .i64 0)), none⟩,
  ⟨some 35, .ldf false 1 (.t 34), none⟩,
  ⟨some 36, .callP 90 [.t 31, .t 35], none⟩,
  ⟨some 30, .mov (.t 36), none⟩,
  ⟨some 37, .ext (.t 30) 0, none⟩,
  ⟨some 38, .ext (.t 30) 1, none⟩,
  ⟨some 7, .alloc 58 [.nilsl 107 1], none⟩,
  ⟨none, .st 1 (.t 7) (.t 37), none⟩,
  ⟨some 8, .mov (.t 38), none⟩])
 (.lv [4, 5, 7, 8] (.seq (.reg (some [0, 1, 2, 3, 4, 5, 6]) [⟨some 39, .ld true 1 (.t 7), none⟩,
  ⟨some 40, .mov (.t 8), none⟩,
  ⟨some 41, .conv .u64 (.t 40), none⟩,
  ⟨some 42, .callP 37 [.t 41], none⟩,
  ⟨none, .st 1 (.t 4) (.t 39), none⟩,
  ⟨none, .st 1 (.t 5) (.t 42), none⟩,
  ⟨some 6, .mov (.k (.bool true)), none⟩])
 (.ret)))))
 (.skip)))))))))))))
 (.lv [2, 3, 4, 5] (.seq (.reg none [⟨some 44, .ld true 1 (.t 2), none⟩,
  ⟨some 45, .ld true 1 (.t 3), none⟩,
  ⟨some 46, .callP 91 [.t 44, .t 45], none⟩,
  ⟨some 43, .mov (.t 46), none⟩,
  ⟨some 47, .ext (.t 43) 0, none⟩,
  ⟨some 48, .ext (.t 43) 1, none⟩,
  ⟨some 9, .alloc 58 [.nilsl 107 1], none⟩,
  ⟨some 10, .alloc 58 [.nilsl 107 1], none⟩,
  ⟨none, .st 1 (.t 9) (.t 47), none⟩,
  ⟨none, .st 1 (.t 10) (.t 48), none⟩])
 (.lv [4, 5, 9, 10] (.seq (.reg (some [0, 1, 2, 3, 4]) [⟨some 49, .ld true 1 (.t 9), none⟩,
  ⟨some 50, .ld true 1 (.t 10), none⟩,
  ⟨none, .sta [10] 1 (.t 4) (.t 49), none⟩,
  ⟨none, .st 1 (.t 5) (.t 50), none⟩,
  ⟨some 6, .mov (.k (.bool true)), none⟩])
 (.ret)))))))
def i67 : IFn := ⟨2, 51, c67, [.c 4 true 1, .c 5 true 1, .t 6], .pure⟩

/-! 68: typeball/whole.Of -/
def c68 : IR :=
 .seq (.reg none [⟨some 3, .box 58 1 (.t 1), none⟩,
  ⟨some 4, .alloc 60 [.nilsl 107 1, .bool false], none⟩])
 (.lv [0, 3, 4] (.seq (.reg (some [0, 1, 2, 3, 4, 5, 6, 7, 8]) [⟨some 5, .ld true 1 (.t 3), none⟩,
  ⟨some 6, .mov (.t 0), none⟩,
  ⟨some 7, .mov (.t 6), none⟩,
  ⟨some 8, .ld true 1 (.t 3), (some (7, true))⟩,
  ⟨some 9, .callP 64 [.t 8], (some (7, true))⟩,
  ⟨some 10, .not (.t 9), (some (7, true))⟩,
  ⟨some 11, .pick (.t 7) (.t 10) (.k (.bool false)), none⟩,
  ⟨some 12, .build [.nilsl 107 1, .bool false] [(0, 1, .t 5), (1, 1, .t 11)], none⟩,
  ⟨none, .st 2 (.t 4) (.t 12), none⟩])
 (.ret)))
def i68 : IFn := ⟨2, 13, c68, [.c 4 true 2], .pure⟩

/-! 69: (typeball/whole.Int).Neg -/
def c69 : IR :=
 .seq (.reg none [⟨some 1, .box 60 2 (.t 0), none⟩,
  ⟨some 2, .mov (.k (.bool false)), none⟩])
 (.lv [1] (.seq (.reg none [⟨some 3, .faddr 1 (.t 1), none⟩,
  ⟨some 4, .ld false 1 (.t 3), none⟩,
  ⟨some 2, .mov (.t 4), none⟩])
 (.ret)))
def i69 : IFn := ⟨1, 5, c69, [.t 2], .pure⟩

/-! 70: (typeball/nat.Nat).Mul -/
def b70_1 : IR :=
 .seq (.reg none [⟨some 32, .bin .lt (.t 31) (.t 30), none⟩])
 (.lv [3, 4, 5, 6, 7, 8, 21, 22, 23, 29, 30, 31, 32] (.seq (.cond (.t 32) (.skip)
 (.exit 2))
 (.lv [3, 4, 5, 6, 7, 8, 21, 22, 23, 29, 30, 31] (.seq (.block 3 (.seq (.reg none [⟨some 33, .mov (.t 31), none⟩,
  ⟨some 34, .iaddrf 1 (.t 29) (.t 31), none⟩,
  ⟨some 35, .ldf false 1 (.t 34), none⟩,
  ⟨some 9, .mov (.t 33), none⟩,
  ⟨some 10, .mov (.t 35), none⟩])
 (.lv [3, 4, 5, 6, 7, 8, 9, 10, 21, 22, 23, 29, 30, 31] (.seq (.reg none [⟨some 36, .mov (.t 7), none⟩,
  ⟨some 37, .conv .u64 (.t 36), none⟩,
  ⟨some 38, .mov (.t 10), none⟩,
  ⟨some 39, .conv .u64 (.t 38), none⟩,
  ⟨some 40, .bin .mul (.t 37) (.t 39), none⟩,
  ⟨some 41, .mov (.t 5), none⟩,
  ⟨some 42, .mov (.t 6), none⟩,
  ⟨some 43, .mov (.t 9), none⟩,
  ⟨some 44, .bin .add (.t 42) (.t 43), none⟩,
  ⟨some 45, .iaddr 1 (.t 41) (.t 44), none⟩,
  ⟨some 46, .ld false 1 (.t 45), none⟩,
  ⟨some 47, .conv .u64 (.t 46), none⟩,
  ⟨some 48, .bin .add (.t 40) (.t 47), none⟩,
  ⟨some 49, .mov (.t 8), none⟩,
  ⟨some 50, .bin .add (.t 48) (.t 49), none⟩,
  ⟨some 11, .mov (.t 50), none⟩])
 (.lv [3, 4, 5, 6, 7, 9, 11, 21, 22, 23, 29, 30, 31] (.reg none [⟨some 51, .mov (.t 5), none⟩,
  ⟨some 52, .mov (.t 6), none⟩,
  ⟨some 53, .mov (.t 9), none⟩,
  ⟨some 54, .bin .add (.t 52) (.t 53), none⟩,
  ⟨some 55, .mov (.t 11), none⟩,
  ⟨some 56, .conv .u32 (.t 55), none⟩,
  ⟨some 57, .mov (.t 11), none⟩,
  ⟨some 58, .bin .shr (.t 57) (.k (.int .u64 32)), none⟩,
  ⟨some 59, .iaddr 1 (.t 51) (.t 54), none⟩,
  ⟨none, .st 1 (.t 59) (.t 56), none⟩,
  ⟨some 8, .mov (.t 58), none⟩]))))))
 (.lv [3, 4, 5, 6, 7, 8, 21, 22, 23, 29, 30, 31] (.reg none [⟨some 60, .bin .add (.t 31) (.k (.int .i64 1)), none⟩,
  ⟨some 31, .mov (.t 60), none⟩]))))))
def k70_0 : IR :=
 .reg none [⟨some 61, .mov (.t 5), none⟩,
  ⟨some 62, .mov (.t 6), none⟩,
  ⟨some 63, .faddr 0 (.t 3), none⟩,
  ⟨some 64, .ld false 1 (.t 63), none⟩,
  ⟨some 65, .lenf (.t 64), none⟩,
  ⟨some 66, .bin .add (.t 62) (.t 65), none⟩,
  ⟨some 67, .mov (.t 8), none⟩,
  ⟨some 68, .conv .u32 (.t 67), none⟩,
  ⟨some 69, .iaddr 1 (.t 61) (.t 66), none⟩,
  ⟨none, .st 1 (.t 69) (.t 68), none⟩]
def k70_1 : IR :=
 .reg none [⟨some 70, .bin .add (.t 23) (.k (.int .i64 1)), none⟩,
  ⟨some 23, .mov (.t 70), none⟩]
def b70_0 : IR :=
 .seq (.reg none [⟨some 24, .bin .lt (.t 23) (.t 22), none⟩])
 (.lv [3, 4, 5, 21, 22, 23, 24] (.seq (.cond (.t 24) (.skip)
 (.exit 0))
 (.lv [3, 4, 5, 21, 22, 23] (.seq (.block 1 (.seq (.reg none [⟨some 25, .mov (.t 23), none⟩,
  ⟨some 26, .iaddrf 1 (.t 21) (.t 23), none⟩,
  ⟨some 27, .ldf false 1 (.t 26), none⟩,
  ⟨some 6, .mov (.t 25), none⟩,
  ⟨some 7, .mov (.t 27), none⟩])
 (.lv [3, 4, 5, 6, 7, 21, 22, 23] (.seq (.reg none [⟨some 8, .mov (.k (.int .u64 0)), none⟩])
 (.lv [3, 4, 5, 6, 7, 8, 21, 22, 23] (.seq (.seq (.reg none [⟨some 28, .faddr 0 (.t 3), none⟩,
  ⟨some 29, .ld false 1 (.t 28), none⟩,
  ⟨some 30, .lenf (.t 29), none⟩,
  ⟨some 31, .mov (.k (.int .i64 0)), none⟩])
 (.lv [3, 4, 5, 6, 7, 8, 21, 22, 23, 29, 30, 31] (.block 2 (.loop [3, 4, 5, 6, 7, 8, 21, 22, 23, 29, 30, 31] (some (5, [])) b70_1))))
 k70_0))))))
 k70_1))))
def k70_2 : IR :=
 .seq (.reg none [⟨some 71, .mov (.t 5), none⟩,
  ⟨some 72, .callF 63 [.t 71], none⟩,
  ⟨none, .st 1 (.t 4) (.t 72), none⟩])
 (.ret)
def c70 : IR :=
 .seq (.reg none [⟨some 2, .box 58 1 (.t 0), none⟩,
  ⟨some 3, .box 58 1 (.t 1), none⟩,
  ⟨some 4, .alloc 58 [.nilsl 107 1], none⟩])
 (.lv [2, 3, 4] (.seq (.reg none [⟨some 12, .faddr 0 (.t 2), none⟩,
  ⟨some 13, .ld false 1 (.t 12), none⟩,
  ⟨some 14, .lenf (.t 13), none⟩,
  ⟨some 15, .faddr 0 (.t 3), none⟩,
  ⟨some 16, .ld false 1 (.t 15), none⟩,
  ⟨some 17, .lenf (.t 16), none⟩,
  ⟨some 18, .bin .add (.t 14) (.t 17), none⟩,
  ⟨some 19, .mk 107 4 [.int .u32 0] (.t 18), none⟩,
  ⟨some 5, .mov (.t 19), none⟩])
 (.lv [2, 3, 4, 5] (.seq (.seq (.reg none [⟨some 20, .faddr 0 (.t 2), none⟩,
  ⟨some 21, .ld false 1 (.t 20), none⟩,
  ⟨some 22, .lenf (.t 21), none⟩,
  ⟨some 23, .mov (.k (.int .i64 0)), none⟩])
 (.lv [3, 4, 5, 21, 22, 23] (.block 0 (.loop [3, 4, 5, 21, 22, 23] (some (5, [])) b70_0))))
 k70_2))))
def i70 : IFn := ⟨2, 73, c70, [.c 4 true 1], .pure⟩

/-! 71: (typeball/ratio.Rat).down -/
def c71 : IR :=
 .seq (.reg none [⟨some 1, .box 62 3 (.t 0), none⟩,
  ⟨some 2, .alloc 58 [.nilsl 107 1], none⟩])
 (.lv [1, 2] (.seq (.seq (.reg none [⟨some 3, .faddr 2 (.t 1), none⟩,
  ⟨some 4, .ld true 1 (.t 3), none⟩,
  ⟨some 5, .callP 64 [.t 4], none⟩])
 (.lv [1, 2, 5] (.cond (.t 5) (.lv [2] (.seq (.reg none [⟨some 6, .callP 37 [.k (.int .u64 1)], none⟩,
  ⟨none, .st 1 (.t 2) (.t 6), none⟩])
 (.ret)))
 (.skip))))
 (.lv [1, 2] (.seq (.reg none [⟨some 7, .faddr 2 (.t 1), none⟩,
  ⟨some 8, .ld true 1 (.t 7), none⟩,
  ⟨none, .st 1 (.t 2) (.t 8), none⟩])
 (.ret)))))
def i71 : IFn := ⟨1, 9, c71, [.c 2 true 1], .pure⟩

/-! 72: (typeball/whole.Int).plus -/
def c72 : IR :=
 .seq (.reg none [⟨some 2, .box 60 2 (.t 0), none⟩,
  ⟨some 3, .box 60 2 (.t 1), none⟩,
  ⟨some 4, .alloc 60 [.nilsl 107 1, .bool false], none⟩])
 (.lv [2, 3, 4] (.seq (.seq (.reg none [⟨some 9, .faddr 1 (.t 2), none⟩,
  ⟨some 10, .ld false 1 (.t 9), none⟩,
  ⟨some 11, .faddr 1 (.t 3), none⟩,
  ⟨some 12, .ld false 1 (.t 11), none⟩,
  ⟨some 13, .binb .eq (.t 10) (.t 12), none⟩])
 (.lv [2, 3, 4, 13] (.cond (.t 13) (.lv [2, 3, 4] (.seq (.reg (some [0, 1, 2, 3, 4, 5, 6, 7, 8]) [⟨some 14, .faddr 1 (.t 2), none⟩,
  ⟨some 15, .ld false 1 (.t 14), none⟩,
  ⟨some 16, .faddr 0 (.t 2), none⟩,
  ⟨some 17, .ld true 1 (.t 16), none⟩,
  ⟨some 18, .faddr 0 (.t 3), none⟩,
  ⟨some 19, .ld true 1 (.t 18), none⟩,
  ⟨some 20, .callP 92 [.t 17, .t 19], none⟩,
  ⟨some 21, .callP 68 [.t 15, .t 20], none⟩,
  ⟨none, .st 2 (.t 4) (.t 21), none⟩])
 (.ret)))
 (.skip))))
 (.lv [2, 3, 4] (.seq (.seq (.reg none [⟨some 23, .faddr 0 (.t 2), none⟩,
  ⟨some 24, .ld true 1 (.t 23), none⟩,
  ⟨some 25, .faddr 0 (.t 3), none⟩,
  ⟨some 26, .ld true 1 (.t 25), none⟩,
  ⟨some 27, .callP 93 [.t 24, .t 26], none⟩,
  ⟨some 22, .mov (.t 27), none⟩,
  ⟨some 28, .ext (.t 22) 0, none⟩,
  ⟨some 29, .ext (.t 22) 1, none⟩,
  ⟨some 5, .alloc 58 [.nilsl 107 1], none⟩,
  ⟨none, .st 1 (.t 5) (.t 28), none⟩,
  ⟨some 6, .mov (.t 29), none⟩])
 (.lv [2, 3, 4, 5, 6] (.seq (.reg none [⟨some 30, .mov (.t 6), none⟩])
 (.lv [2, 3, 4, 5, 30] (.cond (.t 30) (.lv [2, 4, 5] (.seq (.reg none [⟨some 31, .faddr 1 (.t 2), none⟩,
  ⟨some 32, .ld false 1 (.t 31), none⟩,
  ⟨some 33, .ld true 1 (.t 5), none⟩,
  ⟨some 34, .callF 68 [.t 32, .t 33], none⟩,
  ⟨none, .st 2 (.t 4) (.t 34), none⟩])
 (.ret)))
 (.skip))))))
 (.lv [2, 3, 4] (.seq (.reg none [⟨some 36, .faddr 0 (.t 3), none⟩,
  ⟨some 37, .ld true 1 (.t 36), none⟩,
  ⟨some 38, .faddr 0 (.t 2), none⟩,
  ⟨some 39, .ld true 1 (.t 38), none⟩,
  ⟨some 40, .callP 93 [.t 37, .t 39], none⟩,
  ⟨some 35, .mov (.t 40), none⟩,
  ⟨some 41, .ext (.t 35) 0, none⟩,
  ⟨some 42, .ext (.t 35) 1, none⟩,
  ⟨some 7, .alloc 58 [.nilsl 107 1], none⟩,
  ⟨none, .st 1 (.t 7) (.t 41), none⟩,
  ⟨some 8, .mov (.t 42), none⟩])
 (.lv [3, 4, 7] (.seq (.reg none [⟨some 43, .faddr 1 (.t 3), none⟩,
  ⟨some 44, .ld false 1 (.t 43), none⟩,
  ⟨some 45, .ld true 1 (.t 7), none⟩,
  ⟨some 46, .callF 68 [.t 44, .t 45], none⟩,
  ⟨none, .st 2 (.t 4) (.t 46), none⟩])
 (.ret)))))))))
def i72 : IFn := ⟨2, 47, c72, [.c 4 true 2], .pure⟩

/-! 73: typeball/nat.Parse -/
def b73_1 : IR :=
 .seq (.reg none [⟨some 30, .bin .lt (.t 29) (.t 28), none⟩])
 (.lv [0, 2, 4, 5, 6, 7, 27, 28, 29, 30] (.seq (.cond (.t 30) (.skip)
 (.exit 2))
 (.lv [0, 2, 4, 5, 6, 7, 27, 28, 29] (.seq (.block 3 (.seq (.reg none [⟨some 31, .iaddrf 1 (.t 27) (.t 29), none⟩,
  ⟨some 32, .ldf false 1 (.t 31), none⟩,
  ⟨some 9, .mov (.t 32), none⟩])
 (.lv [0, 2, 4, 5, 6, 7, 9, 27, 28, 29] (.seq (.seq (.reg none [⟨some 33, .mov (.t 9), none⟩,
  ⟨some 34, .bin .lt (.t 33) (.k (.int .u8 48)), none⟩,
  ⟨some 35, .mov (.t 34), none⟩,
  ⟨some 36, .mov (.t 9), (some (35, false))⟩,
  ⟨some 37, .bin .gt (.t 36) (.k (.int .u8 57)), (some (35, false))⟩,
  ⟨some 38, .pick (.t 35) (.k (.bool true)) (.t 37), none⟩])
 (.lv [0, 2, 4, 5, 6, 7, 9, 27, 28, 29, 38] (.cond (.t 38) (.lv [2] (.seq (.reg none [⟨some 39, .build [.nilsl 107 1] [], none⟩,
  ⟨none, .st 1 (.t 2) (.t 39), none⟩,
  ⟨some 3, .mov (.k (.bool false)), none⟩])
 (.ret)))
 (.skip))))
 (.lv [0, 2, 4, 5, 6, 7, 9, 27, 28, 29] (.reg none [⟨some 40, .mov (.t 6), none⟩,
  ⟨some 41, .bin .mul (.k (.int .u64 10)) (.t 40), none⟩,
  ⟨some 42, .mov (.t 9), none⟩,
  ⟨some 43, .bin .sub (.t 42) (.k (.int .u8 48)), none⟩,
  ⟨some 44, .conv .u64 (.t 43), none⟩,
  ⟨some 45, .bin .add (.t 41) (.t 44), none⟩,
  ⟨some 46, .mov (.t 7), none⟩,
  ⟨some 47, .bin .mul (.k (.int .u64 10)) (.t 46), none⟩,
  ⟨some 6, .mov (.t 45), none⟩,
  ⟨some 7, .mov (.t 47), none⟩]))))))
 (.lv [0, 2, 4, 5, 6, 7, 27, 28, 29] (.reg none [⟨some 48, .bin .add (.t 29) (.k (.int .i64 1)), none⟩,
  ⟨some 29, .mov (.t 48), none⟩]))))))
def k73_0 : IR :=
 .seq (.reg (some [0, 1, 2, 4, 3, 5, 6, 7]) [⟨some 49, .ld true 1 (.t 4), none⟩,
  ⟨some 50, .mov (.t 7), none⟩,
  ⟨some 51, .callP 37 [.t 50], none⟩,
  ⟨some 53, .mov (.t 6), none⟩,
  ⟨some 52, .callF 70 [.t 49, .t 51], none⟩,
  ⟨some 54, .callP 37 [.t 53], none⟩,
  ⟨some 55, .callP 92 [.t 52, .t 54], none⟩,
  ⟨none, .st 1 (.t 4) (.t 55), none⟩])
 (.lv [0, 2, 4, 5] (.reg none [⟨some 56, .mov (.t 0), none⟩,
  ⟨some 57, .mov (.t 5), none⟩,
  ⟨some 58, .scut (.t 56) (some (.t 57)) none, none⟩,
  ⟨some 0, .mov (.t 58), none⟩]))
def b73_0 : IR :=
 .seq (.seq (.reg none [⟨some 18, .mov (.t 0), none⟩,
  ⟨some 19, .slen (.t 18), none⟩,
  ⟨some 20, .bin .gt (.t 19) (.k (.int .i64 0)), none⟩])
 (.lv [0, 2, 4, 20] (.cond (.t 20) (.skip)
 (.exit 0))))
 (.lv [0, 2, 4] (.block 1 (.seq (.reg none [⟨some 21, .mov (.t 0), none⟩,
  ⟨some 22, .slen (.t 21), none⟩,
  ⟨some 23, .mn (.k (.int .i64 9)) (.t 22), none⟩,
  ⟨some 5, .mov (.t 23), none⟩])
 (.lv [0, 2, 4, 5] (.seq (.reg none [⟨some 6, .mov (.k (.int .u64 0)), none⟩,
  ⟨some 7, .mov (.k (.int .u64 1)), none⟩])
 (.lv [0, 2, 4, 5, 6, 7] (.seq (.seq (.reg none [⟨some 24, .mov (.t 0), none⟩,
  ⟨some 25, .mov (.t 5), none⟩,
  ⟨some 26, .scut (.t 24) none (some (.t 25)), none⟩,
  ⟨some 27, .s2b (.t 26), none⟩,
  ⟨some 28, .lenf (.t 27), none⟩,
  ⟨some 29, .mov (.k (.int .i64 0)), none⟩])
 (.lv [0, 2, 4, 5, 6, 7, 27, 28, 29] (.block 2 (.loop [0, 2, 4, 5, 6, 7, 27, 28, 29] (some (4, [])) b73_1))))
 k73_0)))))))
def k73_1 : IR :=
 .seq (.reg none [⟨some 59, .ld true 1 (.t 4), none⟩,
  ⟨none, .st 1 (.t 2) (.t 59), none⟩,
  ⟨some 3, .mov (.k (.bool true)), none⟩])
 (.ret)
def c73 : IR :=
 .seq (.reg none [⟨some 2, .alloc 58 [.nilsl 107 1], none⟩,
  ⟨some 3, .mov (.k (.bool false)), none⟩])
 (.lv [0, 2] (.seq (.seq (.reg none [⟨some 10, .mov (.t 0), none⟩,
  ⟨some 11, .bin .eq (.t 10) (.k (.str ⟨#[]⟩)), none⟩,
  ⟨some 12, .mov (.t 11), none⟩,
  ⟨some 13, .mov (.t 0), (some (12, false))⟩,
  ⟨some 14, .slen (.t 13), (some (12, false))⟩,
  ⟨some 15, .bin .gt (.t 14) (.k (.int .i64 2000)), (some (12, false))⟩,
  ⟨some 16, .pick (.t 12) (.k (.bool true)) (.t 15), none⟩])
 (.lv [0, 2, 16] (.cond (.t 16) (.lv [2] (.seq (.reg none [⟨some 17, .build [.nilsl 107 1] [], none⟩,
  ⟨none, .st 1 (.t 2) (.t 17), none⟩,
  ⟨some 3, .mov (.k (.bool false)), none⟩])
 (.ret)))
 (.skip))))
 (.lv [0, 2] (.seq (.reg none [⟨some 4, .alloc 58 [.nilsl 107 1], none⟩])
 (.lv [0, 2, 4] (.seq (.block 0 (.loop [0, 2, 4] (some (4, [])) b73_0))
 k73_1))))))
def i73 : IFn := ⟨1, 60, c73, [.c 2 true 1, .t 3], .pure⟩

/-! 74: typeball/typeballref02.Small -/
def c74 : IR :=
 .seq (.reg none [⟨some 1, .box 97 2 (.t 0), none⟩,
  ⟨some 2, .mov (.k (.int .i64 0)), none⟩,
  ⟨some 3, .mov (.k (.bool false)), none⟩])
 (.lv [1] (.seq (.reg none [⟨some 7, .faddr 1 (.t 1), none⟩,
  ⟨some 8, .ld false 1 (.t 7), none⟩,
  ⟨some 9, .callP 94 [.t 8], none⟩,
  ⟨some 6, .mov (.t 9), none⟩,
  ⟨some 10, .ext (.t 6) 0, none⟩,
  ⟨some 11, .ext (.t 6) 1, none⟩,
  ⟨some 4, .mov (.t 10), none⟩,
  ⟨some 5, .mov (.t 11), none⟩])
 (.lv [1, 4, 5] (.seq (.seq (.reg none [⟨some 12, .mov (.t 5), none⟩,
  ⟨some 13, .not (.t 12), none⟩,
  ⟨some 14, .mov (.t 13), none⟩,
  ⟨some 15, .faddr 0 (.t 1), (some (14, false))⟩,
  ⟨some 16, .ld false 1 (.t 15), (some (14, false))⟩,
  ⟨some 17, .not (.t 16), (some (14, false))⟩,
  ⟨some 18, .mov (.t 17), (some (14, false))⟩,
  ⟨some 19, .mov (.t 4), (some (18, true))⟩,
  ⟨some 20, .bin .gt (.t 19) (.k (.int .u64 9223372036854775807)), (some (18, true))⟩,
  ⟨some 21, .pick (.t 18) (.t 20) (.k (.bool false)), (some (14, false))⟩,
  ⟨some 22, .pick (.t 14) (.k (.bool true)) (.t 21), none⟩,
  ⟨some 23, .mov (.t 22), none⟩,
  ⟨some 24, .faddr 0 (.t 1), (some (23, false))⟩,
  ⟨some 25, .ld false 1 (.t 24), (some (23, false))⟩,
  ⟨some 26, .mov (.t 25), (some (23, false))⟩,
  ⟨some 27, .mov (.t 4), (some (26, true))⟩,
  ⟨some 28, .bin .gt (.t 27) (.k (.int .u64 9223372036854775808)), (some (26, true))⟩,
  ⟨some 29, .pick (.t 26) (.t 28) (.k (.bool false)), (some (23, false))⟩,
  ⟨some 30, .pick (.t 23) (.k (.bool true)) (.t 29), none⟩])
 (.lv [1, 4, 30] (.cond (.t 30) (.lv [] (.seq (.reg none [⟨some 2, .mov (.k (.int .i64 0)), none⟩,
  ⟨some 3, .mov (.k (.bool false)), none⟩])
 (.ret)))
 (.skip))))
 (.lv [1, 4] (.seq (.seq (.reg none [⟨some 31, .faddr 0 (.t 1), none⟩,
  ⟨some 32, .ld false 1 (.t 31), none⟩])
 (.lv [4, 32] (.cond (.t 32) (.lv [4] (.seq (.reg none [⟨some 33, .mov (.t 4), none⟩,
  ⟨some 34, .bin .sub (.t 33) (.k (.int .u64 1)), none⟩,
  ⟨some 35, .conv .i64 (.t 34), none⟩,
  ⟨some 36, .bin .sub (.k (.int .i64 0)) (.t 35), none⟩,
  ⟨some 37, .bin .sub (.t 36) (.k (.int .i64 1)), none⟩,
  ⟨some 2, .mov (.t 37), none⟩,
  ⟨some 3, .mov (.k (.bool true)), none⟩])
 (.ret)))
 (.skip))))
 (.lv [4] (.seq (.reg none [⟨some 38, .mov (.t 4), none⟩,
  ⟨some 39, .conv .i64 (.t 38), none⟩,
  ⟨some 2, .mov (.t 39), none⟩,
  ⟨some 3, .mov (.k (.bool true)), none⟩])
 (.ret)))))))))
def i74 : IFn := ⟨1, 40, c74, [.t 2, .t 3], .pure⟩

/-! 75: typeball/typeballref03.Zero -/
def c75 : IR :=
 .seq (.reg none [⟨some 0, .alloc 71 [.bool false, .str ⟨#[]⟩, .str ⟨#[]⟩], none⟩])
 (.lv [0] (.seq (.reg none [⟨some 1, .build [.bool false, .str ⟨#[]⟩, .str ⟨#[]⟩] [(1, 1, .k (.str ⟨#[48]⟩)), (2, 1, .k (.str ⟨#[49]⟩))], none⟩,
  ⟨none, .st 3 (.t 0) (.t 1), none⟩])
 (.ret)))
def i75 : IFn := ⟨0, 2, c75, [.c 0 true 3], .pure⟩

/-! 76: typeball/typeballref01.Gcd -/
def b76_0 : IR :=
 .seq (.seq (.reg none [⟨some 8, .mov (.t 5), none⟩,
  ⟨some 9, .bin .lt (.t 8) (.k (.int .i64 20000)), none⟩,
  ⟨some 10, .mov (.t 9), none⟩,
  ⟨some 11, .mov (.t 1), (some (10, true))⟩,
  ⟨some 12, .bin .ne (.t 11) (.k (.str ⟨#[48]⟩)), (some (10, true))⟩,
  ⟨some 13, .pick (.t 10) (.t 12) (.k (.bool false)), none⟩])
 (.lv [0, 1, 5, 13] (.cond (.t 13) (.skip)
 (.exit 0))))
 (.lv [0, 1, 5] (.seq (.block 1 (.seq (.reg none [⟨some 17, .mov (.t 0), none⟩,
  ⟨some 18, .mov (.t 1), none⟩,
  ⟨some 19, .callP 77 [.t 17, .t 18], none⟩,
  ⟨some 16, .mov (.t 19), none⟩,
  ⟨some 20, .ext (.t 16) 0, none⟩,
  ⟨some 21, .ext (.t 16) 1, none⟩,
  ⟨some 6, .mov (.t 20), none⟩,
  ⟨some 7, .mov (.t 21), none⟩])
 (.lv [1, 5, 7] (.seq (.reg none [⟨some 22, .mov (.t 1), none⟩,
  ⟨some 0, .mov (.t 22), none⟩])
 (.lv [0, 5, 7] (.reg none [⟨some 23, .mov (.t 7), none⟩,
  ⟨some 1, .mov (.t 23), none⟩]))))))
 (.lv [0, 1, 5] (.reg none [⟨some 14, .mov (.t 5), none⟩,
  ⟨some 15, .bin .add (.t 14) (.k (.int .i64 1)), none⟩,
  ⟨some 5, .mov (.t 15), none⟩]))))
def k76_0 : IR :=
 .seq (.reg none [⟨some 24, .mov (.t 0), none⟩,
  ⟨some 4, .mov (.t 24), none⟩])
 (.ret)
def c76 : IR :=
 .seq (.reg none [⟨some 4, .mov (.k (.str ⟨#[]⟩)), none⟩])
 (.lv [0, 1] (.seq (.seq (.reg none [⟨some 5, .mov (.k (.int .i64 0)), none⟩])
 (.lv [0, 1, 5] (.block 0 (.loop [0, 1, 5] (some (0, [])) b76_0))))
 k76_0))
def i76 : IFn := ⟨2, 25, c76, [.t 4], .pure⟩

/-! 77: typeball/typeballref01.DivMod -/
def b77_1 : IR :=
 .seq (.seq (.reg none [⟨some 27, .mov (.t 7), none⟩,
  ⟨some 28, .mov (.t 1), none⟩,
  ⟨some 29, .callP 80 [.t 27, .t 28], none⟩,
  ⟨some 30, .bin .ge (.t 29) (.k (.int .i64 0)), none⟩,
  ⟨some 31, .mov (.t 30), none⟩,
  ⟨some 32, .mov (.t 9), (some (31, true))⟩,
  ⟨some 33, .bin .lt (.t 32) (.k (.int .i64 10)), (some (31, true))⟩,
  ⟨some 34, .pick (.t 31) (.t 33) (.k (.bool false)), none⟩])
 (.lv [0, 1, 6, 7, 8, 9, 34] (.cond (.t 34) (.skip)
 (.exit 2))))
 (.lv [0, 1, 6, 7, 8, 9] (.block 3 (.seq (.reg none [⟨some 35, .mov (.t 7), none⟩,
  ⟨some 36, .mov (.t 1), none⟩,
  ⟨some 37, .callP 81 [.t 35, .t 36], none⟩,
  ⟨some 7, .mov (.t 37), none⟩])
 (.lv [0, 1, 6, 7, 8, 9] (.reg none [⟨some 38, .mov (.t 9), none⟩,
  ⟨some 39, .bin .add (.t 38) (.k (.int .i64 1)), none⟩,
  ⟨some 9, .mov (.t 39), none⟩])))))
def k77_0 : IR :=
 .reg none [⟨some 40, .mov (.t 6), none⟩,
  ⟨some 41, .mov (.t 9), none⟩,
  ⟨some 42, .bin .add (.k (.int .i64 48)) (.t 41), none⟩,
  ⟨some 43, .conv .u8 (.t 42), none⟩,
  ⟨some 44, .bsl 5 1 [.t 43], none⟩,
  ⟨some 45, .app 5 1 1 (.t 40) (.t 44), none⟩,
  ⟨some 6, .mov (.t 45), none⟩]
def k77_1 : IR :=
 .reg none [⟨some 17, .mov (.t 8), none⟩,
  ⟨some 18, .bin .add (.t 17) (.k (.int .i64 1)), none⟩,
  ⟨some 8, .mov (.t 18), none⟩]
def b77_0 : IR :=
 .seq (.seq (.reg none [⟨some 13, .mov (.t 8), none⟩,
  ⟨some 14, .mov (.t 0), none⟩,
  ⟨some 15, .slen (.t 14), none⟩,
  ⟨some 16, .bin .lt (.t 13) (.t 15), none⟩])
 (.lv [0, 1, 6, 7, 8, 16] (.cond (.t 16) (.skip)
 (.exit 0))))
 (.lv [0, 1, 6, 7, 8] (.seq (.block 1 (.seq (.reg none [⟨some 19, .mov (.t 7), none⟩,
  ⟨some 20, .mov (.t 0), none⟩,
  ⟨some 21, .mov (.t 8), none⟩,
  ⟨some 22, .mov (.t 8), none⟩,
  ⟨some 23, .bin .add (.t 22) (.k (.int .i64 1)), none⟩,
  ⟨some 24, .scut (.t 20) (some (.t 21)) (some (.t 23)), none⟩,
  ⟨some 25, .bin .add (.t 19) (.t 24), none⟩,
  ⟨some 26, .callP 86 [.t 25], none⟩,
  ⟨some 7, .mov (.t 26), none⟩])
 (.lv [0, 1, 6, 7, 8] (.seq (.reg none [⟨some 9, .mov (.k (.int .i64 0)), none⟩])
 (.lv [0, 1, 6, 7, 8, 9] (.seq (.block 2 (.loop [0, 1, 6, 7, 8, 9] (some (1, [])) b77_1))
 k77_0))))))
 k77_1))
def k77_2 : IR :=
 .seq (.reg none [⟨some 46, .mov (.t 6), none⟩,
  ⟨some 47, .b2s (.t 46), none⟩,
  ⟨some 48, .callP 86 [.t 47], none⟩,
  ⟨some 49, .mov (.t 7), none⟩,
  ⟨some 4, .mov (.t 48), none⟩,
  ⟨some 5, .mov (.t 49), none⟩])
 (.ret)
def c77 : IR :=
 .seq (.reg none [⟨some 4, .mov (.k (.str ⟨#[]⟩)), none⟩,
  ⟨some 5, .mov (.k (.str ⟨#[]⟩)), none⟩])
 (.lv [0, 1] (.seq (.reg none [⟨some 10, .mov (.t 0), none⟩,
  ⟨some 11, .slen (.t 10), none⟩,
  ⟨some 12, .mk0 5 1 1 (.t 11), none⟩,
  ⟨some 6, .mov (.t 12), none⟩])
 (.lv [0, 1, 6] (.seq (.reg none [⟨some 7, .mov (.k (.str ⟨#[48]⟩)), none⟩])
 (.lv [0, 1, 6, 7] (.seq (.seq (.reg none [⟨some 8, .mov (.k (.int .i64 0)), none⟩])
 (.lv [0, 1, 6, 7, 8] (.block 0 (.loop [0, 1, 6, 7, 8] (some (1, [])) b77_0))))
 k77_2))))))
def i77 : IFn := ⟨2, 50, c77, [.t 4, .t 5], .pure⟩

/-! 78: typeball/typeballref02.Of -/
def c78 : IR :=
 .seq (.reg none [⟨some 4, .alloc 97 [.bool false, .str ⟨#[]⟩], none⟩])
 (.lv [0, 1, 4] (.seq (.reg none [⟨some 5, .mov (.t 1), none⟩,
  ⟨some 6, .callP 86 [.t 5], none⟩,
  ⟨some 1, .mov (.t 6), none⟩])
 (.lv [0, 1, 4] (.seq (.reg none [⟨some 7, .mov (.t 0), none⟩,
  ⟨some 8, .mov (.t 7), none⟩,
  ⟨some 9, .mov (.t 1), (some (8, true))⟩,
  ⟨some 10, .bin .ne (.t 9) (.k (.str ⟨#[48]⟩)), (some (8, true))⟩,
  ⟨some 11, .pick (.t 8) (.t 10) (.k (.bool false)), none⟩,
  ⟨some 12, .mov (.t 1), none⟩,
  ⟨some 13, .build [.bool false, .str ⟨#[]⟩] [(0, 1, .t 11), (1, 1, .t 12)], none⟩,
  ⟨none, .st 2 (.t 4) (.t 13), none⟩])
 (.ret)))))
def i78 : IFn := ⟨2, 14, c78, [.c 4 true 2], .pure⟩

/-! 79: typeball/typeballref01.Add -/
def b79_0 : IR :=
 .seq (.seq (.reg none [⟨some 9, .mov (.t 7), none⟩,
  ⟨some 10, .mov (.t 0), none⟩,
  ⟨some 11, .slen (.t 10), none⟩,
  ⟨some 12, .bin .lt (.t 9) (.t 11), none⟩,
  ⟨some 13, .mov (.t 12), none⟩,
  ⟨some 14, .mov (.t 7), (some (13, false))⟩,
  ⟨some 15, .mov (.t 1), (some (13, false))⟩,
  ⟨some 16, .slen (.t 15), (some (13, false))⟩,
  ⟨some 17, .bin .lt (.t 14) (.t 16), (some (13, false))⟩,
  ⟨some 18, .pick (.t 13) (.k (.bool true)) (.t 17), none⟩,
  ⟨some 19, .mov (.t 18), none⟩,
  ⟨some 20, .mov (.t 6), (some (19, false))⟩,
  ⟨some 21, .bin .gt (.t 20) (.k (.int .i64 0)), (some (19, false))⟩,
  ⟨some 22, .pick (.t 19) (.k (.bool true)) (.t 21), none⟩])
 (.lv [0, 1, 5, 6, 7, 22] (.cond (.t 22) (.skip)
 (.exit 0))))
 (.lv [0, 1, 5, 6, 7] (.seq (.block 1 (.seq (.reg none [⟨some 25, .mov (.t 0), none⟩,
  ⟨some 26, .mov (.t 7), none⟩,
  ⟨some 27, .callP 95 [.t 25, .t 26], none⟩,
  ⟨some 28, .mov (.t 1), none⟩,
  ⟨some 29, .mov (.t 7), none⟩,
  ⟨some 30, .callP 95 [.t 28, .t 29], none⟩,
  ⟨some 31, .bin .add (.t 27) (.t 30), none⟩,
  ⟨some 32, .mov (.t 6), none⟩,
  ⟨some 33, .bin .add (.t 31) (.t 32), none⟩,
  ⟨some 8, .mov (.t 33), none⟩])
 (.lv [0, 1, 5, 7, 8] (.seq (.reg none [⟨some 34, .mov (.t 5), none⟩,
  ⟨some 35, .mov (.t 8), none⟩,
  ⟨some 36, .bin .rem (.t 35) (.k (.int .i64 10)), none⟩,
  ⟨some 37, .bsl 3 1 [.t 36], none⟩,
  ⟨some 38, .app 3 1 8 (.t 34) (.t 37), none⟩,
  ⟨some 5, .mov (.t 38), none⟩])
 (.lv [0, 1, 5, 7, 8] (.reg none [⟨some 39, .mov (.t 8), none⟩,
  ⟨some 40, .bin .quo (.t 39) (.k (.int .i64 10)), none⟩,
  ⟨some 6, .mov (.t 40), none⟩]))))))
 (.lv [0, 1, 5, 6, 7] (.reg none [⟨some 23, .mov (.t 7), none⟩,
  ⟨some 24, .bin .add (.t 23) (.k (.int .i64 1)), none⟩,
  ⟨some 7, .mov (.t 24), none⟩]))))
def k79_0 : IR :=
 .seq (.reg none [⟨some 41, .mov (.t 5), none⟩,
  ⟨some 42, .callR 96 [.t 41], none⟩,
  ⟨some 4, .mov (.t 42), none⟩])
 (.ret)
def c79 : IR :=
 .seq (.reg none [⟨some 4, .mov (.k (.str ⟨#[]⟩)), none⟩])
 (.lv [0, 1] (.seq (.reg none [⟨some 5, .newnil 3 1, none⟩])
 (.lv [0, 1, 5] (.seq (.reg none [⟨some 6, .mov (.k (.int .i64 0)), none⟩])
 (.lv [0, 1, 5, 6] (.seq (.seq (.reg none [⟨some 7, .mov (.k (.int .i64 0)), none⟩])
 (.lv [0, 1, 5, 6, 7] (.block 0 (.loop [0, 1, 5, 6, 7] (some (1, [])) b79_0))))
 k79_0))))))
def i79 : IFn := ⟨2, 43, c79, [.t 4], .pure⟩

/-! 80: typeball/typeballref01.Cmp -/
def c80 : IR :=
 .seq (.reg none [⟨some 4, .mov (.k (.int .i64 0)), none⟩])
 (.lv [0, 1] (.seq (.seq (.reg none [⟨some 5, .mov (.t 0), none⟩,
  ⟨some 6, .slen (.t 5), none⟩,
  ⟨some 7, .mov (.t 1), none⟩,
  ⟨some 8, .slen (.t 7), none⟩,
  ⟨some 9, .bin .ne (.t 6) (.t 8), none⟩])
 (.lv [0, 1, 9] (.cond (.t 9) (.lv [0, 1] (.seq (.seq (.reg none [⟨some 10, .mov (.t 0), none⟩,
  ⟨some 11, .slen (.t 10), none⟩,
  ⟨some 12, .mov (.t 1), none⟩,
  ⟨some 13, .slen (.t 12), none⟩,
  ⟨some 14, .bin .lt (.t 11) (.t 13), none⟩])
 (.lv [14] (.cond (.t 14) (.lv [] (.seq (.reg none [⟨some 4, .mov (.k (.int .i64 (-1))), none⟩])
 (.ret)))
 (.skip))))
 (.lv [] (.seq (.reg none [⟨some 4, .mov (.k (.int .i64 1)), none⟩])
 (.ret)))))
 (.skip))))
 (.lv [0, 1] (.seq (.seq (.reg none [⟨some 15, .mov (.t 0), none⟩,
  ⟨some 16, .mov (.t 1), none⟩,
  ⟨some 17, .bin .eq (.t 15) (.t 16), none⟩])
 (.lv [0, 1, 17] (.cond (.t 17) (.lv [] (.seq (.reg none [⟨some 4, .mov (.k (.int .i64 0)), none⟩])
 (.ret)))
 (.skip))))
 (.lv [0, 1] (.seq (.seq (.reg none [⟨some 18, .mov (.t 0), none⟩,
  ⟨some 19, .mov (.t 1), none⟩,
  ⟨some 20, .bin .lt (.t 18) (.t 19), none⟩])
 (.lv [20] (.cond (.t 20) (.lv [] (.seq (.reg none [⟨some 4, .mov (.k (.int .i64 (-1))), none⟩])
 (.ret)))
 (.skip))))
 (.lv [] (.seq (.reg none [⟨some 4, .mov (.k (.int .i64 1)), none⟩])
 (.ret)))))))))
def i80 : IFn := ⟨2, 21, c80, [.t 4], .pure⟩

/-! 81: typeball/typeballref01.Sub -/
def b81_0 : IR :=
 .seq (.seq (.reg none [⟨some 9, .mov (.t 7), none⟩,
  ⟨some 10, .mov (.t 0), none⟩,
  ⟨some 11, .slen (.t 10), none⟩,
  ⟨some 12, .bin .lt (.t 9) (.t 11), none⟩])
 (.lv [0, 1, 5, 6, 7, 12] (.cond (.t 12) (.skip)
 (.exit 0))))
 (.lv [0, 1, 5, 6, 7] (.seq (.block 1 (.seq (.reg none [⟨some 15, .mov (.t 0), none⟩,
  ⟨some 16, .mov (.t 7), none⟩,
  ⟨some 17, .callP 95 [.t 15, .t 16], none⟩,
  ⟨some 18, .mov (.t 1), none⟩,
  ⟨some 19, .mov (.t 7), none⟩,
  ⟨some 20, .callP 95 [.t 18, .t 19], none⟩,
  ⟨some 21, .bin .sub (.t 17) (.t 20), none⟩,
  ⟨some 22, .mov (.t 6), none⟩,
  ⟨some 23, .bin .sub (.t 21) (.t 22), none⟩,
  ⟨some 8, .mov (.t 23), none⟩])
 (.lv [0, 1, 5, 7, 8] (.seq (.reg none [⟨some 6, .mov (.k (.int .i64 0)), none⟩])
 (.lv [0, 1, 5, 6, 7, 8] (.seq (.seq (.reg none [⟨some 24, .mov (.t 8), none⟩,
  ⟨some 25, .bin .lt (.t 24) (.k (.int .i64 0)), none⟩])
 (.lv [0, 1, 5, 6, 7, 8, 25] (.cond (.t 25) (.lv [0, 1, 5, 7, 8] (.seq (.reg none [⟨some 26, .mov (.t 8), none⟩,
  ⟨some 27, .bin .add (.t 26) (.k (.int .i64 10)), none⟩,
  ⟨some 8, .mov (.t 27), none⟩])
 (.lv [0, 1, 5, 7, 8] (.reg none [⟨some 6, .mov (.k (.int .i64 1)), none⟩]))))
 (.skip))))
 (.lv [0, 1, 5, 6, 7, 8] (.reg none [⟨some 28, .mov (.t 5), none⟩,
  ⟨some 29, .mov (.t 8), none⟩,
  ⟨some 30, .bsl 3 1 [.t 29], none⟩,
  ⟨some 31, .app 3 1 8 (.t 28) (.t 30), none⟩,
  ⟨some 5, .mov (.t 31), none⟩]))))))))
 (.lv [0, 1, 5, 6, 7] (.reg none [⟨some 13, .mov (.t 7), none⟩,
  ⟨some 14, .bin .add (.t 13) (.k (.int .i64 1)), none⟩,
  ⟨some 7, .mov (.t 14), none⟩]))))
def k81_0 : IR :=
 .seq (.reg none [⟨some 32, .mov (.t 5), none⟩,
  ⟨some 33, .callR 96 [.t 32], none⟩,
  ⟨some 4, .mov (.t 33), none⟩])
 (.ret)
def c81 : IR :=
 .seq (.reg none [⟨some 4, .mov (.k (.str ⟨#[]⟩)), none⟩])
 (.lv [0, 1] (.seq (.reg none [⟨some 5, .newnil 3 1, none⟩])
 (.lv [0, 1, 5] (.seq (.reg none [⟨some 6, .mov (.k (.int .i64 0)), none⟩])
 (.lv [0, 1, 5, 6] (.seq (.seq (.reg none [⟨some 7, .mov (.k (.int .i64 0)), none⟩])
 (.lv [0, 1, 5, 6, 7] (.block 0 (.loop [0, 1, 5, 6, 7] (some (1, [])) b81_0))))
 k81_0))))))
def i81 : IFn := ⟨2, 34, c81, [.t 4], .pure⟩

/-! 82: typeball/typeballref01.Mul -/
def b82_1 : IR :=
 .seq (.seq (.reg none [⟨some 23, .mov (.t 8), none⟩,
  ⟨some 24, .mov (.t 1), none⟩,
  ⟨some 25, .slen (.t 24), none⟩,
  ⟨some 26, .bin .lt (.t 23) (.t 25), none⟩,
  ⟨some 27, .mov (.t 26), none⟩,
  ⟨some 28, .mov (.t 7), (some (27, false))⟩,
  ⟨some 29, .bin .gt (.t 28) (.k (.int .i64 0)), (some (27, false))⟩,
  ⟨some 30, .pick (.t 27) (.k (.bool true)) (.t 29), none⟩])
 (.lv [0, 1, 5, 6, 7, 8, 30] (.cond (.t 30) (.skip)
 (.exit 2))))
 (.lv [0, 1, 5, 6, 7, 8] (.seq (.block 3 (.seq (.reg (some [0, 1, 2, 3, 4, 5, 6, 7, 8, 9, 10, 11, 12, 13, 14, 15, 16]) [⟨some 33, .mov (.t 5), none⟩,
  ⟨some 34, .mov (.t 6), none⟩,
  ⟨some 35, .mov (.t 8), none⟩,
  ⟨some 36, .bin .add (.t 34) (.t 35), none⟩,
  ⟨some 37, .iaddr 1 (.t 33) (.t 36), none⟩,
  ⟨some 38, .ld false 1 (.t 37), none⟩,
  ⟨some 39, .mov (.t 0), none⟩,
  ⟨some 40, .mov (.t 6), none⟩,
  ⟨some 41, .callP 95 [.t 39, .t 40], none⟩,
  ⟨some 42, .mov (.t 1), none⟩,
  ⟨some 43, .mov (.t 8), none⟩,
  ⟨some 44, .callP 95 [.t 42, .t 43], none⟩,
  ⟨some 45, .bin .mul (.t 41) (.t 44), none⟩,
  ⟨some 46, .bin .add (.t 38) (.t 45), none⟩,
  ⟨some 47, .mov (.t 7), none⟩,
  ⟨some 48, .bin .add (.t 46) (.t 47), none⟩,
  ⟨some 9, .mov (.t 48), none⟩])
 (.lv [0, 1, 5, 6, 8, 9] (.seq (.reg none [⟨some 49, .mov (.t 5), none⟩,
  ⟨some 50, .mov (.t 6), none⟩,
  ⟨some 51, .mov (.t 8), none⟩,
  ⟨some 52, .bin .add (.t 50) (.t 51), none⟩,
  ⟨some 53, .mov (.t 9), none⟩,
  ⟨some 54, .bin .rem (.t 53) (.k (.int .i64 10)), none⟩,
  ⟨some 55, .iaddr 1 (.t 49) (.t 52), none⟩,
  ⟨none, .st 1 (.t 55) (.t 54), none⟩])
 (.lv [0, 1, 5, 6, 8, 9] (.reg none [⟨some 56, .mov (.t 9), none⟩,
  ⟨some 57, .bin .quo (.t 56) (.k (.int .i64 10)), none⟩,
  ⟨some 7, .mov (.t 57), none⟩]))))))
 (.lv [0, 1, 5, 6, 7, 8] (.reg none [⟨some 31, .mov (.t 8), none⟩,
  ⟨some 32, .bin .add (.t 31) (.k (.int .i64 1)), none⟩,
  ⟨some 8, .mov (.t 32), none⟩]))))
def k82_0 : IR :=
 .reg none [⟨some 21, .mov (.t 6), none⟩,
  ⟨some 22, .bin .add (.t 21) (.k (.int .i64 1)), none⟩,
  ⟨some 6, .mov (.t 22), none⟩]
def b82_0 : IR :=
 .seq (.seq (.reg none [⟨some 17, .mov (.t 6), none⟩,
  ⟨some 18, .mov (.t 0), none⟩,
  ⟨some 19, .slen (.t 18), none⟩,
  ⟨some 20, .bin .lt (.t 17) (.t 19), none⟩])
 (.lv [0, 1, 5, 6, 20] (.cond (.t 20) (.skip)
 (.exit 0))))
 (.lv [0, 1, 5, 6] (.seq (.block 1 (.seq (.reg none [⟨some 7, .mov (.k (.int .i64 0)), none⟩])
 (.lv [0, 1, 5, 6, 7] (.seq (.reg none [⟨some 8, .mov (.k (.int .i64 0)), none⟩])
 (.lv [0, 1, 5, 6, 7, 8] (.block 2 (.loop [0, 1, 5, 6, 7, 8] (some (1, [])) b82_1)))))))
 k82_0))
def k82_1 : IR :=
 .seq (.reg none [⟨some 58, .mov (.t 5), none⟩,
  ⟨some 59, .callR 96 [.t 58], none⟩,
  ⟨some 4, .mov (.t 59), none⟩])
 (.ret)
def c82 : IR :=
 .seq (.reg none [⟨some 4, .mov (.k (.str ⟨#[]⟩)), none⟩])
 (.lv [0, 1] (.seq (.reg none [⟨some 10, .mov (.t 0), none⟩,
  ⟨some 11, .slen (.t 10), none⟩,
  ⟨some 12, .mov (.t 1), none⟩,
  ⟨some 13, .slen (.t 12), none⟩,
  ⟨some 14, .bin .add (.t 11) (.t 13), none⟩,
  ⟨some 15, .bin .add (.t 14) (.k (.int .i64 1)), none⟩,
  ⟨some 16, .mk 3 8 [.int .i64 0] (.t 15), none⟩,
  ⟨some 5, .mov (.t 16), none⟩])
 (.lv [0, 1, 5] (.seq (.seq (.reg none [⟨some 6, .mov (.k (.int .i64 0)), none⟩])
 (.lv [0, 1, 5, 6] (.block 0 (.loop [0, 1, 5, 6] (some (1, [])) b82_0))))
 k82_1))))
def i82 : IFn := ⟨2, 60, c82, [.t 4], .pure⟩

/-! 83: typeball/typeballref01.Of -/
def b83_0 : IR :=
 .seq (.seq (.reg none [⟨some 7, .mov (.t 4), none⟩,
  ⟨some 8, .bin .lt (.t 7) (.k (.int .i64 20)), none⟩,
  ⟨some 9, .mov (.t 8), none⟩,
  ⟨some 10, .mov (.t 0), (some (9, true))⟩,
  ⟨some 11, .bin .gt (.t 10) (.k (.int .u64 0)), (some (9, true))⟩,
  ⟨some 12, .pick (.t 9) (.t 11) (.k (.bool false)), none⟩])
 (.lv [0, 3, 4, 12] (.cond (.t 12) (.skip)
 (.exit 0))))
 (.lv [0, 3, 4] (.seq (.block 1 (.seq (.reg none [⟨some 15, .mov (.t 3), none⟩,
  ⟨some 16, .mov (.t 0), none⟩,
  ⟨some 17, .bin .rem (.t 16) (.k (.int .u64 10)), none⟩,
  ⟨some 18, .conv .i64 (.t 17), none⟩,
  ⟨some 19, .bsl 3 1 [.t 18], none⟩,
  ⟨some 20, .app 3 1 8 (.t 15) (.t 19), none⟩,
  ⟨some 3, .mov (.t 20), none⟩])
 (.lv [0, 3, 4] (.reg none [⟨some 21, .mov (.t 0), none⟩,
  ⟨some 22, .bin .quo (.t 21) (.k (.int .u64 10)), none⟩,
  ⟨some 0, .mov (.t 22), none⟩]))))
 (.lv [0, 3, 4] (.reg none [⟨some 13, .mov (.t 4), none⟩,
  ⟨some 14, .bin .add (.t 13) (.k (.int .i64 1)), none⟩,
  ⟨some 4, .mov (.t 14), none⟩]))))
def k83_0 : IR :=
 .seq (.reg none [⟨some 23, .mov (.t 3), none⟩,
  ⟨some 24, .callR 96 [.t 23], none⟩,
  ⟨some 2, .mov (.t 24), none⟩])
 (.ret)
def c83 : IR :=
 .seq (.reg none [⟨some 2, .mov (.k (.str ⟨#[]⟩)), none⟩])
 (.lv [0] (.seq (.seq (.reg none [⟨some 5, .mov (.t 0), none⟩,
  ⟨some 6, .bin .eq (.t 5) (.k (.int .u64 0)), none⟩])
 (.lv [0, 6] (.cond (.t 6) (.lv [] (.seq (.reg none [⟨some 2, .mov (.k (.str ⟨#[48]⟩)), none⟩])
 (.ret)))
 (.skip))))
 (.lv [0] (.seq (.reg none [⟨some 3, .newnil 3 1, none⟩])
 (.lv [0, 3] (.seq (.seq (.reg none [⟨some 4, .mov (.k (.int .i64 0)), none⟩])
 (.lv [0, 3, 4] (.block 0 (.loop [0, 3, 4] (some (1, [])) b83_0))))
 k83_0))))))
def i83 : IFn := ⟨1, 25, c83, [.t 2], .pure⟩

/-! 84: (typeball/nat.Nat).Text -/
def b84_1 : IR :=
 .seq (.seq (.reg none [⟨some 21, .mov (.t 6), none⟩,
  ⟨some 22, .bin .lt (.t 21) (.k (.int .i64 9)), none⟩,
  ⟨some 23, .mov (.t 22), none⟩,
  ⟨some 24, .mov (.t 5), (some (23, true))⟩,
  ⟨some 25, .bin .gt (.t 24) (.k (.int .u32 0)), (some (23, true))⟩,
  ⟨some 26, .mov (.t 25), (some (23, true))⟩,
  ⟨some 27, .ld true 1 (.t 4), (some (26, false))⟩,
  ⟨some 28, .callR 64 [.t 27], (some (26, false))⟩,
  ⟨some 29, .not (.t 28), (some (26, false))⟩,
  ⟨some 30, .pick (.t 26) (.k (.bool true)) (.t 29), (some (23, true))⟩,
  ⟨some 31, .pick (.t 23) (.t 30) (.k (.bool false)), none⟩])
 (.lv [1, 3, 4, 5, 6, 31] (.cond (.t 31) (.skip)
 (.exit 2))))
 (.lv [1, 3, 4, 5, 6] (.seq (.block 3 (.seq (.reg none [⟨some 34, .mov (.t 3), none⟩,
  ⟨some 35, .mov (.t 5), none⟩,
  ⟨some 36, .bin .rem (.t 35) (.k (.int .u32 10)), none⟩,
  ⟨some 37, .bin .add (.k (.int .u32 48)) (.t 36), none⟩,
  ⟨some 38, .conv .u8 (.t 37), none⟩,
  ⟨some 39, .bsl 5 1 [.t 38], none⟩,
  ⟨some 40, .app 5 1 1 (.t 34) (.t 39), none⟩,
  ⟨some 3, .mov (.t 40), none⟩])
 (.lv [1, 3, 4, 5, 6] (.reg none [⟨some 41, .mov (.t 5), none⟩,
  ⟨some 42, .bin .quo (.t 41) (.k (.int .u32 10)), none⟩,
  ⟨some 5, .mov (.t 42), none⟩]))))
 (.lv [1, 3, 4, 5, 6] (.reg none [⟨some 32, .mov (.t 6), none⟩,
  ⟨some 33, .bin .add (.t 32) (.k (.int .i64 1)), none⟩,
  ⟨some 6, .mov (.t 33), none⟩]))))
def k84_0 : IR :=
 .reg none [⟨some 43, .ld true 1 (.t 4), none⟩,
  ⟨none, .st 1 (.t 1) (.t 43), none⟩]
def b84_0 : IR :=
 .seq (.seq (.reg none [⟨some 13, .ld true 1 (.t 1), none⟩,
  ⟨some 14, .callR 64 [.t 13], none⟩,
  ⟨some 15, .not (.t 14), none⟩])
 (.lv [1, 3, 15] (.cond (.t 15) (.skip)
 (.exit 0))))
 (.lv [1, 3] (.block 1 (.seq (.reg none [⟨some 17, .ld true 1 (.t 1), none⟩,
  ⟨some 18, .callF 90 [.t 17, .k (.int .u32 1000000000)], none⟩,
  ⟨some 16, .mov (.t 18), none⟩,
  ⟨some 19, .ext (.t 16) 0, none⟩,
  ⟨some 20, .ext (.t 16) 1, none⟩,
  ⟨some 4, .alloc 58 [.nilsl 107 1], none⟩,
  ⟨none, .st 1 (.t 4) (.t 19), none⟩,
  ⟨some 5, .mov (.t 20), none⟩])
 (.lv [1, 3, 4, 5] (.seq (.seq (.reg none [⟨some 6, .mov (.k (.int .i64 0)), none⟩])
 (.lv [1, 3, 4, 5, 6] (.block 2 (.loop [1, 3, 4, 5, 6] (some (4, [])) b84_1))))
 k84_0)))))
def b84_2 : IR :=
 .seq (.seq (.reg none [⟨some 47, .mov (.t 7), none⟩,
  ⟨some 48, .mov (.t 8), none⟩,
  ⟨some 49, .bin .lt (.t 47) (.t 48), none⟩])
 (.lv [3, 7, 8, 49] (.cond (.t 49) (.skip)
 (.exit 4))))
 (.lv [3, 7, 8] (.seq (.block 5 (.reg (some [0, 1, 2, 3, 4, 5, 6, 7, 8, 9, 10, 11, 12, 13, 14, 15]) [⟨some 54, .mov (.t 3), none⟩,
  ⟨some 55, .mov (.t 7), none⟩,
  ⟨some 56, .mov (.t 3), none⟩,
  ⟨some 57, .mov (.t 8), none⟩,
  ⟨some 58, .mov (.t 3), none⟩,
  ⟨some 59, .mov (.t 8), none⟩,
  ⟨some 60, .iaddr 1 (.t 58) (.t 59), none⟩,
  ⟨some 61, .ld false 1 (.t 60), none⟩,
  ⟨some 62, .mov (.t 3), none⟩,
  ⟨some 63, .mov (.t 7), none⟩,
  ⟨some 64, .iaddr 1 (.t 62) (.t 63), none⟩,
  ⟨some 65, .ld false 1 (.t 64), none⟩,
  ⟨some 66, .iaddr 1 (.t 54) (.t 55), none⟩,
  ⟨none, .st 1 (.t 66) (.t 61), none⟩,
  ⟨some 67, .iaddr 1 (.t 56) (.t 57), none⟩,
  ⟨none, .st 1 (.t 67) (.t 65), none⟩]))
 (.lv [3, 7, 8] (.reg none [⟨some 50, .mov (.t 7), none⟩,
  ⟨some 51, .bin .add (.t 50) (.k (.int .i64 1)), none⟩,
  ⟨some 52, .mov (.t 8), none⟩,
  ⟨some 53, .bin .sub (.t 52) (.k (.int .i64 1)), none⟩,
  ⟨some 7, .mov (.t 51), none⟩,
  ⟨some 8, .mov (.t 53), none⟩]))))
def k84_1 : IR :=
 .seq (.reg none [⟨some 68, .mov (.t 3), none⟩,
  ⟨some 69, .b2s (.t 68), none⟩,
  ⟨some 2, .mov (.t 69), none⟩])
 (.ret)
def k84_2 : IR :=
 .seq (.seq (.reg none [⟨some 44, .mov (.t 3), none⟩,
  ⟨some 45, .len (.t 44), none⟩,
  ⟨some 46, .bin .sub (.t 45) (.k (.int .i64 1)), none⟩,
  ⟨some 7, .mov (.k (.int .i64 0)), none⟩,
  ⟨some 8, .mov (.t 46), none⟩])
 (.lv [3, 7, 8] (.block 4 (.loop [3, 7, 8] (some (2, [])) b84_2))))
 k84_1
def c84 : IR :=
 .seq (.reg none [⟨some 1, .box 58 1 (.t 0), none⟩,
  ⟨some 2, .mov (.k (.str ⟨#[]⟩)), none⟩])
 (.lv [1] (.seq (.seq (.reg none [⟨some 9, .faddr 0 (.t 1), none⟩,
  ⟨some 10, .ld false 1 (.t 9), none⟩,
  ⟨some 11, .len (.t 10), none⟩,
  ⟨some 12, .bin .eq (.t 11) (.k (.int .i64 0)), none⟩])
 (.lv [1, 12] (.cond (.t 12) (.lv [] (.seq (.reg none [⟨some 2, .mov (.k (.str ⟨#[48]⟩)), none⟩])
 (.ret)))
 (.skip))))
 (.lv [1] (.seq (.reg none [⟨some 3, .newnil 5 1, none⟩])
 (.lv [1, 3] (.seq (.block 0 (.loop [1, 3] (some (2, [])) b84_0))
 k84_2))))))
def i84 : IFn := ⟨1, 70, c84, [.t 2], .pure⟩

/-! 85: typeball/typeballref01.Right -/
def b85_0 : IR :=
 .seq (.seq (.reg none [⟨some 4, .mov (.t 3), none⟩,
  ⟨some 5, .mov (.t 0), none⟩,
  ⟨some 6, .slen (.t 5), none⟩,
  ⟨some 7, .bin .lt (.t 4) (.t 6), none⟩,
  ⟨some 8, .mov (.t 7), none⟩,
  ⟨some 9, .mov (.t 3), (some (8, true))⟩,
  ⟨some 10, .bin .le (.t 9) (.k (.int .i64 2000)), (some (8, true))⟩,
  ⟨some 11, .pick (.t 8) (.t 10) (.k (.bool false)), none⟩])
 (.lv [0, 3, 11] (.cond (.t 11) (.skip)
 (.exit 0))))
 (.lv [0, 3] (.seq (.block 1 (.seq (.reg none [⟨some 14, .mov (.t 0), none⟩,
  ⟨some 15, .mov (.t 3), none⟩,
  ⟨some 16, .sidx (.t 14) (.t 15), none⟩,
  ⟨some 17, .bin .lt (.t 16) (.k (.int .u8 48)), none⟩,
  ⟨some 18, .mov (.t 17), none⟩,
  ⟨some 19, .mov (.t 0), (some (18, false))⟩,
  ⟨some 20, .mov (.t 3), (some (18, false))⟩,
  ⟨some 21, .sidx (.t 19) (.t 20), (some (18, false))⟩,
  ⟨some 22, .bin .gt (.t 21) (.k (.int .u8 57)), (some (18, false))⟩,
  ⟨some 23, .pick (.t 18) (.k (.bool true)) (.t 22), none⟩])
 (.lv [0, 3, 23] (.cond (.t 23) (.lv [] (.seq (.reg none [⟨some 2, .mov (.k (.bool false)), none⟩])
 (.ret)))
 (.skip)))))
 (.lv [0, 3] (.reg none [⟨some 12, .mov (.t 3), none⟩,
  ⟨some 13, .bin .add (.t 12) (.k (.int .i64 1)), none⟩,
  ⟨some 3, .mov (.t 13), none⟩]))))
def k85_0 : IR :=
 .seq (.reg none [⟨some 24, .mov (.t 0), none⟩,
  ⟨some 25, .slen (.t 24), none⟩,
  ⟨some 26, .bin .ge (.t 25) (.k (.int .i64 1)), none⟩,
  ⟨some 27, .mov (.t 26), none⟩,
  ⟨some 28, .mov (.t 0), (some (27, true))⟩,
  ⟨some 29, .slen (.t 28), (some (27, true))⟩,
  ⟨some 30, .bin .le (.t 29) (.k (.int .i64 2000)), (some (27, true))⟩,
  ⟨some 31, .pick (.t 27) (.t 30) (.k (.bool false)), none⟩,
  ⟨some 2, .mov (.t 31), none⟩])
 (.ret)
def c85 : IR :=
 .seq (.reg none [⟨some 2, .mov (.k (.bool false)), none⟩])
 (.lv [0] (.seq (.seq (.reg none [⟨some 3, .mov (.k (.int .i64 0)), none⟩])
 (.lv [0, 3] (.block 0 (.loop [0, 3] (some (0, [])) b85_0))))
 k85_0))
def i85 : IFn := ⟨1, 32, c85, [.t 2], .pure⟩

/-! 86: typeball/typeballref01.Trim -/
def b86_0 : IR :=
 .seq (.seq (.reg none [⟨some 3, .mov (.t 0), none⟩,
  ⟨some 4, .slen (.t 3), none⟩,
  ⟨some 5, .bin .gt (.t 4) (.k (.int .i64 1)), none⟩,
  ⟨some 6, .mov (.t 5), none⟩,
  ⟨some 7, .mov (.t 0), (some (6, true))⟩,
  ⟨some 8, .sidx (.t 7) (.k (.int .i64 0)), (some (6, true))⟩,
  ⟨some 9, .bin .eq (.t 8) (.k (.int .u8 48)), (some (6, true))⟩,
  ⟨some 10, .pick (.t 6) (.t 9) (.k (.bool false)), none⟩])
 (.lv [0, 10] (.cond (.t 10) (.skip)
 (.exit 0))))
 (.lv [0] (.block 1 (.reg none [⟨some 11, .mov (.t 0), none⟩,
  ⟨some 12, .scut (.t 11) (some (.k (.int .i64 1))) none, none⟩,
  ⟨some 0, .mov (.t 12), none⟩])))
def k86_0 : IR :=
 .seq (.reg none [⟨some 13, .mov (.t 0), none⟩,
  ⟨some 2, .mov (.t 13), none⟩])
 (.ret)
def c86 : IR :=
 .seq (.reg none [⟨some 2, .mov (.k (.str ⟨#[]⟩)), none⟩])
 (.lv [0] (.seq (.block 0 (.loop [0] (some (0, [])) b86_0))
 k86_0))
def i86 : IFn := ⟨1, 14, c86, [.t 2], .pure⟩

/-! 87: (typeball/nat.Nat).One -/
def c87 : IR :=
 .seq (.reg none [⟨some 1, .box 58 1 (.t 0), none⟩,
  ⟨some 2, .mov (.k (.bool false)), none⟩])
 (.lv [1] (.seq (.reg none [⟨some 3, .faddr 0 (.t 1), none⟩,
  ⟨some 4, .ld false 1 (.t 3), none⟩,
  ⟨some 5, .lenf (.t 4), none⟩,
  ⟨some 6, .bin .eq (.t 5) (.k (.int .i64 1)), none⟩,
  ⟨some 7, .mov (.t 6), none⟩,
  ⟨some 8, .faddr 0 (.t 1), (some (7, true))⟩,
  ⟨some 9, .ld false 1 (.t 8), (some (7, true))⟩,
  ⟨some 10, .iaddrf 1 (.t 9) (.k (.int .i64 0)), (some (7, true))⟩,
  ⟨some 11, .ldf false 1 (.t 10), (some (7, true))⟩,
  ⟨some 12, .bin .eq (.t 11) (.k (.int .u32 1)), (some (7, true))⟩,
  ⟨some 13, .pick (.t 7) (.t 12) (.k (.bool false)), none⟩,
  ⟨some 2, .mov (.t 13), none⟩])
 (.ret)))
def i87 : IFn := ⟨1, 14, c87, [.t 2], .pure⟩

/-! 88: (typeball/nat.Nat).Uint -/
def c88 : IR :=
 .seq (.reg none [⟨some 1, .box 58 1 (.t 0), none⟩,
  ⟨some 2, .mov (.k (.int .u64 0)), none⟩,
  ⟨some 3, .mov (.k (.bool false)), none⟩])
 (.lv [1] (.seq (.seq (.reg none [⟨some 4, .faddr 0 (.t 1), none⟩,
  ⟨some 5, .ld false 1 (.t 4), none⟩,
  ⟨some 6, .lenf (.t 5), none⟩])
 (.lv [1, 6] (.block 0 (.seq (.reg none [⟨some 8, .bin .eq (.t 6) (.k (.int .i64 0)), none⟩,
  ⟨some 7, .mov (.t 8), none⟩])
 (.lv [1, 6, 7] (.cond (.t 7) (.lv [] (.seq (.reg none [⟨some 2, .mov (.k (.int .u64 0)), none⟩,
  ⟨some 3, .mov (.k (.bool true)), none⟩])
 (.ret)))
 (.lv [1, 6] (.seq (.reg none [⟨some 10, .bin .eq (.t 6) (.k (.int .i64 1)), none⟩,
  ⟨some 9, .mov (.t 10), none⟩])
 (.lv [1, 6, 9] (.cond (.t 9) (.lv [1] (.seq (.reg none [⟨some 11, .faddr 0 (.t 1), none⟩,
  ⟨some 12, .ld false 1 (.t 11), none⟩,
  ⟨some 13, .iaddrf 1 (.t 12) (.k (.int .i64 0)), none⟩,
  ⟨some 14, .ldf false 1 (.t 13), none⟩,
  ⟨some 15, .conv .u64 (.t 14), none⟩,
  ⟨some 2, .mov (.t 15), none⟩,
  ⟨some 3, .mov (.k (.bool true)), none⟩])
 (.ret)))
 (.lv [1, 6] (.seq (.reg none [⟨some 17, .bin .eq (.t 6) (.k (.int .i64 2)), none⟩,
  ⟨some 16, .mov (.t 17), none⟩])
 (.lv [1, 16] (.cond (.t 16) (.lv [1] (.seq (.reg (some [0, 1, 2, 3, 4, 5, 6, 7, 8, 9, 10, 11, 12, 13]) [⟨some 18, .faddr 0 (.t 1), none⟩,
  ⟨some 19, .ld false 1 (.t 18), none⟩,
  ⟨some 20, .iaddrf 1 (.t 19) (.k (.int .i64 0)), none⟩,
  ⟨some 21, .ldf false 1 (.t 20), none⟩,
  ⟨some 22, .conv .u64 (.t 21), none⟩,
  ⟨some 23, .faddr 0 (.t 1), none⟩,
  ⟨some 24, .ld false 1 (.t 23), none⟩,
  ⟨some 25, .iaddrf 1 (.t 24) (.k (.int .i64 1)), none⟩,
  ⟨some 26, .ldf false 1 (.t 25), none⟩,
  ⟨some 27, .conv .u64 (.t 26), none⟩,
  ⟨some 28, .bin .shl (.t 27) (.k (.int .u64 32)), none⟩,
  ⟨some 29, .bin .or (.t 22) (.t 28), none⟩,
  ⟨some 2, .mov (.t 29), none⟩,
  ⟨some 3, .mov (.k (.bool true)), none⟩])
 (.ret)))
 (.skip)))))))))))))))
 (.lv [] (.seq (.reg none [⟨some 2, .mov (.k (.int .u64 0)), none⟩,
  ⟨some 3, .mov (.k (.bool false)), none⟩])
 (.ret)))))
def i88 : IFn := ⟨1, 30, c88, [.t 2, .t 3], .pure⟩

/-! 89: (typeball/nat.Nat).Cmp -/
def b89_0 : IR :=
 .seq (.seq (.reg none [⟨some 24, .mov (.t 5), none⟩,
  ⟨some 25, .bin .ge (.t 24) (.k (.int .i64 0)), none⟩])
 (.lv [2, 3, 5, 25] (.cond (.t 25) (.skip)
 (.exit 0))))
 (.lv [2, 3, 5] (.seq (.block 1 (.seq (.reg (some [0, 1, 2, 3, 4, 5, 6, 7, 8, 9, 10]) [⟨some 28, .faddr 0 (.t 2), none⟩,
  ⟨some 29, .ld false 1 (.t 28), none⟩,
  ⟨some 30, .mov (.t 5), none⟩,
  ⟨some 31, .iaddrf 1 (.t 29) (.t 30), none⟩,
  ⟨some 32, .ldf false 1 (.t 31), none⟩,
  ⟨some 33, .faddr 0 (.t 3), none⟩,
  ⟨some 34, .ld false 1 (.t 33), none⟩,
  ⟨some 35, .mov (.t 5), none⟩,
  ⟨some 36, .iaddrf 1 (.t 34) (.t 35), none⟩,
  ⟨some 37, .ldf false 1 (.t 36), none⟩,
  ⟨some 38, .bin .ne (.t 32) (.t 37), none⟩])
 (.lv [2, 3, 5, 38] (.cond (.t 38) (.lv [2, 3, 5] (.seq (.seq (.reg (some [0, 1, 2, 3, 4, 5, 6, 7, 8, 9, 10]) [⟨some 39, .faddr 0 (.t 2), none⟩,
  ⟨some 40, .ld false 1 (.t 39), none⟩,
  ⟨some 41, .mov (.t 5), none⟩,
  ⟨some 42, .iaddrf 1 (.t 40) (.t 41), none⟩,
  ⟨some 43, .ldf false 1 (.t 42), none⟩,
  ⟨some 44, .faddr 0 (.t 3), none⟩,
  ⟨some 45, .ld false 1 (.t 44), none⟩,
  ⟨some 46, .mov (.t 5), none⟩,
  ⟨some 47, .iaddrf 1 (.t 45) (.t 46), none⟩,
  ⟨some 48, .ldf false 1 (.t 47), none⟩,
  ⟨some 49, .bin .lt (.t 43) (.t 48), none⟩])
 (.lv [49] (.cond (.t 49) (.lv [] (.seq (.reg none [⟨some 4, .mov (.k (.int .i64 (-1))), none⟩])
 (.ret)))
 (.skip))))
 (.lv [] (.seq (.reg none [⟨some 4, .mov (.k (.int .i64 1)), none⟩])
 (.ret)))))
 (.skip)))))
 (.lv [2, 3, 5] (.reg none [⟨some 26, .mov (.t 5), none⟩,
  ⟨some 27, .bin .sub (.t 26) (.k (.int .i64 1)), none⟩,
  ⟨some 5, .mov (.t 27), none⟩]))))
def k89_0 : IR :=
 .seq (.reg none [⟨some 4, .mov (.k (.int .i64 0)), none⟩])
 (.ret)
def c89 : IR :=
 .seq (.reg none [⟨some 2, .box 58 1 (.t 0), none⟩,
  ⟨some 3, .box 58 1 (.t 1), none⟩,
  ⟨some 4, .mov (.k (.int .i64 0)), none⟩])
 (.lv [2, 3] (.seq (.seq (.reg none [⟨some 6, .faddr 0 (.t 2), none⟩,
  ⟨some 7, .ld false 1 (.t 6), none⟩,
  ⟨some 8, .lenf (.t 7), none⟩,
  ⟨some 9, .faddr 0 (.t 3), none⟩,
  ⟨some 10, .ld false 1 (.t 9), none⟩,
  ⟨some 11, .lenf (.t 10), none⟩,
  ⟨some 12, .bin .ne (.t 8) (.t 11), none⟩])
 (.lv [2, 3, 12] (.cond (.t 12) (.lv [2, 3] (.seq (.seq (.reg none [⟨some 13, .faddr 0 (.t 2), none⟩,
  ⟨some 14, .ld false 1 (.t 13), none⟩,
  ⟨some 15, .lenf (.t 14), none⟩,
  ⟨some 16, .faddr 0 (.t 3), none⟩,
  ⟨some 17, .ld false 1 (.t 16), none⟩,
  ⟨some 18, .lenf (.t 17), none⟩,
  ⟨some 19, .bin .lt (.t 15) (.t 18), none⟩])
 (.lv [19] (.cond (.t 19) (.lv [] (.seq (.reg none [⟨some 4, .mov (.k (.int .i64 (-1))), none⟩])
 (.ret)))
 (.skip))))
 (.lv [] (.seq (.reg none [⟨some 4, .mov (.k (.int .i64 1)), none⟩])
 (.ret)))))
 (.skip))))
 (.lv [2, 3] (.seq (.seq (.reg none [⟨some 20, .faddr 0 (.t 2), none⟩,
  ⟨some 21, .ld false 1 (.t 20), none⟩,
  ⟨some 22, .lenf (.t 21), none⟩,
  ⟨some 23, .bin .sub (.t 22) (.k (.int .i64 1)), none⟩,
  ⟨some 5, .mov (.t 23), none⟩])
 (.lv [2, 3, 5] (.block 0 (.loop [2, 3, 5] (some (2, [])) b89_0))))
 k89_0))))
def i89 : IFn := ⟨2, 50, c89, [.t 4], .pure⟩

/-! 90: (typeball/nat.Nat).small -/
def b90_0 : IR :=
 .seq (.seq (.reg none [⟨some 18, .mov (.t 8), none⟩,
  ⟨some 19, .bin .ge (.t 18) (.k (.int .i64 0)), none⟩])
 (.lv [1, 2, 4, 6, 7, 8, 19] (.cond (.t 19) (.skip)
 (.exit 0))))
 (.lv [1, 2, 4, 6, 7, 8] (.seq (.block 1 (.seq (.reg none [⟨some 22, .mov (.t 7), none⟩,
  ⟨some 23, .bin .shl (.t 22) (.k (.int .u64 32)), none⟩,
  ⟨some 24, .faddr 0 (.t 2), none⟩,
  ⟨some 25, .ld false 1 (.t 24), none⟩,
  ⟨some 26, .mov (.t 8), none⟩,
  ⟨some 27, .iaddrf 1 (.t 25) (.t 26), none⟩,
  ⟨some 28, .ldf false 1 (.t 27), none⟩,
  ⟨some 29, .conv .u64 (.t 28), none⟩,
  ⟨some 30, .bin .or (.t 23) (.t 29), none⟩,
  ⟨some 9, .mov (.t 30), none⟩])
 (.lv [1, 2, 4, 6, 8, 9] (.reg (some [0, 1, 2, 3, 4, 5, 6, 7, 8, 9, 10, 11, 12, 13]) [⟨some 31, .mov (.t 6), none⟩,
  ⟨some 32, .mov (.t 8), none⟩,
  ⟨some 33, .mov (.t 9), none⟩,
  ⟨some 34, .mov (.t 1), none⟩,
  ⟨some 35, .conv .u64 (.t 34), none⟩,
  ⟨some 36, .bin .quo (.t 33) (.t 35), none⟩,
  ⟨some 37, .conv .u32 (.t 36), none⟩,
  ⟨some 38, .mov (.t 9), none⟩,
  ⟨some 39, .mov (.t 1), none⟩,
  ⟨some 40, .conv .u64 (.t 39), none⟩,
  ⟨some 41, .bin .rem (.t 38) (.t 40), none⟩,
  ⟨some 42, .iaddr 1 (.t 31) (.t 32), none⟩,
  ⟨none, .st 1 (.t 42) (.t 37), none⟩,
  ⟨some 7, .mov (.t 41), none⟩]))))
 (.lv [1, 2, 4, 6, 7, 8] (.reg none [⟨some 20, .mov (.t 8), none⟩,
  ⟨some 21, .bin .sub (.t 20) (.k (.int .i64 1)), none⟩,
  ⟨some 8, .mov (.t 21), none⟩]))))
def k90_0 : IR :=
 .seq (.reg none [⟨some 43, .mov (.t 6), none⟩,
  ⟨some 44, .callF 63 [.t 43], none⟩,
  ⟨some 45, .mov (.t 7), none⟩,
  ⟨some 46, .conv .u32 (.t 45), none⟩,
  ⟨none, .st 1 (.t 4) (.t 44), none⟩,
  ⟨some 5, .mov (.t 46), none⟩])
 (.ret)
def c90 : IR :=
 .seq (.reg none [⟨some 2, .box 58 1 (.t 0), none⟩,
  ⟨some 4, .alloc 58 [.nilsl 107 1], none⟩,
  ⟨some 5, .mov (.k (.int .u32 0)), none⟩])
 (.lv [1, 2, 4] (.seq (.reg none [⟨some 10, .faddr 0 (.t 2), none⟩,
  ⟨some 11, .ld false 1 (.t 10), none⟩,
  ⟨some 12, .lenf (.t 11), none⟩,
  ⟨some 13, .mk 107 4 [.int .u32 0] (.t 12), none⟩,
  ⟨some 6, .mov (.t 13), none⟩])
 (.lv [1, 2, 4, 6] (.seq (.reg none [⟨some 7, .mov (.k (.int .u64 0)), none⟩])
 (.lv [1, 2, 4, 6, 7] (.seq (.seq (.reg none [⟨some 14, .faddr 0 (.t 2), none⟩,
  ⟨some 15, .ld false 1 (.t 14), none⟩,
  ⟨some 16, .lenf (.t 15), none⟩,
  ⟨some 17, .bin .sub (.t 16) (.k (.int .i64 1)), none⟩,
  ⟨some 8, .mov (.t 17), none⟩])
 (.lv [1, 2, 4, 6, 7, 8] (.block 0 (.loop [1, 2, 4, 6, 7, 8] (some (4, [])) b90_0))))
 k90_0))))))
def i90 : IFn := ⟨2, 47, c90, [.c 4 true 1, .t 5], .pure⟩

/-! 91: typeball/nat.long -/
def b91_1 : IR :=
 .seq (.seq (.reg none [⟨some 94, .mov (.t 16), none⟩,
  ⟨some 95, .bin .ge (.t 94) (.k (.int .u64 4294967296)), none⟩,
  ⟨some 96, .mov (.t 95), none⟩,
  ⟨some 97, .mov (.t 16), (some (96, false))⟩,
  ⟨some 98, .mov (.t 13), (some (96, false))⟩,
  ⟨some 99, .bin .mul (.t 97) (.t 98), (some (96, false))⟩,
  ⟨some 100, .mov (.t 17), (some (96, false))⟩,
  ⟨some 101, .bin .shl (.t 100) (.k (.int .u64 32)), (some (96, false))⟩,
  ⟨some 102, .mov (.t 8), (some (96, false))⟩,
  ⟨some 103, .mov (.t 14), (some (96, false))⟩,
  ⟨some 104, .mov (.t 9), (some (96, false))⟩,
  ⟨some 105, .bin .add (.t 103) (.t 104), (some (96, false))⟩,
  ⟨some 106, .bin .sub (.t 105) (.k (.int .i64 2)), (some (96, false))⟩,
  ⟨some 107, .iaddr 1 (.t 102) (.t 106), (some (96, false))⟩,
  ⟨some 108, .ld false 1 (.t 107), (some (96, false))⟩,
  ⟨some 109, .conv .u64 (.t 108), (some (96, false))⟩,
  ⟨some 110, .bin .or (.t 101) (.t 109), (some (96, false))⟩,
  ⟨some 111, .bin .gt (.t 99) (.t 110), (some (96, false))⟩,
  ⟨some 112, .pick (.t 96) (.k (.bool true)) (.t 111), none⟩])
 (.lv [4, 5, 6, 7, 8, 9, 11, 12, 13, 14, 16, 17, 112] (.cond (.t 112) (.skip)
 (.exit 2))))
 (.lv [4, 5, 6, 7, 8, 9, 11, 12, 13, 14, 16, 17] (.block 3 (.seq (.reg none [⟨some 113, .mov (.t 16), none⟩,
  ⟨some 114, .bin .sub (.t 113) (.k (.int .u64 1)), none⟩,
  ⟨some 16, .mov (.t 114), none⟩])
 (.lv [4, 5, 6, 7, 8, 9, 11, 12, 13, 14, 16, 17] (.seq (.reg none [⟨some 115, .mov (.t 17), none⟩,
  ⟨some 116, .mov (.t 12), none⟩,
  ⟨some 117, .bin .add (.t 115) (.t 116), none⟩,
  ⟨some 17, .mov (.t 117), none⟩])
 (.lv [4, 5, 6, 7, 8, 9, 11, 12, 13, 14, 16, 17] (.seq (.reg none [⟨some 118, .mov (.t 17), none⟩,
  ⟨some 119, .bin .ge (.t 118) (.k (.int .u64 4294967296)), none⟩])
 (.lv [4, 5, 6, 7, 8, 9, 11, 12, 13, 14, 16, 17, 119] (.cond (.t 119) (.exit 2)
 (.skip))))))))))
def k91_0 : IR :=
 .seq (.seq (.reg none [⟨some 120, .mov (.t 8), none⟩,
  ⟨some 121, .mov (.t 14), none⟩,
  ⟨some 122, .mov (.t 14), none⟩,
  ⟨some 123, .mov (.t 9), none⟩,
  ⟨some 124, .bin .add (.t 122) (.t 123), none⟩,
  ⟨some 125, .bin .add (.t 124) (.k (.int .i64 1)), none⟩,
  ⟨some 126, .cut 1 (.t 120) (some (.t 121)) (some (.t 125)), none⟩,
  ⟨some 127, .mov (.t 7), none⟩,
  ⟨some 128, .mov (.t 16), none⟩,
  ⟨some 129, .callM 99 [.t 126, .t 127, .t 128], none⟩])
 (.lv [4, 5, 6, 7, 8, 9, 11, 12, 13, 14, 16, 129] (.cond (.t 129) (.lv [4, 5, 6, 7, 8, 9, 11, 12, 13, 14, 16] (.seq (.reg none [⟨some 130, .mov (.t 16), none⟩,
  ⟨some 131, .bin .sub (.t 130) (.k (.int .u64 1)), none⟩,
  ⟨some 16, .mov (.t 131), none⟩])
 (.lv [4, 5, 6, 7, 8, 9, 11, 12, 13, 14, 16] (.reg none [⟨some 132, .mov (.t 8), none⟩,
  ⟨some 133, .mov (.t 14), none⟩,
  ⟨some 134, .mov (.t 14), none⟩,
  ⟨some 135, .mov (.t 9), none⟩,
  ⟨some 136, .bin .add (.t 134) (.t 135), none⟩,
  ⟨some 137, .bin .add (.t 136) (.k (.int .i64 1)), none⟩,
  ⟨some 138, .cut 1 (.t 132) (some (.t 133)) (some (.t 137)), none⟩,
  ⟨some 139, .mov (.t 7), none⟩,
  ⟨some 140, .callM 100 [.t 138, .t 139], none⟩]))))
 (.skip))))
 (.lv [4, 5, 6, 7, 8, 9, 11, 12, 13, 14, 16] (.reg none [⟨some 141, .mov (.t 11), none⟩,
  ⟨some 142, .mov (.t 14), none⟩,
  ⟨some 143, .mov (.t 16), none⟩,
  ⟨some 144, .conv .u32 (.t 143), none⟩,
  ⟨some 145, .iaddr 1 (.t 141) (.t 142), none⟩,
  ⟨none, .st 1 (.t 145) (.t 144), none⟩]))
def k91_1 : IR :=
 .reg none [⟨some 69, .mov (.t 14), none⟩,
  ⟨some 70, .bin .sub (.t 69) (.k (.int .i64 1)), none⟩,
  ⟨some 14, .mov (.t 70), none⟩]
def b91_0 : IR :=
 .seq (.seq (.reg none [⟨some 67, .mov (.t 14), none⟩,
  ⟨some 68, .bin .ge (.t 67) (.k (.int .i64 0)), none⟩])
 (.lv [4, 5, 6, 7, 8, 9, 11, 12, 13, 14, 68] (.cond (.t 68) (.skip)
 (.exit 0))))
 (.lv [4, 5, 6, 7, 8, 9, 11, 12, 13, 14] (.seq (.block 1 (.seq (.reg (some [0, 1, 2, 3, 4, 5, 6, 7, 8, 9, 10, 11, 12, 13, 14, 15, 16, 17]) [⟨some 71, .mov (.t 8), none⟩,
  ⟨some 72, .mov (.t 14), none⟩,
  ⟨some 73, .mov (.t 9), none⟩,
  ⟨some 74, .bin .add (.t 72) (.t 73), none⟩,
  ⟨some 75, .iaddr 1 (.t 71) (.t 74), none⟩,
  ⟨some 76, .ld false 1 (.t 75), none⟩,
  ⟨some 77, .conv .u64 (.t 76), none⟩,
  ⟨some 78, .bin .shl (.t 77) (.k (.int .u64 32)), none⟩,
  ⟨some 79, .mov (.t 8), none⟩,
  ⟨some 80, .mov (.t 14), none⟩,
  ⟨some 81, .mov (.t 9), none⟩,
  ⟨some 82, .bin .add (.t 80) (.t 81), none⟩,
  ⟨some 83, .bin .sub (.t 82) (.k (.int .i64 1)), none⟩,
  ⟨some 84, .iaddr 1 (.t 79) (.t 83), none⟩,
  ⟨some 85, .ld false 1 (.t 84), none⟩,
  ⟨some 86, .conv .u64 (.t 85), none⟩,
  ⟨some 87, .bin .or (.t 78) (.t 86), none⟩,
  ⟨some 15, .mov (.t 87), none⟩])
 (.lv [4, 5, 6, 7, 8, 9, 11, 12, 13, 14, 15] (.seq (.reg (some [0, 1, 2, 3, 4, 5, 6, 7]) [⟨some 88, .mov (.t 15), none⟩,
  ⟨some 89, .mov (.t 12), none⟩,
  ⟨some 90, .bin .quo (.t 88) (.t 89), none⟩,
  ⟨some 91, .mov (.t 15), none⟩,
  ⟨some 92, .mov (.t 12), none⟩,
  ⟨some 93, .bin .rem (.t 91) (.t 92), none⟩,
  ⟨some 16, .mov (.t 90), none⟩,
  ⟨some 17, .mov (.t 93), none⟩])
 (.lv [4, 5, 6, 7, 8, 9, 11, 12, 13, 14, 16, 17] (.seq (.block 2 (.loop [4, 5, 6, 7, 8, 9, 11, 12, 13, 14, 16, 17] (some (8, [])) b91_1))
 k91_0))))))
 k91_1))
def k91_2 : IR :=
 .seq (.reg none [⟨some 146, .mov (.t 11), none⟩,
  ⟨some 147, .callF 63 [.t 146], none⟩,
  ⟨some 148, .mov (.t 8), none⟩,
  ⟨some 149, .callF 63 [.t 148], none⟩,
  ⟨some 150, .mov (.t 6), none⟩,
  ⟨some 151, .callP 101 [.t 149, .t 150], none⟩,
  ⟨none, .st 1 (.t 4) (.t 147), none⟩,
  ⟨none, .st 1 (.t 5) (.t 151), none⟩])
 (.ret)
def c91 : IR :=
 .seq (.reg none [⟨some 2, .box 58 1 (.t 0), none⟩,
  ⟨some 3, .box 58 1 (.t 1), none⟩,
  ⟨some 4, .alloc 58 [.nilsl 107 1], none⟩,
  ⟨some 5, .alloc 58 [.nilsl 107 1], none⟩])
 (.lv [2, 3, 4, 5] (.seq (.reg none [⟨some 18, .faddr 0 (.t 3), none⟩,
  ⟨some 19, .ld false 1 (.t 18), none⟩,
  ⟨some 20, .faddr 0 (.t 3), none⟩,
  ⟨some 21, .ld false 1 (.t 20), none⟩,
  ⟨some 22, .lenf (.t 21), none⟩,
  ⟨some 23, .bin .sub (.t 22) (.k (.int .i64 1)), none⟩,
  ⟨some 24, .iaddrf 1 (.t 19) (.t 23), none⟩,
  ⟨some 25, .ldf false 1 (.t 24), none⟩,
  ⟨some 26, .callP 97 [.t 25], none⟩,
  ⟨some 6, .mov (.t 26), none⟩])
 (.lv [2, 3, 4, 5, 6] (.seq (.reg none [⟨some 27, .ld true 1 (.t 3), none⟩,
  ⟨some 28, .mov (.t 6), none⟩,
  ⟨some 29, .callP 98 [.t 27, .t 28], none⟩,
  ⟨some 30, .fld false 0 1 (.t 29), none⟩,
  ⟨some 7, .mov (.t 30), none⟩])
 (.lv [2, 3, 4, 5, 6, 7] (.seq (.reg none [⟨some 31, .faddr 0 (.t 2), none⟩,
  ⟨some 32, .ld false 1 (.t 31), none⟩,
  ⟨some 33, .lenf (.t 32), none⟩,
  ⟨some 34, .bin .add (.t 33) (.k (.int .i64 1)), none⟩,
  ⟨some 35, .mk 107 4 [.int .u32 0] (.t 34), none⟩,
  ⟨some 8, .mov (.t 35), none⟩])
 (.lv [2, 3, 4, 5, 6, 7, 8] (.seq (.reg none [⟨some 36, .mov (.t 8), none⟩,
  ⟨some 37, .ld true 1 (.t 2), none⟩,
  ⟨some 38, .mov (.t 6), none⟩,
  ⟨some 39, .callP 98 [.t 37, .t 38], none⟩,
  ⟨some 40, .fld false 0 1 (.t 39), none⟩,
  ⟨some 41, .cpy 1 (.t 36) (.t 40), none⟩])
 (.lv [2, 3, 4, 5, 6, 7, 8] (.seq (.reg (some [0, 1, 2, 3, 4, 5, 6, 7, 8, 9, 10]) [⟨some 42, .mov (.t 7), none⟩,
  ⟨some 43, .lenf (.t 42), none⟩,
  ⟨some 44, .faddr 0 (.t 2), none⟩,
  ⟨some 45, .ld false 1 (.t 44), none⟩,
  ⟨some 46, .lenf (.t 45), none⟩,
  ⟨some 47, .faddr 0 (.t 3), none⟩,
  ⟨some 48, .ld false 1 (.t 47), none⟩,
  ⟨some 49, .lenf (.t 48), none⟩,
  ⟨some 50, .bin .sub (.t 46) (.t 49), none⟩,
  ⟨some 9, .mov (.t 43), none⟩,
  ⟨some 10, .mov (.t 50), none⟩])
 (.lv [4, 5, 6, 7, 8, 9, 10] (.seq (.reg none [⟨some 51, .mov (.t 10), none⟩,
  ⟨some 52, .bin .add (.t 51) (.k (.int .i64 1)), none⟩,
  ⟨some 53, .mk 107 4 [.int .u32 0] (.t 52), none⟩,
  ⟨some 11, .mov (.t 53), none⟩])
 (.lv [4, 5, 6, 7, 8, 9, 10, 11] (.seq (.reg (some [0, 1, 2, 3, 4, 5, 6, 7, 8, 9, 10, 11, 12, 13]) [⟨some 54, .mov (.t 7), none⟩,
  ⟨some 55, .mov (.t 9), none⟩,
  ⟨some 56, .bin .sub (.t 55) (.k (.int .i64 1)), none⟩,
  ⟨some 57, .iaddrf 1 (.t 54) (.t 56), none⟩,
  ⟨some 58, .ldf false 1 (.t 57), none⟩,
  ⟨some 59, .conv .u64 (.t 58), none⟩,
  ⟨some 60, .mov (.t 7), none⟩,
  ⟨some 61, .mov (.t 9), none⟩,
  ⟨some 62, .bin .sub (.t 61) (.k (.int .i64 2)), none⟩,
  ⟨some 63, .iaddrf 1 (.t 60) (.t 62), none⟩,
  ⟨some 64, .ldf false 1 (.t 63), none⟩,
  ⟨some 65, .conv .u64 (.t 64), none⟩,
  ⟨some 12, .mov (.t 59), none⟩,
  ⟨some 13, .mov (.t 65), none⟩])
 (.lv [4, 5, 6, 7, 8, 9, 10, 11, 12, 13] (.seq (.seq (.reg none [⟨some 66, .mov (.t 10), none⟩,
  ⟨some 14, .mov (.t 66), none⟩])
 (.lv [4, 5, 6, 7, 8, 9, 11, 12, 13, 14] (.block 0 (.loop [4, 5, 6, 7, 8, 9, 11, 12, 13, 14] (some (8, [])) b91_0))))
 k91_2))))))))))))))))
def i91 : IFn := ⟨2, 152, c91, [.c 4 true 1, .c 5 true 1], .pure⟩

/-! 92: (typeball/nat.Nat).Add -/
def b92_0 : IR :=
 .seq (.reg none [⟨some 29, .bin .lt (.t 28) (.t 27), none⟩])
 (.lv [4, 5, 6, 7, 8, 27, 28, 29] (.seq (.cond (.t 29) (.skip)
 (.exit 0))
 (.lv [4, 5, 6, 7, 8, 27, 28] (.seq (.block 1 (.seq (.reg none [⟨some 30, .mov (.t 28), none⟩,
  ⟨some 9, .mov (.t 30), none⟩])
 (.lv [4, 5, 6, 7, 8, 9, 27, 28] (.seq (.reg none [⟨some 10, .mov (.k (.int .u32 0)), none⟩])
 (.lv [4, 5, 6, 7, 8, 9, 10, 27, 28] (.seq (.seq (.reg none [⟨some 31, .mov (.t 9), none⟩,
  ⟨some 32, .mov (.t 6), none⟩,
  ⟨some 33, .lenf (.t 32), none⟩,
  ⟨some 34, .bin .lt (.t 31) (.t 33), none⟩])
 (.lv [4, 5, 6, 7, 8, 9, 10, 27, 28, 34] (.cond (.t 34) (.lv [4, 5, 6, 7, 8, 9, 27, 28] (.reg none [⟨some 35, .mov (.t 6), none⟩,
  ⟨some 36, .mov (.t 9), none⟩,
  ⟨some 37, .iaddrf 1 (.t 35) (.t 36), none⟩,
  ⟨some 38, .ldf false 1 (.t 37), none⟩,
  ⟨some 10, .mov (.t 38), none⟩]))
 (.skip))))
 (.lv [4, 5, 6, 7, 8, 9, 10, 27, 28] (.reg none [⟨some 40, .mov (.t 7), none⟩,
  ⟨some 41, .mov (.t 9), none⟩,
  ⟨some 42, .mov (.t 5), none⟩,
  ⟨some 43, .mov (.t 9), none⟩,
  ⟨some 44, .iaddrf 1 (.t 42) (.t 43), none⟩,
  ⟨some 45, .ldf false 1 (.t 44), none⟩,
  ⟨some 46, .mov (.t 10), none⟩,
  ⟨some 47, .mov (.t 8), none⟩,
  ⟨some 48, .callP 102 [.t 45, .t 46, .t 47], none⟩,
  ⟨some 39, .mov (.t 48), none⟩,
  ⟨some 49, .ext (.t 39) 0, none⟩,
  ⟨some 50, .ext (.t 39) 1, none⟩,
  ⟨some 51, .iaddr 1 (.t 40) (.t 41), none⟩,
  ⟨none, .st 1 (.t 51) (.t 49), none⟩,
  ⟨some 8, .mov (.t 50), none⟩]))))))))
 (.lv [4, 5, 6, 7, 8, 27, 28] (.reg none [⟨some 52, .bin .add (.t 28) (.k (.int .i64 1)), none⟩,
  ⟨some 28, .mov (.t 52), none⟩]))))))
def k92_0 : IR :=
 .seq (.reg none [⟨some 53, .mov (.t 7), none⟩,
  ⟨some 54, .mov (.t 5), none⟩,
  ⟨some 55, .lenf (.t 54), none⟩,
  ⟨some 56, .mov (.t 8), none⟩,
  ⟨some 57, .iaddr 1 (.t 53) (.t 55), none⟩,
  ⟨none, .st 1 (.t 57) (.t 56), none⟩])
 (.lv [4, 7] (.seq (.reg none [⟨some 58, .mov (.t 7), none⟩,
  ⟨some 59, .callF 63 [.t 58], none⟩,
  ⟨none, .st 1 (.t 4) (.t 59), none⟩])
 (.ret)))
def c92 : IR :=
 .seq (.reg none [⟨some 2, .box 58 1 (.t 0), none⟩,
  ⟨some 3, .box 58 1 (.t 1), none⟩,
  ⟨some 4, .alloc 58 [.nilsl 107 1], none⟩])
 (.lv [2, 3, 4] (.seq (.reg (some [0, 1, 2, 3, 4, 5]) [⟨some 11, .faddr 0 (.t 2), none⟩,
  ⟨some 12, .ld false 1 (.t 11), none⟩,
  ⟨some 13, .faddr 0 (.t 3), none⟩,
  ⟨some 14, .ld false 1 (.t 13), none⟩,
  ⟨some 5, .mov (.t 12), none⟩,
  ⟨some 6, .mov (.t 14), none⟩])
 (.lv [4, 5, 6] (.seq (.seq (.reg none [⟨some 15, .mov (.t 5), none⟩,
  ⟨some 16, .lenf (.t 15), none⟩,
  ⟨some 17, .mov (.t 6), none⟩,
  ⟨some 18, .lenf (.t 17), none⟩,
  ⟨some 19, .bin .lt (.t 16) (.t 18), none⟩])
 (.lv [4, 5, 6, 19] (.cond (.t 19) (.lv [4, 5, 6] (.reg none [⟨some 20, .mov (.t 6), none⟩,
  ⟨some 21, .mov (.t 5), none⟩,
  ⟨some 5, .mov (.t 20), none⟩,
  ⟨some 6, .mov (.t 21), none⟩]))
 (.skip))))
 (.lv [4, 5, 6] (.seq (.reg none [⟨some 22, .mov (.t 5), none⟩,
  ⟨some 23, .lenf (.t 22), none⟩,
  ⟨some 24, .bin .add (.t 23) (.k (.int .i64 1)), none⟩,
  ⟨some 25, .mk 107 4 [.int .u32 0] (.t 24), none⟩,
  ⟨some 7, .mov (.t 25), none⟩])
 (.lv [4, 5, 6, 7] (.seq (.reg none [⟨some 8, .mov (.k (.int .u32 0)), none⟩])
 (.lv [4, 5, 6, 7, 8] (.seq (.seq (.reg none [⟨some 26, .mov (.t 5), none⟩,
  ⟨some 27, .lenf (.t 26), none⟩,
  ⟨some 28, .mov (.k (.int .i64 0)), none⟩])
 (.lv [4, 5, 6, 7, 8, 27, 28] (.block 0 (.loop [4, 5, 6, 7, 8, 27, 28] (some (5, [])) b92_0))))
 k92_0))))))))))
def i92 : IFn := ⟨2, 60, c92, [.c 4 true 1], .pure⟩

/-! 93: (typeball/nat.Nat).Sub -/
def b93_0 : IR :=
 .seq (.reg none [⟨some 23, .bin .lt (.t 22) (.t 21), none⟩])
 (.lv [2, 3, 4, 6, 7, 21, 22, 23] (.seq (.cond (.t 23) (.skip)
 (.exit 0))
 (.lv [2, 3, 4, 6, 7, 21, 22] (.seq (.block 1 (.seq (.reg none [⟨some 24, .mov (.t 22), none⟩,
  ⟨some 8, .mov (.t 24), none⟩])
 (.lv [2, 3, 4, 6, 7, 8, 21, 22] (.seq (.reg none [⟨some 9, .mov (.k (.int .u32 0)), none⟩])
 (.lv [2, 3, 4, 6, 7, 8, 9, 21, 22] (.seq (.seq (.reg none [⟨some 25, .mov (.t 8), none⟩,
  ⟨some 26, .faddr 0 (.t 3), none⟩,
  ⟨some 27, .ld false 1 (.t 26), none⟩,
  ⟨some 28, .lenf (.t 27), none⟩,
  ⟨some 29, .bin .lt (.t 25) (.t 28), none⟩])
 (.lv [2, 3, 4, 6, 7, 8, 9, 21, 22, 29] (.cond (.t 29) (.lv [2, 3, 4, 6, 7, 8, 21, 22] (.reg none [⟨some 30, .faddr 0 (.t 3), none⟩,
  ⟨some 31, .ld false 1 (.t 30), none⟩,
  ⟨some 32, .mov (.t 8), none⟩,
  ⟨some 33, .iaddrf 1 (.t 31) (.t 32), none⟩,
  ⟨some 34, .ldf false 1 (.t 33), none⟩,
  ⟨some 9, .mov (.t 34), none⟩]))
 (.skip))))
 (.lv [2, 3, 4, 6, 7, 8, 9, 21, 22] (.reg none [⟨some 36, .mov (.t 6), none⟩,
  ⟨some 37, .mov (.t 8), none⟩,
  ⟨some 38, .faddr 0 (.t 2), none⟩,
  ⟨some 39, .ld false 1 (.t 38), none⟩,
  ⟨some 40, .mov (.t 8), none⟩,
  ⟨some 41, .iaddrf 1 (.t 39) (.t 40), none⟩,
  ⟨some 42, .ldf false 1 (.t 41), none⟩,
  ⟨some 43, .mov (.t 9), none⟩,
  ⟨some 44, .mov (.t 7), none⟩,
  ⟨some 45, .callP 103 [.t 42, .t 43, .t 44], none⟩,
  ⟨some 35, .mov (.t 45), none⟩,
  ⟨some 46, .ext (.t 35) 0, none⟩,
  ⟨some 47, .ext (.t 35) 1, none⟩,
  ⟨some 48, .iaddr 1 (.t 36) (.t 37), none⟩,
  ⟨none, .st 1 (.t 48) (.t 46), none⟩,
  ⟨some 7, .mov (.t 47), none⟩]))))))))
 (.lv [2, 3, 4, 6, 7, 21, 22] (.reg none [⟨some 49, .bin .add (.t 22) (.k (.int .i64 1)), none⟩,
  ⟨some 22, .mov (.t 49), none⟩]))))))
def k93_0 : IR :=
 .seq (.reg none [⟨some 50, .mov (.t 6), none⟩,
  ⟨some 51, .callF 63 [.t 50], none⟩,
  ⟨none, .st 1 (.t 4) (.t 51), none⟩,
  ⟨some 5, .mov (.k (.bool true)), none⟩])
 (.ret)
def c93 : IR :=
 .seq (.reg none [⟨some 2, .box 58 1 (.t 0), none⟩,
  ⟨some 3, .box 58 1 (.t 1), none⟩,
  ⟨some 4, .alloc 58 [.nilsl 107 1], none⟩,
  ⟨some 5, .mov (.k (.bool false)), none⟩])
 (.lv [2, 3, 4] (.seq (.seq (.reg none [⟨some 10, .ld true 1 (.t 2), none⟩,
  ⟨some 11, .ld true 1 (.t 3), none⟩,
  ⟨some 12, .callP 89 [.t 10, .t 11], none⟩,
  ⟨some 13, .bin .lt (.t 12) (.k (.int .i64 0)), none⟩])
 (.lv [2, 3, 4, 13] (.cond (.t 13) (.lv [4] (.seq (.reg none [⟨some 14, .build [.nilsl 107 1] [], none⟩,
  ⟨none, .st 1 (.t 4) (.t 14), none⟩,
  ⟨some 5, .mov (.k (.bool false)), none⟩])
 (.ret)))
 (.skip))))
 (.lv [2, 3, 4] (.seq (.reg none [⟨some 15, .faddr 0 (.t 2), none⟩,
  ⟨some 16, .ld false 1 (.t 15), none⟩,
  ⟨some 17, .lenf (.t 16), none⟩,
  ⟨some 18, .mk 107 4 [.int .u32 0] (.t 17), none⟩,
  ⟨some 6, .mov (.t 18), none⟩])
 (.lv [2, 3, 4, 6] (.seq (.reg none [⟨some 7, .mov (.k (.int .u32 0)), none⟩])
 (.lv [2, 3, 4, 6, 7] (.seq (.seq (.reg none [⟨some 19, .faddr 0 (.t 2), none⟩,
  ⟨some 20, .ld false 1 (.t 19), none⟩,
  ⟨some 21, .lenf (.t 20), none⟩,
  ⟨some 22, .mov (.k (.int .i64 0)), none⟩])
 (.lv [2, 3, 4, 6, 7, 21, 22] (.block 0 (.loop [2, 3, 4, 6, 7, 21, 22] (some (5, [])) b93_0))))
 k93_0))))))))
def i93 : IFn := ⟨2, 52, c93, [.c 4 true 1, .t 5], .pure⟩

/-! 94: typeball/typeballref01.Uint -/
def b94_0 : IR :=
 .seq (.seq (.reg none [⟨some 9, .mov (.t 5), none⟩,
  ⟨some 10, .mov (.t 0), none⟩,
  ⟨some 11, .slen (.t 10), none⟩,
  ⟨some 12, .bin .lt (.t 9) (.t 11), none⟩])
 (.lv [0, 4, 5, 12] (.cond (.t 12) (.skip)
 (.exit 0))))
 (.lv [0, 4, 5] (.seq (.block 1 (.reg none [⟨some 15, .mov (.t 4), none⟩,
  ⟨some 16, .bin .mul (.t 15) (.k (.int .u64 10)), none⟩,
  ⟨some 17, .mov (.t 0), none⟩,
  ⟨some 18, .mov (.t 5), none⟩,
  ⟨some 19, .sidx (.t 17) (.t 18), none⟩,
  ⟨some 20, .bin .sub (.t 19) (.k (.int .u8 48)), none⟩,
  ⟨some 21, .conv .u64 (.t 20), none⟩,
  ⟨some 22, .bin .add (.t 16) (.t 21), none⟩,
  ⟨some 4, .mov (.t 22), none⟩]))
 (.lv [0, 4, 5] (.reg none [⟨some 13, .mov (.t 5), none⟩,
  ⟨some 14, .bin .add (.t 13) (.k (.int .i64 1)), none⟩,
  ⟨some 5, .mov (.t 14), none⟩]))))
def k94_0 : IR :=
 .seq (.reg none [⟨some 23, .mov (.t 4), none⟩,
  ⟨some 2, .mov (.t 23), none⟩,
  ⟨some 3, .mov (.k (.bool true)), none⟩])
 (.ret)
def c94 : IR :=
 .seq (.reg none [⟨some 2, .mov (.k (.int .u64 0)), none⟩,
  ⟨some 3, .mov (.k (.bool false)), none⟩])
 (.lv [0] (.seq (.seq (.reg none [⟨some 6, .mov (.t 0), none⟩,
  ⟨some 7, .callP 80 [.t 6, .k (.str ⟨#[49, 56, 52, 52, 54, 55, 52, 52, 48, 55, 51, 55, 48, 57, 53, 53, 49, 54, 49, 53]⟩)], none⟩,
  ⟨some 8, .bin .gt (.t 7) (.k (.int .i64 0)), none⟩])
 (.lv [0, 8] (.cond (.t 8) (.lv [] (.seq (.reg none [⟨some 2, .mov (.k (.int .u64 0)), none⟩,
  ⟨some 3, .mov (.k (.bool false)), none⟩])
 (.ret)))
 (.skip))))
 (.lv [0] (.seq (.reg none [⟨some 4, .mov (.k (.int .u64 0)), none⟩])
 (.lv [0, 4] (.seq (.seq (.reg none [⟨some 5, .mov (.k (.int .i64 0)), none⟩])
 (.lv [0, 4, 5] (.block 0 (.loop [0, 4, 5] (some (0, [])) b94_0))))
 k94_0))))))
def i94 : IFn := ⟨1, 24, c94, [.t 2, .t 3], .pure⟩

/-! 95: typeball/typeballref01.digit -/
def c95 : IR :=
 .seq (.reg none [⟨some 4, .mov (.k (.int .i64 0)), none⟩])
 (.lv [0, 1] (.seq (.seq (.reg none [⟨some 5, .mov (.t 1), none⟩,
  ⟨some 6, .mov (.t 0), none⟩,
  ⟨some 7, .slen (.t 6), none⟩,
  ⟨some 8, .bin .ge (.t 5) (.t 7), none⟩])
 (.lv [0, 1, 8] (.cond (.t 8) (.lv [] (.seq (.reg none [⟨some 4, .mov (.k (.int .i64 0)), none⟩])
 (.ret)))
 (.skip))))
 (.lv [0, 1] (.seq (.reg none [⟨some 9, .mov (.t 0), none⟩,
  ⟨some 10, .mov (.t 0), none⟩,
  ⟨some 11, .slen (.t 10), none⟩,
  ⟨some 12, .bin .sub (.t 11) (.k (.int .i64 1)), none⟩,
  ⟨some 13, .mov (.t 1), none⟩,
  ⟨some 14, .bin .sub (.t 12) (.t 13), none⟩,
  ⟨some 15, .sidx (.t 9) (.t 14), none⟩,
  ⟨some 16, .bin .sub (.t 15) (.k (.int .u8 48)), none⟩,
  ⟨some 17, .conv .i64 (.t 16), none⟩,
  ⟨some 4, .mov (.t 17), none⟩])
 (.ret)))))
def i95 : IFn := ⟨2, 18, c95, [.t 4], .pure⟩

/-! 96: typeball/typeballref01.written -/
def b96_0 : IR :=
 .seq (.seq (.reg none [⟨some 12, .mov (.t 4), none⟩,
  ⟨some 13, .bin .ge (.t 12) (.k (.int .i64 0)), none⟩])
 (.lv [0, 3, 4, 13] (.cond (.t 13) (.skip)
 (.exit 0))))
 (.lv [0, 3, 4] (.seq (.block 1 (.reg none [⟨some 16, .mov (.t 3), none⟩,
  ⟨some 17, .mov (.t 0), none⟩,
  ⟨some 18, .mov (.t 4), none⟩,
  ⟨some 19, .iaddrf 1 (.t 17) (.t 18), none⟩,
  ⟨some 20, .ldf false 1 (.t 19), none⟩,
  ⟨some 21, .bin .add (.k (.int .i64 48)) (.t 20), none⟩,
  ⟨some 22, .conv .u8 (.t 21), none⟩,
  ⟨some 23, .bsl 5 1 [.t 22], none⟩,
  ⟨some 24, .app 5 1 1 (.t 16) (.t 23), none⟩,
  ⟨some 3, .mov (.t 24), none⟩]))
 (.lv [0, 3, 4] (.reg none [⟨some 14, .mov (.t 4), none⟩,
  ⟨some 15, .bin .sub (.t 14) (.k (.int .i64 1)), none⟩,
  ⟨some 4, .mov (.t 15), none⟩]))))
def k96_0 : IR :=
 .seq (.seq (.reg none [⟨some 25, .mov (.t 3), none⟩,
  ⟨some 26, .len (.t 25), none⟩,
  ⟨some 27, .bin .eq (.t 26) (.k (.int .i64 0)), none⟩])
 (.lv [3, 27] (.cond (.t 27) (.lv [] (.seq (.reg none [⟨some 2, .mov (.k (.str ⟨#[48]⟩)), none⟩])
 (.ret)))
 (.skip))))
 (.lv [3] (.seq (.reg none [⟨some 28, .mov (.t 3), none⟩,
  ⟨some 29, .b2s (.t 28), none⟩,
  ⟨some 30, .callP 86 [.t 29], none⟩,
  ⟨some 2, .mov (.t 30), none⟩])
 (.ret)))
def c96 : IR :=
 .seq (.reg none [⟨some 2, .mov (.k (.str ⟨#[]⟩)), none⟩])
 (.lv [0] (.seq (.reg none [⟨some 5, .mov (.t 0), none⟩,
  ⟨some 6, .lenf (.t 5), none⟩,
  ⟨some 7, .bin .add (.t 6) (.k (.int .i64 1)), none⟩,
  ⟨some 8, .mk0 5 1 1 (.t 7), none⟩,
  ⟨some 3, .mov (.t 8), none⟩])
 (.lv [0, 3] (.seq (.seq (.reg none [⟨some 9, .mov (.t 0), none⟩,
  ⟨some 10, .lenf (.t 9), none⟩,
  ⟨some 11, .bin .sub (.t 10) (.k (.int .i64 1)), none⟩,
  ⟨some 4, .mov (.t 11), none⟩])
 (.lv [0, 3, 4] (.block 0 (.loop [0, 3, 4] (some (1, [])) b96_0))))
 k96_0))))
def i96 : IFn := ⟨1, 31, c96, [.t 2], .pure⟩

/-! 97: math/bits.LeadingZeros32 -/
def c97 : IR :=
 .seq (.reg none [⟨some 2, .mov (.k (.int .i64 0)), none⟩])
 (.lv [0] (.seq (.reg none [⟨some 3, .mov (.t 0), none⟩,
  ⟨some 4, .callP 104 [.t 3], none⟩,
  ⟨some 5, .bin .sub (.k (.int .i64 32)) (.t 4), none⟩,
  ⟨some 2, .mov (.t 5), none⟩])
 (.ret)))
def i97 : IFn := ⟨1, 6, c97, [.t 2], .pure⟩

/-! 98: (typeball/nat.Nat).Shl -/
def b98_0 : IR :=
 .seq (.reg none [⟨some 36, .bin .lt (.t 35) (.t 34), none⟩])
 (.lv [4, 5, 6, 7, 33, 34, 35, 36] (.seq (.cond (.t 36) (.skip)
 (.exit 0))
 (.lv [4, 5, 6, 7, 33, 34, 35] (.seq (.block 1 (.seq (.reg none [⟨some 37, .mov (.t 35), none⟩,
  ⟨some 38, .iaddrf 1 (.t 33) (.t 35), none⟩,
  ⟨some 39, .ldf false 1 (.t 38), none⟩,
  ⟨some 8, .mov (.t 37), none⟩,
  ⟨some 9, .mov (.t 39), none⟩])
 (.lv [4, 5, 6, 7, 8, 9, 33, 34, 35] (.seq (.reg none [⟨some 40, .mov (.t 9), none⟩,
  ⟨some 41, .conv .u64 (.t 40), none⟩,
  ⟨some 42, .mov (.t 6), none⟩,
  ⟨some 43, .bin .shl (.t 41) (.t 42), none⟩,
  ⟨some 10, .mov (.t 43), none⟩])
 (.lv [4, 5, 6, 7, 8, 10, 33, 34, 35] (.seq (.reg none [⟨some 44, .mov (.t 7), none⟩,
  ⟨some 45, .mov (.t 8), none⟩,
  ⟨some 46, .mov (.t 5), none⟩,
  ⟨some 47, .bin .add (.t 45) (.t 46), none⟩,
  ⟨some 48, .iaddr 1 (.t 44) (.t 47), none⟩,
  ⟨some 49, .ld false 1 (.t 48), none⟩,
  ⟨some 50, .mov (.t 10), none⟩,
  ⟨some 51, .conv .u32 (.t 50), none⟩,
  ⟨some 52, .bin .or (.t 49) (.t 51), none⟩,
  ⟨some 53, .iaddr 1 (.t 44) (.t 47), none⟩,
  ⟨none, .st 1 (.t 53) (.t 52), none⟩])
 (.lv [4, 5, 6, 7, 8, 10, 33, 34, 35] (.reg none [⟨some 54, .mov (.t 7), none⟩,
  ⟨some 55, .mov (.t 8), none⟩,
  ⟨some 56, .mov (.t 5), none⟩,
  ⟨some 57, .bin .add (.t 55) (.t 56), none⟩,
  ⟨some 58, .bin .add (.t 57) (.k (.int .i64 1)), none⟩,
  ⟨some 59, .mov (.t 10), none⟩,
  ⟨some 60, .bin .shr (.t 59) (.k (.int .u64 32)), none⟩,
  ⟨some 61, .conv .u32 (.t 60), none⟩,
  ⟨some 62, .iaddr 1 (.t 54) (.t 58), none⟩,
  ⟨none, .st 1 (.t 62) (.t 61), none⟩]))))))))
 (.lv [4, 5, 6, 7, 33, 34, 35] (.reg none [⟨some 63, .bin .add (.t 35) (.k (.int .i64 1)), none⟩,
  ⟨some 35, .mov (.t 63), none⟩]))))))
def k98_0 : IR :=
 .seq (.reg none [⟨some 64, .mov (.t 7), none⟩,
  ⟨some 65, .callF 63 [.t 64], none⟩,
  ⟨none, .st 1 (.t 4) (.t 65), none⟩])
 (.ret)
def c98 : IR :=
 .seq (.reg none [⟨some 2, .box 58 1 (.t 0), none⟩,
  ⟨some 4, .alloc 58 [.nilsl 107 1], none⟩])
 (.lv [1, 2, 4] (.seq (.seq (.reg none [⟨some 11, .mov (.t 1), none⟩,
  ⟨some 12, .bin .le (.t 11) (.k (.int .i64 0)), none⟩,
  ⟨some 13, .mov (.t 12), none⟩,
  ⟨some 14, .faddr 0 (.t 2), (some (13, false))⟩,
  ⟨some 15, .ld false 1 (.t 14), (some (13, false))⟩,
  ⟨some 16, .lenf (.t 15), (some (13, false))⟩,
  ⟨some 17, .bin .eq (.t 16) (.k (.int .i64 0)), (some (13, false))⟩,
  ⟨some 18, .pick (.t 13) (.k (.bool true)) (.t 17), none⟩])
 (.lv [1, 2, 4, 18] (.cond (.t 18) (.lv [2, 4] (.seq (.reg none [⟨some 19, .ld true 1 (.t 2), none⟩,
  ⟨none, .st 1 (.t 4) (.t 19), none⟩])
 (.ret)))
 (.skip))))
 (.lv [1, 2, 4] (.seq (.reg none [⟨some 20, .mov (.t 1), none⟩,
  ⟨some 21, .bin .quo (.t 20) (.k (.int .i64 32)), none⟩,
  ⟨some 22, .mov (.t 1), none⟩,
  ⟨some 23, .bin .rem (.t 22) (.k (.int .i64 32)), none⟩,
  ⟨some 24, .conv .u64 (.t 23), none⟩,
  ⟨some 5, .mov (.t 21), none⟩,
  ⟨some 6, .mov (.t 24), none⟩])
 (.lv [2, 4, 5, 6] (.seq (.reg none [⟨some 25, .faddr 0 (.t 2), none⟩,
  ⟨some 26, .ld false 1 (.t 25), none⟩,
  ⟨some 27, .lenf (.t 26), none⟩,
  ⟨some 28, .mov (.t 5), none⟩,
  ⟨some 29, .bin .add (.t 27) (.t 28), none⟩,
  ⟨some 30, .bin .add (.t 29) (.k (.int .i64 1)), none⟩,
  ⟨some 31, .mk 107 4 [.int .u32 0] (.t 30), none⟩,
  ⟨some 7, .mov (.t 31), none⟩])
 (.lv [2, 4, 5, 6, 7] (.seq (.seq (.reg none [⟨some 32, .faddr 0 (.t 2), none⟩,
  ⟨some 33, .ld false 1 (.t 32), none⟩,
  ⟨some 34, .lenf (.t 33), none⟩,
  ⟨some 35, .mov (.k (.int .i64 0)), none⟩])
 (.lv [4, 5, 6, 7, 33, 34, 35] (.block 0 (.loop [4, 5, 6, 7, 33, 34, 35] (some (4, [])) b98_0))))
 k98_0))))))))
def i98 : IFn := ⟨2, 66, c98, [.c 4 true 1], .pure⟩

/-! 99: typeball/nat.under -/
def b99_0 : IR :=
 .seq (.reg none [⟨some 15, .bin .lt (.t 14) (.t 13), none⟩])
 (.lv [0, 1, 2, 7, 8, 12, 13, 14, 15] (.seq (.cond (.t 15) (.skip)
 (.exit 0))
 (.lv [0, 1, 2, 7, 8, 12, 13, 14] (.seq (.block 1 (.seq (.reg none [⟨some 16, .mov (.t 14), none⟩,
  ⟨some 17, .iaddr 1 (.t 12) (.t 14), none⟩,
  ⟨some 18, .ld false 1 (.t 17), none⟩,
  ⟨some 9, .mov (.t 16), none⟩,
  ⟨some 10, .mov (.t 18), none⟩])
 (.lv [0, 1, 2, 7, 8, 9, 10, 12, 13, 14] (.seq (.reg none [⟨some 19, .mov (.t 2), none⟩,
  ⟨some 20, .mov (.t 10), none⟩,
  ⟨some 21, .conv .u64 (.t 20), none⟩,
  ⟨some 22, .bin .mul (.t 19) (.t 21), none⟩,
  ⟨some 23, .mov (.t 7), none⟩,
  ⟨some 24, .bin .add (.t 22) (.t 23), none⟩,
  ⟨some 11, .mov (.t 24), none⟩])
 (.lv [0, 1, 2, 8, 9, 11, 12, 13, 14] (.seq (.reg none [⟨some 25, .mov (.t 11), none⟩,
  ⟨some 26, .bin .shr (.t 25) (.k (.int .u64 32)), none⟩,
  ⟨some 7, .mov (.t 26), none⟩])
 (.lv [0, 1, 2, 7, 8, 9, 11, 12, 13, 14] (.reg none [⟨some 28, .mov (.t 0), none⟩,
  ⟨some 29, .mov (.t 9), none⟩,
  ⟨some 30, .mov (.t 0), none⟩,
  ⟨some 31, .mov (.t 9), none⟩,
  ⟨some 32, .iaddr 1 (.t 30) (.t 31), none⟩,
  ⟨some 33, .ld false 1 (.t 32), none⟩,
  ⟨some 34, .mov (.t 11), none⟩,
  ⟨some 35, .conv .u32 (.t 34), none⟩,
  ⟨some 36, .mov (.t 8), none⟩,
  ⟨some 37, .callR 103 [.t 33, .t 35, .t 36], none⟩,
  ⟨some 27, .mov (.t 37), none⟩,
  ⟨some 38, .ext (.t 27) 0, none⟩,
  ⟨some 39, .ext (.t 27) 1, none⟩,
  ⟨some 40, .iaddr 1 (.t 28) (.t 29), none⟩,
  ⟨none, .st 1 (.t 40) (.t 38), none⟩,
  ⟨some 8, .mov (.t 39), none⟩]))))))))
 (.lv [0, 1, 2, 7, 8, 12, 13, 14] (.reg none [⟨some 41, .bin .add (.t 14) (.k (.int .i64 1)), none⟩,
  ⟨some 14, .mov (.t 41), none⟩]))))))
def k99_0 : IR :=
 .seq (.reg none [⟨some 43, .mov (.t 0), none⟩,
  ⟨some 44, .mov (.t 1), none⟩,
  ⟨some 45, .len (.t 44), none⟩,
  ⟨some 46, .mov (.t 0), none⟩,
  ⟨some 47, .mov (.t 1), none⟩,
  ⟨some 48, .len (.t 47), none⟩,
  ⟨some 49, .iaddr 1 (.t 46) (.t 48), none⟩,
  ⟨some 50, .ld false 1 (.t 49), none⟩,
  ⟨some 51, .mov (.t 7), none⟩,
  ⟨some 52, .conv .u32 (.t 51), none⟩,
  ⟨some 53, .mov (.t 8), none⟩,
  ⟨some 54, .callR 103 [.t 50, .t 52, .t 53], none⟩,
  ⟨some 42, .mov (.t 54), none⟩,
  ⟨some 55, .ext (.t 42) 0, none⟩,
  ⟨some 56, .ext (.t 42) 1, none⟩,
  ⟨some 57, .iaddr 1 (.t 43) (.t 45), none⟩,
  ⟨none, .st 1 (.t 57) (.t 55), none⟩,
  ⟨some 8, .mov (.t 56), none⟩])
 (.lv [8] (.seq (.reg none [⟨some 58, .mov (.t 8), none⟩,
  ⟨some 59, .bin .eq (.t 58) (.k (.int .u32 1)), none⟩,
  ⟨some 6, .mov (.t 59), none⟩])
 (.ret)))
def c99 : IR :=
 .seq (.reg none [⟨some 6, .mov (.k (.bool false)), none⟩])
 (.lv [0, 1, 2] (.seq (.reg none [⟨some 7, .mov (.k (.int .u64 0)), none⟩,
  ⟨some 8, .mov (.k (.int .u32 0)), none⟩])
 (.lv [0, 1, 2, 7, 8] (.seq (.seq (.reg none [⟨some 12, .mov (.t 1), none⟩,
  ⟨some 13, .len (.t 12), none⟩,
  ⟨some 14, .mov (.k (.int .i64 0)), none⟩])
 (.lv [0, 1, 2, 7, 8, 12, 13, 14] (.block 0 (.loop [0, 1, 2, 7, 8, 12, 13, 14] none b99_0))))
 k99_0))))
def i99 : IFn := ⟨3, 60, c99, [.t 6], .ref⟩

/-! 100: typeball/nat.back -/
def b100_0 : IR :=
 .seq (.reg none [⟨some 10, .bin .lt (.t 9) (.t 8), none⟩])
 (.lv [0, 1, 4, 7, 8, 9, 10] (.seq (.cond (.t 10) (.skip)
 (.exit 0))
 (.lv [0, 1, 4, 7, 8, 9] (.seq (.block 1 (.seq (.reg none [⟨some 11, .mov (.t 9), none⟩,
  ⟨some 12, .iaddr 1 (.t 7) (.t 9), none⟩,
  ⟨some 13, .ld false 1 (.t 12), none⟩,
  ⟨some 5, .mov (.t 11), none⟩,
  ⟨some 6, .mov (.t 13), none⟩])
 (.lv [0, 1, 4, 5, 6, 7, 8, 9] (.reg none [⟨some 15, .mov (.t 0), none⟩,
  ⟨some 16, .mov (.t 5), none⟩,
  ⟨some 17, .mov (.t 0), none⟩,
  ⟨some 18, .mov (.t 5), none⟩,
  ⟨some 19, .iaddr 1 (.t 17) (.t 18), none⟩,
  ⟨some 20, .ld false 1 (.t 19), none⟩,
  ⟨some 21, .mov (.t 6), none⟩,
  ⟨some 22, .mov (.t 4), none⟩,
  ⟨some 23, .callR 102 [.t 20, .t 21, .t 22], none⟩,
  ⟨some 14, .mov (.t 23), none⟩,
  ⟨some 24, .ext (.t 14) 0, none⟩,
  ⟨some 25, .ext (.t 14) 1, none⟩,
  ⟨some 26, .iaddr 1 (.t 15) (.t 16), none⟩,
  ⟨none, .st 1 (.t 26) (.t 24), none⟩,
  ⟨some 4, .mov (.t 25), none⟩]))))
 (.lv [0, 1, 4, 7, 8, 9] (.reg none [⟨some 27, .bin .add (.t 9) (.k (.int .i64 1)), none⟩,
  ⟨some 9, .mov (.t 27), none⟩]))))))
def k100_0 : IR :=
 .reg none [⟨some 28, .mov (.t 0), none⟩,
  ⟨some 29, .mov (.t 1), none⟩,
  ⟨some 30, .len (.t 29), none⟩,
  ⟨some 31, .iaddr 1 (.t 28) (.t 30), none⟩,
  ⟨some 32, .ld false 1 (.t 31), none⟩,
  ⟨some 33, .mov (.t 4), none⟩,
  ⟨some 34, .bin .add (.t 32) (.t 33), none⟩,
  ⟨some 35, .iaddr 1 (.t 28) (.t 30), none⟩,
  ⟨none, .st 1 (.t 35) (.t 34), none⟩]
def c100 : IR :=
 .seq (.reg none [⟨some 4, .mov (.k (.int .u32 0)), none⟩])
 (.lv [0, 1, 4] (.seq (.seq (.reg none [⟨some 7, .mov (.t 1), none⟩,
  ⟨some 8, .len (.t 7), none⟩,
  ⟨some 9, .mov (.k (.int .i64 0)), none⟩])
 (.lv [0, 1, 4, 7, 8, 9] (.block 0 (.loop [0, 1, 4, 7, 8, 9] none b100_0))))
 k100_0))
def i100 : IFn := ⟨2, 36, c100, [], .ref⟩

/-! 101: (typeball/nat.Nat).Shr -/
def b101_0 : IR :=
 .seq (.reg none [⟨some 33, .bin .lt (.t 32) (.t 31), none⟩])
 (.lv [2, 4, 5, 6, 7, 31, 32, 33] (.seq (.cond (.t 33) (.skip)
 (.exit 0))
 (.lv [2, 4, 5, 6, 7, 31, 32] (.seq (.block 1 (.seq (.reg none [⟨some 34, .mov (.t 32), none⟩,
  ⟨some 8, .mov (.t 34), none⟩])
 (.lv [2, 4, 5, 6, 7, 8, 31, 32] (.seq (.reg none [⟨some 35, .faddr 0 (.t 2), none⟩,
  ⟨some 36, .ld false 1 (.t 35), none⟩,
  ⟨some 37, .mov (.t 8), none⟩,
  ⟨some 38, .mov (.t 5), none⟩,
  ⟨some 39, .bin .add (.t 37) (.t 38), none⟩,
  ⟨some 40, .iaddrf 1 (.t 36) (.t 39), none⟩,
  ⟨some 41, .ldf false 1 (.t 40), none⟩,
  ⟨some 42, .conv .u64 (.t 41), none⟩,
  ⟨some 9, .mov (.t 42), none⟩])
 (.lv [2, 4, 5, 6, 7, 8, 9, 31, 32] (.seq (.seq (.reg none [⟨some 43, .mov (.t 8), none⟩,
  ⟨some 44, .mov (.t 5), none⟩,
  ⟨some 45, .bin .add (.t 43) (.t 44), none⟩,
  ⟨some 46, .bin .add (.t 45) (.k (.int .i64 1)), none⟩,
  ⟨some 47, .faddr 0 (.t 2), none⟩,
  ⟨some 48, .ld false 1 (.t 47), none⟩,
  ⟨some 49, .lenf (.t 48), none⟩,
  ⟨some 50, .bin .lt (.t 46) (.t 49), none⟩])
 (.lv [2, 4, 5, 6, 7, 8, 9, 31, 32, 50] (.cond (.t 50) (.lv [2, 4, 5, 6, 7, 8, 9, 31, 32] (.reg none [⟨some 51, .mov (.t 9), none⟩,
  ⟨some 52, .faddr 0 (.t 2), none⟩,
  ⟨some 53, .ld false 1 (.t 52), none⟩,
  ⟨some 54, .mov (.t 8), none⟩,
  ⟨some 55, .mov (.t 5), none⟩,
  ⟨some 56, .bin .add (.t 54) (.t 55), none⟩,
  ⟨some 57, .bin .add (.t 56) (.k (.int .i64 1)), none⟩,
  ⟨some 58, .iaddrf 1 (.t 53) (.t 57), none⟩,
  ⟨some 59, .ldf false 1 (.t 58), none⟩,
  ⟨some 60, .conv .u64 (.t 59), none⟩,
  ⟨some 61, .bin .shl (.t 60) (.k (.int .u64 32)), none⟩,
  ⟨some 62, .bin .or (.t 51) (.t 61), none⟩,
  ⟨some 9, .mov (.t 62), none⟩]))
 (.skip))))
 (.lv [2, 4, 5, 6, 7, 8, 9, 31, 32] (.reg none [⟨some 63, .mov (.t 7), none⟩,
  ⟨some 64, .mov (.t 8), none⟩,
  ⟨some 65, .mov (.t 9), none⟩,
  ⟨some 66, .mov (.t 6), none⟩,
  ⟨some 67, .bin .shr (.t 65) (.t 66), none⟩,
  ⟨some 68, .conv .u32 (.t 67), none⟩,
  ⟨some 69, .iaddr 1 (.t 63) (.t 64), none⟩,
  ⟨none, .st 1 (.t 69) (.t 68), none⟩]))))))))
 (.lv [2, 4, 5, 6, 7, 31, 32] (.reg none [⟨some 70, .bin .add (.t 32) (.k (.int .i64 1)), none⟩,
  ⟨some 32, .mov (.t 70), none⟩]))))))
def k101_0 : IR :=
 .seq (.reg none [⟨some 71, .mov (.t 7), none⟩,
  ⟨some 72, .callF 63 [.t 71], none⟩,
  ⟨none, .st 1 (.t 4) (.t 72), none⟩])
 (.ret)
def c101 : IR :=
 .seq (.reg none [⟨some 2, .box 58 1 (.t 0), none⟩,
  ⟨some 4, .alloc 58 [.nilsl 107 1], none⟩])
 (.lv [1, 2, 4] (.seq (.seq (.reg none [⟨some 10, .mov (.t 1), none⟩,
  ⟨some 11, .bin .le (.t 10) (.k (.int .i64 0)), none⟩])
 (.lv [1, 2, 4, 11] (.cond (.t 11) (.lv [2, 4] (.seq (.reg none [⟨some 12, .ld true 1 (.t 2), none⟩,
  ⟨none, .st 1 (.t 4) (.t 12), none⟩])
 (.ret)))
 (.skip))))
 (.lv [1, 2, 4] (.seq (.reg none [⟨some 13, .mov (.t 1), none⟩,
  ⟨some 14, .bin .quo (.t 13) (.k (.int .i64 32)), none⟩,
  ⟨some 15, .mov (.t 1), none⟩,
  ⟨some 16, .bin .rem (.t 15) (.k (.int .i64 32)), none⟩,
  ⟨some 17, .conv .u64 (.t 16), none⟩,
  ⟨some 5, .mov (.t 14), none⟩,
  ⟨some 6, .mov (.t 17), none⟩])
 (.lv [2, 4, 5, 6] (.seq (.seq (.reg none [⟨some 18, .mov (.t 5), none⟩,
  ⟨some 19, .faddr 0 (.t 2), none⟩,
  ⟨some 20, .ld false 1 (.t 19), none⟩,
  ⟨some 21, .lenf (.t 20), none⟩,
  ⟨some 22, .bin .ge (.t 18) (.t 21), none⟩])
 (.lv [2, 4, 5, 6, 22] (.cond (.t 22) (.lv [4] (.seq (.reg none [⟨some 23, .build [.nilsl 107 1] [], none⟩,
  ⟨none, .st 1 (.t 4) (.t 23), none⟩])
 (.ret)))
 (.skip))))
 (.lv [2, 4, 5, 6] (.seq (.reg none [⟨some 24, .faddr 0 (.t 2), none⟩,
  ⟨some 25, .ld false 1 (.t 24), none⟩,
  ⟨some 26, .lenf (.t 25), none⟩,
  ⟨some 27, .mov (.t 5), none⟩,
  ⟨some 28, .bin .sub (.t 26) (.t 27), none⟩,
  ⟨some 29, .mk 107 4 [.int .u32 0] (.t 28), none⟩,
  ⟨some 7, .mov (.t 29), none⟩])
 (.lv [2, 4, 5, 6, 7] (.seq (.seq (.reg none [⟨some 30, .mov (.t 7), none⟩,
  ⟨some 31, .len (.t 30), none⟩,
  ⟨some 32, .mov (.k (.int .i64 0)), none⟩])
 (.lv [2, 4, 5, 6, 7, 31, 32] (.block 0 (.loop [2, 4, 5, 6, 7, 31, 32] (some (4, [])) b101_0))))
 k101_0))))))))))
def i101 : IFn := ⟨2, 73, c101, [.c 4 true 1], .pure⟩

end Go.Proofs.YtcmbaabkfihdmaaGreat.I
