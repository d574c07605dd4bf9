/- The functions' code in the small form: written by a program (irgen.py) out of Lean's own print of the loaded functions. -/
import Derived.Test.YtcmbaabkfihdmaaVDef
namespace Go.Proofs.Ytcmbaabkfihdmaa.I
open Go Go.V
/-! 2: gosem.cut.init -/
def c2 : IR :=
 .reg none [⟨some 0, .callP 1 [], none⟩]
def i2 : IFn := ⟨0, 1, c2, [], .pure⟩

/-! 3: typeball/typeballlaw07.ShapeMisses -/
def c3 : IR :=
 .seq (.reg none [⟨some 6, .mov (.k (.bool false)), none⟩])
 (.lv [0, 1, 2] (.seq (.seq (.reg none [⟨some 16, .mov (.t 0), none⟩,
  ⟨some 17, .lenf (.t 16), none⟩,
  ⟨some 18, .bin .gt (.t 17) (.k (.int .i64 60)), none⟩,
  ⟨some 19, .mov (.t 18), none⟩,
  ⟨some 20, .mov (.t 1), (some (19, false))⟩,
  ⟨some 21, .lenf (.t 20), (some (19, false))⟩,
  ⟨some 22, .bin .gt (.t 21) (.k (.int .i64 60)), (some (19, false))⟩,
  ⟨some 23, .pick (.t 19) (.k (.bool true)) (.t 22), none⟩])
 (.lv [0, 1, 2, 23] (.cond (.t 23) (.lv [] (.seq (.reg none [⟨some 24, .callP 13 [], none⟩,
  ⟨some 6, .mov (.t 24), none⟩])
 (.ret)))
 (.skip))))
 (.lv [0, 1, 2] (.seq (.reg none [⟨some 26, .mov (.t 0), none⟩,
  ⟨some 27, .mov (.t 1), none⟩,
  ⟨some 28, .callP 14 [.t 26, .t 27], none⟩,
  ⟨some 25, .mov (.t 28), none⟩,
  ⟨some 29, .ext (.t 25) 0, none⟩,
  ⟨some 30, .ext (.t 25) 1, none⟩,
  ⟨some 7, .mov (.t 29), none⟩,
  ⟨some 8, .mov (.t 30), none⟩])
 (.lv [0, 1, 2, 7, 8] (.seq (.reg none [⟨some 32, .mov (.t 0), none⟩,
  ⟨some 33, .mov (.t 1), none⟩,
  ⟨some 34, .callP 15 [.t 32, .t 33], none⟩,
  ⟨some 31, .mov (.t 34), none⟩,
  ⟨some 35, .ext (.t 31) 0, none⟩,
  ⟨some 36, .ext (.t 31) 1, none⟩,
  ⟨some 9, .mov (.t 35), none⟩,
  ⟨some 10, .mov (.t 36), none⟩])
 (.lv [0, 2, 7, 8, 9, 10] (.seq (.reg none [⟨some 38, .mov (.t 0), none⟩,
  ⟨some 39, .mov (.t 2), none⟩,
  ⟨some 40, .callP 16 [.t 38, .t 39], none⟩,
  ⟨some 37, .mov (.t 40), none⟩,
  ⟨some 41, .ext (.t 37) 0, none⟩,
  ⟨some 42, .ext (.t 37) 1, none⟩,
  ⟨some 11, .mov (.t 41), none⟩,
  ⟨some 12, .mov (.t 42), none⟩])
 (.lv [0, 2, 7, 8, 9, 10, 11, 12] (.seq (.reg none [⟨some 44, .mov (.t 0), none⟩,
  ⟨some 45, .callP 17 [.t 44], none⟩,
  ⟨some 43, .mov (.t 45), none⟩,
  ⟨some 46, .ext (.t 43) 0, none⟩,
  ⟨some 47, .ext (.t 43) 1, none⟩,
  ⟨some 13, .mov (.t 46), none⟩,
  ⟨some 14, .mov (.t 47), none⟩])
 (.lv [2, 7, 8, 9, 10, 11, 12, 13, 14] (.seq (.reg none [⟨some 48, .mov (.t 14), none⟩,
  ⟨some 49, .mov (.t 48), none⟩,
  ⟨some 50, .mov (.t 2), (some (49, true))⟩,
  ⟨some 51, .bin .ge (.t 50) (.k (.int .i64 0)), (some (49, true))⟩,
  ⟨some 52, .pick (.t 49) (.t 51) (.k (.bool false)), none⟩,
  ⟨some 53, .mov (.t 52), none⟩,
  ⟨some 54, .mov (.t 2), (some (53, true))⟩,
  ⟨some 55, .mov (.t 13), (some (53, true))⟩,
  ⟨some 56, .bin .lt (.t 54) (.t 55), (some (53, true))⟩,
  ⟨some 57, .pick (.t 53) (.t 56) (.k (.bool false)), none⟩,
  ⟨some 15, .mov (.t 57), none⟩])
 (.lv [7, 8, 9, 10, 11, 12, 15] (.seq (.reg none [⟨some 58, .mov (.t 7), none⟩,
  ⟨some 59, .mov (.t 9), none⟩,
  ⟨some 60, .bin .eq (.t 58) (.t 59), none⟩,
  ⟨some 61, .mov (.t 60), none⟩,
  ⟨some 62, .mov (.t 8), (some (61, true))⟩,
  ⟨some 63, .mov (.t 10), (some (61, true))⟩,
  ⟨some 64, .binb .eq (.t 62) (.t 63), (some (61, true))⟩,
  ⟨some 65, .pick (.t 61) (.t 64) (.k (.bool false)), none⟩,
  ⟨some 66, .mov (.t 65), none⟩,
  ⟨some 67, .mov (.t 12), (some (66, true))⟩,
  ⟨some 68, .mov (.t 15), (some (66, true))⟩,
  ⟨some 69, .binb .eq (.t 67) (.t 68), (some (66, true))⟩,
  ⟨some 70, .pick (.t 66) (.t 69) (.k (.bool false)), none⟩,
  ⟨some 71, .mov (.t 70), none⟩,
  ⟨some 72, .mov (.t 12), (some (71, true))⟩,
  ⟨some 73, .mov (.t 72), (some (71, true))⟩,
  ⟨some 74, .mov (.t 11), (some (73, false))⟩,
  ⟨some 75, .lenf (.t 74), (some (73, false))⟩,
  ⟨some 76, .bin .eq (.t 75) (.k (.int .i64 0)), (some (73, false))⟩,
  ⟨some 77, .pick (.t 73) (.k (.bool true)) (.t 76), (some (71, true))⟩,
  ⟨some 78, .pick (.t 71) (.t 77) (.k (.bool false)), none⟩,
  ⟨some 79, .mov (.t 78), none⟩,
  ⟨some 80, .callP 13 [], (some (79, true))⟩,
  ⟨some 81, .pick (.t 79) (.t 80) (.k (.bool false)), none⟩,
  ⟨some 6, .mov (.t 81), none⟩])
 (.ret)))))))))))))))
def i3 : IFn := ⟨3, 82, c3, [.t 6], .pure⟩

/-! 4: typeball/typeballlaw07.ShapePlaces -/
def b4_0 : IR :=
 .seq (.seq (.reg none [⟨some 71, .mov (.t 9), none⟩,
  ⟨some 72, .mov (.t 3), none⟩,
  ⟨some 73, .bin .lt (.t 71) (.t 72), none⟩])
 (.lv [1, 3, 7, 8, 9, 73] (.cond (.t 73) (.skip)
 (.exit 0))))
 (.lv [1, 3, 7, 8, 9] (.seq (.block 1 (.seq (.reg (some [0, 1, 2, 3, 4, 5, 6, 7, 8, 9, 10]) [⟨some 77, .ld false 1 (.t 1), none⟩,
  ⟨some 78, .mov (.t 7), none⟩,
  ⟨some 79, .mov (.t 9), none⟩,
  ⟨some 80, .iaddrf 1 (.t 78) (.t 79), none⟩,
  ⟨some 81, .ldf false 1 (.t 80), none⟩,
  ⟨some 82, .callP 14 [.t 77, .t 81], none⟩,
  ⟨some 76, .mov (.t 82), none⟩,
  ⟨some 83, .ext (.t 76) 0, none⟩,
  ⟨some 84, .ext (.t 76) 1, none⟩,
  ⟨some 10, .mov (.t 83), none⟩,
  ⟨some 11, .mov (.t 84), none⟩])
 (.lv [1, 3, 7, 8, 9, 10, 11] (.seq (.reg none [⟨some 86, .ld false 1 (.t 1), none⟩,
  ⟨some 87, .mov (.t 9), none⟩,
  ⟨some 88, .callP 16 [.t 86, .t 87], none⟩,
  ⟨some 85, .mov (.t 88), none⟩,
  ⟨some 89, .ext (.t 85) 0, none⟩,
  ⟨some 90, .ext (.t 85) 1, none⟩,
  ⟨some 12, .mov (.t 89), none⟩,
  ⟨some 13, .mov (.t 90), none⟩])
 (.lv [1, 3, 7, 8, 9, 10, 11, 12, 13] (.seq (.reg none [⟨some 91, .mov (.t 10), none⟩,
  ⟨some 92, .mov (.t 9), none⟩,
  ⟨some 93, .bin .ne (.t 91) (.t 92), none⟩,
  ⟨some 94, .mov (.t 93), none⟩,
  ⟨some 95, .mov (.t 11), (some (94, false))⟩,
  ⟨some 96, .not (.t 95), (some (94, false))⟩,
  ⟨some 97, .pick (.t 94) (.k (.bool true)) (.t 96), none⟩,
  ⟨some 98, .mov (.t 97), none⟩,
  ⟨some 99, .mov (.t 13), (some (98, false))⟩,
  ⟨some 100, .not (.t 99), (some (98, false))⟩,
  ⟨some 101, .pick (.t 98) (.k (.bool true)) (.t 100), none⟩,
  ⟨some 102, .mov (.t 101), none⟩,
  ⟨some 103, .mov (.t 12), (some (102, false))⟩,
  ⟨some 104, .mov (.t 7), (some (102, false))⟩,
  ⟨some 105, .mov (.t 9), (some (102, false))⟩,
  ⟨some 106, .iaddrf 1 (.t 104) (.t 105), (some (102, false))⟩,
  ⟨some 107, .ldf false 1 (.t 106), (some (102, false))⟩,
  ⟨some 108, .callP 23 [.t 103, .t 107], (some (102, false))⟩,
  ⟨some 109, .not (.t 108), (some (102, false))⟩,
  ⟨some 110, .pick (.t 102) (.k (.bool true)) (.t 109), none⟩,
  ⟨some 111, .mov (.t 110), none⟩,
  ⟨some 112, .mov (.t 8), (some (111, false))⟩,
  ⟨some 113, .mov (.t 9), (some (111, false))⟩,
  ⟨some 114, .iaddrf 1 (.t 112) (.t 113), (some (111, false))⟩,
  ⟨some 115, .ldf false 1 (.t 114), (some (111, false))⟩,
  ⟨some 116, .mov (.t 9), (some (111, false))⟩,
  ⟨some 117, .bin .ne (.t 115) (.t 116), (some (111, false))⟩,
  ⟨some 118, .pick (.t 111) (.k (.bool true)) (.t 117), none⟩])
 (.lv [1, 3, 7, 8, 9, 118] (.cond (.t 118) (.lv [] (.seq (.reg none [⟨some 2, .mov (.k (.bool false)), none⟩])
 (.ret)))
 (.skip)))))))))
 (.lv [1, 3, 7, 8, 9] (.reg none [⟨some 74, .mov (.t 9), none⟩,
  ⟨some 75, .bin .add (.t 74) (.k (.int .i64 1)), none⟩,
  ⟨some 9, .mov (.t 75), none⟩]))))
def k4_0 : IR :=
 .seq (.reg none [⟨some 119, .callP 13 [], none⟩,
  ⟨some 2, .mov (.t 119), none⟩])
 (.ret)
def c4 : IR :=
 .seq (.reg none [⟨some 1, .box 22 1 (.t 0), none⟩,
  ⟨some 2, .mov (.k (.bool false)), none⟩])
 (.lv [1] (.seq (.seq (.reg none [⟨some 14, .ld false 1 (.t 1), none⟩,
  ⟨some 15, .lenf (.t 14), none⟩,
  ⟨some 16, .bin .gt (.t 15) (.k (.int .i64 60)), none⟩])
 (.lv [1, 16] (.cond (.t 16) (.lv [] (.seq (.reg none [⟨some 17, .callP 13 [], none⟩,
  ⟨some 2, .mov (.t 17), none⟩])
 (.ret)))
 (.skip))))
 (.lv [1] (.seq (.reg none [⟨some 19, .ld false 1 (.t 1), none⟩,
  ⟨some 20, .callP 17 [.t 19], none⟩,
  ⟨some 18, .mov (.t 20), none⟩,
  ⟨some 21, .ext (.t 18) 0, none⟩,
  ⟨some 22, .ext (.t 18) 1, none⟩,
  ⟨some 3, .mov (.t 21), none⟩,
  ⟨some 4, .mov (.t 22), none⟩])
 (.lv [1, 3, 4] (.seq (.seq (.reg none [⟨some 23, .mov (.t 4), none⟩,
  ⟨some 24, .not (.t 23), none⟩,
  ⟨some 25, .mov (.t 24), none⟩,
  ⟨some 26, .mov (.t 3), (some (25, false))⟩,
  ⟨some 27, .bin .gt (.t 26) (.k (.int .i64 400)), (some (25, false))⟩,
  ⟨some 28, .pick (.t 25) (.k (.bool true)) (.t 27), none⟩])
 (.lv [1, 3, 4, 28] (.cond (.t 28) (.lv [1, 4] (.seq (.reg none [⟨some 30, .ld false 1 (.t 1), none⟩,
  ⟨some 31, .callP 16 [.t 30, .k (.int .i64 0)], none⟩,
  ⟨some 29, .mov (.t 31), none⟩,
  ⟨some 32, .ext (.t 29) 0, none⟩,
  ⟨some 33, .ext (.t 29) 1, none⟩,
  ⟨some 5, .mov (.t 32), none⟩,
  ⟨some 6, .mov (.t 33), none⟩])
 (.lv [1, 4, 6] (.seq (.reg none [⟨some 34, .mov (.t 4), none⟩,
  ⟨some 35, .mov (.t 34), none⟩,
  ⟨some 36, .mov (.t 6), (some (35, false))⟩,
  ⟨some 37, .not (.t 36), (some (35, false))⟩,
  ⟨some 38, .mov (.t 37), (some (35, false))⟩,
  ⟨some 39, .ld false 1 (.t 1), (some (38, true))⟩,
  ⟨some 40, .callP 18 [.t 39, .k (.fn 19 [])], (some (38, true))⟩,
  ⟨some 41, .lenf (.t 40), (some (38, true))⟩,
  ⟨some 42, .bin .eq (.t 41) (.k (.int .i64 0)), (some (38, true))⟩,
  ⟨some 43, .pick (.t 38) (.t 42) (.k (.bool false)), (some (35, false))⟩,
  ⟨some 44, .pick (.t 35) (.k (.bool true)) (.t 43), none⟩,
  ⟨some 45, .mov (.t 44), none⟩,
  ⟨some 46, .callP 13 [], (some (45, true))⟩,
  ⟨some 47, .pick (.t 45) (.t 46) (.k (.bool false)), none⟩,
  ⟨some 2, .mov (.t 47), none⟩])
 (.ret)))))
 (.skip))))
 (.lv [1, 3] (.seq (.reg none [⟨some 48, .ld false 1 (.t 1), none⟩,
  ⟨some 49, .callP 20 [.t 48], none⟩,
  ⟨some 7, .mov (.t 49), none⟩])
 (.lv [1, 3, 7] (.seq (.reg none [⟨some 50, .ld false 1 (.t 1), none⟩,
  ⟨some 51, .mkfn 21 [.t 1], none⟩,
  ⟨some 52, .callF 18 [.t 50, .t 51], none⟩,
  ⟨some 8, .mov (.t 52), none⟩])
 (.lv [1, 3, 7, 8] (.seq (.seq (.reg (some [0, 1, 2, 3, 4, 5, 6, 7, 8, 9, 10, 11, 12, 13, 14, 15, 16, 17]) [⟨some 53, .mov (.t 7), none⟩,
  ⟨some 54, .lenf (.t 53), none⟩,
  ⟨some 55, .mov (.t 3), none⟩,
  ⟨some 56, .bin .ne (.t 54) (.t 55), none⟩,
  ⟨some 57, .mov (.t 56), none⟩,
  ⟨some 58, .mov (.t 8), (some (57, false))⟩,
  ⟨some 59, .lenf (.t 58), (some (57, false))⟩,
  ⟨some 60, .mov (.t 3), (some (57, false))⟩,
  ⟨some 61, .bin .ne (.t 59) (.t 60), (some (57, false))⟩,
  ⟨some 62, .pick (.t 57) (.k (.bool true)) (.t 61), none⟩,
  ⟨some 63, .mov (.t 62), none⟩,
  ⟨some 64, .ld false 1 (.t 1), (some (63, false))⟩,
  ⟨some 65, .callP 24 [.t 64], (some (63, false))⟩,
  ⟨some 66, .ld false 1 (.t 1), (some (63, false))⟩,
  ⟨some 67, .callP 25 [.t 66], (some (63, false))⟩,
  ⟨some 68, .callP 23 [.t 65, .t 67], (some (63, false))⟩,
  ⟨some 69, .not (.t 68), (some (63, false))⟩,
  ⟨some 70, .pick (.t 63) (.k (.bool true)) (.t 69), none⟩])
 (.lv [1, 3, 7, 8, 70] (.cond (.t 70) (.lv [] (.seq (.reg none [⟨some 2, .mov (.k (.bool false)), none⟩])
 (.ret)))
 (.skip))))
 (.lv [1, 3, 7, 8] (.seq (.seq (.reg none [⟨some 9, .mov (.k (.int .i64 0)), none⟩])
 (.lv [1, 3, 7, 8, 9] (.block 0 (.loop [1, 3, 7, 8, 9] (some (1, [])) b4_0))))
 k4_0))))))))))))))
def i4 : IFn := ⟨1, 120, c4, [.t 2], .pure⟩

/-! 5: typeball/typeballlaw07.ShapeAxes -/
def c5 : IR :=
 .seq (.reg none [⟨some 8, .mov (.k (.bool false)), none⟩])
 (.lv [0, 1, 2, 3] (.seq (.seq (.reg none [⟨some 15, .mov (.t 0), none⟩,
  ⟨some 16, .lenf (.t 15), none⟩,
  ⟨some 17, .bin .gt (.t 16) (.k (.int .i64 60)), none⟩,
  ⟨some 18, .mov (.t 17), none⟩,
  ⟨some 19, .mov (.t 3), (some (18, false))⟩,
  ⟨some 20, .lenf (.t 19), (some (18, false))⟩,
  ⟨some 21, .bin .gt (.t 20) (.k (.int .i64 60)), (some (18, false))⟩,
  ⟨some 22, .pick (.t 18) (.k (.bool true)) (.t 21), none⟩])
 (.lv [0, 1, 2, 3, 22] (.cond (.t 22) (.lv [] (.seq (.reg none [⟨some 23, .callP 13 [], none⟩,
  ⟨some 8, .mov (.t 23), none⟩])
 (.ret)))
 (.skip))))
 (.lv [0, 1, 2, 3] (.seq (.reg none [⟨some 25, .mov (.t 0), none⟩,
  ⟨some 26, .mov (.t 1), none⟩,
  ⟨some 27, .callP 26 [.t 25, .t 26], none⟩,
  ⟨some 24, .mov (.t 27), none⟩,
  ⟨some 28, .ext (.t 24) 0, none⟩,
  ⟨some 29, .ext (.t 24) 1, none⟩,
  ⟨some 30, .ext (.t 24) 2, none⟩,
  ⟨some 31, .ext (.t 24) 3, none⟩,
  ⟨some 9, .mov (.t 28), none⟩,
  ⟨some 10, .mov (.t 29), none⟩,
  ⟨some 11, .mov (.t 30), none⟩,
  ⟨some 12, .mov (.t 31), none⟩])
 (.lv [0, 1, 2, 3, 9, 10, 11, 12] (.seq (.seq (.reg none [⟨some 32, .mov (.t 0), none⟩,
  ⟨some 33, .mov (.t 3), none⟩,
  ⟨some 34, .callP 27 [.t 32, .t 33], none⟩,
  ⟨some 35, .mov (.t 0), none⟩,
  ⟨some 36, .mov (.t 3), none⟩,
  ⟨some 37, .callP 23 [.t 35, .t 36], none⟩,
  ⟨some 38, .binb .ne (.t 34) (.t 37), none⟩,
  ⟨some 39, .mov (.t 38), none⟩,
  ⟨some 40, .mov (.t 0), (some (39, false))⟩,
  ⟨some 41, .mov (.t 0), (some (39, false))⟩,
  ⟨some 42, .callP 27 [.t 40, .t 41], (some (39, false))⟩,
  ⟨some 43, .not (.t 42), (some (39, false))⟩,
  ⟨some 44, .pick (.t 39) (.k (.bool true)) (.t 43), none⟩,
  ⟨some 45, .mov (.t 44), none⟩,
  ⟨some 46, .mov (.t 0), (some (45, false))⟩,
  ⟨some 47, .mov (.t 3), (some (45, false))⟩,
  ⟨some 48, .mov (.t 0), (some (45, false))⟩,
  ⟨some 49, .bsl 22 1 [.t 46, .t 47, .t 48], (some (45, false))⟩,
  ⟨some 50, .callF 28 [.t 49], (some (45, false))⟩,
  ⟨some 51, .bsl 3 1 [], (some (45, false))⟩,
  ⟨some 52, .mov (.t 0), (some (45, false))⟩,
  ⟨some 53, .app 3 1 8 (.t 51) (.t 52), (some (45, false))⟩,
  ⟨some 54, .mov (.t 3), (some (45, false))⟩,
  ⟨some 55, .app 3 1 8 (.t 53) (.t 54), (some (45, false))⟩,
  ⟨some 56, .mov (.t 0), (some (45, false))⟩,
  ⟨some 57, .app 3 1 8 (.t 55) (.t 56), (some (45, false))⟩,
  ⟨some 58, .callR 23 [.t 50, .t 57], (some (45, false))⟩,
  ⟨some 59, .not (.t 58), (some (45, false))⟩,
  ⟨some 60, .pick (.t 45) (.k (.bool true)) (.t 59), none⟩,
  ⟨some 61, .mov (.t 60), none⟩,
  ⟨some 62, .callF 28 [.k (.nilsl 22 1)], (some (61, false))⟩,
  ⟨some 63, .lenf (.t 62), (some (61, false))⟩,
  ⟨some 64, .bin .ne (.t 63) (.k (.int .i64 0)), (some (61, false))⟩,
  ⟨some 65, .pick (.t 61) (.k (.bool true)) (.t 64), none⟩])
 (.lv [0, 1, 2, 9, 10, 11, 12, 65] (.cond (.t 65) (.lv [] (.seq (.reg none [⟨some 8, .mov (.k (.bool false)), none⟩])
 (.ret)))
 (.skip))))
 (.lv [0, 1, 2, 9, 10, 11, 12] (.seq (.seq (.reg none [⟨some 66, .mov (.t 0), none⟩,
  ⟨some 67, .mov (.t 1), none⟩,
  ⟨some 68, .mov (.t 2), none⟩,
  ⟨some 69, .callP 29 [.t 66, .t 67, .t 68], none⟩,
  ⟨some 70, .mov (.t 0), none⟩,
  ⟨some 71, .mov (.t 1), none⟩,
  ⟨some 72, .mov (.t 2), none⟩,
  ⟨some 73, .callP 30 [.t 70, .t 71, .t 72], none⟩,
  ⟨some 74, .callP 23 [.t 69, .t 73], none⟩,
  ⟨some 75, .not (.t 74), none⟩,
  ⟨some 76, .mov (.t 75), none⟩,
  ⟨some 77, .mov (.t 0), (some (76, false))⟩,
  ⟨some 78, .mov (.t 1), (some (76, false))⟩,
  ⟨some 79, .callP 31 [.t 77, .t 78], (some (76, false))⟩,
  ⟨some 80, .mov (.t 0), (some (76, false))⟩,
  ⟨some 81, .mov (.t 1), (some (76, false))⟩,
  ⟨some 82, .callP 32 [.t 80, .t 81], (some (76, false))⟩,
  ⟨some 83, .callP 23 [.t 79, .t 82], (some (76, false))⟩,
  ⟨some 84, .not (.t 83), (some (76, false))⟩,
  ⟨some 85, .pick (.t 76) (.k (.bool true)) (.t 84), none⟩])
 (.lv [0, 1, 9, 10, 11, 12, 85] (.cond (.t 85) (.lv [] (.seq (.reg none [⟨some 8, .mov (.k (.bool false)), none⟩])
 (.ret)))
 (.skip))))
 (.lv [0, 1, 9, 10, 11, 12] (.seq (.reg none [⟨some 87, .mov (.t 0), none⟩,
  ⟨some 88, .callP 17 [.t 87], none⟩,
  ⟨some 86, .mov (.t 88), none⟩,
  ⟨some 89, .ext (.t 86) 0, none⟩,
  ⟨some 90, .ext (.t 86) 1, none⟩,
  ⟨some 13, .mov (.t 89), none⟩,
  ⟨some 14, .mov (.t 90), none⟩])
 (.lv [0, 1, 9, 10, 11, 12, 14] (.seq (.seq (.reg none [⟨some 91, .mov (.t 14), none⟩,
  ⟨some 92, .not (.t 91), none⟩,
  ⟨some 93, .mov (.t 92), none⟩,
  ⟨some 94, .mov (.t 1), (some (93, false))⟩,
  ⟨some 95, .bin .lt (.t 94) (.k (.int .i64 0)), (some (93, false))⟩,
  ⟨some 96, .pick (.t 93) (.k (.bool true)) (.t 95), none⟩,
  ⟨some 97, .mov (.t 96), none⟩,
  ⟨some 98, .mov (.t 1), (some (97, false))⟩,
  ⟨some 99, .mov (.t 0), (some (97, false))⟩,
  ⟨some 100, .lenf (.t 99), (some (97, false))⟩,
  ⟨some 101, .bin .ge (.t 98) (.t 100), (some (97, false))⟩,
  ⟨some 102, .pick (.t 97) (.k (.bool true)) (.t 101), none⟩])
 (.lv [0, 1, 9, 10, 11, 12, 102] (.cond (.t 102) (.lv [9, 10, 11, 12] (.seq (.reg none [⟨some 103, .mov (.t 9), none⟩,
  ⟨some 104, .bin .eq (.t 103) (.k (.int .i64 0)), none⟩,
  ⟨some 105, .mov (.t 104), none⟩,
  ⟨some 106, .mov (.t 10), (some (105, true))⟩,
  ⟨some 107, .bin .eq (.t 106) (.k (.int .i64 0)), (some (105, true))⟩,
  ⟨some 108, .pick (.t 105) (.t 107) (.k (.bool false)), none⟩,
  ⟨some 109, .mov (.t 108), none⟩,
  ⟨some 110, .mov (.t 11), (some (109, true))⟩,
  ⟨some 111, .bin .eq (.t 110) (.k (.int .i64 0)), (some (109, true))⟩,
  ⟨some 112, .pick (.t 109) (.t 111) (.k (.bool false)), none⟩,
  ⟨some 113, .mov (.t 112), none⟩,
  ⟨some 114, .mov (.t 12), (some (113, true))⟩,
  ⟨some 115, .not (.t 114), (some (113, true))⟩,
  ⟨some 116, .pick (.t 113) (.t 115) (.k (.bool false)), none⟩,
  ⟨some 117, .mov (.t 116), none⟩,
  ⟨some 118, .callP 13 [], (some (117, true))⟩,
  ⟨some 119, .pick (.t 117) (.t 118) (.k (.bool false)), none⟩,
  ⟨some 8, .mov (.t 119), none⟩])
 (.ret)))
 (.skip))))
 (.lv [0, 1, 9, 10, 11, 12] (.seq (.reg none [⟨some 120, .mov (.t 9), none⟩,
  ⟨some 121, .mov (.t 0), none⟩,
  ⟨some 122, .mov (.t 1), none⟩,
  ⟨some 123, .cut 1 (.t 121) none (some (.t 122)), none⟩,
  ⟨some 124, .callP 33 [.t 123], none⟩,
  ⟨some 125, .bin .eq (.t 120) (.t 124), none⟩,
  ⟨some 126, .mov (.t 125), none⟩,
  ⟨some 127, .mov (.t 10), (some (126, true))⟩,
  ⟨some 128, .mov (.t 0), (some (126, true))⟩,
  ⟨some 129, .mov (.t 1), (some (126, true))⟩,
  ⟨some 130, .iaddrf 1 (.t 128) (.t 129), (some (126, true))⟩,
  ⟨some 131, .ldf false 1 (.t 130), (some (126, true))⟩,
  ⟨some 132, .bin .eq (.t 127) (.t 131), (some (126, true))⟩,
  ⟨some 133, .pick (.t 126) (.t 132) (.k (.bool false)), none⟩,
  ⟨some 134, .mov (.t 133), none⟩,
  ⟨some 135, .mov (.t 11), (some (134, true))⟩,
  ⟨some 136, .mov (.t 0), (some (134, true))⟩,
  ⟨some 137, .mov (.t 1), (some (134, true))⟩,
  ⟨some 138, .bin .add (.t 137) (.k (.int .i64 1)), (some (134, true))⟩,
  ⟨some 139, .cut 1 (.t 136) (some (.t 138)) none, (some (134, true))⟩,
  ⟨some 140, .callP 33 [.t 139], (some (134, true))⟩,
  ⟨some 141, .bin .eq (.t 135) (.t 140), (some (134, true))⟩,
  ⟨some 142, .pick (.t 134) (.t 141) (.k (.bool false)), none⟩,
  ⟨some 143, .mov (.t 142), none⟩,
  ⟨some 144, .mov (.t 12), (some (143, true))⟩,
  ⟨some 145, .pick (.t 143) (.t 144) (.k (.bool false)), none⟩,
  ⟨some 146, .mov (.t 145), none⟩,
  ⟨some 147, .callP 13 [], (some (146, true))⟩,
  ⟨some 148, .pick (.t 146) (.t 147) (.k (.bool false)), none⟩,
  ⟨some 8, .mov (.t 148), none⟩])
 (.ret)))))))))))))))
def i5 : IFn := ⟨4, 149, c5, [.t 8], .pure⟩

/-! 6: typeball/typeballlaw06.ArrayCounts -/
def c6 : IR :=
 .seq (.reg none [⟨some 2, .mov (.k (.bool false)), none⟩])
 (.lv [0] (.seq (.seq (.reg none [⟨some 7, .mov (.t 0), none⟩,
  ⟨some 8, .lenf (.t 7), none⟩,
  ⟨some 9, .bin .gt (.t 8) (.k (.int .i64 60)), none⟩])
 (.lv [0, 9] (.cond (.t 9) (.lv [] (.seq (.reg none [⟨some 10, .callP 34 [], none⟩,
  ⟨some 2, .mov (.t 10), none⟩])
 (.ret)))
 (.skip))))
 (.lv [0] (.seq (.reg none [⟨some 12, .mov (.t 0), none⟩,
  ⟨some 13, .callP 35 [.t 12], none⟩,
  ⟨some 11, .mov (.t 13), none⟩,
  ⟨some 14, .ext (.t 11) 0, none⟩,
  ⟨some 15, .ext (.t 11) 1, none⟩,
  ⟨some 3, .mov (.t 14), none⟩,
  ⟨some 4, .mov (.t 15), none⟩])
 (.lv [0, 3, 4] (.seq (.reg none [⟨some 17, .mov (.t 0), none⟩,
  ⟨some 18, .callP 17 [.t 17], none⟩,
  ⟨some 16, .mov (.t 18), none⟩,
  ⟨some 19, .ext (.t 16) 0, none⟩,
  ⟨some 20, .ext (.t 16) 1, none⟩,
  ⟨some 5, .mov (.t 19), none⟩,
  ⟨some 6, .mov (.t 20), none⟩])
 (.lv [3, 4, 5, 6] (.seq (.reg none [⟨some 21, .mov (.t 3), none⟩,
  ⟨some 22, .mov (.t 5), none⟩,
  ⟨some 23, .bin .eq (.t 21) (.t 22), none⟩,
  ⟨some 24, .mov (.t 23), none⟩,
  ⟨some 25, .mov (.t 4), (some (24, true))⟩,
  ⟨some 26, .mov (.t 6), (some (24, true))⟩,
  ⟨some 27, .binb .eq (.t 25) (.t 26), (some (24, true))⟩,
  ⟨some 28, .pick (.t 24) (.t 27) (.k (.bool false)), none⟩,
  ⟨some 29, .mov (.t 28), none⟩,
  ⟨some 30, .callP 34 [], (some (29, true))⟩,
  ⟨some 31, .pick (.t 29) (.t 30) (.k (.bool false)), none⟩,
  ⟨some 2, .mov (.t 31), none⟩])
 (.ret)))))))))
def i6 : IFn := ⟨1, 32, c6, [.t 2], .pure⟩

/-! 7: typeball/typeballlaw17.DrawApart -/
def b7_0 : IR :=
 .seq (.seq (.reg none [⟨some 59, .mov (.t 15), none⟩,
  ⟨some 60, .mov (.t 12), none⟩,
  ⟨some 61, .len (.t 60), none⟩,
  ⟨some 62, .bin .lt (.t 59) (.t 61), none⟩])
 (.lv [3, 9, 12, 14, 15, 62] (.cond (.t 62) (.skip)
 (.exit 0))))
 (.lv [3, 9, 12, 14, 15] (.seq (.block 1 (.seq (.reg (some [0, 1, 2, 3, 4, 5, 6, 7]) [⟨some 65, .mov (.t 12), none⟩,
  ⟨some 66, .mov (.t 15), none⟩,
  ⟨some 67, .iaddr 1 (.t 65) (.t 66), none⟩,
  ⟨some 68, .ld false 1 (.t 67), none⟩,
  ⟨some 69, .mov (.t 3), none⟩,
  ⟨some 70, .callP 40 [.t 69], none⟩,
  ⟨some 71, .bin .sub (.t 68) (.t 70), none⟩,
  ⟨some 16, .mov (.t 71), none⟩])
 (.lv [3, 9, 12, 14, 15, 16] (.seq (.seq (.reg none [⟨some 72, .mov (.t 16), none⟩,
  ⟨some 73, .bin .lt (.t 72) (.k (.int .i64 0)), none⟩,
  ⟨some 74, .mov (.t 73), none⟩,
  ⟨some 75, .mov (.t 16), (some (74, false))⟩,
  ⟨some 76, .mov (.t 9), (some (74, false))⟩,
  ⟨some 77, .bin .ge (.t 75) (.t 76), (some (74, false))⟩,
  ⟨some 78, .pick (.t 74) (.k (.bool true)) (.t 77), none⟩,
  ⟨some 79, .mov (.t 78), none⟩,
  ⟨some 80, .mov (.t 14), (some (79, false))⟩,
  ⟨some 81, .mov (.t 16), (some (79, false))⟩,
  ⟨some 82, .iaddr 1 (.t 80) (.t 81), (some (79, false))⟩,
  ⟨some 83, .ld false 1 (.t 82), (some (79, false))⟩,
  ⟨some 84, .pick (.t 79) (.k (.bool true)) (.t 83), none⟩])
 (.lv [3, 9, 12, 14, 15, 16, 84] (.cond (.t 84) (.lv [] (.seq (.reg none [⟨some 8, .mov (.k (.bool false)), none⟩])
 (.ret)))
 (.skip))))
 (.lv [3, 9, 12, 14, 15, 16] (.reg none [⟨some 85, .mov (.t 14), none⟩,
  ⟨some 86, .mov (.t 16), none⟩,
  ⟨some 87, .iaddr 1 (.t 85) (.t 86), none⟩,
  ⟨none, .st 1 (.t 87) (.k (.bool true)), none⟩]))))))
 (.lv [3, 9, 12, 14, 15] (.reg none [⟨some 63, .mov (.t 15), none⟩,
  ⟨some 64, .bin .add (.t 63) (.k (.int .i64 1)), none⟩,
  ⟨some 15, .mov (.t 64), none⟩]))))
def k7_0 : IR :=
 .seq (.reg none [⟨some 88, .callP 36 [], none⟩,
  ⟨some 8, .mov (.t 88), none⟩])
 (.ret)
def c7 : IR :=
 .seq (.reg none [⟨some 8, .mov (.k (.bool false)), none⟩])
 (.lv [0, 1, 2, 3] (.seq (.seq (.reg none [⟨some 17, .mov (.t 2), none⟩,
  ⟨some 18, .lenf (.t 17), none⟩,
  ⟨some 19, .bin .gt (.t 18) (.k (.int .i64 300)), none⟩])
 (.lv [0, 1, 2, 3, 19] (.cond (.t 19) (.lv [] (.seq (.reg none [⟨some 20, .callP 36 [], none⟩,
  ⟨some 8, .mov (.t 20), none⟩])
 (.ret)))
 (.skip))))
 (.lv [0, 1, 2, 3] (.seq (.reg none [⟨some 21, .mov (.t 0), none⟩,
  ⟨some 22, .conv .i64 (.t 21), none⟩,
  ⟨some 23, .mov (.t 1), none⟩,
  ⟨some 24, .conv .i64 (.t 23), none⟩,
  ⟨some 25, .bin .add (.t 22) (.t 24), none⟩,
  ⟨some 9, .mov (.t 25), none⟩])
 (.lv [0, 2, 3, 9] (.seq (.reg none [⟨some 27, .mov (.t 0), none⟩,
  ⟨some 28, .conv .i64 (.t 27), none⟩,
  ⟨some 29, .callP 38 [.t 28], none⟩,
  ⟨some 30, .mov (.t 9), none⟩,
  ⟨some 31, .callP 38 [.t 30], none⟩,
  ⟨some 32, .mov (.t 2), none⟩,
  ⟨some 33, .callO 39 [.t 32], none⟩,
  ⟨some 34, .mov (.t 3), none⟩,
  ⟨some 35, .callP 40 [.t 34], none⟩,
  ⟨some 36, .callM 37 [.t 29, .t 31, .t 33, .t 35], none⟩,
  ⟨some 26, .mov (.t 36), none⟩,
  ⟨some 37, .ext (.t 26) 0, none⟩,
  ⟨some 38, .ext (.t 26) 1, none⟩,
  ⟨some 10, .alloc 48 [.nilsl 3 1, .bool false, .nilsl 21 1, .nilsl 70 3, .bool false], none⟩,
  ⟨none, .st 5 (.t 10) (.t 37), none⟩,
  ⟨some 11, .mov (.t 38), none⟩])
 (.lv [0, 3, 9, 10, 11] (.seq (.reg none [⟨some 40, .ld true 5 (.t 10), none⟩,
  ⟨some 41, .callO 41 [.t 40], none⟩,
  ⟨some 39, .mov (.t 41), none⟩,
  ⟨some 42, .ext (.t 39) 0, none⟩,
  ⟨some 43, .ext (.t 39) 1, none⟩,
  ⟨some 12, .mov (.t 42), none⟩,
  ⟨some 13, .mov (.t 43), none⟩])
 (.lv [0, 3, 9, 11, 12, 13] (.seq (.seq (.reg none [⟨some 44, .mov (.t 11), none⟩,
  ⟨some 45, .bin .ne (.t 44) (.k (.int .i64 0)), none⟩,
  ⟨some 46, .mov (.t 45), none⟩,
  ⟨some 47, .mov (.t 13), (some (46, false))⟩,
  ⟨some 48, .not (.t 47), (some (46, false))⟩,
  ⟨some 49, .pick (.t 46) (.k (.bool true)) (.t 48), none⟩,
  ⟨some 50, .mov (.t 49), none⟩,
  ⟨some 51, .mov (.t 12), (some (50, false))⟩,
  ⟨some 52, .len (.t 51), (some (50, false))⟩,
  ⟨some 53, .mov (.t 0), (some (50, false))⟩,
  ⟨some 54, .conv .i64 (.t 53), (some (50, false))⟩,
  ⟨some 55, .bin .ne (.t 52) (.t 54), (some (50, false))⟩,
  ⟨some 56, .pick (.t 50) (.k (.bool true)) (.t 55), none⟩])
 (.lv [3, 9, 12, 56] (.cond (.t 56) (.lv [] (.seq (.reg none [⟨some 8, .mov (.k (.bool false)), none⟩])
 (.ret)))
 (.skip))))
 (.lv [3, 9, 12] (.seq (.reg none [⟨some 57, .mov (.t 9), none⟩,
  ⟨some 58, .mk 4 1 [.bool false] (.t 57), none⟩,
  ⟨some 14, .mov (.t 58), none⟩])
 (.lv [3, 9, 12, 14] (.seq (.seq (.reg none [⟨some 15, .mov (.k (.int .i64 0)), none⟩])
 (.lv [3, 9, 12, 14, 15] (.block 0 (.loop [3, 9, 12, 14, 15] (some (15, [])) b7_0))))
 k7_0))))))))))))))
def i7 : IFn := ⟨4, 89, c7, [.t 8], .pure⟩

/-! 8: typeball/typeballlaw17.DrawNumbers -/
def b8_0 : IR :=
 .seq (.seq (.reg none [⟨some 14, .mov (.t 6), none⟩,
  ⟨some 15, .mov (.t 1), none⟩,
  ⟨some 16, .conv .i64 (.t 15), none⟩,
  ⟨some 17, .bin .lt (.t 14) (.t 16), none⟩])
 (.lv [0, 1, 5, 6, 17] (.cond (.t 17) (.skip)
 (.exit 0))))
 (.lv [0, 1, 5, 6] (.seq (.block 1 (.seq (.reg none [⟨some 20, .mov (.t 5), none⟩,
  ⟨some 21, .callR 42 [.t 20], none⟩,
  ⟨some 22, .mov (.t 6), none⟩,
  ⟨some 23, .bin .ne (.t 21) (.t 22), none⟩,
  ⟨some 24, .mov (.t 23), none⟩,
  ⟨some 25, .mov (.t 5), (some (24, false))⟩,
  ⟨some 26, .callM 43 [.t 25], (some (24, false))⟩,
  ⟨some 27, .mov (.t 0), (some (24, false))⟩,
  ⟨some 28, .mov (.t 6), (some (24, false))⟩,
  ⟨some 29, .callP 44 [.t 27, .t 28], (some (24, false))⟩,
  ⟨some 30, .bin .ne (.t 26) (.t 29), (some (24, false))⟩,
  ⟨some 31, .pick (.t 24) (.k (.bool true)) (.t 30), none⟩])
 (.lv [0, 1, 5, 6, 31] (.cond (.t 31) (.lv [] (.seq (.reg none [⟨some 4, .mov (.k (.bool false)), none⟩])
 (.ret)))
 (.skip)))))
 (.lv [0, 1, 5, 6] (.reg none [⟨some 18, .mov (.t 6), none⟩,
  ⟨some 19, .bin .add (.t 18) (.k (.int .i64 1)), none⟩,
  ⟨some 6, .mov (.t 19), none⟩]))))
def k8_0 : IR :=
 .seq (.reg none [⟨some 7, .mov (.k (.nilptr)), none⟩])
 (.lv [1, 5, 7] (.seq (.reg none [⟨some 32, .mov (.t 5), none⟩,
  ⟨some 33, .callR 42 [.t 32], none⟩,
  ⟨some 34, .mov (.t 1), none⟩,
  ⟨some 35, .conv .i64 (.t 34), none⟩,
  ⟨some 36, .bin .eq (.t 33) (.t 35), none⟩,
  ⟨some 37, .mov (.t 36), none⟩,
  ⟨some 38, .mov (.t 7), (some (37, true))⟩,
  ⟨some 39, .callM 43 [.t 38], (some (37, true))⟩,
  ⟨some 40, .bin .eq (.t 39) (.k (.int .u64 0)), (some (37, true))⟩,
  ⟨some 41, .pick (.t 37) (.t 40) (.k (.bool false)), none⟩,
  ⟨some 42, .mov (.t 41), none⟩,
  ⟨some 43, .mov (.t 7), (some (42, true))⟩,
  ⟨some 44, .callP 42 [.t 43], (some (42, true))⟩,
  ⟨some 45, .bin .eq (.t 44) (.k (.int .i64 0)), (some (42, true))⟩,
  ⟨some 46, .pick (.t 42) (.t 45) (.k (.bool false)), none⟩,
  ⟨some 47, .mov (.t 46), none⟩,
  ⟨some 48, .callP 36 [], (some (47, true))⟩,
  ⟨some 49, .pick (.t 47) (.t 48) (.k (.bool false)), none⟩,
  ⟨some 4, .mov (.t 49), none⟩])
 (.ret)))
def c8 : IR :=
 .seq (.reg none [⟨some 4, .mov (.k (.bool false)), none⟩])
 (.lv [0, 1] (.seq (.seq (.reg none [⟨some 8, .mov (.t 0), none⟩,
  ⟨some 9, .lenf (.t 8), none⟩,
  ⟨some 10, .bin .gt (.t 9) (.k (.int .i64 300)), none⟩])
 (.lv [0, 1, 10] (.cond (.t 10) (.lv [] (.seq (.reg none [⟨some 11, .callP 36 [], none⟩,
  ⟨some 4, .mov (.t 11), none⟩])
 (.ret)))
 (.skip))))
 (.lv [0, 1] (.seq (.reg none [⟨some 12, .mov (.t 0), none⟩,
  ⟨some 13, .callO 39 [.t 12], none⟩,
  ⟨some 5, .mov (.t 13), none⟩])
 (.lv [0, 1, 5] (.seq (.seq (.reg none [⟨some 6, .mov (.k (.int .i64 0)), none⟩])
 (.lv [0, 1, 5, 6] (.block 0 (.loop [0, 1, 5, 6] (some (2, [])) b8_0))))
 k8_0))))))
def i8 : IFn := ⟨2, 50, c8, [.t 4], .pure⟩

/-! 9: typeball/typeballlaw06.ArrayBuilds -/
def b9_0 : IR :=
 .seq (.seq (.reg none [⟨some 35, .mov (.t 12), none⟩,
  ⟨some 36, .mov (.t 1), none⟩,
  ⟨some 37, .lenf (.t 36), none⟩,
  ⟨some 38, .bin .lt (.t 35) (.t 37), none⟩])
 (.lv [0, 1, 2, 3, 4, 11, 12, 38] (.cond (.t 38) (.skip)
 (.exit 0))))
 (.lv [0, 1, 2, 3, 4, 11, 12] (.seq (.block 1 (.reg none [⟨some 41, .mov (.t 11), none⟩,
  ⟨some 42, .mov (.t 1), none⟩,
  ⟨some 43, .mov (.t 12), none⟩,
  ⟨some 44, .iaddrf 1 (.t 42) (.t 43), none⟩,
  ⟨some 45, .ldf false 1 (.t 44), none⟩,
  ⟨some 46, .callP 45 [.t 45], none⟩,
  ⟨some 47, .bsl 70 3 [.t 46], none⟩,
  ⟨some 48, .app 70 3 56 (.t 41) (.t 47), none⟩,
  ⟨some 11, .mov (.t 48), none⟩]))
 (.lv [0, 1, 2, 3, 4, 11, 12] (.reg none [⟨some 39, .mov (.t 12), none⟩,
  ⟨some 40, .bin .add (.t 39) (.k (.int .i64 1)), none⟩,
  ⟨some 12, .mov (.t 40), none⟩]))))
def k9_0 : IR :=
 .seq (.reg none [⟨some 50, .mov (.t 0), none⟩,
  ⟨some 51, .mov (.t 11), none⟩,
  ⟨some 52, .callF 46 [.t 50, .t 51], none⟩,
  ⟨some 49, .mov (.t 52), none⟩,
  ⟨some 53, .ext (.t 49) 0, none⟩,
  ⟨some 54, .ext (.t 49) 1, none⟩,
  ⟨some 13, .alloc 48 [.nilsl 3 1, .bool false, .nilsl 21 1, .nilsl 70 3, .bool false], none⟩,
  ⟨none, .st 5 (.t 13) (.t 53), none⟩,
  ⟨some 14, .mov (.t 54), none⟩])
 (.lv [0, 1, 2, 3, 4, 13, 14] (.seq (.reg none [⟨some 56, .mov (.t 0), none⟩,
  ⟨some 57, .mov (.t 2), none⟩,
  ⟨some 58, .callP 47 [.t 56, .t 57], none⟩,
  ⟨some 55, .mov (.t 58), none⟩,
  ⟨some 59, .ext (.t 55) 0, none⟩,
  ⟨some 60, .ext (.t 55) 1, none⟩,
  ⟨some 15, .alloc 48 [.nilsl 3 1, .bool false, .nilsl 21 1, .nilsl 70 3, .bool false], none⟩,
  ⟨none, .st 5 (.t 15) (.t 59), none⟩,
  ⟨some 16, .mov (.t 60), none⟩])
 (.lv [0, 1, 2, 3, 4, 13, 14, 15, 16] (.seq (.reg none [⟨some 62, .mov (.t 0), none⟩,
  ⟨some 63, .callP 17 [.t 62], none⟩,
  ⟨some 61, .mov (.t 63), none⟩,
  ⟨some 64, .ext (.t 61) 0, none⟩,
  ⟨some 65, .ext (.t 61) 1, none⟩,
  ⟨some 17, .mov (.t 64), none⟩,
  ⟨some 18, .mov (.t 65), none⟩])
 (.lv [0, 1, 2, 3, 4, 13, 14, 15, 16, 17, 18] (.seq (.reg none [⟨some 66, .mov (.t 1), none⟩,
  ⟨some 67, .callP 48 [.t 66], none⟩,
  ⟨some 68, .mov (.t 2), none⟩,
  ⟨some 69, .callP 49 [.t 68], none⟩,
  ⟨some 19, .alloc 77 [.nilsl 3 1, .bool false, .nilsl 21 1, .nilsl 97 3], none⟩,
  ⟨some 20, .alloc 77 [.nilsl 3 1, .bool false, .nilsl 21 1, .nilsl 97 3], none⟩,
  ⟨none, .st 4 (.t 19) (.t 67), none⟩,
  ⟨none, .st 4 (.t 20) (.t 69), none⟩])
 (.lv [0, 1, 2, 3, 4, 13, 14, 15, 16, 17, 18, 19, 20] (.seq (.seq (.reg (some [0, 1, 2, 3, 4, 5, 6, 7, 8, 9, 10, 11, 12, 13, 14, 15, 16, 17, 18, 19, 20, 21, 22, 23, 24, 25, 26, 27, 28, 29, 30, 31, 32, 33, 34, 35]) [⟨some 70, .mov (.t 14), none⟩,
  ⟨some 71, .mov (.t 18), none⟩,
  ⟨some 72, .mov (.t 71), none⟩,
  ⟨some 73, .mov (.t 17), (some (72, true))⟩,
  ⟨some 74, .mov (.t 1), (some (72, true))⟩,
  ⟨some 75, .lenf (.t 74), (some (72, true))⟩,
  ⟨some 76, .bin .eq (.t 73) (.t 75), (some (72, true))⟩,
  ⟨some 77, .pick (.t 72) (.t 76) (.k (.bool false)), none⟩,
  ⟨some 78, .binb .ne (.t 70) (.t 77), none⟩,
  ⟨some 79, .mov (.t 78), none⟩,
  ⟨some 80, .mov (.t 16), (some (79, false))⟩,
  ⟨some 81, .mov (.t 18), (some (79, false))⟩,
  ⟨some 82, .mov (.t 81), (some (79, false))⟩,
  ⟨some 83, .mov (.t 17), (some (82, true))⟩,
  ⟨some 84, .mov (.t 2), (some (82, true))⟩,
  ⟨some 85, .lenf (.t 84), (some (82, true))⟩,
  ⟨some 86, .bin .eq (.t 83) (.t 85), (some (82, true))⟩,
  ⟨some 87, .pick (.t 82) (.t 86) (.k (.bool false)), (some (79, false))⟩,
  ⟨some 88, .binb .ne (.t 80) (.t 87), (some (79, false))⟩,
  ⟨some 89, .pick (.t 79) (.k (.bool true)) (.t 88), none⟩,
  ⟨some 90, .mov (.t 89), none⟩,
  ⟨some 91, .mov (.t 1), (some (90, false))⟩,
  ⟨some 92, .callP 51 [.t 91], (some (90, false))⟩,
  ⟨some 93, .callP 52 [.t 92], (some (90, false))⟩,
  ⟨some 94, .ld true 4 (.t 19), (some (90, false))⟩,
  ⟨some 95, .callR 50 [.t 93, .t 94], (some (90, false))⟩,
  ⟨some 96, .not (.t 95), (some (90, false))⟩,
  ⟨some 97, .pick (.t 90) (.k (.bool true)) (.t 96), none⟩,
  ⟨some 98, .mov (.t 97), none⟩,
  ⟨some 99, .mov (.t 2), (some (98, false))⟩,
  ⟨some 100, .callP 53 [.t 99], (some (98, false))⟩,
  ⟨some 101, .callP 52 [.t 100], (some (98, false))⟩,
  ⟨some 102, .ld true 4 (.t 20), (some (98, false))⟩,
  ⟨some 103, .callR 50 [.t 101, .t 102], (some (98, false))⟩,
  ⟨some 104, .not (.t 103), (some (98, false))⟩,
  ⟨some 105, .pick (.t 98) (.k (.bool true)) (.t 104), none⟩])
 (.lv [0, 3, 4, 13, 14, 15, 16, 19, 20, 105] (.cond (.t 105) (.lv [] (.seq (.reg none [⟨some 10, .mov (.k (.bool false)), none⟩])
 (.ret)))
 (.skip))))
 (.lv [0, 3, 4, 13, 14, 15, 16, 19, 20] (.seq (.reg none [⟨some 106, .mov (.t 0), none⟩,
  ⟨some 107, .mov (.t 0), none⟩,
  ⟨some 108, .faddr 0 (.t 19), none⟩,
  ⟨none, .st 1 (.t 108) (.t 106), none⟩,
  ⟨some 109, .faddr 0 (.t 20), none⟩,
  ⟨none, .st 1 (.t 109) (.t 107), none⟩])
 (.lv [3, 4, 13, 14, 15, 16, 19, 20] (.seq (.seq (.reg (some [0, 1, 2, 4, 3, 5, 6, 7, 8, 9, 10, 11, 13, 12, 14, 15, 16, 17, 18, 19, 20, 21, 22, 23, 24, 25, 26, 27, 28, 29, 30, 31, 32, 33, 34, 35]) [⟨some 110, .mov (.t 14), none⟩,
  ⟨some 111, .mov (.t 110), none⟩,
  ⟨some 112, .ld true 5 (.t 13), (some (111, true))⟩,
  ⟨some 114, .ld true 4 (.t 19), (some (111, true))⟩,
  ⟨some 113, .callF 52 [.t 112], (some (111, true))⟩,
  ⟨some 115, .callR 50 [.t 113, .t 114], (some (111, true))⟩,
  ⟨some 116, .not (.t 115), (some (111, true))⟩,
  ⟨some 117, .pick (.t 111) (.t 116) (.k (.bool false)), none⟩,
  ⟨some 118, .mov (.t 117), none⟩,
  ⟨some 119, .mov (.t 16), (some (118, false))⟩,
  ⟨some 120, .mov (.t 119), (some (118, false))⟩,
  ⟨some 121, .ld true 5 (.t 15), (some (120, true))⟩,
  ⟨some 123, .ld true 4 (.t 20), (some (120, true))⟩,
  ⟨some 122, .callF 52 [.t 121], (some (120, true))⟩,
  ⟨some 124, .callR 50 [.t 122, .t 123], (some (120, true))⟩,
  ⟨some 125, .not (.t 124), (some (120, true))⟩,
  ⟨some 126, .pick (.t 120) (.t 125) (.k (.bool false)), (some (118, false))⟩,
  ⟨some 127, .pick (.t 118) (.k (.bool true)) (.t 126), none⟩,
  ⟨some 128, .mov (.t 127), none⟩,
  ⟨some 129, .mov (.t 14), (some (128, false))⟩,
  ⟨some 130, .not (.t 129), (some (128, false))⟩,
  ⟨some 131, .mov (.t 130), (some (128, false))⟩,
  ⟨some 132, .ld true 5 (.t 13), (some (131, true))⟩,
  ⟨some 133, .callR 54 [.t 132], (some (131, true))⟩,
  ⟨some 134, .bin .ne (.t 133) (.k (.int .i64 0)), (some (131, true))⟩,
  ⟨some 135, .pick (.t 131) (.t 134) (.k (.bool false)), (some (128, false))⟩,
  ⟨some 136, .pick (.t 128) (.k (.bool true)) (.t 135), none⟩,
  ⟨some 137, .mov (.t 136), none⟩,
  ⟨some 138, .mov (.t 16), (some (137, false))⟩,
  ⟨some 139, .not (.t 138), (some (137, false))⟩,
  ⟨some 140, .mov (.t 139), (some (137, false))⟩,
  ⟨some 141, .ld true 5 (.t 15), (some (140, true))⟩,
  ⟨some 142, .callR 54 [.t 141], (some (140, true))⟩,
  ⟨some 143, .bin .ne (.t 142) (.k (.int .i64 0)), (some (140, true))⟩,
  ⟨some 144, .pick (.t 140) (.t 143) (.k (.bool false)), (some (137, false))⟩,
  ⟨some 145, .pick (.t 137) (.k (.bool true)) (.t 144), none⟩])
 (.lv [3, 4, 145] (.cond (.t 145) (.lv [] (.seq (.reg none [⟨some 10, .mov (.k (.bool false)), none⟩])
 (.ret)))
 (.skip))))
 (.lv [3, 4] (.seq (.reg none [⟨some 146, .mov (.t 4), none⟩,
  ⟨some 147, .callP 38 [.t 146], none⟩,
  ⟨some 148, .callP 52 [.t 147], none⟩,
  ⟨some 149, .mov (.t 4), none⟩,
  ⟨some 150, .callP 55 [.t 149], none⟩,
  ⟨some 151, .callP 50 [.t 148, .t 150], none⟩,
  ⟨some 152, .mov (.t 151), none⟩,
  ⟨some 153, .mov (.t 4), (some (152, true))⟩,
  ⟨some 154, .callP 45 [.t 153], (some (152, true))⟩,
  ⟨some 155, .callP 56 [.t 154], (some (152, true))⟩,
  ⟨some 156, .callP 52 [.t 155], (some (152, true))⟩,
  ⟨some 157, .mov (.t 4), (some (152, true))⟩,
  ⟨some 158, .callP 55 [.t 157], (some (152, true))⟩,
  ⟨some 159, .callP 50 [.t 156, .t 158], (some (152, true))⟩,
  ⟨some 160, .pick (.t 152) (.t 159) (.k (.bool false)), none⟩,
  ⟨some 161, .mov (.t 160), none⟩,
  ⟨some 162, .mov (.t 3), (some (161, true))⟩,
  ⟨some 163, .callP 57 [.t 162], (some (161, true))⟩,
  ⟨some 164, .callP 52 [.t 163], (some (161, true))⟩,
  ⟨some 165, .mov (.t 3), (some (161, true))⟩,
  ⟨some 166, .bsl 21 1 [.t 165], (some (161, true))⟩,
  ⟨some 167, .build [.nilsl 3 1, .bool false, .nilsl 21 1, .nilsl 97 3] [(1, 1, .k (.bool true)), (2, 1, .t 166)], (some (161, true))⟩,
  ⟨some 168, .callR 50 [.t 164, .t 167], (some (161, true))⟩,
  ⟨some 169, .pick (.t 161) (.t 168) (.k (.bool false)), none⟩,
  ⟨some 170, .mov (.t 169), none⟩,
  ⟨some 171, .callP 58 [.k (.bool true)], (some (170, true))⟩,
  ⟨some 172, .callP 52 [.t 171], (some (170, true))⟩,
  ⟨some 173, .callF 49 [.k (.nilsl 21 1)], (some (170, true))⟩,
  ⟨some 174, .callP 50 [.t 172, .t 173], (some (170, true))⟩,
  ⟨some 175, .pick (.t 170) (.t 174) (.k (.bool false)), none⟩,
  ⟨some 176, .mov (.t 175), none⟩,
  ⟨some 177, .callP 58 [.k (.bool false)], (some (176, true))⟩,
  ⟨some 178, .callP 52 [.t 177], (some (176, true))⟩,
  ⟨some 179, .callF 48 [.k (.nilsl 3 1)], (some (176, true))⟩,
  ⟨some 180, .callP 50 [.t 178, .t 179], (some (176, true))⟩,
  ⟨some 181, .pick (.t 176) (.t 180) (.k (.bool false)), none⟩,
  ⟨some 182, .mov (.t 181), none⟩,
  ⟨some 183, .callP 34 [], (some (182, true))⟩,
  ⟨some 184, .pick (.t 182) (.t 183) (.k (.bool false)), none⟩,
  ⟨some 10, .mov (.t 184), none⟩])
 (.ret)))))))))))))))
def c9 : IR :=
 .seq (.reg none [⟨some 10, .mov (.k (.bool false)), none⟩])
 (.lv [0, 1, 2, 3, 4] (.seq (.seq (.reg none [⟨some 21, .mov (.t 0), none⟩,
  ⟨some 22, .lenf (.t 21), none⟩,
  ⟨some 23, .bin .gt (.t 22) (.k (.int .i64 60)), none⟩,
  ⟨some 24, .mov (.t 23), none⟩,
  ⟨some 25, .mov (.t 1), (some (24, false))⟩,
  ⟨some 26, .lenf (.t 25), (some (24, false))⟩,
  ⟨some 27, .bin .gt (.t 26) (.k (.int .i64 200)), (some (24, false))⟩,
  ⟨some 28, .pick (.t 24) (.k (.bool true)) (.t 27), none⟩,
  ⟨some 29, .mov (.t 28), none⟩,
  ⟨some 30, .mov (.t 2), (some (29, false))⟩,
  ⟨some 31, .lenf (.t 30), (some (29, false))⟩,
  ⟨some 32, .bin .gt (.t 31) (.k (.int .i64 200)), (some (29, false))⟩,
  ⟨some 33, .pick (.t 29) (.k (.bool true)) (.t 32), none⟩])
 (.lv [0, 1, 2, 3, 4, 33] (.cond (.t 33) (.lv [] (.seq (.reg none [⟨some 34, .callP 34 [], none⟩,
  ⟨some 10, .mov (.t 34), none⟩])
 (.ret)))
 (.skip))))
 (.lv [0, 1, 2, 3, 4] (.seq (.reg none [⟨some 11, .newnil 70 3, none⟩])
 (.lv [0, 1, 2, 3, 4, 11] (.seq (.seq (.reg none [⟨some 12, .mov (.k (.int .i64 0)), none⟩])
 (.lv [0, 1, 2, 3, 4, 11, 12] (.block 0 (.loop [0, 1, 2, 3, 4, 11, 12] (some (1, [])) b9_0))))
 k9_0))))))
def i9 : IFn := ⟨5, 185, c9, [.t 10], .pure⟩

/-! 10: typeball/typeballlaw06.ArrayPicks -/
def c10 : IR :=
 .seq (.reg none [⟨some 3, .box 77 4 (.t 0), none⟩,
  ⟨some 6, .mov (.k (.bool false)), none⟩])
 (.lv [1, 2, 3] (.seq (.seq (.reg none [⟨some 13, .ld true 4 (.t 3), none⟩,
  ⟨some 14, .callP 59 [.t 13, .k (.int .i64 300)], none⟩,
  ⟨some 15, .not (.t 14), none⟩,
  ⟨some 16, .mov (.t 15), none⟩,
  ⟨some 17, .mov (.t 1), (some (16, false))⟩,
  ⟨some 18, .lenf (.t 17), (some (16, false))⟩,
  ⟨some 19, .bin .gt (.t 18) (.k (.int .i64 60)), (some (16, false))⟩,
  ⟨some 20, .pick (.t 16) (.k (.bool true)) (.t 19), none⟩,
  ⟨some 21, .mov (.t 20), none⟩,
  ⟨some 22, .mov (.t 2), (some (21, false))⟩,
  ⟨some 23, .lenf (.t 22), (some (21, false))⟩,
  ⟨some 24, .bin .gt (.t 23) (.k (.int .i64 300)), (some (21, false))⟩,
  ⟨some 25, .pick (.t 21) (.k (.bool true)) (.t 24), none⟩])
 (.lv [1, 2, 3, 25] (.cond (.t 25) (.lv [] (.seq (.reg none [⟨some 26, .callP 34 [], none⟩,
  ⟨some 6, .mov (.t 26), none⟩])
 (.ret)))
 (.skip))))
 (.lv [1, 2, 3] (.seq (.reg none [⟨some 27, .ld true 4 (.t 3), none⟩,
  ⟨some 28, .callP 60 [.t 27], none⟩,
  ⟨some 7, .alloc 48 [.nilsl 3 1, .bool false, .nilsl 21 1, .nilsl 70 3, .bool false], none⟩,
  ⟨none, .st 5 (.t 7) (.t 28), none⟩])
 (.lv [1, 2, 3, 7] (.seq (.reg none [⟨some 30, .ld true 5 (.t 7), none⟩,
  ⟨some 31, .mov (.t 1), none⟩,
  ⟨some 32, .mov (.t 2), none⟩,
  ⟨some 33, .callF 61 [.t 30, .t 31, .t 32], none⟩,
  ⟨some 29, .mov (.t 33), none⟩,
  ⟨some 34, .ext (.t 29) 0, none⟩,
  ⟨some 35, .ext (.t 29) 1, none⟩,
  ⟨some 8, .alloc 48 [.nilsl 3 1, .bool false, .nilsl 21 1, .nilsl 70 3, .bool false], none⟩,
  ⟨none, .st 5 (.t 8) (.t 34), none⟩,
  ⟨some 9, .mov (.t 35), none⟩])
 (.lv [1, 2, 3, 7, 8, 9] (.seq (.reg none [⟨some 37, .mov (.t 1), none⟩,
  ⟨some 38, .callP 17 [.t 37], none⟩,
  ⟨some 36, .mov (.t 38), none⟩,
  ⟨some 39, .ext (.t 36) 0, none⟩,
  ⟨some 40, .ext (.t 36) 1, none⟩,
  ⟨some 10, .mov (.t 39), none⟩,
  ⟨some 11, .mov (.t 40), none⟩])
 (.lv [1, 2, 3, 7, 8, 9, 10, 11] (.seq (.seq (.reg none [⟨some 41, .mov (.t 9), none⟩,
  ⟨some 42, .mov (.t 11), none⟩,
  ⟨some 43, .mov (.t 42), none⟩,
  ⟨some 44, .mov (.t 10), (some (43, true))⟩,
  ⟨some 45, .mov (.t 2), (some (43, true))⟩,
  ⟨some 46, .lenf (.t 45), (some (43, true))⟩,
  ⟨some 47, .bin .eq (.t 44) (.t 46), (some (43, true))⟩,
  ⟨some 48, .pick (.t 43) (.t 47) (.k (.bool false)), none⟩,
  ⟨some 49, .binb .ne (.t 41) (.t 48), none⟩,
  ⟨some 50, .mov (.t 49), none⟩,
  ⟨some 51, .mov (.t 9), (some (50, false))⟩,
  ⟨some 52, .not (.t 51), (some (50, false))⟩,
  ⟨some 53, .mov (.t 52), (some (50, false))⟩,
  ⟨some 54, .ld true 5 (.t 8), (some (53, true))⟩,
  ⟨some 55, .callR 54 [.t 54], (some (53, true))⟩,
  ⟨some 56, .bin .ne (.t 55) (.k (.int .i64 0)), (some (53, true))⟩,
  ⟨some 57, .pick (.t 53) (.t 56) (.k (.bool false)), (some (50, false))⟩,
  ⟨some 58, .pick (.t 50) (.k (.bool true)) (.t 57), none⟩])
 (.lv [1, 2, 3, 7, 8, 9, 58] (.cond (.t 58) (.lv [] (.seq (.reg none [⟨some 6, .mov (.k (.bool false)), none⟩])
 (.ret)))
 (.skip))))
 (.lv [1, 2, 3, 7, 8, 9] (.seq (.reg none [⟨some 59, .ld true 4 (.t 3), none⟩,
  ⟨some 12, .alloc 77 [.nilsl 3 1, .bool false, .nilsl 21 1, .nilsl 97 3], none⟩,
  ⟨none, .st 4 (.t 12) (.t 59), none⟩])
 (.lv [1, 2, 3, 7, 8, 9, 12] (.seq (.reg none [⟨some 60, .ld true 4 (.t 3), none⟩,
  ⟨some 61, .callP 62 [.t 60], none⟩,
  ⟨some 62, .bsl 3 1 [.t 61], none⟩,
  ⟨some 63, .faddr 0 (.t 12), none⟩,
  ⟨none, .st 1 (.t 63) (.t 62), none⟩])
 (.lv [1, 2, 3, 7, 8, 9, 12] (.seq (.reg (some [0, 1, 2, 3, 5, 6, 7, 4, 8, 9, 10, 11, 12, 15, 13, 14, 16, 17, 18, 19, 20, 21]) [⟨some 64, .mov (.t 9), none⟩,
  ⟨some 65, .not (.t 64), none⟩,
  ⟨some 66, .mov (.t 65), none⟩,
  ⟨some 67, .ld true 5 (.t 8), (some (66, false))⟩,
  ⟨some 69, .ld true 4 (.t 3), (some (66, false))⟩,
  ⟨some 70, .mov (.t 1), (some (66, false))⟩,
  ⟨some 71, .mov (.t 2), (some (66, false))⟩,
  ⟨some 68, .callF 52 [.t 67], (some (66, false))⟩,
  ⟨some 72, .callP 63 [.t 69, .t 70, .t 71], (some (66, false))⟩,
  ⟨some 73, .callP 50 [.t 68, .t 72], (some (66, false))⟩,
  ⟨some 74, .pick (.t 66) (.k (.bool true)) (.t 73), none⟩,
  ⟨some 75, .mov (.t 74), none⟩,
  ⟨some 76, .ld true 5 (.t 7), (some (75, true))⟩,
  ⟨some 79, .ld true 4 (.t 12), (some (75, true))⟩,
  ⟨some 77, .callF 64 [.t 76], (some (75, true))⟩,
  ⟨some 78, .callP 52 [.t 77], (some (75, true))⟩,
  ⟨some 80, .callR 50 [.t 78, .t 79], (some (75, true))⟩,
  ⟨some 81, .pick (.t 75) (.t 80) (.k (.bool false)), none⟩,
  ⟨some 82, .mov (.t 81), none⟩,
  ⟨some 83, .callP 34 [], (some (82, true))⟩,
  ⟨some 84, .pick (.t 82) (.t 83) (.k (.bool false)), none⟩,
  ⟨some 6, .mov (.t 84), none⟩])
 (.ret)))))))))))))))))
def i10 : IFn := ⟨3, 85, c10, [.t 6], .pure⟩

/-! 12: typeball/typeballlaw06.ArraySames -/
def c12 : IR :=
 .seq (.reg none [⟨some 2, .box 77 4 (.t 0), none⟩,
  ⟨some 3, .box 77 4 (.t 1), none⟩,
  ⟨some 4, .mov (.k (.bool false)), none⟩])
 (.lv [2, 3] (.seq (.seq (.reg none [⟨some 5, .ld true 4 (.t 2), none⟩,
  ⟨some 6, .callP 59 [.t 5, .k (.int .i64 300)], none⟩,
  ⟨some 7, .not (.t 6), none⟩,
  ⟨some 8, .mov (.t 7), none⟩,
  ⟨some 9, .ld true 4 (.t 3), (some (8, false))⟩,
  ⟨some 10, .callP 59 [.t 9, .k (.int .i64 300)], (some (8, false))⟩,
  ⟨some 11, .not (.t 10), (some (8, false))⟩,
  ⟨some 12, .pick (.t 8) (.k (.bool true)) (.t 11), none⟩])
 (.lv [2, 3, 12] (.cond (.t 12) (.lv [] (.seq (.reg none [⟨some 13, .callP 34 [], none⟩,
  ⟨some 4, .mov (.t 13), none⟩])
 (.ret)))
 (.skip))))
 (.lv [2, 3] (.seq (.reg (some [0, 1, 2, 3, 4, 5, 6, 7, 8, 9, 10, 11, 12, 13, 14, 15, 16, 17, 18, 19, 20, 21, 22, 23, 24]) [⟨some 14, .ld true 4 (.t 2), none⟩,
  ⟨some 15, .callP 60 [.t 14], none⟩,
  ⟨some 16, .ld true 4 (.t 3), none⟩,
  ⟨some 17, .callP 60 [.t 16], none⟩,
  ⟨some 18, .callP 82 [.t 15, .t 17], none⟩,
  ⟨some 19, .ld true 4 (.t 2), none⟩,
  ⟨some 20, .ld true 4 (.t 3), none⟩,
  ⟨some 21, .callP 50 [.t 19, .t 20], none⟩,
  ⟨some 22, .binb .eq (.t 18) (.t 21), none⟩,
  ⟨some 23, .mov (.t 22), none⟩,
  ⟨some 24, .ld true 4 (.t 2), (some (23, true))⟩,
  ⟨some 25, .callP 60 [.t 24], (some (23, true))⟩,
  ⟨some 26, .ld true 4 (.t 2), (some (23, true))⟩,
  ⟨some 27, .callP 60 [.t 26], (some (23, true))⟩,
  ⟨some 28, .callP 82 [.t 25, .t 27], (some (23, true))⟩,
  ⟨some 29, .pick (.t 23) (.t 28) (.k (.bool false)), none⟩,
  ⟨some 30, .mov (.t 29), none⟩,
  ⟨some 31, .build [.nilsl 3 1, .bool false, .nilsl 21 1, .nilsl 70 3, .bool false] [], (some (30, true))⟩,
  ⟨some 32, .callP 58 [.k (.bool false)], (some (30, true))⟩,
  ⟨some 33, .callR 82 [.t 31, .t 32], (some (30, true))⟩,
  ⟨some 34, .pick (.t 30) (.t 33) (.k (.bool false)), none⟩,
  ⟨some 35, .mov (.t 34), none⟩,
  ⟨some 36, .callP 34 [], (some (35, true))⟩,
  ⟨some 37, .pick (.t 35) (.t 36) (.k (.bool false)), none⟩,
  ⟨some 4, .mov (.t 37), none⟩])
 (.ret)))))
def i12 : IFn := ⟨2, 38, c12, [.t 4], .pure⟩

/-! 13: typeball/typeballlaw07.awake -/
def c13 : IR :=
 .seq (.reg none [⟨some 0, .mov (.k (.bool false)), none⟩])
 (.lv [] (.seq (.reg none [⟨some 8, .bsl 3 1 [.k (.int .i64 2), .k (.int .i64 3)], none⟩,
  ⟨some 9, .bsl 3 1 [.k (.int .i64 1), .k (.int .i64 2)], none⟩,
  ⟨some 10, .callR 14 [.t 8, .t 9], none⟩,
  ⟨some 7, .mov (.t 10), none⟩,
  ⟨some 11, .ext (.t 7) 0, none⟩,
  ⟨some 12, .ext (.t 7) 1, none⟩,
  ⟨some 1, .mov (.t 11), none⟩,
  ⟨some 2, .mov (.t 12), none⟩])
 (.lv [1, 2] (.seq (.reg none [⟨some 14, .bsl 3 1 [.k (.int .i64 2), .k (.int .i64 3)], none⟩,
  ⟨some 15, .callR 26 [.t 14, .k (.int .i64 0)], none⟩,
  ⟨some 13, .mov (.t 15), none⟩,
  ⟨some 16, .ext (.t 13) 0, none⟩,
  ⟨some 17, .ext (.t 13) 1, none⟩,
  ⟨some 18, .ext (.t 13) 2, none⟩,
  ⟨some 19, .ext (.t 13) 3, none⟩,
  ⟨some 3, .mov (.t 16), none⟩,
  ⟨some 4, .mov (.t 17), none⟩,
  ⟨some 5, .mov (.t 18), none⟩,
  ⟨some 6, .mov (.t 19), none⟩])
 (.lv [1, 2, 3, 4, 5, 6] (.seq (.reg none [⟨some 20, .mov (.t 2), none⟩,
  ⟨some 21, .mov (.t 20), none⟩,
  ⟨some 22, .mov (.t 6), (some (21, true))⟩,
  ⟨some 23, .pick (.t 21) (.t 22) (.k (.bool false)), none⟩,
  ⟨some 24, .mov (.t 23), none⟩,
  ⟨some 25, .mov (.t 1), (some (24, true))⟩,
  ⟨some 26, .bin .eq (.t 25) (.k (.int .i64 5)), (some (24, true))⟩,
  ⟨some 27, .pick (.t 24) (.t 26) (.k (.bool false)), none⟩,
  ⟨some 28, .mov (.t 27), none⟩,
  ⟨some 29, .mov (.t 3), (some (28, true))⟩,
  ⟨some 30, .bin .eq (.t 29) (.k (.int .i64 1)), (some (28, true))⟩,
  ⟨some 31, .pick (.t 28) (.t 30) (.k (.bool false)), none⟩,
  ⟨some 32, .mov (.t 31), none⟩,
  ⟨some 33, .mov (.t 4), (some (32, true))⟩,
  ⟨some 34, .bin .eq (.t 33) (.k (.int .i64 2)), (some (32, true))⟩,
  ⟨some 35, .pick (.t 32) (.t 34) (.k (.bool false)), none⟩,
  ⟨some 36, .mov (.t 35), none⟩,
  ⟨some 37, .mov (.t 5), (some (36, true))⟩,
  ⟨some 38, .bin .eq (.t 37) (.k (.int .i64 3)), (some (36, true))⟩,
  ⟨some 39, .pick (.t 36) (.t 38) (.k (.bool false)), none⟩,
  ⟨some 40, .mov (.t 39), none⟩,
  ⟨some 41, .bsl 3 1 [.k (.int .i64 2), .k (.int .i64 3)], (some (40, true))⟩,
  ⟨some 42, .callF 24 [.t 41], (some (40, true))⟩,
  ⟨some 43, .bsl 3 1 [.k (.int .i64 3), .k (.int .i64 1)], (some (40, true))⟩,
  ⟨some 44, .callR 23 [.t 42, .t 43], (some (40, true))⟩,
  ⟨some 45, .pick (.t 40) (.t 44) (.k (.bool false)), none⟩,
  ⟨some 0, .mov (.t 45), none⟩])
 (.ret)))))))
def i13 : IFn := ⟨0, 46, c13, [.t 0], .pure⟩

/-! 14: typeball/shape.Place -/
def b14_0 : IR :=
 .seq (.reg none [⟨some 28, .bin .lt (.t 27) (.t 26), none⟩])
 (.lv [1, 8, 25, 26, 27, 28] (.seq (.cond (.t 28) (.skip)
 (.exit 0))
 (.lv [1, 8, 25, 26, 27] (.seq (.block 1 (.seq (.reg none [⟨some 29, .mov (.t 27), none⟩,
  ⟨some 30, .iaddrf 1 (.t 25) (.t 27), none⟩,
  ⟨some 31, .ldf false 1 (.t 30), none⟩,
  ⟨some 9, .mov (.t 29), none⟩,
  ⟨some 10, .mov (.t 31), none⟩])
 (.lv [1, 8, 9, 10, 25, 26, 27] (.seq (.seq (.reg none [⟨some 32, .mov (.t 1), none⟩,
  ⟨some 33, .mov (.t 9), none⟩,
  ⟨some 34, .iaddrf 1 (.t 32) (.t 33), none⟩,
  ⟨some 35, .ldf false 1 (.t 34), none⟩,
  ⟨some 36, .bin .lt (.t 35) (.k (.int .i64 0)), none⟩,
  ⟨some 37, .mov (.t 36), none⟩,
  ⟨some 38, .mov (.t 1), (some (37, false))⟩,
  ⟨some 39, .mov (.t 9), (some (37, false))⟩,
  ⟨some 40, .iaddrf 1 (.t 38) (.t 39), (some (37, false))⟩,
  ⟨some 41, .ldf false 1 (.t 40), (some (37, false))⟩,
  ⟨some 42, .mov (.t 10), (some (37, false))⟩,
  ⟨some 43, .bin .ge (.t 41) (.t 42), (some (37, false))⟩,
  ⟨some 44, .pick (.t 37) (.k (.bool true)) (.t 43), none⟩])
 (.lv [1, 8, 9, 10, 25, 26, 27, 44] (.cond (.t 44) (.lv [] (.seq (.reg none [⟨some 4, .mov (.k (.int .i64 0)), none⟩,
  ⟨some 5, .mov (.k (.bool false)), none⟩])
 (.ret)))
 (.skip))))
 (.lv [1, 8, 9, 10, 25, 26, 27] (.reg none [⟨some 45, .mov (.t 8), none⟩,
  ⟨some 46, .mov (.t 10), none⟩,
  ⟨some 47, .bin .mul (.t 45) (.t 46), none⟩,
  ⟨some 48, .mov (.t 1), none⟩,
  ⟨some 49, .mov (.t 9), none⟩,
  ⟨some 50, .iaddrf 1 (.t 48) (.t 49), none⟩,
  ⟨some 51, .ldf false 1 (.t 50), none⟩,
  ⟨some 52, .bin .add (.t 47) (.t 51), none⟩,
  ⟨some 8, .mov (.t 52), none⟩]))))))
 (.lv [1, 8, 25, 26, 27] (.reg none [⟨some 53, .bin .add (.t 27) (.k (.int .i64 1)), none⟩,
  ⟨some 27, .mov (.t 53), none⟩]))))))
def k14_0 : IR :=
 .seq (.reg none [⟨some 54, .mov (.t 8), none⟩,
  ⟨some 4, .mov (.t 54), none⟩,
  ⟨some 5, .mov (.k (.bool true)), none⟩])
 (.ret)
def c14 : IR :=
 .seq (.reg none [⟨some 4, .mov (.k (.int .i64 0)), none⟩,
  ⟨some 5, .mov (.k (.bool false)), none⟩])
 (.lv [0, 1] (.seq (.seq (.reg none [⟨some 12, .mov (.t 0), none⟩,
  ⟨some 13, .callP 35 [.t 12], none⟩,
  ⟨some 11, .mov (.t 13), none⟩,
  ⟨some 14, .ext (.t 11) 0, none⟩,
  ⟨some 15, .ext (.t 11) 1, none⟩,
  ⟨some 6, .mov (.t 14), none⟩,
  ⟨some 7, .mov (.t 15), none⟩])
 (.lv [0, 1, 7] (.seq (.reg none [⟨some 16, .mov (.t 7), none⟩,
  ⟨some 17, .not (.t 16), none⟩,
  ⟨some 18, .mov (.t 17), none⟩,
  ⟨some 19, .mov (.t 1), (some (18, false))⟩,
  ⟨some 20, .lenf (.t 19), (some (18, false))⟩,
  ⟨some 21, .mov (.t 0), (some (18, false))⟩,
  ⟨some 22, .lenf (.t 21), (some (18, false))⟩,
  ⟨some 23, .bin .ne (.t 20) (.t 22), (some (18, false))⟩,
  ⟨some 24, .pick (.t 18) (.k (.bool true)) (.t 23), none⟩])
 (.lv [0, 1, 24] (.cond (.t 24) (.lv [] (.seq (.reg none [⟨some 4, .mov (.k (.int .i64 0)), none⟩,
  ⟨some 5, .mov (.k (.bool false)), none⟩])
 (.ret)))
 (.skip))))))
 (.lv [0, 1] (.seq (.reg none [⟨some 8, .mov (.k (.int .i64 0)), none⟩])
 (.lv [0, 1, 8] (.seq (.seq (.reg none [⟨some 25, .mov (.t 0), none⟩,
  ⟨some 26, .lenf (.t 25), none⟩,
  ⟨some 27, .mov (.k (.int .i64 0)), none⟩])
 (.lv [1, 8, 25, 26, 27] (.block 0 (.loop [1, 8, 25, 26, 27] (some (0, [])) b14_0))))
 k14_0))))))
def i14 : IFn := ⟨2, 55, c14, [.t 4, .t 5], .pure⟩

/-! 15: typeball/typeballref07.Place -/
def c15 : IR :=
 .seq (.reg none [⟨some 4, .mov (.k (.int .i64 0)), none⟩,
  ⟨some 5, .mov (.k (.bool false)), none⟩])
 (.lv [0, 1] (.seq (.reg none [⟨some 10, .mov (.t 0), none⟩,
  ⟨some 11, .callP 17 [.t 10], none⟩,
  ⟨some 9, .mov (.t 11), none⟩,
  ⟨some 12, .ext (.t 9) 0, none⟩,
  ⟨some 13, .ext (.t 9) 1, none⟩,
  ⟨some 6, .mov (.t 12), none⟩,
  ⟨some 7, .mov (.t 13), none⟩])
 (.lv [0, 1, 7] (.seq (.reg none [⟨some 14, .mov (.t 0), none⟩,
  ⟨some 15, .mov (.t 1), none⟩,
  ⟨some 16, .callP 22 [.t 14, .t 15], none⟩,
  ⟨some 8, .mov (.t 16), none⟩])
 (.lv [0, 1, 7, 8] (.seq (.seq (.reg none [⟨some 17, .mov (.t 7), none⟩,
  ⟨some 18, .not (.t 17), none⟩,
  ⟨some 19, .mov (.t 18), none⟩,
  ⟨some 20, .mov (.t 0), (some (19, false))⟩,
  ⟨some 21, .lenf (.t 20), (some (19, false))⟩,
  ⟨some 22, .mov (.t 1), (some (19, false))⟩,
  ⟨some 23, .lenf (.t 22), (some (19, false))⟩,
  ⟨some 24, .bin .ne (.t 21) (.t 23), (some (19, false))⟩,
  ⟨some 25, .pick (.t 19) (.k (.bool true)) (.t 24), none⟩,
  ⟨some 26, .mov (.t 25), none⟩,
  ⟨some 27, .mov (.t 8), (some (26, false))⟩,
  ⟨some 28, .bin .lt (.t 27) (.k (.int .i64 0)), (some (26, false))⟩,
  ⟨some 29, .pick (.t 26) (.k (.bool true)) (.t 28), none⟩])
 (.lv [8, 29] (.cond (.t 29) (.lv [] (.seq (.reg none [⟨some 4, .mov (.k (.int .i64 0)), none⟩,
  ⟨some 5, .mov (.k (.bool false)), none⟩])
 (.ret)))
 (.skip))))
 (.lv [8] (.seq (.reg none [⟨some 30, .mov (.t 8), none⟩,
  ⟨some 4, .mov (.t 30), none⟩,
  ⟨some 5, .mov (.k (.bool true)), none⟩])
 (.ret)))))))))
def i15 : IFn := ⟨2, 31, c15, [.t 4, .t 5], .pure⟩

/-! 16: typeball/shape.Index -/
def b16_0 : IR :=
 .seq (.seq (.reg none [⟨some 32, .mov (.t 9), none⟩,
  ⟨some 33, .bin .ge (.t 32) (.k (.int .i64 0)), none⟩])
 (.lv [0, 1, 8, 9, 33] (.cond (.t 33) (.skip)
 (.exit 0))))
 (.lv [0, 1, 8, 9] (.seq (.block 1 (.seq (.reg none [⟨some 36, .mov (.t 8), none⟩,
  ⟨some 37, .mov (.t 9), none⟩,
  ⟨some 38, .mov (.t 1), none⟩,
  ⟨some 39, .mov (.t 0), none⟩,
  ⟨some 40, .mov (.t 9), none⟩,
  ⟨some 41, .iaddrf 1 (.t 39) (.t 40), none⟩,
  ⟨some 42, .ldf false 1 (.t 41), none⟩,
  ⟨some 43, .bin .rem (.t 38) (.t 42), none⟩,
  ⟨some 44, .iaddr 1 (.t 36) (.t 37), none⟩,
  ⟨none, .st 1 (.t 44) (.t 43), none⟩])
 (.lv [0, 1, 8, 9] (.reg none [⟨some 45, .mov (.t 1), none⟩,
  ⟨some 46, .mov (.t 0), none⟩,
  ⟨some 47, .mov (.t 9), none⟩,
  ⟨some 48, .iaddrf 1 (.t 46) (.t 47), none⟩,
  ⟨some 49, .ldf false 1 (.t 48), none⟩,
  ⟨some 50, .bin .quo (.t 45) (.t 49), none⟩,
  ⟨some 1, .mov (.t 50), none⟩]))))
 (.lv [0, 1, 8, 9] (.reg none [⟨some 34, .mov (.t 9), none⟩,
  ⟨some 35, .bin .sub (.t 34) (.k (.int .i64 1)), none⟩,
  ⟨some 9, .mov (.t 35), none⟩]))))
def k16_0 : IR :=
 .seq (.reg none [⟨some 51, .mov (.t 8), none⟩,
  ⟨some 4, .mov (.t 51), none⟩,
  ⟨some 5, .mov (.k (.bool true)), none⟩])
 (.ret)
def c16 : IR :=
 .seq (.reg none [⟨some 4, .newnil 3 1, none⟩,
  ⟨some 5, .mov (.k (.bool false)), none⟩])
 (.lv [0, 1] (.seq (.reg none [⟨some 11, .mov (.t 0), none⟩,
  ⟨some 12, .callP 35 [.t 11], none⟩,
  ⟨some 10, .mov (.t 12), none⟩,
  ⟨some 13, .ext (.t 10) 0, none⟩,
  ⟨some 14, .ext (.t 10) 1, none⟩,
  ⟨some 6, .mov (.t 13), none⟩,
  ⟨some 7, .mov (.t 14), none⟩])
 (.lv [0, 1, 6, 7] (.seq (.seq (.reg none [⟨some 15, .mov (.t 7), none⟩,
  ⟨some 16, .not (.t 15), none⟩,
  ⟨some 17, .mov (.t 16), none⟩,
  ⟨some 18, .mov (.t 1), (some (17, false))⟩,
  ⟨some 19, .bin .lt (.t 18) (.k (.int .i64 0)), (some (17, false))⟩,
  ⟨some 20, .pick (.t 17) (.k (.bool true)) (.t 19), none⟩,
  ⟨some 21, .mov (.t 20), none⟩,
  ⟨some 22, .mov (.t 1), (some (21, false))⟩,
  ⟨some 23, .mov (.t 6), (some (21, false))⟩,
  ⟨some 24, .bin .ge (.t 22) (.t 23), (some (21, false))⟩,
  ⟨some 25, .pick (.t 21) (.k (.bool true)) (.t 24), none⟩])
 (.lv [0, 1, 25] (.cond (.t 25) (.lv [] (.seq (.reg none [⟨some 4, .newnil 3 1, none⟩,
  ⟨some 5, .mov (.k (.bool false)), none⟩])
 (.ret)))
 (.skip))))
 (.lv [0, 1] (.seq (.reg none [⟨some 26, .mov (.t 0), none⟩,
  ⟨some 27, .lenf (.t 26), none⟩,
  ⟨some 28, .mk 3 8 [.int .i64 0] (.t 27), none⟩,
  ⟨some 8, .mov (.t 28), none⟩])
 (.lv [0, 1, 8] (.seq (.seq (.reg none [⟨some 29, .mov (.t 0), none⟩,
  ⟨some 30, .lenf (.t 29), none⟩,
  ⟨some 31, .bin .sub (.t 30) (.k (.int .i64 1)), none⟩,
  ⟨some 9, .mov (.t 31), none⟩])
 (.lv [0, 1, 8, 9] (.block 0 (.loop [0, 1, 8, 9] (some (2, [])) b16_0))))
 k16_0))))))))
def i16 : IFn := ⟨2, 52, c16, [.t 4, .t 5], .pure⟩

/-! 17: typeball/typeballref06.Count -/
def b17_0 : IR :=
 .seq (.seq (.reg none [⟨some 7, .mov (.t 6), none⟩,
  ⟨some 8, .mov (.t 0), none⟩,
  ⟨some 9, .lenf (.t 8), none⟩,
  ⟨some 10, .bin .lt (.t 7) (.t 9), none⟩])
 (.lv [0, 4, 5, 6, 10] (.cond (.t 10) (.skip)
 (.exit 0))))
 (.lv [0, 4, 5, 6] (.seq (.block 1 (.seq (.seq (.reg none [⟨some 13, .mov (.t 6), none⟩,
  ⟨some 14, .bin .ge (.t 13) (.k (.int .i64 8)), none⟩,
  ⟨some 15, .mov (.t 14), none⟩,
  ⟨some 16, .mov (.t 0), (some (15, false))⟩,
  ⟨some 17, .mov (.t 6), (some (15, false))⟩,
  ⟨some 18, .iaddrf 1 (.t 16) (.t 17), (some (15, false))⟩,
  ⟨some 19, .ldf false 1 (.t 18), (some (15, false))⟩,
  ⟨some 20, .bin .lt (.t 19) (.k (.int .i64 0)), (some (15, false))⟩,
  ⟨some 21, .pick (.t 15) (.k (.bool true)) (.t 20), none⟩,
  ⟨some 22, .mov (.t 21), none⟩,
  ⟨some 23, .mov (.t 0), (some (22, false))⟩,
  ⟨some 24, .mov (.t 6), (some (22, false))⟩,
  ⟨some 25, .iaddrf 1 (.t 23) (.t 24), (some (22, false))⟩,
  ⟨some 26, .ldf false 1 (.t 25), (some (22, false))⟩,
  ⟨some 27, .bin .gt (.t 26) (.k (.int .i64 4096)), (some (22, false))⟩,
  ⟨some 28, .pick (.t 22) (.k (.bool true)) (.t 27), none⟩])
 (.lv [0, 4, 5, 6, 28] (.cond (.t 28) (.lv [] (.seq (.reg none [⟨some 2, .mov (.k (.int .i64 0)), none⟩,
  ⟨some 3, .mov (.k (.bool false)), none⟩])
 (.ret)))
 (.skip))))
 (.lv [0, 4, 5, 6] (.seq (.reg none [⟨some 29, .mov (.t 5), none⟩,
  ⟨some 30, .mov (.t 0), none⟩,
  ⟨some 31, .mov (.t 6), none⟩,
  ⟨some 32, .iaddrf 1 (.t 30) (.t 31), none⟩,
  ⟨some 33, .ldf false 1 (.t 32), none⟩,
  ⟨some 34, .bin .mul (.t 29) (.t 33), none⟩,
  ⟨some 5, .mov (.t 34), none⟩])
 (.lv [0, 4, 5, 6] (.seq (.seq (.reg none [⟨some 35, .mov (.t 0), none⟩,
  ⟨some 36, .mov (.t 6), none⟩,
  ⟨some 37, .iaddrf 1 (.t 35) (.t 36), none⟩,
  ⟨some 38, .ldf false 1 (.t 37), none⟩,
  ⟨some 39, .bin .gt (.t 38) (.k (.int .i64 0)), none⟩])
 (.lv [0, 4, 5, 6, 39] (.cond (.t 39) (.lv [0, 4, 5, 6] (.reg none [⟨some 40, .mov (.t 4), none⟩,
  ⟨some 41, .mov (.t 0), none⟩,
  ⟨some 42, .mov (.t 6), none⟩,
  ⟨some 43, .iaddrf 1 (.t 41) (.t 42), none⟩,
  ⟨some 44, .ldf false 1 (.t 43), none⟩,
  ⟨some 45, .bin .mul (.t 40) (.t 44), none⟩,
  ⟨some 4, .mov (.t 45), none⟩]))
 (.skip))))
 (.lv [0, 4, 5, 6] (.seq (.reg none [⟨some 46, .mov (.t 4), none⟩,
  ⟨some 47, .bin .gt (.t 46) (.k (.int .i64 4096)), none⟩])
 (.lv [0, 4, 5, 6, 47] (.cond (.t 47) (.lv [] (.seq (.reg none [⟨some 2, .mov (.k (.int .i64 0)), none⟩,
  ⟨some 3, .mov (.k (.bool false)), none⟩])
 (.ret)))
 (.skip)))))))))))
 (.lv [0, 4, 5, 6] (.reg none [⟨some 11, .mov (.t 6), none⟩,
  ⟨some 12, .bin .add (.t 11) (.k (.int .i64 1)), none⟩,
  ⟨some 6, .mov (.t 12), none⟩]))))
def k17_0 : IR :=
 .seq (.reg none [⟨some 48, .mov (.t 5), none⟩,
  ⟨some 2, .mov (.t 48), none⟩,
  ⟨some 3, .mov (.k (.bool true)), none⟩])
 (.ret)
def c17 : IR :=
 .seq (.reg none [⟨some 2, .mov (.k (.int .i64 0)), none⟩,
  ⟨some 3, .mov (.k (.bool false)), none⟩])
 (.lv [0] (.seq (.reg none [⟨some 4, .mov (.k (.int .i64 1)), none⟩,
  ⟨some 5, .mov (.k (.int .i64 1)), none⟩])
 (.lv [0, 4, 5] (.seq (.seq (.reg none [⟨some 6, .mov (.k (.int .i64 0)), none⟩])
 (.lv [0, 4, 5, 6] (.block 0 (.loop [0, 4, 5, 6] (some (0, [])) b17_0))))
 k17_0))))
def i17 : IFn := ⟨1, 49, c17, [.t 2, .t 3], .pure⟩

/-! 18: typeball/shape.Places -/
def b18_1 : IR :=
 .seq (.seq (.reg none [⟨some 37, .mov (.t 10), none⟩,
  ⟨some 38, .bin .ge (.t 37) (.k (.int .i64 0)), none⟩])
 (.lv [0, 1, 7, 8, 10, 24, 25, 38] (.cond (.t 38) (.skip)
 (.exit 2))))
 (.lv [0, 1, 7, 8, 10, 24, 25] (.seq (.block 3 (.seq (.seq (.reg none [⟨some 41, .mov (.t 8), none⟩,
  ⟨some 42, .mov (.t 10), none⟩,
  ⟨some 43, .iaddr 1 (.t 41) (.t 42), none⟩,
  ⟨some 44, .ld false 1 (.t 43), none⟩,
  ⟨some 45, .bin .add (.t 44) (.k (.int .i64 1)), none⟩,
  ⟨some 46, .iaddr 1 (.t 41) (.t 42), none⟩,
  ⟨none, .st 1 (.t 46) (.t 45), none⟩])
 (.lv [0, 1, 7, 8, 10, 24, 25] (.seq (.reg (some [0, 1, 2, 3, 4, 5, 6, 7, 8]) [⟨some 47, .mov (.t 8), none⟩,
  ⟨some 48, .mov (.t 10), none⟩,
  ⟨some 49, .iaddr 1 (.t 47) (.t 48), none⟩,
  ⟨some 50, .ld false 1 (.t 49), none⟩,
  ⟨some 51, .mov (.t 0), none⟩,
  ⟨some 52, .mov (.t 10), none⟩,
  ⟨some 53, .iaddrf 1 (.t 51) (.t 52), none⟩,
  ⟨some 54, .ldf false 1 (.t 53), none⟩,
  ⟨some 55, .bin .lt (.t 50) (.t 54), none⟩])
 (.lv [0, 1, 7, 8, 10, 24, 25, 55] (.cond (.t 55) (.exit 2)
 (.skip))))))
 (.lv [0, 1, 7, 8, 10, 24, 25] (.reg none [⟨some 56, .mov (.t 8), none⟩,
  ⟨some 57, .mov (.t 10), none⟩,
  ⟨some 58, .iaddr 1 (.t 56) (.t 57), none⟩,
  ⟨none, .st 1 (.t 58) (.k (.int .i64 0)), none⟩]))))
 (.lv [0, 1, 7, 8, 10, 24, 25] (.reg none [⟨some 39, .mov (.t 10), none⟩,
  ⟨some 40, .bin .sub (.t 39) (.k (.int .i64 1)), none⟩,
  ⟨some 10, .mov (.t 40), none⟩]))))
def k18_0 : IR :=
 .reg none [⟨some 59, .bin .add (.t 25) (.k (.int .i64 1)), none⟩,
  ⟨some 25, .mov (.t 59), none⟩]
def b18_0 : IR :=
 .seq (.reg none [⟨some 26, .bin .lt (.t 25) (.t 24), none⟩])
 (.lv [0, 1, 7, 8, 24, 25, 26] (.seq (.cond (.t 26) (.skip)
 (.exit 0))
 (.lv [0, 1, 7, 8, 24, 25] (.seq (.block 1 (.seq (.reg none [⟨some 27, .mov (.t 25), none⟩,
  ⟨some 9, .mov (.t 27), none⟩])
 (.lv [0, 1, 7, 8, 9, 24, 25] (.seq (.reg none [⟨some 28, .mov (.t 7), none⟩,
  ⟨some 29, .mov (.t 9), none⟩,
  ⟨some 30, .mov (.t 1), none⟩,
  ⟨some 31, .mov (.t 8), none⟩,
  ⟨some 32, .callV (.t 30) [.t 31], none⟩,
  ⟨some 33, .iaddr 1 (.t 28) (.t 29), none⟩,
  ⟨none, .st 1 (.t 33) (.t 32), none⟩])
 (.lv [0, 1, 7, 8, 24, 25] (.seq (.reg none [⟨some 34, .mov (.t 0), none⟩,
  ⟨some 35, .lenf (.t 34), none⟩,
  ⟨some 36, .bin .sub (.t 35) (.k (.int .i64 1)), none⟩,
  ⟨some 10, .mov (.t 36), none⟩])
 (.lv [0, 1, 7, 8, 10, 24, 25] (.block 2 (.loop [0, 1, 7, 8, 10, 24, 25] (some (3, [])) b18_1)))))))))
 k18_0))))
def k18_1 : IR :=
 .seq (.reg none [⟨some 60, .mov (.t 7), none⟩,
  ⟨some 4, .mov (.t 60), none⟩])
 (.ret)
def c18 : IR :=
 .seq (.reg none [⟨some 4, .newnil 3 1, none⟩])
 (.lv [0, 1] (.seq (.reg none [⟨some 12, .mov (.t 0), none⟩,
  ⟨some 13, .callP 35 [.t 12], none⟩,
  ⟨some 11, .mov (.t 13), none⟩,
  ⟨some 14, .ext (.t 11) 0, none⟩,
  ⟨some 15, .ext (.t 11) 1, none⟩,
  ⟨some 5, .mov (.t 14), none⟩,
  ⟨some 6, .mov (.t 15), none⟩])
 (.lv [0, 1, 5, 6] (.seq (.seq (.reg none [⟨some 16, .mov (.t 6), none⟩,
  ⟨some 17, .not (.t 16), none⟩])
 (.lv [0, 1, 5, 17] (.cond (.t 17) (.lv [] (.seq (.reg none [⟨some 4, .newnil 3 1, none⟩])
 (.ret)))
 (.skip))))
 (.lv [0, 1, 5] (.seq (.reg none [⟨some 18, .mov (.t 5), none⟩,
  ⟨some 19, .mk 3 8 [.int .i64 0] (.t 18), none⟩,
  ⟨some 7, .mov (.t 19), none⟩])
 (.lv [0, 1, 7] (.seq (.reg none [⟨some 20, .mov (.t 0), none⟩,
  ⟨some 21, .lenf (.t 20), none⟩,
  ⟨some 22, .mk 3 8 [.int .i64 0] (.t 21), none⟩,
  ⟨some 8, .mov (.t 22), none⟩])
 (.lv [0, 1, 7, 8] (.seq (.seq (.reg none [⟨some 23, .mov (.t 7), none⟩,
  ⟨some 24, .len (.t 23), none⟩,
  ⟨some 25, .mov (.k (.int .i64 0)), none⟩])
 (.lv [0, 1, 7, 8, 24, 25] (.block 0 (.loop [0, 1, 7, 8, 24, 25] (some (3, [])) b18_0))))
 k18_1))))))))))
def i18 : IFn := ⟨2, 61, c18, [.t 4], .pure⟩

/-! 19: typeball/typeballlaw07.ShapePlaces$1 -/
def c19 : IR :=
 .seq (.reg none [⟨some 2, .mov (.k (.int .i64 0)), none⟩])
 (.lv [] (.seq (.reg none [⟨some 2, .mov (.k (.int .i64 1)), none⟩])
 (.ret)))
def i19 : IFn := ⟨1, 3, c19, [.t 2], .pure⟩

/-! 20: typeball/typeballref06.All -/
def b20_2 : IR :=
 .seq (.seq (.reg none [⟨some 22, .mov (.t 7), none⟩,
  ⟨some 23, .mov (.t 0), none⟩,
  ⟨some 24, .mov (.t 4), none⟩,
  ⟨some 25, .iaddrf 1 (.t 23) (.t 24), none⟩,
  ⟨some 26, .ldf false 1 (.t 25), none⟩,
  ⟨some 27, .bin .lt (.t 22) (.t 26), none⟩,
  ⟨some 28, .mov (.t 27), none⟩,
  ⟨some 29, .mov (.t 7), (some (28, true))⟩,
  ⟨some 30, .bin .lt (.t 29) (.k (.int .i64 4096)), (some (28, true))⟩,
  ⟨some 31, .pick (.t 28) (.t 30) (.k (.bool false)), none⟩])
 (.lv [0, 3, 4, 5, 6, 7, 31] (.cond (.t 31) (.skip)
 (.exit 4))))
 (.lv [0, 3, 4, 5, 6, 7] (.seq (.block 5 (.reg none [⟨some 34, .mov (.t 5), none⟩,
  ⟨some 35, .bsl 3 1 [], none⟩,
  ⟨some 36, .mov (.t 3), none⟩,
  ⟨some 37, .mov (.t 6), none⟩,
  ⟨some 38, .iaddr 1 (.t 36) (.t 37), none⟩,
  ⟨some 39, .ld false 1 (.t 38), none⟩,
  ⟨some 40, .app 3 1 8 (.t 35) (.t 39), none⟩,
  ⟨some 41, .mov (.t 7), none⟩,
  ⟨some 42, .bsl 3 1 [.t 41], none⟩,
  ⟨some 43, .app 3 1 8 (.t 40) (.t 42), none⟩,
  ⟨some 44, .bsl 22 1 [.t 43], none⟩,
  ⟨some 45, .app 22 1 24 (.t 34) (.t 44), none⟩,
  ⟨some 5, .mov (.t 45), none⟩]))
 (.lv [0, 3, 4, 5, 6, 7] (.reg none [⟨some 32, .mov (.t 7), none⟩,
  ⟨some 33, .bin .add (.t 32) (.k (.int .i64 1)), none⟩,
  ⟨some 7, .mov (.t 33), none⟩]))))
def k20_0 : IR :=
 .reg none [⟨some 20, .mov (.t 6), none⟩,
  ⟨some 21, .bin .add (.t 20) (.k (.int .i64 1)), none⟩,
  ⟨some 6, .mov (.t 21), none⟩]
def b20_1 : IR :=
 .seq (.seq (.reg none [⟨some 16, .mov (.t 6), none⟩,
  ⟨some 17, .mov (.t 3), none⟩,
  ⟨some 18, .len (.t 17), none⟩,
  ⟨some 19, .bin .lt (.t 16) (.t 18), none⟩])
 (.lv [0, 3, 4, 5, 6, 19] (.cond (.t 19) (.skip)
 (.exit 2))))
 (.lv [0, 3, 4, 5, 6] (.seq (.block 3 (.seq (.reg none [⟨some 7, .mov (.k (.int .i64 0)), none⟩])
 (.lv [0, 3, 4, 5, 6, 7] (.block 4 (.loop [0, 3, 4, 5, 6, 7] (some (1, [])) b20_2)))))
 k20_0))
def k20_1 : IR :=
 .reg none [⟨some 46, .mov (.t 5), none⟩,
  ⟨some 3, .mov (.t 46), none⟩]
def k20_2 : IR :=
 .reg none [⟨some 14, .mov (.t 4), none⟩,
  ⟨some 15, .bin .add (.t 14) (.k (.int .i64 1)), none⟩,
  ⟨some 4, .mov (.t 15), none⟩]
def b20_0 : IR :=
 .seq (.seq (.reg none [⟨some 10, .mov (.t 4), none⟩,
  ⟨some 11, .mov (.t 0), none⟩,
  ⟨some 12, .lenf (.t 11), none⟩,
  ⟨some 13, .bin .lt (.t 10) (.t 12), none⟩])
 (.lv [0, 3, 4, 13] (.cond (.t 13) (.skip)
 (.exit 0))))
 (.lv [0, 3, 4] (.seq (.block 1 (.seq (.reg none [⟨some 5, .newnil 22 1, none⟩])
 (.lv [0, 3, 4, 5] (.seq (.seq (.reg none [⟨some 6, .mov (.k (.int .i64 0)), none⟩])
 (.lv [0, 3, 4, 5, 6] (.block 2 (.loop [0, 3, 4, 5, 6] (some (1, [])) b20_1))))
 k20_1))))
 k20_2))
def k20_3 : IR :=
 .seq (.reg none [⟨some 47, .mov (.t 3), none⟩,
  ⟨some 2, .mov (.t 47), none⟩])
 (.ret)
def c20 : IR :=
 .seq (.reg none [⟨some 2, .newnil 22 1, none⟩])
 (.lv [0] (.seq (.reg none [⟨some 8, .bsl 3 1 [], none⟩,
  ⟨some 9, .bsl 22 1 [.t 8], none⟩,
  ⟨some 3, .mov (.t 9), none⟩])
 (.lv [0, 3] (.seq (.seq (.reg none [⟨some 4, .mov (.k (.int .i64 0)), none⟩])
 (.lv [0, 3, 4] (.block 0 (.loop [0, 3, 4] (some (0, [3])) b20_0))))
 k20_3))))
def i20 : IFn := ⟨1, 48, c20, [.t 2], .pure⟩

/-! 21: typeball/typeballlaw07.ShapePlaces$2 -/
def c21 : IR :=
 .seq (.reg none [⟨some 3, .mov (.k (.int .i64 0)), none⟩])
 (.lv [0, 1] (.seq (.reg none [⟨some 4, .ldf false 1 (.t 1), none⟩,
  ⟨some 5, .mov (.t 0), none⟩,
  ⟨some 6, .callP 22 [.t 4, .t 5], none⟩,
  ⟨some 3, .mov (.t 6), none⟩])
 (.ret)))
def i21 : IFn := ⟨2, 7, c21, [.t 3], .pure⟩

/-! 22: typeball/typeballref06.Place -/
def b22_0 : IR :=
 .seq (.seq (.reg none [⟨some 7, .mov (.t 6), none⟩,
  ⟨some 8, .mov (.t 0), none⟩,
  ⟨some 9, .lenf (.t 8), none⟩,
  ⟨some 10, .bin .lt (.t 7) (.t 9), none⟩,
  ⟨some 11, .mov (.t 10), none⟩,
  ⟨some 12, .mov (.t 6), (some (11, true))⟩,
  ⟨some 13, .mov (.t 1), (some (11, true))⟩,
  ⟨some 14, .lenf (.t 13), (some (11, true))⟩,
  ⟨some 15, .bin .lt (.t 12) (.t 14), (some (11, true))⟩,
  ⟨some 16, .pick (.t 11) (.t 15) (.k (.bool false)), none⟩])
 (.lv [0, 1, 5, 6, 16] (.cond (.t 16) (.skip)
 (.exit 0))))
 (.lv [0, 1, 5, 6] (.seq (.block 1 (.seq (.seq (.reg (some [0, 1, 2, 3, 4, 5, 6, 7, 8, 9, 10, 11, 12, 13, 14, 15]) [⟨some 19, .mov (.t 1), none⟩,
  ⟨some 20, .mov (.t 6), none⟩,
  ⟨some 21, .iaddrf 1 (.t 19) (.t 20), none⟩,
  ⟨some 22, .ldf false 1 (.t 21), none⟩,
  ⟨some 23, .bin .lt (.t 22) (.k (.int .i64 0)), none⟩,
  ⟨some 24, .mov (.t 23), none⟩,
  ⟨some 25, .mov (.t 1), (some (24, false))⟩,
  ⟨some 26, .mov (.t 6), (some (24, false))⟩,
  ⟨some 27, .iaddrf 1 (.t 25) (.t 26), (some (24, false))⟩,
  ⟨some 28, .ldf false 1 (.t 27), (some (24, false))⟩,
  ⟨some 29, .mov (.t 0), (some (24, false))⟩,
  ⟨some 30, .mov (.t 6), (some (24, false))⟩,
  ⟨some 31, .iaddrf 1 (.t 29) (.t 30), (some (24, false))⟩,
  ⟨some 32, .ldf false 1 (.t 31), (some (24, false))⟩,
  ⟨some 33, .bin .ge (.t 28) (.t 32), (some (24, false))⟩,
  ⟨some 34, .pick (.t 24) (.k (.bool true)) (.t 33), none⟩])
 (.lv [0, 1, 5, 6, 34] (.cond (.t 34) (.lv [] (.seq (.reg none [⟨some 4, .mov (.k (.int .i64 (-1))), none⟩])
 (.ret)))
 (.skip))))
 (.lv [0, 1, 5, 6] (.reg (some [0, 1, 2, 3, 4, 5, 6, 7, 8, 9, 10, 11]) [⟨some 35, .mov (.t 5), none⟩,
  ⟨some 36, .mov (.t 0), none⟩,
  ⟨some 37, .mov (.t 6), none⟩,
  ⟨some 38, .iaddrf 1 (.t 36) (.t 37), none⟩,
  ⟨some 39, .ldf false 1 (.t 38), none⟩,
  ⟨some 40, .bin .mul (.t 35) (.t 39), none⟩,
  ⟨some 41, .mov (.t 1), none⟩,
  ⟨some 42, .mov (.t 6), none⟩,
  ⟨some 43, .iaddrf 1 (.t 41) (.t 42), none⟩,
  ⟨some 44, .ldf false 1 (.t 43), none⟩,
  ⟨some 45, .bin .add (.t 40) (.t 44), none⟩,
  ⟨some 5, .mov (.t 45), none⟩]))))
 (.lv [0, 1, 5, 6] (.reg none [⟨some 17, .mov (.t 6), none⟩,
  ⟨some 18, .bin .add (.t 17) (.k (.int .i64 1)), none⟩,
  ⟨some 6, .mov (.t 18), none⟩]))))
def k22_0 : IR :=
 .seq (.reg none [⟨some 46, .mov (.t 5), none⟩,
  ⟨some 4, .mov (.t 46), none⟩])
 (.ret)
def c22 : IR :=
 .seq (.reg none [⟨some 4, .mov (.k (.int .i64 0)), none⟩])
 (.lv [0, 1] (.seq (.reg none [⟨some 5, .mov (.k (.int .i64 0)), none⟩])
 (.lv [0, 1, 5] (.seq (.seq (.reg none [⟨some 6, .mov (.k (.int .i64 0)), none⟩])
 (.lv [0, 1, 5, 6] (.block 0 (.loop [0, 1, 5, 6] (some (0, [])) b22_0))))
 k22_0))))
def i22 : IFn := ⟨2, 47, c22, [.t 4], .pure⟩

/-! 23: typeball/typeballref06.IntsSame -/
def b23_0 : IR :=
 .seq (.seq (.reg none [⟨some 11, .mov (.t 5), none⟩,
  ⟨some 12, .mov (.t 0), none⟩,
  ⟨some 13, .lenf (.t 12), none⟩,
  ⟨some 14, .bin .lt (.t 11) (.t 13), none⟩])
 (.lv [0, 1, 5, 14] (.cond (.t 14) (.skip)
 (.exit 0))))
 (.lv [0, 1, 5] (.seq (.block 1 (.seq (.reg (some [0, 1, 2, 3, 4, 5, 6, 7, 8]) [⟨some 17, .mov (.t 0), none⟩,
  ⟨some 18, .mov (.t 5), none⟩,
  ⟨some 19, .iaddrf 1 (.t 17) (.t 18), none⟩,
  ⟨some 20, .ldf false 1 (.t 19), none⟩,
  ⟨some 21, .mov (.t 1), none⟩,
  ⟨some 22, .mov (.t 5), none⟩,
  ⟨some 23, .iaddrf 1 (.t 21) (.t 22), none⟩,
  ⟨some 24, .ldf false 1 (.t 23), none⟩,
  ⟨some 25, .bin .ne (.t 20) (.t 24), none⟩])
 (.lv [0, 1, 5, 25] (.cond (.t 25) (.lv [] (.seq (.reg none [⟨some 4, .mov (.k (.bool false)), none⟩])
 (.ret)))
 (.skip)))))
 (.lv [0, 1, 5] (.reg none [⟨some 15, .mov (.t 5), none⟩,
  ⟨some 16, .bin .add (.t 15) (.k (.int .i64 1)), none⟩,
  ⟨some 5, .mov (.t 16), none⟩]))))
def k23_0 : IR :=
 .seq (.reg none [⟨some 4, .mov (.k (.bool true)), none⟩])
 (.ret)
def c23 : IR :=
 .seq (.reg none [⟨some 4, .mov (.k (.bool false)), none⟩])
 (.lv [0, 1] (.seq (.seq (.reg none [⟨some 6, .mov (.t 0), none⟩,
  ⟨some 7, .lenf (.t 6), none⟩,
  ⟨some 8, .mov (.t 1), none⟩,
  ⟨some 9, .lenf (.t 8), none⟩,
  ⟨some 10, .bin .ne (.t 7) (.t 9), none⟩])
 (.lv [0, 1, 10] (.cond (.t 10) (.lv [] (.seq (.reg none [⟨some 4, .mov (.k (.bool false)), none⟩])
 (.ret)))
 (.skip))))
 (.lv [0, 1] (.seq (.seq (.reg none [⟨some 5, .mov (.k (.int .i64 0)), none⟩])
 (.lv [0, 1, 5] (.block 0 (.loop [0, 1, 5] (some (0, [])) b23_0))))
 k23_0))))
def i23 : IFn := ⟨2, 26, c23, [.t 4], .pure⟩

/-! 24: typeball/shape.Strides -/
def b24_0 : IR :=
 .seq (.seq (.reg none [⟨some 12, .mov (.t 5), none⟩,
  ⟨some 13, .bin .ge (.t 12) (.k (.int .i64 0)), none⟩])
 (.lv [0, 3, 4, 5, 13] (.cond (.t 13) (.skip)
 (.exit 0))))
 (.lv [0, 3, 4, 5] (.seq (.block 1 (.seq (.reg none [⟨some 16, .mov (.t 3), none⟩,
  ⟨some 17, .mov (.t 5), none⟩,
  ⟨some 18, .mov (.t 4), none⟩,
  ⟨some 19, .iaddr 1 (.t 16) (.t 17), none⟩,
  ⟨none, .st 1 (.t 19) (.t 18), none⟩])
 (.lv [0, 3, 4, 5] (.reg none [⟨some 20, .mov (.t 4), none⟩,
  ⟨some 21, .mov (.t 0), none⟩,
  ⟨some 22, .mov (.t 5), none⟩,
  ⟨some 23, .iaddrf 1 (.t 21) (.t 22), none⟩,
  ⟨some 24, .ldf false 1 (.t 23), none⟩,
  ⟨some 25, .bin .mul (.t 20) (.t 24), none⟩,
  ⟨some 4, .mov (.t 25), none⟩]))))
 (.lv [0, 3, 4, 5] (.reg none [⟨some 14, .mov (.t 5), none⟩,
  ⟨some 15, .bin .sub (.t 14) (.k (.int .i64 1)), none⟩,
  ⟨some 5, .mov (.t 15), none⟩]))))
def k24_0 : IR :=
 .seq (.reg none [⟨some 26, .mov (.t 3), none⟩,
  ⟨some 2, .mov (.t 26), none⟩])
 (.ret)
def c24 : IR :=
 .seq (.reg none [⟨some 2, .newnil 3 1, none⟩])
 (.lv [0] (.seq (.reg none [⟨some 6, .mov (.t 0), none⟩,
  ⟨some 7, .lenf (.t 6), none⟩,
  ⟨some 8, .mk 3 8 [.int .i64 0] (.t 7), none⟩,
  ⟨some 3, .mov (.t 8), none⟩])
 (.lv [0, 3] (.seq (.reg none [⟨some 4, .mov (.k (.int .i64 1)), none⟩])
 (.lv [0, 3, 4] (.seq (.seq (.reg none [⟨some 9, .mov (.t 0), none⟩,
  ⟨some 10, .lenf (.t 9), none⟩,
  ⟨some 11, .bin .sub (.t 10) (.k (.int .i64 1)), none⟩,
  ⟨some 5, .mov (.t 11), none⟩])
 (.lv [0, 3, 4, 5] (.block 0 (.loop [0, 3, 4, 5] (some (2, [])) b24_0))))
 k24_0))))))
def i24 : IFn := ⟨1, 27, c24, [.t 2], .pure⟩

/-! 25: typeball/typeballref07.Strides -/
def b25_0 : IR :=
 .seq (.seq (.reg none [⟨some 5, .mov (.t 4), none⟩,
  ⟨some 6, .mov (.t 0), none⟩,
  ⟨some 7, .lenf (.t 6), none⟩,
  ⟨some 8, .bin .lt (.t 5) (.t 7), none⟩])
 (.lv [0, 3, 4, 8] (.cond (.t 8) (.skip)
 (.exit 0))))
 (.lv [0, 3, 4] (.seq (.block 1 (.reg none [⟨some 11, .mov (.t 3), none⟩,
  ⟨some 12, .mov (.t 0), none⟩,
  ⟨some 13, .mov (.t 4), none⟩,
  ⟨some 14, .bin .add (.t 13) (.k (.int .i64 1)), none⟩,
  ⟨some 15, .cut 1 (.t 12) (some (.t 14)) none, none⟩,
  ⟨some 16, .callP 33 [.t 15], none⟩,
  ⟨some 17, .bsl 3 1 [.t 16], none⟩,
  ⟨some 18, .app 3 1 8 (.t 11) (.t 17), none⟩,
  ⟨some 3, .mov (.t 18), none⟩]))
 (.lv [0, 3, 4] (.reg none [⟨some 9, .mov (.t 4), none⟩,
  ⟨some 10, .bin .add (.t 9) (.k (.int .i64 1)), none⟩,
  ⟨some 4, .mov (.t 10), none⟩]))))
def k25_0 : IR :=
 .seq (.reg none [⟨some 19, .mov (.t 3), none⟩,
  ⟨some 2, .mov (.t 19), none⟩])
 (.ret)
def c25 : IR :=
 .seq (.reg none [⟨some 2, .newnil 3 1, none⟩])
 (.lv [0] (.seq (.reg none [⟨some 3, .newnil 3 1, none⟩])
 (.lv [0, 3] (.seq (.seq (.reg none [⟨some 4, .mov (.k (.int .i64 0)), none⟩])
 (.lv [0, 3, 4] (.block 0 (.loop [0, 3, 4] (some (2, [])) b25_0))))
 k25_0))))
def i25 : IFn := ⟨1, 20, c25, [.t 2], .pure⟩

/-! 26: typeball/shape.Split -/
def c26 : IR :=
 .seq (.reg none [⟨some 4, .mov (.k (.int .i64 0)), none⟩,
  ⟨some 5, .mov (.k (.int .i64 0)), none⟩,
  ⟨some 6, .mov (.k (.int .i64 0)), none⟩,
  ⟨some 7, .mov (.k (.bool false)), none⟩])
 (.lv [0, 1] (.seq (.seq (.reg none [⟨some 15, .mov (.t 0), none⟩,
  ⟨some 16, .callP 35 [.t 15], none⟩,
  ⟨some 14, .mov (.t 16), none⟩,
  ⟨some 17, .ext (.t 14) 0, none⟩,
  ⟨some 18, .ext (.t 14) 1, none⟩,
  ⟨some 8, .mov (.t 17), none⟩,
  ⟨some 9, .mov (.t 18), none⟩])
 (.lv [0, 1, 9] (.seq (.reg none [⟨some 19, .mov (.t 9), none⟩,
  ⟨some 20, .not (.t 19), none⟩,
  ⟨some 21, .mov (.t 20), none⟩,
  ⟨some 22, .mov (.t 1), (some (21, false))⟩,
  ⟨some 23, .bin .lt (.t 22) (.k (.int .i64 0)), (some (21, false))⟩,
  ⟨some 24, .pick (.t 21) (.k (.bool true)) (.t 23), none⟩,
  ⟨some 25, .mov (.t 24), none⟩,
  ⟨some 26, .mov (.t 1), (some (25, false))⟩,
  ⟨some 27, .mov (.t 0), (some (25, false))⟩,
  ⟨some 28, .lenf (.t 27), (some (25, false))⟩,
  ⟨some 29, .bin .ge (.t 26) (.t 28), (some (25, false))⟩,
  ⟨some 30, .pick (.t 25) (.k (.bool true)) (.t 29), none⟩])
 (.lv [0, 1, 30] (.cond (.t 30) (.lv [] (.seq (.reg none [⟨some 4, .mov (.k (.int .i64 0)), none⟩,
  ⟨some 5, .mov (.k (.int .i64 0)), none⟩,
  ⟨some 6, .mov (.k (.int .i64 0)), none⟩,
  ⟨some 7, .mov (.k (.bool false)), none⟩])
 (.ret)))
 (.skip))))))
 (.lv [0, 1] (.seq (.reg none [⟨some 32, .mov (.t 0), none⟩,
  ⟨some 33, .mov (.t 1), none⟩,
  ⟨some 34, .cut 1 (.t 32) none (some (.t 33)), none⟩,
  ⟨some 35, .callP 35 [.t 34], none⟩,
  ⟨some 31, .mov (.t 35), none⟩,
  ⟨some 36, .ext (.t 31) 0, none⟩,
  ⟨some 37, .ext (.t 31) 1, none⟩,
  ⟨some 10, .mov (.t 36), none⟩,
  ⟨some 11, .mov (.t 37), none⟩])
 (.lv [0, 1, 10] (.seq (.reg none [⟨some 39, .mov (.t 0), none⟩,
  ⟨some 40, .mov (.t 1), none⟩,
  ⟨some 41, .bin .add (.t 40) (.k (.int .i64 1)), none⟩,
  ⟨some 42, .cut 1 (.t 39) (some (.t 41)) none, none⟩,
  ⟨some 43, .callP 35 [.t 42], none⟩,
  ⟨some 38, .mov (.t 43), none⟩,
  ⟨some 44, .ext (.t 38) 0, none⟩,
  ⟨some 45, .ext (.t 38) 1, none⟩,
  ⟨some 12, .mov (.t 44), none⟩,
  ⟨some 13, .mov (.t 45), none⟩])
 (.lv [0, 1, 10, 12] (.seq (.reg (some [0, 1, 2, 3, 4, 5, 6, 7, 8, 9]) [⟨some 46, .mov (.t 10), none⟩,
  ⟨some 47, .mov (.t 0), none⟩,
  ⟨some 48, .mov (.t 1), none⟩,
  ⟨some 49, .iaddrf 1 (.t 47) (.t 48), none⟩,
  ⟨some 50, .ldf false 1 (.t 49), none⟩,
  ⟨some 51, .mov (.t 12), none⟩,
  ⟨some 4, .mov (.t 46), none⟩,
  ⟨some 5, .mov (.t 50), none⟩,
  ⟨some 6, .mov (.t 51), none⟩,
  ⟨some 7, .mov (.k (.bool true)), none⟩])
 (.ret)))))))))
def i26 : IFn := ⟨2, 52, c26, [.t 4, .t 5, .t 6, .t 7], .pure⟩

/-! 27: typeball/shape.Same -/
def c27 : IR :=
 .seq (.reg none [⟨some 4, .mov (.k (.bool false)), none⟩])
 (.lv [0, 1] (.seq (.reg none [⟨some 5, .mov (.t 0), none⟩,
  ⟨some 6, .mov (.t 1), none⟩,
  ⟨some 7, .callP 83 [.t 5, .t 6], none⟩,
  ⟨some 4, .mov (.t 7), none⟩])
 (.ret)))
def i27 : IFn := ⟨2, 8, c27, [.t 4], .pure⟩

/-! 28: typeball/shape.Join -/
def c28 : IR :=
 .seq (.reg none [⟨some 2, .newnil 3 1, none⟩])
 (.lv [0] (.seq (.reg none [⟨some 3, .mov (.t 0), none⟩,
  ⟨some 4, .callP 84 [.t 3], none⟩,
  ⟨some 2, .mov (.t 4), none⟩])
 (.ret)))
def i28 : IFn := ⟨1, 5, c28, [.t 2], .pure⟩

/-! 29: typeball/shape.With -/
def c29 : IR :=
 .seq (.reg none [⟨some 6, .newnil 3 1, none⟩])
 (.lv [0, 1, 2] (.seq (.reg none [⟨some 8, .mov (.t 0), none⟩,
  ⟨some 9, .callO 85 [.t 8], none⟩,
  ⟨some 7, .mov (.t 9), none⟩])
 (.lv [1, 2, 7] (.seq (.seq (.reg none [⟨some 10, .mov (.t 1), none⟩,
  ⟨some 11, .bin .ge (.t 10) (.k (.int .i64 0)), none⟩,
  ⟨some 12, .mov (.t 11), none⟩,
  ⟨some 13, .mov (.t 1), (some (12, true))⟩,
  ⟨some 14, .mov (.t 7), (some (12, true))⟩,
  ⟨some 15, .len (.t 14), (some (12, true))⟩,
  ⟨some 16, .bin .lt (.t 13) (.t 15), (some (12, true))⟩,
  ⟨some 17, .pick (.t 12) (.t 16) (.k (.bool false)), none⟩])
 (.lv [1, 2, 7, 17] (.cond (.t 17) (.lv [1, 2, 7] (.reg none [⟨some 18, .mov (.t 7), none⟩,
  ⟨some 19, .mov (.t 1), none⟩,
  ⟨some 20, .mov (.t 2), none⟩,
  ⟨some 21, .iaddr 1 (.t 18) (.t 19), none⟩,
  ⟨none, .st 1 (.t 21) (.t 20), none⟩]))
 (.skip))))
 (.lv [7] (.seq (.reg none [⟨some 22, .mov (.t 7), none⟩,
  ⟨some 6, .mov (.t 22), none⟩])
 (.ret)))))))
def i29 : IFn := ⟨3, 23, c29, [.t 6], .pure⟩

/-! 30: typeball/typeballref07.With -/
def b30_0 : IR :=
 .seq (.seq (.reg none [⟨some 9, .mov (.t 8), none⟩,
  ⟨some 10, .mov (.t 0), none⟩,
  ⟨some 11, .lenf (.t 10), none⟩,
  ⟨some 12, .bin .lt (.t 9) (.t 11), none⟩])
 (.lv [0, 1, 2, 7, 8, 12] (.cond (.t 12) (.skip)
 (.exit 0))))
 (.lv [0, 1, 2, 7, 8] (.seq (.block 1 (.seq (.reg none [⟨some 15, .mov (.t 8), none⟩,
  ⟨some 16, .mov (.t 1), none⟩,
  ⟨some 17, .bin .eq (.t 15) (.t 16), none⟩])
 (.lv [0, 1, 2, 7, 8, 17] (.cond (.t 17) (.lv [0, 1, 2, 7, 8] (.reg none [⟨some 18, .mov (.t 7), none⟩,
  ⟨some 19, .mov (.t 2), none⟩,
  ⟨some 20, .bsl 3 1 [.t 19], none⟩,
  ⟨some 21, .app 3 1 8 (.t 18) (.t 20), none⟩,
  ⟨some 7, .mov (.t 21), none⟩]))
 (.lv [0, 1, 2, 7, 8] (.reg none [⟨some 22, .mov (.t 7), none⟩,
  ⟨some 23, .mov (.t 0), none⟩,
  ⟨some 24, .mov (.t 8), none⟩,
  ⟨some 25, .iaddrf 1 (.t 23) (.t 24), none⟩,
  ⟨some 26, .ldf false 1 (.t 25), none⟩,
  ⟨some 27, .bsl 3 1 [.t 26], none⟩,
  ⟨some 28, .app 3 1 8 (.t 22) (.t 27), none⟩,
  ⟨some 7, .mov (.t 28), none⟩]))))))
 (.lv [0, 1, 2, 7, 8] (.reg none [⟨some 13, .mov (.t 8), none⟩,
  ⟨some 14, .bin .add (.t 13) (.k (.int .i64 1)), none⟩,
  ⟨some 8, .mov (.t 14), none⟩]))))
def k30_0 : IR :=
 .seq (.reg none [⟨some 29, .mov (.t 7), none⟩,
  ⟨some 6, .mov (.t 29), none⟩])
 (.ret)
def c30 : IR :=
 .seq (.reg none [⟨some 6, .newnil 3 1, none⟩])
 (.lv [0, 1, 2] (.seq (.reg none [⟨some 7, .newnil 3 1, none⟩])
 (.lv [0, 1, 2, 7] (.seq (.seq (.reg none [⟨some 8, .mov (.k (.int .i64 0)), none⟩])
 (.lv [0, 1, 2, 7, 8] (.block 0 (.loop [0, 1, 2, 7, 8] (some (2, [])) b30_0))))
 k30_0))))
def i30 : IFn := ⟨3, 30, c30, [.t 6], .pure⟩

/-! 31: typeball/shape.Without -/
def c31 : IR :=
 .seq (.reg none [⟨some 4, .newnil 3 1, none⟩])
 (.lv [0, 1] (.seq (.seq (.reg none [⟨some 5, .mov (.t 1), none⟩,
  ⟨some 6, .bin .lt (.t 5) (.k (.int .i64 0)), none⟩,
  ⟨some 7, .mov (.t 6), none⟩,
  ⟨some 8, .mov (.t 1), (some (7, false))⟩,
  ⟨some 9, .mov (.t 0), (some (7, false))⟩,
  ⟨some 10, .lenf (.t 9), (some (7, false))⟩,
  ⟨some 11, .bin .ge (.t 8) (.t 10), (some (7, false))⟩,
  ⟨some 12, .pick (.t 7) (.k (.bool true)) (.t 11), none⟩])
 (.lv [0, 1, 12] (.cond (.t 12) (.lv [0] (.seq (.reg none [⟨some 13, .mov (.t 0), none⟩,
  ⟨some 14, .callO 85 [.t 13], none⟩,
  ⟨some 4, .mov (.t 14), none⟩])
 (.ret)))
 (.skip))))
 (.lv [0, 1] (.seq (.reg (some [0, 1, 2, 3, 4, 5, 6, 7, 8, 9]) [⟨some 15, .mov (.t 0), none⟩,
  ⟨some 16, .mov (.t 1), none⟩,
  ⟨some 17, .cut 1 (.t 15) none (some (.t 16)), none⟩,
  ⟨some 18, .mov (.t 0), none⟩,
  ⟨some 19, .mov (.t 1), none⟩,
  ⟨some 20, .bin .add (.t 19) (.k (.int .i64 1)), none⟩,
  ⟨some 21, .cut 1 (.t 18) (some (.t 20)) none, none⟩,
  ⟨some 22, .bsl 22 1 [.t 17, .t 21], none⟩,
  ⟨some 23, .callF 84 [.t 22], none⟩,
  ⟨some 4, .mov (.t 23), none⟩])
 (.ret)))))
def i31 : IFn := ⟨2, 24, c31, [.t 4], .pure⟩

/-! 32: typeball/typeballref07.Without -/
def b32_0 : IR :=
 .seq (.seq (.reg none [⟨some 7, .mov (.t 6), none⟩,
  ⟨some 8, .mov (.t 0), none⟩,
  ⟨some 9, .lenf (.t 8), none⟩,
  ⟨some 10, .bin .lt (.t 7) (.t 9), none⟩])
 (.lv [0, 1, 5, 6, 10] (.cond (.t 10) (.skip)
 (.exit 0))))
 (.lv [0, 1, 5, 6] (.seq (.block 1 (.seq (.reg none [⟨some 13, .mov (.t 6), none⟩,
  ⟨some 14, .mov (.t 1), none⟩,
  ⟨some 15, .bin .ne (.t 13) (.t 14), none⟩])
 (.lv [0, 1, 5, 6, 15] (.cond (.t 15) (.lv [0, 1, 5, 6] (.reg none [⟨some 16, .mov (.t 5), none⟩,
  ⟨some 17, .mov (.t 0), none⟩,
  ⟨some 18, .mov (.t 6), none⟩,
  ⟨some 19, .iaddrf 1 (.t 17) (.t 18), none⟩,
  ⟨some 20, .ldf false 1 (.t 19), none⟩,
  ⟨some 21, .bsl 3 1 [.t 20], none⟩,
  ⟨some 22, .app 3 1 8 (.t 16) (.t 21), none⟩,
  ⟨some 5, .mov (.t 22), none⟩]))
 (.skip)))))
 (.lv [0, 1, 5, 6] (.reg none [⟨some 11, .mov (.t 6), none⟩,
  ⟨some 12, .bin .add (.t 11) (.k (.int .i64 1)), none⟩,
  ⟨some 6, .mov (.t 12), none⟩]))))
def k32_0 : IR :=
 .seq (.reg none [⟨some 23, .mov (.t 5), none⟩,
  ⟨some 4, .mov (.t 23), none⟩])
 (.ret)
def c32 : IR :=
 .seq (.reg none [⟨some 4, .newnil 3 1, none⟩])
 (.lv [0, 1] (.seq (.reg none [⟨some 5, .newnil 3 1, none⟩])
 (.lv [0, 1, 5] (.seq (.seq (.reg none [⟨some 6, .mov (.k (.int .i64 0)), none⟩])
 (.lv [0, 1, 5, 6] (.block 0 (.loop [0, 1, 5, 6] (some (2, [])) b32_0))))
 k32_0))))
def i32 : IFn := ⟨2, 24, c32, [.t 4], .pure⟩

/-! 33: typeball/typeballref07.Product -/
def b33_0 : IR :=
 .seq (.seq (.reg none [⟨some 5, .mov (.t 4), none⟩,
  ⟨some 6, .mov (.t 0), none⟩,
  ⟨some 7, .lenf (.t 6), none⟩,
  ⟨some 8, .bin .lt (.t 5) (.t 7), none⟩])
 (.lv [0, 3, 4, 8] (.cond (.t 8) (.skip)
 (.exit 0))))
 (.lv [0, 3, 4] (.seq (.block 1 (.reg none [⟨some 11, .mov (.t 3), none⟩,
  ⟨some 12, .mov (.t 0), none⟩,
  ⟨some 13, .mov (.t 4), none⟩,
  ⟨some 14, .iaddrf 1 (.t 12) (.t 13), none⟩,
  ⟨some 15, .ldf false 1 (.t 14), none⟩,
  ⟨some 16, .bin .mul (.t 11) (.t 15), none⟩,
  ⟨some 3, .mov (.t 16), none⟩]))
 (.lv [0, 3, 4] (.reg none [⟨some 9, .mov (.t 4), none⟩,
  ⟨some 10, .bin .add (.t 9) (.k (.int .i64 1)), none⟩,
  ⟨some 4, .mov (.t 10), none⟩]))))
def k33_0 : IR :=
 .seq (.reg none [⟨some 17, .mov (.t 3), none⟩,
  ⟨some 2, .mov (.t 17), none⟩])
 (.ret)
def c33 : IR :=
 .seq (.reg none [⟨some 2, .mov (.k (.int .i64 0)), none⟩])
 (.lv [0] (.seq (.reg none [⟨some 3, .mov (.k (.int .i64 1)), none⟩])
 (.lv [0, 3] (.seq (.seq (.reg none [⟨some 4, .mov (.k (.int .i64 0)), none⟩])
 (.lv [0, 3, 4] (.block 0 (.loop [0, 3, 4] (some (0, [])) b33_0))))
 k33_0))))
def i33 : IFn := ⟨1, 18, c33, [.t 2], .pure⟩

/-! 34: typeball/typeballlaw06.awake -/
def c34 : IR :=
 .seq (.reg none [⟨some 0, .mov (.k (.bool false)), none⟩])
 (.lv [] (.seq (.reg none [⟨some 6, .bsl 3 1 [.k (.int .i64 5), .k (.int .i64 6)], none⟩,
  ⟨some 7, .callF 51 [.t 6], none⟩,
  ⟨some 8, .bsl 3 1 [.k (.int .i64 2), .k (.int .i64 2)], none⟩,
  ⟨some 9, .bsl 3 1 [.k (.int .i64 1), .k (.int .i64 0), .k (.int .i64 9), .k (.int .i64 1)], none⟩,
  ⟨some 10, .callF 61 [.t 7, .t 8, .t 9], none⟩,
  ⟨some 5, .mov (.t 10), none⟩,
  ⟨some 11, .ext (.t 5) 0, none⟩,
  ⟨some 12, .ext (.t 5) 1, none⟩,
  ⟨some 1, .alloc 48 [.nilsl 3 1, .bool false, .nilsl 21 1, .nilsl 70 3, .bool false], none⟩,
  ⟨none, .st 5 (.t 1) (.t 11), none⟩,
  ⟨some 2, .mov (.t 12), none⟩])
 (.lv [1, 2] (.seq (.reg none [⟨some 14, .ld true 5 (.t 1), none⟩,
  ⟨some 15, .callO 41 [.t 14], none⟩,
  ⟨some 13, .mov (.t 15), none⟩,
  ⟨some 16, .ext (.t 13) 0, none⟩,
  ⟨some 17, .ext (.t 13) 1, none⟩,
  ⟨some 3, .mov (.t 16), none⟩,
  ⟨some 4, .mov (.t 17), none⟩])
 (.lv [2, 3, 4] (.seq (.reg none [⟨some 18, .mov (.t 2), none⟩,
  ⟨some 19, .mov (.t 18), none⟩,
  ⟨some 20, .mov (.t 4), (some (19, true))⟩,
  ⟨some 21, .pick (.t 19) (.t 20) (.k (.bool false)), none⟩,
  ⟨some 22, .mov (.t 21), none⟩,
  ⟨some 23, .mov (.t 3), (some (22, true))⟩,
  ⟨some 24, .bsl 3 1 [.k (.int .i64 6), .k (.int .i64 5), .k (.int .i64 0), .k (.int .i64 6)], (some (22, true))⟩,
  ⟨some 25, .callR 23 [.t 23, .t 24], (some (22, true))⟩,
  ⟨some 26, .pick (.t 22) (.t 25) (.k (.bool false)), none⟩,
  ⟨some 27, .mov (.t 26), none⟩,
  ⟨some 28, .bsl 3 1 [.k (.int .i64 1), .k (.int .i64 2)], (some (27, true))⟩,
  ⟨some 29, .callF 51 [.t 28], (some (27, true))⟩,
  ⟨some 30, .callP 80 [.t 29], (some (27, true))⟩,
  ⟨some 31, .bin .eq (.t 30) (.k (.int .i64 52)), (some (27, true))⟩,
  ⟨some 32, .pick (.t 27) (.t 31) (.k (.bool false)), none⟩,
  ⟨some 0, .mov (.t 32), none⟩])
 (.ret)))))))
def i34 : IFn := ⟨0, 33, c34, [.t 0], .pure⟩

/-! 35: typeball/array.Count -/
def b35_0 : IR :=
 .seq (.reg none [⟨some 14, .bin .lt (.t 13) (.t 12), none⟩])
 (.lv [4, 5, 11, 12, 13, 14] (.seq (.cond (.t 14) (.skip)
 (.exit 0))
 (.lv [4, 5, 11, 12, 13] (.seq (.block 1 (.seq (.reg none [⟨some 15, .iaddrf 1 (.t 11) (.t 13), none⟩,
  ⟨some 16, .ldf false 1 (.t 15), none⟩,
  ⟨some 7, .mov (.t 16), none⟩])
 (.lv [4, 5, 7, 11, 12, 13] (.seq (.seq (.reg none [⟨some 17, .mov (.t 7), none⟩,
  ⟨some 18, .bin .lt (.t 17) (.k (.int .i64 0)), none⟩,
  ⟨some 19, .mov (.t 18), none⟩,
  ⟨some 20, .mov (.t 7), (some (19, false))⟩,
  ⟨some 21, .mov (.t 4), (some (19, false))⟩,
  ⟨some 22, .bin .quo (.k (.int .i64 4096)) (.t 21), (some (19, false))⟩,
  ⟨some 23, .bin .gt (.t 20) (.t 22), (some (19, false))⟩,
  ⟨some 24, .pick (.t 19) (.k (.bool true)) (.t 23), none⟩])
 (.lv [4, 5, 7, 11, 12, 13, 24] (.cond (.t 24) (.lv [] (.seq (.reg none [⟨some 2, .mov (.k (.int .i64 0)), none⟩,
  ⟨some 3, .mov (.k (.bool false)), none⟩])
 (.ret)))
 (.skip))))
 (.lv [4, 5, 7, 11, 12, 13] (.seq (.reg none [⟨some 25, .mov (.t 5), none⟩,
  ⟨some 26, .mov (.t 25), none⟩,
  ⟨some 27, .mov (.t 7), (some (26, false))⟩,
  ⟨some 28, .bin .eq (.t 27) (.k (.int .i64 0)), (some (26, false))⟩,
  ⟨some 29, .pick (.t 26) (.k (.bool true)) (.t 28), none⟩,
  ⟨some 5, .mov (.t 29), none⟩])
 (.lv [4, 5, 7, 11, 12, 13] (.reg none [⟨some 30, .mov (.t 4), none⟩,
  ⟨some 31, .mov (.t 7), none⟩,
  ⟨some 32, .mx (.k (.int .i64 1)) (.t 31), none⟩,
  ⟨some 33, .bin .mul (.t 30) (.t 32), none⟩,
  ⟨some 4, .mov (.t 33), none⟩]))))))))
 (.lv [4, 5, 11, 12, 13] (.reg none [⟨some 34, .bin .add (.t 13) (.k (.int .i64 1)), none⟩,
  ⟨some 13, .mov (.t 34), none⟩]))))))
def k35_0 : IR :=
 .seq (.seq (.reg none [⟨some 35, .mov (.t 5), none⟩])
 (.lv [4, 35] (.cond (.t 35) (.lv [] (.reg none [⟨some 4, .mov (.k (.int .i64 0)), none⟩]))
 (.skip))))
 (.lv [4] (.seq (.reg none [⟨some 36, .mov (.t 4), none⟩,
  ⟨some 2, .mov (.t 36), none⟩,
  ⟨some 3, .mov (.k (.bool true)), none⟩])
 (.ret)))
def c35 : IR :=
 .seq (.reg none [⟨some 2, .mov (.k (.int .i64 0)), none⟩,
  ⟨some 3, .mov (.k (.bool false)), none⟩])
 (.lv [0] (.seq (.seq (.reg none [⟨some 8, .mov (.t 0), none⟩,
  ⟨some 9, .lenf (.t 8), none⟩,
  ⟨some 10, .bin .gt (.t 9) (.k (.int .i64 8)), none⟩])
 (.lv [0, 10] (.cond (.t 10) (.lv [] (.seq (.reg none [⟨some 2, .mov (.k (.int .i64 0)), none⟩,
  ⟨some 3, .mov (.k (.bool false)), none⟩])
 (.ret)))
 (.skip))))
 (.lv [0] (.seq (.reg none [⟨some 4, .mov (.k (.int .i64 1)), none⟩,
  ⟨some 5, .mov (.k (.bool false)), none⟩])
 (.lv [0, 4, 5] (.seq (.seq (.reg none [⟨some 11, .mov (.t 0), none⟩,
  ⟨some 12, .lenf (.t 11), none⟩,
  ⟨some 13, .mov (.k (.int .i64 0)), none⟩])
 (.lv [4, 5, 11, 12, 13] (.block 0 (.loop [4, 5, 11, 12, 13] (some (0, [])) b35_0))))
 k35_0))))))
def i35 : IFn := ⟨1, 37, c35, [.t 2, .t 3], .pure⟩

/-! 36: typeball/typeballlaw17.awake -/
def c36 : IR :=
 .seq (.reg none [⟨some 0, .mov (.k (.bool false)), none⟩])
 (.lv [] (.seq (.reg none [⟨some 4, .callP 38 [.k (.int .i64 2)], none⟩,
  ⟨some 5, .callP 38 [.k (.int .i64 3)], none⟩,
  ⟨some 6, .bsl 60 1 [.k (.int .u64 2), .k (.int .u64 1)], none⟩,
  ⟨some 7, .callO 39 [.t 6], none⟩,
  ⟨some 8, .callM 37 [.t 4, .t 5, .t 7, .k (.int .i64 1)], none⟩,
  ⟨some 3, .mov (.t 8), none⟩,
  ⟨some 9, .ext (.t 3) 0, none⟩,
  ⟨some 10, .ext (.t 3) 1, none⟩,
  ⟨some 1, .alloc 48 [.nilsl 3 1, .bool false, .nilsl 21 1, .nilsl 70 3, .bool false], none⟩,
  ⟨none, .st 5 (.t 1) (.t 9), none⟩,
  ⟨some 2, .mov (.t 10), none⟩])
 (.lv [1, 2] (.seq (.reg (some [0, 1, 2, 3, 4, 5]) [⟨some 11, .ld true 5 (.t 1), none⟩,
  ⟨some 12, .mov (.t 2), none⟩,
  ⟨some 13, .bsl 3 1 [.k (.int .i64 3), .k (.int .i64 1)], none⟩,
  ⟨some 14, .callF 48 [.t 13], none⟩,
  ⟨some 15, .callR 86 [.t 11, .t 12, .t 14, .k (.int .i64 0)], none⟩,
  ⟨some 0, .mov (.t 15), none⟩])
 (.ret)))))
def i36 : IFn := ⟨0, 16, c36, [.t 0], .pure⟩

/-! 37: typeball/draw.Deal -/
def b37_0 : IR :=
 .seq (.reg none [⟨some 50, .bin .lt (.t 49) (.t 48), none⟩])
 (.lv [2, 3, 8, 10, 12, 13, 48, 49, 50] (.seq (.cond (.t 50) (.skip)
 (.exit 1))
 (.lv [2, 3, 8, 10, 12, 13, 48, 49] (.seq (.block 2 (.seq (.reg none [⟨some 51, .mov (.t 49), none⟩,
  ⟨some 14, .mov (.t 51), none⟩])
 (.lv [2, 3, 8, 10, 12, 13, 14, 48, 49] (.reg none [⟨some 52, .mov (.t 13), none⟩,
  ⟨some 53, .mov (.t 14), none⟩,
  ⟨some 54, .mov (.t 3), none⟩,
  ⟨some 55, .mov (.t 14), none⟩,
  ⟨some 56, .bin .add (.t 54) (.t 55), none⟩,
  ⟨some 57, .iaddr 1 (.t 52) (.t 53), none⟩,
  ⟨none, .st 1 (.t 57) (.t 56), none⟩]))))
 (.lv [2, 3, 8, 10, 12, 13, 48, 49] (.reg none [⟨some 58, .bin .add (.t 49) (.k (.int .i64 1)), none⟩,
  ⟨some 49, .mov (.t 58), none⟩]))))))
def b37_1 : IR :=
 .seq (.reg none [⟨some 61, .bin .lt (.t 60) (.t 59), none⟩])
 (.lv [2, 8, 10, 12, 13, 59, 60, 61] (.seq (.cond (.t 61) (.skip)
 (.exit 3))
 (.lv [2, 8, 10, 12, 13, 59, 60] (.seq (.block 4 (.seq (.reg none [⟨some 62, .mov (.t 60), none⟩,
  ⟨some 15, .mov (.t 62), none⟩])
 (.lv [2, 8, 10, 12, 13, 15, 59, 60] (.seq (.reg none [⟨some 63, .mov (.t 15), none⟩,
  ⟨some 64, .mov (.t 2), none⟩,
  ⟨some 65, .callM 43 [.t 64], none⟩,
  ⟨some 66, .mov (.t 12), none⟩,
  ⟨some 67, .mov (.t 15), none⟩,
  ⟨some 68, .bin .sub (.t 66) (.t 67), none⟩,
  ⟨some 69, .conv .u64 (.t 68), none⟩,
  ⟨some 70, .bin .rem (.t 65) (.t 69), none⟩,
  ⟨some 71, .conv .i64 (.t 70), none⟩,
  ⟨some 72, .bin .add (.t 63) (.t 71), none⟩,
  ⟨some 16, .mov (.t 72), none⟩])
 (.lv [2, 8, 10, 12, 13, 15, 16, 59, 60] (.reg (some [0, 1, 2, 3, 4, 5, 6, 7, 8, 9, 10, 11, 12, 13, 14, 15]) [⟨some 73, .mov (.t 13), none⟩,
  ⟨some 74, .mov (.t 15), none⟩,
  ⟨some 75, .mov (.t 13), none⟩,
  ⟨some 76, .mov (.t 16), none⟩,
  ⟨some 77, .mov (.t 13), none⟩,
  ⟨some 78, .mov (.t 16), none⟩,
  ⟨some 79, .iaddr 1 (.t 77) (.t 78), none⟩,
  ⟨some 80, .ld false 1 (.t 79), none⟩,
  ⟨some 81, .mov (.t 13), none⟩,
  ⟨some 82, .mov (.t 15), none⟩,
  ⟨some 83, .iaddr 1 (.t 81) (.t 82), none⟩,
  ⟨some 84, .ld false 1 (.t 83), none⟩,
  ⟨some 85, .iaddr 1 (.t 73) (.t 74), none⟩,
  ⟨none, .st 1 (.t 85) (.t 80), none⟩,
  ⟨some 86, .iaddr 1 (.t 75) (.t 76), none⟩,
  ⟨none, .st 1 (.t 86) (.t 84), none⟩]))))))
 (.lv [2, 8, 10, 12, 13, 59, 60] (.reg none [⟨some 87, .bin .add (.t 60) (.k (.int .i64 1)), none⟩,
  ⟨some 60, .mov (.t 87), none⟩]))))))
def k37_0 : IR :=
 .seq (.reg none [⟨some 88, .mov (.t 13), none⟩,
  ⟨some 89, .mov (.t 10), none⟩,
  ⟨some 90, .cut 1 (.t 88) none (some (.t 89)), none⟩,
  ⟨some 91, .callF 51 [.t 90], none⟩,
  ⟨none, .st 5 (.t 8) (.t 91), none⟩,
  ⟨some 9, .mov (.k (.int .i64 0)), none⟩])
 (.ret)
def k37_1 : IR :=
 .seq (.seq (.reg none [⟨some 59, .mov (.t 10), none⟩,
  ⟨some 60, .mov (.k (.int .i64 0)), none⟩])
 (.lv [2, 8, 10, 12, 13, 59, 60] (.block 3 (.loop [2, 8, 10, 12, 13, 59, 60] none b37_1))))
 k37_0
def c37 : IR :=
 .seq (.reg none [⟨some 4, .box 48 5 (.t 0), none⟩,
  ⟨some 5, .box 48 5 (.t 1), none⟩,
  ⟨some 8, .alloc 48 [.nilsl 3 1, .bool false, .nilsl 21 1, .nilsl 70 3, .bool false], none⟩,
  ⟨some 9, .mov (.k (.int .i64 0)), none⟩])
 (.lv [2, 3, 4, 5, 8] (.seq (.reg none [⟨some 18, .ld true 5 (.t 4), none⟩,
  ⟨some 19, .callR 87 [.t 18], none⟩,
  ⟨some 17, .mov (.t 19), none⟩,
  ⟨some 20, .ext (.t 17) 0, none⟩,
  ⟨some 21, .ext (.t 17) 1, none⟩,
  ⟨some 10, .mov (.t 20), none⟩,
  ⟨some 11, .mov (.t 21), none⟩])
 (.lv [2, 3, 5, 8, 10, 11] (.seq (.seq (.reg none [⟨some 22, .mov (.t 11), none⟩,
  ⟨some 23, .bin .ne (.t 22) (.k (.int .i64 0)), none⟩])
 (.lv [2, 3, 5, 8, 10, 11, 23] (.cond (.t 23) (.lv [8, 11] (.seq (.reg none [⟨some 24, .build [.nilsl 3 1, .bool false, .nilsl 21 1, .nilsl 70 3, .bool false] [], none⟩,
  ⟨some 25, .mov (.t 11), none⟩,
  ⟨none, .st 5 (.t 8) (.t 24), none⟩,
  ⟨some 9, .mov (.t 25), none⟩])
 (.ret)))
 (.skip))))
 (.lv [2, 3, 5, 8, 10] (.seq (.reg none [⟨some 27, .ld true 5 (.t 5), none⟩,
  ⟨some 28, .callR 87 [.t 27], none⟩,
  ⟨some 26, .mov (.t 28), none⟩,
  ⟨some 29, .ext (.t 26) 0, none⟩,
  ⟨some 30, .ext (.t 26) 1, none⟩,
  ⟨some 12, .mov (.t 29), none⟩,
  ⟨some 11, .mov (.t 30), none⟩])
 (.lv [2, 3, 8, 10, 11, 12] (.seq (.block 0 (.seq (.reg none [⟨some 32, .mov (.t 11), none⟩,
  ⟨some 33, .bin .ne (.t 32) (.k (.int .i64 0)), none⟩,
  ⟨some 31, .mov (.t 33), none⟩])
 (.lv [2, 3, 8, 10, 11, 12, 31] (.cond (.t 31) (.lv [8, 11] (.seq (.reg none [⟨some 34, .build [.nilsl 3 1, .bool false, .nilsl 21 1, .nilsl 70 3, .bool false] [], none⟩,
  ⟨some 35, .mov (.t 11), none⟩,
  ⟨none, .st 5 (.t 8) (.t 34), none⟩,
  ⟨some 9, .mov (.t 35), none⟩])
 (.ret)))
 (.lv [2, 3, 8, 10, 12] (.seq (.reg none [⟨some 37, .mov (.t 10), none⟩,
  ⟨some 38, .mov (.t 12), none⟩,
  ⟨some 39, .bin .gt (.t 37) (.t 38), none⟩,
  ⟨some 36, .mov (.t 39), none⟩])
 (.lv [2, 3, 8, 10, 12, 36] (.cond (.t 36) (.lv [8] (.seq (.reg none [⟨some 40, .build [.nilsl 3 1, .bool false, .nilsl 21 1, .nilsl 70 3, .bool false] [], none⟩,
  ⟨none, .st 5 (.t 8) (.t 40), none⟩,
  ⟨some 9, .mov (.k (.int .i64 22)), none⟩])
 (.ret)))
 (.lv [2, 3, 8, 10, 12] (.seq (.reg none [⟨some 42, .mov (.t 12), none⟩,
  ⟨some 43, .bin .gt (.t 42) (.k (.int .i64 4096)), none⟩,
  ⟨some 41, .mov (.t 43), none⟩])
 (.lv [2, 3, 8, 10, 12, 41] (.cond (.t 41) (.lv [8] (.seq (.reg none [⟨some 44, .build [.nilsl 3 1, .bool false, .nilsl 21 1, .nilsl 70 3, .bool false] [], none⟩,
  ⟨none, .st 5 (.t 8) (.t 44), none⟩,
  ⟨some 9, .mov (.k (.int .i64 26)), none⟩])
 (.ret)))
 (.skip)))))))))))))
 (.lv [2, 3, 8, 10, 12] (.seq (.reg none [⟨some 45, .mov (.t 12), none⟩,
  ⟨some 46, .mk 3 8 [.int .i64 0] (.t 45), none⟩,
  ⟨some 13, .mov (.t 46), none⟩])
 (.lv [2, 3, 8, 10, 12, 13] (.seq (.seq (.reg none [⟨some 47, .mov (.t 13), none⟩,
  ⟨some 48, .len (.t 47), none⟩,
  ⟨some 49, .mov (.k (.int .i64 0)), none⟩])
 (.lv [2, 3, 8, 10, 12, 13, 48, 49] (.block 1 (.loop [2, 3, 8, 10, 12, 13, 48, 49] none b37_0))))
 k37_1))))))))))))
def i37 : IFn := ⟨4, 92, c37, [.c 8 true 5, .t 9], .ref⟩

/-! 38: typeball/array.Int -/
def c38 : IR :=
 .seq (.reg none [⟨some 2, .alloc 48 [.nilsl 3 1, .bool false, .nilsl 21 1, .nilsl 70 3, .bool false], none⟩])
 (.lv [0, 2] (.seq (.reg none [⟨some 3, .mov (.t 0), none⟩,
  ⟨some 4, .callP 45 [.t 3], none⟩,
  ⟨some 5, .callP 56 [.t 4], none⟩,
  ⟨none, .st 5 (.t 2) (.t 5), none⟩])
 (.ret)))
def i38 : IFn := ⟨1, 6, c38, [.c 2 true 5], .pure⟩

/-! 39: typeball/draw.New -/
def c39 : IR :=
 .seq (.reg none [⟨some 2, .mov (.k (.nilptr)), none⟩])
 (.lv [0] (.seq (.reg none [⟨some 3, .bsl 60 1 [], none⟩,
  ⟨some 4, .mov (.t 0), none⟩,
  ⟨some 5, .app 60 1 8 (.t 3) (.t 4), none⟩,
  ⟨some 6, .build [.nilsl 60 1, .int .i64 0] [(0, 1, .t 5)], none⟩,
  ⟨some 7, .box 112 2 (.t 6), none⟩,
  ⟨some 2, .mov (.t 7), none⟩])
 (.ret)))
def i39 : IFn := ⟨1, 8, c39, [.t 2], .own⟩

/-! 40: typeball/typeballlaw17.origin -/
def c40 : IR :=
 .seq (.reg none [⟨some 2, .mov (.k (.int .i64 0)), none⟩])
 (.lv [0] (.seq (.seq (.reg none [⟨some 3, .mov (.t 0), none⟩])
 (.lv [3] (.cond (.t 3) (.lv [] (.seq (.reg none [⟨some 2, .mov (.k (.int .i64 1)), none⟩])
 (.ret)))
 (.skip))))
 (.lv [] (.seq (.reg none [⟨some 2, .mov (.k (.int .i64 0)), none⟩])
 (.ret)))))
def i40 : IFn := ⟨1, 4, c40, [.t 2], .pure⟩

/-! 41: (typeball/array.Array).Whole -/
def b41_0 : IR :=
 .seq (.reg none [⟨some 20, .bin .lt (.t 19) (.t 18), none⟩])
 (.lv [4, 17, 18, 19, 20] (.seq (.cond (.t 20) (.skip)
 (.exit 0))
 (.lv [4, 17, 18, 19] (.seq (.block 1 (.seq (.reg none [⟨some 21, .iaddrf 3 (.t 17) (.t 19), none⟩,
  ⟨some 22, .ldf true 3 (.t 21), none⟩,
  ⟨some 6, .alloc 70 [.nilsl 133 1, .bool false, .nilsl 133 1], none⟩,
  ⟨none, .st 3 (.t 6) (.t 22), none⟩])
 (.lv [4, 6, 17, 18, 19] (.seq (.reg none [⟨some 24, .ld true 3 (.t 6), none⟩,
  ⟨some 25, .callR 88 [.t 24], none⟩,
  ⟨some 23, .mov (.t 25), none⟩,
  ⟨some 26, .ext (.t 23) 0, none⟩,
  ⟨some 27, .ext (.t 23) 1, none⟩,
  ⟨some 7, .mov (.t 26), none⟩,
  ⟨some 8, .mov (.t 27), none⟩])
 (.lv [4, 7, 8, 17, 18, 19] (.seq (.seq (.reg none [⟨some 28, .mov (.t 8), none⟩,
  ⟨some 29, .not (.t 28), none⟩])
 (.lv [4, 7, 17, 18, 19, 29] (.cond (.t 29) (.lv [] (.seq (.reg none [⟨some 2, .newnil 3 1, none⟩,
  ⟨some 3, .mov (.k (.bool false)), none⟩])
 (.ret)))
 (.skip))))
 (.lv [4, 7, 17, 18, 19] (.reg none [⟨some 30, .mov (.t 4), none⟩,
  ⟨some 31, .mov (.t 7), none⟩,
  ⟨some 32, .bsl 3 1 [.t 31], none⟩,
  ⟨some 33, .app 3 1 8 (.t 30) (.t 32), none⟩,
  ⟨some 4, .mov (.t 33), none⟩]))))))))
 (.lv [4, 17, 18, 19] (.reg none [⟨some 34, .bin .add (.t 19) (.k (.int .i64 1)), none⟩,
  ⟨some 19, .mov (.t 34), none⟩]))))))
def k41_0 : IR :=
 .seq (.reg none [⟨some 35, .mov (.t 4), none⟩,
  ⟨some 2, .mov (.t 35), none⟩,
  ⟨some 3, .mov (.k (.bool true)), none⟩])
 (.ret)
def c41 : IR :=
 .seq (.reg none [⟨some 1, .box 48 5 (.t 0), none⟩,
  ⟨some 2, .newnil 3 1, none⟩,
  ⟨some 3, .mov (.k (.bool false)), none⟩])
 (.lv [1] (.seq (.seq (.reg none [⟨some 9, .faddr 1 (.t 1), none⟩,
  ⟨some 10, .ld false 1 (.t 9), none⟩,
  ⟨some 11, .mov (.t 10), none⟩,
  ⟨some 12, .ld true 5 (.t 1), (some (11, true))⟩,
  ⟨some 13, .callP 54 [.t 12], (some (11, true))⟩,
  ⟨some 14, .bin .gt (.t 13) (.k (.int .i64 0)), (some (11, true))⟩,
  ⟨some 15, .pick (.t 11) (.t 14) (.k (.bool false)), none⟩])
 (.lv [1, 15] (.cond (.t 15) (.lv [] (.seq (.reg none [⟨some 2, .newnil 3 1, none⟩,
  ⟨some 3, .mov (.k (.bool false)), none⟩])
 (.ret)))
 (.skip))))
 (.lv [1] (.seq (.reg none [⟨some 4, .newnil 3 1, none⟩])
 (.lv [1, 4] (.seq (.seq (.reg none [⟨some 16, .faddr 3 (.t 1), none⟩,
  ⟨some 17, .ld false 1 (.t 16), none⟩,
  ⟨some 18, .lenf (.t 17), none⟩,
  ⟨some 19, .mov (.k (.int .i64 0)), none⟩])
 (.lv [4, 17, 18, 19] (.block 0 (.loop [4, 17, 18, 19] (some (3, [])) b41_0))))
 k41_0))))))
def i41 : IFn := ⟨1, 36, c41, [.t 2, .t 3], .own⟩

/-! 42: (*typeball/draw.Source).At -/
def c42 : IR :=
 .seq (.reg none [⟨some 2, .mov (.k (.int .i64 0)), none⟩])
 (.lv [0] (.seq (.seq (.reg none [⟨some 3, .mov (.t 0), none⟩,
  ⟨some 4, .binp .eq (.t 3) (.k (.nilptr)), none⟩])
 (.lv [0, 4] (.cond (.t 4) (.lv [] (.seq (.reg none [⟨some 2, .mov (.k (.int .i64 0)), none⟩])
 (.ret)))
 (.skip))))
 (.lv [0] (.seq (.reg none [⟨some 5, .mov (.t 0), none⟩,
  ⟨some 6, .nilchk (.t 5), none⟩,
  ⟨some 7, .faddr 1 (.t 6), none⟩,
  ⟨some 8, .ldf false 1 (.t 7), none⟩,
  ⟨some 2, .mov (.t 8), none⟩])
 (.ret)))))
def i42 : IFn := ⟨1, 9, c42, [.t 2], .pure⟩

/-! 43: (*typeball/draw.Source).Next -/
def c43 : IR :=
 .seq (.reg none [⟨some 2, .mov (.k (.int .u64 0)), none⟩])
 (.lv [0] (.seq (.seq (.reg none [⟨some 3, .mov (.t 0), none⟩,
  ⟨some 4, .binp .eq (.t 3) (.k (.nilptr)), none⟩])
 (.lv [0, 4] (.cond (.t 4) (.lv [] (.seq (.reg none [⟨some 2, .mov (.k (.int .u64 0)), none⟩])
 (.ret)))
 (.skip))))
 (.lv [0] (.seq (.reg none [⟨some 5, .mov (.t 0), none⟩,
  ⟨some 6, .nilchk (.t 5), none⟩,
  ⟨some 7, .faddr 1 (.t 6), none⟩,
  ⟨some 8, .ld false 1 (.t 7), none⟩,
  ⟨some 9, .bin .add (.t 8) (.k (.int .i64 1)), none⟩,
  ⟨some 10, .nilchk (.t 5), none⟩,
  ⟨some 11, .faddr 1 (.t 10), none⟩,
  ⟨none, .st 1 (.t 11) (.t 9), none⟩])
 (.lv [0] (.seq (.seq (.reg (some [0, 1, 2, 3, 4, 5, 6, 7, 8, 9]) [⟨some 12, .mov (.t 0), none⟩,
  ⟨some 13, .nilchk (.t 12), none⟩,
  ⟨some 14, .faddr 1 (.t 13), none⟩,
  ⟨some 15, .ld false 1 (.t 14), none⟩,
  ⟨some 16, .mov (.t 0), none⟩,
  ⟨some 17, .nilchk (.t 16), none⟩,
  ⟨some 18, .faddr 0 (.t 17), none⟩,
  ⟨some 19, .ld false 1 (.t 18), none⟩,
  ⟨some 20, .len (.t 19), none⟩,
  ⟨some 21, .bin .gt (.t 15) (.t 20), none⟩])
 (.lv [0, 21] (.cond (.t 21) (.lv [] (.seq (.reg none [⟨some 2, .mov (.k (.int .u64 0)), none⟩])
 (.ret)))
 (.skip))))
 (.lv [0] (.seq (.reg (some [0, 1, 2, 3, 4, 5, 6, 7, 8, 9, 10, 11]) [⟨some 22, .mov (.t 0), none⟩,
  ⟨some 23, .nilchk (.t 22), none⟩,
  ⟨some 24, .faddr 0 (.t 23), none⟩,
  ⟨some 25, .ld false 1 (.t 24), none⟩,
  ⟨some 26, .mov (.t 0), none⟩,
  ⟨some 27, .nilchk (.t 26), none⟩,
  ⟨some 28, .faddr 1 (.t 27), none⟩,
  ⟨some 29, .ld false 1 (.t 28), none⟩,
  ⟨some 30, .bin .sub (.t 29) (.k (.int .i64 1)), none⟩,
  ⟨some 31, .iaddr 1 (.t 25) (.t 30), none⟩,
  ⟨some 32, .ld false 1 (.t 31), none⟩,
  ⟨some 2, .mov (.t 32), none⟩])
 (.ret)))))))))
def i43 : IFn := ⟨1, 33, c43, [.t 2], .ref⟩

/-! 44: typeball/typeballref17.Lot -/
def c44 : IR :=
 .seq (.reg none [⟨some 4, .mov (.k (.int .u64 0)), none⟩])
 (.lv [0, 1] (.seq (.seq (.reg none [⟨some 5, .mov (.t 1), none⟩,
  ⟨some 6, .mov (.t 0), none⟩,
  ⟨some 7, .lenf (.t 6), none⟩,
  ⟨some 8, .bin .ge (.t 5) (.t 7), none⟩])
 (.lv [0, 1, 8] (.cond (.t 8) (.lv [] (.seq (.reg none [⟨some 4, .mov (.k (.int .u64 0)), none⟩])
 (.ret)))
 (.skip))))
 (.lv [0, 1] (.seq (.reg none [⟨some 9, .mov (.t 0), none⟩,
  ⟨some 10, .mov (.t 1), none⟩,
  ⟨some 11, .iaddrf 1 (.t 9) (.t 10), none⟩,
  ⟨some 12, .ldf false 1 (.t 11), none⟩,
  ⟨some 4, .mov (.t 12), none⟩])
 (.ret)))))
def i44 : IFn := ⟨2, 13, c44, [.t 4], .pure⟩

/-! 45: typeball/ratio.From -/
def c45 : IR :=
 .seq (.reg none [⟨some 2, .alloc 70 [.nilsl 133 1, .bool false, .nilsl 133 1], none⟩])
 (.lv [0, 2] (.seq (.reg none [⟨some 3, .mov (.t 0), none⟩,
  ⟨some 4, .callP 89 [.t 3], none⟩,
  ⟨some 5, .callP 90 [.k (.int .u64 1)], none⟩,
  ⟨some 6, .build [.nilsl 133 1, .bool false, .nilsl 133 1] [(0, 2, .t 4), (2, 1, .t 5)], none⟩,
  ⟨none, .st 3 (.t 2) (.t 6), none⟩])
 (.ret)))
def i45 : IFn := ⟨1, 7, c45, [.c 2 true 3], .pure⟩

/-! 46: typeball/array.Nums -/
def c46 : IR :=
 .seq (.reg none [⟨some 4, .alloc 48 [.nilsl 3 1, .bool false, .nilsl 21 1, .nilsl 70 3, .bool false], none⟩,
  ⟨some 5, .mov (.k (.bool false)), none⟩])
 (.lv [0, 1, 4] (.seq (.reg none [⟨some 9, .mov (.t 0), none⟩,
  ⟨some 10, .callP 35 [.t 9], none⟩,
  ⟨some 8, .mov (.t 10), none⟩,
  ⟨some 11, .ext (.t 8) 0, none⟩,
  ⟨some 12, .ext (.t 8) 1, none⟩,
  ⟨some 6, .mov (.t 11), none⟩,
  ⟨some 7, .mov (.t 12), none⟩])
 (.lv [0, 1, 4, 6, 7] (.seq (.seq (.reg none [⟨some 13, .mov (.t 7), none⟩,
  ⟨some 14, .not (.t 13), none⟩,
  ⟨some 15, .mov (.t 14), none⟩,
  ⟨some 16, .mov (.t 6), (some (15, false))⟩,
  ⟨some 17, .mov (.t 1), (some (15, false))⟩,
  ⟨some 18, .lenf (.t 17), (some (15, false))⟩,
  ⟨some 19, .bin .ne (.t 16) (.t 18), (some (15, false))⟩,
  ⟨some 20, .pick (.t 15) (.k (.bool true)) (.t 19), none⟩])
 (.lv [0, 1, 4, 20] (.cond (.t 20) (.lv [4] (.seq (.reg none [⟨some 21, .build [.nilsl 3 1, .bool false, .nilsl 21 1, .nilsl 70 3, .bool false] [], none⟩,
  ⟨none, .st 5 (.t 4) (.t 21), none⟩,
  ⟨some 5, .mov (.k (.bool false)), none⟩])
 (.ret)))
 (.skip))))
 (.lv [0, 1, 4] (.seq (.reg none [⟨some 22, .mov (.t 0), none⟩,
  ⟨some 23, .callO 85 [.t 22], none⟩,
  ⟨some 24, .mov (.t 1), none⟩,
  ⟨some 25, .callO 91 [.t 24], none⟩,
  ⟨some 26, .build [.nilsl 3 1, .bool false, .nilsl 21 1, .nilsl 70 3, .bool false] [(0, 1, .t 23), (1, 1, .k (.bool false)), (2, 1, .k (.nilsl 21 1)), (3, 1, .t 25), (4, 1, .k (.bool true))], none⟩,
  ⟨none, .st 5 (.t 4) (.t 26), none⟩,
  ⟨some 5, .mov (.k (.bool true)), none⟩])
 (.ret)))))))
def i46 : IFn := ⟨2, 27, c46, [.c 4 true 5, .t 5], .pure⟩

/-! 47: typeball/array.Chars -/
def c47 : IR :=
 .seq (.reg none [⟨some 4, .alloc 48 [.nilsl 3 1, .bool false, .nilsl 21 1, .nilsl 70 3, .bool false], none⟩,
  ⟨some 5, .mov (.k (.bool false)), none⟩])
 (.lv [0, 1, 4] (.seq (.reg none [⟨some 9, .mov (.t 0), none⟩,
  ⟨some 10, .callP 35 [.t 9], none⟩,
  ⟨some 8, .mov (.t 10), none⟩,
  ⟨some 11, .ext (.t 8) 0, none⟩,
  ⟨some 12, .ext (.t 8) 1, none⟩,
  ⟨some 6, .mov (.t 11), none⟩,
  ⟨some 7, .mov (.t 12), none⟩])
 (.lv [0, 1, 4, 6, 7] (.seq (.seq (.reg none [⟨some 13, .mov (.t 7), none⟩,
  ⟨some 14, .not (.t 13), none⟩,
  ⟨some 15, .mov (.t 14), none⟩,
  ⟨some 16, .mov (.t 6), (some (15, false))⟩,
  ⟨some 17, .mov (.t 1), (some (15, false))⟩,
  ⟨some 18, .lenf (.t 17), (some (15, false))⟩,
  ⟨some 19, .bin .ne (.t 16) (.t 18), (some (15, false))⟩,
  ⟨some 20, .pick (.t 15) (.k (.bool true)) (.t 19), none⟩])
 (.lv [0, 1, 4, 20] (.cond (.t 20) (.lv [4] (.seq (.reg none [⟨some 21, .build [.nilsl 3 1, .bool false, .nilsl 21 1, .nilsl 70 3, .bool false] [], none⟩,
  ⟨none, .st 5 (.t 4) (.t 21), none⟩,
  ⟨some 5, .mov (.k (.bool false)), none⟩])
 (.ret)))
 (.skip))))
 (.lv [0, 1, 4] (.seq (.reg none [⟨some 22, .mov (.t 0), none⟩,
  ⟨some 23, .callO 85 [.t 22], none⟩,
  ⟨some 24, .mov (.t 1), none⟩,
  ⟨some 25, .callO 92 [.t 24], none⟩,
  ⟨some 26, .build [.nilsl 3 1, .bool false, .nilsl 21 1, .nilsl 70 3, .bool false] [(0, 1, .t 23), (1, 1, .k (.bool true)), (2, 1, .t 25), (3, 1, .k (.nilsl 70 3)), (4, 1, .k (.bool true))], none⟩,
  ⟨none, .st 5 (.t 4) (.t 26), none⟩,
  ⟨some 5, .mov (.k (.bool true)), none⟩])
 (.ret)))))))
def i47 : IFn := ⟨2, 27, c47, [.c 4 true 5, .t 5], .pure⟩

/-! 48: typeball/typeballref06.Ints -/
def b48_0 : IR :=
 .seq (.seq (.reg none [⟨some 9, .mov (.t 4), none⟩,
  ⟨some 10, .mov (.t 0), none⟩,
  ⟨some 11, .lenf (.t 10), none⟩,
  ⟨some 12, .bin .lt (.t 9) (.t 11), none⟩])
 (.lv [0, 2, 3, 4, 12] (.cond (.t 12) (.skip)
 (.exit 0))))
 (.lv [0, 2, 3, 4] (.seq (.block 1 (.reg (some [0, 1, 2, 3, 4, 5, 6, 7, 8, 9, 10]) [⟨some 15, .faddr 3 (.t 3), none⟩,
  ⟨some 16, .ld false 1 (.t 15), none⟩,
  ⟨some 17, .mov (.t 0), none⟩,
  ⟨some 18, .mov (.t 4), none⟩,
  ⟨some 19, .iaddrf 1 (.t 17) (.t 18), none⟩,
  ⟨some 20, .ldf false 1 (.t 19), none⟩,
  ⟨some 21, .callP 93 [.t 20], none⟩,
  ⟨some 22, .bsl 97 3 [.t 21], none⟩,
  ⟨some 23, .app 97 3 40 (.t 16) (.t 22), none⟩,
  ⟨some 24, .faddr 3 (.t 3), none⟩,
  ⟨none, .st 1 (.t 24) (.t 23), none⟩]))
 (.lv [0, 2, 3, 4] (.reg none [⟨some 13, .mov (.t 4), none⟩,
  ⟨some 14, .bin .add (.t 13) (.k (.int .i64 1)), none⟩,
  ⟨some 4, .mov (.t 14), none⟩]))))
def k48_0 : IR :=
 .seq (.reg none [⟨some 25, .ld true 4 (.t 3), none⟩,
  ⟨none, .st 4 (.t 2) (.t 25), none⟩])
 (.ret)
def c48 : IR :=
 .seq (.reg none [⟨some 2, .alloc 77 [.nilsl 3 1, .bool false, .nilsl 21 1, .nilsl 97 3], none⟩])
 (.lv [0, 2] (.seq (.reg none [⟨some 5, .mov (.t 0), none⟩,
  ⟨some 6, .lenf (.t 5), none⟩,
  ⟨some 7, .bsl 3 1 [.t 6], none⟩,
  ⟨some 8, .build [.nilsl 3 1, .bool false, .nilsl 21 1, .nilsl 97 3] [(0, 1, .t 7)], none⟩,
  ⟨some 3, .alloc 77 [.nilsl 3 1, .bool false, .nilsl 21 1, .nilsl 97 3], none⟩,
  ⟨none, .st 4 (.t 3) (.t 8), none⟩])
 (.lv [0, 2, 3] (.seq (.seq (.reg none [⟨some 4, .mov (.k (.int .i64 0)), none⟩])
 (.lv [0, 2, 3, 4] (.block 0 (.loop [0, 2, 3, 4] (some (11, [])) b48_0))))
 k48_0))))
def i48 : IFn := ⟨1, 26, c48, [.c 2 true 4], .pure⟩

/-! 49: typeball/typeballref06.Text -/
def c49 : IR :=
 .seq (.reg none [⟨some 2, .alloc 77 [.nilsl 3 1, .bool false, .nilsl 21 1, .nilsl 97 3], none⟩])
 (.lv [0, 2] (.seq (.reg none [⟨some 3, .mov (.t 0), none⟩,
  ⟨some 4, .lenf (.t 3), none⟩,
  ⟨some 5, .bsl 3 1 [.t 4], none⟩,
  ⟨some 6, .mov (.t 0), none⟩,
  ⟨some 7, .build [.nilsl 3 1, .bool false, .nilsl 21 1, .nilsl 97 3] [(0, 1, .t 5), (1, 1, .k (.bool true)), (2, 1, .t 6)], none⟩,
  ⟨none, .st 4 (.t 2) (.t 7), none⟩])
 (.ret)))
def i49 : IFn := ⟨1, 8, c49, [.c 2 true 4], .pure⟩

/-! 50: typeball/typeballref06.Same -/
def b50_0 : IR :=
 .seq (.seq (.reg none [⟨some 36, .mov (.t 5), none⟩,
  ⟨some 37, .faddr 3 (.t 2), none⟩,
  ⟨some 38, .ld false 1 (.t 37), none⟩,
  ⟨some 39, .lenf (.t 38), none⟩,
  ⟨some 40, .bin .lt (.t 36) (.t 39), none⟩])
 (.lv [2, 3, 5, 40] (.cond (.t 40) (.skip)
 (.exit 0))))
 (.lv [2, 3, 5] (.seq (.block 1 (.seq (.reg (some [0, 1, 2, 3, 4, 5, 6, 7, 8, 9, 10]) [⟨some 43, .faddr 3 (.t 2), none⟩,
  ⟨some 44, .ld false 1 (.t 43), none⟩,
  ⟨some 45, .mov (.t 5), none⟩,
  ⟨some 46, .iaddrf 3 (.t 44) (.t 45), none⟩,
  ⟨some 47, .ldf true 3 (.t 46), none⟩,
  ⟨some 48, .faddr 3 (.t 3), none⟩,
  ⟨some 49, .ld false 1 (.t 48), none⟩,
  ⟨some 50, .mov (.t 5), none⟩,
  ⟨some 51, .iaddrf 3 (.t 49) (.t 50), none⟩,
  ⟨some 52, .ldf true 3 (.t 51), none⟩,
  ⟨some 53, .bins .ne [0, 2, 2] (.t 47) (.t 52), none⟩])
 (.lv [2, 3, 5, 53] (.cond (.t 53) (.lv [] (.seq (.reg none [⟨some 4, .mov (.k (.bool false)), none⟩])
 (.ret)))
 (.skip)))))
 (.lv [2, 3, 5] (.reg none [⟨some 41, .mov (.t 5), none⟩,
  ⟨some 42, .bin .add (.t 41) (.k (.int .i64 1)), none⟩,
  ⟨some 5, .mov (.t 42), none⟩]))))
def k50_0 : IR :=
 .seq (.reg none [⟨some 4, .mov (.k (.bool true)), none⟩])
 (.ret)
def c50 : IR :=
 .seq (.reg none [⟨some 2, .box 77 4 (.t 0), none⟩,
  ⟨some 3, .box 77 4 (.t 1), none⟩,
  ⟨some 4, .mov (.k (.bool false)), none⟩])
 (.lv [2, 3] (.seq (.seq (.reg none [⟨some 6, .faddr 1 (.t 2), none⟩,
  ⟨some 7, .ld false 1 (.t 6), none⟩,
  ⟨some 8, .faddr 1 (.t 3), none⟩,
  ⟨some 9, .ld false 1 (.t 8), none⟩,
  ⟨some 10, .binb .ne (.t 7) (.t 9), none⟩,
  ⟨some 11, .mov (.t 10), none⟩,
  ⟨some 12, .faddr 0 (.t 2), (some (11, false))⟩,
  ⟨some 13, .ld false 1 (.t 12), (some (11, false))⟩,
  ⟨some 14, .faddr 0 (.t 3), (some (11, false))⟩,
  ⟨some 15, .ld false 1 (.t 14), (some (11, false))⟩,
  ⟨some 16, .callP 23 [.t 13, .t 15], (some (11, false))⟩,
  ⟨some 17, .not (.t 16), (some (11, false))⟩,
  ⟨some 18, .pick (.t 11) (.k (.bool true)) (.t 17), none⟩,
  ⟨some 19, .mov (.t 18), none⟩,
  ⟨some 20, .faddr 2 (.t 2), (some (19, false))⟩,
  ⟨some 21, .ld false 1 (.t 20), (some (19, false))⟩,
  ⟨some 22, .faddr 2 (.t 3), (some (19, false))⟩,
  ⟨some 23, .ld false 1 (.t 22), (some (19, false))⟩,
  ⟨some 24, .callP 75 [.t 21, .t 23], (some (19, false))⟩,
  ⟨some 25, .not (.t 24), (some (19, false))⟩,
  ⟨some 26, .pick (.t 19) (.k (.bool true)) (.t 25), none⟩,
  ⟨some 27, .mov (.t 26), none⟩,
  ⟨some 28, .faddr 3 (.t 2), (some (27, false))⟩,
  ⟨some 29, .ld false 1 (.t 28), (some (27, false))⟩,
  ⟨some 30, .lenf (.t 29), (some (27, false))⟩,
  ⟨some 31, .faddr 3 (.t 3), (some (27, false))⟩,
  ⟨some 32, .ld false 1 (.t 31), (some (27, false))⟩,
  ⟨some 33, .lenf (.t 32), (some (27, false))⟩,
  ⟨some 34, .bin .ne (.t 30) (.t 33), (some (27, false))⟩,
  ⟨some 35, .pick (.t 27) (.k (.bool true)) (.t 34), none⟩])
 (.lv [2, 3, 35] (.cond (.t 35) (.lv [] (.seq (.reg none [⟨some 4, .mov (.k (.bool false)), none⟩])
 (.ret)))
 (.skip))))
 (.lv [2, 3] (.seq (.seq (.reg none [⟨some 5, .mov (.k (.int .i64 0)), none⟩])
 (.lv [2, 3, 5] (.block 0 (.loop [2, 3, 5] (some (2, [])) b50_0))))
 k50_0))))
def i50 : IFn := ⟨2, 54, c50, [.t 4], .pure⟩

/-! 51: typeball/array.Ints -/
def b51_0 : IR :=
 .seq (.reg none [⟨some 13, .bin .lt (.t 12) (.t 11), none⟩])
 (.lv [2, 3, 10, 11, 12, 13] (.seq (.cond (.t 13) (.skip)
 (.exit 0))
 (.lv [2, 3, 10, 11, 12] (.seq (.block 1 (.seq (.reg none [⟨some 14, .iaddrf 1 (.t 10) (.t 12), none⟩,
  ⟨some 15, .ldf false 1 (.t 14), none⟩,
  ⟨some 5, .mov (.t 15), none⟩])
 (.lv [2, 3, 5, 10, 11, 12] (.reg (some [0, 1, 2, 3, 4, 5, 6, 7]) [⟨some 16, .faddr 3 (.t 3), none⟩,
  ⟨some 17, .ld false 1 (.t 16), none⟩,
  ⟨some 18, .mov (.t 5), none⟩,
  ⟨some 19, .callP 45 [.t 18], none⟩,
  ⟨some 20, .bsl 70 3 [.t 19], none⟩,
  ⟨some 21, .app 70 3 56 (.t 17) (.t 20), none⟩,
  ⟨some 22, .faddr 3 (.t 3), none⟩,
  ⟨none, .st 1 (.t 22) (.t 21), none⟩]))))
 (.lv [2, 3, 10, 11, 12] (.reg none [⟨some 23, .bin .add (.t 12) (.k (.int .i64 1)), none⟩,
  ⟨some 12, .mov (.t 23), none⟩]))))))
def k51_0 : IR :=
 .seq (.reg none [⟨some 24, .ld true 5 (.t 3), none⟩,
  ⟨none, .st 5 (.t 2) (.t 24), none⟩])
 (.ret)
def c51 : IR :=
 .seq (.reg none [⟨some 2, .alloc 48 [.nilsl 3 1, .bool false, .nilsl 21 1, .nilsl 70 3, .bool false], none⟩])
 (.lv [0, 2] (.seq (.reg none [⟨some 6, .mov (.t 0), none⟩,
  ⟨some 7, .lenf (.t 6), none⟩,
  ⟨some 8, .bsl 3 1 [.t 7], none⟩,
  ⟨some 9, .build [.nilsl 3 1, .bool false, .nilsl 21 1, .nilsl 70 3, .bool false] [(0, 1, .t 8), (4, 1, .k (.bool true))], none⟩,
  ⟨some 3, .alloc 48 [.nilsl 3 1, .bool false, .nilsl 21 1, .nilsl 70 3, .bool false], none⟩,
  ⟨none, .st 5 (.t 3) (.t 9), none⟩])
 (.lv [0, 2, 3] (.seq (.seq (.reg none [⟨some 10, .mov (.t 0), none⟩,
  ⟨some 11, .lenf (.t 10), none⟩,
  ⟨some 12, .mov (.k (.int .i64 0)), none⟩])
 (.lv [2, 3, 10, 11, 12] (.block 0 (.loop [2, 3, 10, 11, 12] (some (11, [])) b51_0))))
 k51_0))))
def i51 : IFn := ⟨1, 25, c51, [.c 2 true 5], .pure⟩

/-! 52: (typeball/array.Array).Plain -/
def b52_0 : IR :=
 .seq (.reg none [⟨some 17, .bin .lt (.t 16) (.t 15), none⟩])
 (.lv [2, 3, 14, 15, 16, 17] (.seq (.cond (.t 17) (.skip)
 (.exit 0))
 (.lv [2, 3, 14, 15, 16] (.seq (.block 1 (.seq (.reg none [⟨some 18, .iaddrf 3 (.t 14) (.t 16), none⟩,
  ⟨some 19, .ldf true 3 (.t 18), none⟩,
  ⟨some 5, .alloc 70 [.nilsl 133 1, .bool false, .nilsl 133 1], none⟩,
  ⟨none, .st 3 (.t 5) (.t 19), none⟩])
 (.lv [2, 3, 5, 14, 15, 16] (.reg (some [0, 1, 2, 3, 4, 5, 6, 7]) [⟨some 20, .faddr 3 (.t 3), none⟩,
  ⟨some 21, .ld false 1 (.t 20), none⟩,
  ⟨some 22, .ld true 3 (.t 5), none⟩,
  ⟨some 23, .callR 74 [.t 22], none⟩,
  ⟨some 24, .bsl 97 3 [.t 23], none⟩,
  ⟨some 25, .app 97 3 40 (.t 21) (.t 24), none⟩,
  ⟨some 26, .faddr 3 (.t 3), none⟩,
  ⟨none, .st 1 (.t 26) (.t 25), none⟩]))))
 (.lv [2, 3, 14, 15, 16] (.reg none [⟨some 27, .bin .add (.t 16) (.k (.int .i64 1)), none⟩,
  ⟨some 16, .mov (.t 27), none⟩]))))))
def k52_0 : IR :=
 .seq (.reg none [⟨some 28, .ld true 4 (.t 3), none⟩,
  ⟨none, .st 4 (.t 2) (.t 28), none⟩])
 (.ret)
def c52 : IR :=
 .seq (.reg none [⟨some 1, .box 48 5 (.t 0), none⟩,
  ⟨some 2, .alloc 77 [.nilsl 3 1, .bool false, .nilsl 21 1, .nilsl 97 3], none⟩])
 (.lv [1, 2] (.seq (.reg (some [0, 1, 2, 3, 4, 5, 6, 7, 8]) [⟨some 6, .ld true 5 (.t 1), none⟩,
  ⟨some 7, .callP 69 [.t 6], none⟩,
  ⟨some 8, .faddr 1 (.t 1), none⟩,
  ⟨some 9, .ld false 1 (.t 8), none⟩,
  ⟨some 10, .ld true 5 (.t 1), none⟩,
  ⟨some 11, .callZ 76 [.t 10], none⟩,
  ⟨some 12, .build [.nilsl 3 1, .bool false, .nilsl 21 1, .nilsl 97 3] [(0, 1, .t 7), (1, 1, .t 9), (2, 1, .t 11)], none⟩,
  ⟨some 3, .alloc 77 [.nilsl 3 1, .bool false, .nilsl 21 1, .nilsl 97 3], none⟩,
  ⟨none, .st 4 (.t 3) (.t 12), none⟩])
 (.lv [1, 2, 3] (.seq (.seq (.reg none [⟨some 13, .faddr 3 (.t 1), none⟩,
  ⟨some 14, .ld false 1 (.t 13), none⟩,
  ⟨some 15, .lenf (.t 14), none⟩,
  ⟨some 16, .mov (.k (.int .i64 0)), none⟩])
 (.lv [2, 3, 14, 15, 16] (.block 0 (.loop [2, 3, 14, 15, 16] (some (10, [])) b52_0))))
 k52_0))))
def i52 : IFn := ⟨1, 29, c52, [.c 2 true 4], .pure⟩

/-! 53: typeball/array.Text -/
def c53 : IR :=
 .seq (.reg none [⟨some 2, .alloc 48 [.nilsl 3 1, .bool false, .nilsl 21 1, .nilsl 70 3, .bool false], none⟩])
 (.lv [0, 2] (.seq (.reg none [⟨some 3, .mov (.t 0), none⟩,
  ⟨some 4, .lenf (.t 3), none⟩,
  ⟨some 5, .bsl 3 1 [.t 4], none⟩,
  ⟨some 6, .mov (.t 0), none⟩,
  ⟨some 7, .callO 92 [.t 6], none⟩,
  ⟨some 8, .build [.nilsl 3 1, .bool false, .nilsl 21 1, .nilsl 70 3, .bool false] [(0, 1, .t 5), (1, 1, .k (.bool true)), (2, 1, .t 7), (3, 1, .k (.nilsl 70 3)), (4, 1, .k (.bool true))], none⟩,
  ⟨none, .st 5 (.t 2) (.t 8), none⟩])
 (.ret)))
def i53 : IFn := ⟨1, 9, c53, [.c 2 true 5], .pure⟩

/-! 54: (typeball/array.Array).Len -/
def c54 : IR :=
 .seq (.reg none [⟨some 1, .box 48 5 (.t 0), none⟩,
  ⟨some 2, .mov (.k (.int .i64 0)), none⟩])
 (.lv [1] (.seq (.reg none [⟨some 3, .faddr 2 (.t 1), none⟩,
  ⟨some 4, .ld false 1 (.t 3), none⟩,
  ⟨some 5, .lenf (.t 4), none⟩,
  ⟨some 6, .faddr 3 (.t 1), none⟩,
  ⟨some 7, .ld false 1 (.t 6), none⟩,
  ⟨some 8, .lenf (.t 7), none⟩,
  ⟨some 9, .bin .add (.t 5) (.t 8), none⟩,
  ⟨some 2, .mov (.t 9), none⟩])
 (.ret)))
def i54 : IFn := ⟨1, 10, c54, [.t 2], .pure⟩

/-! 55: typeball/typeballref06.Int -/
def c55 : IR :=
 .seq (.reg none [⟨some 2, .alloc 77 [.nilsl 3 1, .bool false, .nilsl 21 1, .nilsl 97 3], none⟩])
 (.lv [0, 2] (.seq (.reg none [⟨some 3, .mov (.t 0), none⟩,
  ⟨some 4, .callP 93 [.t 3], none⟩,
  ⟨some 5, .callP 94 [.t 4], none⟩,
  ⟨none, .st 4 (.t 2) (.t 5), none⟩])
 (.ret)))
def i55 : IFn := ⟨1, 6, c55, [.c 2 true 4], .pure⟩

/-! 56: typeball/array.Num -/
def c56 : IR :=
 .seq (.reg none [⟨some 1, .box 70 3 (.t 0), none⟩,
  ⟨some 2, .alloc 48 [.nilsl 3 1, .bool false, .nilsl 21 1, .nilsl 70 3, .bool false], none⟩])
 (.lv [1, 2] (.seq (.reg none [⟨some 3, .ld true 3 (.t 1), none⟩,
  ⟨some 4, .bsl 70 3 [.t 3], none⟩,
  ⟨some 5, .build [.nilsl 3 1, .bool false, .nilsl 21 1, .nilsl 70 3, .bool false] [(0, 1, .k (.nilsl 3 1)), (1, 1, .k (.bool false)), (2, 1, .k (.nilsl 21 1)), (3, 1, .t 4), (4, 1, .k (.bool true))], none⟩,
  ⟨none, .st 5 (.t 2) (.t 5), none⟩])
 (.ret)))
def i56 : IFn := ⟨1, 6, c56, [.c 2 true 5], .pure⟩

/-! 57: typeball/array.Char -/
def c57 : IR :=
 .seq (.reg none [⟨some 2, .alloc 48 [.nilsl 3 1, .bool false, .nilsl 21 1, .nilsl 70 3, .bool false], none⟩])
 (.lv [0, 2] (.seq (.reg none [⟨some 3, .mov (.t 0), none⟩,
  ⟨some 4, .bsl 21 1 [.t 3], none⟩,
  ⟨some 5, .build [.nilsl 3 1, .bool false, .nilsl 21 1, .nilsl 70 3, .bool false] [(0, 1, .k (.nilsl 3 1)), (1, 1, .k (.bool true)), (2, 1, .t 4), (3, 1, .k (.nilsl 70 3)), (4, 1, .k (.bool true))], none⟩,
  ⟨none, .st 5 (.t 2) (.t 5), none⟩])
 (.ret)))
def i57 : IFn := ⟨1, 6, c57, [.c 2 true 5], .pure⟩

/-! 58: typeball/array.None -/
def c58 : IR :=
 .seq (.reg none [⟨some 2, .alloc 48 [.nilsl 3 1, .bool false, .nilsl 21 1, .nilsl 70 3, .bool false], none⟩])
 (.lv [0, 2] (.seq (.reg none [⟨some 3, .bsl 3 1 [.k (.int .i64 0)], none⟩,
  ⟨some 4, .mov (.t 0), none⟩,
  ⟨some 5, .build [.nilsl 3 1, .bool false, .nilsl 21 1, .nilsl 70 3, .bool false] [(0, 1, .t 3), (1, 1, .t 4), (4, 1, .k (.bool true))], none⟩,
  ⟨none, .st 5 (.t 2) (.t 5), none⟩])
 (.ret)))
def i58 : IFn := ⟨1, 6, c58, [.c 2 true 5], .pure⟩

/-! 59: typeball/typeballref06.Light -/
def b59_0 : IR :=
 .seq (.seq (.reg none [⟨some 24, .mov (.t 5), none⟩,
  ⟨some 25, .faddr 3 (.t 2), none⟩,
  ⟨some 26, .ld false 1 (.t 25), none⟩,
  ⟨some 27, .lenf (.t 26), none⟩,
  ⟨some 28, .bin .lt (.t 24) (.t 27), none⟩])
 (.lv [2, 5, 28] (.cond (.t 28) (.skip)
 (.exit 0))))
 (.lv [2, 5] (.seq (.block 1 (.seq (.reg none [⟨some 31, .faddr 3 (.t 2), none⟩,
  ⟨some 32, .ld false 1 (.t 31), none⟩,
  ⟨some 33, .mov (.t 5), none⟩,
  ⟨some 34, .iaddrf 3 (.t 32) (.t 33), none⟩,
  ⟨some 35, .faddr 1 (.t 34), none⟩,
  ⟨some 36, .ldf false 1 (.t 35), none⟩,
  ⟨some 37, .slen (.t 36), none⟩,
  ⟨some 38, .bin .gt (.t 37) (.k (.int .i64 40)), none⟩,
  ⟨some 39, .mov (.t 38), none⟩,
  ⟨some 40, .faddr 3 (.t 2), (some (39, false))⟩,
  ⟨some 41, .ld false 1 (.t 40), (some (39, false))⟩,
  ⟨some 42, .mov (.t 5), (some (39, false))⟩,
  ⟨some 43, .iaddrf 3 (.t 41) (.t 42), (some (39, false))⟩,
  ⟨some 44, .faddr 2 (.t 43), (some (39, false))⟩,
  ⟨some 45, .ldf false 1 (.t 44), (some (39, false))⟩,
  ⟨some 46, .slen (.t 45), (some (39, false))⟩,
  ⟨some 47, .bin .gt (.t 46) (.k (.int .i64 40)), (some (39, false))⟩,
  ⟨some 48, .pick (.t 39) (.k (.bool true)) (.t 47), none⟩])
 (.lv [2, 5, 48] (.cond (.t 48) (.lv [] (.seq (.reg none [⟨some 4, .mov (.k (.bool false)), none⟩])
 (.ret)))
 (.skip)))))
 (.lv [2, 5] (.reg none [⟨some 29, .mov (.t 5), none⟩,
  ⟨some 30, .bin .add (.t 29) (.k (.int .i64 1)), none⟩,
  ⟨some 5, .mov (.t 30), none⟩]))))
def k59_0 : IR :=
 .seq (.reg none [⟨some 49, .ld true 4 (.t 2), none⟩,
  ⟨some 50, .callP 66 [.t 49], none⟩,
  ⟨some 4, .mov (.t 50), none⟩])
 (.ret)
def c59 : IR :=
 .seq (.reg none [⟨some 2, .box 77 4 (.t 0), none⟩,
  ⟨some 4, .mov (.k (.bool false)), none⟩])
 (.lv [1, 2] (.seq (.seq (.reg none [⟨some 6, .faddr 2 (.t 2), none⟩,
  ⟨some 7, .ld false 1 (.t 6), none⟩,
  ⟨some 8, .lenf (.t 7), none⟩,
  ⟨some 9, .mov (.t 1), none⟩,
  ⟨some 10, .bin .gt (.t 8) (.t 9), none⟩,
  ⟨some 11, .mov (.t 10), none⟩,
  ⟨some 12, .faddr 3 (.t 2), (some (11, false))⟩,
  ⟨some 13, .ld false 1 (.t 12), (some (11, false))⟩,
  ⟨some 14, .lenf (.t 13), (some (11, false))⟩,
  ⟨some 15, .mov (.t 1), (some (11, false))⟩,
  ⟨some 16, .bin .gt (.t 14) (.t 15), (some (11, false))⟩,
  ⟨some 17, .pick (.t 11) (.k (.bool true)) (.t 16), none⟩,
  ⟨some 18, .mov (.t 17), none⟩,
  ⟨some 19, .faddr 0 (.t 2), (some (18, false))⟩,
  ⟨some 20, .ld false 1 (.t 19), (some (18, false))⟩,
  ⟨some 21, .lenf (.t 20), (some (18, false))⟩,
  ⟨some 22, .bin .gt (.t 21) (.k (.int .i64 8)), (some (18, false))⟩,
  ⟨some 23, .pick (.t 18) (.k (.bool true)) (.t 22), none⟩])
 (.lv [2, 23] (.cond (.t 23) (.lv [] (.seq (.reg none [⟨some 4, .mov (.k (.bool false)), none⟩])
 (.ret)))
 (.skip))))
 (.lv [2] (.seq (.seq (.reg none [⟨some 5, .mov (.k (.int .i64 0)), none⟩])
 (.lv [2, 5] (.block 0 (.loop [2, 5] (some (1, [])) b59_0))))
 k59_0))))
def i59 : IFn := ⟨2, 51, c59, [.t 4], .pure⟩

/-! 60: typeball/typeballlaw06.Of -/
def c60 : IR :=
 .seq (.reg none [⟨some 1, .box 77 4 (.t 0), none⟩,
  ⟨some 2, .alloc 48 [.nilsl 3 1, .bool false, .nilsl 21 1, .nilsl 70 3, .bool false], none⟩])
 (.lv [1, 2] (.seq (.reg none [⟨some 6, .ld true 4 (.t 1), none⟩,
  ⟨some 7, .callP 65 [.t 6], none⟩,
  ⟨some 5, .mov (.t 7), none⟩,
  ⟨some 8, .ext (.t 5) 0, none⟩,
  ⟨some 9, .ext (.t 5) 1, none⟩,
  ⟨some 3, .alloc 48 [.nilsl 3 1, .bool false, .nilsl 21 1, .nilsl 70 3, .bool false], none⟩,
  ⟨none, .st 5 (.t 3) (.t 8), none⟩,
  ⟨some 4, .mov (.t 9), none⟩])
 (.lv [2, 3] (.seq (.reg none [⟨some 10, .ld true 5 (.t 3), none⟩,
  ⟨none, .st 5 (.t 2) (.t 10), none⟩])
 (.ret)))))
def i60 : IFn := ⟨1, 11, c60, [.c 2 true 5], .pure⟩

/-! 61: (typeball/array.Array).Pick -/
def b61_0 : IR :=
 .seq (.reg none [⟨some 35, .bin .lt (.t 34) (.t 33), none⟩])
 (.lv [3, 6, 10, 32, 33, 34, 35] (.seq (.cond (.t 35) (.skip)
 (.exit 0))
 (.lv [3, 6, 10, 32, 33, 34] (.seq (.block 1 (.seq (.reg none [⟨some 36, .iaddrf 1 (.t 32) (.t 34), none⟩,
  ⟨some 37, .ldf false 1 (.t 36), none⟩,
  ⟨some 12, .mov (.t 37), none⟩])
 (.lv [3, 6, 10, 12, 32, 33, 34] (.block 2 (.seq (.reg none [⟨some 49, .faddr 1 (.t 3), none⟩,
  ⟨some 50, .ld false 1 (.t 49), none⟩,
  ⟨some 51, .not (.t 50), none⟩,
  ⟨some 48, .mov (.t 51), none⟩])
 (.lv [3, 6, 10, 12, 32, 33, 34, 48] (.cond (.t 48) (.lv [3, 6, 10, 12, 32, 33, 34] (.reg (some [0, 1, 2, 3, 4, 5, 6, 7, 8]) [⟨some 52, .faddr 3 (.t 10), none⟩,
  ⟨some 53, .ld false 1 (.t 52), none⟩,
  ⟨some 54, .ld true 5 (.t 3), none⟩,
  ⟨some 55, .mov (.t 12), none⟩,
  ⟨some 56, .callP 73 [.t 54, .t 55], none⟩,
  ⟨some 57, .bsl 70 3 [.t 56], none⟩,
  ⟨some 58, .app 70 3 56 (.t 53) (.t 57), none⟩,
  ⟨some 59, .faddr 3 (.t 10), none⟩,
  ⟨none, .st 1 (.t 59) (.t 58), none⟩]))
 (.lv [3, 6, 10, 12, 32, 33, 34] (.seq (.reg none [⟨some 61, .mov (.t 12), none⟩,
  ⟨some 62, .bin .lt (.t 61) (.k (.int .i64 0)), none⟩,
  ⟨some 63, .mov (.t 62), none⟩,
  ⟨some 64, .mov (.t 12), (some (63, false))⟩,
  ⟨some 65, .faddr 2 (.t 3), (some (63, false))⟩,
  ⟨some 66, .ld false 1 (.t 65), (some (63, false))⟩,
  ⟨some 67, .lenf (.t 66), (some (63, false))⟩,
  ⟨some 68, .bin .ge (.t 64) (.t 67), (some (63, false))⟩,
  ⟨some 69, .pick (.t 63) (.k (.bool true)) (.t 68), none⟩,
  ⟨some 60, .mov (.t 69), none⟩])
 (.lv [3, 6, 10, 12, 32, 33, 34, 60] (.cond (.t 60) (.lv [3, 6, 10, 32, 33, 34] (.reg none [⟨some 70, .faddr 2 (.t 10), none⟩,
  ⟨some 71, .ld false 1 (.t 70), none⟩,
  ⟨some 72, .bsl 21 1 [.k (.int .i32 32)], none⟩,
  ⟨some 73, .app 21 1 4 (.t 71) (.t 72), none⟩,
  ⟨some 74, .faddr 2 (.t 10), none⟩,
  ⟨none, .st 1 (.t 74) (.t 73), none⟩]))
 (.lv [3, 6, 10, 12, 32, 33, 34] (.reg (some [0, 1, 2, 3, 4, 5, 6, 7, 8, 9, 10]) [⟨some 38, .faddr 2 (.t 10), none⟩,
  ⟨some 39, .ld false 1 (.t 38), none⟩,
  ⟨some 40, .faddr 2 (.t 3), none⟩,
  ⟨some 41, .ld false 1 (.t 40), none⟩,
  ⟨some 42, .mov (.t 12), none⟩,
  ⟨some 43, .iaddrf 1 (.t 41) (.t 42), none⟩,
  ⟨some 44, .ldf false 1 (.t 43), none⟩,
  ⟨some 45, .bsl 21 1 [.t 44], none⟩,
  ⟨some 46, .app 21 1 4 (.t 39) (.t 45), none⟩,
  ⟨some 47, .faddr 2 (.t 10), none⟩,
  ⟨none, .st 1 (.t 47) (.t 46), none⟩])))))))))))))
 (.lv [3, 6, 10, 32, 33, 34] (.reg none [⟨some 75, .bin .add (.t 34) (.k (.int .i64 1)), none⟩,
  ⟨some 34, .mov (.t 75), none⟩]))))))
def k61_0 : IR :=
 .seq (.reg none [⟨some 76, .ld true 5 (.t 10), none⟩,
  ⟨none, .st 5 (.t 6) (.t 76), none⟩,
  ⟨some 7, .mov (.k (.bool true)), none⟩])
 (.ret)
def c61 : IR :=
 .seq (.reg none [⟨some 3, .box 48 5 (.t 0), none⟩,
  ⟨some 6, .alloc 48 [.nilsl 3 1, .bool false, .nilsl 21 1, .nilsl 70 3, .bool false], none⟩,
  ⟨some 7, .mov (.k (.bool false)), none⟩])
 (.lv [1, 2, 3, 6] (.seq (.reg none [⟨some 14, .mov (.t 1), none⟩,
  ⟨some 15, .callP 35 [.t 14], none⟩,
  ⟨some 13, .mov (.t 15), none⟩,
  ⟨some 16, .ext (.t 13) 0, none⟩,
  ⟨some 17, .ext (.t 13) 1, none⟩,
  ⟨some 8, .mov (.t 16), none⟩,
  ⟨some 9, .mov (.t 17), none⟩])
 (.lv [1, 2, 3, 6, 8, 9] (.seq (.seq (.reg none [⟨some 18, .mov (.t 9), none⟩,
  ⟨some 19, .not (.t 18), none⟩,
  ⟨some 20, .mov (.t 19), none⟩,
  ⟨some 21, .mov (.t 8), (some (20, false))⟩,
  ⟨some 22, .mov (.t 2), (some (20, false))⟩,
  ⟨some 23, .lenf (.t 22), (some (20, false))⟩,
  ⟨some 24, .bin .ne (.t 21) (.t 23), (some (20, false))⟩,
  ⟨some 25, .pick (.t 20) (.k (.bool true)) (.t 24), none⟩])
 (.lv [1, 2, 3, 6, 25] (.cond (.t 25) (.lv [6] (.seq (.reg none [⟨some 26, .build [.nilsl 3 1, .bool false, .nilsl 21 1, .nilsl 70 3, .bool false] [], none⟩,
  ⟨none, .st 5 (.t 6) (.t 26), none⟩,
  ⟨some 7, .mov (.k (.bool false)), none⟩])
 (.ret)))
 (.skip))))
 (.lv [1, 2, 3, 6] (.seq (.reg (some [0, 2, 3, 1, 4, 5, 6]) [⟨some 27, .mov (.t 1), none⟩,
  ⟨some 29, .faddr 1 (.t 3), none⟩,
  ⟨some 30, .ld false 1 (.t 29), none⟩,
  ⟨some 28, .callZ 85 [.t 27], none⟩,
  ⟨some 31, .build [.nilsl 3 1, .bool false, .nilsl 21 1, .nilsl 70 3, .bool false] [(0, 1, .t 28), (1, 1, .t 30), (4, 1, .k (.bool true))], none⟩,
  ⟨some 10, .alloc 48 [.nilsl 3 1, .bool false, .nilsl 21 1, .nilsl 70 3, .bool false], none⟩,
  ⟨none, .st 5 (.t 10) (.t 31), none⟩])
 (.lv [2, 3, 6, 10] (.seq (.seq (.reg none [⟨some 32, .mov (.t 2), none⟩,
  ⟨some 33, .lenf (.t 32), none⟩,
  ⟨some 34, .mov (.k (.int .i64 0)), none⟩])
 (.lv [3, 6, 10, 32, 33, 34] (.block 0 (.loop [3, 6, 10, 32, 33, 34] (some (12, [])) b61_0))))
 k61_0))))))))
def i61 : IFn := ⟨3, 77, c61, [.c 6 true 5, .t 7], .pure⟩

/-! 62: typeball/typeballref06.Len -/
def c62 : IR :=
 .seq (.reg none [⟨some 1, .box 77 4 (.t 0), none⟩,
  ⟨some 2, .mov (.k (.int .i64 0)), none⟩])
 (.lv [1] (.seq (.reg none [⟨some 3, .faddr 2 (.t 1), none⟩,
  ⟨some 4, .ld false 1 (.t 3), none⟩,
  ⟨some 5, .lenf (.t 4), none⟩,
  ⟨some 6, .faddr 3 (.t 1), none⟩,
  ⟨some 7, .ld false 1 (.t 6), none⟩,
  ⟨some 8, .lenf (.t 7), none⟩,
  ⟨some 9, .bin .add (.t 5) (.t 8), none⟩,
  ⟨some 2, .mov (.t 9), none⟩])
 (.ret)))
def i62 : IFn := ⟨1, 10, c62, [.t 2], .pure⟩

/-! 63: typeball/typeballref06.Pick -/
def b63_0 : IR :=
 .seq (.seq (.reg none [⟨some 15, .mov (.t 8), none⟩,
  ⟨some 16, .mov (.t 2), none⟩,
  ⟨some 17, .lenf (.t 16), none⟩,
  ⟨some 18, .bin .lt (.t 15) (.t 17), none⟩])
 (.lv [2, 3, 6, 7, 8, 18] (.cond (.t 18) (.skip)
 (.exit 0))))
 (.lv [2, 3, 6, 7, 8] (.seq (.block 1 (.seq (.reg none [⟨some 21, .mov (.t 2), none⟩,
  ⟨some 22, .mov (.t 8), none⟩,
  ⟨some 23, .iaddrf 1 (.t 21) (.t 22), none⟩,
  ⟨some 24, .ldf false 1 (.t 23), none⟩,
  ⟨some 9, .mov (.t 24), none⟩])
 (.lv [2, 3, 6, 7, 8, 9] (.seq (.reg none [⟨some 25, .mov (.t 9), none⟩,
  ⟨some 26, .bin .ge (.t 25) (.k (.int .i64 0)), none⟩,
  ⟨some 27, .mov (.t 26), none⟩,
  ⟨some 28, .mov (.t 9), (some (27, true))⟩,
  ⟨some 29, .ld true 4 (.t 3), (some (27, true))⟩,
  ⟨some 30, .callP 62 [.t 29], (some (27, true))⟩,
  ⟨some 31, .bin .lt (.t 28) (.t 30), (some (27, true))⟩,
  ⟨some 32, .pick (.t 27) (.t 31) (.k (.bool false)), none⟩,
  ⟨some 10, .mov (.t 32), none⟩])
 (.lv [2, 3, 6, 7, 8, 9, 10] (.seq (.reg none [⟨some 33, .faddr 1 (.t 3), none⟩,
  ⟨some 34, .ld false 1 (.t 33), none⟩,
  ⟨some 35, .mov (.t 34), none⟩,
  ⟨some 36, .mov (.t 10), (some (35, true))⟩,
  ⟨some 37, .pick (.t 35) (.t 36) (.k (.bool false)), none⟩])
 (.lv [2, 3, 6, 7, 8, 9, 10, 37] (.cond (.t 37) (.lv [2, 3, 6, 7, 8, 9] (.reg (some [0, 1, 2, 3, 4, 5, 6, 7, 8, 9, 10]) [⟨some 38, .faddr 2 (.t 7), none⟩,
  ⟨some 39, .ld false 1 (.t 38), none⟩,
  ⟨some 40, .faddr 2 (.t 3), none⟩,
  ⟨some 41, .ld false 1 (.t 40), none⟩,
  ⟨some 42, .mov (.t 9), none⟩,
  ⟨some 43, .iaddrf 1 (.t 41) (.t 42), none⟩,
  ⟨some 44, .ldf false 1 (.t 43), none⟩,
  ⟨some 45, .bsl 21 1 [.t 44], none⟩,
  ⟨some 46, .app 21 1 4 (.t 39) (.t 45), none⟩,
  ⟨some 47, .faddr 2 (.t 7), none⟩,
  ⟨none, .st 1 (.t 47) (.t 46), none⟩]))
 (.lv [2, 3, 6, 7, 8, 9, 10] (.seq (.reg none [⟨some 48, .faddr 1 (.t 3), none⟩,
  ⟨some 49, .ld false 1 (.t 48), none⟩])
 (.lv [2, 3, 6, 7, 8, 9, 10, 49] (.cond (.t 49) (.lv [2, 3, 6, 7, 8] (.reg none [⟨some 50, .faddr 2 (.t 7), none⟩,
  ⟨some 51, .ld false 1 (.t 50), none⟩,
  ⟨some 52, .bsl 21 1 [.k (.int .i32 32)], none⟩,
  ⟨some 53, .app 21 1 4 (.t 51) (.t 52), none⟩,
  ⟨some 54, .faddr 2 (.t 7), none⟩,
  ⟨none, .st 1 (.t 54) (.t 53), none⟩]))
 (.lv [2, 3, 6, 7, 8, 9, 10] (.seq (.reg none [⟨some 55, .mov (.t 10), none⟩])
 (.lv [2, 3, 6, 7, 8, 9, 55] (.cond (.t 55) (.lv [2, 3, 6, 7, 8, 9] (.reg (some [0, 1, 2, 3, 4, 5, 6, 7, 8, 9, 10]) [⟨some 56, .faddr 3 (.t 7), none⟩,
  ⟨some 57, .ld false 1 (.t 56), none⟩,
  ⟨some 58, .faddr 3 (.t 3), none⟩,
  ⟨some 59, .ld false 1 (.t 58), none⟩,
  ⟨some 60, .mov (.t 9), none⟩,
  ⟨some 61, .iaddrf 3 (.t 59) (.t 60), none⟩,
  ⟨some 62, .ldf true 3 (.t 61), none⟩,
  ⟨some 63, .bsl 97 3 [.t 62], none⟩,
  ⟨some 64, .app 97 3 40 (.t 57) (.t 63), none⟩,
  ⟨some 65, .faddr 3 (.t 7), none⟩,
  ⟨none, .st 1 (.t 65) (.t 64), none⟩]))
 (.lv [2, 3, 6, 7, 8] (.reg (some [0, 1, 2, 3, 4, 5, 6]) [⟨some 66, .faddr 3 (.t 7), none⟩,
  ⟨some 67, .ld false 1 (.t 66), none⟩,
  ⟨some 68, .callP 67 [], none⟩,
  ⟨some 69, .bsl 97 3 [.t 68], none⟩,
  ⟨some 70, .app 97 3 40 (.t 67) (.t 69), none⟩,
  ⟨some 71, .faddr 3 (.t 7), none⟩,
  ⟨none, .st 1 (.t 71) (.t 70), none⟩]))))))))))))))))))
 (.lv [2, 3, 6, 7, 8] (.reg none [⟨some 19, .mov (.t 8), none⟩,
  ⟨some 20, .bin .add (.t 19) (.k (.int .i64 1)), none⟩,
  ⟨some 8, .mov (.t 20), none⟩]))))
def k63_0 : IR :=
 .seq (.reg none [⟨some 72, .ld true 4 (.t 7), none⟩,
  ⟨none, .st 4 (.t 6) (.t 72), none⟩])
 (.ret)
def c63 : IR :=
 .seq (.reg none [⟨some 3, .box 77 4 (.t 0), none⟩,
  ⟨some 6, .alloc 77 [.nilsl 3 1, .bool false, .nilsl 21 1, .nilsl 97 3], none⟩])
 (.lv [1, 2, 3, 6] (.seq (.reg none [⟨some 11, .mov (.t 1), none⟩,
  ⟨some 12, .faddr 1 (.t 3), none⟩,
  ⟨some 13, .ld false 1 (.t 12), none⟩,
  ⟨some 14, .build [.nilsl 3 1, .bool false, .nilsl 21 1, .nilsl 97 3] [(0, 1, .t 11), (1, 1, .t 13)], none⟩,
  ⟨some 7, .alloc 77 [.nilsl 3 1, .bool false, .nilsl 21 1, .nilsl 97 3], none⟩,
  ⟨none, .st 4 (.t 7) (.t 14), none⟩])
 (.lv [2, 3, 6, 7] (.seq (.seq (.reg none [⟨some 8, .mov (.k (.int .i64 0)), none⟩])
 (.lv [2, 3, 6, 7, 8] (.block 0 (.loop [2, 3, 6, 7, 8] (some (11, [])) b63_0))))
 k63_0))))
def i63 : IFn := ⟨3, 73, c63, [.c 6 true 4], .pure⟩

/-! 64: (typeball/array.Array).Ravel -/
def c64 : IR :=
 .seq (.reg none [⟨some 1, .box 48 5 (.t 0), none⟩,
  ⟨some 2, .alloc 48 [.nilsl 3 1, .bool false, .nilsl 21 1, .nilsl 70 3, .bool false], none⟩])
 (.lv [1, 2] (.seq (.reg none [⟨some 3, .ld true 5 (.t 1), none⟩,
  ⟨some 4, .callR 54 [.t 3], none⟩,
  ⟨some 5, .bsl 3 1 [.t 4], none⟩,
  ⟨some 6, .faddr 0 (.t 1), none⟩,
  ⟨none, .st 1 (.t 6) (.t 5), none⟩,
  ⟨some 7, .faddr 4 (.t 1), none⟩,
  ⟨none, .st 1 (.t 7) (.k (.bool true)), none⟩])
 (.lv [1, 2] (.seq (.reg none [⟨some 8, .ld true 5 (.t 1), none⟩,
  ⟨none, .st 5 (.t 2) (.t 8), none⟩])
 (.ret)))))
def i64 : IFn := ⟨1, 9, c64, [.c 2 true 5], .pure⟩

/-! 65: typeball/array.Of -/
def b65_0 : IR :=
 .seq (.reg none [⟨some 68, .bin .lt (.t 67) (.t 66), none⟩])
 (.lv [2, 6, 65, 66, 67, 68] (.seq (.cond (.t 68) (.skip)
 (.exit 0))
 (.lv [2, 6, 65, 66, 67] (.seq (.block 1 (.seq (.reg none [⟨some 69, .iaddrf 3 (.t 65) (.t 67), none⟩,
  ⟨some 70, .ldf true 3 (.t 69), none⟩,
  ⟨some 8, .alloc 97 [.bool false, .str ⟨#[]⟩, .str ⟨#[]⟩], none⟩,
  ⟨none, .st 3 (.t 8) (.t 70), none⟩])
 (.lv [2, 6, 8, 65, 66, 67] (.seq (.reg none [⟨some 72, .ld true 3 (.t 8), none⟩,
  ⟨some 73, .callP 95 [.t 72], none⟩,
  ⟨some 71, .mov (.t 73), none⟩,
  ⟨some 74, .ext (.t 71) 0, none⟩,
  ⟨some 75, .ext (.t 71) 1, none⟩,
  ⟨some 9, .alloc 70 [.nilsl 133 1, .bool false, .nilsl 133 1], none⟩,
  ⟨none, .st 3 (.t 9) (.t 74), none⟩,
  ⟨some 10, .mov (.t 75), none⟩])
 (.lv [2, 6, 9, 10, 65, 66, 67] (.seq (.seq (.reg none [⟨some 76, .mov (.t 10), none⟩,
  ⟨some 77, .not (.t 76), none⟩])
 (.lv [2, 6, 9, 65, 66, 67, 77] (.cond (.t 77) (.lv [2] (.seq (.reg none [⟨some 78, .build [.nilsl 3 1, .bool false, .nilsl 21 1, .nilsl 70 3, .bool false] [], none⟩,
  ⟨none, .st 5 (.t 2) (.t 78), none⟩,
  ⟨some 3, .mov (.k (.bool false)), none⟩])
 (.ret)))
 (.skip))))
 (.lv [2, 6, 9, 65, 66, 67] (.reg none [⟨some 79, .faddr 3 (.t 6), none⟩,
  ⟨some 80, .ld false 1 (.t 79), none⟩,
  ⟨some 81, .ld true 3 (.t 9), none⟩,
  ⟨some 82, .bsl 70 3 [.t 81], none⟩,
  ⟨some 83, .app 70 3 56 (.t 80) (.t 82), none⟩,
  ⟨some 84, .faddr 3 (.t 6), none⟩,
  ⟨none, .st 1 (.t 84) (.t 83), none⟩]))))))))
 (.lv [2, 6, 65, 66, 67] (.reg none [⟨some 85, .bin .add (.t 67) (.k (.int .i64 1)), none⟩,
  ⟨some 67, .mov (.t 85), none⟩]))))))
def k65_0 : IR :=
 .seq (.reg none [⟨some 86, .ld true 5 (.t 6), none⟩,
  ⟨none, .st 5 (.t 2) (.t 86), none⟩,
  ⟨some 3, .mov (.k (.bool true)), none⟩])
 (.ret)
def c65 : IR :=
 .seq (.reg none [⟨some 1, .box 77 4 (.t 0), none⟩,
  ⟨some 2, .alloc 48 [.nilsl 3 1, .bool false, .nilsl 21 1, .nilsl 70 3, .bool false], none⟩,
  ⟨some 3, .mov (.k (.bool false)), none⟩])
 (.lv [1, 2] (.seq (.reg none [⟨some 12, .faddr 0 (.t 1), none⟩,
  ⟨some 13, .ld false 1 (.t 12), none⟩,
  ⟨some 14, .callP 35 [.t 13], none⟩,
  ⟨some 11, .mov (.t 14), none⟩,
  ⟨some 15, .ext (.t 11) 0, none⟩,
  ⟨some 16, .ext (.t 11) 1, none⟩,
  ⟨some 4, .mov (.t 15), none⟩,
  ⟨some 5, .mov (.t 16), none⟩])
 (.lv [1, 2, 4, 5] (.seq (.seq (.reg none [⟨some 17, .mov (.t 5), none⟩,
  ⟨some 18, .not (.t 17), none⟩,
  ⟨some 19, .mov (.t 18), none⟩,
  ⟨some 20, .faddr 1 (.t 1), (some (19, false))⟩,
  ⟨some 21, .ld false 1 (.t 20), (some (19, false))⟩,
  ⟨some 22, .mov (.t 21), (some (19, false))⟩,
  ⟨some 23, .faddr 2 (.t 1), (some (22, true))⟩,
  ⟨some 24, .ld false 1 (.t 23), (some (22, true))⟩,
  ⟨some 25, .lenf (.t 24), (some (22, true))⟩,
  ⟨some 26, .mov (.t 4), (some (22, true))⟩,
  ⟨some 27, .bin .ne (.t 25) (.t 26), (some (22, true))⟩,
  ⟨some 28, .mov (.t 27), (some (22, true))⟩,
  ⟨some 29, .faddr 3 (.t 1), (some (28, false))⟩,
  ⟨some 30, .ld false 1 (.t 29), (some (28, false))⟩,
  ⟨some 31, .lenf (.t 30), (some (28, false))⟩,
  ⟨some 32, .bin .gt (.t 31) (.k (.int .i64 0)), (some (28, false))⟩,
  ⟨some 33, .pick (.t 28) (.k (.bool true)) (.t 32), (some (22, true))⟩,
  ⟨some 34, .pick (.t 22) (.t 33) (.k (.bool false)), (some (19, false))⟩,
  ⟨some 35, .pick (.t 19) (.k (.bool true)) (.t 34), none⟩,
  ⟨some 36, .mov (.t 35), none⟩,
  ⟨some 37, .faddr 1 (.t 1), (some (36, false))⟩,
  ⟨some 38, .ld false 1 (.t 37), (some (36, false))⟩,
  ⟨some 39, .not (.t 38), (some (36, false))⟩,
  ⟨some 40, .mov (.t 39), (some (36, false))⟩,
  ⟨some 41, .faddr 3 (.t 1), (some (40, true))⟩,
  ⟨some 42, .ld false 1 (.t 41), (some (40, true))⟩,
  ⟨some 43, .lenf (.t 42), (some (40, true))⟩,
  ⟨some 44, .mov (.t 4), (some (40, true))⟩,
  ⟨some 45, .bin .ne (.t 43) (.t 44), (some (40, true))⟩,
  ⟨some 46, .mov (.t 45), (some (40, true))⟩,
  ⟨some 47, .faddr 2 (.t 1), (some (46, false))⟩,
  ⟨some 48, .ld false 1 (.t 47), (some (46, false))⟩,
  ⟨some 49, .lenf (.t 48), (some (46, false))⟩,
  ⟨some 50, .bin .gt (.t 49) (.k (.int .i64 0)), (some (46, false))⟩,
  ⟨some 51, .pick (.t 46) (.k (.bool true)) (.t 50), (some (40, true))⟩,
  ⟨some 52, .pick (.t 40) (.t 51) (.k (.bool false)), (some (36, false))⟩,
  ⟨some 53, .pick (.t 36) (.k (.bool true)) (.t 52), none⟩])
 (.lv [1, 2, 53] (.cond (.t 53) (.lv [2] (.seq (.reg none [⟨some 54, .build [.nilsl 3 1, .bool false, .nilsl 21 1, .nilsl 70 3, .bool false] [], none⟩,
  ⟨none, .st 5 (.t 2) (.t 54), none⟩,
  ⟨some 3, .mov (.k (.bool false)), none⟩])
 (.ret)))
 (.skip))))
 (.lv [1, 2] (.seq (.reg (some [0, 1, 3, 4, 5, 6, 2, 7, 8, 9, 10]) [⟨some 55, .faddr 0 (.t 1), none⟩,
  ⟨some 56, .ld false 1 (.t 55), none⟩,
  ⟨some 58, .faddr 1 (.t 1), none⟩,
  ⟨some 59, .ld false 1 (.t 58), none⟩,
  ⟨some 60, .faddr 2 (.t 1), none⟩,
  ⟨some 61, .ld false 1 (.t 60), none⟩,
  ⟨some 57, .callZ 85 [.t 56], none⟩,
  ⟨some 62, .callZ 92 [.t 61], none⟩,
  ⟨some 63, .build [.nilsl 3 1, .bool false, .nilsl 21 1, .nilsl 70 3, .bool false] [(0, 1, .t 57), (1, 1, .t 59), (2, 1, .t 62), (3, 1, .k (.nilsl 70 3)), (4, 1, .k (.bool true))], none⟩,
  ⟨some 6, .alloc 48 [.nilsl 3 1, .bool false, .nilsl 21 1, .nilsl 70 3, .bool false], none⟩,
  ⟨none, .st 5 (.t 6) (.t 63), none⟩])
 (.lv [1, 2, 6] (.seq (.seq (.reg none [⟨some 64, .faddr 3 (.t 1), none⟩,
  ⟨some 65, .ld false 1 (.t 64), none⟩,
  ⟨some 66, .lenf (.t 65), none⟩,
  ⟨some 67, .mov (.k (.int .i64 0)), none⟩])
 (.lv [2, 6, 65, 66, 67] (.block 0 (.loop [2, 6, 65, 66, 67] (some (12, [])) b65_0))))
 k65_0))))))))
def i65 : IFn := ⟨1, 87, c65, [.c 2 true 5, .t 3], .pure⟩

/-! 66: typeball/typeballref06.Right -/
def b66_0 : IR :=
 .seq (.seq (.reg none [⟨some 49, .mov (.t 5), none⟩,
  ⟨some 50, .faddr 3 (.t 1), none⟩,
  ⟨some 51, .ld false 1 (.t 50), none⟩,
  ⟨some 52, .lenf (.t 51), none⟩,
  ⟨some 53, .bin .lt (.t 49) (.t 52), none⟩])
 (.lv [1, 5, 53] (.cond (.t 53) (.skip)
 (.exit 0))))
 (.lv [1, 5] (.seq (.block 1 (.seq (.reg none [⟨some 56, .faddr 3 (.t 1), none⟩,
  ⟨some 57, .ld false 1 (.t 56), none⟩,
  ⟨some 58, .mov (.t 5), none⟩,
  ⟨some 59, .iaddrf 3 (.t 57) (.t 58), none⟩,
  ⟨some 60, .ldf true 3 (.t 59), none⟩,
  ⟨some 61, .callP 96 [.t 60], none⟩,
  ⟨some 62, .not (.t 61), none⟩])
 (.lv [1, 5, 62] (.cond (.t 62) (.lv [] (.seq (.reg none [⟨some 2, .mov (.k (.bool false)), none⟩])
 (.ret)))
 (.skip)))))
 (.lv [1, 5] (.reg none [⟨some 54, .mov (.t 5), none⟩,
  ⟨some 55, .bin .add (.t 54) (.k (.int .i64 1)), none⟩,
  ⟨some 5, .mov (.t 55), none⟩]))))
def k66_0 : IR :=
 .seq (.reg none [⟨some 2, .mov (.k (.bool true)), none⟩])
 (.ret)
def c66 : IR :=
 .seq (.reg none [⟨some 1, .box 77 4 (.t 0), none⟩,
  ⟨some 2, .mov (.k (.bool false)), none⟩])
 (.lv [1] (.seq (.reg none [⟨some 7, .faddr 0 (.t 1), none⟩,
  ⟨some 8, .ld false 1 (.t 7), none⟩,
  ⟨some 9, .callP 17 [.t 8], none⟩,
  ⟨some 6, .mov (.t 9), none⟩,
  ⟨some 10, .ext (.t 6) 0, none⟩,
  ⟨some 11, .ext (.t 6) 1, none⟩,
  ⟨some 3, .mov (.t 10), none⟩,
  ⟨some 4, .mov (.t 11), none⟩])
 (.lv [1, 3, 4] (.seq (.seq (.reg none [⟨some 12, .mov (.t 4), none⟩,
  ⟨some 13, .not (.t 12), none⟩,
  ⟨some 14, .mov (.t 13), none⟩,
  ⟨some 15, .faddr 1 (.t 1), (some (14, false))⟩,
  ⟨some 16, .ld false 1 (.t 15), (some (14, false))⟩,
  ⟨some 17, .mov (.t 16), (some (14, false))⟩,
  ⟨some 18, .faddr 2 (.t 1), (some (17, true))⟩,
  ⟨some 19, .ld false 1 (.t 18), (some (17, true))⟩,
  ⟨some 20, .lenf (.t 19), (some (17, true))⟩,
  ⟨some 21, .mov (.t 3), (some (17, true))⟩,
  ⟨some 22, .bin .ne (.t 20) (.t 21), (some (17, true))⟩,
  ⟨some 23, .mov (.t 22), (some (17, true))⟩,
  ⟨some 24, .faddr 3 (.t 1), (some (23, false))⟩,
  ⟨some 25, .ld false 1 (.t 24), (some (23, false))⟩,
  ⟨some 26, .lenf (.t 25), (some (23, false))⟩,
  ⟨some 27, .bin .ne (.t 26) (.k (.int .i64 0)), (some (23, false))⟩,
  ⟨some 28, .pick (.t 23) (.k (.bool true)) (.t 27), (some (17, true))⟩,
  ⟨some 29, .pick (.t 17) (.t 28) (.k (.bool false)), (some (14, false))⟩,
  ⟨some 30, .pick (.t 14) (.k (.bool true)) (.t 29), none⟩,
  ⟨some 31, .mov (.t 30), none⟩,
  ⟨some 32, .faddr 1 (.t 1), (some (31, false))⟩,
  ⟨some 33, .ld false 1 (.t 32), (some (31, false))⟩,
  ⟨some 34, .not (.t 33), (some (31, false))⟩,
  ⟨some 35, .mov (.t 34), (some (31, false))⟩,
  ⟨some 36, .faddr 3 (.t 1), (some (35, true))⟩,
  ⟨some 37, .ld false 1 (.t 36), (some (35, true))⟩,
  ⟨some 38, .lenf (.t 37), (some (35, true))⟩,
  ⟨some 39, .mov (.t 3), (some (35, true))⟩,
  ⟨some 40, .bin .ne (.t 38) (.t 39), (some (35, true))⟩,
  ⟨some 41, .mov (.t 40), (some (35, true))⟩,
  ⟨some 42, .faddr 2 (.t 1), (some (41, false))⟩,
  ⟨some 43, .ld false 1 (.t 42), (some (41, false))⟩,
  ⟨some 44, .lenf (.t 43), (some (41, false))⟩,
  ⟨some 45, .bin .ne (.t 44) (.k (.int .i64 0)), (some (41, false))⟩,
  ⟨some 46, .pick (.t 41) (.k (.bool true)) (.t 45), (some (35, true))⟩,
  ⟨some 47, .pick (.t 35) (.t 46) (.k (.bool false)), (some (31, false))⟩,
  ⟨some 48, .pick (.t 31) (.k (.bool true)) (.t 47), none⟩])
 (.lv [1, 48] (.cond (.t 48) (.lv [] (.seq (.reg none [⟨some 2, .mov (.k (.bool false)), none⟩])
 (.ret)))
 (.skip))))
 (.lv [1] (.seq (.seq (.reg none [⟨some 5, .mov (.k (.int .i64 0)), none⟩])
 (.lv [1, 5] (.block 0 (.loop [1, 5] (some (1, [])) b66_0))))
 k66_0))))))
def i66 : IFn := ⟨1, 63, c66, [.t 2], .pure⟩

/-! 67: typeball/typeballref03.Zero -/
def c67 : IR :=
 .seq (.reg none [⟨some 0, .alloc 97 [.bool false, .str ⟨#[]⟩, .str ⟨#[]⟩], none⟩])
 (.lv [0] (.seq (.reg none [⟨some 1, .build [.bool false, .str ⟨#[]⟩, .str ⟨#[]⟩] [(1, 1, .k (.str ⟨#[48]⟩)), (2, 1, .k (.str ⟨#[49]⟩))], none⟩,
  ⟨none, .st 3 (.t 0) (.t 1), none⟩])
 (.ret)))
def i67 : IFn := ⟨0, 2, c67, [.c 0 true 3], .pure⟩

/-! 68: typeball/typeballref06.Whole -/
def b68_0 : IR :=
 .seq (.seq (.reg none [⟨some 12, .mov (.t 5), none⟩,
  ⟨some 13, .faddr 3 (.t 1), none⟩,
  ⟨some 14, .ld false 1 (.t 13), none⟩,
  ⟨some 15, .lenf (.t 14), none⟩,
  ⟨some 16, .bin .lt (.t 12) (.t 15), none⟩])
 (.lv [1, 4, 5, 16] (.cond (.t 16) (.skip)
 (.exit 0))))
 (.lv [1, 4, 5] (.seq (.block 1 (.seq (.reg none [⟨some 20, .faddr 3 (.t 1), none⟩,
  ⟨some 21, .ld false 1 (.t 20), none⟩,
  ⟨some 22, .mov (.t 5), none⟩,
  ⟨some 23, .iaddrf 3 (.t 21) (.t 22), none⟩,
  ⟨some 24, .ldf true 3 (.t 23), none⟩,
  ⟨some 25, .callP 97 [.t 24], none⟩,
  ⟨some 19, .mov (.t 25), none⟩,
  ⟨some 26, .ext (.t 19) 0, none⟩,
  ⟨some 27, .ext (.t 19) 1, none⟩,
  ⟨some 6, .mov (.t 26), none⟩,
  ⟨some 7, .mov (.t 27), none⟩])
 (.lv [1, 4, 5, 6, 7] (.seq (.seq (.reg none [⟨some 28, .mov (.t 7), none⟩,
  ⟨some 29, .not (.t 28), none⟩])
 (.lv [1, 4, 5, 6, 29] (.cond (.t 29) (.lv [] (.seq (.reg none [⟨some 2, .newnil 3 1, none⟩,
  ⟨some 3, .mov (.k (.bool false)), none⟩])
 (.ret)))
 (.skip))))
 (.lv [1, 4, 5, 6] (.reg none [⟨some 30, .mov (.t 4), none⟩,
  ⟨some 31, .mov (.t 6), none⟩,
  ⟨some 32, .bsl 3 1 [.t 31], none⟩,
  ⟨some 33, .app 3 1 8 (.t 30) (.t 32), none⟩,
  ⟨some 4, .mov (.t 33), none⟩]))))))
 (.lv [1, 4, 5] (.reg none [⟨some 17, .mov (.t 5), none⟩,
  ⟨some 18, .bin .add (.t 17) (.k (.int .i64 1)), none⟩,
  ⟨some 5, .mov (.t 18), none⟩]))))
def k68_0 : IR :=
 .seq (.reg none [⟨some 34, .mov (.t 4), none⟩,
  ⟨some 2, .mov (.t 34), none⟩,
  ⟨some 3, .mov (.k (.bool true)), none⟩])
 (.ret)
def c68 : IR :=
 .seq (.reg none [⟨some 1, .box 77 4 (.t 0), none⟩,
  ⟨some 2, .newnil 3 1, none⟩,
  ⟨some 3, .mov (.k (.bool false)), none⟩])
 (.lv [1] (.seq (.seq (.reg none [⟨some 8, .faddr 2 (.t 1), none⟩,
  ⟨some 9, .ld false 1 (.t 8), none⟩,
  ⟨some 10, .lenf (.t 9), none⟩,
  ⟨some 11, .bin .gt (.t 10) (.k (.int .i64 0)), none⟩])
 (.lv [1, 11] (.cond (.t 11) (.lv [] (.seq (.reg none [⟨some 2, .newnil 3 1, none⟩,
  ⟨some 3, .mov (.k (.bool false)), none⟩])
 (.ret)))
 (.skip))))
 (.lv [1] (.seq (.reg none [⟨some 4, .newnil 3 1, none⟩])
 (.lv [1, 4] (.seq (.seq (.reg none [⟨some 5, .mov (.k (.int .i64 0)), none⟩])
 (.lv [1, 4, 5] (.block 0 (.loop [1, 4, 5] (some (3, [])) b68_0))))
 k68_0))))))
def i68 : IFn := ⟨1, 35, c68, [.t 2, .t 3], .own⟩

/-! 69: (typeball/array.Array).Shape -/
def c69 : IR :=
 .seq (.reg none [⟨some 1, .box 48 5 (.t 0), none⟩,
  ⟨some 2, .newnil 3 1, none⟩])
 (.lv [1] (.seq (.seq (.reg none [⟨some 3, .faddr 4 (.t 1), none⟩,
  ⟨some 4, .ld false 1 (.t 3), none⟩,
  ⟨some 5, .not (.t 4), none⟩])
 (.lv [1, 5] (.cond (.t 5) (.lv [] (.seq (.reg none [⟨some 6, .bsl 3 1 [.k (.int .i64 0)], none⟩,
  ⟨some 2, .mov (.t 6), none⟩])
 (.ret)))
 (.skip))))
 (.lv [1] (.seq (.reg none [⟨some 7, .faddr 0 (.t 1), none⟩,
  ⟨some 8, .ld false 1 (.t 7), none⟩,
  ⟨some 9, .callO 85 [.t 8], none⟩,
  ⟨some 2, .mov (.t 9), none⟩])
 (.ret)))))
def i69 : IFn := ⟨1, 10, c69, [.t 2], .pure⟩

/-! 70: (typeball/array.Array).Rank -/
def c70 : IR :=
 .seq (.reg none [⟨some 1, .box 48 5 (.t 0), none⟩,
  ⟨some 2, .mov (.k (.int .i64 0)), none⟩])
 (.lv [1] (.seq (.reg none [⟨some 3, .ld true 5 (.t 1), none⟩,
  ⟨some 4, .callP 69 [.t 3], none⟩,
  ⟨some 5, .lenf (.t 4), none⟩,
  ⟨some 2, .mov (.t 5), none⟩])
 (.ret)))
def i70 : IFn := ⟨1, 6, c70, [.t 2], .pure⟩

/-! 71: (typeball/array.Array).IsChar -/
def c71 : IR :=
 .seq (.reg none [⟨some 1, .box 48 5 (.t 0), none⟩,
  ⟨some 2, .mov (.k (.bool false)), none⟩])
 (.lv [1] (.seq (.reg none [⟨some 3, .faddr 1 (.t 1), none⟩,
  ⟨some 4, .ld false 1 (.t 3), none⟩,
  ⟨some 2, .mov (.t 4), none⟩])
 (.ret)))
def i71 : IFn := ⟨1, 5, c71, [.t 2], .pure⟩

/-! 72: (typeball/array.Array).Rune -/
def c72 : IR :=
 .seq (.reg none [⟨some 2, .box 48 5 (.t 0), none⟩,
  ⟨some 4, .mov (.k (.int .i32 0)), none⟩])
 (.lv [1, 2] (.seq (.seq (.reg none [⟨some 5, .mov (.t 1), none⟩,
  ⟨some 6, .bin .lt (.t 5) (.k (.int .i64 0)), none⟩,
  ⟨some 7, .mov (.t 6), none⟩,
  ⟨some 8, .mov (.t 1), (some (7, false))⟩,
  ⟨some 9, .faddr 2 (.t 2), (some (7, false))⟩,
  ⟨some 10, .ld false 1 (.t 9), (some (7, false))⟩,
  ⟨some 11, .lenf (.t 10), (some (7, false))⟩,
  ⟨some 12, .bin .ge (.t 8) (.t 11), (some (7, false))⟩,
  ⟨some 13, .pick (.t 7) (.k (.bool true)) (.t 12), none⟩])
 (.lv [1, 2, 13] (.cond (.t 13) (.lv [] (.seq (.reg none [⟨some 4, .mov (.k (.int .i32 0)), none⟩])
 (.ret)))
 (.skip))))
 (.lv [1, 2] (.seq (.reg none [⟨some 14, .faddr 2 (.t 2), none⟩,
  ⟨some 15, .ld false 1 (.t 14), none⟩,
  ⟨some 16, .mov (.t 1), none⟩,
  ⟨some 17, .iaddrf 1 (.t 15) (.t 16), none⟩,
  ⟨some 18, .ldf false 1 (.t 17), none⟩,
  ⟨some 4, .mov (.t 18), none⟩])
 (.ret)))))
def i72 : IFn := ⟨2, 19, c72, [.t 4], .pure⟩

/-! 73: (typeball/array.Array).Rat -/
def c73 : IR :=
 .seq (.reg none [⟨some 2, .box 48 5 (.t 0), none⟩,
  ⟨some 4, .alloc 70 [.nilsl 133 1, .bool false, .nilsl 133 1], none⟩])
 (.lv [1, 2, 4] (.seq (.seq (.reg none [⟨some 5, .mov (.t 1), none⟩,
  ⟨some 6, .bin .lt (.t 5) (.k (.int .i64 0)), none⟩,
  ⟨some 7, .mov (.t 6), none⟩,
  ⟨some 8, .mov (.t 1), (some (7, false))⟩,
  ⟨some 9, .faddr 3 (.t 2), (some (7, false))⟩,
  ⟨some 10, .ld false 1 (.t 9), (some (7, false))⟩,
  ⟨some 11, .lenf (.t 10), (some (7, false))⟩,
  ⟨some 12, .bin .ge (.t 8) (.t 11), (some (7, false))⟩,
  ⟨some 13, .pick (.t 7) (.k (.bool true)) (.t 12), none⟩])
 (.lv [1, 2, 4, 13] (.cond (.t 13) (.lv [4] (.seq (.reg none [⟨some 14, .build [.nilsl 133 1, .bool false, .nilsl 133 1] [], none⟩,
  ⟨none, .st 3 (.t 4) (.t 14), none⟩])
 (.ret)))
 (.skip))))
 (.lv [1, 2, 4] (.seq (.reg none [⟨some 15, .faddr 3 (.t 2), none⟩,
  ⟨some 16, .ld false 1 (.t 15), none⟩,
  ⟨some 17, .mov (.t 1), none⟩,
  ⟨some 18, .iaddrf 3 (.t 16) (.t 17), none⟩,
  ⟨some 19, .ldf true 3 (.t 18), none⟩,
  ⟨none, .st 3 (.t 4) (.t 19), none⟩])
 (.ret)))))
def i73 : IFn := ⟨2, 20, c73, [.c 4 true 3], .pure⟩

/-! 74: (typeball/ratio.Rat).Num -/
def c74 : IR :=
 .seq (.reg none [⟨some 1, .box 70 3 (.t 0), none⟩,
  ⟨some 2, .alloc 97 [.bool false, .str ⟨#[]⟩, .str ⟨#[]⟩], none⟩])
 (.lv [1, 2] (.seq (.reg (some [0, 1, 2, 3, 4, 5, 6, 7, 8, 9, 10, 11]) [⟨some 3, .faddr 0 (.t 1), none⟩,
  ⟨some 4, .ld true 2 (.t 3), none⟩,
  ⟨some 5, .callP 98 [.t 4], none⟩,
  ⟨some 6, .faddr 0 (.t 1), none⟩,
  ⟨some 7, .faddr 0 (.t 6), none⟩,
  ⟨some 8, .ld true 1 (.t 7), none⟩,
  ⟨some 9, .callP 99 [.t 8], none⟩,
  ⟨some 10, .ld true 3 (.t 1), none⟩,
  ⟨some 11, .callP 100 [.t 10], none⟩,
  ⟨some 12, .callP 99 [.t 11], none⟩,
  ⟨some 13, .build [.bool false, .str ⟨#[]⟩, .str ⟨#[]⟩] [(0, 1, .t 5), (1, 1, .t 9), (2, 1, .t 12)], none⟩,
  ⟨none, .st 3 (.t 2) (.t 13), none⟩])
 (.ret)))
def i74 : IFn := ⟨1, 14, c74, [.c 2 true 3], .pure⟩

/-! 75: typeball/typeballref05.Runes -/
def b75_0 : IR :=
 .seq (.seq (.reg none [⟨some 11, .mov (.t 5), none⟩,
  ⟨some 12, .mov (.t 0), none⟩,
  ⟨some 13, .lenf (.t 12), none⟩,
  ⟨some 14, .bin .lt (.t 11) (.t 13), none⟩])
 (.lv [0, 1, 5, 14] (.cond (.t 14) (.skip)
 (.exit 0))))
 (.lv [0, 1, 5] (.seq (.block 1 (.seq (.reg (some [0, 1, 2, 3, 4, 5, 6, 7, 8]) [⟨some 17, .mov (.t 0), none⟩,
  ⟨some 18, .mov (.t 5), none⟩,
  ⟨some 19, .iaddrf 1 (.t 17) (.t 18), none⟩,
  ⟨some 20, .ldf false 1 (.t 19), none⟩,
  ⟨some 21, .mov (.t 1), none⟩,
  ⟨some 22, .mov (.t 5), none⟩,
  ⟨some 23, .iaddrf 1 (.t 21) (.t 22), none⟩,
  ⟨some 24, .ldf false 1 (.t 23), none⟩,
  ⟨some 25, .bin .ne (.t 20) (.t 24), none⟩])
 (.lv [0, 1, 5, 25] (.cond (.t 25) (.lv [] (.seq (.reg none [⟨some 4, .mov (.k (.bool false)), none⟩])
 (.ret)))
 (.skip)))))
 (.lv [0, 1, 5] (.reg none [⟨some 15, .mov (.t 5), none⟩,
  ⟨some 16, .bin .add (.t 15) (.k (.int .i64 1)), none⟩,
  ⟨some 5, .mov (.t 16), none⟩]))))
def k75_0 : IR :=
 .seq (.reg none [⟨some 4, .mov (.k (.bool true)), none⟩])
 (.ret)
def c75 : IR :=
 .seq (.reg none [⟨some 4, .mov (.k (.bool false)), none⟩])
 (.lv [0, 1] (.seq (.seq (.reg none [⟨some 6, .mov (.t 0), none⟩,
  ⟨some 7, .lenf (.t 6), none⟩,
  ⟨some 8, .mov (.t 1), none⟩,
  ⟨some 9, .lenf (.t 8), none⟩,
  ⟨some 10, .bin .ne (.t 7) (.t 9), none⟩])
 (.lv [0, 1, 10] (.cond (.t 10) (.lv [] (.seq (.reg none [⟨some 4, .mov (.k (.bool false)), none⟩])
 (.ret)))
 (.skip))))
 (.lv [0, 1] (.seq (.seq (.reg none [⟨some 5, .mov (.k (.int .i64 0)), none⟩])
 (.lv [0, 1, 5] (.block 0 (.loop [0, 1, 5] (some (0, [])) b75_0))))
 k75_0))))
def i75 : IFn := ⟨2, 26, c75, [.t 4], .pure⟩

/-! 76: (typeball/array.Array).Runes -/
def c76 : IR :=
 .seq (.reg none [⟨some 1, .box 48 5 (.t 0), none⟩,
  ⟨some 2, .newnil 21 1, none⟩])
 (.lv [1] (.seq (.reg none [⟨some 3, .faddr 2 (.t 1), none⟩,
  ⟨some 4, .ld false 1 (.t 3), none⟩,
  ⟨some 5, .callO 92 [.t 4], none⟩,
  ⟨some 2, .mov (.t 5), none⟩])
 (.ret)))
def i76 : IFn := ⟨1, 6, c76, [.t 2], .own⟩

/-! 77: (typeball/array.Array).Rats -/
def c77 : IR :=
 .seq (.reg none [⟨some 1, .box 48 5 (.t 0), none⟩,
  ⟨some 2, .newnil 70 3, none⟩])
 (.lv [1] (.seq (.reg none [⟨some 3, .faddr 3 (.t 1), none⟩,
  ⟨some 4, .ld false 1 (.t 3), none⟩,
  ⟨some 5, .callO 91 [.t 4], none⟩,
  ⟨some 2, .mov (.t 5), none⟩])
 (.ret)))
def i77 : IFn := ⟨1, 6, c77, [.t 2], .own⟩

/-! 78: (typeball/array.Array).Limbs -/
def b78_0 : IR :=
 .seq (.reg none [⟨some 10, .bin .lt (.t 9) (.t 8), none⟩])
 (.lv [3, 7, 8, 9, 10] (.seq (.cond (.t 10) (.skip)
 (.exit 0))
 (.lv [3, 7, 8, 9] (.seq (.block 1 (.seq (.reg none [⟨some 11, .iaddrf 3 (.t 7) (.t 9), none⟩,
  ⟨some 12, .ldf true 3 (.t 11), none⟩,
  ⟨some 5, .alloc 70 [.nilsl 133 1, .bool false, .nilsl 133 1], none⟩,
  ⟨none, .st 3 (.t 5) (.t 12), none⟩])
 (.lv [3, 5, 7, 8, 9] (.reg none [⟨some 13, .mov (.t 3), none⟩,
  ⟨some 14, .ld true 3 (.t 5), none⟩,
  ⟨some 15, .callR 101 [.t 14], none⟩,
  ⟨some 16, .mx (.t 13) (.t 15), none⟩,
  ⟨some 3, .mov (.t 16), none⟩]))))
 (.lv [3, 7, 8, 9] (.reg none [⟨some 17, .bin .add (.t 9) (.k (.int .i64 1)), none⟩,
  ⟨some 9, .mov (.t 17), none⟩]))))))
def k78_0 : IR :=
 .seq (.reg none [⟨some 18, .mov (.t 3), none⟩,
  ⟨some 2, .mov (.t 18), none⟩])
 (.ret)
def c78 : IR :=
 .seq (.reg none [⟨some 1, .box 48 5 (.t 0), none⟩,
  ⟨some 2, .mov (.k (.int .i64 0)), none⟩])
 (.lv [1] (.seq (.reg none [⟨some 3, .mov (.k (.int .i64 0)), none⟩])
 (.lv [1, 3] (.seq (.seq (.reg none [⟨some 6, .faddr 3 (.t 1), none⟩,
  ⟨some 7, .ld false 1 (.t 6), none⟩,
  ⟨some 8, .lenf (.t 7), none⟩,
  ⟨some 9, .mov (.k (.int .i64 0)), none⟩])
 (.lv [3, 7, 8, 9] (.block 0 (.loop [3, 7, 8, 9] (some (1, [])) b78_0))))
 k78_0))))
def i78 : IFn := ⟨1, 19, c78, [.t 2], .pure⟩

/-! 79: typeball/typeballref06.Limbs -/
def b79_0 : IR :=
 .seq (.seq (.reg none [⟨some 6, .mov (.t 4), none⟩,
  ⟨some 7, .faddr 3 (.t 1), none⟩,
  ⟨some 8, .ld false 1 (.t 7), none⟩,
  ⟨some 9, .lenf (.t 8), none⟩,
  ⟨some 10, .bin .lt (.t 6) (.t 9), none⟩])
 (.lv [1, 3, 4, 10] (.cond (.t 10) (.skip)
 (.exit 0))))
 (.lv [1, 3, 4] (.seq (.block 1 (.seq (.reg none [⟨some 13, .faddr 3 (.t 1), none⟩,
  ⟨some 14, .ld false 1 (.t 13), none⟩,
  ⟨some 15, .mov (.t 4), none⟩,
  ⟨some 16, .iaddrf 3 (.t 14) (.t 15), none⟩,
  ⟨some 17, .ldf true 3 (.t 16), none⟩,
  ⟨some 18, .callP 102 [.t 17], none⟩,
  ⟨some 5, .mov (.t 18), none⟩])
 (.lv [1, 3, 4, 5] (.seq (.reg none [⟨some 19, .mov (.t 5), none⟩,
  ⟨some 20, .mov (.t 3), none⟩,
  ⟨some 21, .bin .gt (.t 19) (.t 20), none⟩])
 (.lv [1, 3, 4, 5, 21] (.cond (.t 21) (.lv [1, 4, 5] (.reg none [⟨some 22, .mov (.t 5), none⟩,
  ⟨some 3, .mov (.t 22), none⟩]))
 (.skip)))))))
 (.lv [1, 3, 4] (.reg none [⟨some 11, .mov (.t 4), none⟩,
  ⟨some 12, .bin .add (.t 11) (.k (.int .i64 1)), none⟩,
  ⟨some 4, .mov (.t 12), none⟩]))))
def k79_0 : IR :=
 .seq (.reg none [⟨some 23, .mov (.t 3), none⟩,
  ⟨some 2, .mov (.t 23), none⟩])
 (.ret)
def c79 : IR :=
 .seq (.reg none [⟨some 1, .box 77 4 (.t 0), none⟩,
  ⟨some 2, .mov (.k (.int .i64 0)), none⟩])
 (.lv [1] (.seq (.reg none [⟨some 3, .mov (.k (.int .i64 0)), none⟩])
 (.lv [1, 3] (.seq (.seq (.reg none [⟨some 4, .mov (.k (.int .i64 0)), none⟩])
 (.lv [1, 3, 4] (.block 0 (.loop [1, 3, 4] (some (1, [])) b79_0))))
 k79_0))))
def i79 : IFn := ⟨1, 24, c79, [.t 2], .pure⟩

/-! 80: (typeball/array.Array).Bytes -/
def b80_0 : IR :=
 .seq (.reg none [⟨some 18, .bin .lt (.t 17) (.t 16), none⟩])
 (.lv [3, 15, 16, 17, 18] (.seq (.cond (.t 18) (.skip)
 (.exit 0))
 (.lv [3, 15, 16, 17] (.seq (.block 1 (.seq (.reg none [⟨some 19, .iaddrf 3 (.t 15) (.t 17), none⟩,
  ⟨some 20, .ldf true 3 (.t 19), none⟩,
  ⟨some 5, .alloc 70 [.nilsl 133 1, .bool false, .nilsl 133 1], none⟩,
  ⟨none, .st 3 (.t 5) (.t 20), none⟩])
 (.lv [3, 5, 15, 16, 17] (.reg (some [0, 1, 5, 2, 3, 4, 6, 7, 8, 9, 10, 11, 12]) [⟨some 21, .mov (.t 3), none⟩,
  ⟨some 22, .ld true 3 (.t 5), none⟩,
  ⟨some 26, .ld true 3 (.t 5), none⟩,
  ⟨some 23, .callF 103 [.t 22], none⟩,
  ⟨some 24, .fld true 0 1 (.t 23), none⟩,
  ⟨some 25, .callP 104 [.t 24], none⟩,
  ⟨some 27, .callF 105 [.t 26], none⟩,
  ⟨some 28, .callP 104 [.t 27], none⟩,
  ⟨some 29, .bin .add (.t 25) (.t 28), none⟩,
  ⟨some 30, .bin .mul (.k (.int .i64 4)) (.t 29), none⟩,
  ⟨some 31, .bin .add (.k (.int .i64 8)) (.t 30), none⟩,
  ⟨some 32, .bin .add (.t 21) (.t 31), none⟩,
  ⟨some 3, .mov (.t 32), none⟩]))))
 (.lv [3, 15, 16, 17] (.reg none [⟨some 33, .bin .add (.t 17) (.k (.int .i64 1)), none⟩,
  ⟨some 17, .mov (.t 33), none⟩]))))))
def k80_0 : IR :=
 .seq (.reg none [⟨some 34, .mov (.t 3), none⟩,
  ⟨some 2, .mov (.t 34), none⟩])
 (.ret)
def c80 : IR :=
 .seq (.reg none [⟨some 1, .box 48 5 (.t 0), none⟩,
  ⟨some 2, .mov (.k (.int .i64 0)), none⟩])
 (.lv [1] (.seq (.reg (some [0, 1, 2, 3, 4, 5, 6, 7, 8]) [⟨some 6, .ld true 5 (.t 1), none⟩,
  ⟨some 7, .callP 70 [.t 6], none⟩,
  ⟨some 8, .bin .mul (.k (.int .i64 4)) (.t 7), none⟩,
  ⟨some 9, .bin .add (.k (.int .i64 16)) (.t 8), none⟩,
  ⟨some 10, .faddr 2 (.t 1), none⟩,
  ⟨some 11, .ld false 1 (.t 10), none⟩,
  ⟨some 12, .lenf (.t 11), none⟩,
  ⟨some 13, .bin .add (.t 9) (.t 12), none⟩,
  ⟨some 3, .mov (.t 13), none⟩])
 (.lv [1, 3] (.seq (.seq (.reg none [⟨some 14, .faddr 3 (.t 1), none⟩,
  ⟨some 15, .ld false 1 (.t 14), none⟩,
  ⟨some 16, .lenf (.t 15), none⟩,
  ⟨some 17, .mov (.k (.int .i64 0)), none⟩])
 (.lv [3, 15, 16, 17] (.block 0 (.loop [3, 15, 16, 17] (some (1, [])) b80_0))))
 k80_0))))
def i80 : IFn := ⟨1, 35, c80, [.t 2], .pure⟩

/-! 81: typeball/typeballref06.Bytes -/
def b81_0 : IR :=
 .seq (.seq (.reg none [⟨some 14, .mov (.t 4), none⟩,
  ⟨some 15, .faddr 3 (.t 1), none⟩,
  ⟨some 16, .ld false 1 (.t 15), none⟩,
  ⟨some 17, .lenf (.t 16), none⟩,
  ⟨some 18, .bin .lt (.t 14) (.t 17), none⟩])
 (.lv [1, 3, 4, 18] (.cond (.t 18) (.skip)
 (.exit 0))))
 (.lv [1, 3, 4] (.seq (.block 1 (.reg (some [0, 1, 2, 3, 4, 5, 6, 7, 8, 9, 10, 11, 12, 13, 14, 15, 16, 17, 18, 19]) [⟨some 21, .mov (.t 3), none⟩,
  ⟨some 22, .bin .add (.t 21) (.k (.int .i64 8)), none⟩,
  ⟨some 23, .faddr 3 (.t 1), none⟩,
  ⟨some 24, .ld false 1 (.t 23), none⟩,
  ⟨some 25, .mov (.t 4), none⟩,
  ⟨some 26, .iaddrf 3 (.t 24) (.t 25), none⟩,
  ⟨some 27, .faddr 1 (.t 26), none⟩,
  ⟨some 28, .ldf false 1 (.t 27), none⟩,
  ⟨some 29, .callP 106 [.t 28], none⟩,
  ⟨some 30, .faddr 3 (.t 1), none⟩,
  ⟨some 31, .ld false 1 (.t 30), none⟩,
  ⟨some 32, .mov (.t 4), none⟩,
  ⟨some 33, .iaddrf 3 (.t 31) (.t 32), none⟩,
  ⟨some 34, .faddr 2 (.t 33), none⟩,
  ⟨some 35, .ldf false 1 (.t 34), none⟩,
  ⟨some 36, .callP 106 [.t 35], none⟩,
  ⟨some 37, .bin .add (.t 29) (.t 36), none⟩,
  ⟨some 38, .bin .mul (.k (.int .i64 4)) (.t 37), none⟩,
  ⟨some 39, .bin .add (.t 22) (.t 38), none⟩,
  ⟨some 3, .mov (.t 39), none⟩]))
 (.lv [1, 3, 4] (.reg none [⟨some 19, .mov (.t 4), none⟩,
  ⟨some 20, .bin .add (.t 19) (.k (.int .i64 1)), none⟩,
  ⟨some 4, .mov (.t 20), none⟩]))))
def k81_0 : IR :=
 .seq (.reg none [⟨some 40, .mov (.t 3), none⟩,
  ⟨some 2, .mov (.t 40), none⟩])
 (.ret)
def c81 : IR :=
 .seq (.reg none [⟨some 1, .box 77 4 (.t 0), none⟩,
  ⟨some 2, .mov (.k (.int .i64 0)), none⟩])
 (.lv [1] (.seq (.reg none [⟨some 5, .faddr 0 (.t 1), none⟩,
  ⟨some 6, .ld false 1 (.t 5), none⟩,
  ⟨some 7, .lenf (.t 6), none⟩,
  ⟨some 8, .bin .mul (.k (.int .i64 4)) (.t 7), none⟩,
  ⟨some 9, .bin .add (.k (.int .i64 16)) (.t 8), none⟩,
  ⟨some 10, .faddr 2 (.t 1), none⟩,
  ⟨some 11, .ld false 1 (.t 10), none⟩,
  ⟨some 12, .lenf (.t 11), none⟩,
  ⟨some 13, .bin .add (.t 9) (.t 12), none⟩,
  ⟨some 3, .mov (.t 13), none⟩])
 (.lv [1, 3] (.seq (.seq (.reg none [⟨some 4, .mov (.k (.int .i64 0)), none⟩])
 (.lv [1, 3, 4] (.block 0 (.loop [1, 3, 4] (some (1, [])) b81_0))))
 k81_0))))
def i81 : IFn := ⟨1, 41, c81, [.t 2], .pure⟩

/-! 82: typeball/array.Same -/
def c82 : IR :=
 .seq (.reg none [⟨some 2, .box 48 5 (.t 0), none⟩,
  ⟨some 3, .box 48 5 (.t 1), none⟩,
  ⟨some 4, .mov (.k (.bool false)), none⟩])
 (.lv [2, 3] (.seq (.reg (some [0, 1, 2, 3, 4, 5, 6, 7, 8, 9, 10, 11, 12, 13, 14, 15, 16, 17, 18, 19, 20, 21, 22, 23, 24, 25, 26]) [⟨some 5, .faddr 1 (.t 2), none⟩,
  ⟨some 6, .ld false 1 (.t 5), none⟩,
  ⟨some 7, .faddr 1 (.t 3), none⟩,
  ⟨some 8, .ld false 1 (.t 7), none⟩,
  ⟨some 9, .binb .eq (.t 6) (.t 8), none⟩,
  ⟨some 10, .mov (.t 9), none⟩,
  ⟨some 11, .ld true 5 (.t 2), (some (10, true))⟩,
  ⟨some 12, .callP 69 [.t 11], (some (10, true))⟩,
  ⟨some 13, .ld true 5 (.t 3), (some (10, true))⟩,
  ⟨some 14, .callP 69 [.t 13], (some (10, true))⟩,
  ⟨some 15, .callP 83 [.t 12, .t 14], (some (10, true))⟩,
  ⟨some 16, .pick (.t 10) (.t 15) (.k (.bool false)), none⟩,
  ⟨some 17, .mov (.t 16), none⟩,
  ⟨some 18, .faddr 2 (.t 2), (some (17, true))⟩,
  ⟨some 19, .ld false 1 (.t 18), (some (17, true))⟩,
  ⟨some 20, .faddr 2 (.t 3), (some (17, true))⟩,
  ⟨some 21, .ld false 1 (.t 20), (some (17, true))⟩,
  ⟨some 22, .callP 107 [.t 19, .t 21], (some (17, true))⟩,
  ⟨some 23, .pick (.t 17) (.t 22) (.k (.bool false)), none⟩,
  ⟨some 24, .mov (.t 23), none⟩,
  ⟨some 25, .faddr 3 (.t 2), (some (24, true))⟩,
  ⟨some 26, .ld false 1 (.t 25), (some (24, true))⟩,
  ⟨some 27, .faddr 3 (.t 3), (some (24, true))⟩,
  ⟨some 28, .ld false 1 (.t 27), (some (24, true))⟩,
  ⟨some 29, .callP 108 [.t 26, .t 28, .k (.fn 109 [])], (some (24, true))⟩,
  ⟨some 30, .pick (.t 24) (.t 29) (.k (.bool false)), none⟩,
  ⟨some 4, .mov (.t 30), none⟩])
 (.ret)))
def i82 : IFn := ⟨2, 31, c82, [.t 4], .pure⟩

/-! 83: slices.Equal[[]int,int] -/
def b83_0 : IR :=
 .seq (.reg none [⟨some 14, .bin .lt (.t 13) (.t 12), none⟩])
 (.lv [0, 1, 12, 13, 14] (.seq (.cond (.t 14) (.skip)
 (.exit 0))
 (.lv [0, 1, 12, 13] (.seq (.block 1 (.seq (.reg none [⟨some 15, .mov (.t 13), none⟩,
  ⟨some 5, .mov (.t 15), none⟩])
 (.lv [0, 1, 5, 12, 13] (.seq (.reg (some [0, 1, 2, 3, 4, 5, 6, 7, 8]) [⟨some 16, .mov (.t 0), none⟩,
  ⟨some 17, .mov (.t 5), none⟩,
  ⟨some 18, .iaddrf 1 (.t 16) (.t 17), none⟩,
  ⟨some 19, .ldf false 1 (.t 18), none⟩,
  ⟨some 20, .mov (.t 1), none⟩,
  ⟨some 21, .mov (.t 5), none⟩,
  ⟨some 22, .iaddrf 1 (.t 20) (.t 21), none⟩,
  ⟨some 23, .ldf false 1 (.t 22), none⟩,
  ⟨some 24, .bin .ne (.t 19) (.t 23), none⟩])
 (.lv [0, 1, 12, 13, 24] (.cond (.t 24) (.lv [] (.seq (.reg none [⟨some 4, .mov (.k (.bool false)), none⟩])
 (.ret)))
 (.skip)))))))
 (.lv [0, 1, 12, 13] (.reg none [⟨some 25, .bin .add (.t 13) (.k (.int .i64 1)), none⟩,
  ⟨some 13, .mov (.t 25), none⟩]))))))
def k83_0 : IR :=
 .seq (.reg none [⟨some 4, .mov (.k (.bool true)), none⟩])
 (.ret)
def c83 : IR :=
 .seq (.reg none [⟨some 4, .mov (.k (.bool false)), none⟩])
 (.lv [0, 1] (.seq (.seq (.reg none [⟨some 6, .mov (.t 0), none⟩,
  ⟨some 7, .lenf (.t 6), none⟩,
  ⟨some 8, .mov (.t 1), none⟩,
  ⟨some 9, .lenf (.t 8), none⟩,
  ⟨some 10, .bin .ne (.t 7) (.t 9), none⟩])
 (.lv [0, 1, 10] (.cond (.t 10) (.lv [] (.seq (.reg none [⟨some 4, .mov (.k (.bool false)), none⟩])
 (.ret)))
 (.skip))))
 (.lv [0, 1] (.seq (.seq (.reg none [⟨some 11, .mov (.t 0), none⟩,
  ⟨some 12, .lenf (.t 11), none⟩,
  ⟨some 13, .mov (.k (.int .i64 0)), none⟩])
 (.lv [0, 1, 12, 13] (.block 0 (.loop [0, 1, 12, 13] (some (0, [])) b83_0))))
 k83_0))))
def i83 : IFn := ⟨2, 26, c83, [.t 4], .pure⟩

/-! 84: slices.Concat[[]int,int] -/
def b84_0 : IR :=
 .seq (.reg none [⟨some 12, .bin .lt (.t 11) (.t 10), none⟩])
 (.lv [0, 3, 9, 10, 11, 12] (.seq (.cond (.t 12) (.skip)
 (.exit 0))
 (.lv [0, 3, 9, 10, 11] (.seq (.block 1 (.seq (.reg none [⟨some 13, .iaddrf 1 (.t 9) (.t 11), none⟩,
  ⟨some 14, .ldf false 1 (.t 13), none⟩,
  ⟨some 5, .mov (.t 14), none⟩])
 (.lv [0, 3, 5, 9, 10, 11] (.seq (.reg none [⟨some 15, .mov (.t 3), none⟩,
  ⟨some 16, .mov (.t 5), none⟩,
  ⟨some 17, .lenf (.t 16), none⟩,
  ⟨some 18, .bin .add (.t 15) (.t 17), none⟩,
  ⟨some 3, .mov (.t 18), none⟩])
 (.lv [0, 3, 9, 10, 11] (.seq (.reg none [⟨some 19, .mov (.t 3), none⟩,
  ⟨some 20, .bin .lt (.t 19) (.k (.int .i64 0)), none⟩])
 (.lv [0, 3, 9, 10, 11, 20] (.cond (.t 20) (.lv [0, 3, 9, 10, 11] (.reg none [⟨some 21, .bad, none⟩,
  ⟨none, .bad, none⟩]))
 (.skip)))))))))
 (.lv [0, 3, 9, 10, 11] (.reg none [⟨some 22, .bin .add (.t 11) (.k (.int .i64 1)), none⟩,
  ⟨some 11, .mov (.t 22), none⟩]))))))
def b84_1 : IR :=
 .seq (.reg none [⟨some 28, .bin .lt (.t 27) (.t 26), none⟩])
 (.lv [6, 25, 26, 27, 28] (.seq (.cond (.t 28) (.skip)
 (.exit 2))
 (.lv [6, 25, 26, 27] (.seq (.block 3 (.seq (.reg none [⟨some 29, .iaddrf 1 (.t 25) (.t 27), none⟩,
  ⟨some 30, .ldf false 1 (.t 29), none⟩,
  ⟨some 8, .mov (.t 30), none⟩])
 (.lv [6, 8, 25, 26, 27] (.reg none [⟨some 31, .mov (.t 6), none⟩,
  ⟨some 32, .mov (.t 8), none⟩,
  ⟨some 33, .app 3 1 8 (.t 31) (.t 32), none⟩,
  ⟨some 6, .mov (.t 33), none⟩]))))
 (.lv [6, 25, 26, 27] (.reg none [⟨some 34, .bin .add (.t 27) (.k (.int .i64 1)), none⟩,
  ⟨some 27, .mov (.t 34), none⟩]))))))
def k84_0 : IR :=
 .seq (.reg none [⟨some 35, .mov (.t 6), none⟩,
  ⟨some 2, .mov (.t 35), none⟩])
 (.ret)
def k84_1 : IR :=
 .seq (.reg none [⟨some 23, .mov (.t 3), none⟩,
  ⟨some 24, .callG 111 [.k (.nilsl 3 1), .t 23], none⟩,
  ⟨some 6, .mov (.t 24), none⟩])
 (.lv [0, 6] (.seq (.seq (.reg none [⟨some 25, .mov (.t 0), none⟩,
  ⟨some 26, .lenf (.t 25), none⟩,
  ⟨some 27, .mov (.k (.int .i64 0)), none⟩])
 (.lv [6, 25, 26, 27] (.block 2 (.loop [6, 25, 26, 27] (some (2, [])) b84_1))))
 k84_0))
def c84 : IR :=
 .seq (.reg none [⟨some 2, .newnil 3 1, none⟩])
 (.lv [0] (.seq (.reg none [⟨some 3, .mov (.k (.int .i64 0)), none⟩])
 (.lv [0, 3] (.seq (.seq (.reg none [⟨some 9, .mov (.t 0), none⟩,
  ⟨some 10, .lenf (.t 9), none⟩,
  ⟨some 11, .mov (.k (.int .i64 0)), none⟩])
 (.lv [0, 3, 9, 10, 11] (.block 0 (.loop [0, 3, 9, 10, 11] (some (1, [])) b84_0))))
 k84_1))))
def i84 : IFn := ⟨1, 36, c84, [.t 2], .pure⟩

/-! 86: typeball/typeballlaw17.shows -/
def c86 : IR :=
 .seq (.reg none [⟨some 4, .box 48 5 (.t 0), none⟩,
  ⟨some 6, .box 77 4 (.t 2), none⟩,
  ⟨some 8, .mov (.k (.bool false)), none⟩])
 (.lv [1, 3, 4, 6] (.seq (.seq (.reg none [⟨some 9, .mov (.t 1), none⟩,
  ⟨some 10, .mov (.t 3), none⟩,
  ⟨some 11, .bin .ne (.t 9) (.t 10), none⟩])
 (.lv [3, 4, 6, 11] (.cond (.t 11) (.lv [] (.seq (.reg none [⟨some 8, .mov (.k (.bool false)), none⟩])
 (.ret)))
 (.skip))))
 (.lv [3, 4, 6] (.seq (.seq (.reg none [⟨some 12, .mov (.t 3), none⟩,
  ⟨some 13, .bin .ne (.t 12) (.k (.int .i64 0)), none⟩])
 (.lv [4, 6, 13] (.cond (.t 13) (.lv [4] (.seq (.reg none [⟨some 14, .ld true 5 (.t 4), none⟩,
  ⟨some 15, .callP 54 [.t 14], none⟩,
  ⟨some 16, .bin .eq (.t 15) (.k (.int .i64 0)), none⟩,
  ⟨some 8, .mov (.t 16), none⟩])
 (.ret)))
 (.skip))))
 (.lv [4, 6] (.seq (.reg (some [0, 1, 2, 3, 4]) [⟨some 17, .ld true 5 (.t 4), none⟩,
  ⟨some 18, .callP 52 [.t 17], none⟩,
  ⟨some 19, .ld true 4 (.t 6), none⟩,
  ⟨some 20, .callP 50 [.t 18, .t 19], none⟩,
  ⟨some 8, .mov (.t 20), none⟩])
 (.ret)))))))
def i86 : IFn := ⟨4, 21, c86, [.t 8], .pure⟩

/-! 87: typeball/draw.one -/
def c87 : IR :=
 .seq (.reg none [⟨some 1, .box 48 5 (.t 0), none⟩,
  ⟨some 2, .mov (.k (.int .i64 0)), none⟩,
  ⟨some 3, .mov (.k (.int .i64 0)), none⟩])
 (.lv [1] (.seq (.seq (.reg none [⟨some 6, .ld true 5 (.t 1), none⟩,
  ⟨some 7, .callP 70 [.t 6], none⟩,
  ⟨some 8, .bin .gt (.t 7) (.k (.int .i64 1)), none⟩,
  ⟨some 9, .mov (.t 8), none⟩,
  ⟨some 10, .ld true 5 (.t 1), (some (9, false))⟩,
  ⟨some 11, .callP 54 [.t 10], (some (9, false))⟩,
  ⟨some 12, .bin .ne (.t 11) (.k (.int .i64 1)), (some (9, false))⟩,
  ⟨some 13, .pick (.t 9) (.k (.bool true)) (.t 12), none⟩])
 (.lv [1, 13] (.cond (.t 13) (.lv [] (.seq (.reg none [⟨some 2, .mov (.k (.int .i64 0)), none⟩,
  ⟨some 3, .mov (.k (.int .i64 23)), none⟩])
 (.ret)))
 (.skip))))
 (.lv [1] (.seq (.reg none [⟨some 15, .ld true 5 (.t 1), none⟩,
  ⟨some 16, .callO 41 [.t 15], none⟩,
  ⟨some 14, .mov (.t 16), none⟩,
  ⟨some 17, .ext (.t 14) 0, none⟩,
  ⟨some 18, .ext (.t 14) 1, none⟩,
  ⟨some 4, .mov (.t 17), none⟩,
  ⟨some 5, .mov (.t 18), none⟩])
 (.lv [4, 5] (.seq (.seq (.reg none [⟨some 19, .mov (.t 5), none⟩,
  ⟨some 20, .not (.t 19), none⟩,
  ⟨some 21, .mov (.t 20), none⟩,
  ⟨some 22, .mov (.t 4), (some (21, false))⟩,
  ⟨some 23, .iaddr 1 (.t 22) (.k (.int .i64 0)), (some (21, false))⟩,
  ⟨some 24, .ld false 1 (.t 23), (some (21, false))⟩,
  ⟨some 25, .bin .lt (.t 24) (.k (.int .i64 0)), (some (21, false))⟩,
  ⟨some 26, .pick (.t 21) (.k (.bool true)) (.t 25), none⟩])
 (.lv [4, 26] (.cond (.t 26) (.lv [] (.seq (.reg none [⟨some 2, .mov (.k (.int .i64 0)), none⟩,
  ⟨some 3, .mov (.k (.int .i64 22)), none⟩])
 (.ret)))
 (.skip))))
 (.lv [4] (.seq (.reg none [⟨some 27, .mov (.t 4), none⟩,
  ⟨some 28, .iaddr 1 (.t 27) (.k (.int .i64 0)), none⟩,
  ⟨some 29, .ld false 1 (.t 28), none⟩,
  ⟨some 2, .mov (.t 29), none⟩,
  ⟨some 3, .mov (.k (.int .i64 0)), none⟩])
 (.ret)))))))))
def i87 : IFn := ⟨1, 30, c87, [.t 2, .t 3], .pure⟩

/-! 88: (typeball/ratio.Rat).Int -/
def c88 : IR :=
 .seq (.reg none [⟨some 1, .box 70 3 (.t 0), none⟩,
  ⟨some 2, .mov (.k (.int .i64 0)), none⟩,
  ⟨some 3, .mov (.k (.bool false)), none⟩])
 (.lv [1] (.seq (.seq (.reg none [⟨some 4, .ld true 3 (.t 1), none⟩,
  ⟨some 5, .callP 112 [.t 4], none⟩,
  ⟨some 6, .not (.t 5), none⟩])
 (.lv [1, 6] (.cond (.t 6) (.lv [] (.seq (.reg none [⟨some 2, .mov (.k (.int .i64 0)), none⟩,
  ⟨some 3, .mov (.k (.bool false)), none⟩])
 (.ret)))
 (.skip))))
 (.lv [1] (.seq (.reg none [⟨some 7, .faddr 0 (.t 1), none⟩,
  ⟨some 8, .ld true 2 (.t 7), none⟩,
  ⟨some 9, .callP 113 [.t 8], none⟩,
  ⟨some 10, .ext (.t 9) 0, none⟩,
  ⟨some 11, .ext (.t 9) 1, none⟩,
  ⟨some 2, .mov (.t 10), none⟩,
  ⟨some 3, .mov (.t 11), none⟩])
 (.ret)))))
def i88 : IFn := ⟨1, 12, c88, [.t 2, .t 3], .pure⟩

/-! 89: typeball/whole.From -/
def c89 : IR :=
 .seq (.reg none [⟨some 2, .alloc 68 [.nilsl 133 1, .bool false], none⟩])
 (.lv [0, 2] (.seq (.seq (.reg none [⟨some 3, .mov (.t 0), none⟩,
  ⟨some 4, .bin .lt (.t 3) (.k (.int .i64 0)), none⟩])
 (.lv [0, 2, 4] (.cond (.t 4) (.lv [0, 2] (.seq (.reg none [⟨some 5, .mov (.t 0), none⟩,
  ⟨some 6, .bin .add (.t 5) (.k (.int .i64 1)), none⟩,
  ⟨some 7, .neg (.t 6), none⟩,
  ⟨some 8, .conv .u64 (.t 7), none⟩,
  ⟨some 9, .bin .add (.t 8) (.k (.int .u64 1)), none⟩,
  ⟨some 10, .callP 90 [.t 9], none⟩,
  ⟨some 11, .build [.nilsl 133 1, .bool false] [(0, 1, .t 10), (1, 1, .k (.bool true))], none⟩,
  ⟨none, .st 2 (.t 2) (.t 11), none⟩])
 (.ret)))
 (.skip))))
 (.lv [0, 2] (.seq (.reg none [⟨some 12, .mov (.t 0), none⟩,
  ⟨some 13, .conv .u64 (.t 12), none⟩,
  ⟨some 14, .callP 90 [.t 13], none⟩,
  ⟨some 15, .build [.nilsl 133 1, .bool false] [(0, 1, .t 14), (1, 1, .k (.bool false))], none⟩,
  ⟨none, .st 2 (.t 2) (.t 15), none⟩])
 (.ret)))))
def i89 : IFn := ⟨1, 16, c89, [.c 2 true 2], .pure⟩

/-! 90: typeball/nat.Of -/
def c90 : IR :=
 .seq (.reg none [⟨some 2, .alloc 66 [.nilsl 133 1], none⟩])
 (.lv [0, 2] (.seq (.reg none [⟨some 3, .mov (.t 0), none⟩,
  ⟨some 4, .conv .u32 (.t 3), none⟩,
  ⟨some 5, .mov (.t 0), none⟩,
  ⟨some 6, .bin .shr (.t 5) (.k (.int .u64 32)), none⟩,
  ⟨some 7, .conv .u32 (.t 6), none⟩,
  ⟨some 8, .bsl 133 1 [.t 4, .t 7], none⟩,
  ⟨some 9, .callF 114 [.t 8], none⟩,
  ⟨none, .st 1 (.t 2) (.t 9), none⟩])
 (.ret)))
def i90 : IFn := ⟨1, 10, c90, [.c 2 true 1], .pure⟩

/-! 93: typeball/typeballref03.From -/
def c93 : IR :=
 .seq (.reg none [⟨some 2, .alloc 97 [.bool false, .str ⟨#[]⟩, .str ⟨#[]⟩], none⟩])
 (.lv [0, 2] (.seq (.reg none [⟨some 4, .mov (.t 0), none⟩,
  ⟨some 5, .callP 115 [.t 4], none⟩,
  ⟨some 3, .alloc 136 [.bool false, .str ⟨#[]⟩], none⟩,
  ⟨none, .st 2 (.t 3) (.t 5), none⟩])
 (.lv [2, 3] (.seq (.reg none [⟨some 6, .faddr 0 (.t 3), none⟩,
  ⟨some 7, .ld false 1 (.t 6), none⟩,
  ⟨some 8, .faddr 1 (.t 3), none⟩,
  ⟨some 9, .ld false 1 (.t 8), none⟩,
  ⟨some 10, .build [.bool false, .str ⟨#[]⟩, .str ⟨#[]⟩] [(0, 1, .t 7), (1, 1, .t 9), (2, 1, .k (.str ⟨#[49]⟩))], none⟩,
  ⟨none, .st 3 (.t 2) (.t 10), none⟩])
 (.ret)))))
def i93 : IFn := ⟨1, 11, c93, [.c 2 true 3], .pure⟩

/-! 94: typeball/typeballref06.Num -/
def c94 : IR :=
 .seq (.reg none [⟨some 1, .box 97 3 (.t 0), none⟩,
  ⟨some 2, .alloc 77 [.nilsl 3 1, .bool false, .nilsl 21 1, .nilsl 97 3], none⟩])
 (.lv [1, 2] (.seq (.reg none [⟨some 3, .ld true 3 (.t 1), none⟩,
  ⟨some 4, .bsl 97 3 [.t 3], none⟩,
  ⟨some 5, .build [.nilsl 3 1, .bool false, .nilsl 21 1, .nilsl 97 3] [(3, 1, .t 4)], none⟩,
  ⟨none, .st 4 (.t 2) (.t 5), none⟩])
 (.ret)))
def i94 : IFn := ⟨1, 6, c94, [.c 2 true 4], .pure⟩

/-! 95: typeball/ratio.Of -/
def c95 : IR :=
 .seq (.reg none [⟨some 1, .box 97 3 (.t 0), none⟩,
  ⟨some 2, .alloc 70 [.nilsl 133 1, .bool false, .nilsl 133 1], none⟩,
  ⟨some 3, .mov (.k (.bool false)), none⟩])
 (.lv [1, 2] (.seq (.reg none [⟨some 10, .faddr 1 (.t 1), none⟩,
  ⟨some 11, .ld false 1 (.t 10), none⟩,
  ⟨some 12, .callP 116 [.t 11], none⟩,
  ⟨some 9, .mov (.t 12), none⟩,
  ⟨some 13, .ext (.t 9) 0, none⟩,
  ⟨some 14, .ext (.t 9) 1, none⟩,
  ⟨some 4, .alloc 66 [.nilsl 133 1], none⟩,
  ⟨none, .st 1 (.t 4) (.t 13), none⟩,
  ⟨some 5, .mov (.t 14), none⟩])
 (.lv [1, 2, 4, 5] (.seq (.reg none [⟨some 16, .faddr 2 (.t 1), none⟩,
  ⟨some 17, .ld false 1 (.t 16), none⟩,
  ⟨some 18, .callP 116 [.t 17], none⟩,
  ⟨some 15, .mov (.t 18), none⟩,
  ⟨some 19, .ext (.t 15) 0, none⟩,
  ⟨some 20, .ext (.t 15) 1, none⟩,
  ⟨some 6, .alloc 66 [.nilsl 133 1], none⟩,
  ⟨none, .st 1 (.t 6) (.t 19), none⟩,
  ⟨some 7, .mov (.t 20), none⟩])
 (.lv [1, 2, 4, 5, 6, 7] (.seq (.seq (.reg none [⟨some 21, .mov (.t 5), none⟩,
  ⟨some 22, .not (.t 21), none⟩,
  ⟨some 23, .mov (.t 22), none⟩,
  ⟨some 24, .mov (.t 7), (some (23, false))⟩,
  ⟨some 25, .not (.t 24), (some (23, false))⟩,
  ⟨some 26, .pick (.t 23) (.k (.bool true)) (.t 25), none⟩])
 (.lv [1, 2, 4, 6, 26] (.cond (.t 26) (.lv [2] (.seq (.reg none [⟨some 27, .build [.nilsl 133 1, .bool false, .nilsl 133 1] [], none⟩,
  ⟨none, .st 3 (.t 2) (.t 27), none⟩,
  ⟨some 3, .mov (.k (.bool false)), none⟩])
 (.ret)))
 (.skip))))
 (.lv [1, 2, 4, 6] (.seq (.reg (some [0, 1, 2, 4, 3, 5, 6, 7, 8, 9, 10, 11, 12]) [⟨some 29, .faddr 0 (.t 1), none⟩,
  ⟨some 30, .ld false 1 (.t 29), none⟩,
  ⟨some 31, .ld true 1 (.t 4), none⟩,
  ⟨some 33, .ld true 1 (.t 6), none⟩,
  ⟨some 32, .callF 118 [.t 30, .t 31], none⟩,
  ⟨some 34, .callF 118 [.k (.bool false), .t 33], none⟩,
  ⟨some 35, .callP 117 [.t 32, .t 34], none⟩,
  ⟨some 28, .mov (.t 35), none⟩,
  ⟨some 36, .ext (.t 28) 0, none⟩,
  ⟨some 37, .ext (.t 28) 1, none⟩,
  ⟨some 8, .alloc 70 [.nilsl 133 1, .bool false, .nilsl 133 1], none⟩,
  ⟨none, .st 3 (.t 8) (.t 36), none⟩,
  ⟨some 5, .mov (.t 37), none⟩])
 (.lv [1, 2, 5, 8] (.seq (.reg (some [0, 1, 2, 3, 4, 5, 6, 7, 8, 9]) [⟨some 38, .ld true 3 (.t 8), none⟩,
  ⟨some 39, .mov (.t 5), none⟩,
  ⟨some 40, .mov (.t 39), none⟩,
  ⟨some 41, .ld true 3 (.t 8), (some (40, true))⟩,
  ⟨some 42, .callR 74 [.t 41], (some (40, true))⟩,
  ⟨some 43, .ld true 3 (.t 1), (some (40, true))⟩,
  ⟨some 44, .bins .eq [0, 2, 2] (.t 42) (.t 43), (some (40, true))⟩,
  ⟨some 45, .pick (.t 40) (.t 44) (.k (.bool false)), none⟩,
  ⟨none, .sta [1] 3 (.t 2) (.t 38), none⟩,
  ⟨some 3, .mov (.t 45), none⟩])
 (.ret)))))))))))
def i95 : IFn := ⟨1, 46, c95, [.c 2 true 3, .t 3], .pure⟩

/-! 96: typeball/typeballref03.Right -/
def c96 : IR :=
 .seq (.reg none [⟨some 1, .box 97 3 (.t 0), none⟩,
  ⟨some 2, .mov (.k (.bool false)), none⟩])
 (.lv [1] (.seq (.seq (.reg (some [0, 1, 2, 3, 4, 5, 6, 7, 8, 9, 10, 11, 12, 13, 14, 15, 16, 17, 18, 19, 20, 21, 22, 23, 24, 25, 26, 27, 28, 29, 30]) [⟨some 3, .faddr 1 (.t 1), none⟩,
  ⟨some 4, .ld false 1 (.t 3), none⟩,
  ⟨some 5, .callP 119 [.t 4], none⟩,
  ⟨some 6, .not (.t 5), none⟩,
  ⟨some 7, .mov (.t 6), none⟩,
  ⟨some 8, .faddr 2 (.t 1), (some (7, false))⟩,
  ⟨some 9, .ld false 1 (.t 8), (some (7, false))⟩,
  ⟨some 10, .callP 119 [.t 9], (some (7, false))⟩,
  ⟨some 11, .not (.t 10), (some (7, false))⟩,
  ⟨some 12, .pick (.t 7) (.k (.bool true)) (.t 11), none⟩,
  ⟨some 13, .mov (.t 12), none⟩,
  ⟨some 14, .faddr 1 (.t 1), (some (13, false))⟩,
  ⟨some 15, .ld false 1 (.t 14), (some (13, false))⟩,
  ⟨some 16, .callP 120 [.t 15], (some (13, false))⟩,
  ⟨some 17, .faddr 1 (.t 1), (some (13, false))⟩,
  ⟨some 18, .ld false 1 (.t 17), (some (13, false))⟩,
  ⟨some 19, .bin .ne (.t 16) (.t 18), (some (13, false))⟩,
  ⟨some 20, .pick (.t 13) (.k (.bool true)) (.t 19), none⟩,
  ⟨some 21, .mov (.t 20), none⟩,
  ⟨some 22, .faddr 2 (.t 1), (some (21, false))⟩,
  ⟨some 23, .ld false 1 (.t 22), (some (21, false))⟩,
  ⟨some 24, .callP 120 [.t 23], (some (21, false))⟩,
  ⟨some 25, .faddr 2 (.t 1), (some (21, false))⟩,
  ⟨some 26, .ld false 1 (.t 25), (some (21, false))⟩,
  ⟨some 27, .bin .ne (.t 24) (.t 26), (some (21, false))⟩,
  ⟨some 28, .pick (.t 21) (.k (.bool true)) (.t 27), none⟩,
  ⟨some 29, .mov (.t 28), none⟩,
  ⟨some 30, .faddr 2 (.t 1), (some (29, false))⟩,
  ⟨some 31, .ld false 1 (.t 30), (some (29, false))⟩,
  ⟨some 32, .bin .eq (.t 31) (.k (.str ⟨#[48]⟩)), (some (29, false))⟩,
  ⟨some 33, .pick (.t 29) (.k (.bool true)) (.t 32), none⟩])
 (.lv [1, 33] (.cond (.t 33) (.lv [] (.seq (.reg none [⟨some 2, .mov (.k (.bool false)), none⟩])
 (.ret)))
 (.skip))))
 (.lv [1] (.seq (.reg none [⟨some 34, .faddr 1 (.t 1), none⟩,
  ⟨some 35, .ld false 1 (.t 34), none⟩,
  ⟨some 36, .faddr 2 (.t 1), none⟩,
  ⟨some 37, .ld false 1 (.t 36), none⟩,
  ⟨some 38, .callP 121 [.t 35, .t 37], none⟩,
  ⟨some 39, .bin .eq (.t 38) (.k (.str ⟨#[49]⟩)), none⟩,
  ⟨some 40, .mov (.t 39), none⟩,
  ⟨some 41, .faddr 0 (.t 1), (some (40, true))⟩,
  ⟨some 42, .ld false 1 (.t 41), (some (40, true))⟩,
  ⟨some 43, .mov (.t 42), (some (40, true))⟩,
  ⟨some 44, .faddr 1 (.t 1), (some (43, true))⟩,
  ⟨some 45, .ld false 1 (.t 44), (some (43, true))⟩,
  ⟨some 46, .bin .eq (.t 45) (.k (.str ⟨#[48]⟩)), (some (43, true))⟩,
  ⟨some 47, .pick (.t 43) (.t 46) (.k (.bool false)), (some (40, true))⟩,
  ⟨some 48, .not (.t 47), (some (40, true))⟩,
  ⟨some 49, .pick (.t 40) (.t 48) (.k (.bool false)), none⟩,
  ⟨some 2, .mov (.t 49), none⟩])
 (.ret)))))
def i96 : IFn := ⟨1, 50, c96, [.t 2], .pure⟩

/-! 97: typeball/typeballref03.Int -/
def c97 : IR :=
 .seq (.reg none [⟨some 1, .box 97 3 (.t 0), none⟩,
  ⟨some 2, .mov (.k (.int .i64 0)), none⟩,
  ⟨some 3, .mov (.k (.bool false)), none⟩])
 (.lv [1] (.seq (.seq (.reg none [⟨some 4, .faddr 2 (.t 1), none⟩,
  ⟨some 5, .ld false 1 (.t 4), none⟩,
  ⟨some 6, .bin .ne (.t 5) (.k (.str ⟨#[49]⟩)), none⟩])
 (.lv [1, 6] (.cond (.t 6) (.lv [] (.seq (.reg none [⟨some 2, .mov (.k (.int .i64 0)), none⟩,
  ⟨some 3, .mov (.k (.bool false)), none⟩])
 (.ret)))
 (.skip))))
 (.lv [1] (.seq (.reg none [⟨some 7, .ld true 3 (.t 1), none⟩,
  ⟨some 8, .callP 123 [.t 7], none⟩,
  ⟨some 9, .callP 122 [.t 8], none⟩,
  ⟨some 10, .ext (.t 9) 0, none⟩,
  ⟨some 11, .ext (.t 9) 1, none⟩,
  ⟨some 2, .mov (.t 10), none⟩,
  ⟨some 3, .mov (.t 11), none⟩])
 (.ret)))))
def i97 : IFn := ⟨1, 12, c97, [.t 2, .t 3], .pure⟩

/-! 98: (typeball/whole.Int).Neg -/
def c98 : IR :=
 .seq (.reg none [⟨some 1, .box 68 2 (.t 0), none⟩,
  ⟨some 2, .mov (.k (.bool false)), none⟩])
 (.lv [1] (.seq (.reg none [⟨some 3, .faddr 1 (.t 1), none⟩,
  ⟨some 4, .ld false 1 (.t 3), none⟩,
  ⟨some 2, .mov (.t 4), none⟩])
 (.ret)))
def i98 : IFn := ⟨1, 5, c98, [.t 2], .pure⟩

/-! 99: (typeball/nat.Nat).Text -/
def b99_1 : IR :=
 .seq (.seq (.reg none [⟨some 21, .mov (.t 6), none⟩,
  ⟨some 22, .bin .lt (.t 21) (.k (.int .i64 9)), none⟩,
  ⟨some 23, .mov (.t 22), none⟩,
  ⟨some 24, .mov (.t 5), (some (23, true))⟩,
  ⟨some 25, .bin .gt (.t 24) (.k (.int .u32 0)), (some (23, true))⟩,
  ⟨some 26, .mov (.t 25), (some (23, true))⟩,
  ⟨some 27, .ld true 1 (.t 4), (some (26, false))⟩,
  ⟨some 28, .callR 124 [.t 27], (some (26, false))⟩,
  ⟨some 29, .not (.t 28), (some (26, false))⟩,
  ⟨some 30, .pick (.t 26) (.k (.bool true)) (.t 29), (some (23, true))⟩,
  ⟨some 31, .pick (.t 23) (.t 30) (.k (.bool false)), none⟩])
 (.lv [1, 3, 4, 5, 6, 31] (.cond (.t 31) (.skip)
 (.exit 2))))
 (.lv [1, 3, 4, 5, 6] (.seq (.block 3 (.seq (.reg none [⟨some 34, .mov (.t 3), none⟩,
  ⟨some 35, .mov (.t 5), none⟩,
  ⟨some 36, .bin .rem (.t 35) (.k (.int .u32 10)), none⟩,
  ⟨some 37, .bin .add (.k (.int .u32 48)) (.t 36), none⟩,
  ⟨some 38, .conv .u8 (.t 37), none⟩,
  ⟨some 39, .bsl 5 1 [.t 38], none⟩,
  ⟨some 40, .app 5 1 1 (.t 34) (.t 39), none⟩,
  ⟨some 3, .mov (.t 40), none⟩])
 (.lv [1, 3, 4, 5, 6] (.reg none [⟨some 41, .mov (.t 5), none⟩,
  ⟨some 42, .bin .quo (.t 41) (.k (.int .u32 10)), none⟩,
  ⟨some 5, .mov (.t 42), none⟩]))))
 (.lv [1, 3, 4, 5, 6] (.reg none [⟨some 32, .mov (.t 6), none⟩,
  ⟨some 33, .bin .add (.t 32) (.k (.int .i64 1)), none⟩,
  ⟨some 6, .mov (.t 33), none⟩]))))
def k99_0 : IR :=
 .reg none [⟨some 43, .ld true 1 (.t 4), none⟩,
  ⟨none, .st 1 (.t 1) (.t 43), none⟩]
def b99_0 : IR :=
 .seq (.seq (.reg none [⟨some 13, .ld true 1 (.t 1), none⟩,
  ⟨some 14, .callR 124 [.t 13], none⟩,
  ⟨some 15, .not (.t 14), none⟩])
 (.lv [1, 3, 15] (.cond (.t 15) (.skip)
 (.exit 0))))
 (.lv [1, 3] (.block 1 (.seq (.reg none [⟨some 17, .ld true 1 (.t 1), none⟩,
  ⟨some 18, .callF 125 [.t 17, .k (.int .u32 1000000000)], none⟩,
  ⟨some 16, .mov (.t 18), none⟩,
  ⟨some 19, .ext (.t 16) 0, none⟩,
  ⟨some 20, .ext (.t 16) 1, none⟩,
  ⟨some 4, .alloc 66 [.nilsl 133 1], none⟩,
  ⟨none, .st 1 (.t 4) (.t 19), none⟩,
  ⟨some 5, .mov (.t 20), none⟩])
 (.lv [1, 3, 4, 5] (.seq (.seq (.reg none [⟨some 6, .mov (.k (.int .i64 0)), none⟩])
 (.lv [1, 3, 4, 5, 6] (.block 2 (.loop [1, 3, 4, 5, 6] (some (4, [])) b99_1))))
 k99_0)))))
def b99_2 : IR :=
 .seq (.seq (.reg none [⟨some 47, .mov (.t 7), none⟩,
  ⟨some 48, .mov (.t 8), none⟩,
  ⟨some 49, .bin .lt (.t 47) (.t 48), none⟩])
 (.lv [3, 7, 8, 49] (.cond (.t 49) (.skip)
 (.exit 4))))
 (.lv [3, 7, 8] (.seq (.block 5 (.reg (some [0, 1, 2, 3, 4, 5, 6, 7, 8, 9, 10, 11, 12, 13, 14, 15]) [⟨some 54, .mov (.t 3), none⟩,
  ⟨some 55, .mov (.t 7), none⟩,
  ⟨some 56, .mov (.t 3), none⟩,
  ⟨some 57, .mov (.t 8), none⟩,
  ⟨some 58, .mov (.t 3), none⟩,
  ⟨some 59, .mov (.t 8), none⟩,
  ⟨some 60, .iaddr 1 (.t 58) (.t 59), none⟩,
  ⟨some 61, .ld false 1 (.t 60), none⟩,
  ⟨some 62, .mov (.t 3), none⟩,
  ⟨some 63, .mov (.t 7), none⟩,
  ⟨some 64, .iaddr 1 (.t 62) (.t 63), none⟩,
  ⟨some 65, .ld false 1 (.t 64), none⟩,
  ⟨some 66, .iaddr 1 (.t 54) (.t 55), none⟩,
  ⟨none, .st 1 (.t 66) (.t 61), none⟩,
  ⟨some 67, .iaddr 1 (.t 56) (.t 57), none⟩,
  ⟨none, .st 1 (.t 67) (.t 65), none⟩]))
 (.lv [3, 7, 8] (.reg none [⟨some 50, .mov (.t 7), none⟩,
  ⟨some 51, .bin .add (.t 50) (.k (.int .i64 1)), none⟩,
  ⟨some 52, .mov (.t 8), none⟩,
  ⟨some 53, .bin .sub (.t 52) (.k (.int .i64 1)), none⟩,
  ⟨some 7, .mov (.t 51), none⟩,
  ⟨some 8, .mov (.t 53), none⟩]))))
def k99_1 : IR :=
 .seq (.reg none [⟨some 68, .mov (.t 3), none⟩,
  ⟨some 69, .b2s (.t 68), none⟩,
  ⟨some 2, .mov (.t 69), none⟩])
 (.ret)
def k99_2 : IR :=
 .seq (.seq (.reg none [⟨some 44, .mov (.t 3), none⟩,
  ⟨some 45, .len (.t 44), none⟩,
  ⟨some 46, .bin .sub (.t 45) (.k (.int .i64 1)), none⟩,
  ⟨some 7, .mov (.k (.int .i64 0)), none⟩,
  ⟨some 8, .mov (.t 46), none⟩])
 (.lv [3, 7, 8] (.block 4 (.loop [3, 7, 8] (some (2, [])) b99_2))))
 k99_1
def c99 : IR :=
 .seq (.reg none [⟨some 1, .box 66 1 (.t 0), none⟩,
  ⟨some 2, .mov (.k (.str ⟨#[]⟩)), none⟩])
 (.lv [1] (.seq (.seq (.reg none [⟨some 9, .faddr 0 (.t 1), none⟩,
  ⟨some 10, .ld false 1 (.t 9), none⟩,
  ⟨some 11, .len (.t 10), none⟩,
  ⟨some 12, .bin .eq (.t 11) (.k (.int .i64 0)), none⟩])
 (.lv [1, 12] (.cond (.t 12) (.lv [] (.seq (.reg none [⟨some 2, .mov (.k (.str ⟨#[48]⟩)), none⟩])
 (.ret)))
 (.skip))))
 (.lv [1] (.seq (.reg none [⟨some 3, .newnil 5 1, none⟩])
 (.lv [1, 3] (.seq (.block 0 (.loop [1, 3] (some (2, [])) b99_0))
 k99_2))))))
def i99 : IFn := ⟨1, 70, c99, [.t 2], .pure⟩

/-! 100: (typeball/ratio.Rat).down -/
def c100 : IR :=
 .seq (.reg none [⟨some 1, .box 70 3 (.t 0), none⟩,
  ⟨some 2, .alloc 66 [.nilsl 133 1], none⟩])
 (.lv [1, 2] (.seq (.seq (.reg none [⟨some 3, .faddr 2 (.t 1), none⟩,
  ⟨some 4, .ld true 1 (.t 3), none⟩,
  ⟨some 5, .callP 124 [.t 4], none⟩])
 (.lv [1, 2, 5] (.cond (.t 5) (.lv [2] (.seq (.reg none [⟨some 6, .callP 90 [.k (.int .u64 1)], none⟩,
  ⟨none, .st 1 (.t 2) (.t 6), none⟩])
 (.ret)))
 (.skip))))
 (.lv [1, 2] (.seq (.reg none [⟨some 7, .faddr 2 (.t 1), none⟩,
  ⟨some 8, .ld true 1 (.t 7), none⟩,
  ⟨none, .st 1 (.t 2) (.t 8), none⟩])
 (.ret)))))
def i100 : IFn := ⟨1, 9, c100, [.c 2 true 1], .pure⟩

/-! 101: (typeball/ratio.Rat).Limbs -/
def c101 : IR :=
 .seq (.reg none [⟨some 1, .box 70 3 (.t 0), none⟩,
  ⟨some 2, .mov (.k (.int .i64 0)), none⟩])
 (.lv [1] (.seq (.reg (some [0, 1, 2, 3, 4, 5, 6, 7, 8]) [⟨some 3, .faddr 0 (.t 1), none⟩,
  ⟨some 4, .faddr 0 (.t 3), none⟩,
  ⟨some 5, .ld true 1 (.t 4), none⟩,
  ⟨some 6, .callP 104 [.t 5], none⟩,
  ⟨some 7, .ld true 3 (.t 1), none⟩,
  ⟨some 8, .callP 100 [.t 7], none⟩,
  ⟨some 9, .callP 104 [.t 8], none⟩,
  ⟨some 10, .mx (.t 6) (.t 9), none⟩,
  ⟨some 2, .mov (.t 10), none⟩])
 (.ret)))
def i101 : IFn := ⟨1, 11, c101, [.t 2], .pure⟩

/-! 102: typeball/typeballref03.Limbs -/
def c102 : IR :=
 .seq (.reg none [⟨some 1, .box 97 3 (.t 0), none⟩,
  ⟨some 2, .mov (.k (.int .i64 0)), none⟩])
 (.lv [1] (.seq (.reg (some [0, 1, 2, 3, 4, 5, 6, 7]) [⟨some 5, .faddr 1 (.t 1), none⟩,
  ⟨some 6, .ld false 1 (.t 5), none⟩,
  ⟨some 7, .callP 106 [.t 6], none⟩,
  ⟨some 8, .faddr 2 (.t 1), none⟩,
  ⟨some 9, .ld false 1 (.t 8), none⟩,
  ⟨some 10, .callP 106 [.t 9], none⟩,
  ⟨some 3, .mov (.t 7), none⟩,
  ⟨some 4, .mov (.t 10), none⟩])
 (.lv [3, 4] (.seq (.seq (.reg none [⟨some 11, .mov (.t 3), none⟩,
  ⟨some 12, .mov (.t 4), none⟩,
  ⟨some 13, .bin .gt (.t 11) (.t 12), none⟩])
 (.lv [3, 4, 13] (.cond (.t 13) (.lv [3] (.seq (.reg none [⟨some 14, .mov (.t 3), none⟩,
  ⟨some 2, .mov (.t 14), none⟩])
 (.ret)))
 (.skip))))
 (.lv [4] (.seq (.reg none [⟨some 15, .mov (.t 4), none⟩,
  ⟨some 2, .mov (.t 15), none⟩])
 (.ret)))))))
def i102 : IFn := ⟨1, 16, c102, [.t 2], .pure⟩

/-! 103: (typeball/ratio.Rat).Top -/
def c103 : IR :=
 .seq (.reg none [⟨some 1, .box 70 3 (.t 0), none⟩,
  ⟨some 2, .alloc 68 [.nilsl 133 1, .bool false], none⟩])
 (.lv [1, 2] (.seq (.reg none [⟨some 3, .faddr 0 (.t 1), none⟩,
  ⟨some 4, .ld true 2 (.t 3), none⟩,
  ⟨none, .st 2 (.t 2) (.t 4), none⟩])
 (.ret)))
def i103 : IFn := ⟨1, 5, c103, [.c 2 true 2], .pure⟩

/-! 104: (typeball/nat.Nat).Limbs -/
def c104 : IR :=
 .seq (.reg none [⟨some 1, .box 66 1 (.t 0), none⟩,
  ⟨some 2, .mov (.k (.int .i64 0)), none⟩])
 (.lv [1] (.seq (.reg none [⟨some 3, .faddr 0 (.t 1), none⟩,
  ⟨some 4, .ld false 1 (.t 3), none⟩,
  ⟨some 5, .lenf (.t 4), none⟩,
  ⟨some 2, .mov (.t 5), none⟩])
 (.ret)))
def i104 : IFn := ⟨1, 6, c104, [.t 2], .pure⟩

/-! 105: (typeball/ratio.Rat).Bot -/
def c105 : IR :=
 .seq (.reg none [⟨some 1, .box 70 3 (.t 0), none⟩,
  ⟨some 2, .alloc 66 [.nilsl 133 1], none⟩])
 (.lv [1, 2] (.seq (.reg none [⟨some 3, .ld true 3 (.t 1), none⟩,
  ⟨some 4, .callP 100 [.t 3], none⟩,
  ⟨none, .st 1 (.t 2) (.t 4), none⟩])
 (.ret)))
def i105 : IFn := ⟨1, 5, c105, [.c 2 true 1], .pure⟩

/-! 106: typeball/typeballref01.Limbs -/
def c106 : IR :=
 .seq (.reg none [⟨some 2, .mov (.k (.int .i64 0)), none⟩])
 (.lv [0] (.seq (.reg none [⟨some 3, .mov (.t 0), none⟩,
  ⟨some 4, .callP 126 [.t 3], none⟩,
  ⟨some 5, .bin .add (.t 4) (.k (.int .i64 31)), none⟩,
  ⟨some 6, .bin .quo (.t 5) (.k (.int .i64 32)), none⟩,
  ⟨some 2, .mov (.t 6), none⟩])
 (.ret)))
def i106 : IFn := ⟨1, 7, c106, [.t 2], .pure⟩

end Go.Proofs.Ytcmbaabkfihdmaa.I
