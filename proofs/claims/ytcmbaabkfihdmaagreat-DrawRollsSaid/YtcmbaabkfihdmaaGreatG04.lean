/- The texts VIr1 VIr, one behind the other. Conditions: each text's own. -/
import Derived.Test.YtcmbaabkfihdmaaGreatG00
import Derived.Test.YtcmbaabkfihdmaaGreatG03
/- The functions' code in the small form: written by a program (irgen.py) out of Lean's own print of the loaded functions. -/
namespace Go.Proofs.YtcmbaabkfihdmaaGreat.I
open Go Go.V
/-! 102: math/bits.Add32 -/
def c102 : IR :=
 .seq (.reg none [⟨some 6, .mov (.k (.int .u32 0)), none⟩,
  ⟨some 7, .mov (.k (.int .u32 0)), none⟩])
 (.lv [0, 1, 2] (.seq (.reg none [⟨some 9, .mov (.t 0), none⟩,
  ⟨some 10, .conv .u64 (.t 9), none⟩,
  ⟨some 11, .mov (.t 1), none⟩,
  ⟨some 12, .conv .u64 (.t 11), none⟩,
  ⟨some 13, .bin .add (.t 10) (.t 12), none⟩,
  ⟨some 14, .mov (.t 2), none⟩,
  ⟨some 15, .conv .u64 (.t 14), none⟩,
  ⟨some 16, .bin .add (.t 13) (.t 15), none⟩,
  ⟨some 8, .mov (.t 16), none⟩])
 (.lv [8] (.seq (.reg none [⟨some 17, .mov (.t 8), none⟩,
  ⟨some 18, .conv .u32 (.t 17), none⟩,
  ⟨some 6, .mov (.t 18), none⟩])
 (.lv [6, 8] (.seq (.reg none [⟨some 19, .mov (.t 8), none⟩,
  ⟨some 20, .bin .shr (.t 19) (.k (.int .u64 32)), none⟩,
  ⟨some 21, .conv .u32 (.t 20), none⟩,
  ⟨some 7, .mov (.t 21), none⟩])
 (.ret)))))))
def i102 : IFn := ⟨3, 22, c102, [.t 6, .t 7], .pure⟩

/-! 103: math/bits.Sub32 -/
def c103 : IR :=
 .seq (.reg none [⟨some 6, .mov (.k (.int .u32 0)), none⟩,
  ⟨some 7, .mov (.k (.int .u32 0)), none⟩])
 (.lv [0, 1, 2] (.seq (.reg none [⟨some 8, .mov (.t 0), none⟩,
  ⟨some 9, .mov (.t 1), none⟩,
  ⟨some 10, .bin .sub (.t 8) (.t 9), none⟩,
  ⟨some 11, .mov (.t 2), none⟩,
  ⟨some 12, .bin .sub (.t 10) (.t 11), none⟩,
  ⟨some 6, .mov (.t 12), none⟩])
 (.lv [0, 1, 6] (.seq (.reg none [⟨some 13, .mov (.t 0), none⟩,
  ⟨some 14, .com (.t 13), none⟩,
  ⟨some 15, .mov (.t 1), none⟩,
  ⟨some 16, .bin .and (.t 14) (.t 15), none⟩,
  ⟨some 17, .mov (.t 0), none⟩,
  ⟨some 18, .mov (.t 1), none⟩,
  ⟨some 19, .bin .xor (.t 17) (.t 18), none⟩,
  ⟨some 20, .com (.t 19), none⟩,
  ⟨some 21, .mov (.t 6), none⟩,
  ⟨some 22, .bin .and (.t 20) (.t 21), none⟩,
  ⟨some 23, .bin .or (.t 16) (.t 22), none⟩,
  ⟨some 24, .bin .shr (.t 23) (.k (.int .u64 31)), none⟩,
  ⟨some 7, .mov (.t 24), none⟩])
 (.ret)))))
def i103 : IFn := ⟨3, 25, c103, [.t 6, .t 7], .pure⟩

/-! 104: math/bits.Len32 -/
def c104 : IR :=
 .seq (.reg none [⟨some 2, .mov (.k (.int .i64 0)), none⟩])
 (.lv [0, 2] (.seq (.seq (.reg none [⟨some 3, .mov (.t 0), none⟩,
  ⟨some 4, .bin .ge (.t 3) (.k (.int .u32 65536)), none⟩])
 (.lv [0, 2, 4] (.cond (.t 4) (.lv [0] (.seq (.reg none [⟨some 5, .mov (.t 0), none⟩,
  ⟨some 6, .bin .shr (.t 5) (.k (.int .u64 16)), none⟩,
  ⟨some 0, .mov (.t 6), none⟩])
 (.lv [0] (.reg none [⟨some 2, .mov (.k (.int .i64 16)), none⟩]))))
 (.skip))))
 (.lv [0, 2] (.seq (.seq (.reg none [⟨some 7, .mov (.t 0), none⟩,
  ⟨some 8, .bin .ge (.t 7) (.k (.int .u32 256)), none⟩])
 (.lv [0, 2, 8] (.cond (.t 8) (.lv [0, 2] (.seq (.reg none [⟨some 9, .mov (.t 0), none⟩,
  ⟨some 10, .bin .shr (.t 9) (.k (.int .u64 8)), none⟩,
  ⟨some 0, .mov (.t 10), none⟩])
 (.lv [0, 2] (.reg none [⟨some 11, .mov (.t 2), none⟩,
  ⟨some 12, .bin .add (.t 11) (.k (.int .i64 8)), none⟩,
  ⟨some 2, .mov (.t 12), none⟩]))))
 (.skip))))
 (.lv [0, 2] (.seq (.reg none [⟨some 13, .mov (.t 2), none⟩,
  ⟨some 14, .mov (.t 0), none⟩,
  ⟨some 15, .conv .u8 (.t 14), none⟩,
  ⟨some 16, .sidx (.k (.str ⟨#[0, 1, 2, 2, 3, 3, 3, 3, 4, 4, 4, 4, 4, 4, 4, 4, 5, 5, 5, 5, 5, 5, 5, 5, 5, 5, 5, 5, 5, 5, 5, 5, 6, 6, 6, 6, 6, 6, 6, 6, 6, 6, 6, 6, 6, 6, 6, 6, 6, 6, 6, 6, 6, 6, 6, 6, 6, 6, 6, 6, 6, 6, 6, 6, 7, 7, 7, 7, 7, 7, 7, 7, 7, 7, 7, 7, 7, 7, 7, 7, 7, 7, 7, 7, 7, 7, 7, 7, 7, 7, 7, 7, 7, 7, 7, 7, 7, 7, 7, 7, 7, 7, 7, 7, 7, 7, 7, 7, 7, 7, 7, 7, 7, 7, 7, 7, 7, 7, 7, 7, 7, 7, 7, 7, 7, 7, 7, 7, 8, 8, 8, 8, 8, 8, 8, 8, 8, 8, 8, 8, 8, 8, 8, 8, 8, 8, 8, 8, 8, 8, 8, 8, 8, 8, 8, 8, 8, 8, 8, 8, 8, 8, 8, 8, 8, 8, 8, 8, 8, 8, 8, 8, 8, 8, 8, 8, 8, 8, 8, 8, 8, 8, 8, 8, 8, 8, 8, 8, 8, 8, 8, 8, 8, 8, 8, 8, 8, 8, 8, 8, 8, 8, 8, 8, 8, 8, 8, 8, 8, 8, 8, 8, 8, 8, 8, 8, 8, 8, 8, 8, 8, 8, 8, 8, 8, 8, 8, 8, 8, 8, 8, 8, 8, 8, 8, 8, 8, 8, 8, 8, 8, 8, 8, 8, 8, 8, 8, 8, 8, 8, 8, 8, 8, 8, 8, 8]⟩)) (.t 15), none⟩,
  ⟨some 17, .conv .i64 (.t 16), none⟩,
  ⟨some 18, .bin .add (.t 13) (.t 17), none⟩,
  ⟨some 2, .mov (.t 18), none⟩])
 (.ret)))))))
def i104 : IFn := ⟨1, 19, c104, [.t 2], .pure⟩

end Go.Proofs.YtcmbaabkfihdmaaGreat.I

/- The functions' code in the small form: written by a program (irgen.py) out of Lean's own print of the loaded functions. -/
namespace Go.Proofs.YtcmbaabkfihdmaaGreat.I
open Go Go.V
def tab : Nat → Option IFn
  | 3 => some i3
  | 4 => some i4
  | 5 => some i5
  | 6 => some i6
  | 7 => some i7
  | 8 => some i8
  | 9 => some i9
  | 10 => some i10
  | 11 => some i11
  | 12 => some i12
  | 13 => some i13
  | 14 => some i14
  | 15 => some i15
  | 16 => some i16
  | 17 => some i17
  | 18 => some i18
  | 19 => some i19
  | 20 => some i20
  | 21 => some i21
  | 22 => some i22
  | 23 => some i23
  | 24 => some i24
  | 25 => some i25
  | 26 => some i26
  | 27 => some i27
  | 28 => some i28
  | 29 => some i29
  | 30 => some i30
  | 31 => some i31
  | 32 => some i32
  | 33 => some i33
  | 34 => some i34
  | 35 => some i35
  | 36 => some i36
  | 37 => some i37
  | 38 => some i38
  | 39 => some i39
  | 40 => some i40
  | 41 => some i41
  | 42 => some i42
  | 46 => some i46
  | 47 => some i47
  | 48 => some i48
  | 49 => some i49
  | 50 => some i50
  | 51 => some i51
  | 52 => some i52
  | 53 => some i53
  | 54 => some i54
  | 55 => some i55
  | 56 => some i56
  | 57 => some i57
  | 58 => some i58
  | 59 => some i59
  | 60 => some i60
  | 61 => some i61
  | 62 => some i62
  | 63 => some i63
  | 64 => some i64
  | 65 => some i65
  | 66 => some i66
  | 67 => some i67
  | 68 => some i68
  | 69 => some i69
  | 70 => some i70
  | 71 => some i71
  | 72 => some i72
  | 73 => some i73
  | 74 => some i74
  | 75 => some i75
  | 76 => some i76
  | 77 => some i77
  | 78 => some i78
  | 79 => some i79
  | 80 => some i80
  | 81 => some i81
  | 82 => some i82
  | 83 => some i83
  | 84 => some i84
  | 85 => some i85
  | 86 => some i86
  | 87 => some i87
  | 88 => some i88
  | 89 => some i89
  | 90 => some i90
  | 91 => some i91
  | 92 => some i92
  | 93 => some i93
  | 94 => some i94
  | 95 => some i95
  | 96 => some i96
  | 97 => some i97
  | 98 => some i98
  | 99 => some i99
  | 100 => some i100
  | 101 => some i101
  | 102 => some i102
  | 103 => some i103
  | 104 => some i104
  | _ => none
end Go.Proofs.YtcmbaabkfihdmaaGreat.I
