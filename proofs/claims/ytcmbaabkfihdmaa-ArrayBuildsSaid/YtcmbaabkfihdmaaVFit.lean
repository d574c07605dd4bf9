/- Each function's small form fits its code: written by a program (okgen.py). -/
import Derived.Test.YtcmbaabkfihdmaaProg
import Derived.Test.YtcmbaabkfihdmaaVIr
import Derived.Test.YtcmbaabkfihdmaaVCalls
import Derived.WalkKit
namespace Go.Proofs.Ytcmbaabkfihdmaa.I
open Go Go.V
theorem ok2 : okFun Try.prog 2 i2 = true := by kernel_rfl
theorem ok3 : okFun Try.prog 3 i3 = true := by kernel_rfl
theorem ok4 : okFun Try.prog 4 i4 = true := by kernel_rfl
theorem ok5 : okFun Try.prog 5 i5 = true := by kernel_rfl
theorem ok6 : okFun Try.prog 6 i6 = true := by kernel_rfl
theorem ok7 : okFun Try.prog 7 i7 = true := by kernel_rfl
theorem ok8 : okFun Try.prog 8 i8 = true := by kernel_rfl
theorem ok9 : okFun Try.prog 9 i9 = true := by kernel_rfl
theorem ok10 : okFun Try.prog 10 i10 = true := by kernel_rfl
theorem ok12 : okFun Try.prog 12 i12 = true := by kernel_rfl
theorem ok13 : okFun Try.prog 13 i13 = true := by kernel_rfl
theorem ok14 : okFun Try.prog 14 i14 = true := by kernel_rfl
theorem ok15 : okFun Try.prog 15 i15 = true := by kernel_rfl
theorem ok16 : okFun Try.prog 16 i16 = true := by kernel_rfl
theorem ok17 : okFun Try.prog 17 i17 = true := by kernel_rfl
theorem ok18 : okFun Try.prog 18 i18 = true := by kernel_rfl
theorem ok19 : okFun Try.prog 19 i19 = true := by kernel_rfl
theorem ok20 : okFun Try.prog 20 i20 = true := by kernel_rfl
theorem ok21 : okFun Try.prog 21 i21 = true := by kernel_rfl
theorem ok22 : okFun Try.prog 22 i22 = true := by kernel_rfl
theorem ok23 : okFun Try.prog 23 i23 = true := by kernel_rfl
theorem ok24 : okFun Try.prog 24 i24 = true := by kernel_rfl
theorem ok25 : okFun Try.prog 25 i25 = true := by kernel_rfl
theorem ok26 : okFun Try.prog 26 i26 = true := by kernel_rfl
theorem ok27 : okFun Try.prog 27 i27 = true := by kernel_rfl
theorem ok28 : okFun Try.prog 28 i28 = true := by kernel_rfl
theorem ok29 : okFun Try.prog 29 i29 = true := by kernel_rfl
theorem ok30 : okFun Try.prog 30 i30 = true := by kernel_rfl
theorem ok31 : okFun Try.prog 31 i31 = true := by kernel_rfl
theorem ok32 : okFun Try.prog 32 i32 = true := by kernel_rfl
theorem ok33 : okFun Try.prog 33 i33 = true := by kernel_rfl
theorem ok34 : okFun Try.prog 34 i34 = true := by kernel_rfl
theorem ok35 : okFun Try.prog 35 i35 = true := by kernel_rfl
theorem ok36 : okFun Try.prog 36 i36 = true := by kernel_rfl
theorem ok37 : okFun Try.prog 37 i37 = true := by kernel_rfl
theorem ok38 : okFun Try.prog 38 i38 = true := by kernel_rfl
theorem ok39 : okFun Try.prog 39 i39 = true := by kernel_rfl
theorem ok40 : okFun Try.prog 40 i40 = true := by kernel_rfl
theorem ok41 : okFun Try.prog 41 i41 = true := by kernel_rfl
theorem ok42 : okFun Try.prog 42 i42 = true := by kernel_rfl
theorem ok43 : okFun Try.prog 43 i43 = true := by kernel_rfl
theorem ok44 : okFun Try.prog 44 i44 = true := by kernel_rfl
theorem ok45 : okFun Try.prog 45 i45 = true := by kernel_rfl
theorem ok46 : okFun Try.prog 46 i46 = true := by kernel_rfl
theorem ok47 : okFun Try.prog 47 i47 = true := by kernel_rfl
theorem ok48 : okFun Try.prog 48 i48 = true := by kernel_rfl
theorem ok49 : okFun Try.prog 49 i49 = true := by kernel_rfl
theorem ok50 : okFun Try.prog 50 i50 = true := by kernel_rfl
theorem ok51 : okFun Try.prog 51 i51 = true := by kernel_rfl
theorem ok52 : okFun Try.prog 52 i52 = true := by kernel_rfl
theorem ok53 : okFun Try.prog 53 i53 = true := by kernel_rfl
theorem ok54 : okFun Try.prog 54 i54 = true := by kernel_rfl
theorem ok55 : okFun Try.prog 55 i55 = true := by kernel_rfl
theorem ok56 : okFun Try.prog 56 i56 = true := by kernel_rfl
theorem ok57 : okFun Try.prog 57 i57 = true := by kernel_rfl
theorem ok58 : okFun Try.prog 58 i58 = true := by kernel_rfl
theorem ok59 : okFun Try.prog 59 i59 = true := by kernel_rfl
theorem ok60 : okFun Try.prog 60 i60 = true := by kernel_rfl
theorem ok61 : okFun Try.prog 61 i61 = true := by kernel_rfl
theorem ok62 : okFun Try.prog 62 i62 = true := by kernel_rfl
theorem ok63 : okFun Try.prog 63 i63 = true := by kernel_rfl
theorem ok64 : okFun Try.prog 64 i64 = true := by kernel_rfl
theorem ok65 : okFun Try.prog 65 i65 = true := by kernel_rfl
theorem ok66 : okFun Try.prog 66 i66 = true := by kernel_rfl
theorem ok67 : okFun Try.prog 67 i67 = true := by kernel_rfl
theorem ok68 : okFun Try.prog 68 i68 = true := by kernel_rfl
theorem ok69 : okFun Try.prog 69 i69 = true := by kernel_rfl
theorem ok70 : okFun Try.prog 70 i70 = true := by kernel_rfl
theorem ok71 : okFun Try.prog 71 i71 = true := by kernel_rfl
theorem ok72 : okFun Try.prog 72 i72 = true := by kernel_rfl
theorem ok73 : okFun Try.prog 73 i73 = true := by kernel_rfl
theorem ok74 : okFun Try.prog 74 i74 = true := by kernel_rfl
theorem ok75 : okFun Try.prog 75 i75 = true := by kernel_rfl
theorem ok76 : okFun Try.prog 76 i76 = true := by kernel_rfl
theorem ok77 : okFun Try.prog 77 i77 = true := by kernel_rfl
theorem ok78 : okFun Try.prog 78 i78 = true := by kernel_rfl
theorem ok79 : okFun Try.prog 79 i79 = true := by kernel_rfl
theorem ok80 : okFun Try.prog 80 i80 = true := by kernel_rfl
theorem ok81 : okFun Try.prog 81 i81 = true := by kernel_rfl
theorem ok82 : okFun Try.prog 82 i82 = true := by kernel_rfl
theorem ok83 : okFun Try.prog 83 i83 = true := by kernel_rfl
theorem ok84 : okFun Try.prog 84 i84 = true := by kernel_rfl
theorem ok86 : okFun Try.prog 86 i86 = true := by kernel_rfl
theorem ok87 : okFun Try.prog 87 i87 = true := by kernel_rfl
theorem ok88 : okFun Try.prog 88 i88 = true := by kernel_rfl
theorem ok89 : okFun Try.prog 89 i89 = true := by kernel_rfl
theorem ok90 : okFun Try.prog 90 i90 = true := by kernel_rfl
theorem ok93 : okFun Try.prog 93 i93 = true := by kernel_rfl
theorem ok94 : okFun Try.prog 94 i94 = true := by kernel_rfl
theorem ok95 : okFun Try.prog 95 i95 = true := by kernel_rfl
theorem ok96 : okFun Try.prog 96 i96 = true := by kernel_rfl
theorem ok97 : okFun Try.prog 97 i97 = true := by kernel_rfl
theorem ok98 : okFun Try.prog 98 i98 = true := by kernel_rfl
theorem ok99 : okFun Try.prog 99 i99 = true := by kernel_rfl
theorem ok100 : okFun Try.prog 100 i100 = true := by kernel_rfl
theorem ok101 : okFun Try.prog 101 i101 = true := by kernel_rfl
theorem ok102 : okFun Try.prog 102 i102 = true := by kernel_rfl
theorem ok103 : okFun Try.prog 103 i103 = true := by kernel_rfl
theorem ok104 : okFun Try.prog 104 i104 = true := by kernel_rfl
theorem ok105 : okFun Try.prog 105 i105 = true := by kernel_rfl
theorem ok106 : okFun Try.prog 106 i106 = true := by kernel_rfl
theorem ok107 : okFun Try.prog 107 i107 = true := by kernel_rfl
theorem ok108 : okFun Try.prog 108 i108 = true := by kernel_rfl
theorem ok109 : okFun Try.prog 109 i109 = true := by kernel_rfl
theorem ok110 : okFun Try.prog 110 i110 = true := by kernel_rfl
theorem ok112 : okFun Try.prog 112 i112 = true := by kernel_rfl
theorem ok113 : okFun Try.prog 113 i113 = true := by kernel_rfl
theorem ok114 : okFun Try.prog 114 i114 = true := by kernel_rfl
theorem ok115 : okFun Try.prog 115 i115 = true := by kernel_rfl
theorem ok116 : okFun Try.prog 116 i116 = true := by kernel_rfl
theorem ok117 : okFun Try.prog 117 i117 = true := by kernel_rfl
theorem ok118 : okFun Try.prog 118 i118 = true := by kernel_rfl
theorem ok119 : okFun Try.prog 119 i119 = true := by kernel_rfl
theorem ok120 : okFun Try.prog 120 i120 = true := by kernel_rfl
theorem ok121 : okFun Try.prog 121 i121 = true := by kernel_rfl
theorem ok122 : okFun Try.prog 122 i122 = true := by kernel_rfl
theorem ok123 : okFun Try.prog 123 i123 = true := by kernel_rfl
theorem ok124 : okFun Try.prog 124 i124 = true := by kernel_rfl
theorem ok125 : okFun Try.prog 125 i125 = true := by kernel_rfl
theorem ok126 : okFun Try.prog 126 i126 = true := by kernel_rfl
theorem ok127 : okFun Try.prog 127 i127 = true := by kernel_rfl
theorem ok128 : okFun Try.prog 128 i128 = true := by kernel_rfl
theorem ok129 : okFun Try.prog 129 i129 = true := by kernel_rfl
theorem ok130 : okFun Try.prog 130 i130 = true := by kernel_rfl
theorem ok131 : okFun Try.prog 131 i131 = true := by kernel_rfl
theorem ok132 : okFun Try.prog 132 i132 = true := by kernel_rfl
theorem ok133 : okFun Try.prog 133 i133 = true := by kernel_rfl
theorem ok134 : okFun Try.prog 134 i134 = true := by kernel_rfl
theorem ok135 : okFun Try.prog 135 i135 = true := by kernel_rfl
theorem ok136 : okFun Try.prog 136 i136 = true := by kernel_rfl
theorem ok137 : okFun Try.prog 137 i137 = true := by kernel_rfl
theorem ok138 : okFun Try.prog 138 i138 = true := by kernel_rfl
theorem ok139 : okFun Try.prog 139 i139 = true := by kernel_rfl
theorem ok140 : okFun Try.prog 140 i140 = true := by kernel_rfl
theorem ok141 : okFun Try.prog 141 i141 = true := by kernel_rfl
theorem ok142 : okFun Try.prog 142 i142 = true := by kernel_rfl
theorem ok143 : okFun Try.prog 143 i143 = true := by kernel_rfl
theorem ok144 : okFun Try.prog 144 i144 = true := by kernel_rfl
theorem ok145 : okFun Try.prog 145 i145 = true := by kernel_rfl
theorem ok146 : okFun Try.prog 146 i146 = true := by kernel_rfl
theorem ok147 : okFun Try.prog 147 i147 = true := by kernel_rfl
theorem ok148 : okFun Try.prog 148 i148 = true := by kernel_rfl
theorem ok149 : okFun Try.prog 149 i149 = true := by kernel_rfl
theorem ok150 : okFun Try.prog 150 i150 = true := by kernel_rfl
theorem ok151 : okFun Try.prog 151 i151 = true := by kernel_rfl
theorem ok152 : okFun Try.prog 152 i152 = true := by kernel_rfl
theorem ok153 : okFun Try.prog 153 i153 = true := by kernel_rfl
theorem ok154 : okFun Try.prog 154 i154 = true := by kernel_rfl
theorem tab_ok : ∀ f i, tab f = some i → okFun Try.prog f i = true := by
  intro f i h
  unfold tab at h
  split at h
  · exact Option.some.inj h ▸ ok2
  · exact Option.some.inj h ▸ ok3
  · exact Option.some.inj h ▸ ok4
  · exact Option.some.inj h ▸ ok5
  · exact Option.some.inj h ▸ ok6
  · exact Option.some.inj h ▸ ok7
  · exact Option.some.inj h ▸ ok8
  · exact Option.some.inj h ▸ ok9
  · exact Option.some.inj h ▸ ok10
  · exact Option.some.inj h ▸ ok12
  · exact Option.some.inj h ▸ ok13
  · exact Option.some.inj h ▸ ok14
  · exact Option.some.inj h ▸ ok15
  · exact Option.some.inj h ▸ ok16
  · exact Option.some.inj h ▸ ok17
  · exact Option.some.inj h ▸ ok18
  · exact Option.some.inj h ▸ ok19
  · exact Option.some.inj h ▸ ok20
  · exact Option.some.inj h ▸ ok21
  · exact Option.some.inj h ▸ ok22
  · exact Option.some.inj h ▸ ok23
  · exact Option.some.inj h ▸ ok24
  · exact Option.some.inj h ▸ ok25
  · exact Option.some.inj h ▸ ok26
  · exact Option.some.inj h ▸ ok27
  · exact Option.some.inj h ▸ ok28
  · exact Option.some.inj h ▸ ok29
  · exact Option.some.inj h ▸ ok30
  · exact Option.some.inj h ▸ ok31
  · exact Option.some.inj h ▸ ok32
  · exact Option.some.inj h ▸ ok33
  · exact Option.some.inj h ▸ ok34
  · exact Option.some.inj h ▸ ok35
  · exact Option.some.inj h ▸ ok36
  · exact Option.some.inj h ▸ ok37
  · exact Option.some.inj h ▸ ok38
  · exact Option.some.inj h ▸ ok39
  · exact Option.some.inj h ▸ ok40
  · exact Option.some.inj h ▸ ok41
  · exact Option.some.inj h ▸ ok42
  · exact Option.some.inj h ▸ ok43
  · exact Option.some.inj h ▸ ok44
  · exact Option.some.inj h ▸ ok45
  · exact Option.some.inj h ▸ ok46
  · exact Option.some.inj h ▸ ok47
  · exact Option.some.inj h ▸ ok48
  · exact Option.some.inj h ▸ ok49
  · exact Option.some.inj h ▸ ok50
  · exact Option.some.inj h ▸ ok51
  · exact Option.some.inj h ▸ ok52
  · exact Option.some.inj h ▸ ok53
  · exact Option.some.inj h ▸ ok54
  · exact Option.some.inj h ▸ ok55
  · exact Option.some.inj h ▸ ok56
  · exact Option.some.inj h ▸ ok57
  · exact Option.some.inj h ▸ ok58
  · exact Option.some.inj h ▸ ok59
  · exact Option.some.inj h ▸ ok60
  · exact Option.some.inj h ▸ ok61
  · exact Option.some.inj h ▸ ok62
  · exact Option.some.inj h ▸ ok63
  · exact Option.some.inj h ▸ ok64
  · exact Option.some.inj h ▸ ok65
  · exact Option.some.inj h ▸ ok66
  · exact Option.some.inj h ▸ ok67
  · exact Option.some.inj h ▸ ok68
  · exact Option.some.inj h ▸ ok69
  · exact Option.some.inj h ▸ ok70
  · exact Option.some.inj h ▸ ok71
  · exact Option.some.inj h ▸ ok72
  · exact Option.some.inj h ▸ ok73
  · exact Option.some.inj h ▸ ok74
  · exact Option.some.inj h ▸ ok75
  · exact Option.some.inj h ▸ ok76
  · exact Option.some.inj h ▸ ok77
  · exact Option.some.inj h ▸ ok78
  · exact Option.some.inj h ▸ ok79
  · exact Option.some.inj h ▸ ok80
  · exact Option.some.inj h ▸ ok81
  · exact Option.some.inj h ▸ ok82
  · exact Option.some.inj h ▸ ok83
  · exact Option.some.inj h ▸ ok84
  · exact Option.some.inj h ▸ ok86
  · exact Option.some.inj h ▸ ok87
  · exact Option.some.inj h ▸ ok88
  · exact Option.some.inj h ▸ ok89
  · exact Option.some.inj h ▸ ok90
  · exact Option.some.inj h ▸ ok93
  · exact Option.some.inj h ▸ ok94
  · exact Option.some.inj h ▸ ok95
  · exact Option.some.inj h ▸ ok96
  · exact Option.some.inj h ▸ ok97
  · exact Option.some.inj h ▸ ok98
  · exact Option.some.inj h ▸ ok99
  · exact Option.some.inj h ▸ ok100
  · exact Option.some.inj h ▸ ok101
  · exact Option.some.inj h ▸ ok102
  · exact Option.some.inj h ▸ ok103
  · exact Option.some.inj h ▸ ok104
  · exact Option.some.inj h ▸ ok105
  · exact Option.some.inj h ▸ ok106
  · exact Option.some.inj h ▸ ok107
  · exact Option.some.inj h ▸ ok108
  · exact Option.some.inj h ▸ ok109
  · exact Option.some.inj h ▸ ok110
  · exact Option.some.inj h ▸ ok112
  · exact Option.some.inj h ▸ ok113
  · exact Option.some.inj h ▸ ok114
  · exact Option.some.inj h ▸ ok115
  · exact Option.some.inj h ▸ ok116
  · exact Option.some.inj h ▸ ok117
  · exact Option.some.inj h ▸ ok118
  · exact Option.some.inj h ▸ ok119
  · exact Option.some.inj h ▸ ok120
  · exact Option.some.inj h ▸ ok121
  · exact Option.some.inj h ▸ ok122
  · exact Option.some.inj h ▸ ok123
  · exact Option.some.inj h ▸ ok124
  · exact Option.some.inj h ▸ ok125
  · exact Option.some.inj h ▸ ok126
  · exact Option.some.inj h ▸ ok127
  · exact Option.some.inj h ▸ ok128
  · exact Option.some.inj h ▸ ok129
  · exact Option.some.inj h ▸ ok130
  · exact Option.some.inj h ▸ ok131
  · exact Option.some.inj h ▸ ok132
  · exact Option.some.inj h ▸ ok133
  · exact Option.some.inj h ▸ ok134
  · exact Option.some.inj h ▸ ok135
  · exact Option.some.inj h ▸ ok136
  · exact Option.some.inj h ▸ ok137
  · exact Option.some.inj h ▸ ok138
  · exact Option.some.inj h ▸ ok139
  · exact Option.some.inj h ▸ ok140
  · exact Option.some.inj h ▸ ok141
  · exact Option.some.inj h ▸ ok142
  · exact Option.some.inj h ▸ ok143
  · exact Option.some.inj h ▸ ok144
  · exact Option.some.inj h ▸ ok145
  · exact Option.some.inj h ▸ ok146
  · exact Option.some.inj h ▸ ok147
  · exact Option.some.inj h ▸ ok148
  · exact Option.some.inj h ▸ ok149
  · exact Option.some.inj h ▸ ok150
  · exact Option.some.inj h ▸ ok151
  · exact Option.some.inj h ▸ ok152
  · exact Option.some.inj h ▸ ok153
  · exact Option.some.inj h ▸ ok154
  · cases h
theorem mixed : Try.prog.follows .mixedOrders = true := by kernel_rfl
end Go.Proofs.Ytcmbaabkfihdmaa.I
