/- The texts VIr1 VIr, one behind the other. Conditions: each text's own. -/
import Derived.Test.YtlejgleocnemoaaG00
import Derived.Test.YtlejgleocnemoaaG02
namespace Go.Proofs.Ytlejgleocnemoaa.I
open Go Go.V
def b83_0:IR:=
 .seq (.reg none [⟨some 14,.bin .lt (.t 13) (.t 12),none⟩])
 (.lv [4,5,11,12,13,14] (.seq (.cond (.t 14) (.skip)
 (.exit 0))
 (.lv [4,5,11,12,13] (.seq (.block 1 (.seq (.reg none [⟨some 15,.iaddrf 1 (.t 11) (.t 13),none⟩,⟨some 16,.ldf false 1 (.t 15),none⟩,⟨some 7,.mov (.t 16),none⟩])
 (.lv [4,5,7,11,12,13] (.seq (.seq (.reg none [⟨some 17,.mov (.t 7),none⟩,⟨some 18,.bin .lt (.t 17) (.k (.int .i64 0)),none⟩,⟨some 19,.mov (.t 18),none⟩,⟨some 20,.mov (.t 7),(some (19,false))⟩,⟨some 21,.mov (.t 4),(some (19,false))⟩,⟨some 22,.bin .quo (.k (.int .i64 4096)) (.t 21),(some (19,false))⟩,⟨some 23,.bin .gt (.t 20) (.t 22),(some (19,false))⟩,⟨some 24,.pick (.t 19) (.k (.bool true)) (.t 23),none⟩])
 (.lv [4,5,7,11,12,13,24] (.cond (.t 24) (.lv [] (.seq (.reg none [⟨some 2,.mov (.k (.int .i64 0)),none⟩,⟨some 3,.mov (.k (.bool false)),none⟩])
 (.ret)))
 (.skip))))
 (.lv [4,5,7,11,12,13] (.seq (.reg none [⟨some 25,.mov (.t 5),none⟩,⟨some 26,.mov (.t 25),none⟩,⟨some 27,.mov (.t 7),(some (26,false))⟩,⟨some 28,.bin .eq (.t 27) (.k (.int .i64 0)),(some (26,false))⟩,⟨some 29,.pick (.t 26) (.k (.bool true)) (.t 28),none⟩,⟨some 5,.mov (.t 29),none⟩])
 (.lv [4,5,7,11,12,13] (.reg none [⟨some 30,.mov (.t 4),none⟩,⟨some 31,.mov (.t 7),none⟩,⟨some 32,.mx (.k (.int .i64 1)) (.t 31),none⟩,⟨some 33,.bin .mul (.t 30) (.t 32),none⟩,⟨some 4,.mov (.t 33),none⟩]))))))))
 (.lv [4,5,11,12,13] (.reg none [⟨some 34,.bin .add (.t 13) (.k (.int .i64 1)),none⟩,⟨some 13,.mov (.t 34),none⟩]))))))
def k83_0:IR:=
 .seq (.seq (.reg none [⟨some 35,.mov (.t 5),none⟩])
 (.lv [4,35] (.cond (.t 35) (.lv [] (.reg none [⟨some 4,.mov (.k (.int .i64 0)),none⟩]))
 (.skip))))
 (.lv [4] (.seq (.reg none [⟨some 36,.mov (.t 4),none⟩,⟨some 2,.mov (.t 36),none⟩,⟨some 3,.mov (.k (.bool true)),none⟩])
 (.ret)))
def c83:IR:=
 .seq (.reg none [⟨some 2,.mov (.k (.int .i64 0)),none⟩,⟨some 3,.mov (.k (.bool false)),none⟩])
 (.lv [0] (.seq (.seq (.reg none [⟨some 8,.mov (.t 0),none⟩,⟨some 9,.lenf (.t 8),none⟩,⟨some 10,.bin .gt (.t 9) (.k (.int .i64 8)),none⟩])
 (.lv [0,10] (.cond (.t 10) (.lv [] (.seq (.reg none [⟨some 2,.mov (.k (.int .i64 0)),none⟩,⟨some 3,.mov (.k (.bool false)),none⟩])
 (.ret)))
 (.skip))))
 (.lv [0] (.seq (.reg none [⟨some 4,.mov (.k (.int .i64 1)),none⟩,⟨some 5,.mov (.k (.bool false)),none⟩])
 (.lv [0,4,5] (.seq (.seq (.reg none [⟨some 11,.mov (.t 0),none⟩,⟨some 12,.lenf (.t 11),none⟩,⟨some 13,.mov (.k (.int .i64 0)),none⟩])
 (.lv [4,5,11,12,13] (.block 0 (.loop [4,5,11,12,13] (some (0,[])) b83_0))))
 k83_0))))))
def i83:IFn:=⟨1,37,c83,[.t 2,.t 3],.pure⟩
def b85_0:IR:=
 .seq (.seq (.reg none [⟨some 11,.mov (.t 5),none⟩,⟨some 12,.mov (.t 0),none⟩,⟨some 13,.lenf (.t 12),none⟩,⟨some 14,.bin .lt (.t 11) (.t 13),none⟩])
 (.lv [0,1,5,14] (.cond (.t 14) (.skip)
 (.exit 0))))
 (.lv [0,1,5] (.seq (.block 1 (.seq (.reg (some [0,1,2,3,4,5,6,7,8]) [⟨some 17,.mov (.t 0),none⟩,⟨some 18,.mov (.t 5),none⟩,⟨some 19,.iaddrf 1 (.t 17) (.t 18),none⟩,⟨some 20,.ldf false 1 (.t 19),none⟩,⟨some 21,.mov (.t 1),none⟩,⟨some 22,.mov (.t 5),none⟩,⟨some 23,.iaddrf 1 (.t 21) (.t 22),none⟩,⟨some 24,.ldf false 1 (.t 23),none⟩,⟨some 25,.bin .ne (.t 20) (.t 24),none⟩])
 (.lv [0,1,5,25] (.cond (.t 25) (.lv [] (.seq (.reg none [⟨some 4,.mov (.k (.bool false)),none⟩])
 (.ret)))
 (.skip)))))
 (.lv [0,1,5] (.reg none [⟨some 15,.mov (.t 5),none⟩,⟨some 16,.bin .add (.t 15) (.k (.int .i64 1)),none⟩,⟨some 5,.mov (.t 16),none⟩]))))
def k85_0:IR:=
 .seq (.reg none [⟨some 4,.mov (.k (.bool true)),none⟩])
 (.ret)
def c85:IR:=
 .seq (.reg none [⟨some 4,.mov (.k (.bool false)),none⟩])
 (.lv [0,1] (.seq (.seq (.reg none [⟨some 6,.mov (.t 0),none⟩,⟨some 7,.lenf (.t 6),none⟩,⟨some 8,.mov (.t 1),none⟩,⟨some 9,.lenf (.t 8),none⟩,⟨some 10,.bin .ne (.t 7) (.t 9),none⟩])
 (.lv [0,1,10] (.cond (.t 10) (.lv [] (.seq (.reg none [⟨some 4,.mov (.k (.bool false)),none⟩])
 (.ret)))
 (.skip))))
 (.lv [0,1] (.seq (.seq (.reg none [⟨some 5,.mov (.k (.int .i64 0)),none⟩])
 (.lv [0,1,5] (.block 0 (.loop [0,1,5] (some (0,[])) b85_0))))
 k85_0))))
def i85:IFn:=⟨2,26,c85,[.t 4],.pure⟩
def b86_0:IR:=
 .seq (.seq (.reg none [⟨some 11,.mov (.t 5),none⟩,⟨some 12,.mov (.t 0),none⟩,⟨some 13,.lenf (.t 12),none⟩,⟨some 14,.bin .lt (.t 11) (.t 13),none⟩])
 (.lv [0,1,5,14] (.cond (.t 14) (.skip)
 (.exit 0))))
 (.lv [0,1,5] (.seq (.block 1 (.seq (.reg (some [0,1,2,3,4,5,6,7,8]) [⟨some 17,.mov (.t 0),none⟩,⟨some 18,.mov (.t 5),none⟩,⟨some 19,.iaddrf 1 (.t 17) (.t 18),none⟩,⟨some 20,.ldf false 1 (.t 19),none⟩,⟨some 21,.mov (.t 1),none⟩,⟨some 22,.mov (.t 5),none⟩,⟨some 23,.iaddrf 1 (.t 21) (.t 22),none⟩,⟨some 24,.ldf false 1 (.t 23),none⟩,⟨some 25,.bin .ne (.t 20) (.t 24),none⟩])
 (.lv [0,1,5,25] (.cond (.t 25) (.lv [] (.seq (.reg none [⟨some 4,.mov (.k (.bool false)),none⟩])
 (.ret)))
 (.skip)))))
 (.lv [0,1,5] (.reg none [⟨some 15,.mov (.t 5),none⟩,⟨some 16,.bin .add (.t 15) (.k (.int .i64 1)),none⟩,⟨some 5,.mov (.t 16),none⟩]))))
def k86_0:IR:=
 .seq (.reg none [⟨some 4,.mov (.k (.bool true)),none⟩])
 (.ret)
def c86:IR:=
 .seq (.reg none [⟨some 4,.mov (.k (.bool false)),none⟩])
 (.lv [0,1] (.seq (.seq (.reg none [⟨some 6,.mov (.t 0),none⟩,⟨some 7,.lenf (.t 6),none⟩,⟨some 8,.mov (.t 1),none⟩,⟨some 9,.lenf (.t 8),none⟩,⟨some 10,.bin .ne (.t 7) (.t 9),none⟩])
 (.lv [0,1,10] (.cond (.t 10) (.lv [] (.seq (.reg none [⟨some 4,.mov (.k (.bool false)),none⟩])
 (.ret)))
 (.skip))))
 (.lv [0,1] (.seq (.seq (.reg none [⟨some 5,.mov (.k (.int .i64 0)),none⟩])
 (.lv [0,1,5] (.block 0 (.loop [0,1,5] (some (0,[])) b86_0))))
 k86_0))))
def i86:IFn:=⟨2,26,c86,[.t 4],.pure⟩
def b91_0:IR:=
 .seq (.reg none [⟨some 20,.bin .lt (.t 19) (.t 18),none⟩])
 (.lv [4,17,18,19,20] (.seq (.cond (.t 20) (.skip)
 (.exit 0))
 (.lv [4,17,18,19] (.seq (.block 1 (.seq (.reg none [⟨some 21,.iaddrf 3 (.t 17) (.t 19),none⟩,⟨some 22,.ldf true 3 (.t 21),none⟩,⟨some 6,.alloc 59 [.nilsl 154 1,.bool false,.nilsl 154 1],none⟩,⟨none,.st 3 (.t 6) (.t 22),none⟩])
 (.lv [4,6,17,18,19] (.seq (.reg none [⟨some 24,.ld true 3 (.t 6),none⟩,⟨some 25,.callR 128 [.t 24],none⟩,⟨some 23,.mov (.t 25),none⟩,⟨some 26,.ext (.t 23) 0,none⟩,⟨some 27,.ext (.t 23) 1,none⟩,⟨some 7,.mov (.t 26),none⟩,⟨some 8,.mov (.t 27),none⟩])
 (.lv [4,7,8,17,18,19] (.seq (.seq (.reg none [⟨some 28,.mov (.t 8),none⟩,⟨some 29,.not (.t 28),none⟩])
 (.lv [4,7,17,18,19,29] (.cond (.t 29) (.lv [] (.seq (.reg none [⟨some 2,.newnil 3 1,none⟩,⟨some 3,.mov (.k (.bool false)),none⟩])
 (.ret)))
 (.skip))))
 (.lv [4,7,17,18,19] (.reg none [⟨some 30,.mov (.t 4),none⟩,⟨some 31,.mov (.t 7),none⟩,⟨some 32,.bsl 3 1 [.t 31],none⟩,⟨some 33,.app 3 1 8 (.t 30) (.t 32),none⟩,⟨some 4,.mov (.t 33),none⟩]))))))))
 (.lv [4,17,18,19] (.reg none [⟨some 34,.bin .add (.t 19) (.k (.int .i64 1)),none⟩,⟨some 19,.mov (.t 34),none⟩]))))))
def k91_0:IR:=
 .seq (.reg none [⟨some 35,.mov (.t 4),none⟩,⟨some 2,.mov (.t 35),none⟩,⟨some 3,.mov (.k (.bool true)),none⟩])
 (.ret)
def c91:IR:=
 .seq (.reg none [⟨some 1,.box 28 5 (.t 0),none⟩,⟨some 2,.newnil 3 1,none⟩,⟨some 3,.mov (.k (.bool false)),none⟩])
 (.lv [1] (.seq (.seq (.reg none [⟨some 9,.faddr 1 (.t 1),none⟩,⟨some 10,.ld false 1 (.t 9),none⟩,⟨some 11,.mov (.t 10),none⟩,⟨some 12,.ld true 5 (.t 1),(some (11,true))⟩,⟨some 13,.callP 23 [.t 12],(some (11,true))⟩,⟨some 14,.bin .gt (.t 13) (.k (.int .i64 0)),(some (11,true))⟩,⟨some 15,.pick (.t 11) (.t 14) (.k (.bool false)),none⟩])
 (.lv [1,15] (.cond (.t 15) (.lv [] (.seq (.reg none [⟨some 2,.newnil 3 1,none⟩,⟨some 3,.mov (.k (.bool false)),none⟩])
 (.ret)))
 (.skip))))
 (.lv [1] (.seq (.reg none [⟨some 4,.newnil 3 1,none⟩])
 (.lv [1,4] (.seq (.seq (.reg none [⟨some 16,.faddr 3 (.t 1),none⟩,⟨some 17,.ld false 1 (.t 16),none⟩,⟨some 18,.lenf (.t 17),none⟩,⟨some 19,.mov (.k (.int .i64 0)),none⟩])
 (.lv [4,17,18,19] (.block 0 (.loop [4,17,18,19] (some (3,[])) b91_0))))
 k91_0))))))
def i91:IFn:=⟨1,36,c91,[.t 2,.t 3],.own⟩
def b101_0:IR:=
 .seq (.reg none [⟨some 12,.bin .lt (.t 11) (.t 10),none⟩])
 (.lv [0,3,9,10,11,12] (.seq (.cond (.t 12) (.skip)
 (.exit 0))
 (.lv [0,3,9,10,11] (.seq (.block 1 (.seq (.reg none [⟨some 13,.iaddrf 1 (.t 9) (.t 11),none⟩,⟨some 14,.ldf false 1 (.t 13),none⟩,⟨some 5,.mov (.t 14),none⟩])
 (.lv [0,3,5,9,10,11] (.seq (.reg none [⟨some 15,.mov (.t 3),none⟩,⟨some 16,.mov (.t 5),none⟩,⟨some 17,.lenf (.t 16),none⟩,⟨some 18,.bin .add (.t 15) (.t 17),none⟩,⟨some 3,.mov (.t 18),none⟩])
 (.lv [0,3,9,10,11] (.seq (.reg none [⟨some 19,.mov (.t 3),none⟩,⟨some 20,.bin .lt (.t 19) (.k (.int .i64 0)),none⟩])
 (.lv [0,3,9,10,11,20] (.cond (.t 20) (.lv [0,3,9,10,11] (.reg none [⟨some 21,.bad,none⟩,⟨none,.bad,none⟩]))
 (.skip)))))))))
 (.lv [0,3,9,10,11] (.reg none [⟨some 22,.bin .add (.t 11) (.k (.int .i64 1)),none⟩,⟨some 11,.mov (.t 22),none⟩]))))))
def b101_1:IR:=
 .seq (.reg none [⟨some 28,.bin .lt (.t 27) (.t 26),none⟩])
 (.lv [6,25,26,27,28] (.seq (.cond (.t 28) (.skip)
 (.exit 2))
 (.lv [6,25,26,27] (.seq (.block 3 (.seq (.reg none [⟨some 29,.iaddrf 1 (.t 25) (.t 27),none⟩,⟨some 30,.ldf false 1 (.t 29),none⟩,⟨some 8,.mov (.t 30),none⟩])
 (.lv [6,8,25,26,27] (.reg none [⟨some 31,.mov (.t 6),none⟩,⟨some 32,.mov (.t 8),none⟩,⟨some 33,.app 3 1 8 (.t 31) (.t 32),none⟩,⟨some 6,.mov (.t 33),none⟩]))))
 (.lv [6,25,26,27] (.reg none [⟨some 34,.bin .add (.t 27) (.k (.int .i64 1)),none⟩,⟨some 27,.mov (.t 34),none⟩]))))))
def k101_0:IR:=
 .seq (.reg none [⟨some 35,.mov (.t 6),none⟩,⟨some 2,.mov (.t 35),none⟩])
 (.ret)
def k101_1:IR:=
 .seq (.reg none [⟨some 23,.mov (.t 3),none⟩,⟨some 24,.callG 131 [.k (.nilsl 3 1),.t 23],none⟩,⟨some 6,.mov (.t 24),none⟩])
 (.lv [0,6] (.seq (.seq (.reg none [⟨some 25,.mov (.t 0),none⟩,⟨some 26,.lenf (.t 25),none⟩,⟨some 27,.mov (.k (.int .i64 0)),none⟩])
 (.lv [6,25,26,27] (.block 2 (.loop [6,25,26,27] (some (2,[])) b101_1))))
 k101_0))
def c101:IR:=
 .seq (.reg none [⟨some 2,.newnil 3 1,none⟩])
 (.lv [0] (.seq (.reg none [⟨some 3,.mov (.k (.int .i64 0)),none⟩])
 (.lv [0,3] (.seq (.seq (.reg none [⟨some 9,.mov (.t 0),none⟩,⟨some 10,.lenf (.t 9),none⟩,⟨some 11,.mov (.k (.int .i64 0)),none⟩])
 (.lv [0,3,9,10,11] (.block 0 (.loop [0,3,9,10,11] (some (1,[])) b101_0))))
 k101_1))))
def i101:IFn:=⟨1,36,c101,[.t 2],.pure⟩
def c107:IR:=
 .seq (.reg none [⟨some 2,.box 57 2 (.t 0),none⟩,⟨some 3,.box 57 2 (.t 1),none⟩,⟨some 4,.alloc 59 [.nilsl 154 1,.bool false,.nilsl 154 1],none⟩,⟨some 5,.mov (.k (.bool false)),none⟩])
 (.lv [2,3,4] (.seq (.seq (.reg none [⟨some 13,.faddr 0 (.t 3),none⟩,⟨some 14,.ld true 1 (.t 13),none⟩,⟨some 15,.callP 123 [.t 14],none⟩])
 (.lv [2,3,4,15] (.cond (.t 15) (.lv [4] (.seq (.reg none [⟨some 16,.build [.nilsl 154 1,.bool false,.nilsl 154 1] [],none⟩,⟨none,.st 3 (.t 4) (.t 16),none⟩,⟨some 5,.mov (.k (.bool false)),none⟩])
 (.ret)))
 (.skip))))
 (.lv [2,3,4] (.seq (.reg (some [0,1,2,3,4,5,6]) [⟨some 17,.faddr 0 (.t 2),none⟩,⟨some 18,.ld true 1 (.t 17),none⟩,⟨some 19,.ld true 2 (.t 3),none⟩,⟨some 20,.callP 134 [.t 19],none⟩,⟨some 21,.callP 133 [.t 18,.t 20],none⟩,⟨some 6,.alloc 55 [.nilsl 154 1],none⟩,⟨none,.st 1 (.t 6) (.t 21),none⟩])
 (.lv [2,3,4,6] (.seq (.reg none [⟨some 23,.faddr 0 (.t 2),none⟩,⟨some 24,.ld true 1 (.t 23),none⟩,⟨some 25,.ld true 1 (.t 6),none⟩,⟨some 26,.callF 135 [.t 24,.t 25],none⟩,⟨some 22,.mov (.t 26),none⟩,⟨some 27,.ext (.t 22) 0,none⟩,⟨some 28,.ext (.t 22) 1,none⟩,⟨some 29,.ext (.t 22) 2,none⟩,⟨some 7,.alloc 55 [.nilsl 154 1],none⟩,⟨some 8,.alloc 55 [.nilsl 154 1],none⟩,⟨none,.st 1 (.t 7) (.t 27),none⟩,⟨none,.st 1 (.t 8) (.t 28),none⟩,⟨some 9,.mov (.t 29),none⟩])
 (.lv [2,3,4,6,7] (.seq (.reg none [⟨some 31,.faddr 0 (.t 3),none⟩,⟨some 32,.ld true 1 (.t 31),none⟩,⟨some 33,.ld true 1 (.t 6),none⟩,⟨some 34,.callF 135 [.t 32,.t 33],none⟩,⟨some 30,.mov (.t 34),none⟩,⟨some 35,.ext (.t 30) 0,none⟩,⟨some 36,.ext (.t 30) 1,none⟩,⟨some 37,.ext (.t 30) 2,none⟩,⟨some 10,.alloc 55 [.nilsl 154 1],none⟩,⟨some 11,.alloc 55 [.nilsl 154 1],none⟩,⟨none,.st 1 (.t 10) (.t 35),none⟩,⟨none,.st 1 (.t 11) (.t 36),none⟩,⟨some 12,.mov (.t 37),none⟩])
 (.lv [2,3,4,7,10] (.seq (.reg (some [0,1,2,3,4,5,7,6,8,9,10]) [⟨some 38,.ld true 2 (.t 2),none⟩,⟨some 39,.callP 77 [.t 38],none⟩,⟨some 40,.ld true 2 (.t 3),none⟩,⟨some 41,.callP 77 [.t 40],none⟩,⟨some 42,.binb .ne (.t 39) (.t 41),none⟩,⟨some 43,.ld true 1 (.t 7),none⟩,⟨some 45,.ld true 1 (.t 10),none⟩,⟨some 44,.callF 136 [.t 42,.t 43],none⟩,⟨some 46,.build [.nilsl 154 1,.bool false,.nilsl 154 1] [(0,2,.t 44),(2,1,.t 45)],none⟩,⟨none,.st 3 (.t 4) (.t 46),none⟩,⟨some 5,.mov (.k (.bool true)),none⟩])
 (.ret)))))))))))
def i107:IFn:=⟨2,47,c107,[.c 4 true 3,.t 5],.pure⟩
def b108_0:IR:=
 .seq (.reg none [⟨some 10,.bin .lt (.t 9) (.t 8),none⟩])
 (.lv [2,4,7,8,9,10] (.seq (.cond (.t 10) (.skip)
 (.exit 0))
 (.lv [2,4,7,8,9] (.seq (.block 1 (.seq (.reg none [⟨some 11,.iaddrf 2 (.t 7) (.t 9),none⟩,⟨some 12,.ldf true 2 (.t 11),none⟩,⟨some 6,.alloc 57 [.nilsl 154 1,.bool false],none⟩,⟨none,.st 2 (.t 6) (.t 12),none⟩])
 (.lv [2,4,6,7,8,9] (.reg (some [0,1,2,3,4,5,6,7,8,9,10,11]) [⟨some 13,.faddr 1 (.t 2),none⟩,⟨some 14,.ld false 1 (.t 13),none⟩,⟨some 15,.faddr 1 (.t 6),none⟩,⟨some 16,.ld false 1 (.t 15),none⟩,⟨some 17,.binb .ne (.t 14) (.t 16),none⟩,⟨some 18,.faddr 0 (.t 2),none⟩,⟨some 19,.ld true 1 (.t 18),none⟩,⟨some 20,.faddr 0 (.t 6),none⟩,⟨some 21,.ld true 1 (.t 20),none⟩,⟨some 22,.callF 137 [.t 19,.t 21],none⟩,⟨some 23,.callP 136 [.t 17,.t 22],none⟩,⟨none,.st 2 (.t 2) (.t 23),none⟩]))))
 (.lv [2,4,7,8,9] (.reg none [⟨some 24,.bin .add (.t 9) (.k (.int .i64 1)),none⟩,⟨some 9,.mov (.t 24),none⟩]))))))
def k108_0:IR:=
 .seq (.reg none [⟨some 25,.ld true 2 (.t 2),none⟩,⟨none,.st 2 (.t 4) (.t 25),none⟩])
 (.ret)
def c108:IR:=
 .seq (.reg none [⟨some 2,.box 57 2 (.t 0),none⟩,⟨some 4,.alloc 57 [.nilsl 154 1,.bool false],none⟩])
 (.lv [1,2,4] (.seq (.seq (.reg none [⟨some 7,.mov (.t 1),none⟩,⟨some 8,.lenf (.t 7),none⟩,⟨some 9,.mov (.k (.int .i64 0)),none⟩])
 (.lv [2,4,7,8,9] (.block 0 (.loop [2,4,7,8,9] (some (3,[])) b108_0))))
 k108_0))
def i108:IFn:=⟨2,26,c108,[.c 4 true 2],.pure⟩
def c109:IR:=
 .seq (.reg none [⟨some 1,.box 59 3 (.t 0),none⟩,⟨some 2,.alloc 57 [.nilsl 154 1,.bool false],none⟩])
 (.lv [1,2] (.seq (.reg none [⟨some 3,.ld true 3 (.t 1),none⟩,⟨some 4,.callP 79 [.t 3],none⟩,⟨some 5,.callP 136 [.k (.bool false),.t 4],none⟩,⟨none,.st 2 (.t 2) (.t 5),none⟩])
 (.ret)))
def i109:IFn:=⟨1,6,c109,[.c 2 true 2],.pure⟩
def c113:IR:=
 .seq (.reg none [⟨some 2,.alloc 57 [.nilsl 154 1,.bool false],none⟩])
 (.lv [0,2] (.seq (.seq (.reg none [⟨some 3,.mov (.t 0),none⟩,⟨some 4,.bin .lt (.t 3) (.k (.int .i64 0)),none⟩])
 (.lv [0,2,4] (.cond (.t 4) (.lv [0,2] (.seq (.reg none [⟨some 5,.mov (.t 0),none⟩,⟨some 6,.bin .add (.t 5) (.k (.int .i64 1)),none⟩,⟨some 7,.neg (.t 6),none⟩,⟨some 8,.conv .u64 (.t 7),none⟩,⟨some 9,.bin .add (.t 8) (.k (.int .u64 1)),none⟩,⟨some 10,.callP 114 [.t 9],none⟩,⟨some 11,.build [.nilsl 154 1,.bool false] [(0,1,.t 10),(1,1,.k (.bool true))],none⟩,⟨none,.st 2 (.t 2) (.t 11),none⟩])
 (.ret)))
 (.skip))))
 (.lv [0,2] (.seq (.reg none [⟨some 12,.mov (.t 0),none⟩,⟨some 13,.conv .u64 (.t 12),none⟩,⟨some 14,.callP 114 [.t 13],none⟩,⟨some 15,.build [.nilsl 154 1,.bool false] [(0,1,.t 14),(1,1,.k (.bool false))],none⟩,⟨none,.st 2 (.t 2) (.t 15),none⟩])
 (.ret)))))
def i113:IFn:=⟨1,16,c113,[.c 2 true 2],.pure⟩
def c114:IR:=
 .seq (.reg none [⟨some 2,.alloc 55 [.nilsl 154 1],none⟩])
 (.lv [0,2] (.seq (.reg none [⟨some 3,.mov (.t 0),none⟩,⟨some 4,.conv .u32 (.t 3),none⟩,⟨some 5,.mov (.t 0),none⟩,⟨some 6,.bin .shr (.t 5) (.k (.int .u64 32)),none⟩,⟨some 7,.conv .u32 (.t 6),none⟩,⟨some 8,.bsl 154 1 [.t 4,.t 7],none⟩,⟨some 9,.callF 139 [.t 8],none⟩,⟨none,.st 1 (.t 2) (.t 9),none⟩])
 (.ret)))
def i114:IFn:=⟨1,10,c114,[.c 2 true 1],.pure⟩
def c115:IR:=
 .seq (.reg none [⟨some 2,.alloc 147 [.bool false,.str ⟨#[]⟩],none⟩])
 (.lv [0,2] (.seq (.seq (.reg none [⟨some 3,.mov (.t 0),none⟩,⟨some 4,.bin .lt (.t 3) (.k (.int .i64 0)),none⟩])
 (.lv [0,2,4] (.cond (.t 4) (.lv [0,2] (.seq (.reg none [⟨some 5,.mov (.t 0),none⟩,⟨some 6,.bin .add (.t 5) (.k (.int .i64 1)),none⟩,⟨some 7,.bin .sub (.k (.int .i64 0)) (.t 6),none⟩,⟨some 8,.conv .u64 (.t 7),none⟩,⟨some 9,.bin .add (.t 8) (.k (.int .u64 1)),none⟩,⟨some 10,.callP 140 [.t 9],none⟩,⟨some 11,.build [.bool false,.str ⟨#[]⟩] [(0,1,.k (.bool true)),(1,1,.t 10)],none⟩,⟨none,.st 2 (.t 2) (.t 11),none⟩])
 (.ret)))
 (.skip))))
 (.lv [0,2] (.seq (.reg none [⟨some 12,.mov (.t 0),none⟩,⟨some 13,.conv .u64 (.t 12),none⟩,⟨some 14,.callP 140 [.t 13],none⟩,⟨some 15,.build [.bool false,.str ⟨#[]⟩] [(0,1,.k (.bool false)),(1,1,.t 14)],none⟩,⟨none,.st 2 (.t 2) (.t 15),none⟩])
 (.ret)))))
def i115:IFn:=⟨1,16,c115,[.c 2 true 2],.pure⟩
def b116_0:IR:=
 .seq (.seq (.reg none [⟨some 7,.mov (.t 6),none⟩,⟨some 8,.mov (.t 0),none⟩,⟨some 9,.lenf (.t 8),none⟩,⟨some 10,.bin .lt (.t 7) (.t 9),none⟩])
 (.lv [0,4,5,6,10] (.cond (.t 10) (.skip)
 (.exit 0))))
 (.lv [0,4,5,6] (.seq (.block 1 (.seq (.seq (.reg none [⟨some 13,.mov (.t 6),none⟩,⟨some 14,.bin .ge (.t 13) (.k (.int .i64 8)),none⟩,⟨some 15,.mov (.t 14),none⟩,⟨some 16,.mov (.t 0),(some (15,false))⟩,⟨some 17,.mov (.t 6),(some (15,false))⟩,⟨some 18,.iaddrf 1 (.t 16) (.t 17),(some (15,false))⟩,⟨some 19,.ldf false 1 (.t 18),(some (15,false))⟩,⟨some 20,.bin .lt (.t 19) (.k (.int .i64 0)),(some (15,false))⟩,⟨some 21,.pick (.t 15) (.k (.bool true)) (.t 20),none⟩,⟨some 22,.mov (.t 21),none⟩,⟨some 23,.mov (.t 0),(some (22,false))⟩,⟨some 24,.mov (.t 6),(some (22,false))⟩,⟨some 25,.iaddrf 1 (.t 23) (.t 24),(some (22,false))⟩,⟨some 26,.ldf false 1 (.t 25),(some (22,false))⟩,⟨some 27,.bin .gt (.t 26) (.k (.int .i64 4096)),(some (22,false))⟩,⟨some 28,.pick (.t 22) (.k (.bool true)) (.t 27),none⟩])
 (.lv [0,4,5,6,28] (.cond (.t 28) (.lv [] (.seq (.reg none [⟨some 2,.mov (.k (.int .i64 0)),none⟩,⟨some 3,.mov (.k (.bool false)),none⟩])
 (.ret)))
 (.skip))))
 (.lv [0,4,5,6] (.seq (.reg none [⟨some 29,.mov (.t 5),none⟩,⟨some 30,.mov (.t 0),none⟩,⟨some 31,.mov (.t 6),none⟩,⟨some 32,.iaddrf 1 (.t 30) (.t 31),none⟩,⟨some 33,.ldf false 1 (.t 32),none⟩,⟨some 34,.bin .mul (.t 29) (.t 33),none⟩,⟨some 5,.mov (.t 34),none⟩])
 (.lv [0,4,5,6] (.seq (.seq (.reg none [⟨some 35,.mov (.t 0),none⟩,⟨some 36,.mov (.t 6),none⟩,⟨some 37,.iaddrf 1 (.t 35) (.t 36),none⟩,⟨some 38,.ldf false 1 (.t 37),none⟩,⟨some 39,.bin .gt (.t 38) (.k (.int .i64 0)),none⟩])
 (.lv [0,4,5,6,39] (.cond (.t 39) (.lv [0,4,5,6] (.reg none [⟨some 40,.mov (.t 4),none⟩,⟨some 41,.mov (.t 0),none⟩,⟨some 42,.mov (.t 6),none⟩,⟨some 43,.iaddrf 1 (.t 41) (.t 42),none⟩,⟨some 44,.ldf false 1 (.t 43),none⟩,⟨some 45,.bin .mul (.t 40) (.t 44),none⟩,⟨some 4,.mov (.t 45),none⟩]))
 (.skip))))
 (.lv [0,4,5,6] (.seq (.reg none [⟨some 46,.mov (.t 4),none⟩,⟨some 47,.bin .gt (.t 46) (.k (.int .i64 4096)),none⟩])
 (.lv [0,4,5,6,47] (.cond (.t 47) (.lv [] (.seq (.reg none [⟨some 2,.mov (.k (.int .i64 0)),none⟩,⟨some 3,.mov (.k (.bool false)),none⟩])
 (.ret)))
 (.skip)))))))))))
 (.lv [0,4,5,6] (.reg none [⟨some 11,.mov (.t 6),none⟩,⟨some 12,.bin .add (.t 11) (.k (.int .i64 1)),none⟩,⟨some 6,.mov (.t 12),none⟩]))))
def k116_0:IR:=
 .seq (.reg none [⟨some 48,.mov (.t 5),none⟩,⟨some 2,.mov (.t 48),none⟩,⟨some 3,.mov (.k (.bool true)),none⟩])
 (.ret)
def c116:IR:=
 .seq (.reg none [⟨some 2,.mov (.k (.int .i64 0)),none⟩,⟨some 3,.mov (.k (.bool false)),none⟩])
 (.lv [0] (.seq (.reg none [⟨some 4,.mov (.k (.int .i64 1)),none⟩,⟨some 5,.mov (.k (.int .i64 1)),none⟩])
 (.lv [0,4,5] (.seq (.seq (.reg none [⟨some 6,.mov (.k (.int .i64 0)),none⟩])
 (.lv [0,4,5,6] (.block 0 (.loop [0,4,5,6] (some (0,[])) b116_0))))
 k116_0))))
def i116:IFn:=⟨1,49,c116,[.t 2,.t 3],.pure⟩
def c117:IR:=
 .seq (.reg none [⟨some 1,.box 52 3 (.t 0),none⟩,⟨some 2,.mov (.k (.bool false)),none⟩])
 (.lv [1] (.seq (.seq (.reg (some [0,1,2,3,4,5,6,7,8,9,10,11,12,13,14,15,16,17,18,19,20,21,22,23,24,25,26,27,28,29,30]) [⟨some 3,.faddr 1 (.t 1),none⟩,⟨some 4,.ld false 1 (.t 3),none⟩,⟨some 5,.callP 141 [.t 4],none⟩,⟨some 6,.not (.t 5),none⟩,⟨some 7,.mov (.t 6),none⟩,⟨some 8,.faddr 2 (.t 1),(some (7,false))⟩,⟨some 9,.ld false 1 (.t 8),(some (7,false))⟩,⟨some 10,.callP 141 [.t 9],(some (7,false))⟩,⟨some 11,.not (.t 10),(some (7,false))⟩,⟨some 12,.pick (.t 7) (.k (.bool true)) (.t 11),none⟩,⟨some 13,.mov (.t 12),none⟩,⟨some 14,.faddr 1 (.t 1),(some (13,false))⟩,⟨some 15,.ld false 1 (.t 14),(some (13,false))⟩,⟨some 16,.callP 142 [.t 15],(some (13,false))⟩,⟨some 17,.faddr 1 (.t 1),(some (13,false))⟩,⟨some 18,.ld false 1 (.t 17),(some (13,false))⟩,⟨some 19,.bin .ne (.t 16) (.t 18),(some (13,false))⟩,⟨some 20,.pick (.t 13) (.k (.bool true)) (.t 19),none⟩,⟨some 21,.mov (.t 20),none⟩,⟨some 22,.faddr 2 (.t 1),(some (21,false))⟩,⟨some 23,.ld false 1 (.t 22),(some (21,false))⟩,⟨some 24,.callP 142 [.t 23],(some (21,false))⟩,⟨some 25,.faddr 2 (.t 1),(some (21,false))⟩,⟨some 26,.ld false 1 (.t 25),(some (21,false))⟩,⟨some 27,.bin .ne (.t 24) (.t 26),(some (21,false))⟩,⟨some 28,.pick (.t 21) (.k (.bool true)) (.t 27),none⟩,⟨some 29,.mov (.t 28),none⟩,⟨some 30,.faddr 2 (.t 1),(some (29,false))⟩,⟨some 31,.ld false 1 (.t 30),(some (29,false))⟩,⟨some 32,.bin .eq (.t 31) (.k (.str ⟨#[48]⟩)),(some (29,false))⟩,⟨some 33,.pick (.t 29) (.k (.bool true)) (.t 32),none⟩])
 (.lv [1,33] (.cond (.t 33) (.lv [] (.seq (.reg none [⟨some 2,.mov (.k (.bool false)),none⟩])
 (.ret)))
 (.skip))))
 (.lv [1] (.seq (.reg none [⟨some 34,.faddr 1 (.t 1),none⟩,⟨some 35,.ld false 1 (.t 34),none⟩,⟨some 36,.faddr 2 (.t 1),none⟩,⟨some 37,.ld false 1 (.t 36),none⟩,⟨some 38,.callP 143 [.t 35,.t 37],none⟩,⟨some 39,.bin .eq (.t 38) (.k (.str ⟨#[49]⟩)),none⟩,⟨some 40,.mov (.t 39),none⟩,⟨some 41,.faddr 0 (.t 1),(some (40,true))⟩,⟨some 42,.ld false 1 (.t 41),(some (40,true))⟩,⟨some 43,.mov (.t 42),(some (40,true))⟩,⟨some 44,.faddr 1 (.t 1),(some (43,true))⟩,⟨some 45,.ld false 1 (.t 44),(some (43,true))⟩,⟨some 46,.bin .eq (.t 45) (.k (.str ⟨#[48]⟩)),(some (43,true))⟩,⟨some 47,.pick (.t 43) (.t 46) (.k (.bool false)),(some (40,true))⟩,⟨some 48,.not (.t 47),(some (40,true))⟩,⟨some 49,.pick (.t 40) (.t 48) (.k (.bool false)),none⟩,⟨some 2,.mov (.t 49),none⟩])
 (.ret)))))
def i117:IFn:=⟨1,50,c117,[.t 2],.pure⟩
def c119:IR:=
 .seq (.reg none [⟨some 1,.box 52 3 (.t 0),none⟩,⟨some 2,.alloc 59 [.nilsl 154 1,.bool false,.nilsl 154 1],none⟩,⟨some 3,.mov (.k (.bool false)),none⟩])
 (.lv [1,2] (.seq (.reg none [⟨some 10,.faddr 1 (.t 1),none⟩,⟨some 11,.ld false 1 (.t 10),none⟩,⟨some 12,.callP 144 [.t 11],none⟩,⟨some 9,.mov (.t 12),none⟩,⟨some 13,.ext (.t 9) 0,none⟩,⟨some 14,.ext (.t 9) 1,none⟩,⟨some 4,.alloc 55 [.nilsl 154 1],none⟩,⟨none,.st 1 (.t 4) (.t 13),none⟩,⟨some 5,.mov (.t 14),none⟩])
 (.lv [1,2,4,5] (.seq (.reg none [⟨some 16,.faddr 2 (.t 1),none⟩,⟨some 17,.ld false 1 (.t 16),none⟩,⟨some 18,.callP 144 [.t 17],none⟩,⟨some 15,.mov (.t 18),none⟩,⟨some 19,.ext (.t 15) 0,none⟩,⟨some 20,.ext (.t 15) 1,none⟩,⟨some 6,.alloc 55 [.nilsl 154 1],none⟩,⟨none,.st 1 (.t 6) (.t 19),none⟩,⟨some 7,.mov (.t 20),none⟩])
 (.lv [1,2,4,5,6,7] (.seq (.seq (.reg none [⟨some 21,.mov (.t 5),none⟩,⟨some 22,.not (.t 21),none⟩,⟨some 23,.mov (.t 22),none⟩,⟨some 24,.mov (.t 7),(some (23,false))⟩,⟨some 25,.not (.t 24),(some (23,false))⟩,⟨some 26,.pick (.t 23) (.k (.bool true)) (.t 25),none⟩])
 (.lv [1,2,4,6,26] (.cond (.t 26) (.lv [2] (.seq (.reg none [⟨some 27,.build [.nilsl 154 1,.bool false,.nilsl 154 1] [],none⟩,⟨none,.st 3 (.t 2) (.t 27),none⟩,⟨some 3,.mov (.k (.bool false)),none⟩])
 (.ret)))
 (.skip))))
 (.lv [1,2,4,6] (.seq (.reg (some [0,1,2,4,3,5,6,7,8,9,10,11,12]) [⟨some 29,.faddr 0 (.t 1),none⟩,⟨some 30,.ld false 1 (.t 29),none⟩,⟨some 31,.ld true 1 (.t 4),none⟩,⟨some 33,.ld true 1 (.t 6),none⟩,⟨some 32,.callF 136 [.t 30,.t 31],none⟩,⟨some 34,.callF 136 [.k (.bool false),.t 33],none⟩,⟨some 35,.callP 107 [.t 32,.t 34],none⟩,⟨some 28,.mov (.t 35),none⟩,⟨some 36,.ext (.t 28) 0,none⟩,⟨some 37,.ext (.t 28) 1,none⟩,⟨some 8,.alloc 59 [.nilsl 154 1,.bool false,.nilsl 154 1],none⟩,⟨none,.st 3 (.t 8) (.t 36),none⟩,⟨some 5,.mov (.t 37),none⟩])
 (.lv [1,2,5,8] (.seq (.reg (some [0,1,2,3,4,5,6,7,8,9]) [⟨some 38,.ld true 3 (.t 8),none⟩,⟨some 39,.mov (.t 5),none⟩,⟨some 40,.mov (.t 39),none⟩,⟨some 41,.ld true 3 (.t 8),(some (40,true))⟩,⟨some 42,.callR 26 [.t 41],(some (40,true))⟩,⟨some 43,.ld true 3 (.t 1),(some (40,true))⟩,⟨some 44,.bins .eq [0,2,2] (.t 42) (.t 43),(some (40,true))⟩,⟨some 45,.pick (.t 40) (.t 44) (.k (.bool false)),none⟩,⟨none,.sta [1] 3 (.t 2) (.t 38),none⟩,⟨some 3,.mov (.t 45),none⟩])
 (.ret)))))))))))
def i119:IFn:=⟨1,46,c119,[.c 2 true 3,.t 3],.pure⟩
def b120_0:IR:=
 .seq (.reg none [⟨some 12,.bin .lt (.t 11) (.t 10),none⟩])
 (.lv [1,5,10,11,12] (.seq (.cond (.t 12) (.skip)
 (.exit 0))
 (.lv [1,5,10,11] (.seq (.block 1 (.seq (.reg none [⟨some 13,.mov (.t 11),none⟩,⟨some 6,.mov (.t 13),none⟩])
 (.lv [1,5,6,10,11] (.reg none [⟨some 14,.mov (.t 5),none⟩,⟨some 15,.mov (.t 6),none⟩,⟨some 16,.mov (.t 1),none⟩,⟨some 17,.mov (.t 6),none⟩,⟨some 18,.bin .add (.t 16) (.t 17),none⟩,⟨some 19,.iaddr 1 (.t 14) (.t 15),none⟩,⟨none,.st 1 (.t 19) (.t 18),none⟩]))))
 (.lv [1,5,10,11] (.reg none [⟨some 20,.bin .add (.t 11) (.k (.int .i64 1)),none⟩,⟨some 11,.mov (.t 20),none⟩]))))))
def k120_0:IR:=
 .seq (.reg none [⟨some 21,.mov (.t 5),none⟩,⟨some 4,.mov (.t 21),none⟩])
 (.ret)
def c120:IR:=
 .seq (.reg none [⟨some 4,.newnil 3 1,none⟩])
 (.lv [0,1] (.seq (.reg none [⟨some 7,.mov (.t 0),none⟩,⟨some 8,.mk 3 8 [.int .i64 0] (.t 7),none⟩,⟨some 5,.mov (.t 8),none⟩])
 (.lv [1,5] (.seq (.seq (.reg none [⟨some 9,.mov (.t 5),none⟩,⟨some 10,.len (.t 9),none⟩,⟨some 11,.mov (.k (.int .i64 0)),none⟩])
 (.lv [1,5,10,11] (.block 0 (.loop [1,5,10,11] (some (2,[])) b120_0))))
 k120_0))))
def i120:IFn:=⟨2,22,c120,[.t 4],.own⟩
def b121_0:IR:=
 .seq (.seq (.reg none [⟨some 12,.mov (.t 5),none⟩,⟨some 13,.bin .ge (.t 12) (.k (.int .i64 0)),none⟩])
 (.lv [0,3,4,5,13] (.cond (.t 13) (.skip)
 (.exit 0))))
 (.lv [0,3,4,5] (.seq (.block 1 (.seq (.reg none [⟨some 16,.mov (.t 3),none⟩,⟨some 17,.mov (.t 5),none⟩,⟨some 18,.mov (.t 4),none⟩,⟨some 19,.iaddr 1 (.t 16) (.t 17),none⟩,⟨none,.st 1 (.t 19) (.t 18),none⟩])
 (.lv [0,3,4,5] (.reg none [⟨some 20,.mov (.t 4),none⟩,⟨some 21,.mov (.t 0),none⟩,⟨some 22,.mov (.t 5),none⟩,⟨some 23,.iaddrf 1 (.t 21) (.t 22),none⟩,⟨some 24,.ldf false 1 (.t 23),none⟩,⟨some 25,.bin .mul (.t 20) (.t 24),none⟩,⟨some 4,.mov (.t 25),none⟩]))))
 (.lv [0,3,4,5] (.reg none [⟨some 14,.mov (.t 5),none⟩,⟨some 15,.bin .sub (.t 14) (.k (.int .i64 1)),none⟩,⟨some 5,.mov (.t 15),none⟩]))))
def k121_0:IR:=
 .seq (.reg none [⟨some 26,.mov (.t 3),none⟩,⟨some 2,.mov (.t 26),none⟩])
 (.ret)
def c121:IR:=
 .seq (.reg none [⟨some 2,.newnil 3 1,none⟩])
 (.lv [0] (.seq (.reg none [⟨some 6,.mov (.t 0),none⟩,⟨some 7,.lenf (.t 6),none⟩,⟨some 8,.mk 3 8 [.int .i64 0] (.t 7),none⟩,⟨some 3,.mov (.t 8),none⟩])
 (.lv [0,3] (.seq (.reg none [⟨some 4,.mov (.k (.int .i64 1)),none⟩])
 (.lv [0,3,4] (.seq (.seq (.reg none [⟨some 9,.mov (.t 0),none⟩,⟨some 10,.lenf (.t 9),none⟩,⟨some 11,.bin .sub (.t 10) (.k (.int .i64 1)),none⟩,⟨some 5,.mov (.t 11),none⟩])
 (.lv [0,3,4,5] (.block 0 (.loop [0,3,4,5] (some (2,[])) b121_0))))
 k121_0))))))
def i121:IFn:=⟨1,27,c121,[.t 2],.pure⟩
def c122:IR:=
 .seq (.reg none [⟨some 2,.box 57 2 (.t 0),none⟩,⟨some 3,.box 57 2 (.t 1),none⟩,⟨some 4,.mov (.k (.int .i64 0)),none⟩])
 (.lv [2,3] (.seq (.block 0 (.seq (.reg none [⟨some 6,.faddr 1 (.t 2),none⟩,⟨some 7,.ld false 1 (.t 6),none⟩,⟨some 8,.mov (.t 7),none⟩,⟨some 9,.faddr 1 (.t 3),(some (8,true))⟩,⟨some 10,.ld false 1 (.t 9),(some (8,true))⟩,⟨some 11,.not (.t 10),(some (8,true))⟩,⟨some 12,.pick (.t 8) (.t 11) (.k (.bool false)),none⟩,⟨some 5,.mov (.t 12),none⟩])
 (.lv [2,3,5] (.cond (.t 5) (.lv [] (.seq (.reg none [⟨some 4,.mov (.k (.int .i64 (-1))),none⟩])
 (.ret)))
 (.lv [2,3] (.seq (.reg none [⟨some 14,.faddr 1 (.t 2),none⟩,⟨some 15,.ld false 1 (.t 14),none⟩,⟨some 16,.not (.t 15),none⟩,⟨some 17,.mov (.t 16),none⟩,⟨some 18,.faddr 1 (.t 3),(some (17,true))⟩,⟨some 19,.ld false 1 (.t 18),(some (17,true))⟩,⟨some 20,.pick (.t 17) (.t 19) (.k (.bool false)),none⟩,⟨some 13,.mov (.t 20),none⟩])
 (.lv [2,3,13] (.cond (.t 13) (.lv [] (.seq (.reg none [⟨some 4,.mov (.k (.int .i64 1)),none⟩])
 (.ret)))
 (.lv [2,3] (.seq (.reg none [⟨some 22,.faddr 1 (.t 2),none⟩,⟨some 23,.ld false 1 (.t 22),none⟩,⟨some 21,.mov (.t 23),none⟩])
 (.lv [2,3,21] (.cond (.t 21) (.lv [2,3] (.seq (.reg none [⟨some 24,.faddr 0 (.t 3),none⟩,⟨some 25,.ld true 1 (.t 24),none⟩,⟨some 26,.faddr 0 (.t 2),none⟩,⟨some 27,.ld true 1 (.t 26),none⟩,⟨some 28,.callP 145 [.t 25,.t 27],none⟩,⟨some 4,.mov (.t 28),none⟩])
 (.ret)))
 (.skip)))))))))))))
 (.lv [2,3] (.seq (.reg none [⟨some 29,.faddr 0 (.t 2),none⟩,⟨some 30,.ld true 1 (.t 29),none⟩,⟨some 31,.faddr 0 (.t 3),none⟩,⟨some 32,.ld true 1 (.t 31),none⟩,⟨some 33,.callP 145 [.t 30,.t 32],none⟩,⟨some 4,.mov (.t 33),none⟩])
 (.ret)))))
def i122:IFn:=⟨2,34,c122,[.t 4],.pure⟩
def c123:IR:=
 .seq (.reg none [⟨some 1,.box 55 1 (.t 0),none⟩,⟨some 2,.mov (.k (.bool false)),none⟩])
 (.lv [1] (.seq (.reg none [⟨some 3,.faddr 0 (.t 1),none⟩,⟨some 4,.ld false 1 (.t 3),none⟩,⟨some 5,.lenf (.t 4),none⟩,⟨some 6,.bin .eq (.t 5) (.k (.int .i64 0)),none⟩,⟨some 2,.mov (.t 6),none⟩])
 (.ret)))
def i123:IFn:=⟨1,7,c123,[.t 2],.pure⟩
def b124_0:IR:=
 .seq (.seq (.reg none [⟨some 18,.mov (.t 8),none⟩,⟨some 19,.bin .ge (.t 18) (.k (.int .i64 0)),none⟩])
 (.lv [1,2,4,6,7,8,19] (.cond (.t 19) (.skip)
 (.exit 0))))
 (.lv [1,2,4,6,7,8] (.seq (.block 1 (.seq (.reg none [⟨some 22,.mov (.t 7),none⟩,⟨some 23,.bin .shl (.t 22) (.k (.int .u64 32)),none⟩,⟨some 24,.faddr 0 (.t 2),none⟩,⟨some 25,.ld false 1 (.t 24),none⟩,⟨some 26,.mov (.t 8),none⟩,⟨some 27,.iaddrf 1 (.t 25) (.t 26),none⟩,⟨some 28,.ldf false 1 (.t 27),none⟩,⟨some 29,.conv .u64 (.t 28),none⟩,⟨some 30,.bin .or (.t 23) (.t 29),none⟩,⟨some 9,.mov (.t 30),none⟩])
 (.lv [1,2,4,6,8,9] (.reg (some [0,1,2,3,4,5,6,7,8,9,10,11,12,13]) [⟨some 31,.mov (.t 6),none⟩,⟨some 32,.mov (.t 8),none⟩,⟨some 33,.mov (.t 9),none⟩,⟨some 34,.mov (.t 1),none⟩,⟨some 35,.conv .u64 (.t 34),none⟩,⟨some 36,.bin .quo (.t 33) (.t 35),none⟩,⟨some 37,.conv .u32 (.t 36),none⟩,⟨some 38,.mov (.t 9),none⟩,⟨some 39,.mov (.t 1),none⟩,⟨some 40,.conv .u64 (.t 39),none⟩,⟨some 41,.bin .rem (.t 38) (.t 40),none⟩,⟨some 42,.iaddr 1 (.t 31) (.t 32),none⟩,⟨none,.st 1 (.t 42) (.t 37),none⟩,⟨some 7,.mov (.t 41),none⟩]))))
 (.lv [1,2,4,6,7,8] (.reg none [⟨some 20,.mov (.t 8),none⟩,⟨some 21,.bin .sub (.t 20) (.k (.int .i64 1)),none⟩,⟨some 8,.mov (.t 21),none⟩]))))
def k124_0:IR:=
 .seq (.reg none [⟨some 43,.mov (.t 6),none⟩,⟨some 44,.callF 139 [.t 43],none⟩,⟨some 45,.mov (.t 7),none⟩,⟨some 46,.conv .u32 (.t 45),none⟩,⟨none,.st 1 (.t 4) (.t 44),none⟩,⟨some 5,.mov (.t 46),none⟩])
 (.ret)
def c124:IR:=
 .seq (.reg none [⟨some 2,.box 55 1 (.t 0),none⟩,⟨some 4,.alloc 55 [.nilsl 154 1],none⟩,⟨some 5,.mov (.k (.int .u32 0)),none⟩])
 (.lv [1,2,4] (.seq (.reg none [⟨some 10,.faddr 0 (.t 2),none⟩,⟨some 11,.ld false 1 (.t 10),none⟩,⟨some 12,.lenf (.t 11),none⟩,⟨some 13,.mk 154 4 [.int .u32 0] (.t 12),none⟩,⟨some 6,.mov (.t 13),none⟩])
 (.lv [1,2,4,6] (.seq (.reg none [⟨some 7,.mov (.k (.int .u64 0)),none⟩])
 (.lv [1,2,4,6,7] (.seq (.seq (.reg none [⟨some 14,.faddr 0 (.t 2),none⟩,⟨some 15,.ld false 1 (.t 14),none⟩,⟨some 16,.lenf (.t 15),none⟩,⟨some 17,.bin .sub (.t 16) (.k (.int .i64 1)),none⟩,⟨some 8,.mov (.t 17),none⟩])
 (.lv [1,2,4,6,7,8] (.block 0 (.loop [1,2,4,6,7,8] (some (4,[])) b124_0))))
 k124_0))))))
def i124:IFn:=⟨2,47,c124,[.c 4 true 1,.t 5],.pure⟩
def c128:IR:=
 .seq (.reg none [⟨some 1,.box 59 3 (.t 0),none⟩,⟨some 2,.mov (.k (.int .i64 0)),none⟩,⟨some 3,.mov (.k (.bool false)),none⟩])
 (.lv [1] (.seq (.seq (.reg none [⟨some 4,.ld true 3 (.t 1),none⟩,⟨some 5,.callP 147 [.t 4],none⟩,⟨some 6,.not (.t 5),none⟩])
 (.lv [1,6] (.cond (.t 6) (.lv [] (.seq (.reg none [⟨some 2,.mov (.k (.int .i64 0)),none⟩,⟨some 3,.mov (.k (.bool false)),none⟩])
 (.ret)))
 (.skip))))
 (.lv [1] (.seq (.reg none [⟨some 7,.faddr 0 (.t 1),none⟩,⟨some 8,.ld true 2 (.t 7),none⟩,⟨some 9,.callP 148 [.t 8],none⟩,⟨some 10,.ext (.t 9) 0,none⟩,⟨some 11,.ext (.t 9) 1,none⟩,⟨some 2,.mov (.t 10),none⟩,⟨some 3,.mov (.t 11),none⟩])
 (.ret)))))
def i128:IFn:=⟨1,12,c128,[.t 2,.t 3],.pure⟩
def b133_1:IR:=
 .seq (.seq (.reg none [⟨some 29,.mov (.t 7),none⟩,⟨some 30,.bin .ne (.t 29) (.k (.int .u64 0)),none⟩])
 (.lv [4,5,7,30] (.cond (.t 30) (.skip)
 (.exit 2))))
 (.lv [4,5,7] (.block 3 (.reg (some [0,1,2,3,4,5]) [⟨some 31,.mov (.t 7),none⟩,⟨some 32,.mov (.t 5),none⟩,⟨some 33,.mov (.t 7),none⟩,⟨some 34,.bin .rem (.t 32) (.t 33),none⟩,⟨some 5,.mov (.t 31),none⟩,⟨some 7,.mov (.t 34),none⟩])))
def k133_0:IR:=
 .seq (.reg none [⟨some 35,.mov (.t 5),none⟩,⟨some 36,.callP 114 [.t 35],none⟩,⟨none,.st 1 (.t 4) (.t 36),none⟩])
 (.ret)
def k133_1:IR:=
 .seq (.reg none [⟨some 38,.ld true 1 (.t 2),none⟩,⟨some 39,.ld true 1 (.t 3),none⟩,⟨some 40,.callF 135 [.t 38,.t 39],none⟩,⟨some 37,.mov (.t 40),none⟩,⟨some 41,.ext (.t 37) 0,none⟩,⟨some 42,.ext (.t 37) 1,none⟩,⟨some 43,.ext (.t 37) 2,none⟩,⟨some 9,.alloc 55 [.nilsl 154 1],none⟩,⟨some 10,.alloc 55 [.nilsl 154 1],none⟩,⟨none,.st 1 (.t 9) (.t 41),none⟩,⟨none,.st 1 (.t 10) (.t 42),none⟩,⟨some 11,.mov (.t 43),none⟩])
 (.lv [2,3,4,10] (.reg (some [0,1,2,3]) [⟨some 44,.ld true 1 (.t 3),none⟩,⟨some 45,.ld true 1 (.t 10),none⟩,⟨none,.sta [10] 1 (.t 2) (.t 44),none⟩,⟨none,.st 1 (.t 3) (.t 45),none⟩]))
def b133_0:IR:=
 .seq (.seq (.reg none [⟨some 12,.ld true 1 (.t 3),none⟩,⟨some 13,.callR 123 [.t 12],none⟩,⟨some 14,.not (.t 13),none⟩])
 (.lv [2,3,4,14] (.cond (.t 14) (.skip)
 (.exit 0))))
 (.lv [2,3,4] (.block 1 (.seq (.reg none [⟨some 16,.ld true 1 (.t 2),none⟩,⟨some 17,.callR 152 [.t 16],none⟩,⟨some 15,.mov (.t 17),none⟩,⟨some 18,.ext (.t 15) 0,none⟩,⟨some 19,.ext (.t 15) 1,none⟩,⟨some 5,.mov (.t 18),none⟩,⟨some 6,.mov (.t 19),none⟩])
 (.lv [2,3,4,5,6] (.seq (.reg none [⟨some 21,.ld true 1 (.t 3),none⟩,⟨some 22,.callR 152 [.t 21],none⟩,⟨some 20,.mov (.t 22),none⟩,⟨some 23,.ext (.t 20) 0,none⟩,⟨some 24,.ext (.t 20) 1,none⟩,⟨some 7,.mov (.t 23),none⟩,⟨some 8,.mov (.t 24),none⟩])
 (.lv [2,3,4,5,6,7,8] (.seq (.seq (.reg none [⟨some 25,.mov (.t 6),none⟩,⟨some 26,.mov (.t 25),none⟩,⟨some 27,.mov (.t 8),(some (26,true))⟩,⟨some 28,.pick (.t 26) (.t 27) (.k (.bool false)),none⟩])
 (.lv [2,3,4,5,7,28] (.cond (.t 28) (.lv [4,5,7] (.seq (.block 2 (.loop [4,5,7] (some (4,[])) b133_1))
 k133_0))
 (.skip))))
 k133_1)))))))
def k133_2:IR:=
 .seq (.reg none [⟨some 46,.ld true 1 (.t 2),none⟩,⟨none,.st 1 (.t 4) (.t 46),none⟩])
 (.ret)
def c133:IR:=
 .seq (.reg none [⟨some 2,.box 55 1 (.t 0),none⟩,⟨some 3,.box 55 1 (.t 1),none⟩,⟨some 4,.alloc 55 [.nilsl 154 1],none⟩])
 (.lv [2,3,4] (.seq (.block 0 (.loop [2,3,4] (some (4,[])) b133_0))
 k133_2))
def i133:IFn:=⟨2,47,c133,[.c 4 true 1],.pure⟩
def c134:IR:=
 .seq (.reg none [⟨some 1,.box 57 2 (.t 0),none⟩,⟨some 2,.alloc 55 [.nilsl 154 1],none⟩])
 (.lv [1,2] (.seq (.reg none [⟨some 3,.faddr 0 (.t 1),none⟩,⟨some 4,.ld true 1 (.t 3),none⟩,⟨none,.st 1 (.t 2) (.t 4),none⟩])
 (.ret)))
def i134:IFn:=⟨1,5,c134,[.c 2 true 1],.pure⟩
def c135:IR:=
 .seq (.reg none [⟨some 2,.box 55 1 (.t 0),none⟩,⟨some 3,.box 55 1 (.t 1),none⟩,⟨some 4,.alloc 55 [.nilsl 154 1],none⟩,⟨some 5,.alloc 55 [.nilsl 154 1],none⟩,⟨some 6,.mov (.k (.bool false)),none⟩])
 (.lv [2,3,4,5] (.seq (.block 0 (.seq (.reg none [⟨some 12,.faddr 0 (.t 3),none⟩,⟨some 13,.ld false 1 (.t 12),none⟩,⟨some 14,.lenf (.t 13),none⟩,⟨some 15,.bin .eq (.t 14) (.k (.int .i64 0)),none⟩,⟨some 11,.mov (.t 15),none⟩])
 (.lv [2,3,4,5,11] (.cond (.t 11) (.lv [4,5] (.seq (.reg none [⟨some 16,.build [.nilsl 154 1] [],none⟩,⟨some 17,.build [.nilsl 154 1] [],none⟩,⟨none,.st 1 (.t 4) (.t 16),none⟩,⟨none,.st 1 (.t 5) (.t 17),none⟩,⟨some 6,.mov (.k (.bool false)),none⟩])
 (.ret)))
 (.lv [2,3,4,5] (.seq (.reg none [⟨some 19,.ld true 1 (.t 2),none⟩,⟨some 20,.ld true 1 (.t 3),none⟩,⟨some 21,.callP 145 [.t 19,.t 20],none⟩,⟨some 22,.bin .lt (.t 21) (.k (.int .i64 0)),none⟩,⟨some 18,.mov (.t 22),none⟩])
 (.lv [2,3,4,5,18] (.cond (.t 18) (.lv [2,4,5] (.seq (.reg (some [0,1,2,3,4]) [⟨some 23,.build [.nilsl 154 1] [],none⟩,⟨some 24,.ld true 1 (.t 2),none⟩,⟨none,.sta [2] 1 (.t 4) (.t 23),none⟩,⟨none,.st 1 (.t 5) (.t 24),none⟩,⟨some 6,.mov (.k (.bool true)),none⟩])
 (.ret)))
 (.lv [2,3,4,5] (.seq (.reg none [⟨some 26,.faddr 0 (.t 3),none⟩,⟨some 27,.ld false 1 (.t 26),none⟩,⟨some 28,.lenf (.t 27),none⟩,⟨some 29,.bin .eq (.t 28) (.k (.int .i64 1)),none⟩,⟨some 25,.mov (.t 29),none⟩])
 (.lv [2,3,4,5,25] (.cond (.t 25) (.lv [2,3,4,5] (.seq (.reg (some [0,1,2,3,4,5,6,7,8,9,10,11]) [⟨some 31,.ld true 1 (.t 2),none⟩,⟨some 32,.faddr 0 (.t 3),none⟩,⟨some 33,.ld false 1 (.t 32),none⟩,⟨some 34,.iaddrf 1 (.t 33) (.k (.int .i64 0)),none⟩,⟨some 35,.ldf false 1 (.t 34),none⟩,⟨some 36,.callP 124 [.t 31,.t 35],none⟩,⟨some 30,.mov (.t 36),none⟩,⟨some 37,.ext (.t 30) 0,none⟩,⟨some 38,.ext (.t 30) 1,none⟩,⟨some 7,.alloc 55 [.nilsl 154 1],none⟩,⟨none,.st 1 (.t 7) (.t 37),none⟩,⟨some 8,.mov (.t 38),none⟩])
 (.lv [4,5,7,8] (.seq (.reg (some [0,1,2,3,4,5,6]) [⟨some 39,.ld true 1 (.t 7),none⟩,⟨some 40,.mov (.t 8),none⟩,⟨some 41,.conv .u64 (.t 40),none⟩,⟨some 42,.callP 114 [.t 41],none⟩,⟨none,.st 1 (.t 4) (.t 39),none⟩,⟨none,.st 1 (.t 5) (.t 42),none⟩,⟨some 6,.mov (.k (.bool true)),none⟩])
 (.ret)))))
 (.skip)))))))))))))
 (.lv [2,3,4,5] (.seq (.reg none [⟨some 44,.ld true 1 (.t 2),none⟩,⟨some 45,.ld true 1 (.t 3),none⟩,⟨some 46,.callP 153 [.t 44,.t 45],none⟩,⟨some 43,.mov (.t 46),none⟩,⟨some 47,.ext (.t 43) 0,none⟩,⟨some 48,.ext (.t 43) 1,none⟩,⟨some 9,.alloc 55 [.nilsl 154 1],none⟩,⟨some 10,.alloc 55 [.nilsl 154 1],none⟩,⟨none,.st 1 (.t 9) (.t 47),none⟩,⟨none,.st 1 (.t 10) (.t 48),none⟩])
 (.lv [4,5,9,10] (.seq (.reg (some [0,1,2,3,4]) [⟨some 49,.ld true 1 (.t 9),none⟩,⟨some 50,.ld true 1 (.t 10),none⟩,⟨none,.sta [10] 1 (.t 4) (.t 49),none⟩,⟨none,.st 1 (.t 5) (.t 50),none⟩,⟨some 6,.mov (.k (.bool true)),none⟩])
 (.ret)))))))
def i135:IFn:=⟨2,51,c135,[.c 4 true 1,.c 5 true 1,.t 6],.pure⟩
def c136:IR:=
 .seq (.reg none [⟨some 3,.box 55 1 (.t 1),none⟩,⟨some 4,.alloc 57 [.nilsl 154 1,.bool false],none⟩])
 (.lv [0,3,4] (.seq (.reg (some [0,1,2,3,4,5,6,7,8]) [⟨some 5,.ld true 1 (.t 3),none⟩,⟨some 6,.mov (.t 0),none⟩,⟨some 7,.mov (.t 6),none⟩,⟨some 8,.ld true 1 (.t 3),(some (7,true))⟩,⟨some 9,.callP 123 [.t 8],(some (7,true))⟩,⟨some 10,.not (.t 9),(some (7,true))⟩,⟨some 11,.pick (.t 7) (.t 10) (.k (.bool false)),none⟩,⟨some 12,.build [.nilsl 154 1,.bool false] [(0,1,.t 5),(1,1,.t 11)],none⟩,⟨none,.st 2 (.t 4) (.t 12),none⟩])
 (.ret)))
def i136:IFn:=⟨2,13,c136,[.c 4 true 2],.pure⟩
def b137_1:IR:=
 .seq (.reg none [⟨some 32,.bin .lt (.t 31) (.t 30),none⟩])
 (.lv [3,4,5,6,7,8,21,22,23,29,30,31,32] (.seq (.cond (.t 32) (.skip)
 (.exit 2))
 (.lv [3,4,5,6,7,8,21,22,23,29,30,31] (.seq (.block 3 (.seq (.reg none [⟨some 33,.mov (.t 31),none⟩,⟨some 34,.iaddrf 1 (.t 29) (.t 31),none⟩,⟨some 35,.ldf false 1 (.t 34),none⟩,⟨some 9,.mov (.t 33),none⟩,⟨some 10,.mov (.t 35),none⟩])
 (.lv [3,4,5,6,7,8,9,10,21,22,23,29,30,31] (.seq (.reg none [⟨some 36,.mov (.t 7),none⟩,⟨some 37,.conv .u64 (.t 36),none⟩,⟨some 38,.mov (.t 10),none⟩,⟨some 39,.conv .u64 (.t 38),none⟩,⟨some 40,.bin .mul (.t 37) (.t 39),none⟩,⟨some 41,.mov (.t 5),none⟩,⟨some 42,.mov (.t 6),none⟩,⟨some 43,.mov (.t 9),none⟩,⟨some 44,.bin .add (.t 42) (.t 43),none⟩,⟨some 45,.iaddr 1 (.t 41) (.t 44),none⟩,⟨some 46,.ld false 1 (.t 45),none⟩,⟨some 47,.conv .u64 (.t 46),none⟩,⟨some 48,.bin .add (.t 40) (.t 47),none⟩,⟨some 49,.mov (.t 8),none⟩,⟨some 50,.bin .add (.t 48) (.t 49),none⟩,⟨some 11,.mov (.t 50),none⟩])
 (.lv [3,4,5,6,7,9,11,21,22,23,29,30,31] (.reg none [⟨some 51,.mov (.t 5),none⟩,⟨some 52,.mov (.t 6),none⟩,⟨some 53,.mov (.t 9),none⟩,⟨some 54,.bin .add (.t 52) (.t 53),none⟩,⟨some 55,.mov (.t 11),none⟩,⟨some 56,.conv .u32 (.t 55),none⟩,⟨some 57,.mov (.t 11),none⟩,⟨some 58,.bin .shr (.t 57) (.k (.int .u64 32)),none⟩,⟨some 59,.iaddr 1 (.t 51) (.t 54),none⟩,⟨none,.st 1 (.t 59) (.t 56),none⟩,⟨some 8,.mov (.t 58),none⟩]))))))
 (.lv [3,4,5,6,7,8,21,22,23,29,30,31] (.reg none [⟨some 60,.bin .add (.t 31) (.k (.int .i64 1)),none⟩,⟨some 31,.mov (.t 60),none⟩]))))))
def k137_0:IR:=
 .reg none [⟨some 61,.mov (.t 5),none⟩,⟨some 62,.mov (.t 6),none⟩,⟨some 63,.faddr 0 (.t 3),none⟩,⟨some 64,.ld false 1 (.t 63),none⟩,⟨some 65,.lenf (.t 64),none⟩,⟨some 66,.bin .add (.t 62) (.t 65),none⟩,⟨some 67,.mov (.t 8),none⟩,⟨some 68,.conv .u32 (.t 67),none⟩,⟨some 69,.iaddr 1 (.t 61) (.t 66),none⟩,⟨none,.st 1 (.t 69) (.t 68),none⟩]
def k137_1:IR:=
 .reg none [⟨some 70,.bin .add (.t 23) (.k (.int .i64 1)),none⟩,⟨some 23,.mov (.t 70),none⟩]
def b137_0:IR:=
 .seq (.reg none [⟨some 24,.bin .lt (.t 23) (.t 22),none⟩])
 (.lv [3,4,5,21,22,23,24] (.seq (.cond (.t 24) (.skip)
 (.exit 0))
 (.lv [3,4,5,21,22,23] (.seq (.block 1 (.seq (.reg none [⟨some 25,.mov (.t 23),none⟩,⟨some 26,.iaddrf 1 (.t 21) (.t 23),none⟩,⟨some 27,.ldf false 1 (.t 26),none⟩,⟨some 6,.mov (.t 25),none⟩,⟨some 7,.mov (.t 27),none⟩])
 (.lv [3,4,5,6,7,21,22,23] (.seq (.reg none [⟨some 8,.mov (.k (.int .u64 0)),none⟩])
 (.lv [3,4,5,6,7,8,21,22,23] (.seq (.seq (.reg none [⟨some 28,.faddr 0 (.t 3),none⟩,⟨some 29,.ld false 1 (.t 28),none⟩,⟨some 30,.lenf (.t 29),none⟩,⟨some 31,.mov (.k (.int .i64 0)),none⟩])
 (.lv [3,4,5,6,7,8,21,22,23,29,30,31] (.block 2 (.loop [3,4,5,6,7,8,21,22,23,29,30,31] (some (5,[])) b137_1))))
 k137_0))))))
 k137_1))))
def k137_2:IR:=
 .seq (.reg none [⟨some 71,.mov (.t 5),none⟩,⟨some 72,.callF 139 [.t 71],none⟩,⟨none,.st 1 (.t 4) (.t 72),none⟩])
 (.ret)
def c137:IR:=
 .seq (.reg none [⟨some 2,.box 55 1 (.t 0),none⟩,⟨some 3,.box 55 1 (.t 1),none⟩,⟨some 4,.alloc 55 [.nilsl 154 1],none⟩])
 (.lv [2,3,4] (.seq (.reg none [⟨some 12,.faddr 0 (.t 2),none⟩,⟨some 13,.ld false 1 (.t 12),none⟩,⟨some 14,.lenf (.t 13),none⟩,⟨some 15,.faddr 0 (.t 3),none⟩,⟨some 16,.ld false 1 (.t 15),none⟩,⟨some 17,.lenf (.t 16),none⟩,⟨some 18,.bin .add (.t 14) (.t 17),none⟩,⟨some 19,.mk 154 4 [.int .u32 0] (.t 18),none⟩,⟨some 5,.mov (.t 19),none⟩])
 (.lv [2,3,4,5] (.seq (.seq (.reg none [⟨some 20,.faddr 0 (.t 2),none⟩,⟨some 21,.ld false 1 (.t 20),none⟩,⟨some 22,.lenf (.t 21),none⟩,⟨some 23,.mov (.k (.int .i64 0)),none⟩])
 (.lv [3,4,5,21,22,23] (.block 0 (.loop [3,4,5,21,22,23] (some (5,[])) b137_0))))
 k137_2))))
def i137:IFn:=⟨2,73,c137,[.c 4 true 1],.pure⟩
def b139_0:IR:=
 .seq (.seq (.reg none [⟨some 3,.mov (.t 0),none⟩,⟨some 4,.lenf (.t 3),none⟩,⟨some 5,.bin .gt (.t 4) (.k (.int .i64 0)),none⟩,⟨some 6,.mov (.t 5),none⟩,⟨some 7,.mov (.t 0),(some (6,true))⟩,⟨some 8,.mov (.t 0),(some (6,true))⟩,⟨some 9,.lenf (.t 8),(some (6,true))⟩,⟨some 10,.bin .sub (.t 9) (.k (.int .i64 1)),(some (6,true))⟩,⟨some 11,.iaddrf 1 (.t 7) (.t 10),(some (6,true))⟩,⟨some 12,.ldf false 1 (.t 11),(some (6,true))⟩,⟨some 13,.bin .eq (.t 12) (.k (.int .u32 0)),(some (6,true))⟩,⟨some 14,.pick (.t 6) (.t 13) (.k (.bool false)),none⟩])
 (.lv [0,2,14] (.cond (.t 14) (.skip)
 (.exit 0))))
 (.lv [0,2] (.block 1 (.reg none [⟨some 15,.mov (.t 0),none⟩,⟨some 16,.mov (.t 0),none⟩,⟨some 17,.lenf (.t 16),none⟩,⟨some 18,.bin .sub (.t 17) (.k (.int .i64 1)),none⟩,⟨some 19,.cut 1 (.t 15) none (some (.t 18)),none⟩,⟨some 0,.mov (.t 19),none⟩])))
def k139_0:IR:=
 .seq (.reg none [⟨some 20,.mov (.t 0),none⟩,⟨some 21,.build [.nilsl 154 1] [(0,1,.t 20)],none⟩,⟨none,.st 1 (.t 2) (.t 21),none⟩])
 (.ret)
def c139:IR:=
 .seq (.reg none [⟨some 2,.alloc 55 [.nilsl 154 1],none⟩])
 (.lv [0,2] (.seq (.block 0 (.loop [0,2] (some (2,[])) b139_0))
 k139_0))
def i139:IFn:=⟨1,22,c139,[.c 2 true 1],.pure⟩
def b140_0:IR:=
 .seq (.seq (.reg none [⟨some 7,.mov (.t 4),none⟩,⟨some 8,.bin .lt (.t 7) (.k (.int .i64 20)),none⟩,⟨some 9,.mov (.t 8),none⟩,⟨some 10,.mov (.t 0),(some (9,true))⟩,⟨some 11,.bin .gt (.t 10) (.k (.int .u64 0)),(some (9,true))⟩,⟨some 12,.pick (.t 9) (.t 11) (.k (.bool false)),none⟩])
 (.lv [0,3,4,12] (.cond (.t 12) (.skip)
 (.exit 0))))
 (.lv [0,3,4] (.seq (.block 1 (.seq (.reg none [⟨some 15,.mov (.t 3),none⟩,⟨some 16,.mov (.t 0),none⟩,⟨some 17,.bin .rem (.t 16) (.k (.int .u64 10)),none⟩,⟨some 18,.conv .i64 (.t 17),none⟩,⟨some 19,.bsl 3 1 [.t 18],none⟩,⟨some 20,.app 3 1 8 (.t 15) (.t 19),none⟩,⟨some 3,.mov (.t 20),none⟩])
 (.lv [0,3,4] (.reg none [⟨some 21,.mov (.t 0),none⟩,⟨some 22,.bin .quo (.t 21) (.k (.int .u64 10)),none⟩,⟨some 0,.mov (.t 22),none⟩]))))
 (.lv [0,3,4] (.reg none [⟨some 13,.mov (.t 4),none⟩,⟨some 14,.bin .add (.t 13) (.k (.int .i64 1)),none⟩,⟨some 4,.mov (.t 14),none⟩]))))
def k140_0:IR:=
 .seq (.reg none [⟨some 23,.mov (.t 3),none⟩,⟨some 24,.callR 154 [.t 23],none⟩,⟨some 2,.mov (.t 24),none⟩])
 (.ret)
def c140:IR:=
 .seq (.reg none [⟨some 2,.mov (.k (.str ⟨#[]⟩)),none⟩])
 (.lv [0] (.seq (.seq (.reg none [⟨some 5,.mov (.t 0),none⟩,⟨some 6,.bin .eq (.t 5) (.k (.int .u64 0)),none⟩])
 (.lv [0,6] (.cond (.t 6) (.lv [] (.seq (.reg none [⟨some 2,.mov (.k (.str ⟨#[48]⟩)),none⟩])
 (.ret)))
 (.skip))))
 (.lv [0] (.seq (.reg none [⟨some 3,.newnil 3 1,none⟩])
 (.lv [0,3] (.seq (.seq (.reg none [⟨some 4,.mov (.k (.int .i64 0)),none⟩])
 (.lv [0,3,4] (.block 0 (.loop [0,3,4] (some (1,[])) b140_0))))
 k140_0))))))
def i140:IFn:=⟨1,25,c140,[.t 2],.pure⟩
def b141_0:IR:=
 .seq (.seq (.reg none [⟨some 4,.mov (.t 3),none⟩,⟨some 5,.mov (.t 0),none⟩,⟨some 6,.slen (.t 5),none⟩,⟨some 7,.bin .lt (.t 4) (.t 6),none⟩,⟨some 8,.mov (.t 7),none⟩,⟨some 9,.mov (.t 3),(some (8,true))⟩,⟨some 10,.bin .le (.t 9) (.k (.int .i64 2000)),(some (8,true))⟩,⟨some 11,.pick (.t 8) (.t 10) (.k (.bool false)),none⟩])
 (.lv [0,3,11] (.cond (.t 11) (.skip)
 (.exit 0))))
 (.lv [0,3] (.seq (.block 1 (.seq (.reg none [⟨some 14,.mov (.t 0),none⟩,⟨some 15,.mov (.t 3),none⟩,⟨some 16,.sidx (.t 14) (.t 15),none⟩,⟨some 17,.bin .lt (.t 16) (.k (.int .u8 48)),none⟩,⟨some 18,.mov (.t 17),none⟩,⟨some 19,.mov (.t 0),(some (18,false))⟩,⟨some 20,.mov (.t 3),(some (18,false))⟩,⟨some 21,.sidx (.t 19) (.t 20),(some (18,false))⟩,⟨some 22,.bin .gt (.t 21) (.k (.int .u8 57)),(some (18,false))⟩,⟨some 23,.pick (.t 18) (.k (.bool true)) (.t 22),none⟩])
 (.lv [0,3,23] (.cond (.t 23) (.lv [] (.seq (.reg none [⟨some 2,.mov (.k (.bool false)),none⟩])
 (.ret)))
 (.skip)))))
 (.lv [0,3] (.reg none [⟨some 12,.mov (.t 3),none⟩,⟨some 13,.bin .add (.t 12) (.k (.int .i64 1)),none⟩,⟨some 3,.mov (.t 13),none⟩]))))
def k141_0:IR:=
 .seq (.reg none [⟨some 24,.mov (.t 0),none⟩,⟨some 25,.slen (.t 24),none⟩,⟨some 26,.bin .ge (.t 25) (.k (.int .i64 1)),none⟩,⟨some 27,.mov (.t 26),none⟩,⟨some 28,.mov (.t 0),(some (27,true))⟩,⟨some 29,.slen (.t 28),(some (27,true))⟩,⟨some 30,.bin .le (.t 29) (.k (.int .i64 2000)),(some (27,true))⟩,⟨some 31,.pick (.t 27) (.t 30) (.k (.bool false)),none⟩,⟨some 2,.mov (.t 31),none⟩])
 (.ret)
def c141:IR:=
 .seq (.reg none [⟨some 2,.mov (.k (.bool false)),none⟩])
 (.lv [0] (.seq (.seq (.reg none [⟨some 3,.mov (.k (.int .i64 0)),none⟩])
 (.lv [0,3] (.block 0 (.loop [0,3] (some (0,[])) b141_0))))
 k141_0))
def i141:IFn:=⟨1,32,c141,[.t 2],.pure⟩
def b142_0:IR:=
 .seq (.seq (.reg none [⟨some 3,.mov (.t 0),none⟩,⟨some 4,.slen (.t 3),none⟩,⟨some 5,.bin .gt (.t 4) (.k (.int .i64 1)),none⟩,⟨some 6,.mov (.t 5),none⟩,⟨some 7,.mov (.t 0),(some (6,true))⟩,⟨some 8,.sidx (.t 7) (.k (.int .i64 0)),(some (6,true))⟩,⟨some 9,.bin .eq (.t 8) (.k (.int .u8 48)),(some (6,true))⟩,⟨some 10,.pick (.t 6) (.t 9) (.k (.bool false)),none⟩])
 (.lv [0,10] (.cond (.t 10) (.skip)
 (.exit 0))))
 (.lv [0] (.block 1 (.reg none [⟨some 11,.mov (.t 0),none⟩,⟨some 12,.scut (.t 11) (some (.k (.int .i64 1))) none,none⟩,⟨some 0,.mov (.t 12),none⟩])))
def k142_0:IR:=
 .seq (.reg none [⟨some 13,.mov (.t 0),none⟩,⟨some 2,.mov (.t 13),none⟩])
 (.ret)
def c142:IR:=
 .seq (.reg none [⟨some 2,.mov (.k (.str ⟨#[]⟩)),none⟩])
 (.lv [0] (.seq (.block 0 (.loop [0] (some (0,[])) b142_0))
 k142_0))
def i142:IFn:=⟨1,14,c142,[.t 2],.pure⟩
def b143_0:IR:=
 .seq (.seq (.reg none [⟨some 8,.mov (.t 5),none⟩,⟨some 9,.bin .lt (.t 8) (.k (.int .i64 20000)),none⟩,⟨some 10,.mov (.t 9),none⟩,⟨some 11,.mov (.t 1),(some (10,true))⟩,⟨some 12,.bin .ne (.t 11) (.k (.str ⟨#[48]⟩)),(some (10,true))⟩,⟨some 13,.pick (.t 10) (.t 12) (.k (.bool false)),none⟩])
 (.lv [0,1,5,13] (.cond (.t 13) (.skip)
 (.exit 0))))
 (.lv [0,1,5] (.seq (.block 1 (.seq (.reg none [⟨some 17,.mov (.t 0),none⟩,⟨some 18,.mov (.t 1),none⟩,⟨some 19,.callP 155 [.t 17,.t 18],none⟩,⟨some 16,.mov (.t 19),none⟩,⟨some 20,.ext (.t 16) 0,none⟩,⟨some 21,.ext (.t 16) 1,none⟩,⟨some 6,.mov (.t 20),none⟩,⟨some 7,.mov (.t 21),none⟩])
 (.lv [1,5,7] (.seq (.reg none [⟨some 22,.mov (.t 1),none⟩,⟨some 0,.mov (.t 22),none⟩])
 (.lv [0,5,7] (.reg none [⟨some 23,.mov (.t 7),none⟩,⟨some 1,.mov (.t 23),none⟩]))))))
 (.lv [0,1,5] (.reg none [⟨some 14,.mov (.t 5),none⟩,⟨some 15,.bin .add (.t 14) (.k (.int .i64 1)),none⟩,⟨some 5,.mov (.t 15),none⟩]))))
def k143_0:IR:=
 .seq (.reg none [⟨some 24,.mov (.t 0),none⟩,⟨some 4,.mov (.t 24),none⟩])
 (.ret)
def c143:IR:=
 .seq (.reg none [⟨some 4,.mov (.k (.str ⟨#[]⟩)),none⟩])
 (.lv [0,1] (.seq (.seq (.reg none [⟨some 5,.mov (.k (.int .i64 0)),none⟩])
 (.lv [0,1,5] (.block 0 (.loop [0,1,5] (some (0,[])) b143_0))))
 k143_0))
def i143:IFn:=⟨2,25,c143,[.t 4],.pure⟩
def b144_1:IR:=
 .seq (.reg none [⟨some 30,.bin .lt (.t 29) (.t 28),none⟩])
 (.lv [0,2,4,5,6,7,27,28,29,30] (.seq (.cond (.t 30) (.skip)
 (.exit 2))
 (.lv [0,2,4,5,6,7,27,28,29] (.seq (.block 3 (.seq (.reg none [⟨some 31,.iaddrf 1 (.t 27) (.t 29),none⟩,⟨some 32,.ldf false 1 (.t 31),none⟩,⟨some 9,.mov (.t 32),none⟩])
 (.lv [0,2,4,5,6,7,9,27,28,29] (.seq (.seq (.reg none [⟨some 33,.mov (.t 9),none⟩,⟨some 34,.bin .lt (.t 33) (.k (.int .u8 48)),none⟩,⟨some 35,.mov (.t 34),none⟩,⟨some 36,.mov (.t 9),(some (35,false))⟩,⟨some 37,.bin .gt (.t 36) (.k (.int .u8 57)),(some (35,false))⟩,⟨some 38,.pick (.t 35) (.k (.bool true)) (.t 37),none⟩])
 (.lv [0,2,4,5,6,7,9,27,28,29,38] (.cond (.t 38) (.lv [2] (.seq (.reg none [⟨some 39,.build [.nilsl 154 1] [],none⟩,⟨none,.st 1 (.t 2) (.t 39),none⟩,⟨some 3,.mov (.k (.bool false)),none⟩])
 (.ret)))
 (.skip))))
 (.lv [0,2,4,5,6,7,9,27,28,29] (.reg none [⟨some 40,.mov (.t 6),none⟩,⟨some 41,.bin .mul (.k (.int .u64 10)) (.t 40),none⟩,⟨some 42,.mov (.t 9),none⟩,⟨some 43,.bin .sub (.t 42) (.k (.int .u8 48)),none⟩,⟨some 44,.conv .u64 (.t 43),none⟩,⟨some 45,.bin .add (.t 41) (.t 44),none⟩,⟨some 46,.mov (.t 7),none⟩,⟨some 47,.bin .mul (.k (.int .u64 10)) (.t 46),none⟩,⟨some 6,.mov (.t 45),none⟩,⟨some 7,.mov (.t 47),none⟩]))))))
 (.lv [0,2,4,5,6,7,27,28,29] (.reg none [⟨some 48,.bin .add (.t 29) (.k (.int .i64 1)),none⟩,⟨some 29,.mov (.t 48),none⟩]))))))
def k144_0:IR:=
 .seq (.reg (some [0,1,2,4,3,5,6,7]) [⟨some 49,.ld true 1 (.t 4),none⟩,⟨some 50,.mov (.t 7),none⟩,⟨some 51,.callP 114 [.t 50],none⟩,⟨some 53,.mov (.t 6),none⟩,⟨some 52,.callF 137 [.t 49,.t 51],none⟩,⟨some 54,.callP 114 [.t 53],none⟩,⟨some 55,.callP 151 [.t 52,.t 54],none⟩,⟨none,.st 1 (.t 4) (.t 55),none⟩])
 (.lv [0,2,4,5] (.reg none [⟨some 56,.mov (.t 0),none⟩,⟨some 57,.mov (.t 5),none⟩,⟨some 58,.scut (.t 56) (some (.t 57)) none,none⟩,⟨some 0,.mov (.t 58),none⟩]))
def b144_0:IR:=
 .seq (.seq (.reg none [⟨some 18,.mov (.t 0),none⟩,⟨some 19,.slen (.t 18),none⟩,⟨some 20,.bin .gt (.t 19) (.k (.int .i64 0)),none⟩])
 (.lv [0,2,4,20] (.cond (.t 20) (.skip)
 (.exit 0))))
 (.lv [0,2,4] (.block 1 (.seq (.reg none [⟨some 21,.mov (.t 0),none⟩,⟨some 22,.slen (.t 21),none⟩,⟨some 23,.mn (.k (.int .i64 9)) (.t 22),none⟩,⟨some 5,.mov (.t 23),none⟩])
 (.lv [0,2,4,5] (.seq (.reg none [⟨some 6,.mov (.k (.int .u64 0)),none⟩,⟨some 7,.mov (.k (.int .u64 1)),none⟩])
 (.lv [0,2,4,5,6,7] (.seq (.seq (.reg none [⟨some 24,.mov (.t 0),none⟩,⟨some 25,.mov (.t 5),none⟩,⟨some 26,.scut (.t 24) none (some (.t 25)),none⟩,⟨some 27,.s2b (.t 26),none⟩,⟨some 28,.lenf (.t 27),none⟩,⟨some 29,.mov (.k (.int .i64 0)),none⟩])
 (.lv [0,2,4,5,6,7,27,28,29] (.block 2 (.loop [0,2,4,5,6,7,27,28,29] (some (4,[])) b144_1))))
 k144_0)))))))
def k144_1:IR:=
 .seq (.reg none [⟨some 59,.ld true 1 (.t 4),none⟩,⟨none,.st 1 (.t 2) (.t 59),none⟩,⟨some 3,.mov (.k (.bool true)),none⟩])
 (.ret)
def c144:IR:=
 .seq (.reg none [⟨some 2,.alloc 55 [.nilsl 154 1],none⟩,⟨some 3,.mov (.k (.bool false)),none⟩])
 (.lv [0,2] (.seq (.seq (.reg none [⟨some 10,.mov (.t 0),none⟩,⟨some 11,.bin .eq (.t 10) (.k (.str ⟨#[]⟩)),none⟩,⟨some 12,.mov (.t 11),none⟩,⟨some 13,.mov (.t 0),(some (12,false))⟩,⟨some 14,.slen (.t 13),(some (12,false))⟩,⟨some 15,.bin .gt (.t 14) (.k (.int .i64 2000)),(some (12,false))⟩,⟨some 16,.pick (.t 12) (.k (.bool true)) (.t 15),none⟩])
 (.lv [0,2,16] (.cond (.t 16) (.lv [2] (.seq (.reg none [⟨some 17,.build [.nilsl 154 1] [],none⟩,⟨none,.st 1 (.t 2) (.t 17),none⟩,⟨some 3,.mov (.k (.bool false)),none⟩])
 (.ret)))
 (.skip))))
 (.lv [0,2] (.seq (.reg none [⟨some 4,.alloc 55 [.nilsl 154 1],none⟩])
 (.lv [0,2,4] (.seq (.block 0 (.loop [0,2,4] (some (4,[])) b144_0))
 k144_1))))))
def i144:IFn:=⟨1,60,c144,[.c 2 true 1,.t 3],.pure⟩
def b145_0:IR:=
 .seq (.seq (.reg none [⟨some 24,.mov (.t 5),none⟩,⟨some 25,.bin .ge (.t 24) (.k (.int .i64 0)),none⟩])
 (.lv [2,3,5,25] (.cond (.t 25) (.skip)
 (.exit 0))))
 (.lv [2,3,5] (.seq (.block 1 (.seq (.reg (some [0,1,2,3,4,5,6,7,8,9,10]) [⟨some 28,.faddr 0 (.t 2),none⟩,⟨some 29,.ld false 1 (.t 28),none⟩,⟨some 30,.mov (.t 5),none⟩,⟨some 31,.iaddrf 1 (.t 29) (.t 30),none⟩,⟨some 32,.ldf false 1 (.t 31),none⟩,⟨some 33,.faddr 0 (.t 3),none⟩,⟨some 34,.ld false 1 (.t 33),none⟩,⟨some 35,.mov (.t 5),none⟩,⟨some 36,.iaddrf 1 (.t 34) (.t 35),none⟩,⟨some 37,.ldf false 1 (.t 36),none⟩,⟨some 38,.bin .ne (.t 32) (.t 37),none⟩])
 (.lv [2,3,5,38] (.cond (.t 38) (.lv [2,3,5] (.seq (.seq (.reg (some [0,1,2,3,4,5,6,7,8,9,10]) [⟨some 39,.faddr 0 (.t 2),none⟩,⟨some 40,.ld false 1 (.t 39),none⟩,⟨some 41,.mov (.t 5),none⟩,⟨some 42,.iaddrf 1 (.t 40) (.t 41),none⟩,⟨some 43,.ldf false 1 (.t 42),none⟩,⟨some 44,.faddr 0 (.t 3),none⟩,⟨some 45,.ld false 1 (.t 44),none⟩,⟨some 46,.mov (.t 5),none⟩,⟨some 47,.iaddrf 1 (.t 45) (.t 46),none⟩,⟨some 48,.ldf false 1 (.t 47),none⟩,⟨some 49,.bin .lt (.t 43) (.t 48),none⟩])
 (.lv [49] (.cond (.t 49) (.lv [] (.seq (.reg none [⟨some 4,.mov (.k (.int .i64 (-1))),none⟩])
 (.ret)))
 (.skip))))
 (.lv [] (.seq (.reg none [⟨some 4,.mov (.k (.int .i64 1)),none⟩])
 (.ret)))))
 (.skip)))))
 (.lv [2,3,5] (.reg none [⟨some 26,.mov (.t 5),none⟩,⟨some 27,.bin .sub (.t 26) (.k (.int .i64 1)),none⟩,⟨some 5,.mov (.t 27),none⟩]))))
def k145_0:IR:=
 .seq (.reg none [⟨some 4,.mov (.k (.int .i64 0)),none⟩])
 (.ret)
def c145:IR:=
 .seq (.reg none [⟨some 2,.box 55 1 (.t 0),none⟩,⟨some 3,.box 55 1 (.t 1),none⟩,⟨some 4,.mov (.k (.int .i64 0)),none⟩])
 (.lv [2,3] (.seq (.seq (.reg none [⟨some 6,.faddr 0 (.t 2),none⟩,⟨some 7,.ld false 1 (.t 6),none⟩,⟨some 8,.lenf (.t 7),none⟩,⟨some 9,.faddr 0 (.t 3),none⟩,⟨some 10,.ld false 1 (.t 9),none⟩,⟨some 11,.lenf (.t 10),none⟩,⟨some 12,.bin .ne (.t 8) (.t 11),none⟩])
 (.lv [2,3,12] (.cond (.t 12) (.lv [2,3] (.seq (.seq (.reg none [⟨some 13,.faddr 0 (.t 2),none⟩,⟨some 14,.ld false 1 (.t 13),none⟩,⟨some 15,.lenf (.t 14),none⟩,⟨some 16,.faddr 0 (.t 3),none⟩,⟨some 17,.ld false 1 (.t 16),none⟩,⟨some 18,.lenf (.t 17),none⟩,⟨some 19,.bin .lt (.t 15) (.t 18),none⟩])
 (.lv [19] (.cond (.t 19) (.lv [] (.seq (.reg none [⟨some 4,.mov (.k (.int .i64 (-1))),none⟩])
 (.ret)))
 (.skip))))
 (.lv [] (.seq (.reg none [⟨some 4,.mov (.k (.int .i64 1)),none⟩])
 (.ret)))))
 (.skip))))
 (.lv [2,3] (.seq (.seq (.reg none [⟨some 20,.faddr 0 (.t 2),none⟩,⟨some 21,.ld false 1 (.t 20),none⟩,⟨some 22,.lenf (.t 21),none⟩,⟨some 23,.bin .sub (.t 22) (.k (.int .i64 1)),none⟩,⟨some 5,.mov (.t 23),none⟩])
 (.lv [2,3,5] (.block 0 (.loop [2,3,5] (some (2,[])) b145_0))))
 k145_0))))
def i145:IFn:=⟨2,50,c145,[.t 4],.pure⟩
def c147:IR:=
 .seq (.reg none [⟨some 1,.box 59 3 (.t 0),none⟩,⟨some 2,.mov (.k (.bool false)),none⟩])
 (.lv [1] (.seq (.reg none [⟨some 3,.ld true 3 (.t 1),none⟩,⟨some 4,.callP 79 [.t 3],none⟩,⟨some 5,.callP 156 [.t 4],none⟩,⟨some 2,.mov (.t 5),none⟩])
 (.ret)))
def i147:IFn:=⟨1,6,c147,[.t 2],.pure⟩
def c148:IR:=
 .seq (.reg none [⟨some 1,.box 57 2 (.t 0),none⟩,⟨some 2,.mov (.k (.int .i64 0)),none⟩,⟨some 3,.mov (.k (.bool false)),none⟩])
 (.lv [1] (.seq (.reg none [⟨some 7,.faddr 0 (.t 1),none⟩,⟨some 8,.ld true 1 (.t 7),none⟩,⟨some 9,.callP 152 [.t 8],none⟩,⟨some 6,.mov (.t 9),none⟩,⟨some 10,.ext (.t 6) 0,none⟩,⟨some 11,.ext (.t 6) 1,none⟩,⟨some 4,.mov (.t 10),none⟩,⟨some 5,.mov (.t 11),none⟩])
 (.lv [1,4,5] (.seq (.block 0 (.seq (.reg none [⟨some 13,.mov (.t 5),none⟩,⟨some 14,.not (.t 13),none⟩,⟨some 15,.mov (.t 14),none⟩,⟨some 16,.mov (.t 4),(some (15,false))⟩,⟨some 17,.bin .gt (.t 16) (.k (.int .u64 9223372036854775808)),(some (15,false))⟩,⟨some 18,.pick (.t 15) (.k (.bool true)) (.t 17),none⟩,⟨some 19,.mov (.t 18),none⟩,⟨some 20,.mov (.t 4),(some (19,false))⟩,⟨some 21,.bin .eq (.t 20) (.k (.int .u64 9223372036854775808)),(some (19,false))⟩,⟨some 22,.mov (.t 21),(some (19,false))⟩,⟨some 23,.faddr 1 (.t 1),(some (22,true))⟩,⟨some 24,.ld false 1 (.t 23),(some (22,true))⟩,⟨some 25,.not (.t 24),(some (22,true))⟩,⟨some 26,.pick (.t 22) (.t 25) (.k (.bool false)),(some (19,false))⟩,⟨some 27,.pick (.t 19) (.k (.bool true)) (.t 26),none⟩,⟨some 12,.mov (.t 27),none⟩])
 (.lv [1,4,12] (.cond (.t 12) (.lv [] (.seq (.reg none [⟨some 2,.mov (.k (.int .i64 0)),none⟩,⟨some 3,.mov (.k (.bool false)),none⟩])
 (.ret)))
 (.lv [1,4] (.seq (.reg none [⟨some 29,.faddr 1 (.t 1),none⟩,⟨some 30,.ld false 1 (.t 29),none⟩,⟨some 28,.mov (.t 30),none⟩])
 (.lv [4,28] (.cond (.t 28) (.lv [4] (.seq (.reg none [⟨some 31,.mov (.t 4),none⟩,⟨some 32,.bin .sub (.t 31) (.k (.int .u64 1)),none⟩,⟨some 33,.conv .i64 (.t 32),none⟩,⟨some 34,.neg (.t 33),none⟩,⟨some 35,.bin .sub (.t 34) (.k (.int .i64 1)),none⟩,⟨some 2,.mov (.t 35),none⟩,⟨some 3,.mov (.k (.bool true)),none⟩])
 (.ret)))
 (.skip)))))))))
 (.lv [4] (.seq (.reg none [⟨some 36,.mov (.t 4),none⟩,⟨some 37,.conv .i64 (.t 36),none⟩,⟨some 2,.mov (.t 37),none⟩,⟨some 3,.mov (.k (.bool true)),none⟩])
 (.ret)))))))
def i148:IFn:=⟨1,38,c148,[.t 2,.t 3],.pure⟩
def b151_0:IR:=
 .seq (.reg none [⟨some 29,.bin .lt (.t 28) (.t 27),none⟩])
 (.lv [4,5,6,7,8,27,28,29] (.seq (.cond (.t 29) (.skip)
 (.exit 0))
 (.lv [4,5,6,7,8,27,28] (.seq (.block 1 (.seq (.reg none [⟨some 30,.mov (.t 28),none⟩,⟨some 9,.mov (.t 30),none⟩])
 (.lv [4,5,6,7,8,9,27,28] (.seq (.reg none [⟨some 10,.mov (.k (.int .u32 0)),none⟩])
 (.lv [4,5,6,7,8,9,10,27,28] (.seq (.seq (.reg none [⟨some 31,.mov (.t 9),none⟩,⟨some 32,.mov (.t 6),none⟩,⟨some 33,.lenf (.t 32),none⟩,⟨some 34,.bin .lt (.t 31) (.t 33),none⟩])
 (.lv [4,5,6,7,8,9,10,27,28,34] (.cond (.t 34) (.lv [4,5,6,7,8,9,27,28] (.reg none [⟨some 35,.mov (.t 6),none⟩,⟨some 36,.mov (.t 9),none⟩,⟨some 37,.iaddrf 1 (.t 35) (.t 36),none⟩,⟨some 38,.ldf false 1 (.t 37),none⟩,⟨some 10,.mov (.t 38),none⟩]))
 (.skip))))
 (.lv [4,5,6,7,8,9,10,27,28] (.reg none [⟨some 40,.mov (.t 7),none⟩,⟨some 41,.mov (.t 9),none⟩,⟨some 42,.mov (.t 5),none⟩,⟨some 43,.mov (.t 9),none⟩,⟨some 44,.iaddrf 1 (.t 42) (.t 43),none⟩,⟨some 45,.ldf false 1 (.t 44),none⟩,⟨some 46,.mov (.t 10),none⟩,⟨some 47,.mov (.t 8),none⟩,⟨some 48,.callP 158 [.t 45,.t 46,.t 47],none⟩,⟨some 39,.mov (.t 48),none⟩,⟨some 49,.ext (.t 39) 0,none⟩,⟨some 50,.ext (.t 39) 1,none⟩,⟨some 51,.iaddr 1 (.t 40) (.t 41),none⟩,⟨none,.st 1 (.t 51) (.t 49),none⟩,⟨some 8,.mov (.t 50),none⟩]))))))))
 (.lv [4,5,6,7,8,27,28] (.reg none [⟨some 52,.bin .add (.t 28) (.k (.int .i64 1)),none⟩,⟨some 28,.mov (.t 52),none⟩]))))))
def k151_0:IR:=
 .seq (.reg none [⟨some 53,.mov (.t 7),none⟩,⟨some 54,.mov (.t 5),none⟩,⟨some 55,.lenf (.t 54),none⟩,⟨some 56,.mov (.t 8),none⟩,⟨some 57,.iaddr 1 (.t 53) (.t 55),none⟩,⟨none,.st 1 (.t 57) (.t 56),none⟩])
 (.lv [4,7] (.seq (.reg none [⟨some 58,.mov (.t 7),none⟩,⟨some 59,.callF 139 [.t 58],none⟩,⟨none,.st 1 (.t 4) (.t 59),none⟩])
 (.ret)))
def c151:IR:=
 .seq (.reg none [⟨some 2,.box 55 1 (.t 0),none⟩,⟨some 3,.box 55 1 (.t 1),none⟩,⟨some 4,.alloc 55 [.nilsl 154 1],none⟩])
 (.lv [2,3,4] (.seq (.reg (some [0,1,2,3,4,5]) [⟨some 11,.faddr 0 (.t 2),none⟩,⟨some 12,.ld false 1 (.t 11),none⟩,⟨some 13,.faddr 0 (.t 3),none⟩,⟨some 14,.ld false 1 (.t 13),none⟩,⟨some 5,.mov (.t 12),none⟩,⟨some 6,.mov (.t 14),none⟩])
 (.lv [4,5,6] (.seq (.seq (.reg none [⟨some 15,.mov (.t 5),none⟩,⟨some 16,.lenf (.t 15),none⟩,⟨some 17,.mov (.t 6),none⟩,⟨some 18,.lenf (.t 17),none⟩,⟨some 19,.bin .lt (.t 16) (.t 18),none⟩])
 (.lv [4,5,6,19] (.cond (.t 19) (.lv [4,5,6] (.reg none [⟨some 20,.mov (.t 6),none⟩,⟨some 21,.mov (.t 5),none⟩,⟨some 5,.mov (.t 20),none⟩,⟨some 6,.mov (.t 21),none⟩]))
 (.skip))))
 (.lv [4,5,6] (.seq (.reg none [⟨some 22,.mov (.t 5),none⟩,⟨some 23,.lenf (.t 22),none⟩,⟨some 24,.bin .add (.t 23) (.k (.int .i64 1)),none⟩,⟨some 25,.mk 154 4 [.int .u32 0] (.t 24),none⟩,⟨some 7,.mov (.t 25),none⟩])
 (.lv [4,5,6,7] (.seq (.reg none [⟨some 8,.mov (.k (.int .u32 0)),none⟩])
 (.lv [4,5,6,7,8] (.seq (.seq (.reg none [⟨some 26,.mov (.t 5),none⟩,⟨some 27,.lenf (.t 26),none⟩,⟨some 28,.mov (.k (.int .i64 0)),none⟩])
 (.lv [4,5,6,7,8,27,28] (.block 0 (.loop [4,5,6,7,8,27,28] (some (5,[])) b151_0))))
 k151_0))))))))))
def i151:IFn:=⟨2,60,c151,[.c 4 true 1],.pure⟩
def c152:IR:=
 .seq (.reg none [⟨some 1,.box 55 1 (.t 0),none⟩,⟨some 2,.mov (.k (.int .u64 0)),none⟩,⟨some 3,.mov (.k (.bool false)),none⟩])
 (.lv [1] (.seq (.seq (.reg none [⟨some 4,.faddr 0 (.t 1),none⟩,⟨some 5,.ld false 1 (.t 4),none⟩,⟨some 6,.lenf (.t 5),none⟩])
 (.lv [1,6] (.block 0 (.seq (.reg none [⟨some 8,.bin .eq (.t 6) (.k (.int .i64 0)),none⟩,⟨some 7,.mov (.t 8),none⟩])
 (.lv [1,6,7] (.cond (.t 7) (.lv [] (.seq (.reg none [⟨some 2,.mov (.k (.int .u64 0)),none⟩,⟨some 3,.mov (.k (.bool true)),none⟩])
 (.ret)))
 (.lv [1,6] (.seq (.reg none [⟨some 10,.bin .eq (.t 6) (.k (.int .i64 1)),none⟩,⟨some 9,.mov (.t 10),none⟩])
 (.lv [1,6,9] (.cond (.t 9) (.lv [1] (.seq (.reg none [⟨some 11,.faddr 0 (.t 1),none⟩,⟨some 12,.ld false 1 (.t 11),none⟩,⟨some 13,.iaddrf 1 (.t 12) (.k (.int .i64 0)),none⟩,⟨some 14,.ldf false 1 (.t 13),none⟩,⟨some 15,.conv .u64 (.t 14),none⟩,⟨some 2,.mov (.t 15),none⟩,⟨some 3,.mov (.k (.bool true)),none⟩])
 (.ret)))
 (.lv [1,6] (.seq (.reg none [⟨some 17,.bin .eq (.t 6) (.k (.int .i64 2)),none⟩,⟨some 16,.mov (.t 17),none⟩])
 (.lv [1,16] (.cond (.t 16) (.lv [1] (.seq (.reg (some [0,1,2,3,4,5,6,7,8,9,10,11,12,13]) [⟨some 18,.faddr 0 (.t 1),none⟩,⟨some 19,.ld false 1 (.t 18),none⟩,⟨some 20,.iaddrf 1 (.t 19) (.k (.int .i64 0)),none⟩,⟨some 21,.ldf false 1 (.t 20),none⟩,⟨some 22,.conv .u64 (.t 21),none⟩,⟨some 23,.faddr 0 (.t 1),none⟩,⟨some 24,.ld false 1 (.t 23),none⟩,⟨some 25,.iaddrf 1 (.t 24) (.k (.int .i64 1)),none⟩,⟨some 26,.ldf false 1 (.t 25),none⟩,⟨some 27,.conv .u64 (.t 26),none⟩,⟨some 28,.bin .shl (.t 27) (.k (.int .u64 32)),none⟩,⟨some 29,.bin .or (.t 22) (.t 28),none⟩,⟨some 2,.mov (.t 29),none⟩,⟨some 3,.mov (.k (.bool true)),none⟩])
 (.ret)))
 (.skip)))))))))))))))
 (.lv [] (.seq (.reg none [⟨some 2,.mov (.k (.int .u64 0)),none⟩,⟨some 3,.mov (.k (.bool false)),none⟩])
 (.ret)))))
def i152:IFn:=⟨1,30,c152,[.t 2,.t 3],.pure⟩
def b153_1:IR:=
 .seq (.seq (.reg none [⟨some 94,.mov (.t 16),none⟩,⟨some 95,.bin .ge (.t 94) (.k (.int .u64 4294967296)),none⟩,⟨some 96,.mov (.t 95),none⟩,⟨some 97,.mov (.t 16),(some (96,false))⟩,⟨some 98,.mov (.t 13),(some (96,false))⟩,⟨some 99,.bin .mul (.t 97) (.t 98),(some (96,false))⟩,⟨some 100,.mov (.t 17),(some (96,false))⟩,⟨some 101,.bin .shl (.t 100) (.k (.int .u64 32)),(some (96,false))⟩,⟨some 102,.mov (.t 8),(some (96,false))⟩,⟨some 103,.mov (.t 14),(some (96,false))⟩,⟨some 104,.mov (.t 9),(some (96,false))⟩,⟨some 105,.bin .add (.t 103) (.t 104),(some (96,false))⟩,⟨some 106,.bin .sub (.t 105) (.k (.int .i64 2)),(some (96,false))⟩,⟨some 107,.iaddr 1 (.t 102) (.t 106),(some (96,false))⟩,⟨some 108,.ld false 1 (.t 107),(some (96,false))⟩,⟨some 109,.conv .u64 (.t 108),(some (96,false))⟩,⟨some 110,.bin .or (.t 101) (.t 109),(some (96,false))⟩,⟨some 111,.bin .gt (.t 99) (.t 110),(some (96,false))⟩,⟨some 112,.pick (.t 96) (.k (.bool true)) (.t 111),none⟩])
 (.lv [4,5,6,7,8,9,11,12,13,14,16,17,112] (.cond (.t 112) (.skip)
 (.exit 2))))
 (.lv [4,5,6,7,8,9,11,12,13,14,16,17] (.block 3 (.seq (.reg none [⟨some 113,.mov (.t 16),none⟩,⟨some 114,.bin .sub (.t 113) (.k (.int .u64 1)),none⟩,⟨some 16,.mov (.t 114),none⟩])
 (.lv [4,5,6,7,8,9,11,12,13,14,16,17] (.seq (.reg none [⟨some 115,.mov (.t 17),none⟩,⟨some 116,.mov (.t 12),none⟩,⟨some 117,.bin .add (.t 115) (.t 116),none⟩,⟨some 17,.mov (.t 117),none⟩])
 (.lv [4,5,6,7,8,9,11,12,13,14,16,17] (.seq (.reg none [⟨some 118,.mov (.t 17),none⟩,⟨some 119,.bin .ge (.t 118) (.k (.int .u64 4294967296)),none⟩])
 (.lv [4,5,6,7,8,9,11,12,13,14,16,17,119] (.cond (.t 119) (.exit 2)
 (.skip))))))))))
def k153_0:IR:=
 .seq (.seq (.reg none [⟨some 120,.mov (.t 8),none⟩,⟨some 121,.mov (.t 14),none⟩,⟨some 122,.mov (.t 14),none⟩,⟨some 123,.mov (.t 9),none⟩,⟨some 124,.bin .add (.t 122) (.t 123),none⟩,⟨some 125,.bin .add (.t 124) (.k (.int .i64 1)),none⟩,⟨some 126,.cut 1 (.t 120) (some (.t 121)) (some (.t 125)),none⟩,⟨some 127,.mov (.t 7),none⟩,⟨some 128,.mov (.t 16),none⟩,⟨some 129,.callM 161 [.t 126,.t 127,.t 128],none⟩])
 (.lv [4,5,6,7,8,9,11,12,13,14,16,129] (.cond (.t 129) (.lv [4,5,6,7,8,9,11,12,13,14,16] (.seq (.reg none [⟨some 130,.mov (.t 16),none⟩,⟨some 131,.bin .sub (.t 130) (.k (.int .u64 1)),none⟩,⟨some 16,.mov (.t 131),none⟩])
 (.lv [4,5,6,7,8,9,11,12,13,14,16] (.reg none [⟨some 132,.mov (.t 8),none⟩,⟨some 133,.mov (.t 14),none⟩,⟨some 134,.mov (.t 14),none⟩,⟨some 135,.mov (.t 9),none⟩,⟨some 136,.bin .add (.t 134) (.t 135),none⟩,⟨some 137,.bin .add (.t 136) (.k (.int .i64 1)),none⟩,⟨some 138,.cut 1 (.t 132) (some (.t 133)) (some (.t 137)),none⟩,⟨some 139,.mov (.t 7),none⟩,⟨some 140,.callM 162 [.t 138,.t 139],none⟩]))))
 (.skip))))
 (.lv [4,5,6,7,8,9,11,12,13,14,16] (.reg none [⟨some 141,.mov (.t 11),none⟩,⟨some 142,.mov (.t 14),none⟩,⟨some 143,.mov (.t 16),none⟩,⟨some 144,.conv .u32 (.t 143),none⟩,⟨some 145,.iaddr 1 (.t 141) (.t 142),none⟩,⟨none,.st 1 (.t 145) (.t 144),none⟩]))
def k153_1:IR:=
 .reg none [⟨some 69,.mov (.t 14),none⟩,⟨some 70,.bin .sub (.t 69) (.k (.int .i64 1)),none⟩,⟨some 14,.mov (.t 70),none⟩]
def b153_0:IR:=
 .seq (.seq (.reg none [⟨some 67,.mov (.t 14),none⟩,⟨some 68,.bin .ge (.t 67) (.k (.int .i64 0)),none⟩])
 (.lv [4,5,6,7,8,9,11,12,13,14,68] (.cond (.t 68) (.skip)
 (.exit 0))))
 (.lv [4,5,6,7,8,9,11,12,13,14] (.seq (.block 1 (.seq (.reg (some [0,1,2,3,4,5,6,7,8,9,10,11,12,13,14,15,16,17]) [⟨some 71,.mov (.t 8),none⟩,⟨some 72,.mov (.t 14),none⟩,⟨some 73,.mov (.t 9),none⟩,⟨some 74,.bin .add (.t 72) (.t 73),none⟩,⟨some 75,.iaddr 1 (.t 71) (.t 74),none⟩,⟨some 76,.ld false 1 (.t 75),none⟩,⟨some 77,.conv .u64 (.t 76),none⟩,⟨some 78,.bin .shl (.t 77) (.k (.int .u64 32)),none⟩,⟨some 79,.mov (.t 8),none⟩,⟨some 80,.mov (.t 14),none⟩,⟨some 81,.mov (.t 9),none⟩,⟨some 82,.bin .add (.t 80) (.t 81),none⟩,⟨some 83,.bin .sub (.t 82) (.k (.int .i64 1)),none⟩,⟨some 84,.iaddr 1 (.t 79) (.t 83),none⟩,⟨some 85,.ld false 1 (.t 84),none⟩,⟨some 86,.conv .u64 (.t 85),none⟩,⟨some 87,.bin .or (.t 78) (.t 86),none⟩,⟨some 15,.mov (.t 87),none⟩])
 (.lv [4,5,6,7,8,9,11,12,13,14,15] (.seq (.reg (some [0,1,2,3,4,5,6,7]) [⟨some 88,.mov (.t 15),none⟩,⟨some 89,.mov (.t 12),none⟩,⟨some 90,.bin .quo (.t 88) (.t 89),none⟩,⟨some 91,.mov (.t 15),none⟩,⟨some 92,.mov (.t 12),none⟩,⟨some 93,.bin .rem (.t 91) (.t 92),none⟩,⟨some 16,.mov (.t 90),none⟩,⟨some 17,.mov (.t 93),none⟩])
 (.lv [4,5,6,7,8,9,11,12,13,14,16,17] (.seq (.block 2 (.loop [4,5,6,7,8,9,11,12,13,14,16,17] (some (8,[])) b153_1))
 k153_0))))))
 k153_1))
def k153_2:IR:=
 .seq (.reg none [⟨some 146,.mov (.t 11),none⟩,⟨some 147,.callF 139 [.t 146],none⟩,⟨some 148,.mov (.t 8),none⟩,⟨some 149,.callF 139 [.t 148],none⟩,⟨some 150,.mov (.t 6),none⟩,⟨some 151,.callP 163 [.t 149,.t 150],none⟩,⟨none,.st 1 (.t 4) (.t 147),none⟩,⟨none,.st 1 (.t 5) (.t 151),none⟩])
 (.ret)
def c153:IR:=
 .seq (.reg none [⟨some 2,.box 55 1 (.t 0),none⟩,⟨some 3,.box 55 1 (.t 1),none⟩,⟨some 4,.alloc 55 [.nilsl 154 1],none⟩,⟨some 5,.alloc 55 [.nilsl 154 1],none⟩])
 (.lv [2,3,4,5] (.seq (.reg none [⟨some 18,.faddr 0 (.t 3),none⟩,⟨some 19,.ld false 1 (.t 18),none⟩,⟨some 20,.faddr 0 (.t 3),none⟩,⟨some 21,.ld false 1 (.t 20),none⟩,⟨some 22,.lenf (.t 21),none⟩,⟨some 23,.bin .sub (.t 22) (.k (.int .i64 1)),none⟩,⟨some 24,.iaddrf 1 (.t 19) (.t 23),none⟩,⟨some 25,.ldf false 1 (.t 24),none⟩,⟨some 26,.callP 159 [.t 25],none⟩,⟨some 6,.mov (.t 26),none⟩])
 (.lv [2,3,4,5,6] (.seq (.reg none [⟨some 27,.ld true 1 (.t 3),none⟩,⟨some 28,.mov (.t 6),none⟩,⟨some 29,.callP 160 [.t 27,.t 28],none⟩,⟨some 30,.fld false 0 1 (.t 29),none⟩,⟨some 7,.mov (.t 30),none⟩])
 (.lv [2,3,4,5,6,7] (.seq (.reg none [⟨some 31,.faddr 0 (.t 2),none⟩,⟨some 32,.ld false 1 (.t 31),none⟩,⟨some 33,.lenf (.t 32),none⟩,⟨some 34,.bin .add (.t 33) (.k (.int .i64 1)),none⟩,⟨some 35,.mk 154 4 [.int .u32 0] (.t 34),none⟩,⟨some 8,.mov (.t 35),none⟩])
 (.lv [2,3,4,5,6,7,8] (.seq (.reg none [⟨some 36,.mov (.t 8),none⟩,⟨some 37,.ld true 1 (.t 2),none⟩,⟨some 38,.mov (.t 6),none⟩,⟨some 39,.callP 160 [.t 37,.t 38],none⟩,⟨some 40,.fld false 0 1 (.t 39),none⟩,⟨some 41,.cpy 1 (.t 36) (.t 40),none⟩])
 (.lv [2,3,4,5,6,7,8] (.seq (.reg (some [0,1,2,3,4,5,6,7,8,9,10]) [⟨some 42,.mov (.t 7),none⟩,⟨some 43,.lenf (.t 42),none⟩,⟨some 44,.faddr 0 (.t 2),none⟩,⟨some 45,.ld false 1 (.t 44),none⟩,⟨some 46,.lenf (.t 45),none⟩,⟨some 47,.faddr 0 (.t 3),none⟩,⟨some 48,.ld false 1 (.t 47),none⟩,⟨some 49,.lenf (.t 48),none⟩,⟨some 50,.bin .sub (.t 46) (.t 49),none⟩,⟨some 9,.mov (.t 43),none⟩,⟨some 10,.mov (.t 50),none⟩])
 (.lv [4,5,6,7,8,9,10] (.seq (.reg none [⟨some 51,.mov (.t 10),none⟩,⟨some 52,.bin .add (.t 51) (.k (.int .i64 1)),none⟩,⟨some 53,.mk 154 4 [.int .u32 0] (.t 52),none⟩,⟨some 11,.mov (.t 53),none⟩])
 (.lv [4,5,6,7,8,9,10,11] (.seq (.reg (some [0,1,2,3,4,5,6,7,8,9,10,11,12,13]) [⟨some 54,.mov (.t 7),none⟩,⟨some 55,.mov (.t 9),none⟩,⟨some 56,.bin .sub (.t 55) (.k (.int .i64 1)),none⟩,⟨some 57,.iaddrf 1 (.t 54) (.t 56),none⟩,⟨some 58,.ldf false 1 (.t 57),none⟩,⟨some 59,.conv .u64 (.t 58),none⟩,⟨some 60,.mov (.t 7),none⟩,⟨some 61,.mov (.t 9),none⟩,⟨some 62,.bin .sub (.t 61) (.k (.int .i64 2)),none⟩,⟨some 63,.iaddrf 1 (.t 60) (.t 62),none⟩,⟨some 64,.ldf false 1 (.t 63),none⟩,⟨some 65,.conv .u64 (.t 64),none⟩,⟨some 12,.mov (.t 59),none⟩,⟨some 13,.mov (.t 65),none⟩])
 (.lv [4,5,6,7,8,9,10,11,12,13] (.seq (.seq (.reg none [⟨some 66,.mov (.t 10),none⟩,⟨some 14,.mov (.t 66),none⟩])
 (.lv [4,5,6,7,8,9,11,12,13,14] (.block 0 (.loop [4,5,6,7,8,9,11,12,13,14] (some (8,[])) b153_0))))
 k153_2))))))))))))))))
def i153:IFn:=⟨2,152,c153,[.c 4 true 1,.c 5 true 1],.pure⟩
def b154_0:IR:=
 .seq (.seq (.reg none [⟨some 12,.mov (.t 4),none⟩,⟨some 13,.bin .ge (.t 12) (.k (.int .i64 0)),none⟩])
 (.lv [0,3,4,13] (.cond (.t 13) (.skip)
 (.exit 0))))
 (.lv [0,3,4] (.seq (.block 1 (.reg none [⟨some 16,.mov (.t 3),none⟩,⟨some 17,.mov (.t 0),none⟩,⟨some 18,.mov (.t 4),none⟩,⟨some 19,.iaddrf 1 (.t 17) (.t 18),none⟩,⟨some 20,.ldf false 1 (.t 19),none⟩,⟨some 21,.bin .add (.k (.int .i64 48)) (.t 20),none⟩,⟨some 22,.conv .u8 (.t 21),none⟩,⟨some 23,.bsl 5 1 [.t 22],none⟩,⟨some 24,.app 5 1 1 (.t 16) (.t 23),none⟩,⟨some 3,.mov (.t 24),none⟩]))
 (.lv [0,3,4] (.reg none [⟨some 14,.mov (.t 4),none⟩,⟨some 15,.bin .sub (.t 14) (.k (.int .i64 1)),none⟩,⟨some 4,.mov (.t 15),none⟩]))))
def k154_0:IR:=
 .seq (.seq (.reg none [⟨some 25,.mov (.t 3),none⟩,⟨some 26,.len (.t 25),none⟩,⟨some 27,.bin .eq (.t 26) (.k (.int .i64 0)),none⟩])
 (.lv [3,27] (.cond (.t 27) (.lv [] (.seq (.reg none [⟨some 2,.mov (.k (.str ⟨#[48]⟩)),none⟩])
 (.ret)))
 (.skip))))
 (.lv [3] (.seq (.reg none [⟨some 28,.mov (.t 3),none⟩,⟨some 29,.b2s (.t 28),none⟩,⟨some 30,.callP 142 [.t 29],none⟩,⟨some 2,.mov (.t 30),none⟩])
 (.ret)))
def c154:IR:=
 .seq (.reg none [⟨some 2,.mov (.k (.str ⟨#[]⟩)),none⟩])
 (.lv [0] (.seq (.reg none [⟨some 5,.mov (.t 0),none⟩,⟨some 6,.lenf (.t 5),none⟩,⟨some 7,.bin .add (.t 6) (.k (.int .i64 1)),none⟩,⟨some 8,.mk0 5 1 1 (.t 7),none⟩,⟨some 3,.mov (.t 8),none⟩])
 (.lv [0,3] (.seq (.seq (.reg none [⟨some 9,.mov (.t 0),none⟩,⟨some 10,.lenf (.t 9),none⟩,⟨some 11,.bin .sub (.t 10) (.k (.int .i64 1)),none⟩,⟨some 4,.mov (.t 11),none⟩])
 (.lv [0,3,4] (.block 0 (.loop [0,3,4] (some (1,[])) b154_0))))
 k154_0))))
def i154:IFn:=⟨1,31,c154,[.t 2],.pure⟩
def b155_1:IR:=
 .seq (.seq (.reg none [⟨some 27,.mov (.t 7),none⟩,⟨some 28,.mov (.t 1),none⟩,⟨some 29,.callP 164 [.t 27,.t 28],none⟩,⟨some 30,.bin .ge (.t 29) (.k (.int .i64 0)),none⟩,⟨some 31,.mov (.t 30),none⟩,⟨some 32,.mov (.t 9),(some (31,true))⟩,⟨some 33,.bin .lt (.t 32) (.k (.int .i64 10)),(some (31,true))⟩,⟨some 34,.pick (.t 31) (.t 33) (.k (.bool false)),none⟩])
 (.lv [0,1,6,7,8,9,34] (.cond (.t 34) (.skip)
 (.exit 2))))
 (.lv [0,1,6,7,8,9] (.block 3 (.seq (.reg none [⟨some 35,.mov (.t 7),none⟩,⟨some 36,.mov (.t 1),none⟩,⟨some 37,.callP 165 [.t 35,.t 36],none⟩,⟨some 7,.mov (.t 37),none⟩])
 (.lv [0,1,6,7,8,9] (.reg none [⟨some 38,.mov (.t 9),none⟩,⟨some 39,.bin .add (.t 38) (.k (.int .i64 1)),none⟩,⟨some 9,.mov (.t 39),none⟩])))))
def k155_0:IR:=
 .reg none [⟨some 40,.mov (.t 6),none⟩,⟨some 41,.mov (.t 9),none⟩,⟨some 42,.bin .add (.k (.int .i64 48)) (.t 41),none⟩,⟨some 43,.conv .u8 (.t 42),none⟩,⟨some 44,.bsl 5 1 [.t 43],none⟩,⟨some 45,.app 5 1 1 (.t 40) (.t 44),none⟩,⟨some 6,.mov (.t 45),none⟩]
def k155_1:IR:=
 .reg none [⟨some 17,.mov (.t 8),none⟩,⟨some 18,.bin .add (.t 17) (.k (.int .i64 1)),none⟩,⟨some 8,.mov (.t 18),none⟩]
def b155_0:IR:=
 .seq (.seq (.reg none [⟨some 13,.mov (.t 8),none⟩,⟨some 14,.mov (.t 0),none⟩,⟨some 15,.slen (.t 14),none⟩,⟨some 16,.bin .lt (.t 13) (.t 15),none⟩])
 (.lv [0,1,6,7,8,16] (.cond (.t 16) (.skip)
 (.exit 0))))
 (.lv [0,1,6,7,8] (.seq (.block 1 (.seq (.reg none [⟨some 19,.mov (.t 7),none⟩,⟨some 20,.mov (.t 0),none⟩,⟨some 21,.mov (.t 8),none⟩,⟨some 22,.mov (.t 8),none⟩,⟨some 23,.bin .add (.t 22) (.k (.int .i64 1)),none⟩,⟨some 24,.scut (.t 20) (some (.t 21)) (some (.t 23)),none⟩,⟨some 25,.bin .add (.t 19) (.t 24),none⟩,⟨some 26,.callP 142 [.t 25],none⟩,⟨some 7,.mov (.t 26),none⟩])
 (.lv [0,1,6,7,8] (.seq (.reg none [⟨some 9,.mov (.k (.int .i64 0)),none⟩])
 (.lv [0,1,6,7,8,9] (.seq (.block 2 (.loop [0,1,6,7,8,9] (some (1,[])) b155_1))
 k155_0))))))
 k155_1))
def k155_2:IR:=
 .seq (.reg none [⟨some 46,.mov (.t 6),none⟩,⟨some 47,.b2s (.t 46),none⟩,⟨some 48,.callP 142 [.t 47],none⟩,⟨some 49,.mov (.t 7),none⟩,⟨some 4,.mov (.t 48),none⟩,⟨some 5,.mov (.t 49),none⟩])
 (.ret)
def c155:IR:=
 .seq (.reg none [⟨some 4,.mov (.k (.str ⟨#[]⟩)),none⟩,⟨some 5,.mov (.k (.str ⟨#[]⟩)),none⟩])
 (.lv [0,1] (.seq (.reg none [⟨some 10,.mov (.t 0),none⟩,⟨some 11,.slen (.t 10),none⟩,⟨some 12,.mk0 5 1 1 (.t 11),none⟩,⟨some 6,.mov (.t 12),none⟩])
 (.lv [0,1,6] (.seq (.reg none [⟨some 7,.mov (.k (.str ⟨#[48]⟩)),none⟩])
 (.lv [0,1,6,7] (.seq (.seq (.reg none [⟨some 8,.mov (.k (.int .i64 0)),none⟩])
 (.lv [0,1,6,7,8] (.block 0 (.loop [0,1,6,7,8] (some (1,[])) b155_0))))
 k155_2))))))
def i155:IFn:=⟨2,50,c155,[.t 4,.t 5],.pure⟩
def c156:IR:=
 .seq (.reg none [⟨some 1,.box 55 1 (.t 0),none⟩,⟨some 2,.mov (.k (.bool false)),none⟩])
 (.lv [1] (.seq (.reg none [⟨some 3,.faddr 0 (.t 1),none⟩,⟨some 4,.ld false 1 (.t 3),none⟩,⟨some 5,.lenf (.t 4),none⟩,⟨some 6,.bin .eq (.t 5) (.k (.int .i64 1)),none⟩,⟨some 7,.mov (.t 6),none⟩,⟨some 8,.faddr 0 (.t 1),(some (7,true))⟩,⟨some 9,.ld false 1 (.t 8),(some (7,true))⟩,⟨some 10,.iaddrf 1 (.t 9) (.k (.int .i64 0)),(some (7,true))⟩,⟨some 11,.ldf false 1 (.t 10),(some (7,true))⟩,⟨some 12,.bin .eq (.t 11) (.k (.int .u32 1)),(some (7,true))⟩,⟨some 13,.pick (.t 7) (.t 12) (.k (.bool false)),none⟩,⟨some 2,.mov (.t 13),none⟩])
 (.ret)))
def i156:IFn:=⟨1,14,c156,[.t 2],.pure⟩
def c157:IR:=
 .seq (.reg none [⟨some 6,.mov (.k (.int .u32 0)),none⟩,⟨some 7,.mov (.k (.int .u32 0)),none⟩])
 (.lv [0,1,2] (.seq (.reg none [⟨some 8,.mov (.t 0),none⟩,⟨some 9,.mov (.t 1),none⟩,⟨some 10,.bin .sub (.t 8) (.t 9),none⟩,⟨some 11,.mov (.t 2),none⟩,⟨some 12,.bin .sub (.t 10) (.t 11),none⟩,⟨some 6,.mov (.t 12),none⟩])
 (.lv [0,1,6] (.seq (.reg none [⟨some 13,.mov (.t 0),none⟩,⟨some 14,.com (.t 13),none⟩,⟨some 15,.mov (.t 1),none⟩,⟨some 16,.bin .and (.t 14) (.t 15),none⟩,⟨some 17,.mov (.t 0),none⟩,⟨some 18,.mov (.t 1),none⟩,⟨some 19,.bin .xor (.t 17) (.t 18),none⟩,⟨some 20,.com (.t 19),none⟩,⟨some 21,.mov (.t 6),none⟩,⟨some 22,.bin .and (.t 20) (.t 21),none⟩,⟨some 23,.bin .or (.t 16) (.t 22),none⟩,⟨some 24,.bin .shr (.t 23) (.k (.int .u64 31)),none⟩,⟨some 7,.mov (.t 24),none⟩])
 (.ret)))))
def i157:IFn:=⟨3,25,c157,[.t 6,.t 7],.pure⟩
def c158:IR:=
 .seq (.reg none [⟨some 6,.mov (.k (.int .u32 0)),none⟩,⟨some 7,.mov (.k (.int .u32 0)),none⟩])
 (.lv [0,1,2] (.seq (.reg none [⟨some 9,.mov (.t 0),none⟩,⟨some 10,.conv .u64 (.t 9),none⟩,⟨some 11,.mov (.t 1),none⟩,⟨some 12,.conv .u64 (.t 11),none⟩,⟨some 13,.bin .add (.t 10) (.t 12),none⟩,⟨some 14,.mov (.t 2),none⟩,⟨some 15,.conv .u64 (.t 14),none⟩,⟨some 16,.bin .add (.t 13) (.t 15),none⟩,⟨some 8,.mov (.t 16),none⟩])
 (.lv [8] (.seq (.reg none [⟨some 17,.mov (.t 8),none⟩,⟨some 18,.conv .u32 (.t 17),none⟩,⟨some 6,.mov (.t 18),none⟩])
 (.lv [6,8] (.seq (.reg none [⟨some 19,.mov (.t 8),none⟩,⟨some 20,.bin .shr (.t 19) (.k (.int .u64 32)),none⟩,⟨some 21,.conv .u32 (.t 20),none⟩,⟨some 7,.mov (.t 21),none⟩])
 (.ret)))))))
def i158:IFn:=⟨3,22,c158,[.t 6,.t 7],.pure⟩
def c159:IR:=
 .seq (.reg none [⟨some 2,.mov (.k (.int .i64 0)),none⟩])
 (.lv [0] (.seq (.reg none [⟨some 3,.mov (.t 0),none⟩,⟨some 4,.callP 166 [.t 3],none⟩,⟨some 5,.bin .sub (.k (.int .i64 32)) (.t 4),none⟩,⟨some 2,.mov (.t 5),none⟩])
 (.ret)))
def i159:IFn:=⟨1,6,c159,[.t 2],.pure⟩
def b160_0:IR:=
 .seq (.reg none [⟨some 36,.bin .lt (.t 35) (.t 34),none⟩])
 (.lv [4,5,6,7,33,34,35,36] (.seq (.cond (.t 36) (.skip)
 (.exit 0))
 (.lv [4,5,6,7,33,34,35] (.seq (.block 1 (.seq (.reg none [⟨some 37,.mov (.t 35),none⟩,⟨some 38,.iaddrf 1 (.t 33) (.t 35),none⟩,⟨some 39,.ldf false 1 (.t 38),none⟩,⟨some 8,.mov (.t 37),none⟩,⟨some 9,.mov (.t 39),none⟩])
 (.lv [4,5,6,7,8,9,33,34,35] (.seq (.reg none [⟨some 40,.mov (.t 9),none⟩,⟨some 41,.conv .u64 (.t 40),none⟩,⟨some 42,.mov (.t 6),none⟩,⟨some 43,.bin .shl (.t 41) (.t 42),none⟩,⟨some 10,.mov (.t 43),none⟩])
 (.lv [4,5,6,7,8,10,33,34,35] (.seq (.reg none [⟨some 44,.mov (.t 7),none⟩,⟨some 45,.mov (.t 8),none⟩,⟨some 46,.mov (.t 5),none⟩,⟨some 47,.bin .add (.t 45) (.t 46),none⟩,⟨some 48,.iaddr 1 (.t 44) (.t 47),none⟩,⟨some 49,.ld false 1 (.t 48),none⟩,⟨some 50,.mov (.t 10),none⟩,⟨some 51,.conv .u32 (.t 50),none⟩,⟨some 52,.bin .or (.t 49) (.t 51),none⟩,⟨some 53,.iaddr 1 (.t 44) (.t 47),none⟩,⟨none,.st 1 (.t 53) (.t 52),none⟩])
 (.lv [4,5,6,7,8,10,33,34,35] (.reg none [⟨some 54,.mov (.t 7),none⟩,⟨some 55,.mov (.t 8),none⟩,⟨some 56,.mov (.t 5),none⟩,⟨some 57,.bin .add (.t 55) (.t 56),none⟩,⟨some 58,.bin .add (.t 57) (.k (.int .i64 1)),none⟩,⟨some 59,.mov (.t 10),none⟩,⟨some 60,.bin .shr (.t 59) (.k (.int .u64 32)),none⟩,⟨some 61,.conv .u32 (.t 60),none⟩,⟨some 62,.iaddr 1 (.t 54) (.t 58),none⟩,⟨none,.st 1 (.t 62) (.t 61),none⟩]))))))))
 (.lv [4,5,6,7,33,34,35] (.reg none [⟨some 63,.bin .add (.t 35) (.k (.int .i64 1)),none⟩,⟨some 35,.mov (.t 63),none⟩]))))))
def k160_0:IR:=
 .seq (.reg none [⟨some 64,.mov (.t 7),none⟩,⟨some 65,.callF 139 [.t 64],none⟩,⟨none,.st 1 (.t 4) (.t 65),none⟩])
 (.ret)
def c160:IR:=
 .seq (.reg none [⟨some 2,.box 55 1 (.t 0),none⟩,⟨some 4,.alloc 55 [.nilsl 154 1],none⟩])
 (.lv [1,2,4] (.seq (.seq (.reg none [⟨some 11,.mov (.t 1),none⟩,⟨some 12,.bin .le (.t 11) (.k (.int .i64 0)),none⟩,⟨some 13,.mov (.t 12),none⟩,⟨some 14,.faddr 0 (.t 2),(some (13,false))⟩,⟨some 15,.ld false 1 (.t 14),(some (13,false))⟩,⟨some 16,.lenf (.t 15),(some (13,false))⟩,⟨some 17,.bin .eq (.t 16) (.k (.int .i64 0)),(some (13,false))⟩,⟨some 18,.pick (.t 13) (.k (.bool true)) (.t 17),none⟩])
 (.lv [1,2,4,18] (.cond (.t 18) (.lv [2,4] (.seq (.reg none [⟨some 19,.ld true 1 (.t 2),none⟩,⟨none,.st 1 (.t 4) (.t 19),none⟩])
 (.ret)))
 (.skip))))
 (.lv [1,2,4] (.seq (.reg none [⟨some 20,.mov (.t 1),none⟩,⟨some 21,.bin .quo (.t 20) (.k (.int .i64 32)),none⟩,⟨some 22,.mov (.t 1),none⟩,⟨some 23,.bin .rem (.t 22) (.k (.int .i64 32)),none⟩,⟨some 24,.conv .u64 (.t 23),none⟩,⟨some 5,.mov (.t 21),none⟩,⟨some 6,.mov (.t 24),none⟩])
 (.lv [2,4,5,6] (.seq (.reg none [⟨some 25,.faddr 0 (.t 2),none⟩,⟨some 26,.ld false 1 (.t 25),none⟩,⟨some 27,.lenf (.t 26),none⟩,⟨some 28,.mov (.t 5),none⟩,⟨some 29,.bin .add (.t 27) (.t 28),none⟩,⟨some 30,.bin .add (.t 29) (.k (.int .i64 1)),none⟩,⟨some 31,.mk 154 4 [.int .u32 0] (.t 30),none⟩,⟨some 7,.mov (.t 31),none⟩])
 (.lv [2,4,5,6,7] (.seq (.seq (.reg none [⟨some 32,.faddr 0 (.t 2),none⟩,⟨some 33,.ld false 1 (.t 32),none⟩,⟨some 34,.lenf (.t 33),none⟩,⟨some 35,.mov (.k (.int .i64 0)),none⟩])
 (.lv [4,5,6,7,33,34,35] (.block 0 (.loop [4,5,6,7,33,34,35] (some (4,[])) b160_0))))
 k160_0))))))))
def i160:IFn:=⟨2,66,c160,[.c 4 true 1],.pure⟩
def b161_0:IR:=
 .seq (.reg none [⟨some 15,.bin .lt (.t 14) (.t 13),none⟩])
 (.lv [0,1,2,7,8,12,13,14,15] (.seq (.cond (.t 15) (.skip)
 (.exit 0))
 (.lv [0,1,2,7,8,12,13,14] (.seq (.block 1 (.seq (.reg none [⟨some 16,.mov (.t 14),none⟩,⟨some 17,.iaddr 1 (.t 12) (.t 14),none⟩,⟨some 18,.ld false 1 (.t 17),none⟩,⟨some 9,.mov (.t 16),none⟩,⟨some 10,.mov (.t 18),none⟩])
 (.lv [0,1,2,7,8,9,10,12,13,14] (.seq (.reg none [⟨some 19,.mov (.t 2),none⟩,⟨some 20,.mov (.t 10),none⟩,⟨some 21,.conv .u64 (.t 20),none⟩,⟨some 22,.bin .mul (.t 19) (.t 21),none⟩,⟨some 23,.mov (.t 7),none⟩,⟨some 24,.bin .add (.t 22) (.t 23),none⟩,⟨some 11,.mov (.t 24),none⟩])
 (.lv [0,1,2,8,9,11,12,13,14] (.seq (.reg none [⟨some 25,.mov (.t 11),none⟩,⟨some 26,.bin .shr (.t 25) (.k (.int .u64 32)),none⟩,⟨some 7,.mov (.t 26),none⟩])
 (.lv [0,1,2,7,8,9,11,12,13,14] (.reg none [⟨some 28,.mov (.t 0),none⟩,⟨some 29,.mov (.t 9),none⟩,⟨some 30,.mov (.t 0),none⟩,⟨some 31,.mov (.t 9),none⟩,⟨some 32,.iaddr 1 (.t 30) (.t 31),none⟩,⟨some 33,.ld false 1 (.t 32),none⟩,⟨some 34,.mov (.t 11),none⟩,⟨some 35,.conv .u32 (.t 34),none⟩,⟨some 36,.mov (.t 8),none⟩,⟨some 37,.callR 157 [.t 33,.t 35,.t 36],none⟩,⟨some 27,.mov (.t 37),none⟩,⟨some 38,.ext (.t 27) 0,none⟩,⟨some 39,.ext (.t 27) 1,none⟩,⟨some 40,.iaddr 1 (.t 28) (.t 29),none⟩,⟨none,.st 1 (.t 40) (.t 38),none⟩,⟨some 8,.mov (.t 39),none⟩]))))))))
 (.lv [0,1,2,7,8,12,13,14] (.reg none [⟨some 41,.bin .add (.t 14) (.k (.int .i64 1)),none⟩,⟨some 14,.mov (.t 41),none⟩]))))))
def k161_0:IR:=
 .seq (.reg none [⟨some 43,.mov (.t 0),none⟩,⟨some 44,.mov (.t 1),none⟩,⟨some 45,.len (.t 44),none⟩,⟨some 46,.mov (.t 0),none⟩,⟨some 47,.mov (.t 1),none⟩,⟨some 48,.len (.t 47),none⟩,⟨some 49,.iaddr 1 (.t 46) (.t 48),none⟩,⟨some 50,.ld false 1 (.t 49),none⟩,⟨some 51,.mov (.t 7),none⟩,⟨some 52,.conv .u32 (.t 51),none⟩,⟨some 53,.mov (.t 8),none⟩,⟨some 54,.callR 157 [.t 50,.t 52,.t 53],none⟩,⟨some 42,.mov (.t 54),none⟩,⟨some 55,.ext (.t 42) 0,none⟩,⟨some 56,.ext (.t 42) 1,none⟩,⟨some 57,.iaddr 1 (.t 43) (.t 45),none⟩,⟨none,.st 1 (.t 57) (.t 55),none⟩,⟨some 8,.mov (.t 56),none⟩])
 (.lv [8] (.seq (.reg none [⟨some 58,.mov (.t 8),none⟩,⟨some 59,.bin .eq (.t 58) (.k (.int .u32 1)),none⟩,⟨some 6,.mov (.t 59),none⟩])
 (.ret)))
def c161:IR:=
 .seq (.reg none [⟨some 6,.mov (.k (.bool false)),none⟩])
 (.lv [0,1,2] (.seq (.reg none [⟨some 7,.mov (.k (.int .u64 0)),none⟩,⟨some 8,.mov (.k (.int .u32 0)),none⟩])
 (.lv [0,1,2,7,8] (.seq (.seq (.reg none [⟨some 12,.mov (.t 1),none⟩,⟨some 13,.len (.t 12),none⟩,⟨some 14,.mov (.k (.int .i64 0)),none⟩])
 (.lv [0,1,2,7,8,12,13,14] (.block 0 (.loop [0,1,2,7,8,12,13,14] none b161_0))))
 k161_0))))
def i161:IFn:=⟨3,60,c161,[.t 6],.ref⟩
def b162_0:IR:=
 .seq (.reg none [⟨some 10,.bin .lt (.t 9) (.t 8),none⟩])
 (.lv [0,1,4,7,8,9,10] (.seq (.cond (.t 10) (.skip)
 (.exit 0))
 (.lv [0,1,4,7,8,9] (.seq (.block 1 (.seq (.reg none [⟨some 11,.mov (.t 9),none⟩,⟨some 12,.iaddr 1 (.t 7) (.t 9),none⟩,⟨some 13,.ld false 1 (.t 12),none⟩,⟨some 5,.mov (.t 11),none⟩,⟨some 6,.mov (.t 13),none⟩])
 (.lv [0,1,4,5,6,7,8,9] (.reg none [⟨some 15,.mov (.t 0),none⟩,⟨some 16,.mov (.t 5),none⟩,⟨some 17,.mov (.t 0),none⟩,⟨some 18,.mov (.t 5),none⟩,⟨some 19,.iaddr 1 (.t 17) (.t 18),none⟩,⟨some 20,.ld false 1 (.t 19),none⟩,⟨some 21,.mov (.t 6),none⟩,⟨some 22,.mov (.t 4),none⟩,⟨some 23,.callR 158 [.t 20,.t 21,.t 22],none⟩,⟨some 14,.mov (.t 23),none⟩,⟨some 24,.ext (.t 14) 0,none⟩,⟨some 25,.ext (.t 14) 1,none⟩,⟨some 26,.iaddr 1 (.t 15) (.t 16),none⟩,⟨none,.st 1 (.t 26) (.t 24),none⟩,⟨some 4,.mov (.t 25),none⟩]))))
 (.lv [0,1,4,7,8,9] (.reg none [⟨some 27,.bin .add (.t 9) (.k (.int .i64 1)),none⟩,⟨some 9,.mov (.t 27),none⟩]))))))
def k162_0:IR:=
 .reg none [⟨some 28,.mov (.t 0),none⟩,⟨some 29,.mov (.t 1),none⟩,⟨some 30,.len (.t 29),none⟩,⟨some 31,.iaddr 1 (.t 28) (.t 30),none⟩,⟨some 32,.ld false 1 (.t 31),none⟩,⟨some 33,.mov (.t 4),none⟩,⟨some 34,.bin .add (.t 32) (.t 33),none⟩,⟨some 35,.iaddr 1 (.t 28) (.t 30),none⟩,⟨none,.st 1 (.t 35) (.t 34),none⟩]
def c162:IR:=
 .seq (.reg none [⟨some 4,.mov (.k (.int .u32 0)),none⟩])
 (.lv [0,1,4] (.seq (.seq (.reg none [⟨some 7,.mov (.t 1),none⟩,⟨some 8,.len (.t 7),none⟩,⟨some 9,.mov (.k (.int .i64 0)),none⟩])
 (.lv [0,1,4,7,8,9] (.block 0 (.loop [0,1,4,7,8,9] none b162_0))))
 k162_0))
def i162:IFn:=⟨2,36,c162,[],.ref⟩
def b163_0:IR:=
 .seq (.reg none [⟨some 33,.bin .lt (.t 32) (.t 31),none⟩])
 (.lv [2,4,5,6,7,31,32,33] (.seq (.cond (.t 33) (.skip)
 (.exit 0))
 (.lv [2,4,5,6,7,31,32] (.seq (.block 1 (.seq (.reg none [⟨some 34,.mov (.t 32),none⟩,⟨some 8,.mov (.t 34),none⟩])
 (.lv [2,4,5,6,7,8,31,32] (.seq (.reg none [⟨some 35,.faddr 0 (.t 2),none⟩,⟨some 36,.ld false 1 (.t 35),none⟩,⟨some 37,.mov (.t 8),none⟩,⟨some 38,.mov (.t 5),none⟩,⟨some 39,.bin .add (.t 37) (.t 38),none⟩,⟨some 40,.iaddrf 1 (.t 36) (.t 39),none⟩,⟨some 41,.ldf false 1 (.t 40),none⟩,⟨some 42,.conv .u64 (.t 41),none⟩,⟨some 9,.mov (.t 42),none⟩])
 (.lv [2,4,5,6,7,8,9,31,32] (.seq (.seq (.reg none [⟨some 43,.mov (.t 8),none⟩,⟨some 44,.mov (.t 5),none⟩,⟨some 45,.bin .add (.t 43) (.t 44),none⟩,⟨some 46,.bin .add (.t 45) (.k (.int .i64 1)),none⟩,⟨some 47,.faddr 0 (.t 2),none⟩,⟨some 48,.ld false 1 (.t 47),none⟩,⟨some 49,.lenf (.t 48),none⟩,⟨some 50,.bin .lt (.t 46) (.t 49),none⟩])
 (.lv [2,4,5,6,7,8,9,31,32,50] (.cond (.t 50) (.lv [2,4,5,6,7,8,9,31,32] (.reg none [⟨some 51,.mov (.t 9),none⟩,⟨some 52,.faddr 0 (.t 2),none⟩,⟨some 53,.ld false 1 (.t 52),none⟩,⟨some 54,.mov (.t 8),none⟩,⟨some 55,.mov (.t 5),none⟩,⟨some 56,.bin .add (.t 54) (.t 55),none⟩,⟨some 57,.bin .add (.t 56) (.k (.int .i64 1)),none⟩,⟨some 58,.iaddrf 1 (.t 53) (.t 57),none⟩,⟨some 59,.ldf false 1 (.t 58),none⟩,⟨some 60,.conv .u64 (.t 59),none⟩,⟨some 61,.bin .shl (.t 60) (.k (.int .u64 32)),none⟩,⟨some 62,.bin .or (.t 51) (.t 61),none⟩,⟨some 9,.mov (.t 62),none⟩]))
 (.skip))))
 (.lv [2,4,5,6,7,8,9,31,32] (.reg none [⟨some 63,.mov (.t 7),none⟩,⟨some 64,.mov (.t 8),none⟩,⟨some 65,.mov (.t 9),none⟩,⟨some 66,.mov (.t 6),none⟩,⟨some 67,.bin .shr (.t 65) (.t 66),none⟩,⟨some 68,.conv .u32 (.t 67),none⟩,⟨some 69,.iaddr 1 (.t 63) (.t 64),none⟩,⟨none,.st 1 (.t 69) (.t 68),none⟩]))))))))
 (.lv [2,4,5,6,7,31,32] (.reg none [⟨some 70,.bin .add (.t 32) (.k (.int .i64 1)),none⟩,⟨some 32,.mov (.t 70),none⟩]))))))
def k163_0:IR:=
 .seq (.reg none [⟨some 71,.mov (.t 7),none⟩,⟨some 72,.callF 139 [.t 71],none⟩,⟨none,.st 1 (.t 4) (.t 72),none⟩])
 (.ret)
def c163:IR:=
 .seq (.reg none [⟨some 2,.box 55 1 (.t 0),none⟩,⟨some 4,.alloc 55 [.nilsl 154 1],none⟩])
 (.lv [1,2,4] (.seq (.seq (.reg none [⟨some 10,.mov (.t 1),none⟩,⟨some 11,.bin .le (.t 10) (.k (.int .i64 0)),none⟩])
 (.lv [1,2,4,11] (.cond (.t 11) (.lv [2,4] (.seq (.reg none [⟨some 12,.ld true 1 (.t 2),none⟩,⟨none,.st 1 (.t 4) (.t 12),none⟩])
 (.ret)))
 (.skip))))
 (.lv [1,2,4] (.seq (.reg none [⟨some 13,.mov (.t 1),none⟩,⟨some 14,.bin .quo (.t 13) (.k (.int .i64 32)),none⟩,⟨some 15,.mov (.t 1),none⟩,⟨some 16,.bin .rem (.t 15) (.k (.int .i64 32)),none⟩,⟨some 17,.conv .u64 (.t 16),none⟩,⟨some 5,.mov (.t 14),none⟩,⟨some 6,.mov (.t 17),none⟩])
 (.lv [2,4,5,6] (.seq (.seq (.reg none [⟨some 18,.mov (.t 5),none⟩,⟨some 19,.faddr 0 (.t 2),none⟩,⟨some 20,.ld false 1 (.t 19),none⟩,⟨some 21,.lenf (.t 20),none⟩,⟨some 22,.bin .ge (.t 18) (.t 21),none⟩])
 (.lv [2,4,5,6,22] (.cond (.t 22) (.lv [4] (.seq (.reg none [⟨some 23,.build [.nilsl 154 1] [],none⟩,⟨none,.st 1 (.t 4) (.t 23),none⟩])
 (.ret)))
 (.skip))))
 (.lv [2,4,5,6] (.seq (.reg none [⟨some 24,.faddr 0 (.t 2),none⟩,⟨some 25,.ld false 1 (.t 24),none⟩,⟨some 26,.lenf (.t 25),none⟩,⟨some 27,.mov (.t 5),none⟩,⟨some 28,.bin .sub (.t 26) (.t 27),none⟩,⟨some 29,.mk 154 4 [.int .u32 0] (.t 28),none⟩,⟨some 7,.mov (.t 29),none⟩])
 (.lv [2,4,5,6,7] (.seq (.seq (.reg none [⟨some 30,.mov (.t 7),none⟩,⟨some 31,.len (.t 30),none⟩,⟨some 32,.mov (.k (.int .i64 0)),none⟩])
 (.lv [2,4,5,6,7,31,32] (.block 0 (.loop [2,4,5,6,7,31,32] (some (4,[])) b163_0))))
 k163_0))))))))))
def i163:IFn:=⟨2,73,c163,[.c 4 true 1],.pure⟩
def c164:IR:=
 .seq (.reg none [⟨some 4,.mov (.k (.int .i64 0)),none⟩])
 (.lv [0,1] (.seq (.seq (.reg none [⟨some 5,.mov (.t 0),none⟩,⟨some 6,.slen (.t 5),none⟩,⟨some 7,.mov (.t 1),none⟩,⟨some 8,.slen (.t 7),none⟩,⟨some 9,.bin .ne (.t 6) (.t 8),none⟩])
 (.lv [0,1,9] (.cond (.t 9) (.lv [0,1] (.seq (.seq (.reg none [⟨some 10,.mov (.t 0),none⟩,⟨some 11,.slen (.t 10),none⟩,⟨some 12,.mov (.t 1),none⟩,⟨some 13,.slen (.t 12),none⟩,⟨some 14,.bin .lt (.t 11) (.t 13),none⟩])
 (.lv [14] (.cond (.t 14) (.lv [] (.seq (.reg none [⟨some 4,.mov (.k (.int .i64 (-1))),none⟩])
 (.ret)))
 (.skip))))
 (.lv [] (.seq (.reg none [⟨some 4,.mov (.k (.int .i64 1)),none⟩])
 (.ret)))))
 (.skip))))
 (.lv [0,1] (.seq (.seq (.reg none [⟨some 15,.mov (.t 0),none⟩,⟨some 16,.mov (.t 1),none⟩,⟨some 17,.bin .eq (.t 15) (.t 16),none⟩])
 (.lv [0,1,17] (.cond (.t 17) (.lv [] (.seq (.reg none [⟨some 4,.mov (.k (.int .i64 0)),none⟩])
 (.ret)))
 (.skip))))
 (.lv [0,1] (.seq (.seq (.reg none [⟨some 18,.mov (.t 0),none⟩,⟨some 19,.mov (.t 1),none⟩,⟨some 20,.bin .lt (.t 18) (.t 19),none⟩])
 (.lv [20] (.cond (.t 20) (.lv [] (.seq (.reg none [⟨some 4,.mov (.k (.int .i64 (-1))),none⟩])
 (.ret)))
 (.skip))))
 (.lv [] (.seq (.reg none [⟨some 4,.mov (.k (.int .i64 1)),none⟩])
 (.ret)))))))))
def i164:IFn:=⟨2,21,c164,[.t 4],.pure⟩
def b165_0:IR:=
 .seq (.seq (.reg none [⟨some 9,.mov (.t 7),none⟩,⟨some 10,.mov (.t 0),none⟩,⟨some 11,.slen (.t 10),none⟩,⟨some 12,.bin .lt (.t 9) (.t 11),none⟩])
 (.lv [0,1,5,6,7,12] (.cond (.t 12) (.skip)
 (.exit 0))))
 (.lv [0,1,5,6,7] (.seq (.block 1 (.seq (.reg none [⟨some 15,.mov (.t 0),none⟩,⟨some 16,.mov (.t 7),none⟩,⟨some 17,.callP 167 [.t 15,.t 16],none⟩,⟨some 18,.mov (.t 1),none⟩,⟨some 19,.mov (.t 7),none⟩,⟨some 20,.callP 167 [.t 18,.t 19],none⟩,⟨some 21,.bin .sub (.t 17) (.t 20),none⟩,⟨some 22,.mov (.t 6),none⟩,⟨some 23,.bin .sub (.t 21) (.t 22),none⟩,⟨some 8,.mov (.t 23),none⟩])
 (.lv [0,1,5,7,8] (.seq (.reg none [⟨some 6,.mov (.k (.int .i64 0)),none⟩])
 (.lv [0,1,5,6,7,8] (.seq (.seq (.reg none [⟨some 24,.mov (.t 8),none⟩,⟨some 25,.bin .lt (.t 24) (.k (.int .i64 0)),none⟩])
 (.lv [0,1,5,6,7,8,25] (.cond (.t 25) (.lv [0,1,5,7,8] (.seq (.reg none [⟨some 26,.mov (.t 8),none⟩,⟨some 27,.bin .add (.t 26) (.k (.int .i64 10)),none⟩,⟨some 8,.mov (.t 27),none⟩])
 (.lv [0,1,5,7,8] (.reg none [⟨some 6,.mov (.k (.int .i64 1)),none⟩]))))
 (.skip))))
 (.lv [0,1,5,6,7,8] (.reg none [⟨some 28,.mov (.t 5),none⟩,⟨some 29,.mov (.t 8),none⟩,⟨some 30,.bsl 3 1 [.t 29],none⟩,⟨some 31,.app 3 1 8 (.t 28) (.t 30),none⟩,⟨some 5,.mov (.t 31),none⟩]))))))))
 (.lv [0,1,5,6,7] (.reg none [⟨some 13,.mov (.t 7),none⟩,⟨some 14,.bin .add (.t 13) (.k (.int .i64 1)),none⟩,⟨some 7,.mov (.t 14),none⟩]))))
def k165_0:IR:=
 .seq (.reg none [⟨some 32,.mov (.t 5),none⟩,⟨some 33,.callR 154 [.t 32],none⟩,⟨some 4,.mov (.t 33),none⟩])
 (.ret)
def c165:IR:=
 .seq (.reg none [⟨some 4,.mov (.k (.str ⟨#[]⟩)),none⟩])
 (.lv [0,1] (.seq (.reg none [⟨some 5,.newnil 3 1,none⟩])
 (.lv [0,1,5] (.seq (.reg none [⟨some 6,.mov (.k (.int .i64 0)),none⟩])
 (.lv [0,1,5,6] (.seq (.seq (.reg none [⟨some 7,.mov (.k (.int .i64 0)),none⟩])
 (.lv [0,1,5,6,7] (.block 0 (.loop [0,1,5,6,7] (some (1,[])) b165_0))))
 k165_0))))))
def i165:IFn:=⟨2,34,c165,[.t 4],.pure⟩
def c166:IR:=
 .seq (.reg none [⟨some 2,.mov (.k (.int .i64 0)),none⟩])
 (.lv [0,2] (.seq (.seq (.reg none [⟨some 3,.mov (.t 0),none⟩,⟨some 4,.bin .ge (.t 3) (.k (.int .u32 65536)),none⟩])
 (.lv [0,2,4] (.cond (.t 4) (.lv [0] (.seq (.reg none [⟨some 5,.mov (.t 0),none⟩,⟨some 6,.bin .shr (.t 5) (.k (.int .u64 16)),none⟩,⟨some 0,.mov (.t 6),none⟩])
 (.lv [0] (.reg none [⟨some 2,.mov (.k (.int .i64 16)),none⟩]))))
 (.skip))))
 (.lv [0,2] (.seq (.seq (.reg none [⟨some 7,.mov (.t 0),none⟩,⟨some 8,.bin .ge (.t 7) (.k (.int .u32 256)),none⟩])
 (.lv [0,2,8] (.cond (.t 8) (.lv [0,2] (.seq (.reg none [⟨some 9,.mov (.t 0),none⟩,⟨some 10,.bin .shr (.t 9) (.k (.int .u64 8)),none⟩,⟨some 0,.mov (.t 10),none⟩])
 (.lv [0,2] (.reg none [⟨some 11,.mov (.t 2),none⟩,⟨some 12,.bin .add (.t 11) (.k (.int .i64 8)),none⟩,⟨some 2,.mov (.t 12),none⟩]))))
 (.skip))))
 (.lv [0,2] (.seq (.reg none [⟨some 13,.mov (.t 2),none⟩,⟨some 14,.mov (.t 0),none⟩,⟨some 15,.conv .u8 (.t 14),none⟩,⟨some 16,.sidx (.k (.str ⟨#[0,1,2,2,3,3,3,3,4,4,4,4,4,4,4,4,5,5,5,5,5,5,5,5,5,5,5,5,5,5,5,5,6,6,6,6,6,6,6,6,6,6,6,6,6,6,6,6,6,6,6,6,6,6,6,6,6,6,6,6,6,6,6,6,7,7,7,7,7,7,7,7,7,7,7,7,7,7,7,7,7,7,7,7,7,7,7,7,7,7,7,7,7,7,7,7,7,7,7,7,7,7,7,7,7,7,7,7,7,7,7,7,7,7,7,7,7,7,7,7,7,7,7,7,7,7,7,7,8,8,8,8,8,8,8,8,8,8,8,8,8,8,8,8,8,8,8,8,8,8,8,8,8,8,8,8,8,8,8,8,8,8,8,8,8,8,8,8,8,8,8,8,8,8,8,8,8,8,8,8,8,8,8,8,8,8,8,8,8,8,8,8,8,8,8,8,8,8,8,8,8,8,8,8,8,8,8,8,8,8,8,8,8,8,8,8,8,8,8,8,8,8,8,8,8,8,8,8,8,8,8,8,8,8,8,8,8,8,8,8,8,8,8,8,8,8,8,8,8,8,8,8,8,8,8,8]⟩)) (.t 15),none⟩,⟨some 17,.conv .i64 (.t 16),none⟩,⟨some 18,.bin .add (.t 13) (.t 17),none⟩,⟨some 2,.mov (.t 18),none⟩])
 (.ret)))))))
def i166:IFn:=⟨1,19,c166,[.t 2],.pure⟩
def c167:IR:=
 .seq (.reg none [⟨some 4,.mov (.k (.int .i64 0)),none⟩])
 (.lv [0,1] (.seq (.seq (.reg none [⟨some 5,.mov (.t 1),none⟩,⟨some 6,.mov (.t 0),none⟩,⟨some 7,.slen (.t 6),none⟩,⟨some 8,.bin .ge (.t 5) (.t 7),none⟩])
 (.lv [0,1,8] (.cond (.t 8) (.lv [] (.seq (.reg none [⟨some 4,.mov (.k (.int .i64 0)),none⟩])
 (.ret)))
 (.skip))))
 (.lv [0,1] (.seq (.reg none [⟨some 9,.mov (.t 0),none⟩,⟨some 10,.mov (.t 0),none⟩,⟨some 11,.slen (.t 10),none⟩,⟨some 12,.bin .sub (.t 11) (.k (.int .i64 1)),none⟩,⟨some 13,.mov (.t 1),none⟩,⟨some 14,.bin .sub (.t 12) (.t 13),none⟩,⟨some 15,.sidx (.t 9) (.t 14),none⟩,⟨some 16,.bin .sub (.t 15) (.k (.int .u8 48)),none⟩,⟨some 17,.conv .i64 (.t 16),none⟩,⟨some 4,.mov (.t 17),none⟩])
 (.ret)))))
def i167:IFn:=⟨2,18,c167,[.t 4],.pure⟩
def tab0:Nat→Option IFn
  | 4=>some i4
  | 11=>some i11
  | 12=>some i12
  | 16=>some i16
  | 17=>some i17
  | 18=>some i18
  | 19=>some i19
  | 20=>some i20
  | 21=>some i21
  | 22=>some i22
  | 23=>some i23
  | 24=>some i24
  | 25=>some i25
  | 26=>some i26
  | 33=>some i33
  | 35=>some i35
  | 41=>some i41
  | 43=>some i43
  | 44=>some i44
  | 52=>some i52
  | 53=>some i53
  | 54=>some i54
  | 58=>some i58
  | 59=>some i59
  | 60=>some i60
  | 61=>some i61
  | 62=>some i62
  | 63=>some i63
  | 64=>some i64
  | 65=>some i65
  | 66=>some i66
  | 67=>some i67
  | 68=>some i68
  | 69=>some i69
  | 70=>some i70
  | 71=>some i71
  | 72=>some i72
  | 73=>some i73
  | 74=>some i74
  | 75=>some i75
  | 76=>some i76
  | 77=>some i77
  | 78=>some i78
  | 79=>some i79
  | 83=>some i83
  | 85=>some i85
  | 86=>some i86
  | 91=>some i91
  | _=>none
def tab1:Nat→Option IFn
  | 101=>some i101
  | 107=>some i107
  | 108=>some i108
  | 109=>some i109
  | 113=>some i113
  | 114=>some i114
  | 115=>some i115
  | 116=>some i116
  | 117=>some i117
  | 119=>some i119
  | 120=>some i120
  | 121=>some i121
  | 122=>some i122
  | 123=>some i123
  | 124=>some i124
  | 128=>some i128
  | 133=>some i133
  | 134=>some i134
  | 135=>some i135
  | 136=>some i136
  | 137=>some i137
  | 139=>some i139
  | 140=>some i140
  | 141=>some i141
  | 142=>some i142
  | 143=>some i143
  | 144=>some i144
  | 145=>some i145
  | 147=>some i147
  | 148=>some i148
  | 151=>some i151
  | 152=>some i152
  | 153=>some i153
  | 154=>some i154
  | 155=>some i155
  | 156=>some i156
  | 157=>some i157
  | 158=>some i158
  | 159=>some i159
  | 160=>some i160
  | 161=>some i161
  | 162=>some i162
  | 163=>some i163
  | 164=>some i164
  | 165=>some i165
  | 166=>some i166
  | 167=>some i167
  | _=>none
def tab (f:Nat):Option IFn:=match tab0 f with|some i=>some i|none=>tab1 f
end Go.Proofs.Ytlejgleocnemoaa.I
