/- The texts VIr1 VIr, one behind the other. Conditions: each text's own. -/
import Derived.Test.YtlejgleocnemoabGreatG00
import Derived.Test.YtlejgleocnemoabGreatG03
namespace Go.Proofs.YtlejgleocnemoabGreat.I
open Go Go.V
def c91:IR:=
 .seq (.reg none [⟨some 1,.box 66 3 (.t 0),none⟩,⟨some 2,.alloc 57 [.nilsl 162 1,.bool false,.nilsl 162 1],none⟩,⟨some 3,.mov (.k (.bool false)),none⟩])
 (.lv [1,2] (.seq (.reg none [⟨some 10,.faddr 1 (.t 1),none⟩,⟨some 11,.ld false 1 (.t 10),none⟩,⟨some 12,.callP 128 [.t 11],none⟩,⟨some 9,.mov (.t 12),none⟩,⟨some 13,.ext (.t 9) 0,none⟩,⟨some 14,.ext (.t 9) 1,none⟩,⟨some 4,.alloc 53 [.nilsl 162 1],none⟩,⟨none,.st 1 (.t 4) (.t 13),none⟩,⟨some 5,.mov (.t 14),none⟩])
 (.lv [1,2,4,5] (.seq (.reg none [⟨some 16,.faddr 2 (.t 1),none⟩,⟨some 17,.ld false 1 (.t 16),none⟩,⟨some 18,.callP 128 [.t 17],none⟩,⟨some 15,.mov (.t 18),none⟩,⟨some 19,.ext (.t 15) 0,none⟩,⟨some 20,.ext (.t 15) 1,none⟩,⟨some 6,.alloc 53 [.nilsl 162 1],none⟩,⟨none,.st 1 (.t 6) (.t 19),none⟩,⟨some 7,.mov (.t 20),none⟩])
 (.lv [1,2,4,5,6,7] (.seq (.seq (.reg none [⟨some 21,.mov (.t 5),none⟩,⟨some 22,.not (.t 21),none⟩,⟨some 23,.mov (.t 22),none⟩,⟨some 24,.mov (.t 7),(some (23,false))⟩,⟨some 25,.not (.t 24),(some (23,false))⟩,⟨some 26,.pick (.t 23) (.k (.bool true)) (.t 25),none⟩])
 (.lv [1,2,4,6,26] (.cond (.t 26) (.lv [2] (.seq (.reg none [⟨some 27,.build [.nilsl 162 1,.bool false,.nilsl 162 1] [],none⟩,⟨none,.st 3 (.t 2) (.t 27),none⟩,⟨some 3,.mov (.k (.bool false)),none⟩])
 (.ret)))
 (.skip))))
 (.lv [1,2,4,6] (.seq (.reg (some [0,1,2,4,3,5,6,7,8,9,10,11,12]) [⟨some 29,.faddr 0 (.t 1),none⟩,⟨some 30,.ld false 1 (.t 29),none⟩,⟨some 31,.ld true 1 (.t 4),none⟩,⟨some 33,.ld true 1 (.t 6),none⟩,⟨some 32,.callF 109 [.t 30,.t 31],none⟩,⟨some 34,.callF 109 [.k (.bool false),.t 33],none⟩,⟨some 35,.callP 122 [.t 32,.t 34],none⟩,⟨some 28,.mov (.t 35),none⟩,⟨some 36,.ext (.t 28) 0,none⟩,⟨some 37,.ext (.t 28) 1,none⟩,⟨some 8,.alloc 57 [.nilsl 162 1,.bool false,.nilsl 162 1],none⟩,⟨none,.st 3 (.t 8) (.t 36),none⟩,⟨some 5,.mov (.t 37),none⟩])
 (.lv [1,2,5,8] (.seq (.reg (some [0,1,2,3,4,5,6,7,8,9]) [⟨some 38,.ld true 3 (.t 8),none⟩,⟨some 39,.mov (.t 5),none⟩,⟨some 40,.mov (.t 39),none⟩,⟨some 41,.ld true 3 (.t 8),(some (40,true))⟩,⟨some 42,.callR 75 [.t 41],(some (40,true))⟩,⟨some 43,.ld true 3 (.t 1),(some (40,true))⟩,⟨some 44,.bins .eq [0,2,2] (.t 42) (.t 43),(some (40,true))⟩,⟨some 45,.pick (.t 40) (.t 44) (.k (.bool false)),none⟩,⟨none,.sta [1] 3 (.t 2) (.t 38),none⟩,⟨some 3,.mov (.t 45),none⟩])
 (.ret)))))))))))
def i91:IFn:=⟨1,46,c91,[.c 2 true 3,.t 3],.pure⟩
def b92_0:IR:=
 .seq (.seq (.reg none [⟨some 12,.mov (.t 10),none⟩,⟨some 13,.ld true 4 (.t 4),none⟩,⟨some 14,.callP 47 [.t 13],none⟩,⟨some 15,.bin .lt (.t 12) (.t 14),none⟩])
 (.lv [1,3,4,6,8,9,10,15] (.cond (.t 15) (.skip)
 (.exit 0))))
 (.lv [1,3,4,6,8,9,10] (.seq (.block 1 (.reg (some [0,1,2,3,4,5,6,7,8,9,10,11,12,13,14,15,16,17,18,19,20,21,22,23]) [⟨some 18,.ld true 3 (.t 9),none⟩,⟨some 19,.faddr 3 (.t 4),none⟩,⟨some 20,.ld false 1 (.t 19),none⟩,⟨some 21,.mov (.t 10),none⟩,⟨some 22,.ld true 4 (.t 4),none⟩,⟨some 23,.callP 48 [.t 22],none⟩,⟨some 24,.bin .mul (.t 21) (.t 23),none⟩,⟨some 25,.mov (.t 1),none⟩,⟨some 26,.bin .add (.t 24) (.t 25),none⟩,⟨some 27,.iaddrf 3 (.t 20) (.t 26),none⟩,⟨some 28,.ldf true 3 (.t 27),none⟩,⟨some 29,.faddr 3 (.t 6),none⟩,⟨some 30,.ld false 1 (.t 29),none⟩,⟨some 31,.mov (.t 10),none⟩,⟨some 32,.ld true 4 (.t 6),none⟩,⟨some 33,.callP 48 [.t 32],none⟩,⟨some 34,.bin .mul (.t 31) (.t 33),none⟩,⟨some 35,.mov (.t 3),none⟩,⟨some 36,.bin .add (.t 34) (.t 35),none⟩,⟨some 37,.iaddrf 3 (.t 30) (.t 36),none⟩,⟨some 38,.ldf true 3 (.t 37),none⟩,⟨some 39,.callP 131 [.t 28,.t 38],none⟩,⟨some 40,.callP 130 [.t 18,.t 39],none⟩,⟨none,.st 3 (.t 9) (.t 40),none⟩]))
 (.lv [1,3,4,6,8,9,10] (.reg none [⟨some 16,.mov (.t 10),none⟩,⟨some 17,.bin .add (.t 16) (.k (.int .i64 1)),none⟩,⟨some 10,.mov (.t 17),none⟩]))))
def k92_0:IR:=
 .seq (.reg none [⟨some 41,.ld true 3 (.t 9),none⟩,⟨none,.st 3 (.t 8) (.t 41),none⟩])
 (.ret)
def c92:IR:=
 .seq (.reg none [⟨some 4,.box 26 4 (.t 0),none⟩,⟨some 6,.box 26 4 (.t 2),none⟩,⟨some 8,.alloc 66 [.bool false,.str ⟨#[]⟩,.str ⟨#[]⟩],none⟩])
 (.lv [1,3,4,6,8] (.seq (.reg none [⟨some 11,.callP 129 [],none⟩,⟨some 9,.alloc 66 [.bool false,.str ⟨#[]⟩,.str ⟨#[]⟩],none⟩,⟨none,.st 3 (.t 9) (.t 11),none⟩])
 (.lv [1,3,4,6,8,9] (.seq (.seq (.reg none [⟨some 10,.mov (.k (.int .i64 0)),none⟩])
 (.lv [1,3,4,6,8,9,10] (.block 0 (.loop [1,3,4,6,8,9,10] (some (4,[])) b92_0))))
 k92_0))))
def i92:IFn:=⟨4,42,c92,[.c 8 true 3],.pure⟩
def c93:IR:=
 .seq (.reg none [⟨some 2,.box 66 3 (.t 0),none⟩,⟨some 3,.box 66 3 (.t 1),none⟩,⟨some 4,.alloc 66 [.bool false,.str ⟨#[]⟩,.str ⟨#[]⟩],none⟩,⟨some 5,.mov (.k (.bool false)),none⟩])
 (.lv [2,3,4] (.seq (.reg (some [0,1,2,3,4,5,6,7,8,9,10,11,12,13,14]) [⟨some 6,.ld true 3 (.t 2),none⟩,⟨some 7,.callP 134 [.t 6],none⟩,⟨some 8,.ld true 3 (.t 3),none⟩,⟨some 9,.callP 135 [.t 8],none⟩,⟨some 10,.callP 133 [.t 7,.t 9],none⟩,⟨some 11,.ld true 3 (.t 2),none⟩,⟨some 12,.callP 135 [.t 11],none⟩,⟨some 13,.ld true 3 (.t 3),none⟩,⟨some 14,.callP 134 [.t 13],none⟩,⟨some 15,.callP 133 [.t 12,.t 14],none⟩,⟨some 16,.callP 132 [.t 10,.t 15],none⟩,⟨some 17,.ext (.t 16) 0,none⟩,⟨some 18,.ext (.t 16) 1,none⟩,⟨none,.st 3 (.t 4) (.t 17),none⟩,⟨some 5,.mov (.t 18),none⟩])
 (.ret)))
def i93:IFn:=⟨2,19,c93,[.c 4 true 3,.t 5],.pure⟩
def b94_0:IR:=
 .seq (.seq (.reg none [⟨some 7,.mov (.t 6),none⟩,⟨some 8,.mov (.t 0),none⟩,⟨some 9,.lenf (.t 8),none⟩,⟨some 10,.bin .lt (.t 7) (.t 9),none⟩])
 (.lv [0,3,5,6,10] (.cond (.t 10) (.skip)
 (.exit 0))))
 (.lv [0,3,5,6] (.seq (.block 1 (.reg (some [0,1,2,3,4,5,6,7,8,9]) [⟨some 13,.mov (.t 5),none⟩,⟨some 14,.mov (.t 0),none⟩,⟨some 15,.mov (.t 6),none⟩,⟨some 16,.iaddrf 3 (.t 14) (.t 15),none⟩,⟨some 17,.ldf true 3 (.t 16),none⟩,⟨some 18,.ld true 3 (.t 3),none⟩,⟨some 19,.callP 131 [.t 17,.t 18],none⟩,⟨some 20,.bsl 66 3 [.t 19],none⟩,⟨some 21,.app 66 3 40 (.t 13) (.t 20),none⟩,⟨some 5,.mov (.t 21),none⟩]))
 (.lv [0,3,5,6] (.reg none [⟨some 11,.mov (.t 6),none⟩,⟨some 12,.bin .add (.t 11) (.k (.int .i64 1)),none⟩,⟨some 6,.mov (.t 12),none⟩]))))
def k94_0:IR:=
 .seq (.reg none [⟨some 22,.mov (.t 5),none⟩,⟨some 4,.mov (.t 22),none⟩])
 (.ret)
def c94:IR:=
 .seq (.reg none [⟨some 3,.box 66 3 (.t 1),none⟩,⟨some 4,.newnil 66 3,none⟩])
 (.lv [0,3] (.seq (.reg none [⟨some 5,.newnil 66 3,none⟩])
 (.lv [0,3,5] (.seq (.seq (.reg none [⟨some 6,.mov (.k (.int .i64 0)),none⟩])
 (.lv [0,3,5,6] (.block 0 (.loop [0,3,5,6] (some (3,[])) b94_0))))
 k94_0))))
def i94:IFn:=⟨2,23,c94,[.t 4],.own⟩
def b95_0:IR:=
 .seq (.seq (.reg none [⟨some 7,.mov (.t 6),none⟩,⟨some 8,.mov (.t 0),none⟩,⟨some 9,.lenf (.t 8),none⟩,⟨some 10,.bin .lt (.t 7) (.t 9),none⟩])
 (.lv [0,1,5,6,10] (.cond (.t 10) (.skip)
 (.exit 0))))
 (.lv [0,1,5,6] (.seq (.block 1 (.reg (some [0,1,2,3,4,5,6,7,8,9,10,11,12]) [⟨some 13,.mov (.t 5),none⟩,⟨some 14,.mov (.t 0),none⟩,⟨some 15,.mov (.t 6),none⟩,⟨some 16,.iaddrf 3 (.t 14) (.t 15),none⟩,⟨some 17,.ldf true 3 (.t 16),none⟩,⟨some 18,.mov (.t 1),none⟩,⟨some 19,.mov (.t 6),none⟩,⟨some 20,.iaddrf 3 (.t 18) (.t 19),none⟩,⟨some 21,.ldf true 3 (.t 20),none⟩,⟨some 22,.callP 130 [.t 17,.t 21],none⟩,⟨some 23,.bsl 66 3 [.t 22],none⟩,⟨some 24,.app 66 3 40 (.t 13) (.t 23),none⟩,⟨some 5,.mov (.t 24),none⟩]))
 (.lv [0,1,5,6] (.reg none [⟨some 11,.mov (.t 6),none⟩,⟨some 12,.bin .add (.t 11) (.k (.int .i64 1)),none⟩,⟨some 6,.mov (.t 12),none⟩]))))
def k95_0:IR:=
 .seq (.reg none [⟨some 25,.mov (.t 5),none⟩,⟨some 4,.mov (.t 25),none⟩])
 (.ret)
def c95:IR:=
 .seq (.reg none [⟨some 4,.newnil 66 3,none⟩])
 (.lv [0,1] (.seq (.reg none [⟨some 5,.newnil 66 3,none⟩])
 (.lv [0,1,5] (.seq (.seq (.reg none [⟨some 6,.mov (.k (.int .i64 0)),none⟩])
 (.lv [0,1,5,6] (.block 0 (.loop [0,1,5,6] (some (2,[])) b95_0))))
 k95_0))))
def i95:IFn:=⟨2,26,c95,[.t 4],.own⟩
def c96:IR:=
 .seq (.reg none [⟨some 1,.box 66 3 (.t 0),none⟩,⟨some 2,.alloc 66 [.bool false,.str ⟨#[]⟩,.str ⟨#[]⟩],none⟩])
 (.lv [1,2] (.seq (.reg none [⟨some 3,.faddr 0 (.t 1),none⟩,⟨some 4,.ld false 1 (.t 3),none⟩,⟨some 5,.not (.t 4),none⟩,⟨some 6,.mov (.t 5),none⟩,⟨some 7,.faddr 1 (.t 1),(some (6,true))⟩,⟨some 8,.ld false 1 (.t 7),(some (6,true))⟩,⟨some 9,.bin .ne (.t 8) (.k (.str ⟨#[48]⟩)),(some (6,true))⟩,⟨some 10,.pick (.t 6) (.t 9) (.k (.bool false)),none⟩,⟨some 11,.faddr 0 (.t 1),none⟩,⟨none,.st 1 (.t 11) (.t 10),none⟩])
 (.lv [1,2] (.seq (.reg none [⟨some 12,.ld true 3 (.t 1),none⟩,⟨none,.st 3 (.t 2) (.t 12),none⟩])
 (.ret)))))
def i96:IFn:=⟨1,13,c96,[.c 2 true 3],.pure⟩
def c97:IR:=
 .seq (.reg none [⟨some 1,.box 66 3 (.t 0),none⟩,⟨some 2,.mov (.k (.int .i64 0)),none⟩])
 (.lv [1] (.seq (.reg (some [0,1,2,3,4,5,6,7]) [⟨some 5,.faddr 1 (.t 1),none⟩,⟨some 6,.ld false 1 (.t 5),none⟩,⟨some 7,.callP 136 [.t 6],none⟩,⟨some 8,.faddr 2 (.t 1),none⟩,⟨some 9,.ld false 1 (.t 8),none⟩,⟨some 10,.callP 136 [.t 9],none⟩,⟨some 3,.mov (.t 7),none⟩,⟨some 4,.mov (.t 10),none⟩])
 (.lv [3,4] (.seq (.seq (.reg none [⟨some 11,.mov (.t 3),none⟩,⟨some 12,.mov (.t 4),none⟩,⟨some 13,.bin .gt (.t 11) (.t 12),none⟩])
 (.lv [3,4,13] (.cond (.t 13) (.lv [3] (.seq (.reg none [⟨some 14,.mov (.t 3),none⟩,⟨some 2,.mov (.t 14),none⟩])
 (.ret)))
 (.skip))))
 (.lv [4] (.seq (.reg none [⟨some 15,.mov (.t 4),none⟩,⟨some 2,.mov (.t 15),none⟩])
 (.ret)))))))
def i97:IFn:=⟨1,16,c97,[.t 2],.pure⟩
def c98:IR:=
 .seq (.reg none [⟨some 2,.alloc 55 [.nilsl 162 1,.bool false],none⟩])
 (.lv [0,2] (.seq (.seq (.reg none [⟨some 3,.mov (.t 0),none⟩,⟨some 4,.bin .lt (.t 3) (.k (.int .i64 0)),none⟩])
 (.lv [0,2,4] (.cond (.t 4) (.lv [0,2] (.seq (.reg none [⟨some 5,.mov (.t 0),none⟩,⟨some 6,.bin .add (.t 5) (.k (.int .i64 1)),none⟩,⟨some 7,.neg (.t 6),none⟩,⟨some 8,.conv .u64 (.t 7),none⟩,⟨some 9,.bin .add (.t 8) (.k (.int .u64 1)),none⟩,⟨some 10,.callP 99 [.t 9],none⟩,⟨some 11,.build [.nilsl 162 1,.bool false] [(0,1,.t 10),(1,1,.k (.bool true))],none⟩,⟨none,.st 2 (.t 2) (.t 11),none⟩])
 (.ret)))
 (.skip))))
 (.lv [0,2] (.seq (.reg none [⟨some 12,.mov (.t 0),none⟩,⟨some 13,.conv .u64 (.t 12),none⟩,⟨some 14,.callP 99 [.t 13],none⟩,⟨some 15,.build [.nilsl 162 1,.bool false] [(0,1,.t 14),(1,1,.k (.bool false))],none⟩,⟨none,.st 2 (.t 2) (.t 15),none⟩])
 (.ret)))))
def i98:IFn:=⟨1,16,c98,[.c 2 true 2],.pure⟩
def c99:IR:=
 .seq (.reg none [⟨some 2,.alloc 53 [.nilsl 162 1],none⟩])
 (.lv [0,2] (.seq (.reg none [⟨some 3,.mov (.t 0),none⟩,⟨some 4,.conv .u32 (.t 3),none⟩,⟨some 5,.mov (.t 0),none⟩,⟨some 6,.bin .shr (.t 5) (.k (.int .u64 32)),none⟩,⟨some 7,.conv .u32 (.t 6),none⟩,⟨some 8,.bsl 162 1 [.t 4,.t 7],none⟩,⟨some 9,.callF 137 [.t 8],none⟩,⟨none,.st 1 (.t 2) (.t 9),none⟩])
 (.ret)))
def i99:IFn:=⟨1,10,c99,[.c 2 true 1],.pure⟩
def b100_0:IR:=
 .seq (.reg none [⟨some 12,.bin .lt (.t 11) (.t 10),none⟩])
 (.lv [0,3,9,10,11,12] (.seq (.cond (.t 12) (.skip)
 (.exit 0))
 (.lv [0,3,9,10,11] (.seq (.block 1 (.seq (.reg none [⟨some 13,.iaddrf 1 (.t 9) (.t 11),none⟩,⟨some 14,.ldf false 1 (.t 13),none⟩,⟨some 5,.mov (.t 14),none⟩])
 (.lv [0,3,5,9,10,11] (.seq (.reg none [⟨some 15,.mov (.t 3),none⟩,⟨some 16,.mov (.t 5),none⟩,⟨some 17,.lenf (.t 16),none⟩,⟨some 18,.bin .add (.t 15) (.t 17),none⟩,⟨some 3,.mov (.t 18),none⟩])
 (.lv [0,3,9,10,11] (.seq (.reg none [⟨some 19,.mov (.t 3),none⟩,⟨some 20,.bin .lt (.t 19) (.k (.int .i64 0)),none⟩])
 (.lv [0,3,9,10,11,20] (.cond (.t 20) (.lv [0,3,9,10,11] (.reg none [⟨some 21,.bad,none⟩,⟨none,.bad,none⟩]))
 (.skip)))))))))
 (.lv [0,3,9,10,11] (.reg none [⟨some 22,.bin .add (.t 11) (.k (.int .i64 1)),none⟩,⟨some 11,.mov (.t 22),none⟩]))))))
def b100_1:IR:=
 .seq (.reg none [⟨some 28,.bin .lt (.t 27) (.t 26),none⟩])
 (.lv [6,25,26,27,28] (.seq (.cond (.t 28) (.skip)
 (.exit 2))
 (.lv [6,25,26,27] (.seq (.block 3 (.seq (.reg none [⟨some 29,.iaddrf 1 (.t 25) (.t 27),none⟩,⟨some 30,.ldf false 1 (.t 29),none⟩,⟨some 8,.mov (.t 30),none⟩])
 (.lv [6,8,25,26,27] (.reg none [⟨some 31,.mov (.t 6),none⟩,⟨some 32,.mov (.t 8),none⟩,⟨some 33,.app 3 1 8 (.t 31) (.t 32),none⟩,⟨some 6,.mov (.t 33),none⟩]))))
 (.lv [6,25,26,27] (.reg none [⟨some 34,.bin .add (.t 27) (.k (.int .i64 1)),none⟩,⟨some 27,.mov (.t 34),none⟩]))))))
def k100_0:IR:=
 .seq (.reg none [⟨some 35,.mov (.t 6),none⟩,⟨some 2,.mov (.t 35),none⟩])
 (.ret)
def k100_1:IR:=
 .seq (.reg none [⟨some 23,.mov (.t 3),none⟩,⟨some 24,.callG 138 [.k (.nilsl 3 1),.t 23],none⟩,⟨some 6,.mov (.t 24),none⟩])
 (.lv [0,6] (.seq (.seq (.reg none [⟨some 25,.mov (.t 0),none⟩,⟨some 26,.lenf (.t 25),none⟩,⟨some 27,.mov (.k (.int .i64 0)),none⟩])
 (.lv [6,25,26,27] (.block 2 (.loop [6,25,26,27] (some (2,[])) b100_1))))
 k100_0))
def c100:IR:=
 .seq (.reg none [⟨some 2,.newnil 3 1,none⟩])
 (.lv [0] (.seq (.reg none [⟨some 3,.mov (.k (.int .i64 0)),none⟩])
 (.lv [0,3] (.seq (.seq (.reg none [⟨some 9,.mov (.t 0),none⟩,⟨some 10,.lenf (.t 9),none⟩,⟨some 11,.mov (.k (.int .i64 0)),none⟩])
 (.lv [0,3,9,10,11] (.block 0 (.loop [0,3,9,10,11] (some (1,[])) b100_0))))
 k100_1))))
def i100:IFn:=⟨1,36,c100,[.t 2],.pure⟩
def c107:IR:=
 .seq (.reg none [⟨some 1,.box 57 3 (.t 0),none⟩,⟨some 2,.mov (.k (.bool false)),none⟩])
 (.lv [1] (.seq (.reg none [⟨some 3,.ld true 3 (.t 1),none⟩,⟨some 4,.callP 111 [.t 3],none⟩,⟨some 5,.callP 143 [.t 4],none⟩,⟨some 2,.mov (.t 5),none⟩])
 (.ret)))
def i107:IFn:=⟨1,6,c107,[.t 2],.pure⟩
def c108:IR:=
 .seq (.reg none [⟨some 1,.box 55 2 (.t 0),none⟩,⟨some 2,.mov (.k (.int .i64 0)),none⟩,⟨some 3,.mov (.k (.bool false)),none⟩])
 (.lv [1] (.seq (.reg none [⟨some 7,.faddr 0 (.t 1),none⟩,⟨some 8,.ld true 1 (.t 7),none⟩,⟨some 9,.callP 144 [.t 8],none⟩,⟨some 6,.mov (.t 9),none⟩,⟨some 10,.ext (.t 6) 0,none⟩,⟨some 11,.ext (.t 6) 1,none⟩,⟨some 4,.mov (.t 10),none⟩,⟨some 5,.mov (.t 11),none⟩])
 (.lv [1,4,5] (.seq (.block 0 (.seq (.reg none [⟨some 13,.mov (.t 5),none⟩,⟨some 14,.not (.t 13),none⟩,⟨some 15,.mov (.t 14),none⟩,⟨some 16,.mov (.t 4),(some (15,false))⟩,⟨some 17,.bin .gt (.t 16) (.k (.int .u64 9223372036854775808)),(some (15,false))⟩,⟨some 18,.pick (.t 15) (.k (.bool true)) (.t 17),none⟩,⟨some 19,.mov (.t 18),none⟩,⟨some 20,.mov (.t 4),(some (19,false))⟩,⟨some 21,.bin .eq (.t 20) (.k (.int .u64 9223372036854775808)),(some (19,false))⟩,⟨some 22,.mov (.t 21),(some (19,false))⟩,⟨some 23,.faddr 1 (.t 1),(some (22,true))⟩,⟨some 24,.ld false 1 (.t 23),(some (22,true))⟩,⟨some 25,.not (.t 24),(some (22,true))⟩,⟨some 26,.pick (.t 22) (.t 25) (.k (.bool false)),(some (19,false))⟩,⟨some 27,.pick (.t 19) (.k (.bool true)) (.t 26),none⟩,⟨some 12,.mov (.t 27),none⟩])
 (.lv [1,4,12] (.cond (.t 12) (.lv [] (.seq (.reg none [⟨some 2,.mov (.k (.int .i64 0)),none⟩,⟨some 3,.mov (.k (.bool false)),none⟩])
 (.ret)))
 (.lv [1,4] (.seq (.reg none [⟨some 29,.faddr 1 (.t 1),none⟩,⟨some 30,.ld false 1 (.t 29),none⟩,⟨some 28,.mov (.t 30),none⟩])
 (.lv [4,28] (.cond (.t 28) (.lv [4] (.seq (.reg none [⟨some 31,.mov (.t 4),none⟩,⟨some 32,.bin .sub (.t 31) (.k (.int .u64 1)),none⟩,⟨some 33,.conv .i64 (.t 32),none⟩,⟨some 34,.neg (.t 33),none⟩,⟨some 35,.bin .sub (.t 34) (.k (.int .i64 1)),none⟩,⟨some 2,.mov (.t 35),none⟩,⟨some 3,.mov (.k (.bool true)),none⟩])
 (.ret)))
 (.skip)))))))))
 (.lv [4] (.seq (.reg none [⟨some 36,.mov (.t 4),none⟩,⟨some 37,.conv .i64 (.t 36),none⟩,⟨some 2,.mov (.t 37),none⟩,⟨some 3,.mov (.k (.bool true)),none⟩])
 (.ret)))))))
def i108:IFn:=⟨1,38,c108,[.t 2,.t 3],.pure⟩
def c109:IR:=
 .seq (.reg none [⟨some 3,.box 53 1 (.t 1),none⟩,⟨some 4,.alloc 55 [.nilsl 162 1,.bool false],none⟩])
 (.lv [0,3,4] (.seq (.reg (some [0,1,2,3,4,5,6,7,8]) [⟨some 5,.ld true 1 (.t 3),none⟩,⟨some 6,.mov (.t 0),none⟩,⟨some 7,.mov (.t 6),none⟩,⟨some 8,.ld true 1 (.t 3),(some (7,true))⟩,⟨some 9,.callP 145 [.t 8],(some (7,true))⟩,⟨some 10,.not (.t 9),(some (7,true))⟩,⟨some 11,.pick (.t 7) (.t 10) (.k (.bool false)),none⟩,⟨some 12,.build [.nilsl 162 1,.bool false] [(0,1,.t 5),(1,1,.t 11)],none⟩,⟨none,.st 2 (.t 4) (.t 12),none⟩])
 (.ret)))
def i109:IFn:=⟨2,13,c109,[.c 4 true 2],.pure⟩
def b110_1:IR:=
 .seq (.reg none [⟨some 32,.bin .lt (.t 31) (.t 30),none⟩])
 (.lv [3,4,5,6,7,8,21,22,23,29,30,31,32] (.seq (.cond (.t 32) (.skip)
 (.exit 2))
 (.lv [3,4,5,6,7,8,21,22,23,29,30,31] (.seq (.block 3 (.seq (.reg none [⟨some 33,.mov (.t 31),none⟩,⟨some 34,.iaddrf 1 (.t 29) (.t 31),none⟩,⟨some 35,.ldf false 1 (.t 34),none⟩,⟨some 9,.mov (.t 33),none⟩,⟨some 10,.mov (.t 35),none⟩])
 (.lv [3,4,5,6,7,8,9,10,21,22,23,29,30,31] (.seq (.reg none [⟨some 36,.mov (.t 7),none⟩,⟨some 37,.conv .u64 (.t 36),none⟩,⟨some 38,.mov (.t 10),none⟩,⟨some 39,.conv .u64 (.t 38),none⟩,⟨some 40,.bin .mul (.t 37) (.t 39),none⟩,⟨some 41,.mov (.t 5),none⟩,⟨some 42,.mov (.t 6),none⟩,⟨some 43,.mov (.t 9),none⟩,⟨some 44,.bin .add (.t 42) (.t 43),none⟩,⟨some 45,.iaddr 1 (.t 41) (.t 44),none⟩,⟨some 46,.ld false 1 (.t 45),none⟩,⟨some 47,.conv .u64 (.t 46),none⟩,⟨some 48,.bin .add (.t 40) (.t 47),none⟩,⟨some 49,.mov (.t 8),none⟩,⟨some 50,.bin .add (.t 48) (.t 49),none⟩,⟨some 11,.mov (.t 50),none⟩])
 (.lv [3,4,5,6,7,9,11,21,22,23,29,30,31] (.reg none [⟨some 51,.mov (.t 5),none⟩,⟨some 52,.mov (.t 6),none⟩,⟨some 53,.mov (.t 9),none⟩,⟨some 54,.bin .add (.t 52) (.t 53),none⟩,⟨some 55,.mov (.t 11),none⟩,⟨some 56,.conv .u32 (.t 55),none⟩,⟨some 57,.mov (.t 11),none⟩,⟨some 58,.bin .shr (.t 57) (.k (.int .u64 32)),none⟩,⟨some 59,.iaddr 1 (.t 51) (.t 54),none⟩,⟨none,.st 1 (.t 59) (.t 56),none⟩,⟨some 8,.mov (.t 58),none⟩]))))))
 (.lv [3,4,5,6,7,8,21,22,23,29,30,31] (.reg none [⟨some 60,.bin .add (.t 31) (.k (.int .i64 1)),none⟩,⟨some 31,.mov (.t 60),none⟩]))))))
def k110_0:IR:=
 .reg none [⟨some 61,.mov (.t 5),none⟩,⟨some 62,.mov (.t 6),none⟩,⟨some 63,.faddr 0 (.t 3),none⟩,⟨some 64,.ld false 1 (.t 63),none⟩,⟨some 65,.lenf (.t 64),none⟩,⟨some 66,.bin .add (.t 62) (.t 65),none⟩,⟨some 67,.mov (.t 8),none⟩,⟨some 68,.conv .u32 (.t 67),none⟩,⟨some 69,.iaddr 1 (.t 61) (.t 66),none⟩,⟨none,.st 1 (.t 69) (.t 68),none⟩]
def k110_1:IR:=
 .reg none [⟨some 70,.bin .add (.t 23) (.k (.int .i64 1)),none⟩,⟨some 23,.mov (.t 70),none⟩]
def b110_0:IR:=
 .seq (.reg none [⟨some 24,.bin .lt (.t 23) (.t 22),none⟩])
 (.lv [3,4,5,21,22,23,24] (.seq (.cond (.t 24) (.skip)
 (.exit 0))
 (.lv [3,4,5,21,22,23] (.seq (.block 1 (.seq (.reg none [⟨some 25,.mov (.t 23),none⟩,⟨some 26,.iaddrf 1 (.t 21) (.t 23),none⟩,⟨some 27,.ldf false 1 (.t 26),none⟩,⟨some 6,.mov (.t 25),none⟩,⟨some 7,.mov (.t 27),none⟩])
 (.lv [3,4,5,6,7,21,22,23] (.seq (.reg none [⟨some 8,.mov (.k (.int .u64 0)),none⟩])
 (.lv [3,4,5,6,7,8,21,22,23] (.seq (.seq (.reg none [⟨some 28,.faddr 0 (.t 3),none⟩,⟨some 29,.ld false 1 (.t 28),none⟩,⟨some 30,.lenf (.t 29),none⟩,⟨some 31,.mov (.k (.int .i64 0)),none⟩])
 (.lv [3,4,5,6,7,8,21,22,23,29,30,31] (.block 2 (.loop [3,4,5,6,7,8,21,22,23,29,30,31] (some (5,[])) b110_1))))
 k110_0))))))
 k110_1))))
def k110_2:IR:=
 .seq (.reg none [⟨some 71,.mov (.t 5),none⟩,⟨some 72,.callF 137 [.t 71],none⟩,⟨none,.st 1 (.t 4) (.t 72),none⟩])
 (.ret)
def c110:IR:=
 .seq (.reg none [⟨some 2,.box 53 1 (.t 0),none⟩,⟨some 3,.box 53 1 (.t 1),none⟩,⟨some 4,.alloc 53 [.nilsl 162 1],none⟩])
 (.lv [2,3,4] (.seq (.reg none [⟨some 12,.faddr 0 (.t 2),none⟩,⟨some 13,.ld false 1 (.t 12),none⟩,⟨some 14,.lenf (.t 13),none⟩,⟨some 15,.faddr 0 (.t 3),none⟩,⟨some 16,.ld false 1 (.t 15),none⟩,⟨some 17,.lenf (.t 16),none⟩,⟨some 18,.bin .add (.t 14) (.t 17),none⟩,⟨some 19,.mk 162 4 [.int .u32 0] (.t 18),none⟩,⟨some 5,.mov (.t 19),none⟩])
 (.lv [2,3,4,5] (.seq (.seq (.reg none [⟨some 20,.faddr 0 (.t 2),none⟩,⟨some 21,.ld false 1 (.t 20),none⟩,⟨some 22,.lenf (.t 21),none⟩,⟨some 23,.mov (.k (.int .i64 0)),none⟩])
 (.lv [3,4,5,21,22,23] (.block 0 (.loop [3,4,5,21,22,23] (some (5,[])) b110_0))))
 k110_2))))
def i110:IFn:=⟨2,73,c110,[.c 4 true 1],.pure⟩
def c111:IR:=
 .seq (.reg none [⟨some 1,.box 57 3 (.t 0),none⟩,⟨some 2,.alloc 53 [.nilsl 162 1],none⟩])
 (.lv [1,2] (.seq (.seq (.reg none [⟨some 3,.faddr 2 (.t 1),none⟩,⟨some 4,.ld true 1 (.t 3),none⟩,⟨some 5,.callP 145 [.t 4],none⟩])
 (.lv [1,2,5] (.cond (.t 5) (.lv [2] (.seq (.reg none [⟨some 6,.callP 99 [.k (.int .u64 1)],none⟩,⟨none,.st 1 (.t 2) (.t 6),none⟩])
 (.ret)))
 (.skip))))
 (.lv [1,2] (.seq (.reg none [⟨some 7,.faddr 2 (.t 1),none⟩,⟨some 8,.ld true 1 (.t 7),none⟩,⟨none,.st 1 (.t 2) (.t 8),none⟩])
 (.ret)))))
def i111:IFn:=⟨1,9,c111,[.c 2 true 1],.pure⟩
def b112_0:IR:=
 .seq (.seq (.reg none [⟨some 24,.mov (.t 5),none⟩,⟨some 25,.bin .ge (.t 24) (.k (.int .i64 0)),none⟩])
 (.lv [2,3,5,25] (.cond (.t 25) (.skip)
 (.exit 0))))
 (.lv [2,3,5] (.seq (.block 1 (.seq (.reg (some [0,1,2,3,4,5,6,7,8,9,10]) [⟨some 28,.faddr 0 (.t 2),none⟩,⟨some 29,.ld false 1 (.t 28),none⟩,⟨some 30,.mov (.t 5),none⟩,⟨some 31,.iaddrf 1 (.t 29) (.t 30),none⟩,⟨some 32,.ldf false 1 (.t 31),none⟩,⟨some 33,.faddr 0 (.t 3),none⟩,⟨some 34,.ld false 1 (.t 33),none⟩,⟨some 35,.mov (.t 5),none⟩,⟨some 36,.iaddrf 1 (.t 34) (.t 35),none⟩,⟨some 37,.ldf false 1 (.t 36),none⟩,⟨some 38,.bin .ne (.t 32) (.t 37),none⟩])
 (.lv [2,3,5,38] (.cond (.t 38) (.lv [2,3,5] (.seq (.seq (.reg (some [0,1,2,3,4,5,6,7,8,9,10]) [⟨some 39,.faddr 0 (.t 2),none⟩,⟨some 40,.ld false 1 (.t 39),none⟩,⟨some 41,.mov (.t 5),none⟩,⟨some 42,.iaddrf 1 (.t 40) (.t 41),none⟩,⟨some 43,.ldf false 1 (.t 42),none⟩,⟨some 44,.faddr 0 (.t 3),none⟩,⟨some 45,.ld false 1 (.t 44),none⟩,⟨some 46,.mov (.t 5),none⟩,⟨some 47,.iaddrf 1 (.t 45) (.t 46),none⟩,⟨some 48,.ldf false 1 (.t 47),none⟩,⟨some 49,.bin .lt (.t 43) (.t 48),none⟩])
 (.lv [49] (.cond (.t 49) (.lv [] (.seq (.reg none [⟨some 4,.mov (.k (.int .i64 (-1))),none⟩])
 (.ret)))
 (.skip))))
 (.lv [] (.seq (.reg none [⟨some 4,.mov (.k (.int .i64 1)),none⟩])
 (.ret)))))
 (.skip)))))
 (.lv [2,3,5] (.reg none [⟨some 26,.mov (.t 5),none⟩,⟨some 27,.bin .sub (.t 26) (.k (.int .i64 1)),none⟩,⟨some 5,.mov (.t 27),none⟩]))))
def k112_0:IR:=
 .seq (.reg none [⟨some 4,.mov (.k (.int .i64 0)),none⟩])
 (.ret)
def c112:IR:=
 .seq (.reg none [⟨some 2,.box 53 1 (.t 0),none⟩,⟨some 3,.box 53 1 (.t 1),none⟩,⟨some 4,.mov (.k (.int .i64 0)),none⟩])
 (.lv [2,3] (.seq (.seq (.reg none [⟨some 6,.faddr 0 (.t 2),none⟩,⟨some 7,.ld false 1 (.t 6),none⟩,⟨some 8,.lenf (.t 7),none⟩,⟨some 9,.faddr 0 (.t 3),none⟩,⟨some 10,.ld false 1 (.t 9),none⟩,⟨some 11,.lenf (.t 10),none⟩,⟨some 12,.bin .ne (.t 8) (.t 11),none⟩])
 (.lv [2,3,12] (.cond (.t 12) (.lv [2,3] (.seq (.seq (.reg none [⟨some 13,.faddr 0 (.t 2),none⟩,⟨some 14,.ld false 1 (.t 13),none⟩,⟨some 15,.lenf (.t 14),none⟩,⟨some 16,.faddr 0 (.t 3),none⟩,⟨some 17,.ld false 1 (.t 16),none⟩,⟨some 18,.lenf (.t 17),none⟩,⟨some 19,.bin .lt (.t 15) (.t 18),none⟩])
 (.lv [19] (.cond (.t 19) (.lv [] (.seq (.reg none [⟨some 4,.mov (.k (.int .i64 (-1))),none⟩])
 (.ret)))
 (.skip))))
 (.lv [] (.seq (.reg none [⟨some 4,.mov (.k (.int .i64 1)),none⟩])
 (.ret)))))
 (.skip))))
 (.lv [2,3] (.seq (.seq (.reg none [⟨some 20,.faddr 0 (.t 2),none⟩,⟨some 21,.ld false 1 (.t 20),none⟩,⟨some 22,.lenf (.t 21),none⟩,⟨some 23,.bin .sub (.t 22) (.k (.int .i64 1)),none⟩,⟨some 5,.mov (.t 23),none⟩])
 (.lv [2,3,5] (.block 0 (.loop [2,3,5] (some (2,[])) b112_0))))
 k112_0))))
def i112:IFn:=⟨2,50,c112,[.t 4],.pure⟩
def b115_0:IR:=
 .seq (.reg none [⟨some 35,.bin .lt (.t 34) (.t 33),none⟩])
 (.lv [3,6,10,32,33,34,35] (.seq (.cond (.t 35) (.skip)
 (.exit 0))
 (.lv [3,6,10,32,33,34] (.seq (.block 1 (.seq (.reg none [⟨some 36,.iaddrf 1 (.t 32) (.t 34),none⟩,⟨some 37,.ldf false 1 (.t 36),none⟩,⟨some 12,.mov (.t 37),none⟩])
 (.lv [3,6,10,12,32,33,34] (.block 2 (.seq (.reg none [⟨some 49,.faddr 1 (.t 3),none⟩,⟨some 50,.ld false 1 (.t 49),none⟩,⟨some 51,.not (.t 50),none⟩,⟨some 48,.mov (.t 51),none⟩])
 (.lv [3,6,10,12,32,33,34,48] (.cond (.t 48) (.lv [3,6,10,12,32,33,34] (.reg (some [0,1,2,3,4,5,6,7,8]) [⟨some 52,.faddr 3 (.t 10),none⟩,⟨some 53,.ld false 1 (.t 52),none⟩,⟨some 54,.ld true 5 (.t 3),none⟩,⟨some 55,.mov (.t 12),none⟩,⟨some 56,.callP 24 [.t 54,.t 55],none⟩,⟨some 57,.bsl 57 3 [.t 56],none⟩,⟨some 58,.app 57 3 56 (.t 53) (.t 57),none⟩,⟨some 59,.faddr 3 (.t 10),none⟩,⟨none,.st 1 (.t 59) (.t 58),none⟩]))
 (.lv [3,6,10,12,32,33,34] (.seq (.reg none [⟨some 61,.mov (.t 12),none⟩,⟨some 62,.bin .lt (.t 61) (.k (.int .i64 0)),none⟩,⟨some 63,.mov (.t 62),none⟩,⟨some 64,.mov (.t 12),(some (63,false))⟩,⟨some 65,.faddr 2 (.t 3),(some (63,false))⟩,⟨some 66,.ld false 1 (.t 65),(some (63,false))⟩,⟨some 67,.lenf (.t 66),(some (63,false))⟩,⟨some 68,.bin .ge (.t 64) (.t 67),(some (63,false))⟩,⟨some 69,.pick (.t 63) (.k (.bool true)) (.t 68),none⟩,⟨some 60,.mov (.t 69),none⟩])
 (.lv [3,6,10,12,32,33,34,60] (.cond (.t 60) (.lv [3,6,10,32,33,34] (.reg none [⟨some 70,.faddr 2 (.t 10),none⟩,⟨some 71,.ld false 1 (.t 70),none⟩,⟨some 72,.bsl 21 1 [.k (.int .i32 32)],none⟩,⟨some 73,.app 21 1 4 (.t 71) (.t 72),none⟩,⟨some 74,.faddr 2 (.t 10),none⟩,⟨none,.st 1 (.t 74) (.t 73),none⟩]))
 (.lv [3,6,10,12,32,33,34] (.reg (some [0,1,2,3,4,5,6,7,8,9,10]) [⟨some 38,.faddr 2 (.t 10),none⟩,⟨some 39,.ld false 1 (.t 38),none⟩,⟨some 40,.faddr 2 (.t 3),none⟩,⟨some 41,.ld false 1 (.t 40),none⟩,⟨some 42,.mov (.t 12),none⟩,⟨some 43,.iaddrf 1 (.t 41) (.t 42),none⟩,⟨some 44,.ldf false 1 (.t 43),none⟩,⟨some 45,.bsl 21 1 [.t 44],none⟩,⟨some 46,.app 21 1 4 (.t 39) (.t 45),none⟩,⟨some 47,.faddr 2 (.t 10),none⟩,⟨none,.st 1 (.t 47) (.t 46),none⟩])))))))))))))
 (.lv [3,6,10,32,33,34] (.reg none [⟨some 75,.bin .add (.t 34) (.k (.int .i64 1)),none⟩,⟨some 34,.mov (.t 75),none⟩]))))))
def k115_0:IR:=
 .seq (.reg none [⟨some 76,.ld true 5 (.t 10),none⟩,⟨none,.st 5 (.t 6) (.t 76),none⟩,⟨some 7,.mov (.k (.bool true)),none⟩])
 (.ret)
def c115:IR:=
 .seq (.reg none [⟨some 3,.box 31 5 (.t 0),none⟩,⟨some 6,.alloc 31 [.nilsl 3 1,.bool false,.nilsl 21 1,.nilsl 57 3,.bool false],none⟩,⟨some 7,.mov (.k (.bool false)),none⟩])
 (.lv [1,2,3,6] (.seq (.reg none [⟨some 14,.mov (.t 1),none⟩,⟨some 15,.callP 78 [.t 14],none⟩,⟨some 13,.mov (.t 15),none⟩,⟨some 16,.ext (.t 13) 0,none⟩,⟨some 17,.ext (.t 13) 1,none⟩,⟨some 8,.mov (.t 16),none⟩,⟨some 9,.mov (.t 17),none⟩])
 (.lv [1,2,3,6,8,9] (.seq (.seq (.reg none [⟨some 18,.mov (.t 9),none⟩,⟨some 19,.not (.t 18),none⟩,⟨some 20,.mov (.t 19),none⟩,⟨some 21,.mov (.t 8),(some (20,false))⟩,⟨some 22,.mov (.t 2),(some (20,false))⟩,⟨some 23,.lenf (.t 22),(some (20,false))⟩,⟨some 24,.bin .ne (.t 21) (.t 23),(some (20,false))⟩,⟨some 25,.pick (.t 20) (.k (.bool true)) (.t 24),none⟩])
 (.lv [1,2,3,6,25] (.cond (.t 25) (.lv [6] (.seq (.reg none [⟨some 26,.build [.nilsl 3 1,.bool false,.nilsl 21 1,.nilsl 57 3,.bool false] [],none⟩,⟨none,.st 5 (.t 6) (.t 26),none⟩,⟨some 7,.mov (.k (.bool false)),none⟩])
 (.ret)))
 (.skip))))
 (.lv [1,2,3,6] (.seq (.reg (some [0,2,3,1,4,5,6]) [⟨some 27,.mov (.t 1),none⟩,⟨some 29,.faddr 1 (.t 3),none⟩,⟨some 30,.ld false 1 (.t 29),none⟩,⟨some 28,.callZ 89 [.t 27],none⟩,⟨some 31,.build [.nilsl 3 1,.bool false,.nilsl 21 1,.nilsl 57 3,.bool false] [(0,1,.t 28),(1,1,.t 30),(4,1,.k (.bool true))],none⟩,⟨some 10,.alloc 31 [.nilsl 3 1,.bool false,.nilsl 21 1,.nilsl 57 3,.bool false],none⟩,⟨none,.st 5 (.t 10) (.t 31),none⟩])
 (.lv [2,3,6,10] (.seq (.seq (.reg none [⟨some 32,.mov (.t 2),none⟩,⟨some 33,.lenf (.t 32),none⟩,⟨some 34,.mov (.k (.int .i64 0)),none⟩])
 (.lv [3,6,10,32,33,34] (.block 0 (.loop [3,6,10,32,33,34] (some (11,[])) b115_0))))
 k115_0))))))))
def i115:IFn:=⟨3,77,c115,[.c 6 true 5,.t 7],.pure⟩
def c117:IR:=
 .seq (.reg none [⟨some 1,.box 55 2 (.t 0),none⟩,⟨some 2,.mov (.k (.bool false)),none⟩])
 (.lv [1] (.seq (.reg none [⟨some 3,.faddr 1 (.t 1),none⟩,⟨some 4,.ld false 1 (.t 3),none⟩,⟨some 2,.mov (.t 4),none⟩])
 (.ret)))
def i117:IFn:=⟨1,5,c117,[.t 2],.pure⟩
def b118_1:IR:=
 .seq (.seq (.reg none [⟨some 21,.mov (.t 6),none⟩,⟨some 22,.bin .lt (.t 21) (.k (.int .i64 9)),none⟩,⟨some 23,.mov (.t 22),none⟩,⟨some 24,.mov (.t 5),(some (23,true))⟩,⟨some 25,.bin .gt (.t 24) (.k (.int .u32 0)),(some (23,true))⟩,⟨some 26,.mov (.t 25),(some (23,true))⟩,⟨some 27,.ld true 1 (.t 4),(some (26,false))⟩,⟨some 28,.callR 145 [.t 27],(some (26,false))⟩,⟨some 29,.not (.t 28),(some (26,false))⟩,⟨some 30,.pick (.t 26) (.k (.bool true)) (.t 29),(some (23,true))⟩,⟨some 31,.pick (.t 23) (.t 30) (.k (.bool false)),none⟩])
 (.lv [1,3,4,5,6,31] (.cond (.t 31) (.skip)
 (.exit 2))))
 (.lv [1,3,4,5,6] (.seq (.block 3 (.seq (.reg none [⟨some 34,.mov (.t 3),none⟩,⟨some 35,.mov (.t 5),none⟩,⟨some 36,.bin .rem (.t 35) (.k (.int .u32 10)),none⟩,⟨some 37,.bin .add (.k (.int .u32 48)) (.t 36),none⟩,⟨some 38,.conv .u8 (.t 37),none⟩,⟨some 39,.bsl 5 1 [.t 38],none⟩,⟨some 40,.app 5 1 1 (.t 34) (.t 39),none⟩,⟨some 3,.mov (.t 40),none⟩])
 (.lv [1,3,4,5,6] (.reg none [⟨some 41,.mov (.t 5),none⟩,⟨some 42,.bin .quo (.t 41) (.k (.int .u32 10)),none⟩,⟨some 5,.mov (.t 42),none⟩]))))
 (.lv [1,3,4,5,6] (.reg none [⟨some 32,.mov (.t 6),none⟩,⟨some 33,.bin .add (.t 32) (.k (.int .i64 1)),none⟩,⟨some 6,.mov (.t 33),none⟩]))))
def k118_0:IR:=
 .reg none [⟨some 43,.ld true 1 (.t 4),none⟩,⟨none,.st 1 (.t 1) (.t 43),none⟩]
def b118_0:IR:=
 .seq (.seq (.reg none [⟨some 13,.ld true 1 (.t 1),none⟩,⟨some 14,.callR 145 [.t 13],none⟩,⟨some 15,.not (.t 14),none⟩])
 (.lv [1,3,15] (.cond (.t 15) (.skip)
 (.exit 0))))
 (.lv [1,3] (.block 1 (.seq (.reg none [⟨some 17,.ld true 1 (.t 1),none⟩,⟨some 18,.callF 146 [.t 17,.k (.int .u32 1000000000)],none⟩,⟨some 16,.mov (.t 18),none⟩,⟨some 19,.ext (.t 16) 0,none⟩,⟨some 20,.ext (.t 16) 1,none⟩,⟨some 4,.alloc 53 [.nilsl 162 1],none⟩,⟨none,.st 1 (.t 4) (.t 19),none⟩,⟨some 5,.mov (.t 20),none⟩])
 (.lv [1,3,4,5] (.seq (.seq (.reg none [⟨some 6,.mov (.k (.int .i64 0)),none⟩])
 (.lv [1,3,4,5,6] (.block 2 (.loop [1,3,4,5,6] (some (4,[])) b118_1))))
 k118_0)))))
def b118_2:IR:=
 .seq (.seq (.reg none [⟨some 47,.mov (.t 7),none⟩,⟨some 48,.mov (.t 8),none⟩,⟨some 49,.bin .lt (.t 47) (.t 48),none⟩])
 (.lv [3,7,8,49] (.cond (.t 49) (.skip)
 (.exit 4))))
 (.lv [3,7,8] (.seq (.block 5 (.reg (some [0,1,2,3,4,5,6,7,8,9,10,11,12,13,14,15]) [⟨some 54,.mov (.t 3),none⟩,⟨some 55,.mov (.t 7),none⟩,⟨some 56,.mov (.t 3),none⟩,⟨some 57,.mov (.t 8),none⟩,⟨some 58,.mov (.t 3),none⟩,⟨some 59,.mov (.t 8),none⟩,⟨some 60,.iaddr 1 (.t 58) (.t 59),none⟩,⟨some 61,.ld false 1 (.t 60),none⟩,⟨some 62,.mov (.t 3),none⟩,⟨some 63,.mov (.t 7),none⟩,⟨some 64,.iaddr 1 (.t 62) (.t 63),none⟩,⟨some 65,.ld false 1 (.t 64),none⟩,⟨some 66,.iaddr 1 (.t 54) (.t 55),none⟩,⟨none,.st 1 (.t 66) (.t 61),none⟩,⟨some 67,.iaddr 1 (.t 56) (.t 57),none⟩,⟨none,.st 1 (.t 67) (.t 65),none⟩]))
 (.lv [3,7,8] (.reg none [⟨some 50,.mov (.t 7),none⟩,⟨some 51,.bin .add (.t 50) (.k (.int .i64 1)),none⟩,⟨some 52,.mov (.t 8),none⟩,⟨some 53,.bin .sub (.t 52) (.k (.int .i64 1)),none⟩,⟨some 7,.mov (.t 51),none⟩,⟨some 8,.mov (.t 53),none⟩]))))
def k118_1:IR:=
 .seq (.reg none [⟨some 68,.mov (.t 3),none⟩,⟨some 69,.b2s (.t 68),none⟩,⟨some 2,.mov (.t 69),none⟩])
 (.ret)
def k118_2:IR:=
 .seq (.seq (.reg none [⟨some 44,.mov (.t 3),none⟩,⟨some 45,.len (.t 44),none⟩,⟨some 46,.bin .sub (.t 45) (.k (.int .i64 1)),none⟩,⟨some 7,.mov (.k (.int .i64 0)),none⟩,⟨some 8,.mov (.t 46),none⟩])
 (.lv [3,7,8] (.block 4 (.loop [3,7,8] (some (2,[])) b118_2))))
 k118_1
def c118:IR:=
 .seq (.reg none [⟨some 1,.box 53 1 (.t 0),none⟩,⟨some 2,.mov (.k (.str ⟨#[]⟩)),none⟩])
 (.lv [1] (.seq (.seq (.reg none [⟨some 9,.faddr 0 (.t 1),none⟩,⟨some 10,.ld false 1 (.t 9),none⟩,⟨some 11,.len (.t 10),none⟩,⟨some 12,.bin .eq (.t 11) (.k (.int .i64 0)),none⟩])
 (.lv [1,12] (.cond (.t 12) (.lv [] (.seq (.reg none [⟨some 2,.mov (.k (.str ⟨#[48]⟩)),none⟩])
 (.ret)))
 (.skip))))
 (.lv [1] (.seq (.reg none [⟨some 3,.newnil 5 1,none⟩])
 (.lv [1,3] (.seq (.block 0 (.loop [1,3] (some (2,[])) b118_0))
 k118_2))))))
def i118:IFn:=⟨1,70,c118,[.t 2],.pure⟩
def b119_0:IR:=
 .seq (.seq (.reg none [⟨some 7,.mov (.t 6),none⟩,⟨some 8,.mov (.t 0),none⟩,⟨some 9,.lenf (.t 8),none⟩,⟨some 10,.bin .lt (.t 7) (.t 9),none⟩])
 (.lv [0,4,5,6,10] (.cond (.t 10) (.skip)
 (.exit 0))))
 (.lv [0,4,5,6] (.seq (.block 1 (.seq (.seq (.reg none [⟨some 13,.mov (.t 6),none⟩,⟨some 14,.bin .ge (.t 13) (.k (.int .i64 8)),none⟩,⟨some 15,.mov (.t 14),none⟩,⟨some 16,.mov (.t 0),(some (15,false))⟩,⟨some 17,.mov (.t 6),(some (15,false))⟩,⟨some 18,.iaddrf 1 (.t 16) (.t 17),(some (15,false))⟩,⟨some 19,.ldf false 1 (.t 18),(some (15,false))⟩,⟨some 20,.bin .lt (.t 19) (.k (.int .i64 0)),(some (15,false))⟩,⟨some 21,.pick (.t 15) (.k (.bool true)) (.t 20),none⟩,⟨some 22,.mov (.t 21),none⟩,⟨some 23,.mov (.t 0),(some (22,false))⟩,⟨some 24,.mov (.t 6),(some (22,false))⟩,⟨some 25,.iaddrf 1 (.t 23) (.t 24),(some (22,false))⟩,⟨some 26,.ldf false 1 (.t 25),(some (22,false))⟩,⟨some 27,.bin .gt (.t 26) (.k (.int .i64 4096)),(some (22,false))⟩,⟨some 28,.pick (.t 22) (.k (.bool true)) (.t 27),none⟩])
 (.lv [0,4,5,6,28] (.cond (.t 28) (.lv [] (.seq (.reg none [⟨some 2,.mov (.k (.int .i64 0)),none⟩,⟨some 3,.mov (.k (.bool false)),none⟩])
 (.ret)))
 (.skip))))
 (.lv [0,4,5,6] (.seq (.reg none [⟨some 29,.mov (.t 5),none⟩,⟨some 30,.mov (.t 0),none⟩,⟨some 31,.mov (.t 6),none⟩,⟨some 32,.iaddrf 1 (.t 30) (.t 31),none⟩,⟨some 33,.ldf false 1 (.t 32),none⟩,⟨some 34,.bin .mul (.t 29) (.t 33),none⟩,⟨some 5,.mov (.t 34),none⟩])
 (.lv [0,4,5,6] (.seq (.seq (.reg none [⟨some 35,.mov (.t 0),none⟩,⟨some 36,.mov (.t 6),none⟩,⟨some 37,.iaddrf 1 (.t 35) (.t 36),none⟩,⟨some 38,.ldf false 1 (.t 37),none⟩,⟨some 39,.bin .gt (.t 38) (.k (.int .i64 0)),none⟩])
 (.lv [0,4,5,6,39] (.cond (.t 39) (.lv [0,4,5,6] (.reg none [⟨some 40,.mov (.t 4),none⟩,⟨some 41,.mov (.t 0),none⟩,⟨some 42,.mov (.t 6),none⟩,⟨some 43,.iaddrf 1 (.t 41) (.t 42),none⟩,⟨some 44,.ldf false 1 (.t 43),none⟩,⟨some 45,.bin .mul (.t 40) (.t 44),none⟩,⟨some 4,.mov (.t 45),none⟩]))
 (.skip))))
 (.lv [0,4,5,6] (.seq (.reg none [⟨some 46,.mov (.t 4),none⟩,⟨some 47,.bin .gt (.t 46) (.k (.int .i64 4096)),none⟩])
 (.lv [0,4,5,6,47] (.cond (.t 47) (.lv [] (.seq (.reg none [⟨some 2,.mov (.k (.int .i64 0)),none⟩,⟨some 3,.mov (.k (.bool false)),none⟩])
 (.ret)))
 (.skip)))))))))))
 (.lv [0,4,5,6] (.reg none [⟨some 11,.mov (.t 6),none⟩,⟨some 12,.bin .add (.t 11) (.k (.int .i64 1)),none⟩,⟨some 6,.mov (.t 12),none⟩]))))
def k119_0:IR:=
 .seq (.reg none [⟨some 48,.mov (.t 5),none⟩,⟨some 2,.mov (.t 48),none⟩,⟨some 3,.mov (.k (.bool true)),none⟩])
 (.ret)
def c119:IR:=
 .seq (.reg none [⟨some 2,.mov (.k (.int .i64 0)),none⟩,⟨some 3,.mov (.k (.bool false)),none⟩])
 (.lv [0] (.seq (.reg none [⟨some 4,.mov (.k (.int .i64 1)),none⟩,⟨some 5,.mov (.k (.int .i64 1)),none⟩])
 (.lv [0,4,5] (.seq (.seq (.reg none [⟨some 6,.mov (.k (.int .i64 0)),none⟩])
 (.lv [0,4,5,6] (.block 0 (.loop [0,4,5,6] (some (0,[])) b119_0))))
 k119_0))))
def i119:IFn:=⟨1,49,c119,[.t 2,.t 3],.pure⟩
def c120:IR:=
 .seq (.reg none [⟨some 1,.box 66 3 (.t 0),none⟩,⟨some 2,.mov (.k (.bool false)),none⟩])
 (.lv [1] (.seq (.seq (.reg (some [0,1,2,3,4,5,6,7,8,9,10,11,12,13,14,15,16,17,18,19,20,21,22,23,24,25,26,27,28,29,30]) [⟨some 3,.faddr 1 (.t 1),none⟩,⟨some 4,.ld false 1 (.t 3),none⟩,⟨some 5,.callP 147 [.t 4],none⟩,⟨some 6,.not (.t 5),none⟩,⟨some 7,.mov (.t 6),none⟩,⟨some 8,.faddr 2 (.t 1),(some (7,false))⟩,⟨some 9,.ld false 1 (.t 8),(some (7,false))⟩,⟨some 10,.callP 147 [.t 9],(some (7,false))⟩,⟨some 11,.not (.t 10),(some (7,false))⟩,⟨some 12,.pick (.t 7) (.k (.bool true)) (.t 11),none⟩,⟨some 13,.mov (.t 12),none⟩,⟨some 14,.faddr 1 (.t 1),(some (13,false))⟩,⟨some 15,.ld false 1 (.t 14),(some (13,false))⟩,⟨some 16,.callP 148 [.t 15],(some (13,false))⟩,⟨some 17,.faddr 1 (.t 1),(some (13,false))⟩,⟨some 18,.ld false 1 (.t 17),(some (13,false))⟩,⟨some 19,.bin .ne (.t 16) (.t 18),(some (13,false))⟩,⟨some 20,.pick (.t 13) (.k (.bool true)) (.t 19),none⟩,⟨some 21,.mov (.t 20),none⟩,⟨some 22,.faddr 2 (.t 1),(some (21,false))⟩,⟨some 23,.ld false 1 (.t 22),(some (21,false))⟩,⟨some 24,.callP 148 [.t 23],(some (21,false))⟩,⟨some 25,.faddr 2 (.t 1),(some (21,false))⟩,⟨some 26,.ld false 1 (.t 25),(some (21,false))⟩,⟨some 27,.bin .ne (.t 24) (.t 26),(some (21,false))⟩,⟨some 28,.pick (.t 21) (.k (.bool true)) (.t 27),none⟩,⟨some 29,.mov (.t 28),none⟩,⟨some 30,.faddr 2 (.t 1),(some (29,false))⟩,⟨some 31,.ld false 1 (.t 30),(some (29,false))⟩,⟨some 32,.bin .eq (.t 31) (.k (.str ⟨#[48]⟩)),(some (29,false))⟩,⟨some 33,.pick (.t 29) (.k (.bool true)) (.t 32),none⟩])
 (.lv [1,33] (.cond (.t 33) (.lv [] (.seq (.reg none [⟨some 2,.mov (.k (.bool false)),none⟩])
 (.ret)))
 (.skip))))
 (.lv [1] (.seq (.reg none [⟨some 34,.faddr 1 (.t 1),none⟩,⟨some 35,.ld false 1 (.t 34),none⟩,⟨some 36,.faddr 2 (.t 1),none⟩,⟨some 37,.ld false 1 (.t 36),none⟩,⟨some 38,.callP 149 [.t 35,.t 37],none⟩,⟨some 39,.bin .eq (.t 38) (.k (.str ⟨#[49]⟩)),none⟩,⟨some 40,.mov (.t 39),none⟩,⟨some 41,.faddr 0 (.t 1),(some (40,true))⟩,⟨some 42,.ld false 1 (.t 41),(some (40,true))⟩,⟨some 43,.mov (.t 42),(some (40,true))⟩,⟨some 44,.faddr 1 (.t 1),(some (43,true))⟩,⟨some 45,.ld false 1 (.t 44),(some (43,true))⟩,⟨some 46,.bin .eq (.t 45) (.k (.str ⟨#[48]⟩)),(some (43,true))⟩,⟨some 47,.pick (.t 43) (.t 46) (.k (.bool false)),(some (40,true))⟩,⟨some 48,.not (.t 47),(some (40,true))⟩,⟨some 49,.pick (.t 40) (.t 48) (.k (.bool false)),none⟩,⟨some 2,.mov (.t 49),none⟩])
 (.ret)))))
def i120:IFn:=⟨1,50,c120,[.t 2],.pure⟩
def b121_0:IR:=
 .seq (.seq (.reg none [⟨some 7,.mov (.t 4),none⟩,⟨some 8,.bin .lt (.t 7) (.k (.int .i64 20)),none⟩,⟨some 9,.mov (.t 8),none⟩,⟨some 10,.mov (.t 0),(some (9,true))⟩,⟨some 11,.bin .gt (.t 10) (.k (.int .u64 0)),(some (9,true))⟩,⟨some 12,.pick (.t 9) (.t 11) (.k (.bool false)),none⟩])
 (.lv [0,3,4,12] (.cond (.t 12) (.skip)
 (.exit 0))))
 (.lv [0,3,4] (.seq (.block 1 (.seq (.reg none [⟨some 15,.mov (.t 3),none⟩,⟨some 16,.mov (.t 0),none⟩,⟨some 17,.bin .rem (.t 16) (.k (.int .u64 10)),none⟩,⟨some 18,.conv .i64 (.t 17),none⟩,⟨some 19,.bsl 3 1 [.t 18],none⟩,⟨some 20,.app 3 1 8 (.t 15) (.t 19),none⟩,⟨some 3,.mov (.t 20),none⟩])
 (.lv [0,3,4] (.reg none [⟨some 21,.mov (.t 0),none⟩,⟨some 22,.bin .quo (.t 21) (.k (.int .u64 10)),none⟩,⟨some 0,.mov (.t 22),none⟩]))))
 (.lv [0,3,4] (.reg none [⟨some 13,.mov (.t 4),none⟩,⟨some 14,.bin .add (.t 13) (.k (.int .i64 1)),none⟩,⟨some 4,.mov (.t 14),none⟩]))))
def k121_0:IR:=
 .seq (.reg none [⟨some 23,.mov (.t 3),none⟩,⟨some 24,.callR 150 [.t 23],none⟩,⟨some 2,.mov (.t 24),none⟩])
 (.ret)
def c121:IR:=
 .seq (.reg none [⟨some 2,.mov (.k (.str ⟨#[]⟩)),none⟩])
 (.lv [0] (.seq (.seq (.reg none [⟨some 5,.mov (.t 0),none⟩,⟨some 6,.bin .eq (.t 5) (.k (.int .u64 0)),none⟩])
 (.lv [0,6] (.cond (.t 6) (.lv [] (.seq (.reg none [⟨some 2,.mov (.k (.str ⟨#[48]⟩)),none⟩])
 (.ret)))
 (.skip))))
 (.lv [0] (.seq (.reg none [⟨some 3,.newnil 3 1,none⟩])
 (.lv [0,3] (.seq (.seq (.reg none [⟨some 4,.mov (.k (.int .i64 0)),none⟩])
 (.lv [0,3,4] (.block 0 (.loop [0,3,4] (some (1,[])) b121_0))))
 k121_0))))))
def i121:IFn:=⟨1,25,c121,[.t 2],.pure⟩
def c122:IR:=
 .seq (.reg none [⟨some 2,.box 55 2 (.t 0),none⟩,⟨some 3,.box 55 2 (.t 1),none⟩,⟨some 4,.alloc 57 [.nilsl 162 1,.bool false,.nilsl 162 1],none⟩,⟨some 5,.mov (.k (.bool false)),none⟩])
 (.lv [2,3,4] (.seq (.seq (.reg none [⟨some 13,.faddr 0 (.t 3),none⟩,⟨some 14,.ld true 1 (.t 13),none⟩,⟨some 15,.callP 145 [.t 14],none⟩])
 (.lv [2,3,4,15] (.cond (.t 15) (.lv [4] (.seq (.reg none [⟨some 16,.build [.nilsl 162 1,.bool false,.nilsl 162 1] [],none⟩,⟨none,.st 3 (.t 4) (.t 16),none⟩,⟨some 5,.mov (.k (.bool false)),none⟩])
 (.ret)))
 (.skip))))
 (.lv [2,3,4] (.seq (.reg (some [0,1,2,3,4,5,6]) [⟨some 17,.faddr 0 (.t 2),none⟩,⟨some 18,.ld true 1 (.t 17),none⟩,⟨some 19,.ld true 2 (.t 3),none⟩,⟨some 20,.callP 152 [.t 19],none⟩,⟨some 21,.callP 151 [.t 18,.t 20],none⟩,⟨some 6,.alloc 53 [.nilsl 162 1],none⟩,⟨none,.st 1 (.t 6) (.t 21),none⟩])
 (.lv [2,3,4,6] (.seq (.reg none [⟨some 23,.faddr 0 (.t 2),none⟩,⟨some 24,.ld true 1 (.t 23),none⟩,⟨some 25,.ld true 1 (.t 6),none⟩,⟨some 26,.callF 153 [.t 24,.t 25],none⟩,⟨some 22,.mov (.t 26),none⟩,⟨some 27,.ext (.t 22) 0,none⟩,⟨some 28,.ext (.t 22) 1,none⟩,⟨some 29,.ext (.t 22) 2,none⟩,⟨some 7,.alloc 53 [.nilsl 162 1],none⟩,⟨some 8,.alloc 53 [.nilsl 162 1],none⟩,⟨none,.st 1 (.t 7) (.t 27),none⟩,⟨none,.st 1 (.t 8) (.t 28),none⟩,⟨some 9,.mov (.t 29),none⟩])
 (.lv [2,3,4,6,7] (.seq (.reg none [⟨some 31,.faddr 0 (.t 3),none⟩,⟨some 32,.ld true 1 (.t 31),none⟩,⟨some 33,.ld true 1 (.t 6),none⟩,⟨some 34,.callF 153 [.t 32,.t 33],none⟩,⟨some 30,.mov (.t 34),none⟩,⟨some 35,.ext (.t 30) 0,none⟩,⟨some 36,.ext (.t 30) 1,none⟩,⟨some 37,.ext (.t 30) 2,none⟩,⟨some 10,.alloc 53 [.nilsl 162 1],none⟩,⟨some 11,.alloc 53 [.nilsl 162 1],none⟩,⟨none,.st 1 (.t 10) (.t 35),none⟩,⟨none,.st 1 (.t 11) (.t 36),none⟩,⟨some 12,.mov (.t 37),none⟩])
 (.lv [2,3,4,7,10] (.seq (.reg (some [0,1,2,3,4,5,7,6,8,9,10]) [⟨some 38,.ld true 2 (.t 2),none⟩,⟨some 39,.callP 117 [.t 38],none⟩,⟨some 40,.ld true 2 (.t 3),none⟩,⟨some 41,.callP 117 [.t 40],none⟩,⟨some 42,.binb .ne (.t 39) (.t 41),none⟩,⟨some 43,.ld true 1 (.t 7),none⟩,⟨some 45,.ld true 1 (.t 10),none⟩,⟨some 44,.callF 109 [.t 42,.t 43],none⟩,⟨some 46,.build [.nilsl 162 1,.bool false,.nilsl 162 1] [(0,2,.t 44),(2,1,.t 45)],none⟩,⟨none,.st 3 (.t 4) (.t 46),none⟩,⟨some 5,.mov (.k (.bool true)),none⟩])
 (.ret)))))))))))
def i122:IFn:=⟨2,47,c122,[.c 4 true 3,.t 5],.pure⟩
def b123_0:IR:=
 .seq (.reg none [⟨some 10,.bin .lt (.t 9) (.t 8),none⟩])
 (.lv [2,4,7,8,9,10] (.seq (.cond (.t 10) (.skip)
 (.exit 0))
 (.lv [2,4,7,8,9] (.seq (.block 1 (.seq (.reg none [⟨some 11,.iaddrf 2 (.t 7) (.t 9),none⟩,⟨some 12,.ldf true 2 (.t 11),none⟩,⟨some 6,.alloc 55 [.nilsl 162 1,.bool false],none⟩,⟨none,.st 2 (.t 6) (.t 12),none⟩])
 (.lv [2,4,6,7,8,9] (.reg none [⟨some 13,.ld true 2 (.t 2),none⟩,⟨some 14,.ld true 2 (.t 6),none⟩,⟨some 15,.callF 154 [.t 13,.t 14],none⟩,⟨none,.st 2 (.t 2) (.t 15),none⟩]))))
 (.lv [2,4,7,8,9] (.reg none [⟨some 16,.bin .add (.t 9) (.k (.int .i64 1)),none⟩,⟨some 9,.mov (.t 16),none⟩]))))))
def k123_0:IR:=
 .seq (.reg none [⟨some 17,.ld true 2 (.t 2),none⟩,⟨none,.st 2 (.t 4) (.t 17),none⟩])
 (.ret)
def c123:IR:=
 .seq (.reg none [⟨some 2,.box 55 2 (.t 0),none⟩,⟨some 4,.alloc 55 [.nilsl 162 1,.bool false],none⟩])
 (.lv [1,2,4] (.seq (.seq (.reg none [⟨some 7,.mov (.t 1),none⟩,⟨some 8,.lenf (.t 7),none⟩,⟨some 9,.mov (.k (.int .i64 0)),none⟩])
 (.lv [2,4,7,8,9] (.block 0 (.loop [2,4,7,8,9] (some (3,[])) b123_0))))
 k123_0))
def i123:IFn:=⟨2,18,c123,[.c 4 true 2],.pure⟩
def c124:IR:=
 .seq (.reg none [⟨some 1,.box 55 2 (.t 0),none⟩,⟨some 2,.mov (.k (.int .i64 0)),none⟩])
 (.lv [1] (.seq (.block 0 (.seq (.reg none [⟨some 4,.faddr 0 (.t 1),none⟩,⟨some 5,.ld true 1 (.t 4),none⟩,⟨some 6,.callP 145 [.t 5],none⟩,⟨some 3,.mov (.t 6),none⟩])
 (.lv [1,3] (.cond (.t 3) (.lv [] (.seq (.reg none [⟨some 2,.mov (.k (.int .i64 0)),none⟩])
 (.ret)))
 (.lv [1] (.seq (.reg none [⟨some 8,.faddr 1 (.t 1),none⟩,⟨some 9,.ld false 1 (.t 8),none⟩,⟨some 7,.mov (.t 9),none⟩])
 (.lv [7] (.cond (.t 7) (.lv [] (.seq (.reg none [⟨some 2,.mov (.k (.int .i64 (-1))),none⟩])
 (.ret)))
 (.skip)))))))))
 (.lv [] (.seq (.reg none [⟨some 2,.mov (.k (.int .i64 1)),none⟩])
 (.ret)))))
def i124:IFn:=⟨1,10,c124,[.t 2],.pure⟩
def c125:IR:=
 .seq (.reg none [⟨some 1,.box 57 3 (.t 0),none⟩,⟨some 2,.alloc 57 [.nilsl 162 1,.bool false,.nilsl 162 1],none⟩])
 (.lv [1,2] (.seq (.reg (some [0,1,2,3,4,5,6]) [⟨some 3,.faddr 0 (.t 1),none⟩,⟨some 4,.ld true 2 (.t 3),none⟩,⟨some 5,.callP 155 [.t 4],none⟩,⟨some 6,.ld true 3 (.t 1),none⟩,⟨some 7,.callP 111 [.t 6],none⟩,⟨some 8,.build [.nilsl 162 1,.bool false,.nilsl 162 1] [(0,2,.t 5),(2,1,.t 7)],none⟩,⟨none,.st 3 (.t 2) (.t 8),none⟩])
 (.ret)))
def i125:IFn:=⟨1,9,c125,[.c 2 true 3],.pure⟩
def c126:IR:=
 .seq (.reg none [⟨some 1,.box 53 1 (.t 0),none⟩,⟨some 2,.mov (.k (.int .i64 0)),none⟩])
 (.lv [1] (.seq (.reg none [⟨some 3,.faddr 0 (.t 1),none⟩,⟨some 4,.ld false 1 (.t 3),none⟩,⟨some 5,.lenf (.t 4),none⟩,⟨some 2,.mov (.t 5),none⟩])
 (.ret)))
def i126:IFn:=⟨1,6,c126,[.t 2],.pure⟩
def b128_1:IR:=
 .seq (.reg none [⟨some 30,.bin .lt (.t 29) (.t 28),none⟩])
 (.lv [0,2,4,5,6,7,27,28,29,30] (.seq (.cond (.t 30) (.skip)
 (.exit 2))
 (.lv [0,2,4,5,6,7,27,28,29] (.seq (.block 3 (.seq (.reg none [⟨some 31,.iaddrf 1 (.t 27) (.t 29),none⟩,⟨some 32,.ldf false 1 (.t 31),none⟩,⟨some 9,.mov (.t 32),none⟩])
 (.lv [0,2,4,5,6,7,9,27,28,29] (.seq (.seq (.reg none [⟨some 33,.mov (.t 9),none⟩,⟨some 34,.bin .lt (.t 33) (.k (.int .u8 48)),none⟩,⟨some 35,.mov (.t 34),none⟩,⟨some 36,.mov (.t 9),(some (35,false))⟩,⟨some 37,.bin .gt (.t 36) (.k (.int .u8 57)),(some (35,false))⟩,⟨some 38,.pick (.t 35) (.k (.bool true)) (.t 37),none⟩])
 (.lv [0,2,4,5,6,7,9,27,28,29,38] (.cond (.t 38) (.lv [2] (.seq (.reg none [⟨some 39,.build [.nilsl 162 1] [],none⟩,⟨none,.st 1 (.t 2) (.t 39),none⟩,⟨some 3,.mov (.k (.bool false)),none⟩])
 (.ret)))
 (.skip))))
 (.lv [0,2,4,5,6,7,9,27,28,29] (.reg none [⟨some 40,.mov (.t 6),none⟩,⟨some 41,.bin .mul (.k (.int .u64 10)) (.t 40),none⟩,⟨some 42,.mov (.t 9),none⟩,⟨some 43,.bin .sub (.t 42) (.k (.int .u8 48)),none⟩,⟨some 44,.conv .u64 (.t 43),none⟩,⟨some 45,.bin .add (.t 41) (.t 44),none⟩,⟨some 46,.mov (.t 7),none⟩,⟨some 47,.bin .mul (.k (.int .u64 10)) (.t 46),none⟩,⟨some 6,.mov (.t 45),none⟩,⟨some 7,.mov (.t 47),none⟩]))))))
 (.lv [0,2,4,5,6,7,27,28,29] (.reg none [⟨some 48,.bin .add (.t 29) (.k (.int .i64 1)),none⟩,⟨some 29,.mov (.t 48),none⟩]))))))
def k128_0:IR:=
 .seq (.reg (some [0,1,2,4,3,5,6,7]) [⟨some 49,.ld true 1 (.t 4),none⟩,⟨some 50,.mov (.t 7),none⟩,⟨some 51,.callP 99 [.t 50],none⟩,⟨some 53,.mov (.t 6),none⟩,⟨some 52,.callF 110 [.t 49,.t 51],none⟩,⟨some 54,.callP 99 [.t 53],none⟩,⟨some 55,.callP 156 [.t 52,.t 54],none⟩,⟨none,.st 1 (.t 4) (.t 55),none⟩])
 (.lv [0,2,4,5] (.reg none [⟨some 56,.mov (.t 0),none⟩,⟨some 57,.mov (.t 5),none⟩,⟨some 58,.scut (.t 56) (some (.t 57)) none,none⟩,⟨some 0,.mov (.t 58),none⟩]))
def b128_0:IR:=
 .seq (.seq (.reg none [⟨some 18,.mov (.t 0),none⟩,⟨some 19,.slen (.t 18),none⟩,⟨some 20,.bin .gt (.t 19) (.k (.int .i64 0)),none⟩])
 (.lv [0,2,4,20] (.cond (.t 20) (.skip)
 (.exit 0))))
 (.lv [0,2,4] (.block 1 (.seq (.reg none [⟨some 21,.mov (.t 0),none⟩,⟨some 22,.slen (.t 21),none⟩,⟨some 23,.mn (.k (.int .i64 9)) (.t 22),none⟩,⟨some 5,.mov (.t 23),none⟩])
 (.lv [0,2,4,5] (.seq (.reg none [⟨some 6,.mov (.k (.int .u64 0)),none⟩,⟨some 7,.mov (.k (.int .u64 1)),none⟩])
 (.lv [0,2,4,5,6,7] (.seq (.seq (.reg none [⟨some 24,.mov (.t 0),none⟩,⟨some 25,.mov (.t 5),none⟩,⟨some 26,.scut (.t 24) none (some (.t 25)),none⟩,⟨some 27,.s2b (.t 26),none⟩,⟨some 28,.lenf (.t 27),none⟩,⟨some 29,.mov (.k (.int .i64 0)),none⟩])
 (.lv [0,2,4,5,6,7,27,28,29] (.block 2 (.loop [0,2,4,5,6,7,27,28,29] (some (4,[])) b128_1))))
 k128_0)))))))
def k128_1:IR:=
 .seq (.reg none [⟨some 59,.ld true 1 (.t 4),none⟩,⟨none,.st 1 (.t 2) (.t 59),none⟩,⟨some 3,.mov (.k (.bool true)),none⟩])
 (.ret)
def c128:IR:=
 .seq (.reg none [⟨some 2,.alloc 53 [.nilsl 162 1],none⟩,⟨some 3,.mov (.k (.bool false)),none⟩])
 (.lv [0,2] (.seq (.seq (.reg none [⟨some 10,.mov (.t 0),none⟩,⟨some 11,.bin .eq (.t 10) (.k (.str ⟨#[]⟩)),none⟩,⟨some 12,.mov (.t 11),none⟩,⟨some 13,.mov (.t 0),(some (12,false))⟩,⟨some 14,.slen (.t 13),(some (12,false))⟩,⟨some 15,.bin .gt (.t 14) (.k (.int .i64 2000)),(some (12,false))⟩,⟨some 16,.pick (.t 12) (.k (.bool true)) (.t 15),none⟩])
 (.lv [0,2,16] (.cond (.t 16) (.lv [2] (.seq (.reg none [⟨some 17,.build [.nilsl 162 1] [],none⟩,⟨none,.st 1 (.t 2) (.t 17),none⟩,⟨some 3,.mov (.k (.bool false)),none⟩])
 (.ret)))
 (.skip))))
 (.lv [0,2] (.seq (.reg none [⟨some 4,.alloc 53 [.nilsl 162 1],none⟩])
 (.lv [0,2,4] (.seq (.block 0 (.loop [0,2,4] (some (4,[])) b128_0))
 k128_1))))))
def i128:IFn:=⟨1,60,c128,[.c 2 true 1,.t 3],.pure⟩
def c129:IR:=
 .seq (.reg none [⟨some 0,.alloc 66 [.bool false,.str ⟨#[]⟩,.str ⟨#[]⟩],none⟩])
 (.lv [0] (.seq (.reg none [⟨some 1,.build [.bool false,.str ⟨#[]⟩,.str ⟨#[]⟩] [(1,1,.k (.str ⟨#[48]⟩)),(2,1,.k (.str ⟨#[49]⟩))],none⟩,⟨none,.st 3 (.t 0) (.t 1),none⟩])
 (.ret)))
def i129:IFn:=⟨0,2,c129,[.c 0 true 3],.pure⟩
def c130:IR:=
 .seq (.reg none [⟨some 2,.box 66 3 (.t 0),none⟩,⟨some 3,.box 66 3 (.t 1),none⟩,⟨some 4,.alloc 66 [.bool false,.str ⟨#[]⟩,.str ⟨#[]⟩],none⟩])
 (.lv [2,3,4] (.seq (.reg (some [0,1,2,3,4,5,6,7,8,9,10,11,12,13,14,15,16,17,18,19,20,21,22]) [⟨some 8,.ld true 3 (.t 2),none⟩,⟨some 9,.callP 134 [.t 8],none⟩,⟨some 10,.ld true 3 (.t 3),none⟩,⟨some 11,.callP 135 [.t 10],none⟩,⟨some 12,.callP 133 [.t 9,.t 11],none⟩,⟨some 13,.ld true 3 (.t 3),none⟩,⟨some 14,.callP 134 [.t 13],none⟩,⟨some 15,.ld true 3 (.t 2),none⟩,⟨some 16,.callP 135 [.t 15],none⟩,⟨some 17,.callP 133 [.t 14,.t 16],none⟩,⟨some 18,.callP 157 [.t 12,.t 17],none⟩,⟨some 19,.ld true 3 (.t 2),none⟩,⟨some 20,.callP 135 [.t 19],none⟩,⟨some 21,.ld true 3 (.t 3),none⟩,⟨some 22,.callP 135 [.t 21],none⟩,⟨some 23,.callP 133 [.t 20,.t 22],none⟩,⟨some 24,.callP 132 [.t 18,.t 23],none⟩,⟨some 7,.mov (.t 24),none⟩,⟨some 25,.ext (.t 7) 0,none⟩,⟨some 26,.ext (.t 7) 1,none⟩,⟨some 5,.alloc 66 [.bool false,.str ⟨#[]⟩,.str ⟨#[]⟩],none⟩,⟨none,.st 3 (.t 5) (.t 25),none⟩,⟨some 6,.mov (.t 26),none⟩])
 (.lv [4,5] (.seq (.reg none [⟨some 27,.ld true 3 (.t 5),none⟩,⟨none,.st 3 (.t 4) (.t 27),none⟩])
 (.ret)))))
def i130:IFn:=⟨2,28,c130,[.c 4 true 3],.pure⟩
def c131:IR:=
 .seq (.reg none [⟨some 2,.box 66 3 (.t 0),none⟩,⟨some 3,.box 66 3 (.t 1),none⟩,⟨some 4,.alloc 66 [.bool false,.str ⟨#[]⟩,.str ⟨#[]⟩],none⟩])
 (.lv [2,3,4] (.seq (.reg (some [0,1,2,3,4,5,6,7,8,9,10,11,12,13,14,15,16]) [⟨some 8,.ld true 3 (.t 2),none⟩,⟨some 9,.callP 134 [.t 8],none⟩,⟨some 10,.ld true 3 (.t 3),none⟩,⟨some 11,.callP 134 [.t 10],none⟩,⟨some 12,.callP 133 [.t 9,.t 11],none⟩,⟨some 13,.ld true 3 (.t 2),none⟩,⟨some 14,.callP 135 [.t 13],none⟩,⟨some 15,.ld true 3 (.t 3),none⟩,⟨some 16,.callP 135 [.t 15],none⟩,⟨some 17,.callP 133 [.t 14,.t 16],none⟩,⟨some 18,.callP 132 [.t 12,.t 17],none⟩,⟨some 7,.mov (.t 18),none⟩,⟨some 19,.ext (.t 7) 0,none⟩,⟨some 20,.ext (.t 7) 1,none⟩,⟨some 5,.alloc 66 [.bool false,.str ⟨#[]⟩,.str ⟨#[]⟩],none⟩,⟨none,.st 3 (.t 5) (.t 19),none⟩,⟨some 6,.mov (.t 20),none⟩])
 (.lv [4,5] (.seq (.reg none [⟨some 21,.ld true 3 (.t 5),none⟩,⟨none,.st 3 (.t 4) (.t 21),none⟩])
 (.ret)))))
def i131:IFn:=⟨2,22,c131,[.c 4 true 3],.pure⟩
def c132:IR:=
 .seq (.reg none [⟨some 2,.box 114 2 (.t 0),none⟩,⟨some 3,.box 114 2 (.t 1),none⟩,⟨some 4,.alloc 66 [.bool false,.str ⟨#[]⟩,.str ⟨#[]⟩],none⟩,⟨some 5,.mov (.k (.bool false)),none⟩])
 (.lv [2,3,4] (.seq (.seq (.reg none [⟨some 11,.faddr 1 (.t 3),none⟩,⟨some 12,.ld false 1 (.t 11),none⟩,⟨some 13,.bin .eq (.t 12) (.k (.str ⟨#[48]⟩)),none⟩])
 (.lv [2,3,4,13] (.cond (.t 13) (.lv [4] (.seq (.reg none [⟨some 14,.callP 129 [],none⟩,⟨none,.st 3 (.t 4) (.t 14),none⟩,⟨some 5,.mov (.k (.bool false)),none⟩])
 (.ret)))
 (.skip))))
 (.lv [2,3,4] (.seq (.reg none [⟨some 15,.faddr 1 (.t 2),none⟩,⟨some 16,.ld false 1 (.t 15),none⟩,⟨some 17,.faddr 1 (.t 3),none⟩,⟨some 18,.ld false 1 (.t 17),none⟩,⟨some 19,.callP 149 [.t 16,.t 18],none⟩,⟨some 6,.mov (.t 19),none⟩])
 (.lv [2,3,4,6] (.seq (.reg none [⟨some 21,.faddr 1 (.t 2),none⟩,⟨some 22,.ld false 1 (.t 21),none⟩,⟨some 23,.mov (.t 6),none⟩,⟨some 24,.callP 158 [.t 22,.t 23],none⟩,⟨some 20,.mov (.t 24),none⟩,⟨some 25,.ext (.t 20) 0,none⟩,⟨some 26,.ext (.t 20) 1,none⟩,⟨some 7,.mov (.t 25),none⟩,⟨some 8,.mov (.t 26),none⟩])
 (.lv [2,3,4,6,7] (.seq (.reg none [⟨some 28,.faddr 1 (.t 3),none⟩,⟨some 29,.ld false 1 (.t 28),none⟩,⟨some 30,.mov (.t 6),none⟩,⟨some 31,.callP 158 [.t 29,.t 30],none⟩,⟨some 27,.mov (.t 31),none⟩,⟨some 32,.ext (.t 27) 0,none⟩,⟨some 33,.ext (.t 27) 1,none⟩,⟨some 9,.mov (.t 32),none⟩,⟨some 10,.mov (.t 33),none⟩])
 (.lv [2,3,4,7,9] (.seq (.reg none [⟨some 34,.faddr 0 (.t 2),none⟩,⟨some 35,.ld false 1 (.t 34),none⟩,⟨some 36,.faddr 0 (.t 3),none⟩,⟨some 37,.ld false 1 (.t 36),none⟩,⟨some 38,.binb .ne (.t 35) (.t 37),none⟩,⟨some 39,.mov (.t 38),none⟩,⟨some 40,.mov (.t 7),(some (39,true))⟩,⟨some 41,.bin .ne (.t 40) (.k (.str ⟨#[48]⟩)),(some (39,true))⟩,⟨some 42,.pick (.t 39) (.t 41) (.k (.bool false)),none⟩,⟨some 43,.mov (.t 7),none⟩,⟨some 44,.mov (.t 9),none⟩,⟨some 45,.build [.bool false,.str ⟨#[]⟩,.str ⟨#[]⟩] [(0,1,.t 42),(1,1,.t 43),(2,1,.t 44)],none⟩,⟨none,.st 3 (.t 4) (.t 45),none⟩,⟨some 5,.mov (.k (.bool true)),none⟩])
 (.ret)))))))))))
def i132:IFn:=⟨2,46,c132,[.c 4 true 3,.t 5],.pure⟩
def c133:IR:=
 .seq (.reg none [⟨some 2,.box 114 2 (.t 0),none⟩,⟨some 3,.box 114 2 (.t 1),none⟩,⟨some 4,.alloc 114 [.bool false,.str ⟨#[]⟩],none⟩])
 (.lv [2,3,4] (.seq (.reg (some [0,1,2,3,4,5,6,7,8,9,10,11]) [⟨some 5,.faddr 0 (.t 2),none⟩,⟨some 6,.ld false 1 (.t 5),none⟩,⟨some 7,.faddr 0 (.t 3),none⟩,⟨some 8,.ld false 1 (.t 7),none⟩,⟨some 9,.binb .ne (.t 6) (.t 8),none⟩,⟨some 10,.faddr 1 (.t 2),none⟩,⟨some 11,.ld false 1 (.t 10),none⟩,⟨some 12,.faddr 1 (.t 3),none⟩,⟨some 13,.ld false 1 (.t 12),none⟩,⟨some 14,.callP 160 [.t 11,.t 13],none⟩,⟨some 15,.callP 159 [.t 9,.t 14],none⟩,⟨none,.st 2 (.t 4) (.t 15),none⟩])
 (.ret)))
def i133:IFn:=⟨2,16,c133,[.c 4 true 2],.pure⟩
def c134:IR:=
 .seq (.reg none [⟨some 1,.box 66 3 (.t 0),none⟩,⟨some 2,.alloc 114 [.bool false,.str ⟨#[]⟩],none⟩])
 (.lv [1,2] (.seq (.reg none [⟨some 3,.faddr 0 (.t 1),none⟩,⟨some 4,.ld false 1 (.t 3),none⟩,⟨some 5,.faddr 1 (.t 1),none⟩,⟨some 6,.ld false 1 (.t 5),none⟩,⟨some 7,.callP 159 [.t 4,.t 6],none⟩,⟨none,.st 2 (.t 2) (.t 7),none⟩])
 (.ret)))
def i134:IFn:=⟨1,8,c134,[.c 2 true 2],.pure⟩
def c135:IR:=
 .seq (.reg none [⟨some 1,.box 66 3 (.t 0),none⟩,⟨some 2,.alloc 114 [.bool false,.str ⟨#[]⟩],none⟩])
 (.lv [1,2] (.seq (.reg none [⟨some 3,.faddr 2 (.t 1),none⟩,⟨some 4,.ld false 1 (.t 3),none⟩,⟨some 5,.callP 159 [.k (.bool false),.t 4],none⟩,⟨none,.st 2 (.t 2) (.t 5),none⟩])
 (.ret)))
def i135:IFn:=⟨1,6,c135,[.c 2 true 2],.pure⟩
def c136:IR:=
 .seq (.reg none [⟨some 2,.mov (.k (.int .i64 0)),none⟩])
 (.lv [0] (.seq (.reg none [⟨some 3,.mov (.t 0),none⟩,⟨some 4,.callP 161 [.t 3],none⟩,⟨some 5,.bin .add (.t 4) (.k (.int .i64 31)),none⟩,⟨some 6,.bin .quo (.t 5) (.k (.int .i64 32)),none⟩,⟨some 2,.mov (.t 6),none⟩])
 (.ret)))
def i136:IFn:=⟨1,7,c136,[.t 2],.pure⟩
def b137_0:IR:=
 .seq (.seq (.reg none [⟨some 3,.mov (.t 0),none⟩,⟨some 4,.lenf (.t 3),none⟩,⟨some 5,.bin .gt (.t 4) (.k (.int .i64 0)),none⟩,⟨some 6,.mov (.t 5),none⟩,⟨some 7,.mov (.t 0),(some (6,true))⟩,⟨some 8,.mov (.t 0),(some (6,true))⟩,⟨some 9,.lenf (.t 8),(some (6,true))⟩,⟨some 10,.bin .sub (.t 9) (.k (.int .i64 1)),(some (6,true))⟩,⟨some 11,.iaddrf 1 (.t 7) (.t 10),(some (6,true))⟩,⟨some 12,.ldf false 1 (.t 11),(some (6,true))⟩,⟨some 13,.bin .eq (.t 12) (.k (.int .u32 0)),(some (6,true))⟩,⟨some 14,.pick (.t 6) (.t 13) (.k (.bool false)),none⟩])
 (.lv [0,2,14] (.cond (.t 14) (.skip)
 (.exit 0))))
 (.lv [0,2] (.block 1 (.reg none [⟨some 15,.mov (.t 0),none⟩,⟨some 16,.mov (.t 0),none⟩,⟨some 17,.lenf (.t 16),none⟩,⟨some 18,.bin .sub (.t 17) (.k (.int .i64 1)),none⟩,⟨some 19,.cut 1 (.t 15) none (some (.t 18)),none⟩,⟨some 0,.mov (.t 19),none⟩])))
def k137_0:IR:=
 .seq (.reg none [⟨some 20,.mov (.t 0),none⟩,⟨some 21,.build [.nilsl 162 1] [(0,1,.t 20)],none⟩,⟨none,.st 1 (.t 2) (.t 21),none⟩])
 (.ret)
def c137:IR:=
 .seq (.reg none [⟨some 2,.alloc 53 [.nilsl 162 1],none⟩])
 (.lv [0,2] (.seq (.block 0 (.loop [0,2] (some (2,[])) b137_0))
 k137_0))
def i137:IFn:=⟨1,22,c137,[.c 2 true 1],.pure⟩
def c143:IR:=
 .seq (.reg none [⟨some 1,.box 53 1 (.t 0),none⟩,⟨some 2,.mov (.k (.bool false)),none⟩])
 (.lv [1] (.seq (.reg none [⟨some 3,.faddr 0 (.t 1),none⟩,⟨some 4,.ld false 1 (.t 3),none⟩,⟨some 5,.lenf (.t 4),none⟩,⟨some 6,.bin .eq (.t 5) (.k (.int .i64 1)),none⟩,⟨some 7,.mov (.t 6),none⟩,⟨some 8,.faddr 0 (.t 1),(some (7,true))⟩,⟨some 9,.ld false 1 (.t 8),(some (7,true))⟩,⟨some 10,.iaddrf 1 (.t 9) (.k (.int .i64 0)),(some (7,true))⟩,⟨some 11,.ldf false 1 (.t 10),(some (7,true))⟩,⟨some 12,.bin .eq (.t 11) (.k (.int .u32 1)),(some (7,true))⟩,⟨some 13,.pick (.t 7) (.t 12) (.k (.bool false)),none⟩,⟨some 2,.mov (.t 13),none⟩])
 (.ret)))
def i143:IFn:=⟨1,14,c143,[.t 2],.pure⟩
def c144:IR:=
 .seq (.reg none [⟨some 1,.box 53 1 (.t 0),none⟩,⟨some 2,.mov (.k (.int .u64 0)),none⟩,⟨some 3,.mov (.k (.bool false)),none⟩])
 (.lv [1] (.seq (.seq (.reg none [⟨some 4,.faddr 0 (.t 1),none⟩,⟨some 5,.ld false 1 (.t 4),none⟩,⟨some 6,.lenf (.t 5),none⟩])
 (.lv [1,6] (.block 0 (.seq (.reg none [⟨some 8,.bin .eq (.t 6) (.k (.int .i64 0)),none⟩,⟨some 7,.mov (.t 8),none⟩])
 (.lv [1,6,7] (.cond (.t 7) (.lv [] (.seq (.reg none [⟨some 2,.mov (.k (.int .u64 0)),none⟩,⟨some 3,.mov (.k (.bool true)),none⟩])
 (.ret)))
 (.lv [1,6] (.seq (.reg none [⟨some 10,.bin .eq (.t 6) (.k (.int .i64 1)),none⟩,⟨some 9,.mov (.t 10),none⟩])
 (.lv [1,6,9] (.cond (.t 9) (.lv [1] (.seq (.reg none [⟨some 11,.faddr 0 (.t 1),none⟩,⟨some 12,.ld false 1 (.t 11),none⟩,⟨some 13,.iaddrf 1 (.t 12) (.k (.int .i64 0)),none⟩,⟨some 14,.ldf false 1 (.t 13),none⟩,⟨some 15,.conv .u64 (.t 14),none⟩,⟨some 2,.mov (.t 15),none⟩,⟨some 3,.mov (.k (.bool true)),none⟩])
 (.ret)))
 (.lv [1,6] (.seq (.reg none [⟨some 17,.bin .eq (.t 6) (.k (.int .i64 2)),none⟩,⟨some 16,.mov (.t 17),none⟩])
 (.lv [1,16] (.cond (.t 16) (.lv [1] (.seq (.reg (some [0,1,2,3,4,5,6,7,8,9,10,11,12,13]) [⟨some 18,.faddr 0 (.t 1),none⟩,⟨some 19,.ld false 1 (.t 18),none⟩,⟨some 20,.iaddrf 1 (.t 19) (.k (.int .i64 0)),none⟩,⟨some 21,.ldf false 1 (.t 20),none⟩,⟨some 22,.conv .u64 (.t 21),none⟩,⟨some 23,.faddr 0 (.t 1),none⟩,⟨some 24,.ld false 1 (.t 23),none⟩,⟨some 25,.iaddrf 1 (.t 24) (.k (.int .i64 1)),none⟩,⟨some 26,.ldf false 1 (.t 25),none⟩,⟨some 27,.conv .u64 (.t 26),none⟩,⟨some 28,.bin .shl (.t 27) (.k (.int .u64 32)),none⟩,⟨some 29,.bin .or (.t 22) (.t 28),none⟩,⟨some 2,.mov (.t 29),none⟩,⟨some 3,.mov (.k (.bool true)),none⟩])
 (.ret)))
 (.skip)))))))))))))))
 (.lv [] (.seq (.reg none [⟨some 2,.mov (.k (.int .u64 0)),none⟩,⟨some 3,.mov (.k (.bool false)),none⟩])
 (.ret)))))
def i144:IFn:=⟨1,30,c144,[.t 2,.t 3],.pure⟩
def c145:IR:=
 .seq (.reg none [⟨some 1,.box 53 1 (.t 0),none⟩,⟨some 2,.mov (.k (.bool false)),none⟩])
 (.lv [1] (.seq (.reg none [⟨some 3,.faddr 0 (.t 1),none⟩,⟨some 4,.ld false 1 (.t 3),none⟩,⟨some 5,.lenf (.t 4),none⟩,⟨some 6,.bin .eq (.t 5) (.k (.int .i64 0)),none⟩,⟨some 2,.mov (.t 6),none⟩])
 (.ret)))
def i145:IFn:=⟨1,7,c145,[.t 2],.pure⟩
def b146_0:IR:=
 .seq (.seq (.reg none [⟨some 18,.mov (.t 8),none⟩,⟨some 19,.bin .ge (.t 18) (.k (.int .i64 0)),none⟩])
 (.lv [1,2,4,6,7,8,19] (.cond (.t 19) (.skip)
 (.exit 0))))
 (.lv [1,2,4,6,7,8] (.seq (.block 1 (.seq (.reg none [⟨some 22,.mov (.t 7),none⟩,⟨some 23,.bin .shl (.t 22) (.k (.int .u64 32)),none⟩,⟨some 24,.faddr 0 (.t 2),none⟩,⟨some 25,.ld false 1 (.t 24),none⟩,⟨some 26,.mov (.t 8),none⟩,⟨some 27,.iaddrf 1 (.t 25) (.t 26),none⟩,⟨some 28,.ldf false 1 (.t 27),none⟩,⟨some 29,.conv .u64 (.t 28),none⟩,⟨some 30,.bin .or (.t 23) (.t 29),none⟩,⟨some 9,.mov (.t 30),none⟩])
 (.lv [1,2,4,6,8,9] (.reg (some [0,1,2,3,4,5,6,7,8,9,10,11,12,13]) [⟨some 31,.mov (.t 6),none⟩,⟨some 32,.mov (.t 8),none⟩,⟨some 33,.mov (.t 9),none⟩,⟨some 34,.mov (.t 1),none⟩,⟨some 35,.conv .u64 (.t 34),none⟩,⟨some 36,.bin .quo (.t 33) (.t 35),none⟩,⟨some 37,.conv .u32 (.t 36),none⟩,⟨some 38,.mov (.t 9),none⟩,⟨some 39,.mov (.t 1),none⟩,⟨some 40,.conv .u64 (.t 39),none⟩,⟨some 41,.bin .rem (.t 38) (.t 40),none⟩,⟨some 42,.iaddr 1 (.t 31) (.t 32),none⟩,⟨none,.st 1 (.t 42) (.t 37),none⟩,⟨some 7,.mov (.t 41),none⟩]))))
 (.lv [1,2,4,6,7,8] (.reg none [⟨some 20,.mov (.t 8),none⟩,⟨some 21,.bin .sub (.t 20) (.k (.int .i64 1)),none⟩,⟨some 8,.mov (.t 21),none⟩]))))
def k146_0:IR:=
 .seq (.reg none [⟨some 43,.mov (.t 6),none⟩,⟨some 44,.callF 137 [.t 43],none⟩,⟨some 45,.mov (.t 7),none⟩,⟨some 46,.conv .u32 (.t 45),none⟩,⟨none,.st 1 (.t 4) (.t 44),none⟩,⟨some 5,.mov (.t 46),none⟩])
 (.ret)
def c146:IR:=
 .seq (.reg none [⟨some 2,.box 53 1 (.t 0),none⟩,⟨some 4,.alloc 53 [.nilsl 162 1],none⟩,⟨some 5,.mov (.k (.int .u32 0)),none⟩])
 (.lv [1,2,4] (.seq (.reg none [⟨some 10,.faddr 0 (.t 2),none⟩,⟨some 11,.ld false 1 (.t 10),none⟩,⟨some 12,.lenf (.t 11),none⟩,⟨some 13,.mk 162 4 [.int .u32 0] (.t 12),none⟩,⟨some 6,.mov (.t 13),none⟩])
 (.lv [1,2,4,6] (.seq (.reg none [⟨some 7,.mov (.k (.int .u64 0)),none⟩])
 (.lv [1,2,4,6,7] (.seq (.seq (.reg none [⟨some 14,.faddr 0 (.t 2),none⟩,⟨some 15,.ld false 1 (.t 14),none⟩,⟨some 16,.lenf (.t 15),none⟩,⟨some 17,.bin .sub (.t 16) (.k (.int .i64 1)),none⟩,⟨some 8,.mov (.t 17),none⟩])
 (.lv [1,2,4,6,7,8] (.block 0 (.loop [1,2,4,6,7,8] (some (4,[])) b146_0))))
 k146_0))))))
def i146:IFn:=⟨2,47,c146,[.c 4 true 1,.t 5],.pure⟩
def b147_0:IR:=
 .seq (.seq (.reg none [⟨some 4,.mov (.t 3),none⟩,⟨some 5,.mov (.t 0),none⟩,⟨some 6,.slen (.t 5),none⟩,⟨some 7,.bin .lt (.t 4) (.t 6),none⟩,⟨some 8,.mov (.t 7),none⟩,⟨some 9,.mov (.t 3),(some (8,true))⟩,⟨some 10,.bin .le (.t 9) (.k (.int .i64 2000)),(some (8,true))⟩,⟨some 11,.pick (.t 8) (.t 10) (.k (.bool false)),none⟩])
 (.lv [0,3,11] (.cond (.t 11) (.skip)
 (.exit 0))))
 (.lv [0,3] (.seq (.block 1 (.seq (.reg none [⟨some 14,.mov (.t 0),none⟩,⟨some 15,.mov (.t 3),none⟩,⟨some 16,.sidx (.t 14) (.t 15),none⟩,⟨some 17,.bin .lt (.t 16) (.k (.int .u8 48)),none⟩,⟨some 18,.mov (.t 17),none⟩,⟨some 19,.mov (.t 0),(some (18,false))⟩,⟨some 20,.mov (.t 3),(some (18,false))⟩,⟨some 21,.sidx (.t 19) (.t 20),(some (18,false))⟩,⟨some 22,.bin .gt (.t 21) (.k (.int .u8 57)),(some (18,false))⟩,⟨some 23,.pick (.t 18) (.k (.bool true)) (.t 22),none⟩])
 (.lv [0,3,23] (.cond (.t 23) (.lv [] (.seq (.reg none [⟨some 2,.mov (.k (.bool false)),none⟩])
 (.ret)))
 (.skip)))))
 (.lv [0,3] (.reg none [⟨some 12,.mov (.t 3),none⟩,⟨some 13,.bin .add (.t 12) (.k (.int .i64 1)),none⟩,⟨some 3,.mov (.t 13),none⟩]))))
def k147_0:IR:=
 .seq (.reg none [⟨some 24,.mov (.t 0),none⟩,⟨some 25,.slen (.t 24),none⟩,⟨some 26,.bin .ge (.t 25) (.k (.int .i64 1)),none⟩,⟨some 27,.mov (.t 26),none⟩,⟨some 28,.mov (.t 0),(some (27,true))⟩,⟨some 29,.slen (.t 28),(some (27,true))⟩,⟨some 30,.bin .le (.t 29) (.k (.int .i64 2000)),(some (27,true))⟩,⟨some 31,.pick (.t 27) (.t 30) (.k (.bool false)),none⟩,⟨some 2,.mov (.t 31),none⟩])
 (.ret)
def c147:IR:=
 .seq (.reg none [⟨some 2,.mov (.k (.bool false)),none⟩])
 (.lv [0] (.seq (.seq (.reg none [⟨some 3,.mov (.k (.int .i64 0)),none⟩])
 (.lv [0,3] (.block 0 (.loop [0,3] (some (0,[])) b147_0))))
 k147_0))
def i147:IFn:=⟨1,32,c147,[.t 2],.pure⟩
def b148_0:IR:=
 .seq (.seq (.reg none [⟨some 3,.mov (.t 0),none⟩,⟨some 4,.slen (.t 3),none⟩,⟨some 5,.bin .gt (.t 4) (.k (.int .i64 1)),none⟩,⟨some 6,.mov (.t 5),none⟩,⟨some 7,.mov (.t 0),(some (6,true))⟩,⟨some 8,.sidx (.t 7) (.k (.int .i64 0)),(some (6,true))⟩,⟨some 9,.bin .eq (.t 8) (.k (.int .u8 48)),(some (6,true))⟩,⟨some 10,.pick (.t 6) (.t 9) (.k (.bool false)),none⟩])
 (.lv [0,10] (.cond (.t 10) (.skip)
 (.exit 0))))
 (.lv [0] (.block 1 (.reg none [⟨some 11,.mov (.t 0),none⟩,⟨some 12,.scut (.t 11) (some (.k (.int .i64 1))) none,none⟩,⟨some 0,.mov (.t 12),none⟩])))
def k148_0:IR:=
 .seq (.reg none [⟨some 13,.mov (.t 0),none⟩,⟨some 2,.mov (.t 13),none⟩])
 (.ret)
def c148:IR:=
 .seq (.reg none [⟨some 2,.mov (.k (.str ⟨#[]⟩)),none⟩])
 (.lv [0] (.seq (.block 0 (.loop [0] (some (0,[])) b148_0))
 k148_0))
def i148:IFn:=⟨1,14,c148,[.t 2],.pure⟩
def b149_0:IR:=
 .seq (.seq (.reg none [⟨some 8,.mov (.t 5),none⟩,⟨some 9,.bin .lt (.t 8) (.k (.int .i64 20000)),none⟩,⟨some 10,.mov (.t 9),none⟩,⟨some 11,.mov (.t 1),(some (10,true))⟩,⟨some 12,.bin .ne (.t 11) (.k (.str ⟨#[48]⟩)),(some (10,true))⟩,⟨some 13,.pick (.t 10) (.t 12) (.k (.bool false)),none⟩])
 (.lv [0,1,5,13] (.cond (.t 13) (.skip)
 (.exit 0))))
 (.lv [0,1,5] (.seq (.block 1 (.seq (.reg none [⟨some 17,.mov (.t 0),none⟩,⟨some 18,.mov (.t 1),none⟩,⟨some 19,.callP 158 [.t 17,.t 18],none⟩,⟨some 16,.mov (.t 19),none⟩,⟨some 20,.ext (.t 16) 0,none⟩,⟨some 21,.ext (.t 16) 1,none⟩,⟨some 6,.mov (.t 20),none⟩,⟨some 7,.mov (.t 21),none⟩])
 (.lv [1,5,7] (.seq (.reg none [⟨some 22,.mov (.t 1),none⟩,⟨some 0,.mov (.t 22),none⟩])
 (.lv [0,5,7] (.reg none [⟨some 23,.mov (.t 7),none⟩,⟨some 1,.mov (.t 23),none⟩]))))))
 (.lv [0,1,5] (.reg none [⟨some 14,.mov (.t 5),none⟩,⟨some 15,.bin .add (.t 14) (.k (.int .i64 1)),none⟩,⟨some 5,.mov (.t 15),none⟩]))))
def k149_0:IR:=
 .seq (.reg none [⟨some 24,.mov (.t 0),none⟩,⟨some 4,.mov (.t 24),none⟩])
 (.ret)
def c149:IR:=
 .seq (.reg none [⟨some 4,.mov (.k (.str ⟨#[]⟩)),none⟩])
 (.lv [0,1] (.seq (.seq (.reg none [⟨some 5,.mov (.k (.int .i64 0)),none⟩])
 (.lv [0,1,5] (.block 0 (.loop [0,1,5] (some (0,[])) b149_0))))
 k149_0))
def i149:IFn:=⟨2,25,c149,[.t 4],.pure⟩
def b150_0:IR:=
 .seq (.seq (.reg none [⟨some 12,.mov (.t 4),none⟩,⟨some 13,.bin .ge (.t 12) (.k (.int .i64 0)),none⟩])
 (.lv [0,3,4,13] (.cond (.t 13) (.skip)
 (.exit 0))))
 (.lv [0,3,4] (.seq (.block 1 (.reg none [⟨some 16,.mov (.t 3),none⟩,⟨some 17,.mov (.t 0),none⟩,⟨some 18,.mov (.t 4),none⟩,⟨some 19,.iaddrf 1 (.t 17) (.t 18),none⟩,⟨some 20,.ldf false 1 (.t 19),none⟩,⟨some 21,.bin .add (.k (.int .i64 48)) (.t 20),none⟩,⟨some 22,.conv .u8 (.t 21),none⟩,⟨some 23,.bsl 5 1 [.t 22],none⟩,⟨some 24,.app 5 1 1 (.t 16) (.t 23),none⟩,⟨some 3,.mov (.t 24),none⟩]))
 (.lv [0,3,4] (.reg none [⟨some 14,.mov (.t 4),none⟩,⟨some 15,.bin .sub (.t 14) (.k (.int .i64 1)),none⟩,⟨some 4,.mov (.t 15),none⟩]))))
def k150_0:IR:=
 .seq (.seq (.reg none [⟨some 25,.mov (.t 3),none⟩,⟨some 26,.len (.t 25),none⟩,⟨some 27,.bin .eq (.t 26) (.k (.int .i64 0)),none⟩])
 (.lv [3,27] (.cond (.t 27) (.lv [] (.seq (.reg none [⟨some 2,.mov (.k (.str ⟨#[48]⟩)),none⟩])
 (.ret)))
 (.skip))))
 (.lv [3] (.seq (.reg none [⟨some 28,.mov (.t 3),none⟩,⟨some 29,.b2s (.t 28),none⟩,⟨some 30,.callP 148 [.t 29],none⟩,⟨some 2,.mov (.t 30),none⟩])
 (.ret)))
def c150:IR:=
 .seq (.reg none [⟨some 2,.mov (.k (.str ⟨#[]⟩)),none⟩])
 (.lv [0] (.seq (.reg none [⟨some 5,.mov (.t 0),none⟩,⟨some 6,.lenf (.t 5),none⟩,⟨some 7,.bin .add (.t 6) (.k (.int .i64 1)),none⟩,⟨some 8,.mk0 5 1 1 (.t 7),none⟩,⟨some 3,.mov (.t 8),none⟩])
 (.lv [0,3] (.seq (.seq (.reg none [⟨some 9,.mov (.t 0),none⟩,⟨some 10,.lenf (.t 9),none⟩,⟨some 11,.bin .sub (.t 10) (.k (.int .i64 1)),none⟩,⟨some 4,.mov (.t 11),none⟩])
 (.lv [0,3,4] (.block 0 (.loop [0,3,4] (some (1,[])) b150_0))))
 k150_0))))
def i150:IFn:=⟨1,31,c150,[.t 2],.pure⟩
def b151_1:IR:=
 .seq (.seq (.reg none [⟨some 29,.mov (.t 7),none⟩,⟨some 30,.bin .ne (.t 29) (.k (.int .u64 0)),none⟩])
 (.lv [4,5,7,30] (.cond (.t 30) (.skip)
 (.exit 2))))
 (.lv [4,5,7] (.block 3 (.reg (some [0,1,2,3,4,5]) [⟨some 31,.mov (.t 7),none⟩,⟨some 32,.mov (.t 5),none⟩,⟨some 33,.mov (.t 7),none⟩,⟨some 34,.bin .rem (.t 32) (.t 33),none⟩,⟨some 5,.mov (.t 31),none⟩,⟨some 7,.mov (.t 34),none⟩])))
def k151_0:IR:=
 .seq (.reg none [⟨some 35,.mov (.t 5),none⟩,⟨some 36,.callP 99 [.t 35],none⟩,⟨none,.st 1 (.t 4) (.t 36),none⟩])
 (.ret)
def k151_1:IR:=
 .seq (.reg none [⟨some 38,.ld true 1 (.t 2),none⟩,⟨some 39,.ld true 1 (.t 3),none⟩,⟨some 40,.callF 153 [.t 38,.t 39],none⟩,⟨some 37,.mov (.t 40),none⟩,⟨some 41,.ext (.t 37) 0,none⟩,⟨some 42,.ext (.t 37) 1,none⟩,⟨some 43,.ext (.t 37) 2,none⟩,⟨some 9,.alloc 53 [.nilsl 162 1],none⟩,⟨some 10,.alloc 53 [.nilsl 162 1],none⟩,⟨none,.st 1 (.t 9) (.t 41),none⟩,⟨none,.st 1 (.t 10) (.t 42),none⟩,⟨some 11,.mov (.t 43),none⟩])
 (.lv [2,3,4,10] (.reg (some [0,1,2,3]) [⟨some 44,.ld true 1 (.t 3),none⟩,⟨some 45,.ld true 1 (.t 10),none⟩,⟨none,.sta [10] 1 (.t 2) (.t 44),none⟩,⟨none,.st 1 (.t 3) (.t 45),none⟩]))
def b151_0:IR:=
 .seq (.seq (.reg none [⟨some 12,.ld true 1 (.t 3),none⟩,⟨some 13,.callR 145 [.t 12],none⟩,⟨some 14,.not (.t 13),none⟩])
 (.lv [2,3,4,14] (.cond (.t 14) (.skip)
 (.exit 0))))
 (.lv [2,3,4] (.block 1 (.seq (.reg none [⟨some 16,.ld true 1 (.t 2),none⟩,⟨some 17,.callR 144 [.t 16],none⟩,⟨some 15,.mov (.t 17),none⟩,⟨some 18,.ext (.t 15) 0,none⟩,⟨some 19,.ext (.t 15) 1,none⟩,⟨some 5,.mov (.t 18),none⟩,⟨some 6,.mov (.t 19),none⟩])
 (.lv [2,3,4,5,6] (.seq (.reg none [⟨some 21,.ld true 1 (.t 3),none⟩,⟨some 22,.callR 144 [.t 21],none⟩,⟨some 20,.mov (.t 22),none⟩,⟨some 23,.ext (.t 20) 0,none⟩,⟨some 24,.ext (.t 20) 1,none⟩,⟨some 7,.mov (.t 23),none⟩,⟨some 8,.mov (.t 24),none⟩])
 (.lv [2,3,4,5,6,7,8] (.seq (.seq (.reg none [⟨some 25,.mov (.t 6),none⟩,⟨some 26,.mov (.t 25),none⟩,⟨some 27,.mov (.t 8),(some (26,true))⟩,⟨some 28,.pick (.t 26) (.t 27) (.k (.bool false)),none⟩])
 (.lv [2,3,4,5,7,28] (.cond (.t 28) (.lv [4,5,7] (.seq (.block 2 (.loop [4,5,7] (some (4,[])) b151_1))
 k151_0))
 (.skip))))
 k151_1)))))))
def k151_2:IR:=
 .seq (.reg none [⟨some 46,.ld true 1 (.t 2),none⟩,⟨none,.st 1 (.t 4) (.t 46),none⟩])
 (.ret)
def c151:IR:=
 .seq (.reg none [⟨some 2,.box 53 1 (.t 0),none⟩,⟨some 3,.box 53 1 (.t 1),none⟩,⟨some 4,.alloc 53 [.nilsl 162 1],none⟩])
 (.lv [2,3,4] (.seq (.block 0 (.loop [2,3,4] (some (4,[])) b151_0))
 k151_2))
def i151:IFn:=⟨2,47,c151,[.c 4 true 1],.pure⟩
def c152:IR:=
 .seq (.reg none [⟨some 1,.box 55 2 (.t 0),none⟩,⟨some 2,.alloc 53 [.nilsl 162 1],none⟩])
 (.lv [1,2] (.seq (.reg none [⟨some 3,.faddr 0 (.t 1),none⟩,⟨some 4,.ld true 1 (.t 3),none⟩,⟨none,.st 1 (.t 2) (.t 4),none⟩])
 (.ret)))
def i152:IFn:=⟨1,5,c152,[.c 2 true 1],.pure⟩
def c153:IR:=
 .seq (.reg none [⟨some 2,.box 53 1 (.t 0),none⟩,⟨some 3,.box 53 1 (.t 1),none⟩,⟨some 4,.alloc 53 [.nilsl 162 1],none⟩,⟨some 5,.alloc 53 [.nilsl 162 1],none⟩,⟨some 6,.mov (.k (.bool false)),none⟩])
 (.lv [2,3,4,5] (.seq (.block 0 (.seq (.reg none [⟨some 12,.faddr 0 (.t 3),none⟩,⟨some 13,.ld false 1 (.t 12),none⟩,⟨some 14,.lenf (.t 13),none⟩,⟨some 15,.bin .eq (.t 14) (.k (.int .i64 0)),none⟩,⟨some 11,.mov (.t 15),none⟩])
 (.lv [2,3,4,5,11] (.cond (.t 11) (.lv [4,5] (.seq (.reg none [⟨some 16,.build [.nilsl 162 1] [],none⟩,⟨some 17,.build [.nilsl 162 1] [],none⟩,⟨none,.st 1 (.t 4) (.t 16),none⟩,⟨none,.st 1 (.t 5) (.t 17),none⟩,⟨some 6,.mov (.k (.bool false)),none⟩])
 (.ret)))
 (.lv [2,3,4,5] (.seq (.reg none [⟨some 19,.ld true 1 (.t 2),none⟩,⟨some 20,.ld true 1 (.t 3),none⟩,⟨some 21,.callP 112 [.t 19,.t 20],none⟩,⟨some 22,.bin .lt (.t 21) (.k (.int .i64 0)),none⟩,⟨some 18,.mov (.t 22),none⟩])
 (.lv [2,3,4,5,18] (.cond (.t 18) (.lv [2,4,5] (.seq (.reg (some [0,1,2,3,4]) [⟨some 23,.build [.nilsl 162 1] [],none⟩,⟨some 24,.ld true 1 (.t 2),none⟩,⟨none,.sta [2] 1 (.t 4) (.t 23),none⟩,⟨none,.st 1 (.t 5) (.t 24),none⟩,⟨some 6,.mov (.k (.bool true)),none⟩])
 (.ret)))
 (.lv [2,3,4,5] (.seq (.reg none [⟨some 26,.faddr 0 (.t 3),none⟩,⟨some 27,.ld false 1 (.t 26),none⟩,⟨some 28,.lenf (.t 27),none⟩,⟨some 29,.bin .eq (.t 28) (.k (.int .i64 1)),none⟩,⟨some 25,.mov (.t 29),none⟩])
 (.lv [2,3,4,5,25] (.cond (.t 25) (.lv [2,3,4,5] (.seq (.reg (some [0,1,2,3,4,5,6,7,8,9,10,11]) [⟨some 31,.ld true 1 (.t 2),none⟩,⟨some 32,.faddr 0 (.t 3),none⟩,⟨some 33,.ld false 1 (.t 32),none⟩,⟨some 34,.iaddrf 1 (.t 33) (.k (.int .i64 0)),none⟩,⟨some 35,.ldf false 1 (.t 34),none⟩,⟨some 36,.callP 146 [.t 31,.t 35],none⟩,⟨some 30,.mov (.t 36),none⟩,⟨some 37,.ext (.t 30) 0,none⟩,⟨some 38,.ext (.t 30) 1,none⟩,⟨some 7,.alloc 53 [.nilsl 162 1],none⟩,⟨none,.st 1 (.t 7) (.t 37),none⟩,⟨some 8,.mov (.t 38),none⟩])
 (.lv [4,5,7,8] (.seq (.reg (some [0,1,2,3,4,5,6]) [⟨some 39,.ld true 1 (.t 7),none⟩,⟨some 40,.mov (.t 8),none⟩,⟨some 41,.conv .u64 (.t 40),none⟩,⟨some 42,.callP 99 [.t 41],none⟩,⟨none,.st 1 (.t 4) (.t 39),none⟩,⟨none,.st 1 (.t 5) (.t 42),none⟩,⟨some 6,.mov (.k (.bool true)),none⟩])
 (.ret)))))
 (.skip)))))))))))))
 (.lv [2,3,4,5] (.seq (.reg none [⟨some 44,.ld true 1 (.t 2),none⟩,⟨some 45,.ld true 1 (.t 3),none⟩,⟨some 46,.callP 165 [.t 44,.t 45],none⟩,⟨some 43,.mov (.t 46),none⟩,⟨some 47,.ext (.t 43) 0,none⟩,⟨some 48,.ext (.t 43) 1,none⟩,⟨some 9,.alloc 53 [.nilsl 162 1],none⟩,⟨some 10,.alloc 53 [.nilsl 162 1],none⟩,⟨none,.st 1 (.t 9) (.t 47),none⟩,⟨none,.st 1 (.t 10) (.t 48),none⟩])
 (.lv [4,5,9,10] (.seq (.reg (some [0,1,2,3,4]) [⟨some 49,.ld true 1 (.t 9),none⟩,⟨some 50,.ld true 1 (.t 10),none⟩,⟨none,.sta [10] 1 (.t 4) (.t 49),none⟩,⟨none,.st 1 (.t 5) (.t 50),none⟩,⟨some 6,.mov (.k (.bool true)),none⟩])
 (.ret)))))))
def i153:IFn:=⟨2,51,c153,[.c 4 true 1,.c 5 true 1,.t 6],.pure⟩
def c154:IR:=
 .seq (.reg none [⟨some 2,.box 55 2 (.t 0),none⟩,⟨some 3,.box 55 2 (.t 1),none⟩,⟨some 4,.alloc 55 [.nilsl 162 1,.bool false],none⟩])
 (.lv [2,3,4] (.seq (.seq (.reg none [⟨some 9,.faddr 1 (.t 2),none⟩,⟨some 10,.ld false 1 (.t 9),none⟩,⟨some 11,.faddr 1 (.t 3),none⟩,⟨some 12,.ld false 1 (.t 11),none⟩,⟨some 13,.binb .eq (.t 10) (.t 12),none⟩])
 (.lv [2,3,4,13] (.cond (.t 13) (.lv [2,3,4] (.seq (.reg (some [0,1,2,3,4,5,6,7,8]) [⟨some 14,.faddr 1 (.t 2),none⟩,⟨some 15,.ld false 1 (.t 14),none⟩,⟨some 16,.faddr 0 (.t 2),none⟩,⟨some 17,.ld true 1 (.t 16),none⟩,⟨some 18,.faddr 0 (.t 3),none⟩,⟨some 19,.ld true 1 (.t 18),none⟩,⟨some 20,.callP 156 [.t 17,.t 19],none⟩,⟨some 21,.callP 109 [.t 15,.t 20],none⟩,⟨none,.st 2 (.t 4) (.t 21),none⟩])
 (.ret)))
 (.skip))))
 (.lv [2,3,4] (.seq (.seq (.reg none [⟨some 23,.faddr 0 (.t 2),none⟩,⟨some 24,.ld true 1 (.t 23),none⟩,⟨some 25,.faddr 0 (.t 3),none⟩,⟨some 26,.ld true 1 (.t 25),none⟩,⟨some 27,.callP 166 [.t 24,.t 26],none⟩,⟨some 22,.mov (.t 27),none⟩,⟨some 28,.ext (.t 22) 0,none⟩,⟨some 29,.ext (.t 22) 1,none⟩,⟨some 5,.alloc 53 [.nilsl 162 1],none⟩,⟨none,.st 1 (.t 5) (.t 28),none⟩,⟨some 6,.mov (.t 29),none⟩])
 (.lv [2,3,4,5,6] (.seq (.reg none [⟨some 30,.mov (.t 6),none⟩])
 (.lv [2,3,4,5,30] (.cond (.t 30) (.lv [2,4,5] (.seq (.reg none [⟨some 31,.faddr 1 (.t 2),none⟩,⟨some 32,.ld false 1 (.t 31),none⟩,⟨some 33,.ld true 1 (.t 5),none⟩,⟨some 34,.callF 109 [.t 32,.t 33],none⟩,⟨none,.st 2 (.t 4) (.t 34),none⟩])
 (.ret)))
 (.skip))))))
 (.lv [2,3,4] (.seq (.reg none [⟨some 36,.faddr 0 (.t 3),none⟩,⟨some 37,.ld true 1 (.t 36),none⟩,⟨some 38,.faddr 0 (.t 2),none⟩,⟨some 39,.ld true 1 (.t 38),none⟩,⟨some 40,.callP 166 [.t 37,.t 39],none⟩,⟨some 35,.mov (.t 40),none⟩,⟨some 41,.ext (.t 35) 0,none⟩,⟨some 42,.ext (.t 35) 1,none⟩,⟨some 7,.alloc 53 [.nilsl 162 1],none⟩,⟨none,.st 1 (.t 7) (.t 41),none⟩,⟨some 8,.mov (.t 42),none⟩])
 (.lv [3,4,7] (.seq (.reg none [⟨some 43,.faddr 1 (.t 3),none⟩,⟨some 44,.ld false 1 (.t 43),none⟩,⟨some 45,.ld true 1 (.t 7),none⟩,⟨some 46,.callF 109 [.t 44,.t 45],none⟩,⟨none,.st 2 (.t 4) (.t 46),none⟩])
 (.ret)))))))))
def i154:IFn:=⟨2,47,c154,[.c 4 true 2],.pure⟩
def c155:IR:=
 .seq (.reg none [⟨some 1,.box 55 2 (.t 0),none⟩,⟨some 2,.alloc 55 [.nilsl 162 1,.bool false],none⟩])
 (.lv [1,2] (.seq (.reg none [⟨some 3,.faddr 1 (.t 1),none⟩,⟨some 4,.ld false 1 (.t 3),none⟩,⟨some 5,.not (.t 4),none⟩,⟨some 6,.faddr 0 (.t 1),none⟩,⟨some 7,.ld true 1 (.t 6),none⟩,⟨some 8,.callP 109 [.t 5,.t 7],none⟩,⟨none,.st 2 (.t 2) (.t 8),none⟩])
 (.ret)))
def i155:IFn:=⟨1,9,c155,[.c 2 true 2],.pure⟩
def b156_0:IR:=
 .seq (.reg none [⟨some 29,.bin .lt (.t 28) (.t 27),none⟩])
 (.lv [4,5,6,7,8,27,28,29] (.seq (.cond (.t 29) (.skip)
 (.exit 0))
 (.lv [4,5,6,7,8,27,28] (.seq (.block 1 (.seq (.reg none [⟨some 30,.mov (.t 28),none⟩,⟨some 9,.mov (.t 30),none⟩])
 (.lv [4,5,6,7,8,9,27,28] (.seq (.reg none [⟨some 10,.mov (.k (.int .u32 0)),none⟩])
 (.lv [4,5,6,7,8,9,10,27,28] (.seq (.seq (.reg none [⟨some 31,.mov (.t 9),none⟩,⟨some 32,.mov (.t 6),none⟩,⟨some 33,.lenf (.t 32),none⟩,⟨some 34,.bin .lt (.t 31) (.t 33),none⟩])
 (.lv [4,5,6,7,8,9,10,27,28,34] (.cond (.t 34) (.lv [4,5,6,7,8,9,27,28] (.reg none [⟨some 35,.mov (.t 6),none⟩,⟨some 36,.mov (.t 9),none⟩,⟨some 37,.iaddrf 1 (.t 35) (.t 36),none⟩,⟨some 38,.ldf false 1 (.t 37),none⟩,⟨some 10,.mov (.t 38),none⟩]))
 (.skip))))
 (.lv [4,5,6,7,8,9,10,27,28] (.reg none [⟨some 40,.mov (.t 7),none⟩,⟨some 41,.mov (.t 9),none⟩,⟨some 42,.mov (.t 5),none⟩,⟨some 43,.mov (.t 9),none⟩,⟨some 44,.iaddrf 1 (.t 42) (.t 43),none⟩,⟨some 45,.ldf false 1 (.t 44),none⟩,⟨some 46,.mov (.t 10),none⟩,⟨some 47,.mov (.t 8),none⟩,⟨some 48,.callP 167 [.t 45,.t 46,.t 47],none⟩,⟨some 39,.mov (.t 48),none⟩,⟨some 49,.ext (.t 39) 0,none⟩,⟨some 50,.ext (.t 39) 1,none⟩,⟨some 51,.iaddr 1 (.t 40) (.t 41),none⟩,⟨none,.st 1 (.t 51) (.t 49),none⟩,⟨some 8,.mov (.t 50),none⟩]))))))))
 (.lv [4,5,6,7,8,27,28] (.reg none [⟨some 52,.bin .add (.t 28) (.k (.int .i64 1)),none⟩,⟨some 28,.mov (.t 52),none⟩]))))))
def k156_0:IR:=
 .seq (.reg none [⟨some 53,.mov (.t 7),none⟩,⟨some 54,.mov (.t 5),none⟩,⟨some 55,.lenf (.t 54),none⟩,⟨some 56,.mov (.t 8),none⟩,⟨some 57,.iaddr 1 (.t 53) (.t 55),none⟩,⟨none,.st 1 (.t 57) (.t 56),none⟩])
 (.lv [4,7] (.seq (.reg none [⟨some 58,.mov (.t 7),none⟩,⟨some 59,.callF 137 [.t 58],none⟩,⟨none,.st 1 (.t 4) (.t 59),none⟩])
 (.ret)))
def c156:IR:=
 .seq (.reg none [⟨some 2,.box 53 1 (.t 0),none⟩,⟨some 3,.box 53 1 (.t 1),none⟩,⟨some 4,.alloc 53 [.nilsl 162 1],none⟩])
 (.lv [2,3,4] (.seq (.reg (some [0,1,2,3,4,5]) [⟨some 11,.faddr 0 (.t 2),none⟩,⟨some 12,.ld false 1 (.t 11),none⟩,⟨some 13,.faddr 0 (.t 3),none⟩,⟨some 14,.ld false 1 (.t 13),none⟩,⟨some 5,.mov (.t 12),none⟩,⟨some 6,.mov (.t 14),none⟩])
 (.lv [4,5,6] (.seq (.seq (.reg none [⟨some 15,.mov (.t 5),none⟩,⟨some 16,.lenf (.t 15),none⟩,⟨some 17,.mov (.t 6),none⟩,⟨some 18,.lenf (.t 17),none⟩,⟨some 19,.bin .lt (.t 16) (.t 18),none⟩])
 (.lv [4,5,6,19] (.cond (.t 19) (.lv [4,5,6] (.reg none [⟨some 20,.mov (.t 6),none⟩,⟨some 21,.mov (.t 5),none⟩,⟨some 5,.mov (.t 20),none⟩,⟨some 6,.mov (.t 21),none⟩]))
 (.skip))))
 (.lv [4,5,6] (.seq (.reg none [⟨some 22,.mov (.t 5),none⟩,⟨some 23,.lenf (.t 22),none⟩,⟨some 24,.bin .add (.t 23) (.k (.int .i64 1)),none⟩,⟨some 25,.mk 162 4 [.int .u32 0] (.t 24),none⟩,⟨some 7,.mov (.t 25),none⟩])
 (.lv [4,5,6,7] (.seq (.reg none [⟨some 8,.mov (.k (.int .u32 0)),none⟩])
 (.lv [4,5,6,7,8] (.seq (.seq (.reg none [⟨some 26,.mov (.t 5),none⟩,⟨some 27,.lenf (.t 26),none⟩,⟨some 28,.mov (.k (.int .i64 0)),none⟩])
 (.lv [4,5,6,7,8,27,28] (.block 0 (.loop [4,5,6,7,8,27,28] (some (5,[])) b156_0))))
 k156_0))))))))))
def i156:IFn:=⟨2,60,c156,[.c 4 true 1],.pure⟩
def c157:IR:=
 .seq (.reg none [⟨some 2,.box 114 2 (.t 0),none⟩,⟨some 3,.box 114 2 (.t 1),none⟩,⟨some 4,.alloc 114 [.bool false,.str ⟨#[]⟩],none⟩])
 (.lv [2,3,4] (.seq (.seq (.reg none [⟨some 5,.faddr 0 (.t 2),none⟩,⟨some 6,.ld false 1 (.t 5),none⟩,⟨some 7,.faddr 0 (.t 3),none⟩,⟨some 8,.ld false 1 (.t 7),none⟩,⟨some 9,.binb .eq (.t 6) (.t 8),none⟩])
 (.lv [2,3,4,9] (.cond (.t 9) (.lv [2,3,4] (.seq (.reg (some [0,1,2,3,4,5,6,7,8]) [⟨some 10,.faddr 0 (.t 2),none⟩,⟨some 11,.ld false 1 (.t 10),none⟩,⟨some 12,.faddr 1 (.t 2),none⟩,⟨some 13,.ld false 1 (.t 12),none⟩,⟨some 14,.faddr 1 (.t 3),none⟩,⟨some 15,.ld false 1 (.t 14),none⟩,⟨some 16,.callP 168 [.t 13,.t 15],none⟩,⟨some 17,.callP 159 [.t 11,.t 16],none⟩,⟨none,.st 2 (.t 4) (.t 17),none⟩])
 (.ret)))
 (.skip))))
 (.lv [2,3,4] (.seq (.seq (.reg none [⟨some 18,.faddr 1 (.t 2),none⟩,⟨some 19,.ld false 1 (.t 18),none⟩,⟨some 20,.faddr 1 (.t 3),none⟩,⟨some 21,.ld false 1 (.t 20),none⟩,⟨some 22,.callP 164 [.t 19,.t 21],none⟩,⟨some 23,.bin .ge (.t 22) (.k (.int .i64 0)),none⟩])
 (.lv [2,3,4,23] (.cond (.t 23) (.lv [2,3,4] (.seq (.reg (some [0,1,2,3,4,5,6,7,8]) [⟨some 24,.faddr 0 (.t 2),none⟩,⟨some 25,.ld false 1 (.t 24),none⟩,⟨some 26,.faddr 1 (.t 2),none⟩,⟨some 27,.ld false 1 (.t 26),none⟩,⟨some 28,.faddr 1 (.t 3),none⟩,⟨some 29,.ld false 1 (.t 28),none⟩,⟨some 30,.callP 169 [.t 27,.t 29],none⟩,⟨some 31,.callP 159 [.t 25,.t 30],none⟩,⟨none,.st 2 (.t 4) (.t 31),none⟩])
 (.ret)))
 (.skip))))
 (.lv [2,3,4] (.seq (.reg (some [0,1,2,3,4,5,6,7,8]) [⟨some 32,.faddr 0 (.t 3),none⟩,⟨some 33,.ld false 1 (.t 32),none⟩,⟨some 34,.faddr 1 (.t 3),none⟩,⟨some 35,.ld false 1 (.t 34),none⟩,⟨some 36,.faddr 1 (.t 2),none⟩,⟨some 37,.ld false 1 (.t 36),none⟩,⟨some 38,.callP 169 [.t 35,.t 37],none⟩,⟨some 39,.callP 159 [.t 33,.t 38],none⟩,⟨none,.st 2 (.t 4) (.t 39),none⟩])
 (.ret)))))))
def i157:IFn:=⟨2,40,c157,[.c 4 true 2],.pure⟩
def b158_1:IR:=
 .seq (.seq (.reg none [⟨some 27,.mov (.t 7),none⟩,⟨some 28,.mov (.t 1),none⟩,⟨some 29,.callP 164 [.t 27,.t 28],none⟩,⟨some 30,.bin .ge (.t 29) (.k (.int .i64 0)),none⟩,⟨some 31,.mov (.t 30),none⟩,⟨some 32,.mov (.t 9),(some (31,true))⟩,⟨some 33,.bin .lt (.t 32) (.k (.int .i64 10)),(some (31,true))⟩,⟨some 34,.pick (.t 31) (.t 33) (.k (.bool false)),none⟩])
 (.lv [0,1,6,7,8,9,34] (.cond (.t 34) (.skip)
 (.exit 2))))
 (.lv [0,1,6,7,8,9] (.block 3 (.seq (.reg none [⟨some 35,.mov (.t 7),none⟩,⟨some 36,.mov (.t 1),none⟩,⟨some 37,.callP 169 [.t 35,.t 36],none⟩,⟨some 7,.mov (.t 37),none⟩])
 (.lv [0,1,6,7,8,9] (.reg none [⟨some 38,.mov (.t 9),none⟩,⟨some 39,.bin .add (.t 38) (.k (.int .i64 1)),none⟩,⟨some 9,.mov (.t 39),none⟩])))))
def k158_0:IR:=
 .reg none [⟨some 40,.mov (.t 6),none⟩,⟨some 41,.mov (.t 9),none⟩,⟨some 42,.bin .add (.k (.int .i64 48)) (.t 41),none⟩,⟨some 43,.conv .u8 (.t 42),none⟩,⟨some 44,.bsl 5 1 [.t 43],none⟩,⟨some 45,.app 5 1 1 (.t 40) (.t 44),none⟩,⟨some 6,.mov (.t 45),none⟩]
def k158_1:IR:=
 .reg none [⟨some 17,.mov (.t 8),none⟩,⟨some 18,.bin .add (.t 17) (.k (.int .i64 1)),none⟩,⟨some 8,.mov (.t 18),none⟩]
def b158_0:IR:=
 .seq (.seq (.reg none [⟨some 13,.mov (.t 8),none⟩,⟨some 14,.mov (.t 0),none⟩,⟨some 15,.slen (.t 14),none⟩,⟨some 16,.bin .lt (.t 13) (.t 15),none⟩])
 (.lv [0,1,6,7,8,16] (.cond (.t 16) (.skip)
 (.exit 0))))
 (.lv [0,1,6,7,8] (.seq (.block 1 (.seq (.reg none [⟨some 19,.mov (.t 7),none⟩,⟨some 20,.mov (.t 0),none⟩,⟨some 21,.mov (.t 8),none⟩,⟨some 22,.mov (.t 8),none⟩,⟨some 23,.bin .add (.t 22) (.k (.int .i64 1)),none⟩,⟨some 24,.scut (.t 20) (some (.t 21)) (some (.t 23)),none⟩,⟨some 25,.bin .add (.t 19) (.t 24),none⟩,⟨some 26,.callP 148 [.t 25],none⟩,⟨some 7,.mov (.t 26),none⟩])
 (.lv [0,1,6,7,8] (.seq (.reg none [⟨some 9,.mov (.k (.int .i64 0)),none⟩])
 (.lv [0,1,6,7,8,9] (.seq (.block 2 (.loop [0,1,6,7,8,9] (some (1,[])) b158_1))
 k158_0))))))
 k158_1))
def k158_2:IR:=
 .seq (.reg none [⟨some 46,.mov (.t 6),none⟩,⟨some 47,.b2s (.t 46),none⟩,⟨some 48,.callP 148 [.t 47],none⟩,⟨some 49,.mov (.t 7),none⟩,⟨some 4,.mov (.t 48),none⟩,⟨some 5,.mov (.t 49),none⟩])
 (.ret)
def c158:IR:=
 .seq (.reg none [⟨some 4,.mov (.k (.str ⟨#[]⟩)),none⟩,⟨some 5,.mov (.k (.str ⟨#[]⟩)),none⟩])
 (.lv [0,1] (.seq (.reg none [⟨some 10,.mov (.t 0),none⟩,⟨some 11,.slen (.t 10),none⟩,⟨some 12,.mk0 5 1 1 (.t 11),none⟩,⟨some 6,.mov (.t 12),none⟩])
 (.lv [0,1,6] (.seq (.reg none [⟨some 7,.mov (.k (.str ⟨#[48]⟩)),none⟩])
 (.lv [0,1,6,7] (.seq (.seq (.reg none [⟨some 8,.mov (.k (.int .i64 0)),none⟩])
 (.lv [0,1,6,7,8] (.block 0 (.loop [0,1,6,7,8] (some (1,[])) b158_0))))
 k158_2))))))
def i158:IFn:=⟨2,50,c158,[.t 4,.t 5],.pure⟩
def c159:IR:=
 .seq (.reg none [⟨some 4,.alloc 114 [.bool false,.str ⟨#[]⟩],none⟩])
 (.lv [0,1,4] (.seq (.reg none [⟨some 5,.mov (.t 1),none⟩,⟨some 6,.callP 148 [.t 5],none⟩,⟨some 1,.mov (.t 6),none⟩])
 (.lv [0,1,4] (.seq (.reg none [⟨some 7,.mov (.t 0),none⟩,⟨some 8,.mov (.t 7),none⟩,⟨some 9,.mov (.t 1),(some (8,true))⟩,⟨some 10,.bin .ne (.t 9) (.k (.str ⟨#[48]⟩)),(some (8,true))⟩,⟨some 11,.pick (.t 8) (.t 10) (.k (.bool false)),none⟩,⟨some 12,.mov (.t 1),none⟩,⟨some 13,.build [.bool false,.str ⟨#[]⟩] [(0,1,.t 11),(1,1,.t 12)],none⟩,⟨none,.st 2 (.t 4) (.t 13),none⟩])
 (.ret)))))
def i159:IFn:=⟨2,14,c159,[.c 4 true 2],.pure⟩
def b160_1:IR:=
 .seq (.seq (.reg none [⟨some 23,.mov (.t 8),none⟩,⟨some 24,.mov (.t 1),none⟩,⟨some 25,.slen (.t 24),none⟩,⟨some 26,.bin .lt (.t 23) (.t 25),none⟩,⟨some 27,.mov (.t 26),none⟩,⟨some 28,.mov (.t 7),(some (27,false))⟩,⟨some 29,.bin .gt (.t 28) (.k (.int .i64 0)),(some (27,false))⟩,⟨some 30,.pick (.t 27) (.k (.bool true)) (.t 29),none⟩])
 (.lv [0,1,5,6,7,8,30] (.cond (.t 30) (.skip)
 (.exit 2))))
 (.lv [0,1,5,6,7,8] (.seq (.block 3 (.seq (.reg (some [0,1,2,3,4,5,6,7,8,9,10,11,12,13,14,15,16]) [⟨some 33,.mov (.t 5),none⟩,⟨some 34,.mov (.t 6),none⟩,⟨some 35,.mov (.t 8),none⟩,⟨some 36,.bin .add (.t 34) (.t 35),none⟩,⟨some 37,.iaddr 1 (.t 33) (.t 36),none⟩,⟨some 38,.ld false 1 (.t 37),none⟩,⟨some 39,.mov (.t 0),none⟩,⟨some 40,.mov (.t 6),none⟩,⟨some 41,.callP 170 [.t 39,.t 40],none⟩,⟨some 42,.mov (.t 1),none⟩,⟨some 43,.mov (.t 8),none⟩,⟨some 44,.callP 170 [.t 42,.t 43],none⟩,⟨some 45,.bin .mul (.t 41) (.t 44),none⟩,⟨some 46,.bin .add (.t 38) (.t 45),none⟩,⟨some 47,.mov (.t 7),none⟩,⟨some 48,.bin .add (.t 46) (.t 47),none⟩,⟨some 9,.mov (.t 48),none⟩])
 (.lv [0,1,5,6,8,9] (.seq (.reg none [⟨some 49,.mov (.t 5),none⟩,⟨some 50,.mov (.t 6),none⟩,⟨some 51,.mov (.t 8),none⟩,⟨some 52,.bin .add (.t 50) (.t 51),none⟩,⟨some 53,.mov (.t 9),none⟩,⟨some 54,.bin .rem (.t 53) (.k (.int .i64 10)),none⟩,⟨some 55,.iaddr 1 (.t 49) (.t 52),none⟩,⟨none,.st 1 (.t 55) (.t 54),none⟩])
 (.lv [0,1,5,6,8,9] (.reg none [⟨some 56,.mov (.t 9),none⟩,⟨some 57,.bin .quo (.t 56) (.k (.int .i64 10)),none⟩,⟨some 7,.mov (.t 57),none⟩]))))))
 (.lv [0,1,5,6,7,8] (.reg none [⟨some 31,.mov (.t 8),none⟩,⟨some 32,.bin .add (.t 31) (.k (.int .i64 1)),none⟩,⟨some 8,.mov (.t 32),none⟩]))))
def k160_0:IR:=
 .reg none [⟨some 21,.mov (.t 6),none⟩,⟨some 22,.bin .add (.t 21) (.k (.int .i64 1)),none⟩,⟨some 6,.mov (.t 22),none⟩]
def b160_0:IR:=
 .seq (.seq (.reg none [⟨some 17,.mov (.t 6),none⟩,⟨some 18,.mov (.t 0),none⟩,⟨some 19,.slen (.t 18),none⟩,⟨some 20,.bin .lt (.t 17) (.t 19),none⟩])
 (.lv [0,1,5,6,20] (.cond (.t 20) (.skip)
 (.exit 0))))
 (.lv [0,1,5,6] (.seq (.block 1 (.seq (.reg none [⟨some 7,.mov (.k (.int .i64 0)),none⟩])
 (.lv [0,1,5,6,7] (.seq (.reg none [⟨some 8,.mov (.k (.int .i64 0)),none⟩])
 (.lv [0,1,5,6,7,8] (.block 2 (.loop [0,1,5,6,7,8] (some (1,[])) b160_1)))))))
 k160_0))
def k160_1:IR:=
 .seq (.reg none [⟨some 58,.mov (.t 5),none⟩,⟨some 59,.callR 150 [.t 58],none⟩,⟨some 4,.mov (.t 59),none⟩])
 (.ret)
def c160:IR:=
 .seq (.reg none [⟨some 4,.mov (.k (.str ⟨#[]⟩)),none⟩])
 (.lv [0,1] (.seq (.reg none [⟨some 10,.mov (.t 0),none⟩,⟨some 11,.slen (.t 10),none⟩,⟨some 12,.mov (.t 1),none⟩,⟨some 13,.slen (.t 12),none⟩,⟨some 14,.bin .add (.t 11) (.t 13),none⟩,⟨some 15,.bin .add (.t 14) (.k (.int .i64 1)),none⟩,⟨some 16,.mk 3 8 [.int .i64 0] (.t 15),none⟩,⟨some 5,.mov (.t 16),none⟩])
 (.lv [0,1,5] (.seq (.seq (.reg none [⟨some 6,.mov (.k (.int .i64 0)),none⟩])
 (.lv [0,1,5,6] (.block 0 (.loop [0,1,5,6] (some (1,[])) b160_0))))
 k160_1))))
def i160:IFn:=⟨2,60,c160,[.t 4],.pure⟩
def b161_1:IR:=
 .seq (.seq (.reg none [⟨some 16,.mov (.t 8),none⟩,⟨some 17,.mov (.t 3),none⟩,⟨some 18,.len (.t 17),none⟩,⟨some 19,.bin .lt (.t 16) (.t 18),none⟩])
 (.lv [3,4,5,6,7,8,19] (.cond (.t 19) (.skip)
 (.exit 2))))
 (.lv [3,4,5,6,7,8] (.seq (.block 3 (.seq (.reg none [⟨some 22,.mov (.t 7),none⟩,⟨some 23,.bin .mul (.t 22) (.k (.int .i64 1000000000)),none⟩,⟨some 24,.mov (.t 3),none⟩,⟨some 25,.mov (.t 8),none⟩,⟨some 26,.iaddr 1 (.t 24) (.t 25),none⟩,⟨some 27,.ld false 1 (.t 26),none⟩,⟨some 28,.bin .add (.t 23) (.t 27),none⟩,⟨some 9,.mov (.t 28),none⟩])
 (.lv [3,4,5,6,8,9] (.seq (.reg none [⟨some 29,.mov (.t 9),none⟩,⟨some 30,.bin .rem (.t 29) (.k (.int .i64 65536)),none⟩,⟨some 7,.mov (.t 30),none⟩])
 (.lv [3,4,5,6,7,8,9] (.seq (.reg none [⟨some 31,.mov (.t 6),none⟩,⟨some 32,.len (.t 31),none⟩,⟨some 33,.bin .gt (.t 32) (.k (.int .i64 0)),none⟩,⟨some 34,.mov (.t 33),none⟩,⟨some 35,.mov (.t 9),(some (34,false))⟩,⟨some 36,.bin .quo (.t 35) (.k (.int .i64 65536)),(some (34,false))⟩,⟨some 37,.bin .gt (.t 36) (.k (.int .i64 0)),(some (34,false))⟩,⟨some 38,.pick (.t 34) (.k (.bool true)) (.t 37),none⟩])
 (.lv [3,4,5,6,7,8,9,38] (.cond (.t 38) (.lv [3,4,5,6,7,8,9] (.reg none [⟨some 39,.mov (.t 6),none⟩,⟨some 40,.mov (.t 9),none⟩,⟨some 41,.bin .quo (.t 40) (.k (.int .i64 65536)),none⟩,⟨some 42,.bsl 3 1 [.t 41],none⟩,⟨some 43,.app 3 1 8 (.t 39) (.t 42),none⟩,⟨some 6,.mov (.t 43),none⟩]))
 (.skip)))))))))
 (.lv [3,4,5,6,7,8] (.reg none [⟨some 20,.mov (.t 8),none⟩,⟨some 21,.bin .add (.t 20) (.k (.int .i64 1)),none⟩,⟨some 8,.mov (.t 21),none⟩]))))
def b161_2:IR:=
 .seq (.seq (.reg none [⟨some 47,.mov (.t 7),none⟩,⟨some 48,.bin .gt (.t 47) (.k (.int .i64 0)),none⟩])
 (.lv [4,7,48] (.cond (.t 48) (.skip)
 (.exit 4))))
 (.lv [4,7] (.block 5 (.seq (.reg none [⟨some 49,.mov (.t 7),none⟩,⟨some 50,.bin .quo (.t 49) (.k (.int .i64 2)),none⟩,⟨some 7,.mov (.t 50),none⟩])
 (.lv [4,7] (.reg none [⟨some 51,.mov (.t 4),none⟩,⟨some 52,.bin .add (.t 51) (.k (.int .i64 1)),none⟩,⟨some 4,.mov (.t 52),none⟩])))))
def k161_0:IR:=
 .seq (.reg none [⟨some 53,.mov (.t 4),none⟩,⟨some 2,.mov (.t 53),none⟩])
 (.ret)
def k161_1:IR:=
 .seq (.reg none [⟨some 54,.mov (.t 4),none⟩,⟨some 55,.bin .add (.t 54) (.k (.int .i64 16)),none⟩,⟨some 4,.mov (.t 55),none⟩])
 (.lv [4,5,6] (.reg none [⟨some 56,.mov (.t 6),none⟩,⟨some 3,.mov (.t 56),none⟩]))
def k161_2:IR:=
 .seq (.seq (.reg none [⟨some 44,.mov (.t 6),none⟩,⟨some 45,.len (.t 44),none⟩,⟨some 46,.bin .eq (.t 45) (.k (.int .i64 0)),none⟩])
 (.lv [4,5,6,7,46] (.cond (.t 46) (.lv [4,7] (.seq (.block 4 (.loop [4,7] (some (1,[])) b161_2))
 k161_0))
 (.skip))))
 k161_1
def k161_3:IR:=
 .reg none [⟨some 14,.mov (.t 5),none⟩,⟨some 15,.bin .add (.t 14) (.k (.int .i64 1)),none⟩,⟨some 5,.mov (.t 15),none⟩]
def b161_0:IR:=
 .seq (.seq (.reg none [⟨some 12,.mov (.t 5),none⟩,⟨some 13,.bin .lt (.t 12) (.k (.int .i64 10000)),none⟩])
 (.lv [3,4,5,13] (.cond (.t 13) (.skip)
 (.exit 0))))
 (.lv [3,4,5] (.seq (.block 1 (.seq (.reg none [⟨some 6,.newnil 3 1,none⟩])
 (.lv [3,4,5,6] (.seq (.reg none [⟨some 7,.mov (.k (.int .i64 0)),none⟩])
 (.lv [3,4,5,6,7] (.seq (.seq (.reg none [⟨some 8,.mov (.k (.int .i64 0)),none⟩])
 (.lv [3,4,5,6,7,8] (.block 2 (.loop [3,4,5,6,7,8] (some (1,[])) b161_1))))
 k161_2))))))
 k161_3))
def k161_4:IR:=
 .seq (.reg none [⟨some 57,.mov (.t 4),none⟩,⟨some 2,.mov (.t 57),none⟩])
 (.ret)
def c161:IR:=
 .seq (.reg none [⟨some 2,.mov (.k (.int .i64 0)),none⟩])
 (.lv [0] (.seq (.reg none [⟨some 10,.mov (.t 0),none⟩,⟨some 11,.callP 171 [.t 10],none⟩,⟨some 3,.mov (.t 11),none⟩])
 (.lv [3] (.seq (.reg none [⟨some 4,.mov (.k (.int .i64 0)),none⟩])
 (.lv [3,4] (.seq (.seq (.reg none [⟨some 5,.mov (.k (.int .i64 0)),none⟩])
 (.lv [3,4,5] (.block 0 (.loop [3,4,5] (some (0,[3])) b161_0))))
 k161_4))))))
def i161:IFn:=⟨1,58,c161,[.t 2],.pure⟩
def c164:IR:=
 .seq (.reg none [⟨some 4,.mov (.k (.int .i64 0)),none⟩])
 (.lv [0,1] (.seq (.seq (.reg none [⟨some 5,.mov (.t 0),none⟩,⟨some 6,.slen (.t 5),none⟩,⟨some 7,.mov (.t 1),none⟩,⟨some 8,.slen (.t 7),none⟩,⟨some 9,.bin .ne (.t 6) (.t 8),none⟩])
 (.lv [0,1,9] (.cond (.t 9) (.lv [0,1] (.seq (.seq (.reg none [⟨some 10,.mov (.t 0),none⟩,⟨some 11,.slen (.t 10),none⟩,⟨some 12,.mov (.t 1),none⟩,⟨some 13,.slen (.t 12),none⟩,⟨some 14,.bin .lt (.t 11) (.t 13),none⟩])
 (.lv [14] (.cond (.t 14) (.lv [] (.seq (.reg none [⟨some 4,.mov (.k (.int .i64 (-1))),none⟩])
 (.ret)))
 (.skip))))
 (.lv [] (.seq (.reg none [⟨some 4,.mov (.k (.int .i64 1)),none⟩])
 (.ret)))))
 (.skip))))
 (.lv [0,1] (.seq (.seq (.reg none [⟨some 15,.mov (.t 0),none⟩,⟨some 16,.mov (.t 1),none⟩,⟨some 17,.bin .eq (.t 15) (.t 16),none⟩])
 (.lv [0,1,17] (.cond (.t 17) (.lv [] (.seq (.reg none [⟨some 4,.mov (.k (.int .i64 0)),none⟩])
 (.ret)))
 (.skip))))
 (.lv [0,1] (.seq (.seq (.reg none [⟨some 18,.mov (.t 0),none⟩,⟨some 19,.mov (.t 1),none⟩,⟨some 20,.bin .lt (.t 18) (.t 19),none⟩])
 (.lv [20] (.cond (.t 20) (.lv [] (.seq (.reg none [⟨some 4,.mov (.k (.int .i64 (-1))),none⟩])
 (.ret)))
 (.skip))))
 (.lv [] (.seq (.reg none [⟨some 4,.mov (.k (.int .i64 1)),none⟩])
 (.ret)))))))))
def i164:IFn:=⟨2,21,c164,[.t 4],.pure⟩
def b165_1:IR:=
 .seq (.seq (.reg none [⟨some 94,.mov (.t 16),none⟩,⟨some 95,.bin .ge (.t 94) (.k (.int .u64 4294967296)),none⟩,⟨some 96,.mov (.t 95),none⟩,⟨some 97,.mov (.t 16),(some (96,false))⟩,⟨some 98,.mov (.t 13),(some (96,false))⟩,⟨some 99,.bin .mul (.t 97) (.t 98),(some (96,false))⟩,⟨some 100,.mov (.t 17),(some (96,false))⟩,⟨some 101,.bin .shl (.t 100) (.k (.int .u64 32)),(some (96,false))⟩,⟨some 102,.mov (.t 8),(some (96,false))⟩,⟨some 103,.mov (.t 14),(some (96,false))⟩,⟨some 104,.mov (.t 9),(some (96,false))⟩,⟨some 105,.bin .add (.t 103) (.t 104),(some (96,false))⟩,⟨some 106,.bin .sub (.t 105) (.k (.int .i64 2)),(some (96,false))⟩,⟨some 107,.iaddr 1 (.t 102) (.t 106),(some (96,false))⟩,⟨some 108,.ld false 1 (.t 107),(some (96,false))⟩,⟨some 109,.conv .u64 (.t 108),(some (96,false))⟩,⟨some 110,.bin .or (.t 101) (.t 109),(some (96,false))⟩,⟨some 111,.bin .gt (.t 99) (.t 110),(some (96,false))⟩,⟨some 112,.pick (.t 96) (.k (.bool true)) (.t 111),none⟩])
 (.lv [4,5,6,7,8,9,11,12,13,14,16,17,112] (.cond (.t 112) (.skip)
 (.exit 2))))
 (.lv [4,5,6,7,8,9,11,12,13,14,16,17] (.block 3 (.seq (.reg none [⟨some 113,.mov (.t 16),none⟩,⟨some 114,.bin .sub (.t 113) (.k (.int .u64 1)),none⟩,⟨some 16,.mov (.t 114),none⟩])
 (.lv [4,5,6,7,8,9,11,12,13,14,16,17] (.seq (.reg none [⟨some 115,.mov (.t 17),none⟩,⟨some 116,.mov (.t 12),none⟩,⟨some 117,.bin .add (.t 115) (.t 116),none⟩,⟨some 17,.mov (.t 117),none⟩])
 (.lv [4,5,6,7,8,9,11,12,13,14,16,17] (.seq (.reg none [⟨some 118,.mov (.t 17),none⟩,⟨some 119,.bin .ge (.t 118) (.k (.int .u64 4294967296)),none⟩])
 (.lv [4,5,6,7,8,9,11,12,13,14,16,17,119] (.cond (.t 119) (.exit 2)
 (.skip))))))))))
def k165_0:IR:=
 .seq (.seq (.reg none [⟨some 120,.mov (.t 8),none⟩,⟨some 121,.mov (.t 14),none⟩,⟨some 122,.mov (.t 14),none⟩,⟨some 123,.mov (.t 9),none⟩,⟨some 124,.bin .add (.t 122) (.t 123),none⟩,⟨some 125,.bin .add (.t 124) (.k (.int .i64 1)),none⟩,⟨some 126,.cut 1 (.t 120) (some (.t 121)) (some (.t 125)),none⟩,⟨some 127,.mov (.t 7),none⟩,⟨some 128,.mov (.t 16),none⟩,⟨some 129,.callM 175 [.t 126,.t 127,.t 128],none⟩])
 (.lv [4,5,6,7,8,9,11,12,13,14,16,129] (.cond (.t 129) (.lv [4,5,6,7,8,9,11,12,13,14,16] (.seq (.reg none [⟨some 130,.mov (.t 16),none⟩,⟨some 131,.bin .sub (.t 130) (.k (.int .u64 1)),none⟩,⟨some 16,.mov (.t 131),none⟩])
 (.lv [4,5,6,7,8,9,11,12,13,14,16] (.reg none [⟨some 132,.mov (.t 8),none⟩,⟨some 133,.mov (.t 14),none⟩,⟨some 134,.mov (.t 14),none⟩,⟨some 135,.mov (.t 9),none⟩,⟨some 136,.bin .add (.t 134) (.t 135),none⟩,⟨some 137,.bin .add (.t 136) (.k (.int .i64 1)),none⟩,⟨some 138,.cut 1 (.t 132) (some (.t 133)) (some (.t 137)),none⟩,⟨some 139,.mov (.t 7),none⟩,⟨some 140,.callM 176 [.t 138,.t 139],none⟩]))))
 (.skip))))
 (.lv [4,5,6,7,8,9,11,12,13,14,16] (.reg none [⟨some 141,.mov (.t 11),none⟩,⟨some 142,.mov (.t 14),none⟩,⟨some 143,.mov (.t 16),none⟩,⟨some 144,.conv .u32 (.t 143),none⟩,⟨some 145,.iaddr 1 (.t 141) (.t 142),none⟩,⟨none,.st 1 (.t 145) (.t 144),none⟩]))
def k165_1:IR:=
 .reg none [⟨some 69,.mov (.t 14),none⟩,⟨some 70,.bin .sub (.t 69) (.k (.int .i64 1)),none⟩,⟨some 14,.mov (.t 70),none⟩]
def b165_0:IR:=
 .seq (.seq (.reg none [⟨some 67,.mov (.t 14),none⟩,⟨some 68,.bin .ge (.t 67) (.k (.int .i64 0)),none⟩])
 (.lv [4,5,6,7,8,9,11,12,13,14,68] (.cond (.t 68) (.skip)
 (.exit 0))))
 (.lv [4,5,6,7,8,9,11,12,13,14] (.seq (.block 1 (.seq (.reg (some [0,1,2,3,4,5,6,7,8,9,10,11,12,13,14,15,16,17]) [⟨some 71,.mov (.t 8),none⟩,⟨some 72,.mov (.t 14),none⟩,⟨some 73,.mov (.t 9),none⟩,⟨some 74,.bin .add (.t 72) (.t 73),none⟩,⟨some 75,.iaddr 1 (.t 71) (.t 74),none⟩,⟨some 76,.ld false 1 (.t 75),none⟩,⟨some 77,.conv .u64 (.t 76),none⟩,⟨some 78,.bin .shl (.t 77) (.k (.int .u64 32)),none⟩,⟨some 79,.mov (.t 8),none⟩,⟨some 80,.mov (.t 14),none⟩,⟨some 81,.mov (.t 9),none⟩,⟨some 82,.bin .add (.t 80) (.t 81),none⟩,⟨some 83,.bin .sub (.t 82) (.k (.int .i64 1)),none⟩,⟨some 84,.iaddr 1 (.t 79) (.t 83),none⟩,⟨some 85,.ld false 1 (.t 84),none⟩,⟨some 86,.conv .u64 (.t 85),none⟩,⟨some 87,.bin .or (.t 78) (.t 86),none⟩,⟨some 15,.mov (.t 87),none⟩])
 (.lv [4,5,6,7,8,9,11,12,13,14,15] (.seq (.reg (some [0,1,2,3,4,5,6,7]) [⟨some 88,.mov (.t 15),none⟩,⟨some 89,.mov (.t 12),none⟩,⟨some 90,.bin .quo (.t 88) (.t 89),none⟩,⟨some 91,.mov (.t 15),none⟩,⟨some 92,.mov (.t 12),none⟩,⟨some 93,.bin .rem (.t 91) (.t 92),none⟩,⟨some 16,.mov (.t 90),none⟩,⟨some 17,.mov (.t 93),none⟩])
 (.lv [4,5,6,7,8,9,11,12,13,14,16,17] (.seq (.block 2 (.loop [4,5,6,7,8,9,11,12,13,14,16,17] (some (8,[])) b165_1))
 k165_0))))))
 k165_1))
def k165_2:IR:=
 .seq (.reg none [⟨some 146,.mov (.t 11),none⟩,⟨some 147,.callF 137 [.t 146],none⟩,⟨some 148,.mov (.t 8),none⟩,⟨some 149,.callF 137 [.t 148],none⟩,⟨some 150,.mov (.t 6),none⟩,⟨some 151,.callP 177 [.t 149,.t 150],none⟩,⟨none,.st 1 (.t 4) (.t 147),none⟩,⟨none,.st 1 (.t 5) (.t 151),none⟩])
 (.ret)
def c165:IR:=
 .seq (.reg none [⟨some 2,.box 53 1 (.t 0),none⟩,⟨some 3,.box 53 1 (.t 1),none⟩,⟨some 4,.alloc 53 [.nilsl 162 1],none⟩,⟨some 5,.alloc 53 [.nilsl 162 1],none⟩])
 (.lv [2,3,4,5] (.seq (.reg none [⟨some 18,.faddr 0 (.t 3),none⟩,⟨some 19,.ld false 1 (.t 18),none⟩,⟨some 20,.faddr 0 (.t 3),none⟩,⟨some 21,.ld false 1 (.t 20),none⟩,⟨some 22,.lenf (.t 21),none⟩,⟨some 23,.bin .sub (.t 22) (.k (.int .i64 1)),none⟩,⟨some 24,.iaddrf 1 (.t 19) (.t 23),none⟩,⟨some 25,.ldf false 1 (.t 24),none⟩,⟨some 26,.callP 173 [.t 25],none⟩,⟨some 6,.mov (.t 26),none⟩])
 (.lv [2,3,4,5,6] (.seq (.reg none [⟨some 27,.ld true 1 (.t 3),none⟩,⟨some 28,.mov (.t 6),none⟩,⟨some 29,.callP 174 [.t 27,.t 28],none⟩,⟨some 30,.fld false 0 1 (.t 29),none⟩,⟨some 7,.mov (.t 30),none⟩])
 (.lv [2,3,4,5,6,7] (.seq (.reg none [⟨some 31,.faddr 0 (.t 2),none⟩,⟨some 32,.ld false 1 (.t 31),none⟩,⟨some 33,.lenf (.t 32),none⟩,⟨some 34,.bin .add (.t 33) (.k (.int .i64 1)),none⟩,⟨some 35,.mk 162 4 [.int .u32 0] (.t 34),none⟩,⟨some 8,.mov (.t 35),none⟩])
 (.lv [2,3,4,5,6,7,8] (.seq (.reg none [⟨some 36,.mov (.t 8),none⟩,⟨some 37,.ld true 1 (.t 2),none⟩,⟨some 38,.mov (.t 6),none⟩,⟨some 39,.callP 174 [.t 37,.t 38],none⟩,⟨some 40,.fld false 0 1 (.t 39),none⟩,⟨some 41,.cpy 1 (.t 36) (.t 40),none⟩])
 (.lv [2,3,4,5,6,7,8] (.seq (.reg (some [0,1,2,3,4,5,6,7,8,9,10]) [⟨some 42,.mov (.t 7),none⟩,⟨some 43,.lenf (.t 42),none⟩,⟨some 44,.faddr 0 (.t 2),none⟩,⟨some 45,.ld false 1 (.t 44),none⟩,⟨some 46,.lenf (.t 45),none⟩,⟨some 47,.faddr 0 (.t 3),none⟩,⟨some 48,.ld false 1 (.t 47),none⟩,⟨some 49,.lenf (.t 48),none⟩,⟨some 50,.bin .sub (.t 46) (.t 49),none⟩,⟨some 9,.mov (.t 43),none⟩,⟨some 10,.mov (.t 50),none⟩])
 (.lv [4,5,6,7,8,9,10] (.seq (.reg none [⟨some 51,.mov (.t 10),none⟩,⟨some 52,.bin .add (.t 51) (.k (.int .i64 1)),none⟩,⟨some 53,.mk 162 4 [.int .u32 0] (.t 52),none⟩,⟨some 11,.mov (.t 53),none⟩])
 (.lv [4,5,6,7,8,9,10,11] (.seq (.reg (some [0,1,2,3,4,5,6,7,8,9,10,11,12,13]) [⟨some 54,.mov (.t 7),none⟩,⟨some 55,.mov (.t 9),none⟩,⟨some 56,.bin .sub (.t 55) (.k (.int .i64 1)),none⟩,⟨some 57,.iaddrf 1 (.t 54) (.t 56),none⟩,⟨some 58,.ldf false 1 (.t 57),none⟩,⟨some 59,.conv .u64 (.t 58),none⟩,⟨some 60,.mov (.t 7),none⟩,⟨some 61,.mov (.t 9),none⟩,⟨some 62,.bin .sub (.t 61) (.k (.int .i64 2)),none⟩,⟨some 63,.iaddrf 1 (.t 60) (.t 62),none⟩,⟨some 64,.ldf false 1 (.t 63),none⟩,⟨some 65,.conv .u64 (.t 64),none⟩,⟨some 12,.mov (.t 59),none⟩,⟨some 13,.mov (.t 65),none⟩])
 (.lv [4,5,6,7,8,9,10,11,12,13] (.seq (.seq (.reg none [⟨some 66,.mov (.t 10),none⟩,⟨some 14,.mov (.t 66),none⟩])
 (.lv [4,5,6,7,8,9,11,12,13,14] (.block 0 (.loop [4,5,6,7,8,9,11,12,13,14] (some (8,[])) b165_0))))
 k165_2))))))))))))))))
def i165:IFn:=⟨2,152,c165,[.c 4 true 1,.c 5 true 1],.pure⟩
def b166_0:IR:=
 .seq (.reg none [⟨some 23,.bin .lt (.t 22) (.t 21),none⟩])
 (.lv [2,3,4,6,7,21,22,23] (.seq (.cond (.t 23) (.skip)
 (.exit 0))
 (.lv [2,3,4,6,7,21,22] (.seq (.block 1 (.seq (.reg none [⟨some 24,.mov (.t 22),none⟩,⟨some 8,.mov (.t 24),none⟩])
 (.lv [2,3,4,6,7,8,21,22] (.seq (.reg none [⟨some 9,.mov (.k (.int .u32 0)),none⟩])
 (.lv [2,3,4,6,7,8,9,21,22] (.seq (.seq (.reg none [⟨some 25,.mov (.t 8),none⟩,⟨some 26,.faddr 0 (.t 3),none⟩,⟨some 27,.ld false 1 (.t 26),none⟩,⟨some 28,.lenf (.t 27),none⟩,⟨some 29,.bin .lt (.t 25) (.t 28),none⟩])
 (.lv [2,3,4,6,7,8,9,21,22,29] (.cond (.t 29) (.lv [2,3,4,6,7,8,21,22] (.reg none [⟨some 30,.faddr 0 (.t 3),none⟩,⟨some 31,.ld false 1 (.t 30),none⟩,⟨some 32,.mov (.t 8),none⟩,⟨some 33,.iaddrf 1 (.t 31) (.t 32),none⟩,⟨some 34,.ldf false 1 (.t 33),none⟩,⟨some 9,.mov (.t 34),none⟩]))
 (.skip))))
 (.lv [2,3,4,6,7,8,9,21,22] (.reg none [⟨some 36,.mov (.t 6),none⟩,⟨some 37,.mov (.t 8),none⟩,⟨some 38,.faddr 0 (.t 2),none⟩,⟨some 39,.ld false 1 (.t 38),none⟩,⟨some 40,.mov (.t 8),none⟩,⟨some 41,.iaddrf 1 (.t 39) (.t 40),none⟩,⟨some 42,.ldf false 1 (.t 41),none⟩,⟨some 43,.mov (.t 9),none⟩,⟨some 44,.mov (.t 7),none⟩,⟨some 45,.callP 178 [.t 42,.t 43,.t 44],none⟩,⟨some 35,.mov (.t 45),none⟩,⟨some 46,.ext (.t 35) 0,none⟩,⟨some 47,.ext (.t 35) 1,none⟩,⟨some 48,.iaddr 1 (.t 36) (.t 37),none⟩,⟨none,.st 1 (.t 48) (.t 46),none⟩,⟨some 7,.mov (.t 47),none⟩]))))))))
 (.lv [2,3,4,6,7,21,22] (.reg none [⟨some 49,.bin .add (.t 22) (.k (.int .i64 1)),none⟩,⟨some 22,.mov (.t 49),none⟩]))))))
def k166_0:IR:=
 .seq (.reg none [⟨some 50,.mov (.t 6),none⟩,⟨some 51,.callF 137 [.t 50],none⟩,⟨none,.st 1 (.t 4) (.t 51),none⟩,⟨some 5,.mov (.k (.bool true)),none⟩])
 (.ret)
def c166:IR:=
 .seq (.reg none [⟨some 2,.box 53 1 (.t 0),none⟩,⟨some 3,.box 53 1 (.t 1),none⟩,⟨some 4,.alloc 53 [.nilsl 162 1],none⟩,⟨some 5,.mov (.k (.bool false)),none⟩])
 (.lv [2,3,4] (.seq (.seq (.reg none [⟨some 10,.ld true 1 (.t 2),none⟩,⟨some 11,.ld true 1 (.t 3),none⟩,⟨some 12,.callP 112 [.t 10,.t 11],none⟩,⟨some 13,.bin .lt (.t 12) (.k (.int .i64 0)),none⟩])
 (.lv [2,3,4,13] (.cond (.t 13) (.lv [4] (.seq (.reg none [⟨some 14,.build [.nilsl 162 1] [],none⟩,⟨none,.st 1 (.t 4) (.t 14),none⟩,⟨some 5,.mov (.k (.bool false)),none⟩])
 (.ret)))
 (.skip))))
 (.lv [2,3,4] (.seq (.reg none [⟨some 15,.faddr 0 (.t 2),none⟩,⟨some 16,.ld false 1 (.t 15),none⟩,⟨some 17,.lenf (.t 16),none⟩,⟨some 18,.mk 162 4 [.int .u32 0] (.t 17),none⟩,⟨some 6,.mov (.t 18),none⟩])
 (.lv [2,3,4,6] (.seq (.reg none [⟨some 7,.mov (.k (.int .u32 0)),none⟩])
 (.lv [2,3,4,6,7] (.seq (.seq (.reg none [⟨some 19,.faddr 0 (.t 2),none⟩,⟨some 20,.ld false 1 (.t 19),none⟩,⟨some 21,.lenf (.t 20),none⟩,⟨some 22,.mov (.k (.int .i64 0)),none⟩])
 (.lv [2,3,4,6,7,21,22] (.block 0 (.loop [2,3,4,6,7,21,22] (some (5,[])) b166_0))))
 k166_0))))))))
def i166:IFn:=⟨2,52,c166,[.c 4 true 1,.t 5],.pure⟩
def c167:IR:=
 .seq (.reg none [⟨some 6,.mov (.k (.int .u32 0)),none⟩,⟨some 7,.mov (.k (.int .u32 0)),none⟩])
 (.lv [0,1,2] (.seq (.reg none [⟨some 9,.mov (.t 0),none⟩,⟨some 10,.conv .u64 (.t 9),none⟩,⟨some 11,.mov (.t 1),none⟩,⟨some 12,.conv .u64 (.t 11),none⟩,⟨some 13,.bin .add (.t 10) (.t 12),none⟩,⟨some 14,.mov (.t 2),none⟩,⟨some 15,.conv .u64 (.t 14),none⟩,⟨some 16,.bin .add (.t 13) (.t 15),none⟩,⟨some 8,.mov (.t 16),none⟩])
 (.lv [8] (.seq (.reg none [⟨some 17,.mov (.t 8),none⟩,⟨some 18,.conv .u32 (.t 17),none⟩,⟨some 6,.mov (.t 18),none⟩])
 (.lv [6,8] (.seq (.reg none [⟨some 19,.mov (.t 8),none⟩,⟨some 20,.bin .shr (.t 19) (.k (.int .u64 32)),none⟩,⟨some 21,.conv .u32 (.t 20),none⟩,⟨some 7,.mov (.t 21),none⟩])
 (.ret)))))))
def i167:IFn:=⟨3,22,c167,[.t 6,.t 7],.pure⟩
def b168_0:IR:=
 .seq (.seq (.reg none [⟨some 9,.mov (.t 7),none⟩,⟨some 10,.mov (.t 0),none⟩,⟨some 11,.slen (.t 10),none⟩,⟨some 12,.bin .lt (.t 9) (.t 11),none⟩,⟨some 13,.mov (.t 12),none⟩,⟨some 14,.mov (.t 7),(some (13,false))⟩,⟨some 15,.mov (.t 1),(some (13,false))⟩,⟨some 16,.slen (.t 15),(some (13,false))⟩,⟨some 17,.bin .lt (.t 14) (.t 16),(some (13,false))⟩,⟨some 18,.pick (.t 13) (.k (.bool true)) (.t 17),none⟩,⟨some 19,.mov (.t 18),none⟩,⟨some 20,.mov (.t 6),(some (19,false))⟩,⟨some 21,.bin .gt (.t 20) (.k (.int .i64 0)),(some (19,false))⟩,⟨some 22,.pick (.t 19) (.k (.bool true)) (.t 21),none⟩])
 (.lv [0,1,5,6,7,22] (.cond (.t 22) (.skip)
 (.exit 0))))
 (.lv [0,1,5,6,7] (.seq (.block 1 (.seq (.reg none [⟨some 25,.mov (.t 0),none⟩,⟨some 26,.mov (.t 7),none⟩,⟨some 27,.callP 170 [.t 25,.t 26],none⟩,⟨some 28,.mov (.t 1),none⟩,⟨some 29,.mov (.t 7),none⟩,⟨some 30,.callP 170 [.t 28,.t 29],none⟩,⟨some 31,.bin .add (.t 27) (.t 30),none⟩,⟨some 32,.mov (.t 6),none⟩,⟨some 33,.bin .add (.t 31) (.t 32),none⟩,⟨some 8,.mov (.t 33),none⟩])
 (.lv [0,1,5,7,8] (.seq (.reg none [⟨some 34,.mov (.t 5),none⟩,⟨some 35,.mov (.t 8),none⟩,⟨some 36,.bin .rem (.t 35) (.k (.int .i64 10)),none⟩,⟨some 37,.bsl 3 1 [.t 36],none⟩,⟨some 38,.app 3 1 8 (.t 34) (.t 37),none⟩,⟨some 5,.mov (.t 38),none⟩])
 (.lv [0,1,5,7,8] (.reg none [⟨some 39,.mov (.t 8),none⟩,⟨some 40,.bin .quo (.t 39) (.k (.int .i64 10)),none⟩,⟨some 6,.mov (.t 40),none⟩]))))))
 (.lv [0,1,5,6,7] (.reg none [⟨some 23,.mov (.t 7),none⟩,⟨some 24,.bin .add (.t 23) (.k (.int .i64 1)),none⟩,⟨some 7,.mov (.t 24),none⟩]))))
def k168_0:IR:=
 .seq (.reg none [⟨some 41,.mov (.t 5),none⟩,⟨some 42,.callR 150 [.t 41],none⟩,⟨some 4,.mov (.t 42),none⟩])
 (.ret)
def c168:IR:=
 .seq (.reg none [⟨some 4,.mov (.k (.str ⟨#[]⟩)),none⟩])
 (.lv [0,1] (.seq (.reg none [⟨some 5,.newnil 3 1,none⟩])
 (.lv [0,1,5] (.seq (.reg none [⟨some 6,.mov (.k (.int .i64 0)),none⟩])
 (.lv [0,1,5,6] (.seq (.seq (.reg none [⟨some 7,.mov (.k (.int .i64 0)),none⟩])
 (.lv [0,1,5,6,7] (.block 0 (.loop [0,1,5,6,7] (some (1,[])) b168_0))))
 k168_0))))))
def i168:IFn:=⟨2,43,c168,[.t 4],.pure⟩
def b169_0:IR:=
 .seq (.seq (.reg none [⟨some 9,.mov (.t 7),none⟩,⟨some 10,.mov (.t 0),none⟩,⟨some 11,.slen (.t 10),none⟩,⟨some 12,.bin .lt (.t 9) (.t 11),none⟩])
 (.lv [0,1,5,6,7,12] (.cond (.t 12) (.skip)
 (.exit 0))))
 (.lv [0,1,5,6,7] (.seq (.block 1 (.seq (.reg none [⟨some 15,.mov (.t 0),none⟩,⟨some 16,.mov (.t 7),none⟩,⟨some 17,.callP 170 [.t 15,.t 16],none⟩,⟨some 18,.mov (.t 1),none⟩,⟨some 19,.mov (.t 7),none⟩,⟨some 20,.callP 170 [.t 18,.t 19],none⟩,⟨some 21,.bin .sub (.t 17) (.t 20),none⟩,⟨some 22,.mov (.t 6),none⟩,⟨some 23,.bin .sub (.t 21) (.t 22),none⟩,⟨some 8,.mov (.t 23),none⟩])
 (.lv [0,1,5,7,8] (.seq (.reg none [⟨some 6,.mov (.k (.int .i64 0)),none⟩])
 (.lv [0,1,5,6,7,8] (.seq (.seq (.reg none [⟨some 24,.mov (.t 8),none⟩,⟨some 25,.bin .lt (.t 24) (.k (.int .i64 0)),none⟩])
 (.lv [0,1,5,6,7,8,25] (.cond (.t 25) (.lv [0,1,5,7,8] (.seq (.reg none [⟨some 26,.mov (.t 8),none⟩,⟨some 27,.bin .add (.t 26) (.k (.int .i64 10)),none⟩,⟨some 8,.mov (.t 27),none⟩])
 (.lv [0,1,5,7,8] (.reg none [⟨some 6,.mov (.k (.int .i64 1)),none⟩]))))
 (.skip))))
 (.lv [0,1,5,6,7,8] (.reg none [⟨some 28,.mov (.t 5),none⟩,⟨some 29,.mov (.t 8),none⟩,⟨some 30,.bsl 3 1 [.t 29],none⟩,⟨some 31,.app 3 1 8 (.t 28) (.t 30),none⟩,⟨some 5,.mov (.t 31),none⟩]))))))))
 (.lv [0,1,5,6,7] (.reg none [⟨some 13,.mov (.t 7),none⟩,⟨some 14,.bin .add (.t 13) (.k (.int .i64 1)),none⟩,⟨some 7,.mov (.t 14),none⟩]))))
def k169_0:IR:=
 .seq (.reg none [⟨some 32,.mov (.t 5),none⟩,⟨some 33,.callR 150 [.t 32],none⟩,⟨some 4,.mov (.t 33),none⟩])
 (.ret)
def c169:IR:=
 .seq (.reg none [⟨some 4,.mov (.k (.str ⟨#[]⟩)),none⟩])
 (.lv [0,1] (.seq (.reg none [⟨some 5,.newnil 3 1,none⟩])
 (.lv [0,1,5] (.seq (.reg none [⟨some 6,.mov (.k (.int .i64 0)),none⟩])
 (.lv [0,1,5,6] (.seq (.seq (.reg none [⟨some 7,.mov (.k (.int .i64 0)),none⟩])
 (.lv [0,1,5,6,7] (.block 0 (.loop [0,1,5,6,7] (some (1,[])) b169_0))))
 k169_0))))))
def i169:IFn:=⟨2,34,c169,[.t 4],.pure⟩
def c170:IR:=
 .seq (.reg none [⟨some 4,.mov (.k (.int .i64 0)),none⟩])
 (.lv [0,1] (.seq (.seq (.reg none [⟨some 5,.mov (.t 1),none⟩,⟨some 6,.mov (.t 0),none⟩,⟨some 7,.slen (.t 6),none⟩,⟨some 8,.bin .ge (.t 5) (.t 7),none⟩])
 (.lv [0,1,8] (.cond (.t 8) (.lv [] (.seq (.reg none [⟨some 4,.mov (.k (.int .i64 0)),none⟩])
 (.ret)))
 (.skip))))
 (.lv [0,1] (.seq (.reg none [⟨some 9,.mov (.t 0),none⟩,⟨some 10,.mov (.t 0),none⟩,⟨some 11,.slen (.t 10),none⟩,⟨some 12,.bin .sub (.t 11) (.k (.int .i64 1)),none⟩,⟨some 13,.mov (.t 1),none⟩,⟨some 14,.bin .sub (.t 12) (.t 13),none⟩,⟨some 15,.sidx (.t 9) (.t 14),none⟩,⟨some 16,.bin .sub (.t 15) (.k (.int .u8 48)),none⟩,⟨some 17,.conv .i64 (.t 16),none⟩,⟨some 4,.mov (.t 17),none⟩])
 (.ret)))))
def i170:IFn:=⟨2,18,c170,[.t 4],.pure⟩
def b171_0:IR:=
 .seq (.seq (.reg none [⟨some 9,.mov (.t 6),none⟩,⟨some 10,.mov (.t 0),none⟩,⟨some 11,.slen (.t 10),none⟩,⟨some 12,.bin .lt (.t 9) (.t 11),none⟩])
 (.lv [0,3,4,5,6,12] (.cond (.t 12) (.skip)
 (.exit 0))))
 (.lv [0,3,4,5,6] (.seq (.block 1 (.seq (.reg none [⟨some 15,.mov (.t 4),none⟩,⟨some 16,.bin .mul (.t 15) (.k (.int .i64 10)),none⟩,⟨some 17,.mov (.t 0),none⟩,⟨some 18,.mov (.t 6),none⟩,⟨some 19,.sidx (.t 17) (.t 18),none⟩,⟨some 20,.bin .sub (.t 19) (.k (.int .u8 48)),none⟩,⟨some 21,.conv .i64 (.t 20),none⟩,⟨some 22,.bin .add (.t 16) (.t 21),none⟩,⟨some 4,.mov (.t 22),none⟩])
 (.lv [0,3,4,5,6] (.seq (.reg none [⟨some 23,.mov (.t 5),none⟩,⟨some 24,.bin .sub (.t 23) (.k (.int .i64 1)),none⟩,⟨some 5,.mov (.t 24),none⟩])
 (.lv [0,3,4,5,6] (.seq (.reg none [⟨some 25,.mov (.t 5),none⟩,⟨some 26,.bin .rem (.t 25) (.k (.int .i64 9)),none⟩,⟨some 27,.bin .eq (.t 26) (.k (.int .i64 0)),none⟩])
 (.lv [0,3,4,5,6,27] (.cond (.t 27) (.lv [0,3,4,5,6] (.seq (.reg none [⟨some 28,.mov (.t 3),none⟩,⟨some 29,.mov (.t 4),none⟩,⟨some 30,.bsl 3 1 [.t 29],none⟩,⟨some 31,.app 3 1 8 (.t 28) (.t 30),none⟩,⟨some 3,.mov (.t 31),none⟩])
 (.lv [0,3,5,6] (.reg none [⟨some 4,.mov (.k (.int .i64 0)),none⟩]))))
 (.skip)))))))))
 (.lv [0,3,4,5,6] (.reg none [⟨some 13,.mov (.t 6),none⟩,⟨some 14,.bin .add (.t 13) (.k (.int .i64 1)),none⟩,⟨some 6,.mov (.t 14),none⟩]))))
def k171_0:IR:=
 .seq (.reg none [⟨some 32,.mov (.t 3),none⟩,⟨some 2,.mov (.t 32),none⟩])
 (.ret)
def c171:IR:=
 .seq (.reg none [⟨some 2,.newnil 3 1,none⟩])
 (.lv [0] (.seq (.reg none [⟨some 3,.newnil 3 1,none⟩])
 (.lv [0,3] (.seq (.reg none [⟨some 7,.mov (.t 0),none⟩,⟨some 8,.slen (.t 7),none⟩,⟨some 4,.mov (.k (.int .i64 0)),none⟩,⟨some 5,.mov (.t 8),none⟩])
 (.lv [0,3,4,5] (.seq (.seq (.reg none [⟨some 6,.mov (.k (.int .i64 0)),none⟩])
 (.lv [0,3,4,5,6] (.block 0 (.loop [0,3,4,5,6] (some (2,[])) b171_0))))
 k171_0))))))
def i171:IFn:=⟨1,33,c171,[.t 2],.pure⟩
def c173:IR:=
 .seq (.reg none [⟨some 2,.mov (.k (.int .i64 0)),none⟩])
 (.lv [0] (.seq (.reg none [⟨some 3,.mov (.t 0),none⟩,⟨some 4,.callP 179 [.t 3],none⟩,⟨some 5,.bin .sub (.k (.int .i64 32)) (.t 4),none⟩,⟨some 2,.mov (.t 5),none⟩])
 (.ret)))
def i173:IFn:=⟨1,6,c173,[.t 2],.pure⟩
def b174_0:IR:=
 .seq (.reg none [⟨some 36,.bin .lt (.t 35) (.t 34),none⟩])
 (.lv [4,5,6,7,33,34,35,36] (.seq (.cond (.t 36) (.skip)
 (.exit 0))
 (.lv [4,5,6,7,33,34,35] (.seq (.block 1 (.seq (.reg none [⟨some 37,.mov (.t 35),none⟩,⟨some 38,.iaddrf 1 (.t 33) (.t 35),none⟩,⟨some 39,.ldf false 1 (.t 38),none⟩,⟨some 8,.mov (.t 37),none⟩,⟨some 9,.mov (.t 39),none⟩])
 (.lv [4,5,6,7,8,9,33,34,35] (.seq (.reg none [⟨some 40,.mov (.t 9),none⟩,⟨some 41,.conv .u64 (.t 40),none⟩,⟨some 42,.mov (.t 6),none⟩,⟨some 43,.bin .shl (.t 41) (.t 42),none⟩,⟨some 10,.mov (.t 43),none⟩])
 (.lv [4,5,6,7,8,10,33,34,35] (.seq (.reg none [⟨some 44,.mov (.t 7),none⟩,⟨some 45,.mov (.t 8),none⟩,⟨some 46,.mov (.t 5),none⟩,⟨some 47,.bin .add (.t 45) (.t 46),none⟩,⟨some 48,.iaddr 1 (.t 44) (.t 47),none⟩,⟨some 49,.ld false 1 (.t 48),none⟩,⟨some 50,.mov (.t 10),none⟩,⟨some 51,.conv .u32 (.t 50),none⟩,⟨some 52,.bin .or (.t 49) (.t 51),none⟩,⟨some 53,.iaddr 1 (.t 44) (.t 47),none⟩,⟨none,.st 1 (.t 53) (.t 52),none⟩])
 (.lv [4,5,6,7,8,10,33,34,35] (.reg none [⟨some 54,.mov (.t 7),none⟩,⟨some 55,.mov (.t 8),none⟩,⟨some 56,.mov (.t 5),none⟩,⟨some 57,.bin .add (.t 55) (.t 56),none⟩,⟨some 58,.bin .add (.t 57) (.k (.int .i64 1)),none⟩,⟨some 59,.mov (.t 10),none⟩,⟨some 60,.bin .shr (.t 59) (.k (.int .u64 32)),none⟩,⟨some 61,.conv .u32 (.t 60),none⟩,⟨some 62,.iaddr 1 (.t 54) (.t 58),none⟩,⟨none,.st 1 (.t 62) (.t 61),none⟩]))))))))
 (.lv [4,5,6,7,33,34,35] (.reg none [⟨some 63,.bin .add (.t 35) (.k (.int .i64 1)),none⟩,⟨some 35,.mov (.t 63),none⟩]))))))
def k174_0:IR:=
 .seq (.reg none [⟨some 64,.mov (.t 7),none⟩,⟨some 65,.callF 137 [.t 64],none⟩,⟨none,.st 1 (.t 4) (.t 65),none⟩])
 (.ret)
def c174:IR:=
 .seq (.reg none [⟨some 2,.box 53 1 (.t 0),none⟩,⟨some 4,.alloc 53 [.nilsl 162 1],none⟩])
 (.lv [1,2,4] (.seq (.seq (.reg none [⟨some 11,.mov (.t 1),none⟩,⟨some 12,.bin .le (.t 11) (.k (.int .i64 0)),none⟩,⟨some 13,.mov (.t 12),none⟩,⟨some 14,.faddr 0 (.t 2),(some (13,false))⟩,⟨some 15,.ld false 1 (.t 14),(some (13,false))⟩,⟨some 16,.lenf (.t 15),(some (13,false))⟩,⟨some 17,.bin .eq (.t 16) (.k (.int .i64 0)),(some (13,false))⟩,⟨some 18,.pick (.t 13) (.k (.bool true)) (.t 17),none⟩])
 (.lv [1,2,4,18] (.cond (.t 18) (.lv [2,4] (.seq (.reg none [⟨some 19,.ld true 1 (.t 2),none⟩,⟨none,.st 1 (.t 4) (.t 19),none⟩])
 (.ret)))
 (.skip))))
 (.lv [1,2,4] (.seq (.reg none [⟨some 20,.mov (.t 1),none⟩,⟨some 21,.bin .quo (.t 20) (.k (.int .i64 32)),none⟩,⟨some 22,.mov (.t 1),none⟩,⟨some 23,.bin .rem (.t 22) (.k (.int .i64 32)),none⟩,⟨some 24,.conv .u64 (.t 23),none⟩,⟨some 5,.mov (.t 21),none⟩,⟨some 6,.mov (.t 24),none⟩])
 (.lv [2,4,5,6] (.seq (.reg none [⟨some 25,.faddr 0 (.t 2),none⟩,⟨some 26,.ld false 1 (.t 25),none⟩,⟨some 27,.lenf (.t 26),none⟩,⟨some 28,.mov (.t 5),none⟩,⟨some 29,.bin .add (.t 27) (.t 28),none⟩,⟨some 30,.bin .add (.t 29) (.k (.int .i64 1)),none⟩,⟨some 31,.mk 162 4 [.int .u32 0] (.t 30),none⟩,⟨some 7,.mov (.t 31),none⟩])
 (.lv [2,4,5,6,7] (.seq (.seq (.reg none [⟨some 32,.faddr 0 (.t 2),none⟩,⟨some 33,.ld false 1 (.t 32),none⟩,⟨some 34,.lenf (.t 33),none⟩,⟨some 35,.mov (.k (.int .i64 0)),none⟩])
 (.lv [4,5,6,7,33,34,35] (.block 0 (.loop [4,5,6,7,33,34,35] (some (4,[])) b174_0))))
 k174_0))))))))
def i174:IFn:=⟨2,66,c174,[.c 4 true 1],.pure⟩
def b175_0:IR:=
 .seq (.reg none [⟨some 15,.bin .lt (.t 14) (.t 13),none⟩])
 (.lv [0,1,2,7,8,12,13,14,15] (.seq (.cond (.t 15) (.skip)
 (.exit 0))
 (.lv [0,1,2,7,8,12,13,14] (.seq (.block 1 (.seq (.reg none [⟨some 16,.mov (.t 14),none⟩,⟨some 17,.iaddr 1 (.t 12) (.t 14),none⟩,⟨some 18,.ld false 1 (.t 17),none⟩,⟨some 9,.mov (.t 16),none⟩,⟨some 10,.mov (.t 18),none⟩])
 (.lv [0,1,2,7,8,9,10,12,13,14] (.seq (.reg none [⟨some 19,.mov (.t 2),none⟩,⟨some 20,.mov (.t 10),none⟩,⟨some 21,.conv .u64 (.t 20),none⟩,⟨some 22,.bin .mul (.t 19) (.t 21),none⟩,⟨some 23,.mov (.t 7),none⟩,⟨some 24,.bin .add (.t 22) (.t 23),none⟩,⟨some 11,.mov (.t 24),none⟩])
 (.lv [0,1,2,8,9,11,12,13,14] (.seq (.reg none [⟨some 25,.mov (.t 11),none⟩,⟨some 26,.bin .shr (.t 25) (.k (.int .u64 32)),none⟩,⟨some 7,.mov (.t 26),none⟩])
 (.lv [0,1,2,7,8,9,11,12,13,14] (.reg none [⟨some 28,.mov (.t 0),none⟩,⟨some 29,.mov (.t 9),none⟩,⟨some 30,.mov (.t 0),none⟩,⟨some 31,.mov (.t 9),none⟩,⟨some 32,.iaddr 1 (.t 30) (.t 31),none⟩,⟨some 33,.ld false 1 (.t 32),none⟩,⟨some 34,.mov (.t 11),none⟩,⟨some 35,.conv .u32 (.t 34),none⟩,⟨some 36,.mov (.t 8),none⟩,⟨some 37,.callR 178 [.t 33,.t 35,.t 36],none⟩,⟨some 27,.mov (.t 37),none⟩,⟨some 38,.ext (.t 27) 0,none⟩,⟨some 39,.ext (.t 27) 1,none⟩,⟨some 40,.iaddr 1 (.t 28) (.t 29),none⟩,⟨none,.st 1 (.t 40) (.t 38),none⟩,⟨some 8,.mov (.t 39),none⟩]))))))))
 (.lv [0,1,2,7,8,12,13,14] (.reg none [⟨some 41,.bin .add (.t 14) (.k (.int .i64 1)),none⟩,⟨some 14,.mov (.t 41),none⟩]))))))
def k175_0:IR:=
 .seq (.reg none [⟨some 43,.mov (.t 0),none⟩,⟨some 44,.mov (.t 1),none⟩,⟨some 45,.len (.t 44),none⟩,⟨some 46,.mov (.t 0),none⟩,⟨some 47,.mov (.t 1),none⟩,⟨some 48,.len (.t 47),none⟩,⟨some 49,.iaddr 1 (.t 46) (.t 48),none⟩,⟨some 50,.ld false 1 (.t 49),none⟩,⟨some 51,.mov (.t 7),none⟩,⟨some 52,.conv .u32 (.t 51),none⟩,⟨some 53,.mov (.t 8),none⟩,⟨some 54,.callR 178 [.t 50,.t 52,.t 53],none⟩,⟨some 42,.mov (.t 54),none⟩,⟨some 55,.ext (.t 42) 0,none⟩,⟨some 56,.ext (.t 42) 1,none⟩,⟨some 57,.iaddr 1 (.t 43) (.t 45),none⟩,⟨none,.st 1 (.t 57) (.t 55),none⟩,⟨some 8,.mov (.t 56),none⟩])
 (.lv [8] (.seq (.reg none [⟨some 58,.mov (.t 8),none⟩,⟨some 59,.bin .eq (.t 58) (.k (.int .u32 1)),none⟩,⟨some 6,.mov (.t 59),none⟩])
 (.ret)))
def c175:IR:=
 .seq (.reg none [⟨some 6,.mov (.k (.bool false)),none⟩])
 (.lv [0,1,2] (.seq (.reg none [⟨some 7,.mov (.k (.int .u64 0)),none⟩,⟨some 8,.mov (.k (.int .u32 0)),none⟩])
 (.lv [0,1,2,7,8] (.seq (.seq (.reg none [⟨some 12,.mov (.t 1),none⟩,⟨some 13,.len (.t 12),none⟩,⟨some 14,.mov (.k (.int .i64 0)),none⟩])
 (.lv [0,1,2,7,8,12,13,14] (.block 0 (.loop [0,1,2,7,8,12,13,14] none b175_0))))
 k175_0))))
def i175:IFn:=⟨3,60,c175,[.t 6],.ref⟩
def b176_0:IR:=
 .seq (.reg none [⟨some 10,.bin .lt (.t 9) (.t 8),none⟩])
 (.lv [0,1,4,7,8,9,10] (.seq (.cond (.t 10) (.skip)
 (.exit 0))
 (.lv [0,1,4,7,8,9] (.seq (.block 1 (.seq (.reg none [⟨some 11,.mov (.t 9),none⟩,⟨some 12,.iaddr 1 (.t 7) (.t 9),none⟩,⟨some 13,.ld false 1 (.t 12),none⟩,⟨some 5,.mov (.t 11),none⟩,⟨some 6,.mov (.t 13),none⟩])
 (.lv [0,1,4,5,6,7,8,9] (.reg none [⟨some 15,.mov (.t 0),none⟩,⟨some 16,.mov (.t 5),none⟩,⟨some 17,.mov (.t 0),none⟩,⟨some 18,.mov (.t 5),none⟩,⟨some 19,.iaddr 1 (.t 17) (.t 18),none⟩,⟨some 20,.ld false 1 (.t 19),none⟩,⟨some 21,.mov (.t 6),none⟩,⟨some 22,.mov (.t 4),none⟩,⟨some 23,.callR 167 [.t 20,.t 21,.t 22],none⟩,⟨some 14,.mov (.t 23),none⟩,⟨some 24,.ext (.t 14) 0,none⟩,⟨some 25,.ext (.t 14) 1,none⟩,⟨some 26,.iaddr 1 (.t 15) (.t 16),none⟩,⟨none,.st 1 (.t 26) (.t 24),none⟩,⟨some 4,.mov (.t 25),none⟩]))))
 (.lv [0,1,4,7,8,9] (.reg none [⟨some 27,.bin .add (.t 9) (.k (.int .i64 1)),none⟩,⟨some 9,.mov (.t 27),none⟩]))))))
def k176_0:IR:=
 .reg none [⟨some 28,.mov (.t 0),none⟩,⟨some 29,.mov (.t 1),none⟩,⟨some 30,.len (.t 29),none⟩,⟨some 31,.iaddr 1 (.t 28) (.t 30),none⟩,⟨some 32,.ld false 1 (.t 31),none⟩,⟨some 33,.mov (.t 4),none⟩,⟨some 34,.bin .add (.t 32) (.t 33),none⟩,⟨some 35,.iaddr 1 (.t 28) (.t 30),none⟩,⟨none,.st 1 (.t 35) (.t 34),none⟩]
def c176:IR:=
 .seq (.reg none [⟨some 4,.mov (.k (.int .u32 0)),none⟩])
 (.lv [0,1,4] (.seq (.seq (.reg none [⟨some 7,.mov (.t 1),none⟩,⟨some 8,.len (.t 7),none⟩,⟨some 9,.mov (.k (.int .i64 0)),none⟩])
 (.lv [0,1,4,7,8,9] (.block 0 (.loop [0,1,4,7,8,9] none b176_0))))
 k176_0))
def i176:IFn:=⟨2,36,c176,[],.ref⟩
def b177_0:IR:=
 .seq (.reg none [⟨some 33,.bin .lt (.t 32) (.t 31),none⟩])
 (.lv [2,4,5,6,7,31,32,33] (.seq (.cond (.t 33) (.skip)
 (.exit 0))
 (.lv [2,4,5,6,7,31,32] (.seq (.block 1 (.seq (.reg none [⟨some 34,.mov (.t 32),none⟩,⟨some 8,.mov (.t 34),none⟩])
 (.lv [2,4,5,6,7,8,31,32] (.seq (.reg none [⟨some 35,.faddr 0 (.t 2),none⟩,⟨some 36,.ld false 1 (.t 35),none⟩,⟨some 37,.mov (.t 8),none⟩,⟨some 38,.mov (.t 5),none⟩,⟨some 39,.bin .add (.t 37) (.t 38),none⟩,⟨some 40,.iaddrf 1 (.t 36) (.t 39),none⟩,⟨some 41,.ldf false 1 (.t 40),none⟩,⟨some 42,.conv .u64 (.t 41),none⟩,⟨some 9,.mov (.t 42),none⟩])
 (.lv [2,4,5,6,7,8,9,31,32] (.seq (.seq (.reg none [⟨some 43,.mov (.t 8),none⟩,⟨some 44,.mov (.t 5),none⟩,⟨some 45,.bin .add (.t 43) (.t 44),none⟩,⟨some 46,.bin .add (.t 45) (.k (.int .i64 1)),none⟩,⟨some 47,.faddr 0 (.t 2),none⟩,⟨some 48,.ld false 1 (.t 47),none⟩,⟨some 49,.lenf (.t 48),none⟩,⟨some 50,.bin .lt (.t 46) (.t 49),none⟩])
 (.lv [2,4,5,6,7,8,9,31,32,50] (.cond (.t 50) (.lv [2,4,5,6,7,8,9,31,32] (.reg none [⟨some 51,.mov (.t 9),none⟩,⟨some 52,.faddr 0 (.t 2),none⟩,⟨some 53,.ld false 1 (.t 52),none⟩,⟨some 54,.mov (.t 8),none⟩,⟨some 55,.mov (.t 5),none⟩,⟨some 56,.bin .add (.t 54) (.t 55),none⟩,⟨some 57,.bin .add (.t 56) (.k (.int .i64 1)),none⟩,⟨some 58,.iaddrf 1 (.t 53) (.t 57),none⟩,⟨some 59,.ldf false 1 (.t 58),none⟩,⟨some 60,.conv .u64 (.t 59),none⟩,⟨some 61,.bin .shl (.t 60) (.k (.int .u64 32)),none⟩,⟨some 62,.bin .or (.t 51) (.t 61),none⟩,⟨some 9,.mov (.t 62),none⟩]))
 (.skip))))
 (.lv [2,4,5,6,7,8,9,31,32] (.reg none [⟨some 63,.mov (.t 7),none⟩,⟨some 64,.mov (.t 8),none⟩,⟨some 65,.mov (.t 9),none⟩,⟨some 66,.mov (.t 6),none⟩,⟨some 67,.bin .shr (.t 65) (.t 66),none⟩,⟨some 68,.conv .u32 (.t 67),none⟩,⟨some 69,.iaddr 1 (.t 63) (.t 64),none⟩,⟨none,.st 1 (.t 69) (.t 68),none⟩]))))))))
 (.lv [2,4,5,6,7,31,32] (.reg none [⟨some 70,.bin .add (.t 32) (.k (.int .i64 1)),none⟩,⟨some 32,.mov (.t 70),none⟩]))))))
def k177_0:IR:=
 .seq (.reg none [⟨some 71,.mov (.t 7),none⟩,⟨some 72,.callF 137 [.t 71],none⟩,⟨none,.st 1 (.t 4) (.t 72),none⟩])
 (.ret)
def c177:IR:=
 .seq (.reg none [⟨some 2,.box 53 1 (.t 0),none⟩,⟨some 4,.alloc 53 [.nilsl 162 1],none⟩])
 (.lv [1,2,4] (.seq (.seq (.reg none [⟨some 10,.mov (.t 1),none⟩,⟨some 11,.bin .le (.t 10) (.k (.int .i64 0)),none⟩])
 (.lv [1,2,4,11] (.cond (.t 11) (.lv [2,4] (.seq (.reg none [⟨some 12,.ld true 1 (.t 2),none⟩,⟨none,.st 1 (.t 4) (.t 12),none⟩])
 (.ret)))
 (.skip))))
 (.lv [1,2,4] (.seq (.reg none [⟨some 13,.mov (.t 1),none⟩,⟨some 14,.bin .quo (.t 13) (.k (.int .i64 32)),none⟩,⟨some 15,.mov (.t 1),none⟩,⟨some 16,.bin .rem (.t 15) (.k (.int .i64 32)),none⟩,⟨some 17,.conv .u64 (.t 16),none⟩,⟨some 5,.mov (.t 14),none⟩,⟨some 6,.mov (.t 17),none⟩])
 (.lv [2,4,5,6] (.seq (.seq (.reg none [⟨some 18,.mov (.t 5),none⟩,⟨some 19,.faddr 0 (.t 2),none⟩,⟨some 20,.ld false 1 (.t 19),none⟩,⟨some 21,.lenf (.t 20),none⟩,⟨some 22,.bin .ge (.t 18) (.t 21),none⟩])
 (.lv [2,4,5,6,22] (.cond (.t 22) (.lv [4] (.seq (.reg none [⟨some 23,.build [.nilsl 162 1] [],none⟩,⟨none,.st 1 (.t 4) (.t 23),none⟩])
 (.ret)))
 (.skip))))
 (.lv [2,4,5,6] (.seq (.reg none [⟨some 24,.faddr 0 (.t 2),none⟩,⟨some 25,.ld false 1 (.t 24),none⟩,⟨some 26,.lenf (.t 25),none⟩,⟨some 27,.mov (.t 5),none⟩,⟨some 28,.bin .sub (.t 26) (.t 27),none⟩,⟨some 29,.mk 162 4 [.int .u32 0] (.t 28),none⟩,⟨some 7,.mov (.t 29),none⟩])
 (.lv [2,4,5,6,7] (.seq (.seq (.reg none [⟨some 30,.mov (.t 7),none⟩,⟨some 31,.len (.t 30),none⟩,⟨some 32,.mov (.k (.int .i64 0)),none⟩])
 (.lv [2,4,5,6,7,31,32] (.block 0 (.loop [2,4,5,6,7,31,32] (some (4,[])) b177_0))))
 k177_0))))))))))
def i177:IFn:=⟨2,73,c177,[.c 4 true 1],.pure⟩
def c178:IR:=
 .seq (.reg none [⟨some 6,.mov (.k (.int .u32 0)),none⟩,⟨some 7,.mov (.k (.int .u32 0)),none⟩])
 (.lv [0,1,2] (.seq (.reg none [⟨some 8,.mov (.t 0),none⟩,⟨some 9,.mov (.t 1),none⟩,⟨some 10,.bin .sub (.t 8) (.t 9),none⟩,⟨some 11,.mov (.t 2),none⟩,⟨some 12,.bin .sub (.t 10) (.t 11),none⟩,⟨some 6,.mov (.t 12),none⟩])
 (.lv [0,1,6] (.seq (.reg none [⟨some 13,.mov (.t 0),none⟩,⟨some 14,.com (.t 13),none⟩,⟨some 15,.mov (.t 1),none⟩,⟨some 16,.bin .and (.t 14) (.t 15),none⟩,⟨some 17,.mov (.t 0),none⟩,⟨some 18,.mov (.t 1),none⟩,⟨some 19,.bin .xor (.t 17) (.t 18),none⟩,⟨some 20,.com (.t 19),none⟩,⟨some 21,.mov (.t 6),none⟩,⟨some 22,.bin .and (.t 20) (.t 21),none⟩,⟨some 23,.bin .or (.t 16) (.t 22),none⟩,⟨some 24,.bin .shr (.t 23) (.k (.int .u64 31)),none⟩,⟨some 7,.mov (.t 24),none⟩])
 (.ret)))))
def i178:IFn:=⟨3,25,c178,[.t 6,.t 7],.pure⟩
def c179:IR:=
 .seq (.reg none [⟨some 2,.mov (.k (.int .i64 0)),none⟩])
 (.lv [0,2] (.seq (.seq (.reg none [⟨some 3,.mov (.t 0),none⟩,⟨some 4,.bin .ge (.t 3) (.k (.int .u32 65536)),none⟩])
 (.lv [0,2,4] (.cond (.t 4) (.lv [0] (.seq (.reg none [⟨some 5,.mov (.t 0),none⟩,⟨some 6,.bin .shr (.t 5) (.k (.int .u64 16)),none⟩,⟨some 0,.mov (.t 6),none⟩])
 (.lv [0] (.reg none [⟨some 2,.mov (.k (.int .i64 16)),none⟩]))))
 (.skip))))
 (.lv [0,2] (.seq (.seq (.reg none [⟨some 7,.mov (.t 0),none⟩,⟨some 8,.bin .ge (.t 7) (.k (.int .u32 256)),none⟩])
 (.lv [0,2,8] (.cond (.t 8) (.lv [0,2] (.seq (.reg none [⟨some 9,.mov (.t 0),none⟩,⟨some 10,.bin .shr (.t 9) (.k (.int .u64 8)),none⟩,⟨some 0,.mov (.t 10),none⟩])
 (.lv [0,2] (.reg none [⟨some 11,.mov (.t 2),none⟩,⟨some 12,.bin .add (.t 11) (.k (.int .i64 8)),none⟩,⟨some 2,.mov (.t 12),none⟩]))))
 (.skip))))
 (.lv [0,2] (.seq (.reg none [⟨some 13,.mov (.t 2),none⟩,⟨some 14,.mov (.t 0),none⟩,⟨some 15,.conv .u8 (.t 14),none⟩,⟨some 16,.sidx (.k (.str ⟨#[0,1,2,2,3,3,3,3,4,4,4,4,4,4,4,4,5,5,5,5,5,5,5,5,5,5,5,5,5,5,5,5,6,6,6,6,6,6,6,6,6,6,6,6,6,6,6,6,6,6,6,6,6,6,6,6,6,6,6,6,6,6,6,6,7,7,7,7,7,7,7,7,7,7,7,7,7,7,7,7,7,7,7,7,7,7,7,7,7,7,7,7,7,7,7,7,7,7,7,7,7,7,7,7,7,7,7,7,7,7,7,7,7,7,7,7,7,7,7,7,7,7,7,7,7,7,7,7,8,8,8,8,8,8,8,8,8,8,8,8,8,8,8,8,8,8,8,8,8,8,8,8,8,8,8,8,8,8,8,8,8,8,8,8,8,8,8,8,8,8,8,8,8,8,8,8,8,8,8,8,8,8,8,8,8,8,8,8,8,8,8,8,8,8,8,8,8,8,8,8,8,8,8,8,8,8,8,8,8,8,8,8,8,8,8,8,8,8,8,8,8,8,8,8,8,8,8,8,8,8,8,8,8,8,8,8,8,8,8,8,8,8,8,8,8,8,8,8,8,8,8,8,8,8,8,8]⟩)) (.t 15),none⟩,⟨some 17,.conv .i64 (.t 16),none⟩,⟨some 18,.bin .add (.t 13) (.t 17),none⟩,⟨some 2,.mov (.t 18),none⟩])
 (.ret)))))))
def i179:IFn:=⟨1,19,c179,[.t 2],.pure⟩
def tab0:Nat→Option IFn
  | 4=>some i4
  | 8=>some i8
  | 9=>some i9
  | 10=>some i10
  | 11=>some i11
  | 13=>some i13
  | 14=>some i14
  | 15=>some i15
  | 22=>some i22
  | 23=>some i23
  | 24=>some i24
  | 28=>some i28
  | 30=>some i30
  | 32=>some i32
  | 33=>some i33
  | 34=>some i34
  | 35=>some i35
  | 36=>some i36
  | 37=>some i37
  | 38=>some i38
  | 39=>some i39
  | 40=>some i40
  | 41=>some i41
  | 42=>some i42
  | 43=>some i43
  | 44=>some i44
  | 45=>some i45
  | 46=>some i46
  | 47=>some i47
  | 48=>some i48
  | 49=>some i49
  | 50=>some i50
  | 51=>some i51
  | 52=>some i52
  | 53=>some i53
  | 54=>some i54
  | 65=>some i65
  | 66=>some i66
  | 67=>some i67
  | 72=>some i72
  | 73=>some i73
  | 74=>some i74
  | 75=>some i75
  | 76=>some i76
  | 77=>some i77
  | 78=>some i78
  | 79=>some i79
  | 80=>some i80
  | 81=>some i81
  | 82=>some i82
  | 83=>some i83
  | 84=>some i84
  | 85=>some i85
  | 86=>some i86
  | 87=>some i87
  | 88=>some i88
  | 91=>some i91
  | 92=>some i92
  | 93=>some i93
  | _=>none
def tab1:Nat→Option IFn
  | 94=>some i94
  | 95=>some i95
  | 96=>some i96
  | 97=>some i97
  | 98=>some i98
  | 99=>some i99
  | 100=>some i100
  | 107=>some i107
  | 108=>some i108
  | 109=>some i109
  | 110=>some i110
  | 111=>some i111
  | 112=>some i112
  | 115=>some i115
  | 117=>some i117
  | 118=>some i118
  | 119=>some i119
  | 120=>some i120
  | 121=>some i121
  | 122=>some i122
  | 123=>some i123
  | 124=>some i124
  | 125=>some i125
  | 126=>some i126
  | 128=>some i128
  | 129=>some i129
  | 130=>some i130
  | 131=>some i131
  | 132=>some i132
  | 133=>some i133
  | 134=>some i134
  | 135=>some i135
  | 136=>some i136
  | 137=>some i137
  | 143=>some i143
  | 144=>some i144
  | 145=>some i145
  | 146=>some i146
  | 147=>some i147
  | 148=>some i148
  | 149=>some i149
  | 150=>some i150
  | 151=>some i151
  | 152=>some i152
  | 153=>some i153
  | 154=>some i154
  | 155=>some i155
  | 156=>some i156
  | 157=>some i157
  | 158=>some i158
  | 159=>some i159
  | 160=>some i160
  | 161=>some i161
  | 164=>some i164
  | 165=>some i165
  | 166=>some i166
  | 167=>some i167
  | 168=>some i168
  | 169=>some i169
  | 170=>some i170
  | 171=>some i171
  | 173=>some i173
  | 174=>some i174
  | 175=>some i175
  | 176=>some i176
  | 177=>some i177
  | 178=>some i178
  | 179=>some i179
  | _=>none
def tab (f:Nat):Option IFn:=match tab0 f with|some i=>some i|none=>tab1 f
end Go.Proofs.YtlejgleocnemoabGreat.I
