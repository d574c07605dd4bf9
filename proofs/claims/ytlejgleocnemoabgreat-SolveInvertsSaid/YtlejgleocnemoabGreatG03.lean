/- The texts VIr0, one behind the other. Conditions: each text's own. -/
import Derived.Test.YtlejgleocnemoabGreatG00
namespace Go.Proofs.YtlejgleocnemoabGreat.I
open Go Go.V
def c4:IR:=
 .seq (.reg none [⟨some 2,.box 26 4 (.t 0),none⟩,⟨some 4,.mov (.k (.bool false)),none⟩])
 (.lv [1,2] (.seq (.seq (.reg none [⟨some 10,.ld true 4 (.t 2),none⟩,⟨some 11,.callP 8 [.t 10],none⟩,⟨some 12,.not (.t 11),none⟩])
 (.lv [1,2,12] (.cond (.t 12) (.lv [] (.seq (.reg none [⟨some 13,.callP 9 [],none⟩,⟨some 4,.mov (.t 13),none⟩])
 (.ret)))
 (.skip))))
 (.lv [1,2] (.seq (.reg none [⟨some 14,.mov (.t 1),none⟩,⟨some 15,.bin .rem (.t 14) (.k (.int .u8 8)),none⟩,⟨some 16,.conv .i64 (.t 15),none⟩,⟨some 17,.bin .add (.k (.int .i64 1)) (.t 16),none⟩,⟨some 5,.mov (.t 17),none⟩])
 (.lv [2,5] (.seq (.reg none [⟨some 19,.ld true 4 (.t 2),none⟩,⟨some 20,.callP 11 [.t 19],none⟩,⟨some 21,.mov (.t 5),none⟩,⟨some 22,.callP 14 [.t 20,.t 21],none⟩,⟨some 18,.mov (.t 22),none⟩,⟨some 23,.ext (.t 18) 0,none⟩,⟨some 24,.ext (.t 18) 1,none⟩,⟨some 6,.alloc 31 [.nilsl 3 1,.bool false,.nilsl 21 1,.nilsl 57 3,.bool false],none⟩,⟨none,.st 5 (.t 6) (.t 23),none⟩,⟨some 7,.mov (.t 24),none⟩])
 (.lv [2,5,6,7] (.seq (.reg none [⟨some 26,.ld true 4 (.t 2),none⟩,⟨some 27,.mov (.t 5),none⟩,⟨some 28,.callP 15 [.t 26,.t 27],none⟩,⟨some 25,.mov (.t 28),none⟩,⟨some 29,.ext (.t 25) 0,none⟩,⟨some 30,.ext (.t 25) 1,none⟩,⟨some 8,.alloc 26 [.nilsl 3 1,.bool false,.nilsl 21 1,.nilsl 66 3],none⟩,⟨none,.st 4 (.t 8) (.t 29),none⟩,⟨some 9,.mov (.t 30),none⟩])
 (.lv [6,7,8,9] (.seq (.reg none [⟨some 31,.ld true 5 (.t 6),none⟩,⟨some 32,.mov (.t 7),none⟩,⟨some 33,.ld true 4 (.t 8),none⟩,⟨some 34,.mov (.t 9),none⟩,⟨some 35,.callR 13 [.t 31,.t 32,.t 33,.t 34],none⟩,⟨some 36,.mov (.t 35),none⟩,⟨some 37,.callP 9 [],(some (36,true))⟩,⟨some 38,.pick (.t 36) (.t 37) (.k (.bool false)),none⟩,⟨some 4,.mov (.t 38),none⟩])
 (.ret)))))))))))
def i4:IFn:=⟨2,39,c4,[.t 4],.pure⟩
def b8_0:IR:=
 .seq (.seq (.reg none [⟨some 4,.mov (.t 3),none⟩,⟨some 5,.faddr 3 (.t 1),none⟩,⟨some 6,.ld false 1 (.t 5),none⟩,⟨some 7,.lenf (.t 6),none⟩,⟨some 8,.bin .lt (.t 4) (.t 7),none⟩,⟨some 9,.mov (.t 8),none⟩,⟨some 10,.mov (.t 3),(some (9,true))⟩,⟨some 11,.bin .lt (.t 10) (.k (.int .i64 40)),(some (9,true))⟩,⟨some 12,.pick (.t 9) (.t 11) (.k (.bool false)),none⟩])
 (.lv [1,3,12] (.cond (.t 12) (.skip)
 (.exit 0))))
 (.lv [1,3] (.seq (.block 1 (.seq (.reg none [⟨some 15,.faddr 3 (.t 1),none⟩,⟨some 16,.ld false 1 (.t 15),none⟩,⟨some 17,.mov (.t 3),none⟩,⟨some 18,.iaddrf 3 (.t 16) (.t 17),none⟩,⟨some 19,.faddr 1 (.t 18),none⟩,⟨some 20,.ldf false 1 (.t 19),none⟩,⟨some 21,.slen (.t 20),none⟩,⟨some 22,.bin .gt (.t 21) (.k (.int .i64 12)),none⟩,⟨some 23,.mov (.t 22),none⟩,⟨some 24,.faddr 3 (.t 1),(some (23,false))⟩,⟨some 25,.ld false 1 (.t 24),(some (23,false))⟩,⟨some 26,.mov (.t 3),(some (23,false))⟩,⟨some 27,.iaddrf 3 (.t 25) (.t 26),(some (23,false))⟩,⟨some 28,.faddr 2 (.t 27),(some (23,false))⟩,⟨some 29,.ldf false 1 (.t 28),(some (23,false))⟩,⟨some 30,.slen (.t 29),(some (23,false))⟩,⟨some 31,.bin .gt (.t 30) (.k (.int .i64 6)),(some (23,false))⟩,⟨some 32,.pick (.t 23) (.k (.bool true)) (.t 31),none⟩])
 (.lv [1,3,32] (.cond (.t 32) (.lv [] (.seq (.reg none [⟨some 2,.mov (.k (.bool false)),none⟩])
 (.ret)))
 (.skip)))))
 (.lv [1,3] (.reg none [⟨some 13,.mov (.t 3),none⟩,⟨some 14,.bin .add (.t 13) (.k (.int .i64 1)),none⟩,⟨some 3,.mov (.t 14),none⟩]))))
def k8_0:IR:=
 .seq (.reg none [⟨some 33,.ld true 4 (.t 1),none⟩,⟨some 34,.callP 32 [.t 33,.k (.int .i64 40)],none⟩,⟨some 2,.mov (.t 34),none⟩])
 (.ret)
def c8:IR:=
 .seq (.reg none [⟨some 1,.box 26 4 (.t 0),none⟩,⟨some 2,.mov (.k (.bool false)),none⟩])
 (.lv [1] (.seq (.seq (.reg none [⟨some 3,.mov (.k (.int .i64 0)),none⟩])
 (.lv [1,3] (.block 0 (.loop [1,3] (some (1,[])) b8_0))))
 k8_0))
def i8:IFn:=⟨1,35,c8,[.t 2],.pure⟩
def c9:IR:=
 .seq (.reg none [⟨some 0,.mov (.k (.bool false)),none⟩])
 (.lv [] (.seq (.reg none [⟨some 9,.bsl 3 1 [.k (.int .i64 2),.k (.int .i64 2)],none⟩,⟨some 10,.callF 34 [.t 9],none⟩,⟨some 11,.bsl 3 1 [.k (.int .i64 1),.k (.int .i64 2),.k (.int .i64 3),.k (.int .i64 4)],none⟩,⟨some 12,.callF 34 [.t 11],none⟩,⟨some 13,.callP 33 [.t 10,.t 12],none⟩,⟨some 8,.mov (.t 13),none⟩,⟨some 14,.ext (.t 8) 0,none⟩,⟨some 15,.ext (.t 8) 1,none⟩,⟨some 1,.alloc 31 [.nilsl 3 1,.bool false,.nilsl 21 1,.nilsl 57 3,.bool false],none⟩,⟨none,.st 5 (.t 1) (.t 14),none⟩,⟨some 2,.mov (.t 15),none⟩])
 (.lv [1] (.seq (.reg none [⟨some 17,.ld true 5 (.t 1),none⟩,⟨some 18,.callF 14 [.t 17,.k (.int .i64 4)],none⟩,⟨some 16,.mov (.t 18),none⟩,⟨some 19,.ext (.t 16) 0,none⟩,⟨some 20,.ext (.t 16) 1,none⟩,⟨some 3,.alloc 31 [.nilsl 3 1,.bool false,.nilsl 21 1,.nilsl 57 3,.bool false],none⟩,⟨none,.st 5 (.t 3) (.t 19),none⟩,⟨some 4,.mov (.t 20),none⟩])
 (.lv [3,4] (.seq (.reg none [⟨some 22,.callP 35 [.k (.int .i64 4)],none⟩,⟨some 23,.callP 35 [.k (.int .i64 8)],none⟩,⟨some 24,.callP 10 [.t 22,.t 23,.k (.int .i64 4)],none⟩,⟨some 21,.mov (.t 24),none⟩,⟨some 25,.ext (.t 21) 0,none⟩,⟨some 26,.ext (.t 21) 1,none⟩,⟨some 5,.alloc 31 [.nilsl 3 1,.bool false,.nilsl 21 1,.nilsl 57 3,.bool false],none⟩,⟨none,.st 5 (.t 5) (.t 25),none⟩,⟨some 6,.mov (.t 26),none⟩])
 (.lv [3,4,5,6] (.seq (.reg none [⟨some 27,.bsl 3 1 [.k (.int .i64 2),.k (.int .i64 2)],none⟩,⟨some 28,.callP 36 [.k (.int .i64 (-2))],none⟩,⟨some 29,.callP 36 [.k (.int .i64 1)],none⟩,⟨some 30,.build [.bool false,.str ⟨#[]⟩,.str ⟨#[]⟩] [(1,1,.k (.str ⟨#[51]⟩)),(2,1,.k (.str ⟨#[50]⟩))],none⟩,⟨some 31,.build [.bool false,.str ⟨#[]⟩,.str ⟨#[]⟩] [(0,1,.k (.bool true)),(1,1,.k (.str ⟨#[49]⟩)),(2,1,.k (.str ⟨#[50]⟩))],none⟩,⟨some 32,.bsl 66 3 [.t 28,.t 29,.t 30,.t 31],none⟩,⟨some 33,.build [.nilsl 3 1,.bool false,.nilsl 21 1,.nilsl 66 3] [(0,1,.t 27),(3,1,.t 32)],none⟩,⟨some 7,.alloc 26 [.nilsl 3 1,.bool false,.nilsl 21 1,.nilsl 66 3],none⟩,⟨none,.st 4 (.t 7) (.t 33),none⟩])
 (.lv [3,4,5,6,7] (.seq (.reg none [⟨some 34,.ld true 5 (.t 3),none⟩,⟨some 35,.mov (.t 4),none⟩,⟨some 36,.ld true 4 (.t 7),none⟩,⟨some 37,.callR 13 [.t 34,.t 35,.t 36,.k (.int .i64 0)],none⟩,⟨some 38,.mov (.t 37),none⟩,⟨some 39,.ld true 5 (.t 5),(some (38,true))⟩,⟨some 40,.mov (.t 6),(some (38,true))⟩,⟨some 41,.build [.bool false,.str ⟨#[]⟩,.str ⟨#[]⟩] [(1,1,.k (.str ⟨#[49]⟩)),(2,1,.k (.str ⟨#[50]⟩))],(some (38,true))⟩,⟨some 42,.bsl 66 3 [.t 41],(some (38,true))⟩,⟨some 43,.build [.nilsl 3 1,.bool false,.nilsl 21 1,.nilsl 66 3] [(3,1,.t 42)],(some (38,true))⟩,⟨some 44,.callR 13 [.t 39,.t 40,.t 43,.k (.int .i64 0)],(some (38,true))⟩,⟨some 45,.pick (.t 38) (.t 44) (.k (.bool false)),none⟩,⟨some 0,.mov (.t 45),none⟩])
 (.ret)))))))))))
def i9:IFn:=⟨0,46,c9,[.t 0],.pure⟩
def c10:IR:=
 .seq (.reg none [⟨some 3,.box 31 5 (.t 0),none⟩,⟨some 4,.box 31 5 (.t 1),none⟩,⟨some 6,.alloc 31 [.nilsl 3 1,.bool false,.nilsl 21 1,.nilsl 57 3,.bool false],none⟩,⟨some 7,.mov (.k (.int .i64 0)),none⟩])
 (.lv [2,3,4,6] (.seq (.seq (.reg none [⟨some 11,.ld true 5 (.t 4),none⟩,⟨some 12,.callP 37 [.t 11],none⟩,⟨some 8,.mov (.t 12),none⟩])
 (.lv [2,3,4,6,8] (.seq (.reg none [⟨some 13,.mov (.t 8),none⟩,⟨some 14,.bin .ne (.t 13) (.k (.int .i64 0)),none⟩])
 (.lv [2,3,4,6,8,14] (.cond (.t 14) (.lv [6,8] (.seq (.reg none [⟨some 15,.build [.sl 0 1 [],.bool false,.sl 0 1 [],.sl 0 3 [],.bool false] [],none⟩,⟨some 16,.mov (.t 8),none⟩,⟨none,.st 5 (.t 6) (.t 15),none⟩,⟨some 7,.mov (.t 16),none⟩])
 (.ret)))
 (.skip))))))
 (.lv [2,3,4,6] (.seq (.block 0 (.seq (.reg none [⟨some 18,.ld true 5 (.t 3),none⟩,⟨some 19,.callP 38 [.t 18],none⟩,⟨some 20,.bin .gt (.t 19) (.k (.int .i64 2)),none⟩,⟨some 17,.mov (.t 20),none⟩])
 (.lv [2,3,4,6,17] (.cond (.t 17) (.lv [6] (.seq (.reg none [⟨some 21,.build [.sl 0 1 [],.bool false,.sl 0 1 [],.sl 0 3 [],.bool false] [],none⟩,⟨none,.st 5 (.t 6) (.t 21),none⟩,⟨some 7,.mov (.k (.int .i64 23)),none⟩])
 (.ret)))
 (.lv [2,3,4,6] (.seq (.reg none [⟨some 23,.ld true 5 (.t 3),none⟩,⟨some 24,.callP 39 [.t 23],none⟩,⟨some 25,.mov (.t 24),none⟩,⟨some 26,.ld true 5 (.t 3),(some (25,true))⟩,⟨some 27,.callP 23 [.t 26],(some (25,true))⟩,⟨some 28,.bin .gt (.t 27) (.k (.int .i64 0)),(some (25,true))⟩,⟨some 29,.pick (.t 25) (.t 28) (.k (.bool false)),none⟩,⟨some 22,.mov (.t 29),none⟩])
 (.lv [2,3,4,6,22] (.cond (.t 22) (.lv [6] (.seq (.reg none [⟨some 30,.build [.sl 0 1 [],.bool false,.sl 0 1 [],.sl 0 3 [],.bool false] [],none⟩,⟨none,.st 5 (.t 6) (.t 30),none⟩,⟨some 7,.mov (.k (.int .i64 22)),none⟩])
 (.ret)))
 (.lv [2,3,4,6] (.seq (.reg (some [0,1,2,3,4,5,6,7]) [⟨some 32,.ld true 5 (.t 3),none⟩,⟨some 33,.callP 40 [.t 32],none⟩,⟨some 34,.lenf (.t 33),none⟩,⟨some 35,.ld true 5 (.t 4),none⟩,⟨some 36,.callP 40 [.t 35],none⟩,⟨some 37,.lenf (.t 36),none⟩,⟨some 38,.bin .ne (.t 34) (.t 37),none⟩,⟨some 31,.mov (.t 38),none⟩])
 (.lv [2,3,4,6,31] (.cond (.t 31) (.lv [6] (.seq (.reg none [⟨some 39,.build [.sl 0 1 [],.bool false,.sl 0 1 [],.sl 0 3 [],.bool false] [],none⟩,⟨none,.st 5 (.t 6) (.t 39),none⟩,⟨some 7,.mov (.k (.int .i64 24)),none⟩])
 (.ret)))
 (.lv [2,3,4,6] (.seq (.reg none [⟨some 41,.ld true 5 (.t 3),none⟩,⟨some 42,.callP 41 [.t 41],none⟩,⟨some 43,.bin .gt (.t 42) (.k (.int .i64 32)),none⟩,⟨some 40,.mov (.t 43),none⟩])
 (.lv [2,3,4,6,40] (.cond (.t 40) (.lv [6] (.seq (.reg none [⟨some 44,.build [.sl 0 1 [],.bool false,.sl 0 1 [],.sl 0 3 [],.bool false] [],none⟩,⟨none,.st 5 (.t 6) (.t 44),none⟩,⟨some 7,.mov (.k (.int .i64 26)),none⟩])
 (.ret)))
 (.skip)))))))))))))))))
 (.lv [2,3,4,6] (.seq (.reg (some [0,1,2,3,4,5,6,7,8,9]) [⟨some 45,.ld true 5 (.t 4),none⟩,⟨some 46,.callP 40 [.t 45],none⟩,⟨some 47,.ld true 5 (.t 3),none⟩,⟨some 48,.callP 40 [.t 47],none⟩,⟨some 49,.ld true 5 (.t 4),none⟩,⟨some 50,.callP 41 [.t 49],none⟩,⟨some 51,.ld true 5 (.t 3),none⟩,⟨some 52,.callP 41 [.t 51],none⟩,⟨some 53,.callO 42 [.t 46,.t 48,.t 50,.t 52],none⟩,⟨some 9,.mov (.t 53),none⟩])
 (.lv [2,3,4,6,9] (.seq (.seq (.reg (some [0,1,2,3,4,5,6,7,9,8,10,11]) [⟨some 54,.ld true 5 (.t 4),none⟩,⟨some 55,.callP 40 [.t 54],none⟩,⟨some 56,.ld true 5 (.t 4),none⟩,⟨some 57,.callP 40 [.t 56],none⟩,⟨some 58,.ld true 5 (.t 4),none⟩,⟨some 59,.callP 41 [.t 58],none⟩,⟨some 60,.ld true 5 (.t 4),none⟩,⟨some 61,.callP 41 [.t 60],none⟩,⟨some 63,.mov (.t 9),none⟩,⟨some 62,.callO 42 [.t 55,.t 57,.t 59,.t 61],none⟩,⟨some 64,.callM 43 [.t 62,.t 63],none⟩,⟨some 65,.not (.t 64),none⟩])
 (.lv [2,3,4,6,9,65] (.cond (.t 65) (.lv [6] (.seq (.reg none [⟨some 66,.build [.sl 0 1 [],.bool false,.sl 0 1 [],.sl 0 3 [],.bool false] [],none⟩,⟨none,.st 5 (.t 6) (.t 66),none⟩,⟨some 7,.mov (.k (.int .i64 22)),none⟩])
 (.ret)))
 (.skip))))
 (.lv [2,3,4,6,9] (.seq (.reg none [⟨some 10,.newnil 3 1,none⟩])
 (.lv [2,3,4,6,9,10] (.seq (.seq (.reg none [⟨some 67,.ld true 5 (.t 4),none⟩,⟨some 68,.callP 38 [.t 67],none⟩,⟨some 69,.bin .gt (.t 68) (.k (.int .i64 1)),none⟩])
 (.lv [2,3,4,6,9,10,69] (.cond (.t 69) (.lv [2,3,4,6,9,10] (.reg none [⟨some 70,.mov (.t 10),none⟩,⟨some 71,.ld true 5 (.t 4),none⟩,⟨some 72,.callP 41 [.t 71],none⟩,⟨some 73,.bsl 3 1 [.t 72],none⟩,⟨some 74,.app 3 1 8 (.t 70) (.t 73),none⟩,⟨some 10,.mov (.t 74),none⟩]))
 (.skip))))
 (.lv [2,3,6,9,10] (.seq (.seq (.reg none [⟨some 75,.ld true 5 (.t 3),none⟩,⟨some 76,.callP 38 [.t 75],none⟩,⟨some 77,.bin .gt (.t 76) (.k (.int .i64 1)),none⟩])
 (.lv [2,3,6,9,10,77] (.cond (.t 77) (.lv [2,3,6,9,10] (.reg none [⟨some 78,.mov (.t 10),none⟩,⟨some 79,.ld true 5 (.t 3),none⟩,⟨some 80,.callP 41 [.t 79],none⟩,⟨some 81,.bsl 3 1 [.t 80],none⟩,⟨some 82,.app 3 1 8 (.t 78) (.t 81),none⟩,⟨some 10,.mov (.t 82),none⟩]))
 (.skip))))
 (.lv [2,6,9,10] (.seq (.reg none [⟨some 83,.mov (.t 9),none⟩,⟨some 84,.mov (.t 10),none⟩,⟨some 85,.mov (.t 2),none⟩,⟨some 86,.callF 44 [.t 83,.t 84,.t 85],none⟩,⟨some 87,.ext (.t 86) 0,none⟩,⟨some 88,.ext (.t 86) 1,none⟩,⟨none,.st 5 (.t 6) (.t 87),none⟩,⟨some 7,.mov (.t 88),none⟩])
 (.ret)))))))))))))))))
def i10:IFn:=⟨3,89,c10,[.c 6 true 5,.t 7],.pure⟩
def c11:IR:=
 .seq (.reg none [⟨some 1,.box 26 4 (.t 0),none⟩,⟨some 2,.alloc 31 [.nilsl 3 1,.bool false,.nilsl 21 1,.nilsl 57 3,.bool false],none⟩])
 (.lv [1,2] (.seq (.reg none [⟨some 6,.ld true 4 (.t 1),none⟩,⟨some 7,.callP 45 [.t 6],none⟩,⟨some 5,.mov (.t 7),none⟩,⟨some 8,.ext (.t 5) 0,none⟩,⟨some 9,.ext (.t 5) 1,none⟩,⟨some 3,.alloc 31 [.nilsl 3 1,.bool false,.nilsl 21 1,.nilsl 57 3,.bool false],none⟩,⟨none,.st 5 (.t 3) (.t 8),none⟩,⟨some 4,.mov (.t 9),none⟩])
 (.lv [2,3] (.seq (.reg none [⟨some 10,.ld true 5 (.t 3),none⟩,⟨none,.st 5 (.t 2) (.t 10),none⟩])
 (.ret)))))
def i11:IFn:=⟨1,11,c11,[.c 2 true 5],.pure⟩
def c13:IR:=
 .seq (.reg none [⟨some 4,.box 31 5 (.t 0),none⟩,⟨some 6,.box 26 4 (.t 2),none⟩,⟨some 8,.mov (.k (.bool false)),none⟩])
 (.lv [1,3,4,6] (.seq (.seq (.reg none [⟨some 9,.mov (.t 1),none⟩,⟨some 10,.mov (.t 3),none⟩,⟨some 11,.bin .ne (.t 9) (.t 10),none⟩])
 (.lv [3,4,6,11] (.cond (.t 11) (.lv [] (.seq (.reg none [⟨some 8,.mov (.k (.bool false)),none⟩])
 (.ret)))
 (.skip))))
 (.lv [3,4,6] (.seq (.seq (.reg none [⟨some 12,.mov (.t 3),none⟩,⟨some 13,.bin .ne (.t 12) (.k (.int .i64 0)),none⟩])
 (.lv [4,6,13] (.cond (.t 13) (.lv [4] (.seq (.reg none [⟨some 14,.ld true 5 (.t 4),none⟩,⟨some 15,.callP 23 [.t 14],none⟩,⟨some 16,.bin .eq (.t 15) (.k (.int .i64 0)),none⟩,⟨some 8,.mov (.t 16),none⟩])
 (.ret)))
 (.skip))))
 (.lv [4,6] (.seq (.reg (some [0,1,2,3,4]) [⟨some 17,.ld true 5 (.t 4),none⟩,⟨some 18,.callP 30 [.t 17],none⟩,⟨some 19,.ld true 4 (.t 6),none⟩,⟨some 20,.callP 28 [.t 18,.t 19],none⟩,⟨some 8,.mov (.t 20),none⟩])
 (.ret)))))))
def i13:IFn:=⟨4,21,c13,[.t 8],.pure⟩
def b14_0:IR:=
 .seq (.reg none [⟨some 26,.bin .lt (.t 25) (.t 24),none⟩])
 (.lv [1,2,4,7,8,24,25,26] (.seq (.cond (.t 26) (.skip)
 (.exit 0))
 (.lv [1,2,4,7,8,24,25] (.seq (.block 1 (.seq (.reg none [⟨some 27,.mov (.t 25),none⟩,⟨some 9,.mov (.t 27),none⟩])
 (.lv [1,2,4,7,8,9,24,25] (.seq (.reg none [⟨some 28,.mov (.t 8),none⟩,⟨some 29,.mov (.t 9),none⟩,⟨some 30,.mov (.t 7),none⟩,⟨some 31,.mk 57 56 [.sl 0 1 [],.bool false,.sl 0 1 []] (.t 30),none⟩,⟨some 32,.iaddr 1 (.t 28) (.t 29),none⟩,⟨none,.st 1 (.t 32) (.t 31),none⟩])
 (.lv [1,2,4,7,8,9,24,25] (.reg (some [0,1,2,3,4,5,6,7]) [⟨some 33,.mov (.t 8),none⟩,⟨some 34,.mov (.t 9),none⟩,⟨some 35,.iaddr 1 (.t 33) (.t 34),none⟩,⟨some 36,.ld false 1 (.t 35),none⟩,⟨some 37,.mov (.t 9),none⟩,⟨some 38,.callP 52 [.k (.int .i64 1)],none⟩,⟨some 39,.iaddr 3 (.t 36) (.t 37),none⟩,⟨none,.st 3 (.t 39) (.t 38),none⟩]))))))
 (.lv [1,2,4,7,8,24,25] (.reg none [⟨some 40,.bin .add (.t 25) (.k (.int .i64 1)),none⟩,⟨some 25,.mov (.t 40),none⟩]))))))
def k14_0:IR:=
 .seq (.reg (some [0,2,3,5,1,4,6,7]) [⟨some 41,.ld true 5 (.t 2),none⟩,⟨some 43,.mov (.t 8),none⟩,⟨some 44,.ld true 5 (.t 2),none⟩,⟨some 46,.mov (.t 7),none⟩,⟨some 42,.callF 40 [.t 41],none⟩,⟨some 45,.callR 41 [.t 44],none⟩,⟨some 47,.callO 42 [.t 42,.t 43,.t 45,.t 46],none⟩,⟨some 10,.mov (.t 47),none⟩])
 (.lv [1,2,4,10] (.seq (.seq (.reg (some [0,2,4,6,9,1,3,5,7,8,10,11]) [⟨some 48,.ld true 5 (.t 2),none⟩,⟨some 50,.ld true 5 (.t 2),none⟩,⟨some 52,.ld true 5 (.t 2),none⟩,⟨some 54,.ld true 5 (.t 2),none⟩,⟨some 57,.mov (.t 10),none⟩,⟨some 49,.callF 40 [.t 48],none⟩,⟨some 51,.callF 40 [.t 50],none⟩,⟨some 53,.callR 41 [.t 52],none⟩,⟨some 55,.callR 41 [.t 54],none⟩,⟨some 56,.callO 42 [.t 49,.t 51,.t 53,.t 55],none⟩,⟨some 58,.callM 43 [.t 56,.t 57],none⟩,⟨some 59,.not (.t 58),none⟩])
 (.lv [1,2,4,10,59] (.cond (.t 59) (.lv [4] (.seq (.reg none [⟨some 60,.build [.sl 0 1 [],.bool false,.sl 0 1 [],.sl 0 3 [],.bool false] [],none⟩,⟨none,.st 5 (.t 4) (.t 60),none⟩,⟨some 5,.mov (.k (.int .i64 22)),none⟩])
 (.ret)))
 (.skip))))
 (.lv [1,2,4,10] (.seq (.reg none [⟨some 61,.ld true 5 (.t 2),none⟩,⟨some 62,.callF 53 [.t 61],none⟩,⟨some 11,.mov (.t 62),none⟩])
 (.lv [1,4,10,11] (.seq (.seq (.reg none [⟨some 63,.mov (.t 11),none⟩,⟨some 64,.lenf (.t 63),none⟩,⟨some 65,.bin .eq (.t 64) (.k (.int .i64 2)),none⟩])
 (.lv [1,4,10,11,65] (.cond (.t 65) (.lv [1,4,10,11] (.reg (some [0,1,2,3,4,5,6]) [⟨some 66,.mov (.t 11),none⟩,⟨some 67,.cut 1 (.t 66) (some (.k (.int .i64 1))) none,none⟩,⟨some 68,.mov (.t 11),none⟩,⟨some 69,.cut 1 (.t 68) none (some (.k (.int .i64 1))),none⟩,⟨some 70,.bslB 22 1 [.t 67,.t 69],none⟩,⟨some 71,.callF 54 [.t 70],none⟩,⟨some 11,.mov (.t 71),none⟩]))
 (.skip))))
 (.lv [1,4,10,11] (.seq (.reg none [⟨some 72,.mov (.t 10),none⟩,⟨some 73,.mov (.t 11),none⟩,⟨some 74,.mov (.t 1),none⟩,⟨some 75,.callF 44 [.t 72,.t 73,.t 74],none⟩,⟨some 76,.ext (.t 75) 0,none⟩,⟨some 77,.ext (.t 75) 1,none⟩,⟨none,.st 5 (.t 4) (.t 76),none⟩,⟨some 5,.mov (.t 77),none⟩])
 (.ret)))))))))
def c14:IR:=
 .seq (.reg none [⟨some 2,.box 31 5 (.t 0),none⟩,⟨some 4,.alloc 31 [.nilsl 3 1,.bool false,.nilsl 21 1,.nilsl 57 3,.bool false],none⟩,⟨some 5,.mov (.k (.int .i64 0)),none⟩])
 (.lv [1,2,4] (.seq (.seq (.reg none [⟨some 12,.ld true 5 (.t 2),none⟩,⟨some 13,.callR 37 [.t 12],none⟩,⟨some 6,.mov (.t 13),none⟩])
 (.lv [1,2,4,6] (.seq (.reg none [⟨some 14,.mov (.t 6),none⟩,⟨some 15,.bin .ne (.t 14) (.k (.int .i64 0)),none⟩])
 (.lv [1,2,4,6,15] (.cond (.t 15) (.lv [4,6] (.seq (.reg none [⟨some 16,.build [.sl 0 1 [],.bool false,.sl 0 1 [],.sl 0 3 [],.bool false] [],none⟩,⟨some 17,.mov (.t 6),none⟩,⟨none,.st 5 (.t 4) (.t 16),none⟩,⟨some 5,.mov (.t 17),none⟩])
 (.ret)))
 (.skip))))))
 (.lv [1,2,4] (.seq (.reg none [⟨some 18,.ld true 5 (.t 2),none⟩,⟨some 19,.callF 40 [.t 18],none⟩,⟨some 20,.lenf (.t 19),none⟩,⟨some 7,.mov (.t 20),none⟩])
 (.lv [1,2,4,7] (.seq (.reg none [⟨some 21,.mov (.t 7),none⟩,⟨some 22,.mkB 29 24 57 3 (.t 21),none⟩,⟨some 8,.mov (.t 22),none⟩])
 (.lv [1,2,4,7,8] (.seq (.seq (.reg none [⟨some 23,.mov (.t 8),none⟩,⟨some 24,.lenB (.t 23),none⟩,⟨some 25,.mov (.k (.int .i64 0)),none⟩])
 (.lv [1,2,4,7,8,24,25] (.block 0 (.loop [1,2,4,7,8,24,25] none b14_0))))
 k14_0))))))))
def i14:IFn:=⟨2,78,c14,[.c 4 true 5,.t 5],.pure⟩
def b15_0:IR:=
 .seq (.seq (.reg none [⟨some 26,.mov (.t 9),none⟩,⟨some 27,.mov (.t 7),none⟩,⟨some 28,.mov (.t 7),none⟩,⟨some 29,.bin .mul (.t 27) (.t 28),none⟩,⟨some 30,.bin .lt (.t 26) (.t 29),none⟩])
 (.lv [1,2,4,7,8,9,30] (.cond (.t 30) (.skip)
 (.exit 0))))
 (.lv [1,2,4,7,8,9] (.seq (.block 1 (.seq (.reg none [⟨some 10,.mov (.k (.int .i64 0)),none⟩])
 (.lv [1,2,4,7,8,9,10] (.seq (.seq (.reg none [⟨some 33,.mov (.t 9),none⟩,⟨some 34,.mov (.t 7),none⟩,⟨some 35,.bin .add (.t 34) (.k (.int .i64 1)),none⟩,⟨some 36,.bin .rem (.t 33) (.t 35),none⟩,⟨some 37,.bin .eq (.t 36) (.k (.int .i64 0)),none⟩])
 (.lv [1,2,4,7,8,9,10,37] (.cond (.t 37) (.lv [1,2,4,7,8,9] (.reg none [⟨some 10,.mov (.k (.int .i64 1)),none⟩]))
 (.skip))))
 (.lv [1,2,4,7,8,9,10] (.reg (some [0,1,2,3,4,5,6,7]) [⟨some 38,.faddr 3 (.t 8),none⟩,⟨some 39,.ld false 1 (.t 38),none⟩,⟨some 40,.mov (.t 10),none⟩,⟨some 41,.callP 36 [.t 40],none⟩,⟨some 42,.bsl 66 3 [.t 41],none⟩,⟨some 43,.app 66 3 40 (.t 39) (.t 42),none⟩,⟨some 44,.faddr 3 (.t 8),none⟩,⟨none,.st 1 (.t 44) (.t 43),none⟩]))))))
 (.lv [1,2,4,7,8,9] (.reg none [⟨some 31,.mov (.t 9),none⟩,⟨some 32,.bin .add (.t 31) (.k (.int .i64 1)),none⟩,⟨some 9,.mov (.t 32),none⟩]))))
def b15_1:IR:=
 .seq (.seq (.reg none [⟨some 56,.mov (.t 13),none⟩,⟨some 57,.bin .ge (.t 56) (.k (.int .i64 0)),none⟩])
 (.lv [1,2,4,11,12,13,57] (.cond (.t 57) (.skip)
 (.exit 2))))
 (.lv [1,2,4,11,12,13] (.seq (.block 3 (.reg none [⟨some 60,.mov (.t 12),none⟩,⟨some 61,.faddr 0 (.t 2),none⟩,⟨some 62,.ld false 1 (.t 61),none⟩,⟨some 63,.mov (.t 13),none⟩,⟨some 64,.iaddrf 1 (.t 62) (.t 63),none⟩,⟨some 65,.ldf false 1 (.t 64),none⟩,⟨some 66,.bsl 3 1 [.t 65],none⟩,⟨some 67,.app 3 1 8 (.t 60) (.t 66),none⟩,⟨some 12,.mov (.t 67),none⟩]))
 (.lv [1,2,4,11,12,13] (.reg none [⟨some 58,.mov (.t 13),none⟩,⟨some 59,.bin .sub (.t 58) (.k (.int .i64 1)),none⟩,⟨some 13,.mov (.t 59),none⟩]))))
def k15_0:IR:=
 .seq (.reg none [⟨some 68,.mov (.t 11),none⟩,⟨some 69,.ld true 4 (.t 2),none⟩,⟨some 70,.callP 48 [.t 69],none⟩,⟨some 71,.mov (.t 12),none⟩,⟨some 72,.mov (.t 1),none⟩,⟨some 73,.callF 51 [.t 68,.t 70,.t 71,.t 72],none⟩,⟨some 74,.ext (.t 73) 0,none⟩,⟨some 75,.ext (.t 73) 1,none⟩,⟨none,.st 4 (.t 4) (.t 74),none⟩,⟨some 5,.mov (.t 75),none⟩])
 (.ret)
def k15_1:IR:=
 .seq (.reg none [⟨some 45,.ld true 4 (.t 2),none⟩,⟨some 46,.ld true 4 (.t 8),none⟩,⟨some 47,.callO 49 [.t 45,.t 46],none⟩,⟨some 11,.mov (.t 47),none⟩])
 (.lv [1,2,4,11] (.seq (.seq (.reg none [⟨some 48,.mov (.t 11),none⟩,⟨some 49,.callM 50 [.t 48],none⟩,⟨some 50,.not (.t 49),none⟩])
 (.lv [1,2,4,11,50] (.cond (.t 50) (.lv [4] (.seq (.reg none [⟨some 51,.build [.nilsl 3 1,.bool false,.nilsl 21 1,.nilsl 66 3] [],none⟩,⟨none,.st 4 (.t 4) (.t 51),none⟩,⟨some 5,.mov (.k (.int .i64 22)),none⟩])
 (.ret)))
 (.skip))))
 (.lv [1,2,4,11] (.seq (.reg none [⟨some 12,.newnil 3 1,none⟩])
 (.lv [1,2,4,11,12] (.seq (.seq (.reg none [⟨some 52,.faddr 0 (.t 2),none⟩,⟨some 53,.ld false 1 (.t 52),none⟩,⟨some 54,.lenf (.t 53),none⟩,⟨some 55,.bin .sub (.t 54) (.k (.int .i64 1)),none⟩,⟨some 13,.mov (.t 55),none⟩])
 (.lv [1,2,4,11,12,13] (.block 2 (.loop [1,2,4,11,12,13] none b15_1))))
 k15_0))))))
def c15:IR:=
 .seq (.reg none [⟨some 2,.box 26 4 (.t 0),none⟩,⟨some 4,.alloc 26 [.nilsl 3 1,.bool false,.nilsl 21 1,.nilsl 66 3],none⟩,⟨some 5,.mov (.k (.int .i64 0)),none⟩])
 (.lv [1,2,4] (.seq (.reg none [⟨some 14,.ld true 4 (.t 2),none⟩,⟨some 15,.callP 46 [.t 14],none⟩,⟨some 6,.mov (.t 15),none⟩])
 (.lv [1,2,4,6] (.seq (.seq (.reg none [⟨some 16,.mov (.t 6),none⟩,⟨some 17,.bin .ne (.t 16) (.k (.int .i64 0)),none⟩])
 (.lv [1,2,4,6,17] (.cond (.t 17) (.lv [4,6] (.seq (.reg none [⟨some 18,.build [.nilsl 3 1,.bool false,.nilsl 21 1,.nilsl 66 3] [],none⟩,⟨some 19,.mov (.t 6),none⟩,⟨none,.st 4 (.t 4) (.t 18),none⟩,⟨some 5,.mov (.t 19),none⟩])
 (.ret)))
 (.skip))))
 (.lv [1,2,4] (.seq (.reg none [⟨some 20,.ld true 4 (.t 2),none⟩,⟨some 21,.callP 47 [.t 20],none⟩,⟨some 7,.mov (.t 21),none⟩])
 (.lv [1,2,4,7] (.seq (.reg none [⟨some 22,.mov (.t 7),none⟩,⟨some 23,.mov (.t 7),none⟩,⟨some 24,.bsl 3 1 [.t 22,.t 23],none⟩,⟨some 25,.build [.nilsl 3 1,.bool false,.nilsl 21 1,.nilsl 66 3] [(0,1,.t 24)],none⟩,⟨some 8,.alloc 26 [.nilsl 3 1,.bool false,.nilsl 21 1,.nilsl 66 3],none⟩,⟨none,.st 4 (.t 8) (.t 25),none⟩])
 (.lv [1,2,4,7,8] (.seq (.seq (.reg none [⟨some 9,.mov (.k (.int .i64 0)),none⟩])
 (.lv [1,2,4,7,8,9] (.block 0 (.loop [1,2,4,7,8,9] (some (12,[])) b15_0))))
 k15_1))))))))))
def i15:IFn:=⟨2,76,c15,[.c 4 true 4,.t 5],.pure⟩
def b22_0:IR:=
 .seq (.reg none [⟨some 20,.bin .lt (.t 19) (.t 18),none⟩])
 (.lv [4,17,18,19,20] (.seq (.cond (.t 20) (.skip)
 (.exit 0))
 (.lv [4,17,18,19] (.seq (.block 1 (.seq (.reg none [⟨some 21,.iaddrf 3 (.t 17) (.t 19),none⟩,⟨some 22,.ldf true 3 (.t 21),none⟩,⟨some 6,.alloc 57 [.nilsl 162 1,.bool false,.nilsl 162 1],none⟩,⟨none,.st 3 (.t 6) (.t 22),none⟩])
 (.lv [4,6,17,18,19] (.seq (.reg none [⟨some 24,.ld true 3 (.t 6),none⟩,⟨some 25,.callR 65 [.t 24],none⟩,⟨some 23,.mov (.t 25),none⟩,⟨some 26,.ext (.t 23) 0,none⟩,⟨some 27,.ext (.t 23) 1,none⟩,⟨some 7,.mov (.t 26),none⟩,⟨some 8,.mov (.t 27),none⟩])
 (.lv [4,7,8,17,18,19] (.seq (.seq (.reg none [⟨some 28,.mov (.t 8),none⟩,⟨some 29,.not (.t 28),none⟩])
 (.lv [4,7,17,18,19,29] (.cond (.t 29) (.lv [] (.seq (.reg none [⟨some 2,.newnil 3 1,none⟩,⟨some 3,.mov (.k (.bool false)),none⟩])
 (.ret)))
 (.skip))))
 (.lv [4,7,17,18,19] (.reg none [⟨some 30,.mov (.t 4),none⟩,⟨some 31,.mov (.t 7),none⟩,⟨some 32,.bsl 3 1 [.t 31],none⟩,⟨some 33,.app 3 1 8 (.t 30) (.t 32),none⟩,⟨some 4,.mov (.t 33),none⟩]))))))))
 (.lv [4,17,18,19] (.reg none [⟨some 34,.bin .add (.t 19) (.k (.int .i64 1)),none⟩,⟨some 19,.mov (.t 34),none⟩]))))))
def k22_0:IR:=
 .seq (.reg none [⟨some 35,.mov (.t 4),none⟩,⟨some 2,.mov (.t 35),none⟩,⟨some 3,.mov (.k (.bool true)),none⟩])
 (.ret)
def c22:IR:=
 .seq (.reg none [⟨some 1,.box 31 5 (.t 0),none⟩,⟨some 2,.newnil 3 1,none⟩,⟨some 3,.mov (.k (.bool false)),none⟩])
 (.lv [1] (.seq (.seq (.reg none [⟨some 9,.faddr 1 (.t 1),none⟩,⟨some 10,.ld false 1 (.t 9),none⟩,⟨some 11,.mov (.t 10),none⟩,⟨some 12,.ld true 5 (.t 1),(some (11,true))⟩,⟨some 13,.callP 23 [.t 12],(some (11,true))⟩,⟨some 14,.bin .gt (.t 13) (.k (.int .i64 0)),(some (11,true))⟩,⟨some 15,.pick (.t 11) (.t 14) (.k (.bool false)),none⟩])
 (.lv [1,15] (.cond (.t 15) (.lv [] (.seq (.reg none [⟨some 2,.newnil 3 1,none⟩,⟨some 3,.mov (.k (.bool false)),none⟩])
 (.ret)))
 (.skip))))
 (.lv [1] (.seq (.reg none [⟨some 4,.newnil 3 1,none⟩])
 (.lv [1,4] (.seq (.seq (.reg none [⟨some 16,.faddr 3 (.t 1),none⟩,⟨some 17,.ld false 1 (.t 16),none⟩,⟨some 18,.lenf (.t 17),none⟩,⟨some 19,.mov (.k (.int .i64 0)),none⟩])
 (.lv [4,17,18,19] (.block 0 (.loop [4,17,18,19] (some (3,[])) b22_0))))
 k22_0))))))
def i22:IFn:=⟨1,36,c22,[.t 2,.t 3],.own⟩
def c23:IR:=
 .seq (.reg none [⟨some 1,.box 31 5 (.t 0),none⟩,⟨some 2,.mov (.k (.int .i64 0)),none⟩])
 (.lv [1] (.seq (.reg none [⟨some 3,.faddr 2 (.t 1),none⟩,⟨some 4,.ld false 1 (.t 3),none⟩,⟨some 5,.lenf (.t 4),none⟩,⟨some 6,.faddr 3 (.t 1),none⟩,⟨some 7,.ld false 1 (.t 6),none⟩,⟨some 8,.lenf (.t 7),none⟩,⟨some 9,.bin .add (.t 5) (.t 8),none⟩,⟨some 2,.mov (.t 9),none⟩])
 (.ret)))
def i23:IFn:=⟨1,10,c23,[.t 2],.pure⟩
def c24:IR:=
 .seq (.reg none [⟨some 2,.box 31 5 (.t 0),none⟩,⟨some 4,.alloc 57 [.nilsl 162 1,.bool false,.nilsl 162 1],none⟩])
 (.lv [1,2,4] (.seq (.seq (.reg none [⟨some 5,.mov (.t 1),none⟩,⟨some 6,.bin .lt (.t 5) (.k (.int .i64 0)),none⟩,⟨some 7,.mov (.t 6),none⟩,⟨some 8,.mov (.t 1),(some (7,false))⟩,⟨some 9,.faddr 3 (.t 2),(some (7,false))⟩,⟨some 10,.ld false 1 (.t 9),(some (7,false))⟩,⟨some 11,.lenf (.t 10),(some (7,false))⟩,⟨some 12,.bin .ge (.t 8) (.t 11),(some (7,false))⟩,⟨some 13,.pick (.t 7) (.k (.bool true)) (.t 12),none⟩])
 (.lv [1,2,4,13] (.cond (.t 13) (.lv [4] (.seq (.reg none [⟨some 14,.build [.nilsl 162 1,.bool false,.nilsl 162 1] [],none⟩,⟨none,.st 3 (.t 4) (.t 14),none⟩])
 (.ret)))
 (.skip))))
 (.lv [1,2,4] (.seq (.reg none [⟨some 15,.faddr 3 (.t 2),none⟩,⟨some 16,.ld false 1 (.t 15),none⟩,⟨some 17,.mov (.t 1),none⟩,⟨some 18,.iaddrf 3 (.t 16) (.t 17),none⟩,⟨some 19,.ldf true 3 (.t 18),none⟩,⟨none,.st 3 (.t 4) (.t 19),none⟩])
 (.ret)))))
def i24:IFn:=⟨2,20,c24,[.c 4 true 3],.pure⟩
def b28_0:IR:=
 .seq (.seq (.reg none [⟨some 36,.mov (.t 5),none⟩,⟨some 37,.faddr 3 (.t 2),none⟩,⟨some 38,.ld false 1 (.t 37),none⟩,⟨some 39,.lenf (.t 38),none⟩,⟨some 40,.bin .lt (.t 36) (.t 39),none⟩])
 (.lv [2,3,5,40] (.cond (.t 40) (.skip)
 (.exit 0))))
 (.lv [2,3,5] (.seq (.block 1 (.seq (.reg (some [0,1,2,3,4,5,6,7,8,9,10]) [⟨some 43,.faddr 3 (.t 2),none⟩,⟨some 44,.ld false 1 (.t 43),none⟩,⟨some 45,.mov (.t 5),none⟩,⟨some 46,.iaddrf 3 (.t 44) (.t 45),none⟩,⟨some 47,.ldf true 3 (.t 46),none⟩,⟨some 48,.faddr 3 (.t 3),none⟩,⟨some 49,.ld false 1 (.t 48),none⟩,⟨some 50,.mov (.t 5),none⟩,⟨some 51,.iaddrf 3 (.t 49) (.t 50),none⟩,⟨some 52,.ldf true 3 (.t 51),none⟩,⟨some 53,.bins .ne [0,2,2] (.t 47) (.t 52),none⟩])
 (.lv [2,3,5,53] (.cond (.t 53) (.lv [] (.seq (.reg none [⟨some 4,.mov (.k (.bool false)),none⟩])
 (.ret)))
 (.skip)))))
 (.lv [2,3,5] (.reg none [⟨some 41,.mov (.t 5),none⟩,⟨some 42,.bin .add (.t 41) (.k (.int .i64 1)),none⟩,⟨some 5,.mov (.t 42),none⟩]))))
def k28_0:IR:=
 .seq (.reg none [⟨some 4,.mov (.k (.bool true)),none⟩])
 (.ret)
def c28:IR:=
 .seq (.reg none [⟨some 2,.box 26 4 (.t 0),none⟩,⟨some 3,.box 26 4 (.t 1),none⟩,⟨some 4,.mov (.k (.bool false)),none⟩])
 (.lv [2,3] (.seq (.seq (.reg none [⟨some 6,.faddr 1 (.t 2),none⟩,⟨some 7,.ld false 1 (.t 6),none⟩,⟨some 8,.faddr 1 (.t 3),none⟩,⟨some 9,.ld false 1 (.t 8),none⟩,⟨some 10,.binb .ne (.t 7) (.t 9),none⟩,⟨some 11,.mov (.t 10),none⟩,⟨some 12,.faddr 0 (.t 2),(some (11,false))⟩,⟨some 13,.ld false 1 (.t 12),(some (11,false))⟩,⟨some 14,.faddr 0 (.t 3),(some (11,false))⟩,⟨some 15,.ld false 1 (.t 14),(some (11,false))⟩,⟨some 16,.callP 72 [.t 13,.t 15],(some (11,false))⟩,⟨some 17,.not (.t 16),(some (11,false))⟩,⟨some 18,.pick (.t 11) (.k (.bool true)) (.t 17),none⟩,⟨some 19,.mov (.t 18),none⟩,⟨some 20,.faddr 2 (.t 2),(some (19,false))⟩,⟨some 21,.ld false 1 (.t 20),(some (19,false))⟩,⟨some 22,.faddr 2 (.t 3),(some (19,false))⟩,⟨some 23,.ld false 1 (.t 22),(some (19,false))⟩,⟨some 24,.callP 73 [.t 21,.t 23],(some (19,false))⟩,⟨some 25,.not (.t 24),(some (19,false))⟩,⟨some 26,.pick (.t 19) (.k (.bool true)) (.t 25),none⟩,⟨some 27,.mov (.t 26),none⟩,⟨some 28,.faddr 3 (.t 2),(some (27,false))⟩,⟨some 29,.ld false 1 (.t 28),(some (27,false))⟩,⟨some 30,.lenf (.t 29),(some (27,false))⟩,⟨some 31,.faddr 3 (.t 3),(some (27,false))⟩,⟨some 32,.ld false 1 (.t 31),(some (27,false))⟩,⟨some 33,.lenf (.t 32),(some (27,false))⟩,⟨some 34,.bin .ne (.t 30) (.t 33),(some (27,false))⟩,⟨some 35,.pick (.t 27) (.k (.bool true)) (.t 34),none⟩])
 (.lv [2,3,35] (.cond (.t 35) (.lv [] (.seq (.reg none [⟨some 4,.mov (.k (.bool false)),none⟩])
 (.ret)))
 (.skip))))
 (.lv [2,3] (.seq (.seq (.reg none [⟨some 5,.mov (.k (.int .i64 0)),none⟩])
 (.lv [2,3,5] (.block 0 (.loop [2,3,5] (some (2,[])) b28_0))))
 k28_0))))
def i28:IFn:=⟨2,54,c28,[.t 4],.pure⟩
def b30_0:IR:=
 .seq (.reg none [⟨some 17,.bin .lt (.t 16) (.t 15),none⟩])
 (.lv [2,3,14,15,16,17] (.seq (.cond (.t 17) (.skip)
 (.exit 0))
 (.lv [2,3,14,15,16] (.seq (.block 1 (.seq (.reg none [⟨some 18,.iaddrf 3 (.t 14) (.t 16),none⟩,⟨some 19,.ldf true 3 (.t 18),none⟩,⟨some 5,.alloc 57 [.nilsl 162 1,.bool false,.nilsl 162 1],none⟩,⟨none,.st 3 (.t 5) (.t 19),none⟩])
 (.lv [2,3,5,14,15,16] (.reg (some [0,1,2,3,4,5,6,7]) [⟨some 20,.faddr 3 (.t 3),none⟩,⟨some 21,.ld false 1 (.t 20),none⟩,⟨some 22,.ld true 3 (.t 5),none⟩,⟨some 23,.callR 75 [.t 22],none⟩,⟨some 24,.bsl 66 3 [.t 23],none⟩,⟨some 25,.app 66 3 40 (.t 21) (.t 24),none⟩,⟨some 26,.faddr 3 (.t 3),none⟩,⟨none,.st 1 (.t 26) (.t 25),none⟩]))))
 (.lv [2,3,14,15,16] (.reg none [⟨some 27,.bin .add (.t 16) (.k (.int .i64 1)),none⟩,⟨some 16,.mov (.t 27),none⟩]))))))
def k30_0:IR:=
 .seq (.reg none [⟨some 28,.ld true 4 (.t 3),none⟩,⟨none,.st 4 (.t 2) (.t 28),none⟩])
 (.ret)
def c30:IR:=
 .seq (.reg none [⟨some 1,.box 31 5 (.t 0),none⟩,⟨some 2,.alloc 26 [.nilsl 3 1,.bool false,.nilsl 21 1,.nilsl 66 3],none⟩])
 (.lv [1,2] (.seq (.reg (some [0,1,2,3,4,5,6,7,8]) [⟨some 6,.ld true 5 (.t 1),none⟩,⟨some 7,.callP 53 [.t 6],none⟩,⟨some 8,.faddr 1 (.t 1),none⟩,⟨some 9,.ld false 1 (.t 8),none⟩,⟨some 10,.ld true 5 (.t 1),none⟩,⟨some 11,.callZ 74 [.t 10],none⟩,⟨some 12,.build [.nilsl 3 1,.bool false,.nilsl 21 1,.nilsl 66 3] [(0,1,.t 7),(1,1,.t 9),(2,1,.t 11)],none⟩,⟨some 3,.alloc 26 [.nilsl 3 1,.bool false,.nilsl 21 1,.nilsl 66 3],none⟩,⟨none,.st 4 (.t 3) (.t 12),none⟩])
 (.lv [1,2,3] (.seq (.seq (.reg none [⟨some 13,.faddr 3 (.t 1),none⟩,⟨some 14,.ld false 1 (.t 13),none⟩,⟨some 15,.lenf (.t 14),none⟩,⟨some 16,.mov (.k (.int .i64 0)),none⟩])
 (.lv [2,3,14,15,16] (.block 0 (.loop [2,3,14,15,16] (some (10,[])) b30_0))))
 k30_0))))
def i30:IFn:=⟨1,29,c30,[.c 2 true 4],.pure⟩
def b32_0:IR:=
 .seq (.seq (.reg none [⟨some 24,.mov (.t 5),none⟩,⟨some 25,.faddr 3 (.t 2),none⟩,⟨some 26,.ld false 1 (.t 25),none⟩,⟨some 27,.lenf (.t 26),none⟩,⟨some 28,.bin .lt (.t 24) (.t 27),none⟩])
 (.lv [2,5,28] (.cond (.t 28) (.skip)
 (.exit 0))))
 (.lv [2,5] (.seq (.block 1 (.seq (.reg none [⟨some 31,.faddr 3 (.t 2),none⟩,⟨some 32,.ld false 1 (.t 31),none⟩,⟨some 33,.mov (.t 5),none⟩,⟨some 34,.iaddrf 3 (.t 32) (.t 33),none⟩,⟨some 35,.faddr 1 (.t 34),none⟩,⟨some 36,.ldf false 1 (.t 35),none⟩,⟨some 37,.slen (.t 36),none⟩,⟨some 38,.bin .gt (.t 37) (.k (.int .i64 40)),none⟩,⟨some 39,.mov (.t 38),none⟩,⟨some 40,.faddr 3 (.t 2),(some (39,false))⟩,⟨some 41,.ld false 1 (.t 40),(some (39,false))⟩,⟨some 42,.mov (.t 5),(some (39,false))⟩,⟨some 43,.iaddrf 3 (.t 41) (.t 42),(some (39,false))⟩,⟨some 44,.faddr 2 (.t 43),(some (39,false))⟩,⟨some 45,.ldf false 1 (.t 44),(some (39,false))⟩,⟨some 46,.slen (.t 45),(some (39,false))⟩,⟨some 47,.bin .gt (.t 46) (.k (.int .i64 40)),(some (39,false))⟩,⟨some 48,.pick (.t 39) (.k (.bool true)) (.t 47),none⟩])
 (.lv [2,5,48] (.cond (.t 48) (.lv [] (.seq (.reg none [⟨some 4,.mov (.k (.bool false)),none⟩])
 (.ret)))
 (.skip)))))
 (.lv [2,5] (.reg none [⟨some 29,.mov (.t 5),none⟩,⟨some 30,.bin .add (.t 29) (.k (.int .i64 1)),none⟩,⟨some 5,.mov (.t 30),none⟩]))))
def k32_0:IR:=
 .seq (.reg none [⟨some 49,.ld true 4 (.t 2),none⟩,⟨some 50,.callP 76 [.t 49],none⟩,⟨some 4,.mov (.t 50),none⟩])
 (.ret)
def c32:IR:=
 .seq (.reg none [⟨some 2,.box 26 4 (.t 0),none⟩,⟨some 4,.mov (.k (.bool false)),none⟩])
 (.lv [1,2] (.seq (.seq (.reg none [⟨some 6,.faddr 2 (.t 2),none⟩,⟨some 7,.ld false 1 (.t 6),none⟩,⟨some 8,.lenf (.t 7),none⟩,⟨some 9,.mov (.t 1),none⟩,⟨some 10,.bin .gt (.t 8) (.t 9),none⟩,⟨some 11,.mov (.t 10),none⟩,⟨some 12,.faddr 3 (.t 2),(some (11,false))⟩,⟨some 13,.ld false 1 (.t 12),(some (11,false))⟩,⟨some 14,.lenf (.t 13),(some (11,false))⟩,⟨some 15,.mov (.t 1),(some (11,false))⟩,⟨some 16,.bin .gt (.t 14) (.t 15),(some (11,false))⟩,⟨some 17,.pick (.t 11) (.k (.bool true)) (.t 16),none⟩,⟨some 18,.mov (.t 17),none⟩,⟨some 19,.faddr 0 (.t 2),(some (18,false))⟩,⟨some 20,.ld false 1 (.t 19),(some (18,false))⟩,⟨some 21,.lenf (.t 20),(some (18,false))⟩,⟨some 22,.bin .gt (.t 21) (.k (.int .i64 8)),(some (18,false))⟩,⟨some 23,.pick (.t 18) (.k (.bool true)) (.t 22),none⟩])
 (.lv [2,23] (.cond (.t 23) (.lv [] (.seq (.reg none [⟨some 4,.mov (.k (.bool false)),none⟩])
 (.ret)))
 (.skip))))
 (.lv [2] (.seq (.seq (.reg none [⟨some 5,.mov (.k (.int .i64 0)),none⟩])
 (.lv [2,5] (.block 0 (.loop [2,5] (some (1,[])) b32_0))))
 k32_0))))
def i32:IFn:=⟨2,51,c32,[.t 4],.pure⟩
def b33_0:IR:=
 .seq (.reg none [⟨some 26,.bin .lt (.t 25) (.t 24),none⟩])
 (.lv [3,4,6,23,24,25,26] (.seq (.cond (.t 26) (.skip)
 (.exit 0))
 (.lv [3,4,6,23,24,25] (.seq (.block 1 (.seq (.reg none [⟨some 27,.iaddr 1 (.t 23) (.t 25),none⟩,⟨some 28,.ld false 1 (.t 27),none⟩,⟨some 9,.mov (.t 28),none⟩])
 (.lv [3,4,6,9,23,24,25] (.seq (.reg none [⟨some 29,.mov (.t 9),none⟩,⟨some 30,.bin .lt (.t 29) (.k (.int .i64 0)),none⟩])
 (.lv [3,4,6,23,24,25,30] (.cond (.t 30) (.lv [4] (.seq (.reg none [⟨some 31,.build [.nilsl 3 1,.bool false,.nilsl 21 1,.nilsl 57 3,.bool false] [],none⟩,⟨none,.st 5 (.t 4) (.t 31),none⟩,⟨some 5,.mov (.k (.int .i64 22)),none⟩])
 (.ret)))
 (.skip)))))))
 (.lv [3,4,6,23,24,25] (.reg none [⟨some 32,.bin .add (.t 25) (.k (.int .i64 1)),none⟩,⟨some 25,.mov (.t 32),none⟩]))))))
def b33_1:IR:=
 .seq (.reg none [⟨some 56,.bin .lt (.t 55) (.t 54),none⟩])
 (.lv [3,4,6,12,54,55,56] (.seq (.cond (.t 56) (.skip)
 (.exit 3))
 (.lv [3,4,6,12,54,55] (.seq (.block 4 (.seq (.reg none [⟨some 57,.mov (.t 55),none⟩,⟨some 13,.mov (.t 57),none⟩])
 (.lv [3,4,6,12,13,54,55] (.seq (.reg none [⟨some 58,.mov (.t 12),none⟩,⟨some 59,.mov (.t 13),none⟩,⟨some 60,.iaddr 1 (.t 58) (.t 59),none⟩,⟨none,.st 1 (.t 60) (.k (.int .i64 (-1))),none⟩])
 (.lv [3,4,6,12,13,54,55] (.seq (.reg none [⟨some 61,.ld true 5 (.t 3),none⟩,⟨some 62,.callP 23 [.t 61],none⟩,⟨some 63,.bin .gt (.t 62) (.k (.int .i64 0)),none⟩])
 (.lv [3,4,6,12,13,54,55,63] (.cond (.t 63) (.lv [3,4,6,12,13,54,55] (.reg none [⟨some 64,.mov (.t 12),none⟩,⟨some 65,.mov (.t 13),none⟩,⟨some 66,.mov (.t 13),none⟩,⟨some 67,.ld true 5 (.t 3),none⟩,⟨some 68,.callP 23 [.t 67],none⟩,⟨some 69,.bin .rem (.t 66) (.t 68),none⟩,⟨some 70,.iaddr 1 (.t 64) (.t 65),none⟩,⟨none,.st 1 (.t 70) (.t 69),none⟩]))
 (.skip)))))))))
 (.lv [3,4,6,12,54,55] (.reg none [⟨some 71,.bin .add (.t 55) (.k (.int .i64 1)),none⟩,⟨some 55,.mov (.t 71),none⟩]))))))
def k33_0:IR:=
 .seq (.reg none [⟨some 72,.ld true 5 (.t 3),none⟩,⟨some 73,.mov (.t 6),none⟩,⟨some 74,.mov (.t 12),none⟩,⟨some 75,.callF 79 [.t 72,.t 73,.t 74],none⟩,⟨some 76,.ext (.t 75) 0,none⟩,⟨some 77,.ext (.t 75) 1,none⟩,⟨none,.st 5 (.t 4) (.t 76),none⟩,⟨some 5,.mov (.t 77),none⟩])
 (.ret)
def k33_1:IR:=
 .seq (.reg none [⟨some 34,.mov (.t 6),none⟩,⟨some 35,.callR 78 [.t 34],none⟩,⟨some 33,.mov (.t 35),none⟩,⟨some 36,.ext (.t 33) 0,none⟩,⟨some 37,.ext (.t 33) 1,none⟩,⟨some 10,.mov (.t 36),none⟩,⟨some 11,.mov (.t 37),none⟩])
 (.lv [3,4,6,10,11] (.seq (.block 2 (.seq (.reg none [⟨some 39,.mov (.t 11),none⟩,⟨some 40,.not (.t 39),none⟩,⟨some 41,.mov (.t 40),none⟩,⟨some 42,.mov (.t 6),(some (41,true))⟩,⟨some 43,.len (.t 42),(some (41,true))⟩,⟨some 44,.bin .gt (.t 43) (.k (.int .i64 8)),(some (41,true))⟩,⟨some 45,.pick (.t 41) (.t 44) (.k (.bool false)),none⟩,⟨some 38,.mov (.t 45),none⟩])
 (.lv [3,4,6,10,11,38] (.cond (.t 38) (.lv [4] (.seq (.reg none [⟨some 46,.build [.nilsl 3 1,.bool false,.nilsl 21 1,.nilsl 57 3,.bool false] [],none⟩,⟨none,.st 5 (.t 4) (.t 46),none⟩,⟨some 5,.mov (.k (.int .i64 23)),none⟩])
 (.ret)))
 (.lv [3,4,6,10,11] (.seq (.reg none [⟨some 48,.mov (.t 11),none⟩,⟨some 49,.not (.t 48),none⟩,⟨some 47,.mov (.t 49),none⟩])
 (.lv [3,4,6,10,47] (.cond (.t 47) (.lv [4] (.seq (.reg none [⟨some 50,.build [.nilsl 3 1,.bool false,.nilsl 21 1,.nilsl 57 3,.bool false] [],none⟩,⟨none,.st 5 (.t 4) (.t 50),none⟩,⟨some 5,.mov (.k (.int .i64 26)),none⟩])
 (.ret)))
 (.skip)))))))))
 (.lv [3,4,6,10] (.seq (.reg none [⟨some 51,.mov (.t 10),none⟩,⟨some 52,.mk 3 8 [.int .i64 0] (.t 51),none⟩,⟨some 12,.mov (.t 52),none⟩])
 (.lv [3,4,6,12] (.seq (.seq (.reg none [⟨some 53,.mov (.t 12),none⟩,⟨some 54,.len (.t 53),none⟩,⟨some 55,.mov (.k (.int .i64 0)),none⟩])
 (.lv [3,4,6,12,54,55] (.block 3 (.loop [3,4,6,12,54,55] (some (8,[])) b33_1))))
 k33_0))))))
def c33:IR:=
 .seq (.reg none [⟨some 2,.box 31 5 (.t 0),none⟩,⟨some 3,.box 31 5 (.t 1),none⟩,⟨some 4,.alloc 31 [.nilsl 3 1,.bool false,.nilsl 21 1,.nilsl 57 3,.bool false],none⟩,⟨some 5,.mov (.k (.int .i64 0)),none⟩])
 (.lv [2,3,4] (.seq (.reg none [⟨some 15,.ld true 5 (.t 2),none⟩,⟨some 16,.callO 77 [.t 15],none⟩,⟨some 14,.mov (.t 16),none⟩,⟨some 17,.ext (.t 14) 0,none⟩,⟨some 18,.ext (.t 14) 1,none⟩,⟨some 6,.mov (.t 17),none⟩,⟨some 7,.mov (.t 18),none⟩])
 (.lv [3,4,6,7] (.seq (.seq (.reg none [⟨some 19,.mov (.t 7),none⟩,⟨some 20,.bin .ne (.t 19) (.k (.int .i64 0)),none⟩])
 (.lv [3,4,6,7,20] (.cond (.t 20) (.lv [4,7] (.seq (.reg none [⟨some 21,.build [.nilsl 3 1,.bool false,.nilsl 21 1,.nilsl 57 3,.bool false] [],none⟩,⟨some 22,.mov (.t 7),none⟩,⟨none,.st 5 (.t 4) (.t 21),none⟩,⟨some 5,.mov (.t 22),none⟩])
 (.ret)))
 (.skip))))
 (.lv [3,4,6] (.seq (.seq (.reg none [⟨some 23,.mov (.t 6),none⟩,⟨some 24,.len (.t 23),none⟩,⟨some 25,.mov (.k (.int .i64 0)),none⟩])
 (.lv [3,4,6,23,24,25] (.block 0 (.loop [3,4,6,23,24,25] (some (7,[])) b33_0))))
 k33_1))))))
def i33:IFn:=⟨2,78,c33,[.c 4 true 5,.t 5],.pure⟩
def b34_0:IR:=
 .seq (.reg none [⟨some 13,.bin .lt (.t 12) (.t 11),none⟩])
 (.lv [2,3,10,11,12,13] (.seq (.cond (.t 13) (.skip)
 (.exit 0))
 (.lv [2,3,10,11,12] (.seq (.block 1 (.seq (.reg none [⟨some 14,.iaddrf 1 (.t 10) (.t 12),none⟩,⟨some 15,.ldf false 1 (.t 14),none⟩,⟨some 5,.mov (.t 15),none⟩])
 (.lv [2,3,5,10,11,12] (.reg (some [0,1,2,3,4,5,6,7]) [⟨some 16,.faddr 3 (.t 3),none⟩,⟨some 17,.ld false 1 (.t 16),none⟩,⟨some 18,.mov (.t 5),none⟩,⟨some 19,.callP 52 [.t 18],none⟩,⟨some 20,.bsl 57 3 [.t 19],none⟩,⟨some 21,.app 57 3 56 (.t 17) (.t 20),none⟩,⟨some 22,.faddr 3 (.t 3),none⟩,⟨none,.st 1 (.t 22) (.t 21),none⟩]))))
 (.lv [2,3,10,11,12] (.reg none [⟨some 23,.bin .add (.t 12) (.k (.int .i64 1)),none⟩,⟨some 12,.mov (.t 23),none⟩]))))))
def k34_0:IR:=
 .seq (.reg none [⟨some 24,.ld true 5 (.t 3),none⟩,⟨none,.st 5 (.t 2) (.t 24),none⟩])
 (.ret)
def c34:IR:=
 .seq (.reg none [⟨some 2,.alloc 31 [.nilsl 3 1,.bool false,.nilsl 21 1,.nilsl 57 3,.bool false],none⟩])
 (.lv [0,2] (.seq (.reg none [⟨some 6,.mov (.t 0),none⟩,⟨some 7,.lenf (.t 6),none⟩,⟨some 8,.bsl 3 1 [.t 7],none⟩,⟨some 9,.build [.nilsl 3 1,.bool false,.nilsl 21 1,.nilsl 57 3,.bool false] [(0,1,.t 8),(4,1,.k (.bool true))],none⟩,⟨some 3,.alloc 31 [.nilsl 3 1,.bool false,.nilsl 21 1,.nilsl 57 3,.bool false],none⟩,⟨none,.st 5 (.t 3) (.t 9),none⟩])
 (.lv [0,2,3] (.seq (.seq (.reg none [⟨some 10,.mov (.t 0),none⟩,⟨some 11,.lenf (.t 10),none⟩,⟨some 12,.mov (.k (.int .i64 0)),none⟩])
 (.lv [2,3,10,11,12] (.block 0 (.loop [2,3,10,11,12] (some (11,[])) b34_0))))
 k34_0))))
def i34:IFn:=⟨1,25,c34,[.c 2 true 5],.pure⟩
def c35:IR:=
 .seq (.reg none [⟨some 2,.alloc 31 [.nilsl 3 1,.bool false,.nilsl 21 1,.nilsl 57 3,.bool false],none⟩])
 (.lv [0,2] (.seq (.reg none [⟨some 3,.mov (.t 0),none⟩,⟨some 4,.callP 52 [.t 3],none⟩,⟨some 5,.callP 80 [.t 4],none⟩,⟨none,.st 5 (.t 2) (.t 5),none⟩])
 (.ret)))
def i35:IFn:=⟨1,6,c35,[.c 2 true 5],.pure⟩
def c36:IR:=
 .seq (.reg none [⟨some 2,.alloc 66 [.bool false,.str ⟨#[]⟩,.str ⟨#[]⟩],none⟩])
 (.lv [0,2] (.seq (.reg none [⟨some 4,.mov (.t 0),none⟩,⟨some 5,.callP 81 [.t 4],none⟩,⟨some 3,.alloc 114 [.bool false,.str ⟨#[]⟩],none⟩,⟨none,.st 2 (.t 3) (.t 5),none⟩])
 (.lv [2,3] (.seq (.reg none [⟨some 6,.faddr 0 (.t 3),none⟩,⟨some 7,.ld false 1 (.t 6),none⟩,⟨some 8,.faddr 1 (.t 3),none⟩,⟨some 9,.ld false 1 (.t 8),none⟩,⟨some 10,.build [.bool false,.str ⟨#[]⟩,.str ⟨#[]⟩] [(0,1,.t 7),(1,1,.t 9),(2,1,.k (.str ⟨#[49]⟩))],none⟩,⟨none,.st 3 (.t 2) (.t 10),none⟩])
 (.ret)))))
def i36:IFn:=⟨1,11,c36,[.c 2 true 3],.pure⟩
def c37:IR:=
 .seq (.reg none [⟨some 1,.box 31 5 (.t 0),none⟩,⟨some 2,.mov (.k (.int .i64 0)),none⟩])
 (.lv [1] (.seq (.block 0 (.seq (.reg none [⟨some 4,.ld true 5 (.t 1),none⟩,⟨some 5,.callP 38 [.t 4],none⟩,⟨some 6,.bin .gt (.t 5) (.k (.int .i64 2)),none⟩,⟨some 3,.mov (.t 6),none⟩])
 (.lv [1,3] (.cond (.t 3) (.lv [] (.seq (.reg none [⟨some 2,.mov (.k (.int .i64 23)),none⟩])
 (.ret)))
 (.lv [1] (.seq (.reg none [⟨some 8,.ld true 5 (.t 1),none⟩,⟨some 9,.callP 39 [.t 8],none⟩,⟨some 10,.mov (.t 9),none⟩,⟨some 11,.ld true 5 (.t 1),(some (10,true))⟩,⟨some 12,.callP 23 [.t 11],(some (10,true))⟩,⟨some 13,.bin .gt (.t 12) (.k (.int .i64 0)),(some (10,true))⟩,⟨some 14,.pick (.t 10) (.t 13) (.k (.bool false)),none⟩,⟨some 7,.mov (.t 14),none⟩])
 (.lv [1,7] (.cond (.t 7) (.lv [] (.seq (.reg none [⟨some 2,.mov (.k (.int .i64 22)),none⟩])
 (.ret)))
 (.lv [1] (.seq (.reg (some [0,1,2,3,4,5,6]) [⟨some 16,.ld true 5 (.t 1),none⟩,⟨some 17,.callP 40 [.t 16],none⟩,⟨some 18,.lenf (.t 17),none⟩,⟨some 19,.ld true 5 (.t 1),none⟩,⟨some 20,.callP 41 [.t 19],none⟩,⟨some 21,.bin .lt (.t 18) (.t 20),none⟩,⟨some 15,.mov (.t 21),none⟩])
 (.lv [1,15] (.cond (.t 15) (.lv [] (.seq (.reg none [⟨some 2,.mov (.k (.int .i64 24)),none⟩])
 (.ret)))
 (.lv [1] (.seq (.reg none [⟨some 23,.ld true 5 (.t 1),none⟩,⟨some 24,.callP 40 [.t 23],none⟩,⟨some 25,.lenf (.t 24),none⟩,⟨some 26,.bin .gt (.t 25) (.k (.int .i64 32)),none⟩,⟨some 27,.mov (.t 26),none⟩,⟨some 28,.ld true 5 (.t 1),(some (27,false))⟩,⟨some 29,.callP 41 [.t 28],(some (27,false))⟩,⟨some 30,.bin .gt (.t 29) (.k (.int .i64 8)),(some (27,false))⟩,⟨some 31,.pick (.t 27) (.k (.bool true)) (.t 30),none⟩,⟨some 22,.mov (.t 31),none⟩])
 (.lv [22] (.cond (.t 22) (.lv [] (.seq (.reg none [⟨some 2,.mov (.k (.int .i64 26)),none⟩])
 (.ret)))
 (.skip)))))))))))))))))
 (.lv [] (.seq (.reg none [⟨some 2,.mov (.k (.int .i64 0)),none⟩])
 (.ret)))))
def i37:IFn:=⟨1,32,c37,[.t 2],.pure⟩
def c38:IR:=
 .seq (.reg none [⟨some 1,.box 31 5 (.t 0),none⟩,⟨some 2,.mov (.k (.int .i64 0)),none⟩])
 (.lv [1] (.seq (.reg none [⟨some 3,.ld true 5 (.t 1),none⟩,⟨some 4,.callP 53 [.t 3],none⟩,⟨some 5,.lenf (.t 4),none⟩,⟨some 2,.mov (.t 5),none⟩])
 (.ret)))
def i38:IFn:=⟨1,6,c38,[.t 2],.pure⟩
def c39:IR:=
 .seq (.reg none [⟨some 1,.box 31 5 (.t 0),none⟩,⟨some 2,.mov (.k (.bool false)),none⟩])
 (.lv [1] (.seq (.reg none [⟨some 3,.faddr 1 (.t 1),none⟩,⟨some 4,.ld false 1 (.t 3),none⟩,⟨some 2,.mov (.t 4),none⟩])
 (.ret)))
def i39:IFn:=⟨1,5,c39,[.t 2],.pure⟩
def b40_1:IR:=
 .seq (.reg none [⟨some 32,.bin .lt (.t 31) (.t 30),none⟩])
 (.lv [1,5,6,7,26,27,30,31,32] (.seq (.cond (.t 32) (.skip)
 (.exit 2))
 (.lv [1,5,6,7,26,27,30,31] (.seq (.block 3 (.seq (.reg none [⟨some 33,.mov (.t 31),none⟩,⟨some 8,.mov (.t 33),none⟩])
 (.lv [1,5,6,7,8,26,27,30,31] (.reg (some [0,1,2,3,4,5,6,7,8,9,10,11,12,13,14,15,16]) [⟨some 34,.mov (.t 6),none⟩,⟨some 35,.mov (.t 7),none⟩,⟨some 36,.mov (.t 6),none⟩,⟨some 37,.mov (.t 7),none⟩,⟨some 38,.iaddr 1 (.t 36) (.t 37),none⟩,⟨some 39,.ld false 1 (.t 38),none⟩,⟨some 40,.ld true 5 (.t 1),none⟩,⟨some 41,.mov (.t 7),none⟩,⟨some 42,.mov (.t 5),none⟩,⟨some 43,.bin .mul (.t 41) (.t 42),none⟩,⟨some 44,.mov (.t 8),none⟩,⟨some 45,.bin .add (.t 43) (.t 44),none⟩,⟨some 46,.callF 24 [.t 40,.t 45],none⟩,⟨some 47,.bslF 57 3 [.t 46],none⟩,⟨some 48,.app 57 3 56 (.t 39) (.t 47),none⟩,⟨some 49,.iaddr 1 (.t 34) (.t 35),none⟩,⟨none,.st 1 (.t 49) (.t 48),none⟩]))))
 (.lv [1,5,6,7,26,27,30,31] (.reg none [⟨some 50,.bin .add (.t 31) (.k (.int .i64 1)),none⟩,⟨some 31,.mov (.t 50),none⟩]))))))
def k40_0:IR:=
 .reg none [⟨some 51,.bin .add (.t 27) (.k (.int .i64 1)),none⟩,⟨some 27,.mov (.t 51),none⟩]
def b40_0:IR:=
 .seq (.reg none [⟨some 28,.bin .lt (.t 27) (.t 26),none⟩])
 (.lv [1,5,6,26,27,28] (.seq (.cond (.t 28) (.skip)
 (.exit 0))
 (.lv [1,5,6,26,27] (.seq (.block 1 (.seq (.reg none [⟨some 29,.mov (.t 27),none⟩,⟨some 7,.mov (.t 29),none⟩])
 (.lv [1,5,6,7,26,27] (.seq (.reg none [⟨some 30,.mov (.t 5),none⟩,⟨some 31,.mov (.k (.int .i64 0)),none⟩])
 (.lv [1,5,6,7,26,27,30,31] (.block 2 (.loop [1,5,6,7,26,27,30,31] none b40_1)))))))
 k40_0))))
def k40_1:IR:=
 .seq (.reg none [⟨some 52,.mov (.t 6),none⟩,⟨some 2,.mov (.t 52),none⟩])
 (.ret)
def c40:IR:=
 .seq (.reg none [⟨some 1,.box 31 5 (.t 0),none⟩,⟨some 2,.newnilB 29 1,none⟩])
 (.lv [1] (.seq (.reg none [⟨some 9,.ld true 5 (.t 1),none⟩,⟨some 10,.callF 53 [.t 9],none⟩,⟨some 3,.mov (.t 10),none⟩])
 (.lv [1,3] (.seq (.reg none [⟨some 4,.mov (.k (.int .i64 1)),none⟩,⟨some 5,.mov (.k (.int .i64 1)),none⟩])
 (.lv [1,3,4,5] (.seq (.seq (.reg none [⟨some 11,.mov (.t 3),none⟩,⟨some 12,.lenf (.t 11),none⟩,⟨some 13,.bin .gt (.t 12) (.k (.int .i64 0)),none⟩])
 (.lv [1,3,4,5,13] (.cond (.t 13) (.lv [1,3,5] (.reg none [⟨some 14,.mov (.t 3),none⟩,⟨some 15,.iaddrf 1 (.t 14) (.k (.int .i64 0)),none⟩,⟨some 16,.ldf false 1 (.t 15),none⟩,⟨some 4,.mov (.t 16),none⟩]))
 (.skip))))
 (.lv [1,3,4,5] (.seq (.seq (.reg none [⟨some 17,.mov (.t 3),none⟩,⟨some 18,.lenf (.t 17),none⟩,⟨some 19,.bin .gt (.t 18) (.k (.int .i64 1)),none⟩])
 (.lv [1,3,4,5,19] (.cond (.t 19) (.lv [1,3,4] (.reg none [⟨some 20,.mov (.t 3),none⟩,⟨some 21,.iaddrf 1 (.t 20) (.k (.int .i64 1)),none⟩,⟨some 22,.ldf false 1 (.t 21),none⟩,⟨some 5,.mov (.t 22),none⟩]))
 (.skip))))
 (.lv [1,4,5] (.seq (.reg none [⟨some 23,.mov (.t 4),none⟩,⟨some 24,.mkB 29 24 57 3 (.t 23),none⟩,⟨some 6,.mov (.t 24),none⟩])
 (.lv [1,5,6] (.seq (.seq (.reg none [⟨some 25,.mov (.t 6),none⟩,⟨some 26,.lenB (.t 25),none⟩,⟨some 27,.mov (.k (.int .i64 0)),none⟩])
 (.lv [1,5,6,26,27] (.block 0 (.loop [1,5,6,26,27] none b40_0))))
 k40_1))))))))))))
def i40:IFn:=⟨1,53,c40,[.t 2],.pure⟩
def c41:IR:=
 .seq (.reg none [⟨some 1,.box 31 5 (.t 0),none⟩,⟨some 2,.mov (.k (.int .i64 0)),none⟩])
 (.lv [1] (.seq (.seq (.reg none [⟨some 3,.ld true 5 (.t 1),none⟩,⟨some 4,.callP 38 [.t 3],none⟩,⟨some 5,.bin .lt (.t 4) (.k (.int .i64 2)),none⟩])
 (.lv [1,5] (.cond (.t 5) (.lv [] (.seq (.reg none [⟨some 2,.mov (.k (.int .i64 1)),none⟩])
 (.ret)))
 (.skip))))
 (.lv [1] (.seq (.reg none [⟨some 6,.ld true 5 (.t 1),none⟩,⟨some 7,.callP 53 [.t 6],none⟩,⟨some 8,.iaddrf 1 (.t 7) (.k (.int .i64 1)),none⟩,⟨some 9,.ldf false 1 (.t 8),none⟩,⟨some 2,.mov (.t 9),none⟩])
 (.ret)))))
def i41:IFn:=⟨1,10,c41,[.t 2],.pure⟩
def b42_2:IR:=
 .seq (.reg none [⟨some 29,.bin .lt (.t 28) (.t 27),none⟩])
 (.lv [0,1,3,9,10,11,12,17,18,21,22,27,28,29] (.seq (.cond (.t 29) (.skip)
 (.exit 4))
 (.lv [0,1,3,9,10,11,12,17,18,21,22,27,28] (.seq (.block 5 (.seq (.reg none [⟨some 30,.mov (.t 28),none⟩,⟨some 13,.mov (.t 30),none⟩])
 (.lv [0,1,3,9,10,11,12,13,17,18,21,22,27,28] (.reg (some [0,1,2,3,4,5,6,7,8,9,10,11,12,13,14,15,16,17,18,19]) [⟨some 31,.ld true 3 (.t 12),none⟩,⟨some 32,.mov (.t 0),none⟩,⟨some 33,.mov (.t 13),none⟩,⟨some 34,.iaddrf 1 (.t 32) (.t 33),none⟩,⟨some 35,.ldf false 1 (.t 34),none⟩,⟨some 36,.mov (.t 10),none⟩,⟨some 37,.iaddr 3 (.t 35) (.t 36),none⟩,⟨some 38,.ld true 3 (.t 37),none⟩,⟨some 39,.mov (.t 1),none⟩,⟨some 40,.mov (.t 13),none⟩,⟨some 41,.iaddrf 1 (.t 39) (.t 40),none⟩,⟨some 42,.ldf false 1 (.t 41),none⟩,⟨some 43,.mov (.t 11),none⟩,⟨some 44,.iaddr 3 (.t 42) (.t 43),none⟩,⟨some 45,.ld true 3 (.t 44),none⟩,⟨some 46,.bslF 57 3 [.t 45],none⟩,⟨some 47,.callP 83 [.t 38,.t 46],none⟩,⟨some 48,.bslF 57 3 [.t 47],none⟩,⟨some 49,.callP 82 [.t 31,.t 48],none⟩,⟨none,.st 3 (.t 12) (.t 49),none⟩]))))
 (.lv [0,1,3,9,10,11,12,17,18,21,22,27,28] (.reg none [⟨some 50,.bin .add (.t 28) (.k (.int .i64 1)),none⟩,⟨some 28,.mov (.t 50),none⟩]))))))
def k42_0:IR:=
 .reg (some [0,1,2,3,4,5,6,7,8,9,10]) [⟨some 51,.mov (.t 9),none⟩,⟨some 52,.mov (.t 10),none⟩,⟨some 53,.mov (.t 9),none⟩,⟨some 54,.mov (.t 10),none⟩,⟨some 55,.iaddr 1 (.t 53) (.t 54),none⟩,⟨some 56,.ld false 1 (.t 55),none⟩,⟨some 57,.ld true 3 (.t 12),none⟩,⟨some 58,.bslF 57 3 [.t 57],none⟩,⟨some 59,.app 57 3 56 (.t 56) (.t 58),none⟩,⟨some 60,.iaddr 1 (.t 51) (.t 52),none⟩,⟨none,.st 1 (.t 60) (.t 59),none⟩]
def k42_1:IR:=
 .reg none [⟨some 61,.bin .add (.t 22) (.k (.int .i64 1)),none⟩,⟨some 22,.mov (.t 61),none⟩]
def b42_1:IR:=
 .seq (.reg none [⟨some 23,.bin .lt (.t 22) (.t 21),none⟩])
 (.lv [0,1,3,9,10,17,18,21,22,23] (.seq (.cond (.t 23) (.skip)
 (.exit 2))
 (.lv [0,1,3,9,10,17,18,21,22] (.seq (.block 3 (.seq (.reg none [⟨some 24,.mov (.t 22),none⟩,⟨some 11,.mov (.t 24),none⟩])
 (.lv [0,1,3,9,10,11,17,18,21,22] (.seq (.reg none [⟨some 25,.build [.sl 0 1 [],.bool false,.sl 0 1 []] [],none⟩,⟨some 12,.alloc 57 [.sl 0 1 [],.bool false,.sl 0 1 []],none⟩,⟨none,.st 3 (.t 12) (.t 25),none⟩])
 (.lv [0,1,3,9,10,11,12,17,18,21,22] (.seq (.seq (.reg none [⟨some 26,.mov (.t 0),none⟩,⟨some 27,.lenf (.t 26),none⟩,⟨some 28,.mov (.k (.int .i64 0)),none⟩])
 (.lv [0,1,3,9,10,11,12,17,18,21,22,27,28] (.block 4 (.loop [0,1,3,9,10,11,12,17,18,21,22,27,28] none b42_2))))
 k42_0))))))
 k42_1))))
def k42_2:IR:=
 .reg none [⟨some 62,.bin .add (.t 18) (.k (.int .i64 1)),none⟩,⟨some 18,.mov (.t 62),none⟩]
def b42_0:IR:=
 .seq (.reg none [⟨some 19,.bin .lt (.t 18) (.t 17),none⟩])
 (.lv [0,1,3,9,17,18,19] (.seq (.cond (.t 19) (.skip)
 (.exit 0))
 (.lv [0,1,3,9,17,18] (.seq (.block 1 (.seq (.reg none [⟨some 20,.mov (.t 18),none⟩,⟨some 10,.mov (.t 20),none⟩])
 (.lv [0,1,3,9,10,17,18] (.seq (.reg none [⟨some 21,.mov (.t 3),none⟩,⟨some 22,.mov (.k (.int .i64 0)),none⟩])
 (.lv [0,1,3,9,10,17,18,21,22] (.block 2 (.loop [0,1,3,9,10,17,18,21,22] none b42_1)))))))
 k42_2))))
def k42_3:IR:=
 .seq (.reg none [⟨some 63,.mov (.t 9),none⟩,⟨some 8,.mov (.t 63),none⟩])
 (.ret)
def c42:IR:=
 .seq (.reg none [⟨some 8,.newnilB 29 1,none⟩])
 (.lv [0,1,2,3] (.seq (.reg none [⟨some 14,.mov (.t 2),none⟩,⟨some 15,.mkB 29 24 57 3 (.t 14),none⟩,⟨some 9,.mov (.t 15),none⟩])
 (.lv [0,1,3,9] (.seq (.seq (.reg none [⟨some 16,.mov (.t 9),none⟩,⟨some 17,.lenB (.t 16),none⟩,⟨some 18,.mov (.k (.int .i64 0)),none⟩])
 (.lv [0,1,3,9,17,18] (.block 0 (.loop [0,1,3,9,17,18] none b42_0))))
 k42_3))))
def i42:IFn:=⟨4,64,c42,[.t 8],.ownB⟩
def b43_1:IR:=
 .seq (.seq (.reg none [⟨some 18,.mov (.t 6),none⟩,⟨some 19,.mov (.t 0),none⟩,⟨some 20,.lenB (.t 19),none⟩,⟨some 21,.bin .lt (.t 18) (.t 20),none⟩,⟨some 22,.mov (.t 21),none⟩,⟨some 23,.mov (.t 0),(some (22,true))⟩,⟨some 24,.mov (.t 6),(some (22,true))⟩,⟨some 25,.iaddr 1 (.t 23) (.t 24),(some (22,true))⟩,⟨some 26,.ld false 1 (.t 25),(some (22,true))⟩,⟨some 27,.mov (.t 5),(some (22,true))⟩,⟨some 28,.iaddr 3 (.t 26) (.t 27),(some (22,true))⟩,⟨some 29,.ld true 3 (.t 28),(some (22,true))⟩,⟨some 30,.callR 84 [.t 29],(some (22,true))⟩,⟨some 31,.bin .eq (.t 30) (.k (.int .i64 0)),(some (22,true))⟩,⟨some 32,.pick (.t 22) (.t 31) (.k (.bool false)),none⟩])
 (.lv [0,1,5,6,13,14,32] (.cond (.t 32) (.skip)
 (.exit 2))))
 (.lv [0,1,5,6,13,14] (.block 3 (.reg none [⟨some 33,.mov (.t 6),none⟩,⟨some 34,.bin .add (.t 33) (.k (.int .i64 1)),none⟩,⟨some 6,.mov (.t 34),none⟩])))
def b43_2:IR:=
 .seq (.reg none [⟨some 70,.bin .lt (.t 69) (.t 68),none⟩])
 (.lv [0,1,5,13,14,68,69,70] (.seq (.cond (.t 70) (.skip)
 (.exit 4))
 (.lv [0,1,5,13,14,68,69] (.seq (.block 5 (.seq (.reg none [⟨some 71,.mov (.t 69),none⟩,⟨some 7,.mov (.t 71),none⟩])
 (.lv [0,1,5,7,13,14,68,69] (.seq (.seq (.reg none [⟨some 72,.mov (.t 7),none⟩,⟨some 73,.mov (.t 5),none⟩,⟨some 74,.bin .eq (.t 72) (.t 73),none⟩,⟨some 75,.mov (.t 74),none⟩,⟨some 76,.mov (.t 0),(some (75,false))⟩,⟨some 77,.mov (.t 7),(some (75,false))⟩,⟨some 78,.iaddr 1 (.t 76) (.t 77),(some (75,false))⟩,⟨some 79,.ld false 1 (.t 78),(some (75,false))⟩,⟨some 80,.mov (.t 5),(some (75,false))⟩,⟨some 81,.iaddr 3 (.t 79) (.t 80),(some (75,false))⟩,⟨some 82,.ld true 3 (.t 81),(some (75,false))⟩,⟨some 83,.callR 84 [.t 82],(some (75,false))⟩,⟨some 84,.bin .eq (.t 83) (.k (.int .i64 0)),(some (75,false))⟩,⟨some 85,.pick (.t 75) (.k (.bool true)) (.t 84),none⟩])
 (.lv [0,1,5,7,13,14,68,69,85] (.cond (.t 85) (.exit 5)
 (.skip))))
 (.lv [0,1,5,7,13,14,68,69] (.seq (.reg (some [0,1,2,3,4,5,6,7,8,9,10,11,12,13,14,15,16,17,18,19,20]) [⟨some 87,.mov (.t 0),none⟩,⟨some 88,.mov (.t 7),none⟩,⟨some 89,.iaddr 1 (.t 87) (.t 88),none⟩,⟨some 90,.ld false 1 (.t 89),none⟩,⟨some 91,.mov (.t 5),none⟩,⟨some 92,.iaddr 3 (.t 90) (.t 91),none⟩,⟨some 93,.ld true 3 (.t 92),none⟩,⟨some 94,.mov (.t 0),none⟩,⟨some 95,.mov (.t 5),none⟩,⟨some 96,.iaddr 1 (.t 94) (.t 95),none⟩,⟨some 97,.ld false 1 (.t 96),none⟩,⟨some 98,.mov (.t 5),none⟩,⟨some 99,.iaddr 3 (.t 97) (.t 98),none⟩,⟨some 100,.ld true 3 (.t 99),none⟩,⟨some 101,.callF 85 [.t 93,.t 100],none⟩,⟨some 86,.mov (.t 101),none⟩,⟨some 102,.ext (.t 86) 0,none⟩,⟨some 103,.ext (.t 86) 1,none⟩,⟨some 8,.alloc 57 [.sl 0 1 [],.bool false,.sl 0 1 []],none⟩,⟨none,.st 3 (.t 8) (.t 102),none⟩,⟨some 9,.mov (.t 103),none⟩])
 (.lv [0,1,5,7,8,13,14,68,69] (.seq (.reg (some [0,1,2,3,4,5,6,7,8,9]) [⟨some 104,.mov (.t 0),none⟩,⟨some 105,.mov (.t 7),none⟩,⟨some 106,.iaddr 1 (.t 104) (.t 105),none⟩,⟨some 107,.ld false 1 (.t 106),none⟩,⟨some 108,.mov (.t 0),none⟩,⟨some 109,.mov (.t 5),none⟩,⟨some 110,.iaddr 1 (.t 108) (.t 109),none⟩,⟨some 111,.ld false 1 (.t 110),none⟩,⟨some 112,.ld true 3 (.t 8),none⟩,⟨some 113,.callM 86 [.t 107,.t 111,.t 112],none⟩])
 (.lv [0,1,5,7,8,13,14,68,69] (.reg (some [0,1,2,3,4,5,6,7,8,9]) [⟨some 114,.mov (.t 1),none⟩,⟨some 115,.mov (.t 7),none⟩,⟨some 116,.iaddr 1 (.t 114) (.t 115),none⟩,⟨some 117,.ld false 1 (.t 116),none⟩,⟨some 118,.mov (.t 1),none⟩,⟨some 119,.mov (.t 5),none⟩,⟨some 120,.iaddr 1 (.t 118) (.t 119),none⟩,⟨some 121,.ld false 1 (.t 120),none⟩,⟨some 122,.ld true 3 (.t 8),none⟩,⟨some 123,.callM 86 [.t 117,.t 121,.t 122],none⟩]))))))))))
 (.lv [0,1,5,13,14,68,69] (.reg none [⟨some 124,.bin .add (.t 69) (.k (.int .i64 1)),none⟩,⟨some 69,.mov (.t 124),none⟩]))))))
def k43_0:IR:=
 .seq (.seq (.reg none [⟨some 35,.mov (.t 6),none⟩,⟨some 36,.mov (.t 0),none⟩,⟨some 37,.lenB (.t 36),none⟩,⟨some 38,.bin .eq (.t 35) (.t 37),none⟩])
 (.lv [0,1,5,6,13,14,38] (.cond (.t 38) (.lv [] (.seq (.reg none [⟨some 4,.mov (.k (.bool false)),none⟩])
 (.ret)))
 (.skip))))
 (.lv [0,1,5,6,13,14] (.seq (.reg (some [0,1,2,3,4,5,6,7,8,9,10,11,12,13,14,15,16,17,18,19,20,21,22,23,24,25,26,27,28,29,30,31]) [⟨some 39,.mov (.t 0),none⟩,⟨some 40,.mov (.t 5),none⟩,⟨some 41,.mov (.t 0),none⟩,⟨some 42,.mov (.t 6),none⟩,⟨some 43,.mov (.t 1),none⟩,⟨some 44,.mov (.t 5),none⟩,⟨some 45,.mov (.t 1),none⟩,⟨some 46,.mov (.t 6),none⟩,⟨some 47,.mov (.t 0),none⟩,⟨some 48,.mov (.t 6),none⟩,⟨some 49,.iaddr 1 (.t 47) (.t 48),none⟩,⟨some 50,.ld false 1 (.t 49),none⟩,⟨some 51,.mov (.t 0),none⟩,⟨some 52,.mov (.t 5),none⟩,⟨some 53,.iaddr 1 (.t 51) (.t 52),none⟩,⟨some 54,.ld false 1 (.t 53),none⟩,⟨some 55,.mov (.t 1),none⟩,⟨some 56,.mov (.t 6),none⟩,⟨some 57,.iaddr 1 (.t 55) (.t 56),none⟩,⟨some 58,.ld false 1 (.t 57),none⟩,⟨some 59,.mov (.t 1),none⟩,⟨some 60,.mov (.t 5),none⟩,⟨some 61,.iaddr 1 (.t 59) (.t 60),none⟩,⟨some 62,.ld false 1 (.t 61),none⟩,⟨some 63,.iaddr 1 (.t 39) (.t 40),none⟩,⟨none,.st 1 (.t 63) (.t 50),none⟩,⟨some 64,.iaddr 1 (.t 41) (.t 42),none⟩,⟨none,.st 1 (.t 64) (.t 54),none⟩,⟨some 65,.iaddr 1 (.t 43) (.t 44),none⟩,⟨none,.st 1 (.t 65) (.t 58),none⟩,⟨some 66,.iaddr 1 (.t 45) (.t 46),none⟩,⟨none,.st 1 (.t 66) (.t 62),none⟩])
 (.lv [0,1,5,13,14] (.seq (.reg none [⟨some 67,.mov (.t 0),none⟩,⟨some 68,.lenB (.t 67),none⟩,⟨some 69,.mov (.k (.int .i64 0)),none⟩])
 (.lv [0,1,5,13,14,68,69] (.block 4 (.loop [0,1,5,13,14,68,69] none b43_2)))))))
def k43_1:IR:=
 .reg none [⟨some 125,.bin .add (.t 14) (.k (.int .i64 1)),none⟩,⟨some 14,.mov (.t 125),none⟩]
def b43_0:IR:=
 .seq (.reg none [⟨some 15,.bin .lt (.t 14) (.t 13),none⟩])
 (.lv [0,1,13,14,15] (.seq (.cond (.t 15) (.skip)
 (.exit 0))
 (.lv [0,1,13,14] (.seq (.block 1 (.seq (.reg none [⟨some 16,.mov (.t 14),none⟩,⟨some 5,.mov (.t 16),none⟩])
 (.lv [0,1,5,13,14] (.seq (.reg none [⟨some 17,.mov (.t 5),none⟩,⟨some 6,.mov (.t 17),none⟩])
 (.lv [0,1,5,6,13,14] (.seq (.block 2 (.loop [0,1,5,6,13,14] none b43_1))
 k43_0))))))
 k43_1))))
def b43_4:IR:=
 .seq (.reg none [⟨some 137,.bin .lt (.t 136) (.t 135),none⟩])
 (.lv [0,1,10,127,128,135,136,137] (.seq (.cond (.t 137) (.skip)
 (.exit 8))
 (.lv [0,1,10,127,128,135,136] (.seq (.block 9 (.seq (.reg none [⟨some 138,.mov (.t 136),none⟩,⟨some 11,.mov (.t 138),none⟩])
 (.lv [0,1,10,11,127,128,135,136] (.reg (some [0,1,2,3,4,5,6,7,8,9,10,11,12,13,14,15,16,17,18,19,20,21,22,23,24]) [⟨some 140,.mov (.t 1),none⟩,⟨some 141,.mov (.t 10),none⟩,⟨some 142,.iaddr 1 (.t 140) (.t 141),none⟩,⟨some 143,.ld false 1 (.t 142),none⟩,⟨some 144,.mov (.t 11),none⟩,⟨some 145,.mov (.t 1),none⟩,⟨some 146,.mov (.t 10),none⟩,⟨some 147,.iaddr 1 (.t 145) (.t 146),none⟩,⟨some 148,.ld false 1 (.t 147),none⟩,⟨some 149,.mov (.t 11),none⟩,⟨some 150,.iaddr 3 (.t 148) (.t 149),none⟩,⟨some 151,.ld true 3 (.t 150),none⟩,⟨some 152,.mov (.t 0),none⟩,⟨some 153,.mov (.t 10),none⟩,⟨some 154,.iaddr 1 (.t 152) (.t 153),none⟩,⟨some 155,.ld false 1 (.t 154),none⟩,⟨some 156,.mov (.t 10),none⟩,⟨some 157,.iaddr 3 (.t 155) (.t 156),none⟩,⟨some 158,.ld true 3 (.t 157),none⟩,⟨some 159,.callF 85 [.t 151,.t 158],none⟩,⟨some 139,.mov (.t 159),none⟩,⟨some 160,.ext (.t 139) 0,none⟩,⟨some 161,.ext (.t 139) 1,none⟩,⟨some 162,.iaddr 3 (.t 143) (.t 144),none⟩,⟨none,.st 3 (.t 162) (.t 160),none⟩]))))
 (.lv [0,1,10,127,128,135,136] (.reg none [⟨some 163,.bin .add (.t 136) (.k (.int .i64 1)),none⟩,⟨some 136,.mov (.t 163),none⟩]))))))
def k43_2:IR:=
 .reg none [⟨some 164,.bin .add (.t 128) (.k (.int .i64 1)),none⟩,⟨some 128,.mov (.t 164),none⟩]
def b43_3:IR:=
 .seq (.reg none [⟨some 129,.bin .lt (.t 128) (.t 127),none⟩])
 (.lv [0,1,127,128,129] (.seq (.cond (.t 129) (.skip)
 (.exit 6))
 (.lv [0,1,127,128] (.seq (.block 7 (.seq (.reg none [⟨some 130,.mov (.t 128),none⟩,⟨some 10,.mov (.t 130),none⟩])
 (.lv [0,1,10,127,128] (.seq (.reg none [⟨some 131,.mov (.t 1),none⟩,⟨some 132,.mov (.t 10),none⟩,⟨some 133,.iaddr 1 (.t 131) (.t 132),none⟩,⟨some 134,.ld false 1 (.t 133),none⟩,⟨some 135,.len (.t 134),none⟩,⟨some 136,.mov (.k (.int .i64 0)),none⟩])
 (.lv [0,1,10,127,128,135,136] (.block 8 (.loop [0,1,10,127,128,135,136] none b43_4)))))))
 k43_2))))
def k43_3:IR:=
 .seq (.reg none [⟨some 4,.mov (.k (.bool true)),none⟩])
 (.ret)
def k43_4:IR:=
 .seq (.seq (.reg none [⟨some 126,.mov (.t 0),none⟩,⟨some 127,.lenB (.t 126),none⟩,⟨some 128,.mov (.k (.int .i64 0)),none⟩])
 (.lv [0,1,127,128] (.block 6 (.loop [0,1,127,128] none b43_3))))
 k43_3
def c43:IR:=
 .seq (.reg none [⟨some 4,.mov (.k (.bool false)),none⟩])
 (.lv [0,1] (.seq (.seq (.reg none [⟨some 12,.mov (.t 0),none⟩,⟨some 13,.lenB (.t 12),none⟩,⟨some 14,.mov (.k (.int .i64 0)),none⟩])
 (.lv [0,1,13,14] (.block 0 (.loop [0,1,13,14] none b43_0))))
 k43_4))
def i43:IFn:=⟨2,165,c43,[.t 4],.ref⟩
def b44_1:IR:=
 .seq (.reg none [⟨some 24,.bin .lt (.t 23) (.t 22),none⟩])
 (.lv [1,2,6,8,15,16,17,21,22,23,24] (.seq (.cond (.t 24) (.skip)
 (.exit 2))
 (.lv [1,2,6,8,15,16,17,21,22,23] (.seq (.block 3 (.seq (.reg none [⟨some 25,.iaddrf 3 (.t 21) (.t 23),none⟩,⟨some 26,.ldf true 3 (.t 25),none⟩,⟨some 12,.alloc 57 [.nilsl 162 1,.bool false,.nilsl 162 1],none⟩,⟨none,.st 3 (.t 12) (.t 26),none⟩])
 (.lv [1,2,6,8,12,15,16,17,21,22,23] (.seq (.seq (.reg none [⟨some 27,.ld true 3 (.t 12),none⟩,⟨some 28,.callR 87 [.t 27],none⟩,⟨some 29,.mov (.t 2),none⟩,⟨some 30,.bin .gt (.t 28) (.t 29),none⟩])
 (.lv [1,2,6,8,12,15,16,17,21,22,23,30] (.cond (.t 30) (.lv [6] (.seq (.reg none [⟨some 31,.build [.nilsl 3 1,.bool false,.nilsl 21 1,.nilsl 57 3,.bool false] [],none⟩,⟨none,.st 5 (.t 6) (.t 31),none⟩,⟨some 7,.mov (.k (.int .i64 26)),none⟩])
 (.ret)))
 (.skip))))
 (.lv [1,2,6,8,12,15,16,17,21,22,23] (.reg none [⟨some 32,.mov (.t 8),none⟩,⟨some 33,.ld true 3 (.t 12),none⟩,⟨some 34,.bsl 57 3 [.t 33],none⟩,⟨some 35,.app 57 3 56 (.t 32) (.t 34),none⟩,⟨some 8,.mov (.t 35),none⟩]))))))
 (.lv [1,2,6,8,15,16,17,21,22,23] (.reg none [⟨some 36,.bin .add (.t 23) (.k (.int .i64 1)),none⟩,⟨some 23,.mov (.t 36),none⟩]))))))
def k44_0:IR:=
 .reg none [⟨some 37,.bin .add (.t 17) (.k (.int .i64 1)),none⟩,⟨some 17,.mov (.t 37),none⟩]
def b44_0:IR:=
 .seq (.reg none [⟨some 18,.bin .lt (.t 17) (.t 16),none⟩])
 (.lv [1,2,6,8,15,16,17,18] (.seq (.cond (.t 18) (.skip)
 (.exit 0))
 (.lv [1,2,6,8,15,16,17] (.seq (.block 1 (.seq (.reg none [⟨some 19,.iaddrf 1 (.t 15) (.t 17),none⟩,⟨some 20,.ldf false 1 (.t 19),none⟩,⟨some 10,.mov (.t 20),none⟩])
 (.lv [1,2,6,8,10,15,16,17] (.seq (.reg none [⟨some 21,.mov (.t 10),none⟩,⟨some 22,.lenf (.t 21),none⟩,⟨some 23,.mov (.k (.int .i64 0)),none⟩])
 (.lv [1,2,6,8,15,16,17,21,22,23] (.block 2 (.loop [1,2,6,8,15,16,17,21,22,23] (some (5,[])) b44_1)))))))
 k44_0))))
def k44_1:IR:=
 .seq (.reg none [⟨some 39,.mov (.t 1),none⟩,⟨some 40,.mov (.t 8),none⟩,⟨some 41,.callF 88 [.t 39,.t 40],none⟩,⟨some 38,.mov (.t 41),none⟩,⟨some 42,.ext (.t 38) 0,none⟩,⟨some 43,.ext (.t 38) 1,none⟩,⟨some 13,.alloc 31 [.nilsl 3 1,.bool false,.nilsl 21 1,.nilsl 57 3,.bool false],none⟩,⟨none,.st 5 (.t 13) (.t 42),none⟩,⟨some 14,.mov (.t 43),none⟩])
 (.lv [6,13] (.seq (.reg none [⟨some 44,.ld true 5 (.t 13),none⟩,⟨none,.st 5 (.t 6) (.t 44),none⟩,⟨some 7,.mov (.k (.int .i64 0)),none⟩])
 (.ret)))
def c44:IR:=
 .seq (.reg none [⟨some 6,.alloc 31 [.nilsl 3 1,.bool false,.nilsl 21 1,.nilsl 57 3,.bool false],none⟩,⟨some 7,.mov (.k (.int .i64 0)),none⟩])
 (.lv [0,1,2,6] (.seq (.reg none [⟨some 8,.newnil 57 3,none⟩])
 (.lv [0,1,2,6,8] (.seq (.seq (.reg none [⟨some 15,.mov (.t 0),none⟩,⟨some 16,.lenf (.t 15),none⟩,⟨some 17,.mov (.k (.int .i64 0)),none⟩])
 (.lv [1,2,6,8,15,16,17] (.block 0 (.loop [1,2,6,8,15,16,17] (some (5,[])) b44_0))))
 k44_1))))
def i44:IFn:=⟨3,45,c44,[.c 6 true 5,.t 7],.pure⟩
def b45_0:IR:=
 .seq (.reg none [⟨some 68,.bin .lt (.t 67) (.t 66),none⟩])
 (.lv [2,6,65,66,67,68] (.seq (.cond (.t 68) (.skip)
 (.exit 0))
 (.lv [2,6,65,66,67] (.seq (.block 1 (.seq (.reg none [⟨some 69,.iaddrf 3 (.t 65) (.t 67),none⟩,⟨some 70,.ldf true 3 (.t 69),none⟩,⟨some 8,.alloc 66 [.bool false,.str ⟨#[]⟩,.str ⟨#[]⟩],none⟩,⟨none,.st 3 (.t 8) (.t 70),none⟩])
 (.lv [2,6,8,65,66,67] (.seq (.reg none [⟨some 72,.ld true 3 (.t 8),none⟩,⟨some 73,.callP 91 [.t 72],none⟩,⟨some 71,.mov (.t 73),none⟩,⟨some 74,.ext (.t 71) 0,none⟩,⟨some 75,.ext (.t 71) 1,none⟩,⟨some 9,.alloc 57 [.nilsl 162 1,.bool false,.nilsl 162 1],none⟩,⟨none,.st 3 (.t 9) (.t 74),none⟩,⟨some 10,.mov (.t 75),none⟩])
 (.lv [2,6,9,10,65,66,67] (.seq (.seq (.reg none [⟨some 76,.mov (.t 10),none⟩,⟨some 77,.not (.t 76),none⟩])
 (.lv [2,6,9,65,66,67,77] (.cond (.t 77) (.lv [2] (.seq (.reg none [⟨some 78,.build [.nilsl 3 1,.bool false,.nilsl 21 1,.nilsl 57 3,.bool false] [],none⟩,⟨none,.st 5 (.t 2) (.t 78),none⟩,⟨some 3,.mov (.k (.bool false)),none⟩])
 (.ret)))
 (.skip))))
 (.lv [2,6,9,65,66,67] (.reg none [⟨some 79,.faddr 3 (.t 6),none⟩,⟨some 80,.ld false 1 (.t 79),none⟩,⟨some 81,.ld true 3 (.t 9),none⟩,⟨some 82,.bsl 57 3 [.t 81],none⟩,⟨some 83,.app 57 3 56 (.t 80) (.t 82),none⟩,⟨some 84,.faddr 3 (.t 6),none⟩,⟨none,.st 1 (.t 84) (.t 83),none⟩]))))))))
 (.lv [2,6,65,66,67] (.reg none [⟨some 85,.bin .add (.t 67) (.k (.int .i64 1)),none⟩,⟨some 67,.mov (.t 85),none⟩]))))))
def k45_0:IR:=
 .seq (.reg none [⟨some 86,.ld true 5 (.t 6),none⟩,⟨none,.st 5 (.t 2) (.t 86),none⟩,⟨some 3,.mov (.k (.bool true)),none⟩])
 (.ret)
def c45:IR:=
 .seq (.reg none [⟨some 1,.box 26 4 (.t 0),none⟩,⟨some 2,.alloc 31 [.nilsl 3 1,.bool false,.nilsl 21 1,.nilsl 57 3,.bool false],none⟩,⟨some 3,.mov (.k (.bool false)),none⟩])
 (.lv [1,2] (.seq (.reg none [⟨some 12,.faddr 0 (.t 1),none⟩,⟨some 13,.ld false 1 (.t 12),none⟩,⟨some 14,.callP 78 [.t 13],none⟩,⟨some 11,.mov (.t 14),none⟩,⟨some 15,.ext (.t 11) 0,none⟩,⟨some 16,.ext (.t 11) 1,none⟩,⟨some 4,.mov (.t 15),none⟩,⟨some 5,.mov (.t 16),none⟩])
 (.lv [1,2,4,5] (.seq (.seq (.reg none [⟨some 17,.mov (.t 5),none⟩,⟨some 18,.not (.t 17),none⟩,⟨some 19,.mov (.t 18),none⟩,⟨some 20,.faddr 1 (.t 1),(some (19,false))⟩,⟨some 21,.ld false 1 (.t 20),(some (19,false))⟩,⟨some 22,.mov (.t 21),(some (19,false))⟩,⟨some 23,.faddr 2 (.t 1),(some (22,true))⟩,⟨some 24,.ld false 1 (.t 23),(some (22,true))⟩,⟨some 25,.lenf (.t 24),(some (22,true))⟩,⟨some 26,.mov (.t 4),(some (22,true))⟩,⟨some 27,.bin .ne (.t 25) (.t 26),(some (22,true))⟩,⟨some 28,.mov (.t 27),(some (22,true))⟩,⟨some 29,.faddr 3 (.t 1),(some (28,false))⟩,⟨some 30,.ld false 1 (.t 29),(some (28,false))⟩,⟨some 31,.lenf (.t 30),(some (28,false))⟩,⟨some 32,.bin .gt (.t 31) (.k (.int .i64 0)),(some (28,false))⟩,⟨some 33,.pick (.t 28) (.k (.bool true)) (.t 32),(some (22,true))⟩,⟨some 34,.pick (.t 22) (.t 33) (.k (.bool false)),(some (19,false))⟩,⟨some 35,.pick (.t 19) (.k (.bool true)) (.t 34),none⟩,⟨some 36,.mov (.t 35),none⟩,⟨some 37,.faddr 1 (.t 1),(some (36,false))⟩,⟨some 38,.ld false 1 (.t 37),(some (36,false))⟩,⟨some 39,.not (.t 38),(some (36,false))⟩,⟨some 40,.mov (.t 39),(some (36,false))⟩,⟨some 41,.faddr 3 (.t 1),(some (40,true))⟩,⟨some 42,.ld false 1 (.t 41),(some (40,true))⟩,⟨some 43,.lenf (.t 42),(some (40,true))⟩,⟨some 44,.mov (.t 4),(some (40,true))⟩,⟨some 45,.bin .ne (.t 43) (.t 44),(some (40,true))⟩,⟨some 46,.mov (.t 45),(some (40,true))⟩,⟨some 47,.faddr 2 (.t 1),(some (46,false))⟩,⟨some 48,.ld false 1 (.t 47),(some (46,false))⟩,⟨some 49,.lenf (.t 48),(some (46,false))⟩,⟨some 50,.bin .gt (.t 49) (.k (.int .i64 0)),(some (46,false))⟩,⟨some 51,.pick (.t 46) (.k (.bool true)) (.t 50),(some (40,true))⟩,⟨some 52,.pick (.t 40) (.t 51) (.k (.bool false)),(some (36,false))⟩,⟨some 53,.pick (.t 36) (.k (.bool true)) (.t 52),none⟩])
 (.lv [1,2,53] (.cond (.t 53) (.lv [2] (.seq (.reg none [⟨some 54,.build [.nilsl 3 1,.bool false,.nilsl 21 1,.nilsl 57 3,.bool false] [],none⟩,⟨none,.st 5 (.t 2) (.t 54),none⟩,⟨some 3,.mov (.k (.bool false)),none⟩])
 (.ret)))
 (.skip))))
 (.lv [1,2] (.seq (.reg (some [0,1,3,4,5,6,2,7,8,9,10]) [⟨some 55,.faddr 0 (.t 1),none⟩,⟨some 56,.ld false 1 (.t 55),none⟩,⟨some 58,.faddr 1 (.t 1),none⟩,⟨some 59,.ld false 1 (.t 58),none⟩,⟨some 60,.faddr 2 (.t 1),none⟩,⟨some 61,.ld false 1 (.t 60),none⟩,⟨some 57,.callZ 89 [.t 56],none⟩,⟨some 62,.callZ 90 [.t 61],none⟩,⟨some 63,.build [.nilsl 3 1,.bool false,.nilsl 21 1,.nilsl 57 3,.bool false] [(0,1,.t 57),(1,1,.t 59),(2,1,.t 62),(3,1,.k (.nilsl 57 3)),(4,1,.k (.bool true))],none⟩,⟨some 6,.alloc 31 [.nilsl 3 1,.bool false,.nilsl 21 1,.nilsl 57 3,.bool false],none⟩,⟨none,.st 5 (.t 6) (.t 63),none⟩])
 (.lv [1,2,6] (.seq (.seq (.reg none [⟨some 64,.faddr 3 (.t 1),none⟩,⟨some 65,.ld false 1 (.t 64),none⟩,⟨some 66,.lenf (.t 65),none⟩,⟨some 67,.mov (.k (.int .i64 0)),none⟩])
 (.lv [2,6,65,66,67] (.block 0 (.loop [2,6,65,66,67] (some (10,[])) b45_0))))
 k45_0))))))))
def i45:IFn:=⟨1,87,c45,[.c 2 true 5,.t 3],.pure⟩
def c46:IR:=
 .seq (.reg none [⟨some 1,.box 26 4 (.t 0),none⟩,⟨some 2,.mov (.k (.int .i64 0)),none⟩])
 (.lv [1] (.seq (.seq (.reg none [⟨some 3,.faddr 0 (.t 1),none⟩,⟨some 4,.ld false 1 (.t 3),none⟩,⟨some 5,.lenf (.t 4),none⟩,⟨some 6,.bin .gt (.t 5) (.k (.int .i64 2)),none⟩])
 (.lv [1,6] (.cond (.t 6) (.lv [] (.seq (.reg none [⟨some 2,.mov (.k (.int .i64 23)),none⟩])
 (.ret)))
 (.skip))))
 (.lv [1] (.seq (.seq (.reg none [⟨some 7,.faddr 2 (.t 1),none⟩,⟨some 8,.ld false 1 (.t 7),none⟩,⟨some 9,.lenf (.t 8),none⟩,⟨some 10,.bin .gt (.t 9) (.k (.int .i64 0)),none⟩])
 (.lv [1,10] (.cond (.t 10) (.lv [] (.seq (.reg none [⟨some 2,.mov (.k (.int .i64 22)),none⟩])
 (.ret)))
 (.skip))))
 (.lv [1] (.seq (.seq (.reg (some [0,1,2,3,4]) [⟨some 11,.ld true 4 (.t 1),none⟩,⟨some 12,.callP 47 [.t 11],none⟩,⟨some 13,.ld true 4 (.t 1),none⟩,⟨some 14,.callP 48 [.t 13],none⟩,⟨some 15,.bin .lt (.t 12) (.t 14),none⟩])
 (.lv [1,15] (.cond (.t 15) (.lv [] (.seq (.reg none [⟨some 2,.mov (.k (.int .i64 24)),none⟩])
 (.ret)))
 (.skip))))
 (.lv [1] (.seq (.seq (.reg none [⟨some 16,.ld true 4 (.t 1),none⟩,⟨some 17,.callP 47 [.t 16],none⟩,⟨some 18,.bin .gt (.t 17) (.k (.int .i64 32)),none⟩,⟨some 19,.mov (.t 18),none⟩,⟨some 20,.ld true 4 (.t 1),(some (19,false))⟩,⟨some 21,.callP 48 [.t 20],(some (19,false))⟩,⟨some 22,.bin .gt (.t 21) (.k (.int .i64 8)),(some (19,false))⟩,⟨some 23,.pick (.t 19) (.k (.bool true)) (.t 22),none⟩])
 (.lv [23] (.cond (.t 23) (.lv [] (.seq (.reg none [⟨some 2,.mov (.k (.int .i64 26)),none⟩])
 (.ret)))
 (.skip))))
 (.lv [] (.seq (.reg none [⟨some 2,.mov (.k (.int .i64 0)),none⟩])
 (.ret)))))))))))
def i46:IFn:=⟨1,24,c46,[.t 2],.pure⟩
def c47:IR:=
 .seq (.reg none [⟨some 1,.box 26 4 (.t 0),none⟩,⟨some 2,.mov (.k (.int .i64 0)),none⟩])
 (.lv [1] (.seq (.seq (.reg none [⟨some 3,.faddr 0 (.t 1),none⟩,⟨some 4,.ld false 1 (.t 3),none⟩,⟨some 5,.lenf (.t 4),none⟩,⟨some 6,.bin .eq (.t 5) (.k (.int .i64 0)),none⟩])
 (.lv [1,6] (.cond (.t 6) (.lv [] (.seq (.reg none [⟨some 2,.mov (.k (.int .i64 1)),none⟩])
 (.ret)))
 (.skip))))
 (.lv [1] (.seq (.reg none [⟨some 7,.faddr 0 (.t 1),none⟩,⟨some 8,.ld false 1 (.t 7),none⟩,⟨some 9,.iaddrf 1 (.t 8) (.k (.int .i64 0)),none⟩,⟨some 10,.ldf false 1 (.t 9),none⟩,⟨some 2,.mov (.t 10),none⟩])
 (.ret)))))
def i47:IFn:=⟨1,11,c47,[.t 2],.pure⟩
def c48:IR:=
 .seq (.reg none [⟨some 1,.box 26 4 (.t 0),none⟩,⟨some 2,.mov (.k (.int .i64 0)),none⟩])
 (.lv [1] (.seq (.seq (.reg none [⟨some 3,.faddr 0 (.t 1),none⟩,⟨some 4,.ld false 1 (.t 3),none⟩,⟨some 5,.lenf (.t 4),none⟩,⟨some 6,.bin .lt (.t 5) (.k (.int .i64 2)),none⟩])
 (.lv [1,6] (.cond (.t 6) (.lv [] (.seq (.reg none [⟨some 2,.mov (.k (.int .i64 1)),none⟩])
 (.ret)))
 (.skip))))
 (.lv [1] (.seq (.reg none [⟨some 7,.faddr 0 (.t 1),none⟩,⟨some 8,.ld false 1 (.t 7),none⟩,⟨some 9,.iaddrf 1 (.t 8) (.k (.int .i64 1)),none⟩,⟨some 10,.ldf false 1 (.t 9),none⟩,⟨some 2,.mov (.t 10),none⟩])
 (.ret)))))
def i48:IFn:=⟨1,11,c48,[.t 2],.pure⟩
def b49_1:IR:=
 .seq (.seq (.reg none [⟨some 16,.mov (.t 8),none⟩,⟨some 17,.ld true 4 (.t 2),none⟩,⟨some 18,.callR 48 [.t 17],none⟩,⟨some 19,.bin .lt (.t 16) (.t 18),none⟩])
 (.lv [2,3,5,6,7,8,19] (.cond (.t 19) (.skip)
 (.exit 2))))
 (.lv [2,3,5,6,7,8] (.seq (.block 3 (.reg none [⟨some 22,.mov (.t 7),none⟩,⟨some 23,.ld true 4 (.t 2),none⟩,⟨some 24,.mov (.t 6),none⟩,⟨some 25,.ld true 4 (.t 2),none⟩,⟨some 26,.mov (.t 8),none⟩,⟨some 27,.callR 92 [.t 23,.t 24,.t 25,.t 26],none⟩,⟨some 28,.bsl 66 3 [.t 27],none⟩,⟨some 29,.app 66 3 40 (.t 22) (.t 28),none⟩,⟨some 7,.mov (.t 29),none⟩]))
 (.lv [2,3,5,6,7,8] (.reg none [⟨some 20,.mov (.t 8),none⟩,⟨some 21,.bin .add (.t 20) (.k (.int .i64 1)),none⟩,⟨some 8,.mov (.t 21),none⟩]))))
def b49_2:IR:=
 .seq (.seq (.reg none [⟨some 30,.mov (.t 9),none⟩,⟨some 31,.ld true 4 (.t 3),none⟩,⟨some 32,.callR 48 [.t 31],none⟩,⟨some 33,.bin .lt (.t 30) (.t 32),none⟩])
 (.lv [2,3,5,6,7,9,33] (.cond (.t 33) (.skip)
 (.exit 4))))
 (.lv [2,3,5,6,7,9] (.seq (.block 5 (.reg none [⟨some 36,.mov (.t 7),none⟩,⟨some 37,.ld true 4 (.t 2),none⟩,⟨some 38,.mov (.t 6),none⟩,⟨some 39,.ld true 4 (.t 3),none⟩,⟨some 40,.mov (.t 9),none⟩,⟨some 41,.callR 92 [.t 37,.t 38,.t 39,.t 40],none⟩,⟨some 42,.bsl 66 3 [.t 41],none⟩,⟨some 43,.app 66 3 40 (.t 36) (.t 42),none⟩,⟨some 7,.mov (.t 43),none⟩]))
 (.lv [2,3,5,6,7,9] (.reg none [⟨some 34,.mov (.t 9),none⟩,⟨some 35,.bin .add (.t 34) (.k (.int .i64 1)),none⟩,⟨some 9,.mov (.t 35),none⟩]))))
def k49_0:IR:=
 .reg none [⟨some 44,.mov (.t 5),none⟩,⟨some 45,.mov (.t 7),none⟩,⟨some 46,.bslB 24 1 [.t 45],none⟩,⟨some 47,.appB 24 1 24 (.t 44) (.t 46),none⟩,⟨some 5,.mov (.t 47),none⟩]
def k49_1:IR:=
 .seq (.seq (.reg none [⟨some 9,.mov (.k (.int .i64 0)),none⟩])
 (.lv [2,3,5,6,7,9] (.block 4 (.loop [2,3,5,6,7,9] none b49_2))))
 k49_0
def k49_2:IR:=
 .reg none [⟨some 14,.mov (.t 6),none⟩,⟨some 15,.bin .add (.t 14) (.k (.int .i64 1)),none⟩,⟨some 6,.mov (.t 15),none⟩]
def b49_0:IR:=
 .seq (.seq (.reg none [⟨some 10,.mov (.t 6),none⟩,⟨some 11,.ld true 4 (.t 2),none⟩,⟨some 12,.callR 48 [.t 11],none⟩,⟨some 13,.bin .lt (.t 10) (.t 12),none⟩])
 (.lv [2,3,5,6,13] (.cond (.t 13) (.skip)
 (.exit 0))))
 (.lv [2,3,5,6] (.seq (.block 1 (.seq (.reg none [⟨some 7,.newnil 66 3,none⟩])
 (.lv [2,3,5,6,7] (.seq (.seq (.reg none [⟨some 8,.mov (.k (.int .i64 0)),none⟩])
 (.lv [2,3,5,6,7,8] (.block 2 (.loop [2,3,5,6,7,8] none b49_1))))
 k49_1))))
 k49_2))
def k49_3:IR:=
 .seq (.reg none [⟨some 48,.mov (.t 5),none⟩,⟨some 4,.mov (.t 48),none⟩])
 (.ret)
def c49:IR:=
 .seq (.reg none [⟨some 2,.box 26 4 (.t 0),none⟩,⟨some 3,.box 26 4 (.t 1),none⟩,⟨some 4,.newnilB 24 1,none⟩])
 (.lv [2,3] (.seq (.reg none [⟨some 5,.newnilB 24 1,none⟩])
 (.lv [2,3,5] (.seq (.seq (.reg none [⟨some 6,.mov (.k (.int .i64 0)),none⟩])
 (.lv [2,3,5,6] (.block 0 (.loop [2,3,5,6] none b49_0))))
 k49_3))))
def i49:IFn:=⟨2,49,c49,[.t 4],.ownB⟩
def b50_1:IR:=
 .seq (.seq (.reg none [⟨some 19,.mov (.t 5),none⟩,⟨some 20,.mov (.t 4),none⟩,⟨some 21,.bin .ge (.t 19) (.t 20),none⟩,⟨some 22,.mov (.t 21),none⟩,⟨some 23,.mov (.t 0),(some (22,true))⟩,⟨some 24,.mov (.t 5),(some (22,true))⟩,⟨some 25,.iaddr 1 (.t 23) (.t 24),(some (22,true))⟩,⟨some 26,.ld false 1 (.t 25),(some (22,true))⟩,⟨some 27,.mov (.t 4),(some (22,true))⟩,⟨some 28,.iaddr 3 (.t 26) (.t 27),(some (22,true))⟩,⟨some 29,.faddr 1 (.t 28),(some (22,true))⟩,⟨some 30,.ld false 1 (.t 29),(some (22,true))⟩,⟨some 31,.bin .eq (.t 30) (.k (.str ⟨#[48]⟩)),(some (22,true))⟩,⟨some 32,.pick (.t 22) (.t 31) (.k (.bool false)),none⟩])
 (.lv [0,3,4,5,32] (.cond (.t 32) (.skip)
 (.exit 2))))
 (.lv [0,3,4,5] (.block 3 (.reg none [⟨some 33,.mov (.t 5),none⟩,⟨some 34,.bin .sub (.t 33) (.k (.int .i64 1)),none⟩,⟨some 5,.mov (.t 34),none⟩])))
def b50_2:IR:=
 .seq (.seq (.reg none [⟨some 74,.mov (.t 9),none⟩,⟨some 75,.mov (.t 3),none⟩,⟨some 76,.bin .lt (.t 74) (.t 75),none⟩])
 (.lv [0,3,4,9,76] (.cond (.t 76) (.skip)
 (.exit 4))))
 (.lv [0,3,4,9] (.seq (.block 5 (.seq (.reg none [⟨some 79,.mov (.t 9),none⟩,⟨some 80,.mov (.t 4),none⟩,⟨some 81,.bin .ne (.t 79) (.t 80),none⟩])
 (.lv [0,3,4,9,81] (.cond (.t 81) (.lv [0,3,4,9] (.reg (some [0,1,2,3,4,5,6,7,8,9,10,11,12,13,14,15,16,17,18,19,20,21]) [⟨some 82,.mov (.t 0),none⟩,⟨some 83,.mov (.t 9),none⟩,⟨some 84,.mov (.t 0),none⟩,⟨some 85,.mov (.t 9),none⟩,⟨some 86,.iaddr 1 (.t 84) (.t 85),none⟩,⟨some 87,.ld false 1 (.t 86),none⟩,⟨some 88,.mov (.t 0),none⟩,⟨some 89,.mov (.t 4),none⟩,⟨some 90,.iaddr 1 (.t 88) (.t 89),none⟩,⟨some 91,.ld false 1 (.t 90),none⟩,⟨some 92,.mov (.t 0),none⟩,⟨some 93,.mov (.t 9),none⟩,⟨some 94,.iaddr 1 (.t 92) (.t 93),none⟩,⟨some 95,.ld false 1 (.t 94),none⟩,⟨some 96,.mov (.t 4),none⟩,⟨some 97,.iaddr 3 (.t 95) (.t 96),none⟩,⟨some 98,.ld true 3 (.t 97),none⟩,⟨some 99,.callR 96 [.t 98],none⟩,⟨some 100,.callO 94 [.t 91,.t 99],none⟩,⟨some 101,.callO 95 [.t 87,.t 100],none⟩,⟨some 102,.iaddr 1 (.t 82) (.t 83),none⟩,⟨none,.st 1 (.t 102) (.t 101),none⟩]))
 (.skip)))))
 (.lv [0,3,4,9] (.reg none [⟨some 77,.mov (.t 9),none⟩,⟨some 78,.bin .add (.t 77) (.k (.int .i64 1)),none⟩,⟨some 9,.mov (.t 78),none⟩]))))
def k50_0:IR:=
 .seq (.seq (.reg none [⟨some 35,.mov (.t 5),none⟩,⟨some 36,.mov (.t 4),none⟩,⟨some 37,.bin .lt (.t 35) (.t 36),none⟩])
 (.lv [0,3,4,5,37] (.cond (.t 37) (.lv [] (.seq (.reg none [⟨some 2,.mov (.k (.bool false)),none⟩])
 (.ret)))
 (.skip))))
 (.lv [0,3,4,5] (.seq (.reg none [⟨some 38,.mov (.t 0),none⟩,⟨some 39,.mov (.t 4),none⟩,⟨some 40,.iaddr 1 (.t 38) (.t 39),none⟩,⟨some 41,.ld false 1 (.t 40),none⟩,⟨some 6,.mov (.t 41),none⟩])
 (.lv [0,3,4,5,6] (.seq (.reg none [⟨some 42,.mov (.t 0),none⟩,⟨some 43,.mov (.t 4),none⟩,⟨some 44,.mov (.t 0),none⟩,⟨some 45,.mov (.t 5),none⟩,⟨some 46,.iaddr 1 (.t 44) (.t 45),none⟩,⟨some 47,.ld false 1 (.t 46),none⟩,⟨some 48,.iaddr 1 (.t 42) (.t 43),none⟩,⟨none,.st 1 (.t 48) (.t 47),none⟩])
 (.lv [0,3,4,5,6] (.seq (.reg none [⟨some 49,.mov (.t 0),none⟩,⟨some 50,.mov (.t 5),none⟩,⟨some 51,.mov (.t 6),none⟩,⟨some 52,.iaddr 1 (.t 49) (.t 50),none⟩,⟨none,.st 1 (.t 52) (.t 51),none⟩])
 (.lv [0,3,4] (.seq (.reg (some [0,1,2,3,4,5,6,7,8,9,10,11,12,13,14]) [⟨some 54,.callP 36 [.k (.int .i64 1)],none⟩,⟨some 55,.mov (.t 0),none⟩,⟨some 56,.mov (.t 4),none⟩,⟨some 57,.iaddr 1 (.t 55) (.t 56),none⟩,⟨some 58,.ld false 1 (.t 57),none⟩,⟨some 59,.mov (.t 4),none⟩,⟨some 60,.iaddr 3 (.t 58) (.t 59),none⟩,⟨some 61,.ld true 3 (.t 60),none⟩,⟨some 62,.callR 93 [.t 54,.t 61],none⟩,⟨some 53,.mov (.t 62),none⟩,⟨some 63,.ext (.t 53) 0,none⟩,⟨some 64,.ext (.t 53) 1,none⟩,⟨some 7,.alloc 66 [.bool false,.str ⟨#[]⟩,.str ⟨#[]⟩],none⟩,⟨none,.st 3 (.t 7) (.t 63),none⟩,⟨some 8,.mov (.t 64),none⟩])
 (.lv [0,3,4,7] (.seq (.reg (some [0,1,2,3,4,5,6,7,8,9]) [⟨some 65,.mov (.t 0),none⟩,⟨some 66,.mov (.t 4),none⟩,⟨some 67,.mov (.t 0),none⟩,⟨some 68,.mov (.t 4),none⟩,⟨some 69,.iaddr 1 (.t 67) (.t 68),none⟩,⟨some 70,.ld false 1 (.t 69),none⟩,⟨some 71,.ld true 3 (.t 7),none⟩,⟨some 72,.callO 94 [.t 70,.t 71],none⟩,⟨some 73,.iaddr 1 (.t 65) (.t 66),none⟩,⟨none,.st 1 (.t 73) (.t 72),none⟩])
 (.lv [0,3,4] (.seq (.reg none [⟨some 9,.mov (.k (.int .i64 0)),none⟩])
 (.lv [0,3,4,9] (.block 4 (.loop [0,3,4,9] none b50_2)))))))))))))))
def k50_1:IR:=
 .reg none [⟨some 15,.mov (.t 4),none⟩,⟨some 16,.bin .add (.t 15) (.k (.int .i64 1)),none⟩,⟨some 4,.mov (.t 16),none⟩]
def b50_0:IR:=
 .seq (.seq (.reg none [⟨some 12,.mov (.t 4),none⟩,⟨some 13,.mov (.t 3),none⟩,⟨some 14,.bin .lt (.t 12) (.t 13),none⟩])
 (.lv [0,3,4,14] (.cond (.t 14) (.skip)
 (.exit 0))))
 (.lv [0,3,4] (.seq (.block 1 (.seq (.reg none [⟨some 17,.mov (.t 3),none⟩,⟨some 18,.bin .sub (.t 17) (.k (.int .i64 1)),none⟩,⟨some 5,.mov (.t 18),none⟩])
 (.lv [0,3,4,5] (.seq (.block 2 (.loop [0,3,4,5] none b50_1))
 k50_0))))
 k50_1))
def k50_2:IR:=
 .seq (.reg none [⟨some 2,.mov (.k (.bool true)),none⟩])
 (.ret)
def c50:IR:=
 .seq (.reg none [⟨some 2,.mov (.k (.bool false)),none⟩])
 (.lv [0] (.seq (.reg none [⟨some 10,.mov (.t 0),none⟩,⟨some 11,.lenB (.t 10),none⟩,⟨some 3,.mov (.t 11),none⟩])
 (.lv [0,3] (.seq (.seq (.reg none [⟨some 4,.mov (.k (.int .i64 0)),none⟩])
 (.lv [0,3,4] (.block 0 (.loop [0,3,4] none b50_0))))
 k50_2))))
def i50:IFn:=⟨1,103,c50,[.t 2],.ref⟩
def b51_1:IR:=
 .seq (.seq (.reg none [⟨some 22,.mov (.t 12),none⟩,⟨some 23,.mov (.t 0),none⟩,⟨some 24,.mov (.t 11),none⟩,⟨some 25,.iaddrf 1 (.t 23) (.t 24),none⟩,⟨some 26,.ldf false 1 (.t 25),none⟩,⟨some 27,.lenf (.t 26),none⟩,⟨some 28,.bin .lt (.t 22) (.t 27),none⟩])
 (.lv [0,1,3,8,10,11,12,28] (.cond (.t 28) (.skip)
 (.exit 2))))
 (.lv [0,1,3,8,10,11,12] (.seq (.block 3 (.seq (.seq (.reg none [⟨some 31,.mov (.t 0),none⟩,⟨some 32,.mov (.t 11),none⟩,⟨some 33,.iaddrf 1 (.t 31) (.t 32),none⟩,⟨some 34,.ldf false 1 (.t 33),none⟩,⟨some 35,.mov (.t 12),none⟩,⟨some 36,.iaddrf 3 (.t 34) (.t 35),none⟩,⟨some 37,.ldf true 3 (.t 36),none⟩,⟨some 38,.callP 97 [.t 37],none⟩,⟨some 39,.mov (.t 3),none⟩,⟨some 40,.bin .gt (.t 38) (.t 39),none⟩])
 (.lv [0,1,3,8,10,11,12,40] (.cond (.t 40) (.lv [8] (.seq (.reg none [⟨some 41,.build [.nilsl 3 1,.bool false,.nilsl 21 1,.nilsl 66 3] [],none⟩,⟨none,.st 4 (.t 8) (.t 41),none⟩,⟨some 9,.mov (.k (.int .i64 26)),none⟩])
 (.ret)))
 (.skip))))
 (.lv [0,1,3,8,10,11,12] (.reg (some [0,1,2,3,4,5,6,7,8,9,10,11,12]) [⟨some 42,.faddr 3 (.t 10),none⟩,⟨some 43,.ld false 1 (.t 42),none⟩,⟨some 44,.mov (.t 0),none⟩,⟨some 45,.mov (.t 11),none⟩,⟨some 46,.iaddrf 1 (.t 44) (.t 45),none⟩,⟨some 47,.ldf false 1 (.t 46),none⟩,⟨some 48,.mov (.t 12),none⟩,⟨some 49,.iaddrf 3 (.t 47) (.t 48),none⟩,⟨some 50,.ldf true 3 (.t 49),none⟩,⟨some 51,.bsl 66 3 [.t 50],none⟩,⟨some 52,.app 66 3 40 (.t 43) (.t 51),none⟩,⟨some 53,.faddr 3 (.t 10),none⟩,⟨none,.st 1 (.t 53) (.t 52),none⟩]))))
 (.lv [0,1,3,8,10,11,12] (.reg none [⟨some 29,.mov (.t 12),none⟩,⟨some 30,.bin .add (.t 29) (.k (.int .i64 1)),none⟩,⟨some 12,.mov (.t 30),none⟩]))))
def k51_0:IR:=
 .reg none [⟨some 19,.mov (.t 11),none⟩,⟨some 20,.bin .add (.t 19) (.k (.int .i64 1)),none⟩,⟨some 11,.mov (.t 20),none⟩]
def b51_0:IR:=
 .seq (.seq (.reg none [⟨some 15,.mov (.t 11),none⟩,⟨some 16,.mov (.t 0),none⟩,⟨some 17,.lenf (.t 16),none⟩,⟨some 18,.bin .lt (.t 15) (.t 17),none⟩])
 (.lv [0,1,3,8,10,11,18] (.cond (.t 18) (.skip)
 (.exit 0))))
 (.lv [0,1,3,8,10,11] (.seq (.block 1 (.seq (.reg none [⟨some 21,.mov (.t 1),none⟩,⟨some 12,.mov (.t 21),none⟩])
 (.lv [0,1,3,8,10,11,12] (.block 2 (.loop [0,1,3,8,10,11,12] (some (10,[])) b51_1)))))
 k51_0))
def k51_1:IR:=
 .seq (.reg none [⟨some 54,.ld true 4 (.t 10),none⟩,⟨none,.st 4 (.t 8) (.t 54),none⟩,⟨some 9,.mov (.k (.int .i64 0)),none⟩])
 (.ret)
def c51:IR:=
 .seq (.reg none [⟨some 8,.alloc 26 [.nilsl 3 1,.bool false,.nilsl 21 1,.nilsl 66 3],none⟩,⟨some 9,.mov (.k (.int .i64 0)),none⟩])
 (.lv [0,1,2,3,8] (.seq (.reg none [⟨some 13,.mov (.t 2),none⟩,⟨some 14,.build [.nilsl 3 1,.bool false,.nilsl 21 1,.nilsl 66 3] [(0,1,.t 13)],none⟩,⟨some 10,.alloc 26 [.nilsl 3 1,.bool false,.nilsl 21 1,.nilsl 66 3],none⟩,⟨none,.st 4 (.t 10) (.t 14),none⟩])
 (.lv [0,1,3,8,10] (.seq (.seq (.reg none [⟨some 11,.mov (.k (.int .i64 0)),none⟩])
 (.lv [0,1,3,8,10,11] (.block 0 (.loop [0,1,3,8,10,11] (some (10,[])) b51_0))))
 k51_1))))
def i51:IFn:=⟨4,55,c51,[.c 8 true 4,.t 9],.pure⟩
def c52:IR:=
 .seq (.reg none [⟨some 2,.alloc 57 [.nilsl 162 1,.bool false,.nilsl 162 1],none⟩])
 (.lv [0,2] (.seq (.reg none [⟨some 3,.mov (.t 0),none⟩,⟨some 4,.callP 98 [.t 3],none⟩,⟨some 5,.callP 99 [.k (.int .u64 1)],none⟩,⟨some 6,.build [.nilsl 162 1,.bool false,.nilsl 162 1] [(0,2,.t 4),(2,1,.t 5)],none⟩,⟨none,.st 3 (.t 2) (.t 6),none⟩])
 (.ret)))
def i52:IFn:=⟨1,7,c52,[.c 2 true 3],.pure⟩
def c53:IR:=
 .seq (.reg none [⟨some 1,.box 31 5 (.t 0),none⟩,⟨some 2,.newnil 3 1,none⟩])
 (.lv [1] (.seq (.seq (.reg none [⟨some 3,.faddr 4 (.t 1),none⟩,⟨some 4,.ld false 1 (.t 3),none⟩,⟨some 5,.not (.t 4),none⟩])
 (.lv [1,5] (.cond (.t 5) (.lv [] (.seq (.reg none [⟨some 6,.bsl 3 1 [.k (.int .i64 0)],none⟩,⟨some 2,.mov (.t 6),none⟩])
 (.ret)))
 (.skip))))
 (.lv [1] (.seq (.reg none [⟨some 7,.faddr 0 (.t 1),none⟩,⟨some 8,.ld false 1 (.t 7),none⟩,⟨some 9,.callO 89 [.t 8],none⟩,⟨some 2,.mov (.t 9),none⟩])
 (.ret)))))
def i53:IFn:=⟨1,10,c53,[.t 2],.pure⟩
def c54:IR:=
 .seq (.reg none [⟨some 2,.newnil 3 1,none⟩])
 (.lv [0] (.seq (.reg none [⟨some 3,.mov (.t 0),none⟩,⟨some 4,.callP 100 [.t 3],none⟩,⟨some 2,.mov (.t 4),none⟩])
 (.ret)))
def i54:IFn:=⟨1,5,c54,[.t 2],.pure⟩
def c65:IR:=
 .seq (.reg none [⟨some 1,.box 57 3 (.t 0),none⟩,⟨some 2,.mov (.k (.int .i64 0)),none⟩,⟨some 3,.mov (.k (.bool false)),none⟩])
 (.lv [1] (.seq (.seq (.reg none [⟨some 4,.ld true 3 (.t 1),none⟩,⟨some 5,.callP 107 [.t 4],none⟩,⟨some 6,.not (.t 5),none⟩])
 (.lv [1,6] (.cond (.t 6) (.lv [] (.seq (.reg none [⟨some 2,.mov (.k (.int .i64 0)),none⟩,⟨some 3,.mov (.k (.bool false)),none⟩])
 (.ret)))
 (.skip))))
 (.lv [1] (.seq (.reg none [⟨some 7,.faddr 0 (.t 1),none⟩,⟨some 8,.ld true 2 (.t 7),none⟩,⟨some 9,.callP 108 [.t 8],none⟩,⟨some 10,.ext (.t 9) 0,none⟩,⟨some 11,.ext (.t 9) 1,none⟩,⟨some 2,.mov (.t 10),none⟩,⟨some 3,.mov (.t 11),none⟩])
 (.ret)))))
def i65:IFn:=⟨1,12,c65,[.t 2,.t 3],.pure⟩
def b66_0:IR:=
 .seq (.reg none [⟨some 10,.bin .lt (.t 9) (.t 8),none⟩])
 (.lv [2,4,7,8,9,10] (.seq (.cond (.t 10) (.skip)
 (.exit 0))
 (.lv [2,4,7,8,9] (.seq (.block 1 (.seq (.reg none [⟨some 11,.iaddrf 2 (.t 7) (.t 9),none⟩,⟨some 12,.ldf true 2 (.t 11),none⟩,⟨some 6,.alloc 55 [.nilsl 162 1,.bool false],none⟩,⟨none,.st 2 (.t 6) (.t 12),none⟩])
 (.lv [2,4,6,7,8,9] (.reg (some [0,1,2,3,4,5,6,7,8,9,10,11]) [⟨some 13,.faddr 1 (.t 2),none⟩,⟨some 14,.ld false 1 (.t 13),none⟩,⟨some 15,.faddr 1 (.t 6),none⟩,⟨some 16,.ld false 1 (.t 15),none⟩,⟨some 17,.binb .ne (.t 14) (.t 16),none⟩,⟨some 18,.faddr 0 (.t 2),none⟩,⟨some 19,.ld true 1 (.t 18),none⟩,⟨some 20,.faddr 0 (.t 6),none⟩,⟨some 21,.ld true 1 (.t 20),none⟩,⟨some 22,.callF 110 [.t 19,.t 21],none⟩,⟨some 23,.callP 109 [.t 17,.t 22],none⟩,⟨none,.st 2 (.t 2) (.t 23),none⟩]))))
 (.lv [2,4,7,8,9] (.reg none [⟨some 24,.bin .add (.t 9) (.k (.int .i64 1)),none⟩,⟨some 9,.mov (.t 24),none⟩]))))))
def k66_0:IR:=
 .seq (.reg none [⟨some 25,.ld true 2 (.t 2),none⟩,⟨none,.st 2 (.t 4) (.t 25),none⟩])
 (.ret)
def c66:IR:=
 .seq (.reg none [⟨some 2,.box 55 2 (.t 0),none⟩,⟨some 4,.alloc 55 [.nilsl 162 1,.bool false],none⟩])
 (.lv [1,2,4] (.seq (.seq (.reg none [⟨some 7,.mov (.t 1),none⟩,⟨some 8,.lenf (.t 7),none⟩,⟨some 9,.mov (.k (.int .i64 0)),none⟩])
 (.lv [2,4,7,8,9] (.block 0 (.loop [2,4,7,8,9] (some (3,[])) b66_0))))
 k66_0))
def i66:IFn:=⟨2,26,c66,[.c 4 true 2],.pure⟩
def c67:IR:=
 .seq (.reg none [⟨some 1,.box 57 3 (.t 0),none⟩,⟨some 2,.alloc 55 [.nilsl 162 1,.bool false],none⟩])
 (.lv [1,2] (.seq (.reg none [⟨some 3,.ld true 3 (.t 1),none⟩,⟨some 4,.callP 111 [.t 3],none⟩,⟨some 5,.callP 109 [.k (.bool false),.t 4],none⟩,⟨none,.st 2 (.t 2) (.t 5),none⟩])
 (.ret)))
def i67:IFn:=⟨1,6,c67,[.c 2 true 2],.pure⟩
def b72_0:IR:=
 .seq (.seq (.reg none [⟨some 11,.mov (.t 5),none⟩,⟨some 12,.mov (.t 0),none⟩,⟨some 13,.lenf (.t 12),none⟩,⟨some 14,.bin .lt (.t 11) (.t 13),none⟩])
 (.lv [0,1,5,14] (.cond (.t 14) (.skip)
 (.exit 0))))
 (.lv [0,1,5] (.seq (.block 1 (.seq (.reg (some [0,1,2,3,4,5,6,7,8]) [⟨some 17,.mov (.t 0),none⟩,⟨some 18,.mov (.t 5),none⟩,⟨some 19,.iaddrf 1 (.t 17) (.t 18),none⟩,⟨some 20,.ldf false 1 (.t 19),none⟩,⟨some 21,.mov (.t 1),none⟩,⟨some 22,.mov (.t 5),none⟩,⟨some 23,.iaddrf 1 (.t 21) (.t 22),none⟩,⟨some 24,.ldf false 1 (.t 23),none⟩,⟨some 25,.bin .ne (.t 20) (.t 24),none⟩])
 (.lv [0,1,5,25] (.cond (.t 25) (.lv [] (.seq (.reg none [⟨some 4,.mov (.k (.bool false)),none⟩])
 (.ret)))
 (.skip)))))
 (.lv [0,1,5] (.reg none [⟨some 15,.mov (.t 5),none⟩,⟨some 16,.bin .add (.t 15) (.k (.int .i64 1)),none⟩,⟨some 5,.mov (.t 16),none⟩]))))
def k72_0:IR:=
 .seq (.reg none [⟨some 4,.mov (.k (.bool true)),none⟩])
 (.ret)
def c72:IR:=
 .seq (.reg none [⟨some 4,.mov (.k (.bool false)),none⟩])
 (.lv [0,1] (.seq (.seq (.reg none [⟨some 6,.mov (.t 0),none⟩,⟨some 7,.lenf (.t 6),none⟩,⟨some 8,.mov (.t 1),none⟩,⟨some 9,.lenf (.t 8),none⟩,⟨some 10,.bin .ne (.t 7) (.t 9),none⟩])
 (.lv [0,1,10] (.cond (.t 10) (.lv [] (.seq (.reg none [⟨some 4,.mov (.k (.bool false)),none⟩])
 (.ret)))
 (.skip))))
 (.lv [0,1] (.seq (.seq (.reg none [⟨some 5,.mov (.k (.int .i64 0)),none⟩])
 (.lv [0,1,5] (.block 0 (.loop [0,1,5] (some (0,[])) b72_0))))
 k72_0))))
def i72:IFn:=⟨2,26,c72,[.t 4],.pure⟩
def b73_0:IR:=
 .seq (.seq (.reg none [⟨some 11,.mov (.t 5),none⟩,⟨some 12,.mov (.t 0),none⟩,⟨some 13,.lenf (.t 12),none⟩,⟨some 14,.bin .lt (.t 11) (.t 13),none⟩])
 (.lv [0,1,5,14] (.cond (.t 14) (.skip)
 (.exit 0))))
 (.lv [0,1,5] (.seq (.block 1 (.seq (.reg (some [0,1,2,3,4,5,6,7,8]) [⟨some 17,.mov (.t 0),none⟩,⟨some 18,.mov (.t 5),none⟩,⟨some 19,.iaddrf 1 (.t 17) (.t 18),none⟩,⟨some 20,.ldf false 1 (.t 19),none⟩,⟨some 21,.mov (.t 1),none⟩,⟨some 22,.mov (.t 5),none⟩,⟨some 23,.iaddrf 1 (.t 21) (.t 22),none⟩,⟨some 24,.ldf false 1 (.t 23),none⟩,⟨some 25,.bin .ne (.t 20) (.t 24),none⟩])
 (.lv [0,1,5,25] (.cond (.t 25) (.lv [] (.seq (.reg none [⟨some 4,.mov (.k (.bool false)),none⟩])
 (.ret)))
 (.skip)))))
 (.lv [0,1,5] (.reg none [⟨some 15,.mov (.t 5),none⟩,⟨some 16,.bin .add (.t 15) (.k (.int .i64 1)),none⟩,⟨some 5,.mov (.t 16),none⟩]))))
def k73_0:IR:=
 .seq (.reg none [⟨some 4,.mov (.k (.bool true)),none⟩])
 (.ret)
def c73:IR:=
 .seq (.reg none [⟨some 4,.mov (.k (.bool false)),none⟩])
 (.lv [0,1] (.seq (.seq (.reg none [⟨some 6,.mov (.t 0),none⟩,⟨some 7,.lenf (.t 6),none⟩,⟨some 8,.mov (.t 1),none⟩,⟨some 9,.lenf (.t 8),none⟩,⟨some 10,.bin .ne (.t 7) (.t 9),none⟩])
 (.lv [0,1,10] (.cond (.t 10) (.lv [] (.seq (.reg none [⟨some 4,.mov (.k (.bool false)),none⟩])
 (.ret)))
 (.skip))))
 (.lv [0,1] (.seq (.seq (.reg none [⟨some 5,.mov (.k (.int .i64 0)),none⟩])
 (.lv [0,1,5] (.block 0 (.loop [0,1,5] (some (0,[])) b73_0))))
 k73_0))))
def i73:IFn:=⟨2,26,c73,[.t 4],.pure⟩
def c74:IR:=
 .seq (.reg none [⟨some 1,.box 31 5 (.t 0),none⟩,⟨some 2,.newnil 21 1,none⟩])
 (.lv [1] (.seq (.reg none [⟨some 3,.faddr 2 (.t 1),none⟩,⟨some 4,.ld false 1 (.t 3),none⟩,⟨some 5,.callO 90 [.t 4],none⟩,⟨some 2,.mov (.t 5),none⟩])
 (.ret)))
def i74:IFn:=⟨1,6,c74,[.t 2],.own⟩
def c75:IR:=
 .seq (.reg none [⟨some 1,.box 57 3 (.t 0),none⟩,⟨some 2,.alloc 66 [.bool false,.str ⟨#[]⟩,.str ⟨#[]⟩],none⟩])
 (.lv [1,2] (.seq (.reg (some [0,1,2,3,4,5,6,7,8,9,10,11]) [⟨some 3,.faddr 0 (.t 1),none⟩,⟨some 4,.ld true 2 (.t 3),none⟩,⟨some 5,.callP 117 [.t 4],none⟩,⟨some 6,.faddr 0 (.t 1),none⟩,⟨some 7,.faddr 0 (.t 6),none⟩,⟨some 8,.ld true 1 (.t 7),none⟩,⟨some 9,.callP 118 [.t 8],none⟩,⟨some 10,.ld true 3 (.t 1),none⟩,⟨some 11,.callP 111 [.t 10],none⟩,⟨some 12,.callP 118 [.t 11],none⟩,⟨some 13,.build [.bool false,.str ⟨#[]⟩,.str ⟨#[]⟩] [(0,1,.t 5),(1,1,.t 9),(2,1,.t 12)],none⟩,⟨none,.st 3 (.t 2) (.t 13),none⟩])
 (.ret)))
def i75:IFn:=⟨1,14,c75,[.c 2 true 3],.pure⟩
def b76_0:IR:=
 .seq (.seq (.reg none [⟨some 49,.mov (.t 5),none⟩,⟨some 50,.faddr 3 (.t 1),none⟩,⟨some 51,.ld false 1 (.t 50),none⟩,⟨some 52,.lenf (.t 51),none⟩,⟨some 53,.bin .lt (.t 49) (.t 52),none⟩])
 (.lv [1,5,53] (.cond (.t 53) (.skip)
 (.exit 0))))
 (.lv [1,5] (.seq (.block 1 (.seq (.reg none [⟨some 56,.faddr 3 (.t 1),none⟩,⟨some 57,.ld false 1 (.t 56),none⟩,⟨some 58,.mov (.t 5),none⟩,⟨some 59,.iaddrf 3 (.t 57) (.t 58),none⟩,⟨some 60,.ldf true 3 (.t 59),none⟩,⟨some 61,.callP 120 [.t 60],none⟩,⟨some 62,.not (.t 61),none⟩])
 (.lv [1,5,62] (.cond (.t 62) (.lv [] (.seq (.reg none [⟨some 2,.mov (.k (.bool false)),none⟩])
 (.ret)))
 (.skip)))))
 (.lv [1,5] (.reg none [⟨some 54,.mov (.t 5),none⟩,⟨some 55,.bin .add (.t 54) (.k (.int .i64 1)),none⟩,⟨some 5,.mov (.t 55),none⟩]))))
def k76_0:IR:=
 .seq (.reg none [⟨some 2,.mov (.k (.bool true)),none⟩])
 (.ret)
def c76:IR:=
 .seq (.reg none [⟨some 1,.box 26 4 (.t 0),none⟩,⟨some 2,.mov (.k (.bool false)),none⟩])
 (.lv [1] (.seq (.reg none [⟨some 7,.faddr 0 (.t 1),none⟩,⟨some 8,.ld false 1 (.t 7),none⟩,⟨some 9,.callP 119 [.t 8],none⟩,⟨some 6,.mov (.t 9),none⟩,⟨some 10,.ext (.t 6) 0,none⟩,⟨some 11,.ext (.t 6) 1,none⟩,⟨some 3,.mov (.t 10),none⟩,⟨some 4,.mov (.t 11),none⟩])
 (.lv [1,3,4] (.seq (.seq (.reg none [⟨some 12,.mov (.t 4),none⟩,⟨some 13,.not (.t 12),none⟩,⟨some 14,.mov (.t 13),none⟩,⟨some 15,.faddr 1 (.t 1),(some (14,false))⟩,⟨some 16,.ld false 1 (.t 15),(some (14,false))⟩,⟨some 17,.mov (.t 16),(some (14,false))⟩,⟨some 18,.faddr 2 (.t 1),(some (17,true))⟩,⟨some 19,.ld false 1 (.t 18),(some (17,true))⟩,⟨some 20,.lenf (.t 19),(some (17,true))⟩,⟨some 21,.mov (.t 3),(some (17,true))⟩,⟨some 22,.bin .ne (.t 20) (.t 21),(some (17,true))⟩,⟨some 23,.mov (.t 22),(some (17,true))⟩,⟨some 24,.faddr 3 (.t 1),(some (23,false))⟩,⟨some 25,.ld false 1 (.t 24),(some (23,false))⟩,⟨some 26,.lenf (.t 25),(some (23,false))⟩,⟨some 27,.bin .ne (.t 26) (.k (.int .i64 0)),(some (23,false))⟩,⟨some 28,.pick (.t 23) (.k (.bool true)) (.t 27),(some (17,true))⟩,⟨some 29,.pick (.t 17) (.t 28) (.k (.bool false)),(some (14,false))⟩,⟨some 30,.pick (.t 14) (.k (.bool true)) (.t 29),none⟩,⟨some 31,.mov (.t 30),none⟩,⟨some 32,.faddr 1 (.t 1),(some (31,false))⟩,⟨some 33,.ld false 1 (.t 32),(some (31,false))⟩,⟨some 34,.not (.t 33),(some (31,false))⟩,⟨some 35,.mov (.t 34),(some (31,false))⟩,⟨some 36,.faddr 3 (.t 1),(some (35,true))⟩,⟨some 37,.ld false 1 (.t 36),(some (35,true))⟩,⟨some 38,.lenf (.t 37),(some (35,true))⟩,⟨some 39,.mov (.t 3),(some (35,true))⟩,⟨some 40,.bin .ne (.t 38) (.t 39),(some (35,true))⟩,⟨some 41,.mov (.t 40),(some (35,true))⟩,⟨some 42,.faddr 2 (.t 1),(some (41,false))⟩,⟨some 43,.ld false 1 (.t 42),(some (41,false))⟩,⟨some 44,.lenf (.t 43),(some (41,false))⟩,⟨some 45,.bin .ne (.t 44) (.k (.int .i64 0)),(some (41,false))⟩,⟨some 46,.pick (.t 41) (.k (.bool true)) (.t 45),(some (35,true))⟩,⟨some 47,.pick (.t 35) (.t 46) (.k (.bool false)),(some (31,false))⟩,⟨some 48,.pick (.t 31) (.k (.bool true)) (.t 47),none⟩])
 (.lv [1,48] (.cond (.t 48) (.lv [] (.seq (.reg none [⟨some 2,.mov (.k (.bool false)),none⟩])
 (.ret)))
 (.skip))))
 (.lv [1] (.seq (.seq (.reg none [⟨some 5,.mov (.k (.int .i64 0)),none⟩])
 (.lv [1,5] (.block 0 (.loop [1,5] (some (1,[])) b76_0))))
 k76_0))))))
def i76:IFn:=⟨1,63,c76,[.t 2],.pure⟩
def c77:IR:=
 .seq (.reg none [⟨some 1,.box 31 5 (.t 0),none⟩,⟨some 2,.newnil 3 1,none⟩,⟨some 3,.mov (.k (.int .i64 0)),none⟩])
 (.lv [1] (.seq (.seq (.reg none [⟨some 6,.ld true 5 (.t 1),none⟩,⟨some 7,.callP 38 [.t 6],none⟩,⟨some 8,.bin .gt (.t 7) (.k (.int .i64 1)),none⟩])
 (.lv [1,8] (.cond (.t 8) (.lv [] (.seq (.reg none [⟨some 2,.newnil 3 1,none⟩,⟨some 3,.mov (.k (.int .i64 23)),none⟩])
 (.ret)))
 (.skip))))
 (.lv [1] (.seq (.reg none [⟨some 10,.ld true 5 (.t 1),none⟩,⟨some 11,.callO 22 [.t 10],none⟩,⟨some 9,.mov (.t 11),none⟩,⟨some 12,.ext (.t 9) 0,none⟩,⟨some 13,.ext (.t 9) 1,none⟩,⟨some 4,.mov (.t 12),none⟩,⟨some 5,.mov (.t 13),none⟩])
 (.lv [4,5] (.seq (.seq (.reg none [⟨some 14,.mov (.t 5),none⟩,⟨some 15,.not (.t 14),none⟩])
 (.lv [4,15] (.cond (.t 15) (.lv [] (.seq (.reg none [⟨some 2,.newnil 3 1,none⟩,⟨some 3,.mov (.k (.int .i64 22)),none⟩])
 (.ret)))
 (.skip))))
 (.lv [4] (.seq (.reg none [⟨some 16,.mov (.t 4),none⟩,⟨some 2,.mov (.t 16),none⟩,⟨some 3,.mov (.k (.int .i64 0)),none⟩])
 (.ret)))))))))
def i77:IFn:=⟨1,17,c77,[.t 2,.t 3],.own⟩
def b78_0:IR:=
 .seq (.reg none [⟨some 14,.bin .lt (.t 13) (.t 12),none⟩])
 (.lv [4,5,11,12,13,14] (.seq (.cond (.t 14) (.skip)
 (.exit 0))
 (.lv [4,5,11,12,13] (.seq (.block 1 (.seq (.reg none [⟨some 15,.iaddrf 1 (.t 11) (.t 13),none⟩,⟨some 16,.ldf false 1 (.t 15),none⟩,⟨some 7,.mov (.t 16),none⟩])
 (.lv [4,5,7,11,12,13] (.seq (.seq (.reg none [⟨some 17,.mov (.t 7),none⟩,⟨some 18,.bin .lt (.t 17) (.k (.int .i64 0)),none⟩,⟨some 19,.mov (.t 18),none⟩,⟨some 20,.mov (.t 7),(some (19,false))⟩,⟨some 21,.mov (.t 4),(some (19,false))⟩,⟨some 22,.bin .quo (.k (.int .i64 4096)) (.t 21),(some (19,false))⟩,⟨some 23,.bin .gt (.t 20) (.t 22),(some (19,false))⟩,⟨some 24,.pick (.t 19) (.k (.bool true)) (.t 23),none⟩])
 (.lv [4,5,7,11,12,13,24] (.cond (.t 24) (.lv [] (.seq (.reg none [⟨some 2,.mov (.k (.int .i64 0)),none⟩,⟨some 3,.mov (.k (.bool false)),none⟩])
 (.ret)))
 (.skip))))
 (.lv [4,5,7,11,12,13] (.seq (.reg none [⟨some 25,.mov (.t 5),none⟩,⟨some 26,.mov (.t 25),none⟩,⟨some 27,.mov (.t 7),(some (26,false))⟩,⟨some 28,.bin .eq (.t 27) (.k (.int .i64 0)),(some (26,false))⟩,⟨some 29,.pick (.t 26) (.k (.bool true)) (.t 28),none⟩,⟨some 5,.mov (.t 29),none⟩])
 (.lv [4,5,7,11,12,13] (.reg none [⟨some 30,.mov (.t 4),none⟩,⟨some 31,.mov (.t 7),none⟩,⟨some 32,.mx (.k (.int .i64 1)) (.t 31),none⟩,⟨some 33,.bin .mul (.t 30) (.t 32),none⟩,⟨some 4,.mov (.t 33),none⟩]))))))))
 (.lv [4,5,11,12,13] (.reg none [⟨some 34,.bin .add (.t 13) (.k (.int .i64 1)),none⟩,⟨some 13,.mov (.t 34),none⟩]))))))
def k78_0:IR:=
 .seq (.seq (.reg none [⟨some 35,.mov (.t 5),none⟩])
 (.lv [4,35] (.cond (.t 35) (.lv [] (.reg none [⟨some 4,.mov (.k (.int .i64 0)),none⟩]))
 (.skip))))
 (.lv [4] (.seq (.reg none [⟨some 36,.mov (.t 4),none⟩,⟨some 2,.mov (.t 36),none⟩,⟨some 3,.mov (.k (.bool true)),none⟩])
 (.ret)))
def c78:IR:=
 .seq (.reg none [⟨some 2,.mov (.k (.int .i64 0)),none⟩,⟨some 3,.mov (.k (.bool false)),none⟩])
 (.lv [0] (.seq (.seq (.reg none [⟨some 8,.mov (.t 0),none⟩,⟨some 9,.lenf (.t 8),none⟩,⟨some 10,.bin .gt (.t 9) (.k (.int .i64 8)),none⟩])
 (.lv [0,10] (.cond (.t 10) (.lv [] (.seq (.reg none [⟨some 2,.mov (.k (.int .i64 0)),none⟩,⟨some 3,.mov (.k (.bool false)),none⟩])
 (.ret)))
 (.skip))))
 (.lv [0] (.seq (.reg none [⟨some 4,.mov (.k (.int .i64 1)),none⟩,⟨some 5,.mov (.k (.bool false)),none⟩])
 (.lv [0,4,5] (.seq (.seq (.reg none [⟨some 11,.mov (.t 0),none⟩,⟨some 12,.lenf (.t 11),none⟩,⟨some 13,.mov (.k (.int .i64 0)),none⟩])
 (.lv [4,5,11,12,13] (.block 0 (.loop [4,5,11,12,13] (some (0,[])) b78_0))))
 k78_0))))))
def i78:IFn:=⟨1,37,c78,[.t 2,.t 3],.pure⟩
def c79:IR:=
 .seq (.reg none [⟨some 3,.box 31 5 (.t 0),none⟩,⟨some 6,.alloc 31 [.nilsl 3 1,.bool false,.nilsl 21 1,.nilsl 57 3,.bool false],none⟩,⟨some 7,.mov (.k (.int .i64 0)),none⟩])
 (.lv [1,2,3,6] (.seq (.reg none [⟨some 11,.ld true 5 (.t 3),none⟩,⟨some 12,.mov (.t 1),none⟩,⟨some 13,.mov (.t 2),none⟩,⟨some 14,.callP 115 [.t 11,.t 12,.t 13],none⟩,⟨some 10,.mov (.t 14),none⟩,⟨some 15,.ext (.t 10) 0,none⟩,⟨some 16,.ext (.t 10) 1,none⟩,⟨some 8,.alloc 31 [.nilsl 3 1,.bool false,.nilsl 21 1,.nilsl 57 3,.bool false],none⟩,⟨none,.st 5 (.t 8) (.t 15),none⟩,⟨some 9,.mov (.t 16),none⟩])
 (.lv [6,8,9] (.seq (.seq (.reg none [⟨some 17,.mov (.t 9),none⟩,⟨some 18,.not (.t 17),none⟩])
 (.lv [6,8,18] (.cond (.t 18) (.lv [6] (.seq (.reg none [⟨some 19,.build [.nilsl 3 1,.bool false,.nilsl 21 1,.nilsl 57 3,.bool false] [],none⟩,⟨none,.st 5 (.t 6) (.t 19),none⟩,⟨some 7,.mov (.k (.int .i64 26)),none⟩])
 (.ret)))
 (.skip))))
 (.lv [6,8] (.seq (.reg none [⟨some 20,.ld true 5 (.t 8),none⟩,⟨none,.st 5 (.t 6) (.t 20),none⟩,⟨some 7,.mov (.k (.int .i64 0)),none⟩])
 (.ret)))))))
def i79:IFn:=⟨3,21,c79,[.c 6 true 5,.t 7],.pure⟩
def c80:IR:=
 .seq (.reg none [⟨some 1,.box 57 3 (.t 0),none⟩,⟨some 2,.alloc 31 [.nilsl 3 1,.bool false,.nilsl 21 1,.nilsl 57 3,.bool false],none⟩])
 (.lv [1,2] (.seq (.reg none [⟨some 3,.ld true 3 (.t 1),none⟩,⟨some 4,.bsl 57 3 [.t 3],none⟩,⟨some 5,.build [.nilsl 3 1,.bool false,.nilsl 21 1,.nilsl 57 3,.bool false] [(0,1,.k (.nilsl 3 1)),(1,1,.k (.bool false)),(2,1,.k (.nilsl 21 1)),(3,1,.t 4),(4,1,.k (.bool true))],none⟩,⟨none,.st 5 (.t 2) (.t 5),none⟩])
 (.ret)))
def i80:IFn:=⟨1,6,c80,[.c 2 true 5],.pure⟩
def c81:IR:=
 .seq (.reg none [⟨some 2,.alloc 114 [.bool false,.str ⟨#[]⟩],none⟩])
 (.lv [0,2] (.seq (.seq (.reg none [⟨some 3,.mov (.t 0),none⟩,⟨some 4,.bin .lt (.t 3) (.k (.int .i64 0)),none⟩])
 (.lv [0,2,4] (.cond (.t 4) (.lv [0,2] (.seq (.reg none [⟨some 5,.mov (.t 0),none⟩,⟨some 6,.bin .add (.t 5) (.k (.int .i64 1)),none⟩,⟨some 7,.bin .sub (.k (.int .i64 0)) (.t 6),none⟩,⟨some 8,.conv .u64 (.t 7),none⟩,⟨some 9,.bin .add (.t 8) (.k (.int .u64 1)),none⟩,⟨some 10,.callP 121 [.t 9],none⟩,⟨some 11,.build [.bool false,.str ⟨#[]⟩] [(0,1,.k (.bool true)),(1,1,.t 10)],none⟩,⟨none,.st 2 (.t 2) (.t 11),none⟩])
 (.ret)))
 (.skip))))
 (.lv [0,2] (.seq (.reg none [⟨some 12,.mov (.t 0),none⟩,⟨some 13,.conv .u64 (.t 12),none⟩,⟨some 14,.callP 121 [.t 13],none⟩,⟨some 15,.build [.bool false,.str ⟨#[]⟩] [(0,1,.k (.bool false)),(1,1,.t 14)],none⟩,⟨none,.st 2 (.t 2) (.t 15),none⟩])
 (.ret)))))
def i81:IFn:=⟨1,16,c81,[.c 2 true 2],.pure⟩
def b82_0:IR:=
 .seq (.reg none [⟨some 10,.bin .lt (.t 9) (.t 8),none⟩])
 (.lv [2,4,7,8,9,10] (.seq (.cond (.t 10) (.skip)
 (.exit 0))
 (.lv [2,4,7,8,9] (.seq (.block 1 (.seq (.reg none [⟨some 11,.iaddrf 3 (.t 7) (.t 9),none⟩,⟨some 12,.ldf true 3 (.t 11),none⟩,⟨some 6,.alloc 57 [.nilsl 162 1,.bool false,.nilsl 162 1],none⟩,⟨none,.st 3 (.t 6) (.t 12),none⟩])
 (.lv [2,4,6,7,8,9] (.reg (some [0,1,2,6,7,8,14,16,3,4,5,9,10,11,12,13,15,17,18,19,20,21,22,23,24]) [⟨some 14,.faddr 0 (.t 2),none⟩,⟨some 15,.ld true 2 (.t 14),none⟩,⟨some 16,.ld true 3 (.t 6),none⟩,⟨some 20,.faddr 0 (.t 6),none⟩,⟨some 21,.ld true 2 (.t 20),none⟩,⟨some 22,.ld true 3 (.t 2),none⟩,⟨some 28,.ld true 3 (.t 2),none⟩,⟨some 30,.ld true 3 (.t 6),none⟩,⟨some 17,.callF 67 [.t 16],none⟩,⟨some 18,.bsl 55 2 [.t 17],none⟩,⟨some 19,.callF 66 [.t 15,.t 18],none⟩,⟨some 23,.callP 67 [.t 22],none⟩,⟨some 24,.bsl 55 2 [.t 23],none⟩,⟨some 25,.callF 66 [.t 21,.t 24],none⟩,⟨some 26,.bsl 55 2 [.t 25],none⟩,⟨some 27,.callF 123 [.t 19,.t 26],none⟩,⟨some 29,.callP 67 [.t 28],none⟩,⟨some 31,.callF 67 [.t 30],none⟩,⟨some 32,.bsl 55 2 [.t 31],none⟩,⟨some 33,.callF 66 [.t 29,.t 32],none⟩,⟨some 34,.callP 122 [.t 27,.t 33],none⟩,⟨some 13,.mov (.t 34),none⟩,⟨some 35,.ext (.t 13) 0,none⟩,⟨some 36,.ext (.t 13) 1,none⟩,⟨none,.st 3 (.t 2) (.t 35),none⟩]))))
 (.lv [2,4,7,8,9] (.reg none [⟨some 37,.bin .add (.t 9) (.k (.int .i64 1)),none⟩,⟨some 9,.mov (.t 37),none⟩]))))))
def k82_0:IR:=
 .seq (.reg none [⟨some 38,.ld true 3 (.t 2),none⟩,⟨none,.st 3 (.t 4) (.t 38),none⟩])
 (.ret)
def c82:IR:=
 .seq (.reg none [⟨some 2,.box 57 3 (.t 0),none⟩,⟨some 4,.alloc 57 [.nilsl 162 1,.bool false,.nilsl 162 1],none⟩])
 (.lv [1,2,4] (.seq (.seq (.reg none [⟨some 7,.mov (.t 1),none⟩,⟨some 8,.lenf (.t 7),none⟩,⟨some 9,.mov (.k (.int .i64 0)),none⟩])
 (.lv [2,4,7,8,9] (.block 0 (.loop [2,4,7,8,9] (some (4,[])) b82_0))))
 k82_0))
def i82:IFn:=⟨2,39,c82,[.c 4 true 3],.pure⟩
def b83_0:IR:=
 .seq (.reg none [⟨some 10,.bin .lt (.t 9) (.t 8),none⟩])
 (.lv [2,4,7,8,9,10] (.seq (.cond (.t 10) (.skip)
 (.exit 0))
 (.lv [2,4,7,8,9] (.seq (.block 1 (.seq (.reg none [⟨some 11,.iaddrf 3 (.t 7) (.t 9),none⟩,⟨some 12,.ldf true 3 (.t 11),none⟩,⟨some 6,.alloc 57 [.nilsl 162 1,.bool false,.nilsl 162 1],none⟩,⟨none,.st 3 (.t 6) (.t 12),none⟩])
 (.lv [2,4,6,7,8,9] (.reg (some [0,1,2,3,6,8,4,5,7,9,10,11,12,13,14,15,16]) [⟨some 14,.faddr 0 (.t 2),none⟩,⟨some 15,.ld true 2 (.t 14),none⟩,⟨some 16,.faddr 0 (.t 6),none⟩,⟨some 17,.ld true 2 (.t 16),none⟩,⟨some 20,.ld true 3 (.t 2),none⟩,⟨some 22,.ld true 3 (.t 6),none⟩,⟨some 18,.bsl 55 2 [.t 17],none⟩,⟨some 19,.callF 66 [.t 15,.t 18],none⟩,⟨some 21,.callP 67 [.t 20],none⟩,⟨some 23,.callF 67 [.t 22],none⟩,⟨some 24,.bsl 55 2 [.t 23],none⟩,⟨some 25,.callF 66 [.t 21,.t 24],none⟩,⟨some 26,.callP 122 [.t 19,.t 25],none⟩,⟨some 13,.mov (.t 26),none⟩,⟨some 27,.ext (.t 13) 0,none⟩,⟨some 28,.ext (.t 13) 1,none⟩,⟨none,.st 3 (.t 2) (.t 27),none⟩]))))
 (.lv [2,4,7,8,9] (.reg none [⟨some 29,.bin .add (.t 9) (.k (.int .i64 1)),none⟩,⟨some 9,.mov (.t 29),none⟩]))))))
def k83_0:IR:=
 .seq (.reg none [⟨some 30,.ld true 3 (.t 2),none⟩,⟨none,.st 3 (.t 4) (.t 30),none⟩])
 (.ret)
def c83:IR:=
 .seq (.reg none [⟨some 2,.box 57 3 (.t 0),none⟩,⟨some 4,.alloc 57 [.nilsl 162 1,.bool false,.nilsl 162 1],none⟩])
 (.lv [1,2,4] (.seq (.seq (.reg none [⟨some 7,.mov (.t 1),none⟩,⟨some 8,.lenf (.t 7),none⟩,⟨some 9,.mov (.k (.int .i64 0)),none⟩])
 (.lv [2,4,7,8,9] (.block 0 (.loop [2,4,7,8,9] (some (4,[])) b83_0))))
 k83_0))
def i83:IFn:=⟨2,31,c83,[.c 4 true 3],.pure⟩
def c84:IR:=
 .seq (.reg none [⟨some 1,.box 57 3 (.t 0),none⟩,⟨some 2,.mov (.k (.int .i64 0)),none⟩])
 (.lv [1] (.seq (.reg none [⟨some 3,.faddr 0 (.t 1),none⟩,⟨some 4,.ld true 2 (.t 3),none⟩,⟨some 5,.callP 124 [.t 4],none⟩,⟨some 2,.mov (.t 5),none⟩])
 (.ret)))
def i84:IFn:=⟨1,6,c84,[.t 2],.pure⟩
def c85:IR:=
 .seq (.reg none [⟨some 2,.box 57 3 (.t 0),none⟩,⟨some 3,.box 57 3 (.t 1),none⟩,⟨some 4,.alloc 57 [.nilsl 162 1,.bool false,.nilsl 162 1],none⟩,⟨some 5,.mov (.k (.bool false)),none⟩])
 (.lv [2,3,4] (.seq (.reg (some [0,1,2,3,4,5,6,7,8,9,10,11,12,13,14,15,16]) [⟨some 6,.faddr 0 (.t 2),none⟩,⟨some 7,.ld true 2 (.t 6),none⟩,⟨some 8,.ld true 3 (.t 3),none⟩,⟨some 9,.callP 67 [.t 8],none⟩,⟨some 10,.bslF 55 2 [.t 9],none⟩,⟨some 11,.callP 66 [.t 7,.t 10],none⟩,⟨some 12,.ld true 3 (.t 2),none⟩,⟨some 13,.callP 67 [.t 12],none⟩,⟨some 14,.faddr 0 (.t 3),none⟩,⟨some 15,.ld true 2 (.t 14),none⟩,⟨some 16,.bslF 55 2 [.t 15],none⟩,⟨some 17,.callP 66 [.t 13,.t 16],none⟩,⟨some 18,.callP 122 [.t 11,.t 17],none⟩,⟨some 19,.ext (.t 18) 0,none⟩,⟨some 20,.ext (.t 18) 1,none⟩,⟨none,.st 3 (.t 4) (.t 19),none⟩,⟨some 5,.mov (.t 20),none⟩])
 (.ret)))
def i85:IFn:=⟨2,21,c85,[.c 4 true 3,.t 5],.pure⟩
def b86_0:IR:=
 .seq (.reg none [⟨some 10,.bin .lt (.t 9) (.t 8),none⟩])
 (.lv [0,1,5,8,9,10] (.seq (.cond (.t 10) (.skip)
 (.exit 0))
 (.lv [0,1,5,8,9] (.seq (.block 1 (.seq (.reg none [⟨some 11,.mov (.t 9),none⟩,⟨some 6,.mov (.t 11),none⟩])
 (.lv [0,1,5,6,8,9] (.reg (some [0,1,2,3,4,5,6,7,8,9,10,11,12,13,14,15,16,17]) [⟨some 12,.mov (.t 0),none⟩,⟨some 13,.mov (.t 6),none⟩,⟨some 14,.mov (.t 0),none⟩,⟨some 15,.mov (.t 6),none⟩,⟨some 16,.iaddr 3 (.t 14) (.t 15),none⟩,⟨some 17,.ld true 3 (.t 16),none⟩,⟨some 18,.mov (.t 1),none⟩,⟨some 19,.mov (.t 6),none⟩,⟨some 20,.iaddr 3 (.t 18) (.t 19),none⟩,⟨some 21,.ld true 3 (.t 20),none⟩,⟨some 22,.ld true 3 (.t 5),none⟩,⟨some 23,.bslF 57 3 [.t 22],none⟩,⟨some 24,.callP 83 [.t 21,.t 23],none⟩,⟨some 25,.callP 125 [.t 24],none⟩,⟨some 26,.bslF 57 3 [.t 25],none⟩,⟨some 27,.callP 82 [.t 17,.t 26],none⟩,⟨some 28,.iaddr 3 (.t 12) (.t 13),none⟩,⟨none,.st 3 (.t 28) (.t 27),none⟩]))))
 (.lv [0,1,5,8,9] (.reg none [⟨some 29,.bin .add (.t 9) (.k (.int .i64 1)),none⟩,⟨some 9,.mov (.t 29),none⟩]))))))
def c86:IR:=
 .seq (.reg none [⟨some 5,.box 57 3 (.t 2),none⟩])
 (.lv [0,1,5] (.seq (.reg none [⟨some 7,.mov (.t 0),none⟩,⟨some 8,.len (.t 7),none⟩,⟨some 9,.mov (.k (.int .i64 0)),none⟩])
 (.lv [0,1,5,8,9] (.block 0 (.loop [0,1,5,8,9] none b86_0)))))
def i86:IFn:=⟨3,30,c86,[],.ref⟩
def c87:IR:=
 .seq (.reg none [⟨some 1,.box 57 3 (.t 0),none⟩,⟨some 2,.mov (.k (.int .i64 0)),none⟩])
 (.lv [1] (.seq (.reg (some [0,1,2,3,4,5,6,7,8]) [⟨some 3,.faddr 0 (.t 1),none⟩,⟨some 4,.faddr 0 (.t 3),none⟩,⟨some 5,.ld true 1 (.t 4),none⟩,⟨some 6,.callP 126 [.t 5],none⟩,⟨some 7,.ld true 3 (.t 1),none⟩,⟨some 8,.callP 111 [.t 7],none⟩,⟨some 9,.callP 126 [.t 8],none⟩,⟨some 10,.mx (.t 6) (.t 9),none⟩,⟨some 2,.mov (.t 10),none⟩])
 (.ret)))
def i87:IFn:=⟨1,11,c87,[.t 2],.pure⟩
def c88:IR:=
 .seq (.reg none [⟨some 4,.alloc 31 [.nilsl 3 1,.bool false,.nilsl 21 1,.nilsl 57 3,.bool false],none⟩,⟨some 5,.mov (.k (.bool false)),none⟩])
 (.lv [0,1,4] (.seq (.reg none [⟨some 9,.mov (.t 0),none⟩,⟨some 10,.callP 78 [.t 9],none⟩,⟨some 8,.mov (.t 10),none⟩,⟨some 11,.ext (.t 8) 0,none⟩,⟨some 12,.ext (.t 8) 1,none⟩,⟨some 6,.mov (.t 11),none⟩,⟨some 7,.mov (.t 12),none⟩])
 (.lv [0,1,4,6,7] (.seq (.seq (.reg none [⟨some 13,.mov (.t 7),none⟩,⟨some 14,.not (.t 13),none⟩,⟨some 15,.mov (.t 14),none⟩,⟨some 16,.mov (.t 6),(some (15,false))⟩,⟨some 17,.mov (.t 1),(some (15,false))⟩,⟨some 18,.lenf (.t 17),(some (15,false))⟩,⟨some 19,.bin .ne (.t 16) (.t 18),(some (15,false))⟩,⟨some 20,.pick (.t 15) (.k (.bool true)) (.t 19),none⟩])
 (.lv [0,1,4,20] (.cond (.t 20) (.lv [4] (.seq (.reg none [⟨some 21,.build [.nilsl 3 1,.bool false,.nilsl 21 1,.nilsl 57 3,.bool false] [],none⟩,⟨none,.st 5 (.t 4) (.t 21),none⟩,⟨some 5,.mov (.k (.bool false)),none⟩])
 (.ret)))
 (.skip))))
 (.lv [0,1,4] (.seq (.reg none [⟨some 22,.mov (.t 0),none⟩,⟨some 23,.callO 89 [.t 22],none⟩,⟨some 24,.mov (.t 1),none⟩,⟨some 25,.callO 127 [.t 24],none⟩,⟨some 26,.build [.nilsl 3 1,.bool false,.nilsl 21 1,.nilsl 57 3,.bool false] [(0,1,.t 23),(1,1,.k (.bool false)),(2,1,.k (.nilsl 21 1)),(3,1,.t 25),(4,1,.k (.bool true))],none⟩,⟨none,.st 5 (.t 4) (.t 26),none⟩,⟨some 5,.mov (.k (.bool true)),none⟩])
 (.ret)))))))
def i88:IFn:=⟨2,27,c88,[.c 4 true 5,.t 5],.pure⟩
end Go.Proofs.YtlejgleocnemoabGreat.I
