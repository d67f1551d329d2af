/- Part 7 of the proof: see its last file. -/
import Derived.Orders
import Derived.Below
import Derived.Laws.Entries
import Derived.Laws.Cells
import Derived.Laws.IdiomCopy
import Derived.Scope
import Derived.Calls
import Derived.Laws.Tables
import Derived.Laws.MakeOwn
import Derived.Laws.BytesString
import Derived.ArgAppend
import Derived.WalkSpells
import Derived.Lib.SlBytesConst
import Derived.Lib.ConvBytes
import Derived.WalkKit
import Derived.ProofKit
import Derived.OpenShut
import Derived.ShutString
import Derived.ChangeOld
import Derived.Lib.SmallJoins
import Derived.Test.YtlcemfnjhdcmoaaProg
import Derived.KernelRfl
import Derived.IntWalk
import Derived.Lib.Strings
import Derived.Test.YtlcemfnjhdcmoaaWa06
set_option linter.unusedSimpArgs false
set_option linter.unusedVariables false
namespace Go.OT
open Go.Proofs
def c42_0:Cd:=(.seq (.reg [0,1,19,20] [.o [.build 20 [(.sc (.slice none 0 0)),(.sc (.slice none 0 0)),(.sc (.slice none 0 0))] [],.st 3 (.t 4) (.t 20)]]) .ret)
def c42_1:Cd:=(.cond (.t 19) c42_0 .skip)
def c42_2:Cd:=(.reg [33] [.o [.bin 33 .add (.t 25) (cI 1),.mov 25 (.t 33)]])
def c42_3:Cd:=(.seq (.block 1 (.draw [[],[0],[],[2],[1,3],[0,1,2,3,4],[5,4,4,0,1,2,3,4]] [26,27,28,29,30,31,32] [.o [.faddr 27 1 (.t 5),.ld 28 1 false (.t 27),.make 29 1 1 [(.sc (.int .u8 0))] (cI 16) (cI 16),.bs1 30 1 (.t 29),.app 31 1 24 (.t 28) (.t 30),.faddr 32 1 (.t 5),.st 1 (.t 32) (.t 31)]])) c42_2)
def c42_4:Cd:=(.seq (.cond (.t 26) .skip (.exit 0)) c42_3)
def c42_5:Cd:=(.seq (.reg [] [.o [.bin 26 .lss (.t 25) (.t 24)]]) c42_4)
def c42_6:Cd:=(.block 0 (.loop c42_5))
def c42_7:Cd:=(.reg [44] [.o [.bin 44 .add (.t 35) (cI 1),.mov 35 (.t 44)]])
def c42_8:Cd:=(.seq (.block 3 (.draw [[],[0],[],[2],[3],[1,4,3],[0,1,2,3,4,5],[6,5,5,0,1,2,3,4,5]] [36,37,38,39,40,41,42,43] [.o [.faddr 37 2 (.t 5),.ld 38 1 false (.t 37),.bs1 39 1 (cI (-1))],.call none 40 96 [(.t 39),(cI 6)],.o [.bs1 41 1 (.t 40),.app 42 1 24 (.t 38) (.t 41),.faddr 43 2 (.t 5),.st 1 (.t 43) (.t 42)]])) c42_7)
def c42_9:Cd:=(.seq (.cond (.t 36) .skip (.exit 2)) c42_8)
def c42_10:Cd:=(.seq (.reg [] [.o [.bin 36 .lss (.t 35) (.t 34)]]) c42_9)
def c42_11:Cd:=(.block 2 (.loop c42_10))
def c42_12:Cd:=(.seq (.reg [5,34,35,36,45] [.o [.ld 45 3 true (.t 5),.st 3 (.t 4) (.t 45)]]) .ret)
def c42_13:Cd:=(.seq (.seq (.reg [1,24,25,26] [.o [.mov 34 (.t 1),.mov 35 (cI 0)]]) c42_11) c42_12)
def c42_14:Cd:=(.seq (.seq (.reg [0] [.o [.mov 24 (.t 0),.mov 25 (cI 0)]]) c42_6) c42_13)
def c42_15:Cd:=(.seq (.reg [19,21,22,23] [.o [.mov 21 (.t 0),.make 22 1 1 [(.sc (.bool false))] (.t 21) (.t 21),.build 23 [(.sc (.slice none 0 0)),(.sc (.slice none 0 0)),(.sc (.slice none 0 0))] [(0,1,(.t 22))],.alloc 5 [(.sl true () 1 0 []),(.sl true () 1 0 []),(.sl true () 1 0 [])],.st 3 (.t 5) (.t 23)]]) c42_14)
def c42_16:Cd:=(.seq (.seq (.reg [6,7,8,9,10,11,12,13,14,15,16,17,18] [.o [.mov 6 (.t 0),.bin 7 .lss (.t 6) (cI 1),.mov 8 (.t 7)],.g 8 false [.mov 9 (.t 0),.bin 10 .gtr (.t 9) (cI 48)],.o [.pick 11 (.t 8) (cB true) (.t 10),.mov 12 (.t 11)],.g 12 false [.mov 13 (.t 1),.bin 14 .lss (.t 13) (cI 1)],.o [.pick 15 (.t 12) (cB true) (.t 14),.mov 16 (.t 15)],.g 16 false [.mov 17 (.t 1),.bin 18 .gtr (.t 17) (cI 6)],.o [.pick 19 (.t 16) (cB true) (.t 18)]]) c42_1) c42_15)
def fi42:FI:=⟨46,2,[.cell 4 3 true],(.seq (.reg [] [.o [.alloc 4 [(.sl true () 1 0 []),(.sl true () 1 0 []),(.sl true () 1 0 [])]]]) c42_16)⟩
theorem ok42:fiOk Try.prog 42 fi42:=⟨_,_,Try.func42,rfl,by kernel_rfl,by kernel_rfl,Try.call42⟩
def c44_0:Cd:=(.seq (.reg [1,3,5,23,24,25] [.o [.ld 24 3 true (.t 3),.build 25 [(.sc (.int .i64 0)),(.sc (.int .i64 0)),(.sc (.int .i64 0)),(.sc (.slice none 0 0))] [(0,1,(cI 1))],.st 3 (.t 6) (.t 24),.st 4 (.t 7) (.t 25)]]) .ret)
def c44_1:Cd:=(.cond (.t 23) c44_0 .skip)
def c44_2:Cd:=(.seq (.reg [3,8,9,33,34,35,36] [.o [.ld 34 3 true (.t 3),.mov 35 (.t 9),.build 36 [(.sc (.int .i64 0)),(.sc (.int .i64 0)),(.sc (.int .i64 0)),(.sc (.slice none 0 0))] [(0,1,(.t 35))],.st 3 (.t 6) (.t 34),.st 4 (.t 7) (.t 36)]]) .ret)
def c44_3:Cd:=(.cond (.t 33) c44_2 .skip)
def c44_4:Cd:=(.seq (.reg [32] [.o [.mov 32 (.t 9),.bin 33 .neq (.t 32) (cI 0)]]) c44_3)
def c44_5:Cd:=(.seq (.reg [3,8,9,33,37,38,39,40] [.o [.ld 37 10 true (.t 8)],.call none 38 99 [(.t 37)],.o [.ext 39 38 0,.ext 40 38 1,.st 3 (.t 6) (.t 39),.st 4 (.t 7) (.t 40)]]) .ret)
def c44_6:Cd:=(.seq (.seq (.reg [30,31] [.o [.ld 30 10 true (.t 8)],.call none 31 98 [(.t 30)],.o [.asg 9 (.t 31)]]) c44_4) c44_5)
def c44_7:Cd:=(.seq (.reg [1,5,23,26,27,28,29] [.o [.ld 26 3 true (.t 3),.mov 27 (.t 1),.ld 28 6 true (.t 5),.build 29 [(.sc (.slice none 0 0)),(.sc (.slice none 0 0)),(.sc (.slice none 0 0)),(.sc (.int .i64 0)),(.sc (.int .i64 0)),(.sc (.int .i64 0)),(.sc (.int .i64 0)),(.sc (.int .i64 0)),(.sc (.int .i64 0)),(.sc (.slice none 0 0))] [(0,3,(.t 26)),(3,1,(.t 27)),(4,6,(.t 28))],.alloc 8 [(.sl true () 1 0 []),(.sl true () 1 0 []),(.sl true () 1 0 []),(.sc (.int .i64 0)),(.sc (.int .i64 0)),(.sc (.int .i64 0)),(.sc (.int .i64 0)),(.sc (.int .i64 0)),(.sc (.int .i64 0)),(.sl true () 1 0 [])],.st 10 (.t 8) (.t 29)]]) c44_6)
def c44_8:Cd:=(.seq (.seq (.reg [10,11,12,13,14,15,16,17,18,19,20,21,22] [.o [.ld 10 3 true (.t 3)],.call none 11 97 [(.t 10)],.o [.un 12 .not (.t 11),.mov 13 (.t 12)],.g 13 false [.mov 14 (.t 1),.bin 15 .lss (.t 14) (cI 0)],.o [.pick 16 (.t 13) (cB true) (.t 15),.mov 17 (.t 16)],.g 17 false [.mov 18 (.t 1),.faddr 19 2 (.t 3),.ld 20 1 false (.t 19),.len 21 (.t 20),.bin 22 .geq (.t 18) (.t 21)],.o [.pick 23 (.t 17) (cB true) (.t 22)]]) c44_1) c44_7)
def fi44:FI:=⟨41,3,[.cell 6 3 true,.cell 7 4 true],(.seq (.reg [0,2] [.o [.box 3 (.t 0),.box 5 (.t 2),.alloc 6 [(.sl true () 1 0 []),(.sl true () 1 0 []),(.sl true () 1 0 [])],.alloc 7 [(.sc (.int .i64 0)),(.sc (.int .i64 0)),(.sc (.int .i64 0)),(.sl true () 1 0 [])]]]) c44_8)⟩
theorem ok44:fiOk Try.prog 44 fi44:=⟨_,_,Try.func44,rfl,by kernel_rfl,by kernel_rfl,Try.call44⟩
-- BAD 96 slices.Repeat[[]int,int] [0, 1, 0, 1]
def c96_0:Cd:=(.reg [10] [.bad,.bad])
def c96_1:Cd:=(.cond (.t 10) c96_0 .skip)
def c96_2:Cd:=(.reg [26] [.bad,.bad])
def c96_3:Cd:=(.cond (.t 26) c96_2 .skip)
def c96_4:Cd:=(.cond (.t 37) .skip (.exit 0))
def c96_5:Cd:=(.block 1 (.draw [[],[],[],[1,2],[],[],[4,5],[3,6],[0,7],[8,7,0,1,2,3,4,5,6,7,8]] [37,38,39,40,41,42,43,44,45,46] [.o [.mov 38 (.t 8),.mov 39 (.t 7),.mov 40 (.t 8),.slice 41 1 (.t 39) (some (.t 40)) none,.mov 42 (.t 7),.mov 43 (.t 8),.slice 44 1 (.t 42) none (some (.t 43)),.cpy 45 1 (.t 41) (.t 44),.bin 46 .add (.t 38) (.t 45),.asg 8 (.t 46)]]))
def c96_6:Cd:=(.seq (.seq (.reg [34,35,36] [.o [.mov 34 (.t 8),.mov 35 (.t 7),.len 36 (.t 35),.bin 37 .lss (.t 34) (.t 36)]]) c96_4) c96_5)
def c96_7:Cd:=(.seq (.reg [7,8,34,35,36,37,47] [.o [.mov 47 (.t 7),.asg 4 (.t 47)]]) .ret)
def c96_8:Cd:=(.seq (.block 0 (.loop c96_6)) c96_7)
def c96_9:Cd:=(.seq (.reg [0,31,32,33] [.o [.mov 31 (.t 7),.mov 32 (.t 0),.cpy 33 1 (.t 31) (.t 32),.asg 8 (.t 33)]]) c96_8)
def c96_10:Cd:=(.seq (.reg [6,26,28,29,30] [.o [.mov 28 (.t 6),.conv 29 .i64 (.t 28),.make 30 1 8 [(.sc (.int .i64 0))] (.t 29) (.t 29),.asg 7 (.t 30)]]) c96_9)
def c96_11:Cd:=(.seq (.seq (.reg [5,21,22,23,24,25] [.o [.mov 21 (.t 5),.bin 22 .gtr (.t 21) (.c (.sc (.int .u64 0))),.mov 23 (.t 22)],.g 23 false [.mov 24 (.t 6),.bin 25 .gtr (.t 24) (.c (.sc (.int .u64 9223372036854775807)))],.o [.pick 26 (.t 23) (cB true) (.t 25)]]) c96_3) c96_10)
def c96_12:Cd:=(.seq (.reg [1,10,13,14,15,16,17,18,12,19,20] [.o [.mov 13 (.t 0),.len 14 (.t 13),.conv 15 .u64 (.t 14),.mov 16 (.t 1),.conv 17 .u64 (.t 16)],.call none 18 140 [(.t 15),(.t 17)],.o [.mov 12 (.t 18),.ext 19 12 0,.ext 20 12 1,.asg 5 (.t 19),.asg 6 (.t 20)]]) c96_11)
def c96_13:Cd:=(.seq (.seq (.reg [9] [.o [.mov 9 (.t 1),.bin 10 .lss (.t 9) (cI 0)]]) c96_1) c96_12)
def fi96:FI:=⟨48,2,[.t 4],(.seq (.reg [4] [.o [.asg 4 (.c (.sl true () 1 0 []))]]) c96_13)⟩
theorem ok96:fiOk Try.prog 96 fi96:=⟨_,_,Try.func96,rfl,by kernel_rfl,by kernel_rfl,Try.call96⟩
def c97_0:Cd:=(.seq (.reg [1,35] [.o [.asg 2 (cB false)]]) .ret)
def c97_1:Cd:=(.cond (.t 35) c97_0 .skip)
def c97_2:Cd:=(.seq (.reg [1,37,38,39,60] [.o [.asg 2 (cB false)]]) .ret)
def c97_3:Cd:=(.cond (.t 60) c97_2 .skip)
def c97_4:Cd:=(.seq (.reg [5,6,44,45,46,47,48,49,50,51,52,53,54,55,56,57,58,59] [.o [.mov 44 (.t 6),.len 45 (.t 44),.bin 46 .neq (.t 45) (cI 16),.mov 47 (.t 46)],.g 47 false [.faddr 48 0 (.t 1),.ld 49 1 false (.t 48),.mov 50 (.t 5),.iaddr 51 1 (.t 49) (.t 50),.ld 52 1 false (.t 51),.un 53 .not (.t 52),.mov 54 (.t 53)],.g 54 true [.mov 55 (.t 6),.make 56 1 1 [(.sc (.int .u8 0))] (cI 16) (cI 16)],.call (some (54,true)) 57 102 [(.t 55),(.t 56)],.g 54 true [.un 58 .not (.t 57)],.g 47 false [.pick 59 (.t 54) (.t 58) (cB false)],.o [.pick 60 (.t 47) (cB true) (.t 59)]]) c97_3)
def c97_5:Cd:=(.reg [60,61] [.o [.bin 61 .add (.t 39) (cI 1),.mov 39 (.t 61)]])
def c97_6:Cd:=(.seq (.block 1 (.seq (.reg [40,41,42,43] [.o [.mov 41 (.t 39),.iaddr 42 1 (.t 37) (.t 39),.ld 43 1 false (.t 42),.asg 5 (.t 41),.asg 6 (.t 43)]]) c97_4)) c97_5)
def c97_7:Cd:=(.seq (.cond (.t 40) .skip (.exit 0)) c97_6)
def c97_8:Cd:=(.seq (.reg [] [.o [.bin 40 .lss (.t 39) (.t 38)]]) c97_7)
def c97_9:Cd:=(.block 0 (.loop c97_8))
def c97_10:Cd:=(.seq (.reg [1,63,64,65,76] [.o [.asg 2 (cB false)]]) .ret)
def c97_11:Cd:=(.cond (.t 76) c97_10 .skip)
def c97_12:Cd:=(.seq (.reg [8,69,70,71,72,73,74,75] [.o [.mov 69 (.t 8),.len 70 (.t 69),.bin 71 .neq (.t 70) (cI 6),.mov 72 (.t 71)],.g 72 false [.mov 73 (.t 8),.mkf 74 142 [(.t 1)]],.call (some (72,false)) 75 141 [(.t 73),(.t 74)],.o [.pick 76 (.t 72) (cB true) (.t 75)]]) c97_11)
def c97_13:Cd:=(.reg [76,77] [.o [.bin 77 .add (.t 65) (cI 1),.mov 65 (.t 77)]])
def c97_14:Cd:=(.seq (.block 3 (.seq (.reg [66,67,68] [.o [.iaddr 67 1 (.t 63) (.t 65),.ld 68 1 false (.t 67),.asg 8 (.t 68)]]) c97_12)) c97_13)
def c97_15:Cd:=(.seq (.cond (.t 66) .skip (.exit 2)) c97_14)
def c97_16:Cd:=(.seq (.reg [] [.o [.bin 66 .lss (.t 65) (.t 64)]]) c97_15)
def c97_17:Cd:=(.block 2 (.loop c97_16))
def c97_18:Cd:=(.seq (.reg [1,63,64,65,66] [.o [.asg 2 (cB true)]]) .ret)
def c97_19:Cd:=(.seq (.seq (.reg [37,38,39,40,62] [.o [.faddr 62 2 (.t 1),.ld 63 1 false (.t 62),.len 64 (.t 63),.mov 65 (cI 0)]]) c97_17) c97_18)
def c97_20:Cd:=(.seq (.seq (.reg [35,36] [.o [.faddr 36 1 (.t 1),.ld 37 1 false (.t 36),.len 38 (.t 37),.mov 39 (cI 0)]]) c97_9) c97_19)
def c97_21:Cd:=(.seq (.seq (.reg [3,4,15,16,17,18,19,20,21,22,23,24,25,26,27,28,29,30,31,32,33,34] [.o [.mov 15 (.t 3),.bin 16 .lss (.t 15) (cI 1),.mov 17 (.t 16)],.g 17 false [.mov 18 (.t 3),.bin 19 .gtr (.t 18) (cI 48)],.o [.pick 20 (.t 17) (cB true) (.t 19),.mov 21 (.t 20)],.g 21 false [.faddr 22 1 (.t 1),.ld 23 1 false (.t 22),.len 24 (.t 23),.mov 25 (.t 3),.bin 26 .neq (.t 24) (.t 25)],.o [.pick 27 (.t 21) (cB true) (.t 26),.mov 28 (.t 27)],.g 28 false [.mov 29 (.t 4),.bin 30 .lss (.t 29) (cI 1)],.o [.pick 31 (.t 28) (cB true) (.t 30),.mov 32 (.t 31)],.g 32 false [.mov 33 (.t 4),.bin 34 .gtr (.t 33) (cI 6)],.o [.pick 35 (.t 32) (cB true) (.t 34)]]) c97_1) c97_20)
def c97_22:Cd:=(.seq (.draw [[],[0],[1],[],[3],[4],[2,0,1,2],[5,6,0,1,2,3,4,5,6]] [9,10,11,12,13,14] [.o [.faddr 9 0 (.t 1),.ld 10 1 false (.t 9),.len 11 (.t 10),.faddr 12 2 (.t 1),.ld 13 1 false (.t 12),.len 14 (.t 13),.asg 3 (.t 11),.asg 4 (.t 14)]]) c97_21)
def fi97:FI:=⟨78,1,[.t 2],(.seq (.reg [0,2] [.o [.box 1 (.t 0),.asg 2 (cB false)]]) c97_22)⟩
theorem ok97:fiOk Try.prog 97 fi97:=⟨_,_,Try.func97,rfl,by kernel_rfl,by kernel_rfl,Try.call97⟩
def c98_0:Cd:=(.seq (.reg [1,42] [.o [.asg 2 (cI 4)]]) .ret)
def c98_1:Cd:=(.cond (.t 42) c98_0 .skip)
def c98_2:Cd:=(.seq (.reg [47] [.o [.asg 2 (cI 3)]]) .ret)
def c98_3:Cd:=(.cond (.t 47) c98_2 .skip)
def c98_4:Cd:=(.seq (.reg [1,42,43,44,45,46] [.o [.faddr 43 0 (.t 1),.faddr 44 0 (.t 43),.ld 45 1 false (.t 44)],.call none 46 144 [(.t 45),(cB false)],.o [.un 47 .not (.t 46)]]) c98_3)
def c98_5:Cd:=(.seq (.seq (.reg [3,4,5,38,39,41] [.o [.mov 41 (.t 3),.un 42 .not (.t 41)]]) c98_1) c98_4)
def c98_6:Cd:=(.reg [51] [.o [.bin 51 .eql (.t 38) (cI 8),.asg 48 (.t 51)]])
def c98_7:Cd:=(.cond (.t 48) .skip c98_6)
def c98_8:Cd:=(.seq (.reg [50] [.o [.bin 50 .eql (.t 38) (cI 6),.asg 48 (.t 50)]]) c98_7)
def c98_9:Cd:=(.cond (.t 48) .skip c98_8)
def c98_10:Cd:=(.seq (.reg [1,3,5,52] [.o [.asg 2 (cI 1)]]) .ret)
def c98_11:Cd:=(.seq (.reg [1,3,55] [.o [.asg 2 (cI 2)]]) .ret)
def c98_12:Cd:=(.seq (.reg [1,58] [.o [.asg 2 (cI 4)]]) .ret)
def c98_13:Cd:=(.seq (.reg [67] [.o [.asg 2 (cI 7)]]) .ret)
def c98_14:Cd:=(.cond (.t 67) c98_13 .skip)
def c98_15:Cd:=(.seq (.reg [1,58,68,69,70,71,72,73,74,75,76,77,78,79,80] [.o [.faddr 68 4 (.t 1),.faddr 69 0 (.t 68),.ld 70 1 false (.t 69),.bin 71 .eql (.t 70) (cI 8),.mov 72 (.t 71)],.g 72 true [.faddr 73 0 (.t 1),.ld 74 3 true (.t 73),.faddr 75 4 (.t 1),.faddr 76 1 (.t 75),.ld 77 1 false (.t 76)],.call (some (72,true)) 78 145 [(.t 74),(.t 77)],.g 72 true [.bin 79 .gtr (.t 78) (cI 0)],.o [.pick 80 (.t 72) (.t 79) (cB false),.asg 67 (.t 80)]]) c98_14)
def c98_16:Cd:=(.cond (.t 58) c98_12 c98_15)
def c98_17:Cd:=(.seq (.reg [3,55,59,60,61,62,63,64,65,66] [.o [.faddr 59 4 (.t 1),.faddr 60 0 (.t 59),.ld 61 1 false (.t 60),.bin 62 .eql (.t 61) (cI 2),.mov 63 (.t 62)],.g 63 true [.mov 64 (.t 3),.un 65 .not (.t 64)],.o [.pick 66 (.t 63) (.t 65) (cB false),.asg 58 (.t 66)]]) c98_16)
def c98_18:Cd:=(.cond (.t 55) c98_11 c98_17)
def c98_19:Cd:=(.seq (.reg [5,52,56,57] [.o [.mov 56 (.t 5),.un 57 .not (.t 56),.asg 55 (.t 57)]]) c98_18)
def c98_20:Cd:=(.cond (.t 52) c98_10 c98_19)
def c98_21:Cd:=(.block 1 (.seq (.reg [4,38,48,53,54] [.o [.mov 53 (.t 4),.un 54 .not (.t 53),.asg 52 (.t 54)]]) c98_20))
def c98_22:Cd:=(.reg [84] [.o [.bin 84 .eql (.t 38) (cI 5),.asg 81 (.t 84)]])
def c98_23:Cd:=(.cond (.t 81) .skip c98_22)
def c98_24:Cd:=(.seq (.reg [83] [.o [.bin 83 .eql (.t 38) (cI 4),.asg 81 (.t 83)]]) c98_23)
def c98_25:Cd:=(.cond (.t 81) .skip c98_24)
def c98_26:Cd:=(.reg [94,95,96,97,98] [.o [.faddr 95 4 (.t 1),.faddr 96 5 (.t 95),.ld 97 1 false (.t 96),.len 98 (.t 97),.asg 7 (.t 98)]])
def c98_27:Cd:=(.cond (.t 94) c98_26 .skip)
def c98_28:Cd:=(.seq (.reg [1,7,99] [.o [.asg 2 (cI 5)]]) .ret)
def c98_29:Cd:=(.seq (.reg [119] [.o [.asg 2 (cI 6)]]) .ret)
def c98_30:Cd:=(.cond (.t 119) c98_29 .skip)
def c98_31:Cd:=(.seq (.reg [1,7,99,120,121,122,123,124,125,126,127,128,129,130,131,132,133,134,135,136,137,138,139,140,141,142,143,144,145,146,147] [.o [.faddr 120 4 (.t 1),.faddr 121 0 (.t 120),.ld 122 1 false (.t 121),.bin 123 .neq (.t 122) (cI 5),.mov 124 (.t 123)],.g 124 true [.faddr 125 4 (.t 1),.faddr 126 3 (.t 125),.ld 127 1 false (.t 126),.bin 128 .lss (.t 127) (cI 0),.mov 129 (.t 128)],.g 129 false [.mov 130 (.t 7),.bin 131 .lss (.t 130) (cI 0)],.g 124 true [.pick 132 (.t 129) (cB true) (.t 131),.mov 133 (.t 132)],.g 133 false [.faddr 134 4 (.t 1),.faddr 135 3 (.t 134),.ld 136 1 false (.t 135),.bin 137 .gtr (.t 136) (cI 16)],.g 124 true [.pick 138 (.t 133) (cB true) (.t 137),.mov 139 (.t 138)],.g 139 false [.mov 140 (.t 7),.faddr 141 4 (.t 1),.faddr 142 3 (.t 141),.ld 143 1 false (.t 142),.bin 144 .sub (cI 16) (.t 143),.bin 145 .gtr (.t 140) (.t 144)],.g 124 true [.pick 146 (.t 139) (cB true) (.t 145)],.o [.pick 147 (.t 124) (.t 146) (cB false),.asg 119 (.t 147)]]) c98_30)
def c98_32:Cd:=(.cond (.t 99) c98_28 c98_31)
def c98_33:Cd:=(.block 2 (.seq (.reg [6,94,100,101,102,103,104,105,106,107,108,109,110,111,112,113,114,115,116,117,118] [.o [.mov 100 (.t 6),.bin 101 .lss (.t 100) (cI 0),.mov 102 (.t 101)],.g 102 false [.mov 103 (.t 6),.bin 104 .geq (.t 103) (cI 6)],.o [.pick 105 (.t 102) (cB true) (.t 104),.mov 106 (.t 105)],.g 106 false [.faddr 107 0 (.t 1),.faddr 108 2 (.t 107),.ld 109 1 false (.t 108),.faddr 110 3 (.t 1),.ld 111 1 false (.t 110),.iaddr 112 1 (.t 109) (.t 111),.ld 113 1 false (.t 112),.mov 114 (.t 6),.iaddr 115 1 (.t 113) (.t 114),.ld 116 1 false (.t 115),.bin 117 .eql (.t 116) (cI (-1))],.o [.pick 118 (.t 106) (cB true) (.t 117),.asg 99 (.t 118)]]) c98_32))
def c98_34:Cd:=(.seq (.seq (.reg [91,92,93] [.o [.faddr 91 4 (.t 1),.faddr 92 0 (.t 91),.ld 93 1 false (.t 92),.bin 94 .eql (.t 93) (cI 4)]]) c98_27) c98_33)
def c98_35:Cd:=(.seq (.draw [[],[0],[1],[],[3],[4],[2,0,1,2],[5,6,0,1,2,3,4,5,6]] [38,81,85,86,87,88,89,90] [.o [.faddr 85 4 (.t 1),.faddr 86 2 (.t 85),.ld 87 1 false (.t 86),.faddr 88 4 (.t 1),.faddr 89 4 (.t 88),.ld 90 1 false (.t 89),.asg 6 (.t 87),.asg 7 (.t 90)]]) c98_34)
def c98_36:Cd:=(.seq (.reg [148] [.o [.asg 2 (cI 1)]]) .ret)
def c98_37:Cd:=(.cond (.t 148) .skip c98_36)
def c98_38:Cd:=(.seq (.reg [1,38,81,149] [.o [.bin 149 .eql (.t 38) (cI 7),.asg 148 (.t 149)]]) c98_37)
def c98_39:Cd:=(.cond (.t 81) c98_35 c98_38)
def c98_40:Cd:=(.seq (.seq (.reg [3,4,5,48,82] [.o [.bin 82 .eql (.t 38) (cI 3),.asg 81 (.t 82)]]) c98_25) c98_39)
def c98_41:Cd:=(.cond (.t 48) c98_21 c98_40)
def c98_42:Cd:=(.seq (.seq (.reg [39,49] [.o [.bin 49 .eql (.t 38) (cI 2),.asg 48 (.t 49)]]) c98_9) c98_41)
def c98_43:Cd:=(.cond (.t 39) c98_5 c98_42)
def c98_44:Cd:=(.block 0 (.seq (.reg [40] [.o [.bin 40 .eql (.t 38) (cI 1),.asg 39 (.t 40)]]) c98_43))
def c98_45:Cd:=(.seq (.reg [47,67,119,148] [.o [.asg 2 (cI 0)]]) .ret)
def c98_46:Cd:=(.seq (.seq (.reg [36,37] [.o [.faddr 36 4 (.t 1),.faddr 37 0 (.t 36),.ld 38 1 false (.t 37)]]) c98_44) c98_45)
def c98_47:Cd:=(.seq (.draw [[],[0],[1],[2],[3],[4],[5,4],[6,4],[4],[8,4],[9,4],[10,4],[7,11,4],[4,12],[],[14],[],[16],[17],[15,18,4],[13,19,0,1,2,3,4,5,6,7,8,9,10,11,12,13],[19,20,0,1,2,3,4,5,6,7,8,9,10,11,12,13,14,15,16,17,18,19,20]] [16,17,18,19,20,21,22,23,24,25,26,27,28,29,30,31,32,33,34,35] [.o [.faddr 16 4 (.t 1),.faddr 17 1 (.t 16),.ld 18 1 false (.t 17),.bin 19 .geq (.t 18) (cI 0),.mov 20 (.t 19)],.g 20 true [.faddr 21 4 (.t 1),.faddr 22 1 (.t 21),.ld 23 1 false (.t 22),.faddr 24 0 (.t 1),.faddr 25 0 (.t 24),.ld 26 1 false (.t 25),.len 27 (.t 26),.bin 28 .lss (.t 23) (.t 27)],.o [.pick 29 (.t 20) (.t 28) (cB false),.faddr 30 0 (.t 1),.ld 31 3 true (.t 30),.faddr 32 4 (.t 1),.faddr 33 1 (.t 32),.ld 34 1 false (.t 33)],.call none 35 143 [(.t 31),(.t 34)],.o [.asg 4 (.t 29),.asg 5 (.t 35)]]) c98_46)
def c98_48:Cd:=(.seq (.reg [8,9,10,11,12,13,14,15] [.o [.faddr 8 0 (.t 1),.faddr 9 2 (.t 8),.ld 10 1 false (.t 9),.faddr 11 3 (.t 1),.ld 12 1 false (.t 11),.iaddr 13 1 (.t 10) (.t 12),.ld 14 1 false (.t 13)],.call none 15 86 [(.t 14),(cI (-1))],.o [.asg 3 (.t 15)]]) c98_47)
def fi98:FI:=⟨150,1,[.t 2],(.seq (.reg [0,2] [.o [.box 1 (.t 0),.asg 2 (cI 0)]]) c98_48)⟩
theorem ok98:fiOk Try.prog 98 fi98:=⟨_,_,Try.func98,rfl,by kernel_rfl,by kernel_rfl,Try.call98⟩
def c99_0:Cd:=(.reg [6,34,35,36,37,38,39] [.o [.mov 34 (.t 6),.faddr 35 2 (.t 5),.ld 36 1 false (.t 35),.faddr 37 1 (.t 5),.ld 38 1 false (.t 37),.iaddr 39 1 (.t 34) (.t 36),.st 1 (.t 39) (.t 38)]])
def c99_1:Cd:=(.seq (.reg [31,32,33] [.o [.mov 31 (.t 6)],.call none 32 134 [(.t 31),(cI (-1))],.o [.faddr 33 2 (.t 5),.st 1 (.t 33) (.t 32)]]) c99_0)
def c99_2:Cd:=(.seq (.reg [26,27,28,29,30] [.o [.faddr 26 0 (.t 4),.ld 27 1 false (.t 26),.faddr 28 1 (.t 5),.ld 29 1 false (.t 28),.iaddr 30 1 (.t 27) (.t 29),.st 1 (.t 30) (cB true)]]) c99_1)
def c99_3:Cd:=(.seq (.reg [1,19,20,22,23,24,25] [.o [.faddr 22 0 (.t 4),.ld 23 1 false (.t 22)],.call none 24 147 [(.t 23),(cB false)],.o [.faddr 25 1 (.t 5),.st 1 (.t 25) (.t 24)]]) c99_2)
def c99_4:Cd:=(.reg [6,49,50,51,52,53,54] [.o [.mov 49 (.t 6),.faddr 50 2 (.t 5),.ld 51 1 false (.t 50),.faddr 52 1 (.t 5),.ld 53 1 false (.t 52),.iaddr 54 1 (.t 49) (.t 51),.st 1 (.t 54) (.t 53)]])
def c99_5:Cd:=(.seq (.draw [[],[0],[1],[],[3],[0,1,2],[5,2,4,0,1,2],[0,1,2,3,4,5,6],[7,4,6,0,1,2,3,4,5,6]] [1,19,40,42,43,44,45,46,47,48] [.o [.faddr 42 4 (.t 1),.faddr 43 1 (.t 42),.ld 44 1 false (.t 43),.mov 45 (.t 6)],.call none 46 134 [(.t 45),(cI (-1))],.o [.faddr 47 1 (.t 5),.st 1 (.t 47) (.t 44),.faddr 48 2 (.t 5),.st 1 (.t 48) (.t 46)]]) c99_4)
def c99_6:Cd:=(.draw [[],[0],[],[],[3],[4],[2,5],[6],[1,7],[8],[],[10],[11],[],[13],[14],[],[16],[17],[15,18],[9,12,19],[20],[0,1,2,3,4,5,6,7,8,9,10,11,12,13,14,15,16,17,18,19,20,21],[22,21,21,0,1,2,3,4,5,6,7,8,9,10,11,12,13,14,15,16,17,18,19,20,21]] [1,6,19,55,57,58,59,60,61,62,63,64,65,66,67,68,69,70,71,72,73,74,75,76,77,78,79] [.o [.faddr 57 1 (.t 4),.ld 58 1 false (.t 57),.mov 59 (.t 6),.faddr 60 4 (.t 1),.faddr 61 2 (.t 60),.ld 62 1 false (.t 61),.iaddr 63 1 (.t 59) (.t 62),.ld 64 1 false (.t 63),.iaddr 65 1 (.t 58) (.t 64),.ld 66 1 false (.t 65),.faddr 67 4 (.t 1),.faddr 68 3 (.t 67),.ld 69 1 false (.t 68),.faddr 70 4 (.t 1),.faddr 71 3 (.t 70),.ld 72 1 false (.t 71),.faddr 73 4 (.t 1),.faddr 74 4 (.t 73),.ld 75 1 false (.t 74),.bin 76 .add (.t 72) (.t 75),.slice 77 1 (.t 66) (some (.t 69)) (some (.t 76))],.call none 78 108 [(.t 77)],.o [.faddr 79 3 (.t 5),.st 1 (.t 79) (.t 78)]])
def c99_7:Cd:=(.draw [[],[0],[],[],[3],[4],[2,5],[6],[1,7],[8],[],[10],[11],[9,12],[],[14],[15],[13,16]] [1,6,19,80,82,83,84,85,86,87,88,89,90,91,92,93,94,95,96,97,98,99] [.o [.faddr 82 1 (.t 4),.ld 83 1 false (.t 82),.mov 84 (.t 6),.faddr 85 4 (.t 1),.faddr 86 2 (.t 85),.ld 87 1 false (.t 86),.iaddr 88 1 (.t 84) (.t 87),.ld 89 1 false (.t 88),.iaddr 90 1 (.t 83) (.t 89),.ld 91 1 false (.t 90),.faddr 92 4 (.t 1),.faddr 93 3 (.t 92),.ld 94 1 false (.t 93),.slice 95 1 (.t 91) (some (.t 94)) none,.faddr 96 4 (.t 1),.faddr 97 5 (.t 96),.ld 98 1 false (.t 97),.cpy 99 1 (.t 95) (.t 98)]])
def c99_8:Cd:=(.reg [1,6,19,100,102,103,104,105,106] [.o [.mov 102 (.t 6),.faddr 103 4 (.t 1),.faddr 104 2 (.t 103),.ld 105 1 false (.t 104),.iaddr 106 1 (.t 102) (.t 105),.st 1 (.t 106) (cI (-1))]])
def c99_9:Cd:=(.draw [[],[0],[],[2],[3],[],[5],[],[7],[8],[],[1,4,0,1,2,3,4],[11,0,1,2,3,4],[6,9,0,1,2,3,4,5,6,7,8,9,10,11,12],[13,10,12,0,1,2,3,4,5,6,7,8,9,10,11,12]] [1,107,109,110,111,112,113,114,115,116,117,118,119,120,121] [.o [.faddr 109 0 (.t 4),.ld 110 1 false (.t 109),.faddr 111 4 (.t 1),.faddr 112 1 (.t 111),.ld 113 1 false (.t 112),.faddr 114 1 (.t 4),.ld 115 1 false (.t 114),.faddr 116 4 (.t 1),.faddr 117 1 (.t 116),.ld 118 1 false (.t 117),.make 119 1 1 [(.sc (.int .u8 0))] (cI 16) (cI 16),.iaddr 120 1 (.t 110) (.t 113),.st 1 (.t 120) (cB false),.iaddr 121 1 (.t 115) (.t 118),.st 1 (.t 121) (.t 119)]])
def c99_10:Cd:=(.cond (.t 107) c99_9 .skip)
def c99_11:Cd:=(.seq (.reg [6,19,100,108] [.o [.bin 108 .eql (.t 19) (cI 8),.asg 107 (.t 108)]]) c99_10)
def c99_12:Cd:=(.cond (.t 100) c99_8 c99_11)
def c99_13:Cd:=(.seq (.reg [80,101] [.o [.bin 101 .eql (.t 19) (cI 5),.asg 100 (.t 101)]]) c99_12)
def c99_14:Cd:=(.cond (.t 80) c99_7 c99_13)
def c99_15:Cd:=(.seq (.reg [55,81] [.o [.bin 81 .eql (.t 19) (cI 4),.asg 80 (.t 81)]]) c99_14)
def c99_16:Cd:=(.cond (.t 55) c99_6 c99_15)
def c99_17:Cd:=(.seq (.reg [40,56] [.o [.bin 56 .eql (.t 19) (cI 3),.asg 55 (.t 56)]]) c99_16)
def c99_18:Cd:=(.cond (.t 40) c99_5 c99_17)
def c99_19:Cd:=(.seq (.reg [20,41] [.o [.bin 41 .eql (.t 19) (cI 2),.asg 40 (.t 41)]]) c99_18)
def c99_20:Cd:=(.cond (.t 20) c99_3 c99_19)
def c99_21:Cd:=(.block 0 (.seq (.reg [21] [.o [.bin 21 .eql (.t 19) (cI 1),.asg 20 (.t 21)]]) c99_20))
def c99_22:Cd:=(.seq (.draw [[],[],[0,0],[1,2,0,1,2]] [4,5,1,107,122,123] [.o [.ld 122 3 true (.t 4),.ld 123 4 true (.t 5),.st 3 (.t 2) (.t 122),.st 4 (.t 3) (.t 123)]]) .ret)
def c99_23:Cd:=(.seq (.seq (.reg [17,18] [.o [.faddr 17 4 (.t 1),.faddr 18 0 (.t 17),.ld 19 1 false (.t 18)]]) c99_21) c99_22)
def c99_24:Cd:=(.seq (.reg [11,12,13,14,15,16] [.o [.faddr 11 2 (.t 4),.ld 12 1 false (.t 11),.faddr 13 3 (.t 1),.ld 14 1 false (.t 13),.iaddr 15 1 (.t 12) (.t 14),.ld 16 1 false (.t 15),.asg 6 (.t 16)]]) c99_23)
def c99_25:Cd:=(.seq (.reg [7,8,9,10] [.o [.faddr 7 0 (.t 1),.ld 8 3 true (.t 7)],.call none 9 146 [(.t 8)],.o [.build 10 [(.sc (.int .i64 0)),(.sc (.int .i64 0)),(.sc (.int .i64 0)),(.sc (.slice none 0 0))] [],.alloc 4 [(.sl true () 1 0 []),(.sl true () 1 0 []),(.sl true () 1 0 [])],.alloc 5 [(.sc (.int .i64 0)),(.sc (.int .i64 0)),(.sc (.int .i64 0)),(.sl true () 1 0 [])],.st 3 (.t 4) (.t 9),.st 4 (.t 5) (.t 10)]]) c99_24)
def fi99:FI:=⟨124,1,[.cell 2 3 true,.cell 3 4 true],(.seq (.reg [0] [.o [.box 1 (.t 0),.alloc 2 [(.sl true () 1 0 []),(.sl true () 1 0 []),(.sl true () 1 0 [])],.alloc 3 [(.sc (.int .i64 0)),(.sc (.int .i64 0)),(.sc (.int .i64 0)),(.sl true () 1 0 [])]]]) c99_25)⟩
theorem ok99:fiOk Try.prog 99 fi99:=⟨_,_,Try.func99,rfl,by kernel_rfl,by kernel_rfl,Try.call99⟩
def c102_0:Cd:=(.seq (.reg [0,1,5,6,7,8,9] [.o [.mov 5 (.t 0),.b2s 6 (.t 5),.mov 7 (.t 1),.b2s 8 (.t 7),.bin 9 .eql (.t 6) (.t 8),.asg 4 (.t 9)]]) .ret)
def fi102:FI:=⟨10,2,[.t 4],(.seq (.reg [4] [.o [.asg 4 (cB false)]]) c102_0)⟩
theorem ok102:fiOk Try.prog 102 fi102:=⟨_,_,Try.func102,rfl,by kernel_rfl,by kernel_rfl,Try.call102⟩
def c108_0:Cd:=(.seq (.reg [0,4] [.o [.asg 2 (.c (.sl true () 1 0 []))]]) .ret)
def c108_1:Cd:=(.cond (.t 4) c108_0 .skip)
def c108_2:Cd:=(.seq (.reg [0,4,5,6,7] [.o [.bs0 5 1,.mov 6 (.t 0),.app 7 1 1 (.t 5) (.t 6),.asg 2 (.t 7)]]) .ret)
def c108_3:Cd:=(.seq (.seq (.reg [3] [.o [.mov 3 (.t 0)],.nilq 4 true (.t 3)]) c108_1) c108_2)
def fi108:FI:=⟨8,1,[.t 2],(.seq (.reg [2] [.o [.asg 2 (.c (.sl true () 1 0 []))]]) c108_3)⟩
theorem ok108:fiOk Try.prog 108 fi108:=⟨_,_,Try.func108,rfl,by kernel_rfl,by kernel_rfl,Try.call108⟩
def c140_0:Cd:=(.seq (.reg [6,7,18,19,20,21] [.o [.mov 18 (.t 6),.conv 19 .u64 (.t 18),.mov 20 (.t 7),.conv 21 .u64 (.t 20),.asg 4 (.t 19),.asg 5 (.t 21)]]) .ret)
def c140_1:Cd:=(.seq (.reg [0,1,11,12,13,14,15,10,16,17] [.o [.mov 11 (.t 0),.conv 12 .u32 (.t 11),.mov 13 (.t 1),.conv 14 .u32 (.t 13)],.call none 15 165 [(.t 12),(.t 14)],.o [.mov 10 (.t 15),.ext 16 10 0,.ext 17 10 1,.asg 6 (.t 16),.asg 7 (.t 17)]]) c140_0)
def c140_2:Cd:=(.seq (.reg [8,9,28,29] [.o [.mov 28 (.t 8),.mov 29 (.t 9),.asg 4 (.t 28),.asg 5 (.t 29)]]) .ret)
def c140_3:Cd:=(.seq (.reg [0,1,23,24,25,22,26,27] [.o [.mov 23 (.t 0),.mov 24 (.t 1)],.call none 25 166 [(.t 23),(.t 24)],.o [.mov 22 (.t 25),.ext 26 22 0,.ext 27 22 1,.asg 8 (.t 26),.asg 9 (.t 27)]]) c140_2)
def c140_4:Cd:=(.seq (.cond (cB false) c140_1 .skip) c140_3)
def fi140:FI:=⟨30,2,[.t 4,.t 5],(.seq (.reg [4,5] [.o [.asg 4 (.c (.sc (.int .u64 0))),.asg 5 (.c (.sc (.int .u64 0)))]]) c140_4)⟩
theorem ok140:fiOk Try.prog 140 fi140:=⟨_,_,Try.func140,rfl,by kernel_rfl,by kernel_rfl,Try.call140⟩
def c141_0:Cd:=(.seq (.reg [0,1,5,6,7,8] [.o [.mov 5 (.t 0),.mov 6 (.t 1)],.call none 7 131 [(.t 5),(.t 6)],.o [.bin 8 .geq (.t 7) (cI 0),.asg 4 (.t 8)]]) .ret)
def fi141:FI:=⟨9,2,[.t 4],(.seq (.reg [4] [.o [.asg 4 (cB false)]]) c141_0)⟩
theorem ok141:fiOk Try.prog 141 fi141:=⟨_,_,Try.func141,rfl,by kernel_rfl,by kernel_rfl,Try.call141⟩
def c142_0:Cd:=(.seq (.reg [0,1,4,5,6,7,8,9,10,11] [.o [.mov 4 (.t 0),.bin 5 .neq (.t 4) (cI (-1)),.mov 6 (.t 5)],.g 6 true [.ld 7 3 true (.t 1),.mov 8 (.t 0)],.call (some (6,true)) 9 143 [(.t 7),(.t 8)],.g 6 true [.un 10 .not (.t 9)],.o [.pick 11 (.t 6) (.t 10) (cB false),.asg 3 (.t 11)]]) .ret)
def fi142:FI:=⟨12,2,[.t 3],(.seq (.reg [3] [.o [.asg 3 (cB false)]]) c142_0)⟩
theorem ok142:fiOk Try.prog 142 fi142:=⟨_,_,Try.func142,rfl,by kernel_rfl,by kernel_rfl,Try.call142⟩
def c143_0:Cd:=(.seq (.reg [1,2,5,6,7,8,9,10,11,12,13,14,15,16,17,18,19,20] [.o [.mov 5 (.t 1),.bin 6 .geq (.t 5) (cI 0),.mov 7 (.t 6)],.g 7 true [.mov 8 (.t 1),.faddr 9 0 (.t 2),.ld 10 1 false (.t 9),.len 11 (.t 10),.bin 12 .lss (.t 8) (.t 11)],.o [.pick 13 (.t 7) (.t 12) (cB false),.mov 14 (.t 13)],.g 14 true [.faddr 15 0 (.t 2),.ld 16 1 false (.t 15),.mov 17 (.t 1),.iaddr 18 1 (.t 16) (.t 17),.ld 19 1 false (.t 18)],.o [.pick 20 (.t 14) (.t 19) (cB false),.asg 4 (.t 20)]]) .ret)
def fi143:FI:=⟨21,2,[.t 4],(.seq (.reg [0,4] [.o [.box 2 (.t 0),.asg 4 (cB false)]]) c143_0)⟩
theorem ok143:fiOk Try.prog 143 fi143:=⟨_,_,Try.func143,rfl,by kernel_rfl,by kernel_rfl,Try.call143⟩
def c144_0:Cd:=(.seq (.reg [0,1,5,6,7,8] [.o [.mov 5 (.t 0),.mov 6 (.t 1)],.call none 7 147 [(.t 5),(.t 6)],.o [.bin 8 .geq (.t 7) (cI 0),.asg 4 (.t 8)]]) .ret)
def fi144:FI:=⟨9,2,[.t 4],(.seq (.reg [4] [.o [.asg 4 (cB false)]]) c144_0)⟩
theorem ok144:fiOk Try.prog 144 fi144:=⟨_,_,Try.func144,rfl,by kernel_rfl,by kernel_rfl,Try.call144⟩
def c145_0:Cd:=(.seq (.reg [1,2,11] [.o [.asg 4 (cI 0)]]) .ret)
def c145_1:Cd:=(.cond (.t 11) c145_0 .skip)
def c145_2:Cd:=(.cond (.t 27) (.exit 3) .skip)
def c145_3:Cd:=(.reg [27,28,29] [.o [.mov 28 (.t 5),.bin 29 .add (.t 28) (cI 1),.asg 5 (.t 29)]])
def c145_4:Cd:=(.seq (.seq (.reg [9,25,26] [.o [.mov 25 (.t 9),.mov 26 (.t 1),.bin 27 .neq (.t 25) (.t 26)]]) c145_2) c145_3)
def c145_5:Cd:=(.reg [30] [.o [.bin 30 .add (.t 21) (cI 1),.mov 21 (.t 30)]])
def c145_6:Cd:=(.seq (.block 3 (.seq (.reg [22,23,24] [.o [.iaddr 23 1 (.t 19) (.t 21),.ld 24 1 false (.t 23),.asg 9 (.t 24)]]) c145_4)) c145_5)
def c145_7:Cd:=(.seq (.cond (.t 22) .skip (.exit 2)) c145_6)
def c145_8:Cd:=(.seq (.reg [] [.o [.bin 22 .lss (.t 21) (.t 20)]]) c145_7)
def c145_9:Cd:=(.block 2 (.loop c145_8))
def c145_10:Cd:=(.seq (.reg [7] [.o [.mov 19 (.t 7),.len 20 (.t 19),.mov 21 (cI 0)]]) c145_9)
def c145_11:Cd:=(.scope (.seq (.label 0) c145_10))
def c145_12:Cd:=(.reg [19,20,21,22,31] [.o [.bin 31 .add (.t 15) (cI 1),.mov 15 (.t 31)]])
def c145_13:Cd:=(.seq (.block 1 (.seq (.reg [16,17,18] [.o [.iaddr 17 1 (.t 13) (.t 15),.ld 18 1 false (.t 17),.asg 7 (.t 18)]]) c145_11)) c145_12)
def c145_14:Cd:=(.seq (.cond (.t 16) .skip (.exit 0)) c145_13)
def c145_15:Cd:=(.seq (.reg [] [.o [.bin 16 .lss (.t 15) (.t 14)]]) c145_14)
def c145_16:Cd:=(.block 0 (.loop c145_15))
def c145_17:Cd:=(.seq (.reg [1,5,13,14,15,16,32] [.o [.mov 32 (.t 5),.asg 4 (.t 32)]]) .ret)
def c145_18:Cd:=(.seq (.seq (.reg [2,12] [.o [.faddr 12 2 (.t 2),.ld 13 1 false (.t 12),.len 14 (.t 13),.mov 15 (cI 0)]]) c145_16) c145_17)
def c145_19:Cd:=(.seq (.reg [11] [.o [.asg 5 (cI 0)]]) c145_18)
def c145_20:Cd:=(.seq (.seq (.reg [10] [.o [.mov 10 (.t 1),.bin 11 .lss (.t 10) (cI 0)]]) c145_1) c145_19)
def fi145:FI:=⟨33,2,[.t 4],(.seq (.reg [0,4] [.o [.box 2 (.t 0),.asg 4 (cI 0)]]) c145_20)⟩
theorem ok145:fiOk Try.prog 145 fi145:=⟨_,_,Try.func145,rfl,by kernel_rfl,by kernel_rfl,Try.call145⟩
def c146_0:Cd:=(.draw [[],[0],[],[2],[3],[1,4,3],[0,1,2,3,4,5],[6,5,5,0,1,2,3,4,5]] [5,19,20,21,22,23,24,25] [.o [.faddr 19 1 (.t 3),.ld 20 1 false (.t 19),.mov 21 (.t 5)],.call none 22 108 [(.t 21)],.o [.bs1 23 1 (.t 22),.app 24 1 24 (.t 20) (.t 23),.faddr 25 1 (.t 3),.st 1 (.t 25) (.t 24)]])
def c146_1:Cd:=(.reg [26] [.o [.bin 26 .add (.t 15) (cI 1),.mov 15 (.t 26)]])
def c146_2:Cd:=(.seq (.block 1 (.seq (.reg [16,17,18] [.o [.iaddr 17 1 (.t 13) (.t 15),.ld 18 1 false (.t 17),.asg 5 (.t 18)]]) c146_0)) c146_1)
def c146_3:Cd:=(.seq (.cond (.t 16) .skip (.exit 0)) c146_2)
def c146_4:Cd:=(.seq (.reg [] [.o [.bin 16 .lss (.t 15) (.t 14)]]) c146_3)
def c146_5:Cd:=(.block 0 (.loop c146_4))
def c146_6:Cd:=(.draw [[],[0],[],[2],[3],[1,4,3],[0,1,2,3,4,5],[6,5,5,0,1,2,3,4,5]] [7,34,35,36,37,38,39,40] [.o [.faddr 34 2 (.t 3),.ld 35 1 false (.t 34),.mov 36 (.t 7)],.call none 37 130 [(.t 36)],.o [.bs1 38 1 (.t 37),.app 39 1 24 (.t 35) (.t 38),.faddr 40 2 (.t 3),.st 1 (.t 40) (.t 39)]])
def c146_7:Cd:=(.reg [41] [.o [.bin 41 .add (.t 30) (cI 1),.mov 30 (.t 41)]])
def c146_8:Cd:=(.seq (.block 3 (.seq (.reg [31,32,33] [.o [.iaddr 32 1 (.t 28) (.t 30),.ld 33 1 false (.t 32),.asg 7 (.t 33)]]) c146_6)) c146_7)
def c146_9:Cd:=(.seq (.cond (.t 31) .skip (.exit 2)) c146_8)
def c146_10:Cd:=(.seq (.reg [] [.o [.bin 31 .lss (.t 30) (.t 29)]]) c146_9)
def c146_11:Cd:=(.block 2 (.loop c146_10))
def c146_12:Cd:=(.seq (.reg [3,28,29,30,31,42] [.o [.ld 42 3 true (.t 3),.st 3 (.t 2) (.t 42)]]) .ret)
def c146_13:Cd:=(.seq (.seq (.reg [1,13,14,15,16,27] [.o [.faddr 27 2 (.t 1),.ld 28 1 false (.t 27),.len 29 (.t 28),.mov 30 (cI 0)]]) c146_11) c146_12)
def c146_14:Cd:=(.seq (.seq (.reg [12] [.o [.faddr 12 1 (.t 1),.ld 13 1 false (.t 12),.len 14 (.t 13),.mov 15 (cI 0)]]) c146_5) c146_13)
def c146_15:Cd:=(.seq (.reg [8,9,10,11] [.o [.faddr 8 0 (.t 1),.ld 9 1 false (.t 8)],.call none 10 167 [(.t 9)],.o [.build 11 [(.sc (.slice none 0 0)),(.sc (.slice none 0 0)),(.sc (.slice none 0 0))] [(0,1,(.t 10))],.alloc 3 [(.sl true () 1 0 []),(.sl true () 1 0 []),(.sl true () 1 0 [])],.st 3 (.t 3) (.t 11)]]) c146_14)
def fi146:FI:=⟨43,1,[.cell 2 3 true],(.seq (.reg [0] [.o [.box 1 (.t 0),.alloc 2 [(.sl true () 1 0 []),(.sl true () 1 0 []),(.sl true () 1 0 [])]]]) c146_15)⟩
theorem ok146:fiOk Try.prog 146 fi146:=⟨_,_,Try.func146,rfl,by kernel_rfl,by kernel_rfl,Try.call146⟩
def c147_0:Cd:=(.seq (.reg [0,1,7,8,5,16,17] [.o [.mov 17 (.t 5),.asg 4 (.t 17)]]) .ret)
def c147_1:Cd:=(.cond (.t 16) c147_0 .skip)
def c147_2:Cd:=(.seq (.reg [11,12,13,14,15] [.o [.mov 11 (.t 1),.mov 12 (.t 0),.mov 13 (.t 5),.iaddr 14 1 (.t 12) (.t 13),.ld 15 1 false (.t 14),.beq 16 true (.t 11) (.t 15)]]) c147_1)
def c147_3:Cd:=(.reg [5,16,18] [.o [.bin 18 .add (.t 8) (cI 1),.mov 8 (.t 18)]])
def c147_4:Cd:=(.seq (.block 1 (.seq (.reg [9,10] [.o [.mov 10 (.t 8),.asg 5 (.t 10)]]) c147_2)) c147_3)
def c147_5:Cd:=(.seq (.cond (.t 9) .skip (.exit 0)) c147_4)
def c147_6:Cd:=(.seq (.reg [] [.o [.bin 9 .lss (.t 8) (.t 7)]]) c147_5)
def c147_7:Cd:=(.block 0 (.loop c147_6))
def c147_8:Cd:=(.seq (.reg [0,1,7,8,9] [.o [.asg 4 (cI (-1))]]) .ret)
def c147_9:Cd:=(.seq (.seq (.reg [6] [.o [.mov 6 (.t 0),.len 7 (.t 6),.mov 8 (cI 0)]]) c147_7) c147_8)
def fi147:FI:=⟨19,2,[.t 4],(.seq (.reg [4] [.o [.asg 4 (cI 0)]]) c147_9)⟩
theorem ok147:fiOk Try.prog 147 fi147:=⟨_,_,Try.func147,rfl,by kernel_rfl,by kernel_rfl,Try.call147⟩
def c86_0:Cd:=(.seq (.reg [0,1,5,6,7,8] [.o [.mov 5 (.t 0),.mov 6 (.t 1)],.call none 7 134 [(.t 5),(.t 6)],.o [.bin 8 .geq (.t 7) (cI 0),.asg 4 (.t 8)]]) .ret)
def fi86:FI:=⟨9,2,[.t 4],(.seq (.reg [4] [.o [.asg 4 (cB false)]]) c86_0)⟩
theorem ok86:fiOk Try.prog 86 fi86:=⟨_,_,Try.func86,rfl,by kernel_rfl,by kernel_rfl,Try.call86⟩
def c130_0:Cd:=(.seq (.reg [0,4] [.o [.asg 2 (.c (.sl true () 1 0 []))]]) .ret)
def c130_1:Cd:=(.cond (.t 4) c130_0 .skip)
def c130_2:Cd:=(.seq (.reg [0,4,5,6,7] [.o [.bs0 5 1,.mov 6 (.t 0),.app 7 1 8 (.t 5) (.t 6),.asg 2 (.t 7)]]) .ret)
def c130_3:Cd:=(.seq (.seq (.reg [3] [.o [.mov 3 (.t 0)],.nilq 4 true (.t 3)]) c130_1) c130_2)
def fi130:FI:=⟨8,1,[.t 2],(.seq (.reg [2] [.o [.asg 2 (.c (.sl true () 1 0 []))]]) c130_3)⟩
theorem ok130:fiOk Try.prog 130 fi130:=⟨_,_,Try.func130,rfl,by kernel_rfl,by kernel_rfl,Try.call130⟩
def c131_0:Cd:=(.seq (.reg [0,1,7,8,5,16,17] [.o [.mov 17 (.t 5),.asg 4 (.t 17)]]) .ret)
def c131_1:Cd:=(.cond (.t 16) c131_0 .skip)
def c131_2:Cd:=(.seq (.reg [11,12,13,14,15] [.o [.mov 11 (.t 1),.mov 12 (.t 0),.mov 13 (.t 5),.iaddr 14 1 (.t 12) (.t 13),.ld 15 1 false (.t 14)],.clo none 16 11 [(.t 15)]]) c131_1)
def c131_3:Cd:=(.reg [5,16,18] [.o [.bin 18 .add (.t 8) (cI 1),.mov 8 (.t 18)]])
def c131_4:Cd:=(.seq (.block 1 (.seq (.reg [9,10] [.o [.mov 10 (.t 8),.asg 5 (.t 10)]]) c131_2)) c131_3)
def c131_5:Cd:=(.seq (.cond (.t 9) .skip (.exit 0)) c131_4)
def c131_6:Cd:=(.seq (.reg [] [.o [.bin 9 .lss (.t 8) (.t 7)]]) c131_5)
def c131_7:Cd:=(.block 0 (.loop c131_6))
def c131_8:Cd:=(.seq (.reg [0,1,7,8,9] [.o [.asg 4 (cI (-1))]]) .ret)
def c131_9:Cd:=(.seq (.seq (.reg [6] [.o [.mov 6 (.t 0),.len 7 (.t 6),.mov 8 (cI 0)]]) c131_7) c131_8)
def fi131:FI:=⟨19,2,[.t 4],(.seq (.reg [4] [.o [.asg 4 (cI 0)]]) c131_9)⟩
theorem ok131:fiOk Try.prog 131 fi131:=⟨_,_,Try.func131,rfl,by kernel_rfl,by kernel_rfl,Try.call131⟩
def c134_0:Cd:=(.seq (.reg [0,1,7,8,5,16,17] [.o [.mov 17 (.t 5),.asg 4 (.t 17)]]) .ret)
def c134_1:Cd:=(.cond (.t 16) c134_0 .skip)
def c134_2:Cd:=(.seq (.reg [11,12,13,14,15] [.o [.mov 11 (.t 1),.mov 12 (.t 0),.mov 13 (.t 5),.iaddr 14 1 (.t 12) (.t 13),.ld 15 1 false (.t 14),.bin 16 .eql (.t 11) (.t 15)]]) c134_1)
def c134_3:Cd:=(.reg [5,16,18] [.o [.bin 18 .add (.t 8) (cI 1),.mov 8 (.t 18)]])
def c134_4:Cd:=(.seq (.block 1 (.seq (.reg [9,10] [.o [.mov 10 (.t 8),.asg 5 (.t 10)]]) c134_2)) c134_3)
def c134_5:Cd:=(.seq (.cond (.t 9) .skip (.exit 0)) c134_4)
def c134_6:Cd:=(.seq (.reg [] [.o [.bin 9 .lss (.t 8) (.t 7)]]) c134_5)
def c134_7:Cd:=(.block 0 (.loop c134_6))
def c134_8:Cd:=(.seq (.reg [0,1,7,8,9] [.o [.asg 4 (cI (-1))]]) .ret)
def c134_9:Cd:=(.seq (.seq (.reg [6] [.o [.mov 6 (.t 0),.len 7 (.t 6),.mov 8 (cI 0)]]) c134_7) c134_8)
def fi134:FI:=⟨19,2,[.t 4],(.seq (.reg [4] [.o [.asg 4 (cI 0)]]) c134_9)⟩
theorem ok134:fiOk Try.prog 134 fi134:=⟨_,_,Try.func134,rfl,by kernel_rfl,by kernel_rfl,Try.call134⟩
def c136_0:Cd:=(.seq (.reg [2,3,5,6,7,8,9,10,11,12,13,14,15,16,17,18,19,20,21,22,23,24,25,26,27,28,29,30] [.o [.faddr 5 0 (.t 2),.ld 6 1 false (.t 5),.faddr 7 0 (.t 3),.ld 8 1 false (.t 7),.bin 9 .eql (.t 6) (.t 8),.mov 10 (.t 9)],.g 10 true [.faddr 11 1 (.t 2),.ld 12 1 false (.t 11),.faddr 13 1 (.t 3),.ld 14 1 false (.t 13),.bin 15 .eql (.t 12) (.t 14)],.o [.pick 16 (.t 10) (.t 15) (cB false),.mov 17 (.t 16)],.g 17 true [.faddr 18 2 (.t 2),.ld 19 1 false (.t 18),.faddr 20 2 (.t 3),.ld 21 1 false (.t 20),.bin 22 .eql (.t 19) (.t 21)],.o [.pick 23 (.t 17) (.t 22) (cB false),.mov 24 (.t 23)],.g 24 true [.faddr 25 3 (.t 2),.ld 26 1 false (.t 25),.faddr 27 3 (.t 3),.ld 28 1 false (.t 27)],.call (some (24,true)) 29 102 [(.t 26),(.t 28)],.o [.pick 30 (.t 24) (.t 29) (cB false),.asg 4 (.t 30)]]) .ret)
def fi136:FI:=⟨31,2,[.t 4],(.seq (.reg [0,1,4] [.o [.box 2 (.t 0),.box 3 (.t 1),.asg 4 (cB false)]]) c136_0)⟩
theorem ok136:fiOk Try.prog 136 fi136:=⟨_,_,Try.func136,rfl,by kernel_rfl,by kernel_rfl,Try.call136⟩
def c166_0:Cd:=(.seq (.reg [0,1,48,49,50] [.o [.mov 48 (.t 0),.mov 49 (.t 1),.bin 50 .mul (.t 48) (.t 49),.asg 5 (.t 50)]]) .ret)
def c166_1:Cd:=(.seq (.reg [7,9,12,13,40,41,42,43,44,45,46,47] [.o [.mov 40 (.t 7),.mov 41 (.t 9),.bin 42 .mul (.t 40) (.t 41),.mov 43 (.t 13),.bin 44 .add (.t 42) (.t 43),.mov 45 (.t 12),.bin 46 .shr (.t 45) (.c (.sc (.int .u64 32))),.bin 47 .add (.t 44) (.t 46),.asg 4 (.t 47)]]) c166_0)
def c166_2:Cd:=(.seq (.reg [6,35,36,37,38,39] [.o [.mov 35 (.t 12),.mov 36 (.t 6),.mov 37 (.t 9),.bin 38 .mul (.t 36) (.t 37),.bin 39 .add (.t 35) (.t 38),.asg 12 (.t 39)]]) c166_1)
def c166_3:Cd:=(.seq (.reg [11,33,34] [.o [.mov 33 (.t 11),.bin 34 .shr (.t 33) (.c (.sc (.int .u64 32))),.asg 13 (.t 34)]]) c166_2)
def c166_4:Cd:=(.seq (.reg [31,32] [.o [.mov 31 (.t 11),.bin 32 .and (.t 31) (.c (.sc (.int .u64 4294967295))),.asg 12 (.t 32)]]) c166_3)
def c166_5:Cd:=(.seq (.reg [8,10,25,26,27,28,29,30] [.o [.mov 25 (.t 7),.mov 26 (.t 8),.bin 27 .mul (.t 25) (.t 26),.mov 28 (.t 10),.bin 29 .shr (.t 28) (.c (.sc (.int .u64 32))),.bin 30 .add (.t 27) (.t 29),.asg 11 (.t 30)]]) c166_4)
def c166_6:Cd:=(.seq (.reg [22,23,24] [.o [.mov 22 (.t 6),.mov 23 (.t 8),.bin 24 .mul (.t 22) (.t 23),.asg 10 (.t 24)]]) c166_5)
def c166_7:Cd:=(.seq (.reg [20,21] [.o [.mov 20 (.t 1),.bin 21 .shr (.t 20) (.c (.sc (.int .u64 32))),.asg 9 (.t 21)]]) c166_6)
def c166_8:Cd:=(.seq (.reg [18,19] [.o [.mov 18 (.t 1),.bin 19 .and (.t 18) (.c (.sc (.int .u64 4294967295))),.asg 8 (.t 19)]]) c166_7)
def c166_9:Cd:=(.seq (.reg [16,17] [.o [.mov 16 (.t 0),.bin 17 .shr (.t 16) (.c (.sc (.int .u64 32))),.asg 7 (.t 17)]]) c166_8)
def c166_10:Cd:=(.seq (.reg [14,15] [.o [.mov 14 (.t 0),.bin 15 .and (.t 14) (.c (.sc (.int .u64 4294967295))),.asg 6 (.t 15)]]) c166_9)
def fi166:FI:=⟨51,2,[.t 4,.t 5],(.seq (.reg [4,5] [.o [.asg 4 (.c (.sc (.int .u64 0))),.asg 5 (.c (.sc (.int .u64 0)))]]) c166_10)⟩
theorem ok166:fiOk Try.prog 166 fi166:=⟨_,_,Try.func166,rfl,by kernel_rfl,by kernel_rfl,Try.call166⟩
def c167_0:Cd:=(.seq (.reg [0,4] [.o [.asg 2 (.c (.sl true () 1 0 []))]]) .ret)
def c167_1:Cd:=(.cond (.t 4) c167_0 .skip)
def c167_2:Cd:=(.seq (.reg [0,4,5,6,7] [.o [.bs0 5 1,.mov 6 (.t 0),.app 7 1 1 (.t 5) (.t 6),.asg 2 (.t 7)]]) .ret)
def c167_3:Cd:=(.seq (.seq (.reg [3] [.o [.mov 3 (.t 0)],.nilq 4 true (.t 3)]) c167_1) c167_2)
def fi167:FI:=⟨8,1,[.t 2],(.seq (.reg [2] [.o [.asg 2 (.c (.sl true () 1 0 []))]]) c167_3)⟩
theorem ok167:fiOk Try.prog 167 fi167:=⟨_,_,Try.func167,rfl,by kernel_rfl,by kernel_rfl,Try.call167⟩
end Go.OT
namespace Go.OT
open Go.Proofs
abbrev sB (o:Bool)(l:List Bool):AU:=.sl o () 1 l.length (l.map bl)
abbrev sI (o:Bool)(l:List Int):AU:=.sl o () 1 l.length (l.map i64)
abbrev sU (o:Bool)(l:List UInt8):AU:=.sl o () 1 l.length (l.map fun b=>u8 (b.toNat:Int))
def Small (n:Nat):Prop:=n≤1000000000
theorem wrap_small {x:Int}(h:-9223372036854775808≤x)(h':x < 9223372036854775808):IntKind.wrap .i64 x=x:=IntWalk.i64_in x ⟨h,by omega⟩
theorem wrap_succ {i n:Nat}(h:Small n)(hi:i < n):IntKind.wrap .i64 ((i:Int)+1)=((i+1:Nat):Int):=by
 unfold Small at h
 rw[wrap_small (by omega) (by omega)];simp
def ixF {α:Type}(p:α→Bool):List α→Nat→Int
 | [],_=>-1
 | x :: l,i=>if p x=true then (i:Int) else ixF p l (i+1)
theorem ixF_drop {α:Type}(p:α→Bool)(l:List α)(i:Nat)(h:i < l.length):ixF p (l.drop i) i=if p l[i]=true then (i:Int) else ixF p (l.drop (i+1)) (i+1):=by
 rw[List.drop_eq_getElem_cons h];rfl
theorem ixF_end {α:Type}(p:α→Bool)(l:List α)(i:Nat)(h:¬ i < l.length):ixF p (l.drop i) i=-1:=by
 rw[List.drop_of_length_le (by omega)];rfl
set_option maxHeartbeats 4000000 in
theorem index_int (l:List Int)(v:Int)(hl:Small l.length):FnC Try.prog 134 [] [sI false l,i64 v] [] (i64 (ixF (· == v) l 0)):=by
 refine FnC.go ok134 rfl ?_
 refine WL.sreg (by simp;rfl) (by simp;rfl) ?_
 refine WL.seq (WL.sreg (by simp;rfl) (by simp;rfl) ?_)
 refine WL.block (WL.count l.length (fun i=>[(0,0,sI false l),(100,0,i64 v),(700,0,i64 l.length),(800,0,i64 i)]) (fun i=>ixF (· == v) (l.drop i) i=ixF (· == v) l 0) rfl rfl fun i hi hinv=>?_)
 by_cases h:i < l.length
 ·refine WL.sreg (by simp[h];rfl) (by simp;rfl) ?_
  refine WL.seq (WL.cond (t:=true) (by simp) (fun _=>WL.skip ?_) (by simp))
  refine WL.seq (WL.block (WL.sreg (by simp;rfl) (by simp;rfl) ?_))
  refine WL.sreg (by simp[h];rfl) (by simp;rfl) ?_
  rw[ixF_drop _ _ _ h] at hinv
  refine WL.cond (t:=v == l[i]) (by simp) (fun hv=>?_) (fun hv=>?_)
  ·have hv':l[i]=v:=by simp at hv;exact hv.symm
   rw[if_pos (by simp[hv'])] at hinv
   refine WL.sreg (by simp;rfl) (by simp;rfl) (WL.ret ⟨.inr rfl,?_⟩)
   simp[fi134,hinv]
  ·have hv':¬ l[i]=v:=fun e=>by simp[e] at hv
   refine WL.skip ?_
   refine WL.reg (RL.run (by simp[wrap_succ hl h];rfl) ⟨_,by simp;rfl,?_⟩)
   refine⟨h,by simp,?_⟩
   rw[← hinv];simp[hv']
 ·refine WL.sreg (by simp[h];rfl) (by simp;rfl) ?_
  refine WL.seq (WL.cond (t:=false) (by simp) (by simp) (fun _=>WL.exit ?_))
  simp
  refine WL.sreg (by simp;rfl) (by simp;rfl) (WL.ret ⟨.inr rfl,?_⟩)
  rw[ixF_end _ _ _ h] at hinv
  simp[fi134,← hinv]
set_option maxHeartbeats 4000000 in
theorem index_bool (l:List Bool)(v:Bool)(hl:Small l.length):FnC Try.prog 147 [] [sB false l,bl v] [] (i64 (ixF (· == v) l 0)):=by
 refine FnC.go ok147 rfl ?_
 refine WL.sreg (by simp;rfl) (by simp;rfl) ?_
 refine WL.seq (WL.sreg (by simp;rfl) (by simp;rfl) ?_)
 refine WL.block (WL.count l.length (fun i=>[(0,0,sB false l),(100,0,bl v),(700,0,i64 l.length),(800,0,i64 i)]) (fun i=>ixF (· == v) (l.drop i) i=ixF (· == v) l 0) rfl rfl fun i hi hinv=>?_)
 by_cases h:i < l.length
 ·refine WL.sreg (by simp[h];rfl) (by simp;rfl) ?_
  refine WL.seq (WL.cond (t:=true) (by simp) (fun _=>WL.skip ?_) (by simp))
  refine WL.seq (WL.block (WL.sreg (by simp;rfl) (by simp;rfl) ?_))
  refine WL.sreg (by simp[h];rfl) (by simp;rfl) ?_
  rw[ixF_drop _ _ _ h] at hinv
  refine WL.cond (t:=v == l[i]) (by simp) (fun hv=>?_) (fun hv=>?_)
  ·have hv':l[i]=v:=by simp at hv;exact hv.symm
   rw[if_pos (by simp[hv'])] at hinv
   refine WL.sreg (by simp;rfl) (by simp;rfl) (WL.ret ⟨.inr rfl,?_⟩)
   simp[fi147,hinv]
  ·have hv':¬ l[i]=v:=fun e=>by simp[e] at hv
   refine WL.skip ?_
   refine WL.reg (RL.run (by simp[wrap_succ hl h];rfl) ⟨_,by simp;rfl,?_⟩)
   refine⟨h,by simp,?_⟩
   rw[← hinv];simp[hv']
 ·refine WL.sreg (by simp[h];rfl) (by simp;rfl) ?_
  refine WL.seq (WL.cond (t:=false) (by simp) (by simp) (fun _=>WL.exit ?_))
  simp
  refine WL.sreg (by simp;rfl) (by simp;rfl) (WL.ret ⟨.inr rfl,?_⟩)
  rw[ixF_end _ _ _ h] at hinv
  simp[fi147,← hinv]
theorem ixF_ge {α:Type}(p:α→Bool):∀ (l:List α) (i:Nat),(0≤ixF p l i) ↔ l.any p=true
 | [],i=>by simp[ixF]
 | x :: l,i=>by
  simp only[ixF,List.any_cons]
  split
  ·rename_i h;simp[h]
  ·rename_i h;simp[h,ixF_ge p l (i+1)]
set_option maxHeartbeats 4000000 in
theorem contains_int (l:List Int)(v:Int)(hl:Small l.length):FnC Try.prog 86 [] [sI false l,i64 v] [] (bl (l.any (· == v))):=by
 refine FnC.go ok86 rfl ?_
 refine WL.sreg (by simp;rfl) (by simp;rfl) ?_
 refine WL.sregC (RL.o (by simp;rfl) (RL.call0 false (index_int l v hl) (by simp) (by simp) (RL.o (by simp;rfl) (RL.nil ⟨_,by simp;rfl,WL.ret ⟨.inr rfl,?_⟩⟩))))
 simp only[fi86,RetOk]
 refine⟨_,by simp;rfl,?_,by simp⟩
 simp
 rw[Bool.eq_iff_iff]
 simp[← ixF_ge (· == v) l 0]
set_option maxHeartbeats 4000000 in
theorem contains_bool (l:List Bool)(v:Bool)(hl:Small l.length):FnC Try.prog 144 [] [sB false l,bl v] [] (bl (l.any (· == v))):=by
 refine FnC.go ok144 rfl ?_
 refine WL.sreg (by simp;rfl) (by simp;rfl) ?_
 refine WL.sregC (RL.o (by simp;rfl) (RL.call0 false (index_bool l v hl) (by simp) (by simp) (RL.o (by simp;rfl) (RL.nil ⟨_,by simp;rfl,WL.ret ⟨.inr rfl,?_⟩⟩))))
 simp only[fi144,RetOk]
 refine⟨_,by simp;rfl,?_,by simp⟩
 simp
 rw[Bool.eq_iff_iff]
 simp[← ixF_ge (· == v) l 0]
theorem mixed:Try.prog.follows .mixedOrders=true:=by kernel_rfl
end Go.OT
namespace Go.OT
open Go.Proofs
@[simp] theorem take_len_map {α β:Type} (f:α→β) (l:List α):List.take l.length (l.map f)=l.map f:=List.take_of_length_le (by simp)
theorem u8L_bytes:∀ l:List UInt8,u8L (l.map fun b=>u8 (b.toNat:Int))=some (l.map fun b=>(b.toNat:Int))
 | []=>rfl
 | b :: l=>by simp[u8L,u8L_bytes l]
theorem b2s_go:∀ (l:List UInt8) (r:ByteArray),(((l.map fun b=>(b.toNat:Int)).foldl (fun r n=>r.push (UInt8.ofNat n.toNat)) r).data.toList=r.data.toList ++ l)
 | [],r=>by simp
 | b :: l,r=>by
  simp only[List.map_cons,List.foldl_cons]
  rw[b2s_go l]
  simp[ByteArray.push]
def strOf (l:List UInt8):ByteArray:=⟨l.toArray⟩
theorem b2s_bytes (l:List UInt8):b2s (l.map fun b=>(b.toNat:Int))=strOf l:=by
 have h:=b2s_go l ByteArray.empty
 have:(b2s (l.map fun b=>(b.toNat:Int))).data.toList=l:=by
  unfold b2s
  rw[h];rfl
 unfold strOf
 cases hb:b2s (l.map fun b=>(b.toNat:Int)) with
 | mk d =>
  rw[hb] at this
  simp only at this
  congr 1
  rw[← this]
attribute [simp] u8L_bytes b2s_bytes
theorem strOf_toList (l:List UInt8):(strOf l).toList=l:=by
 rw[Lib.toList_data];rfl
set_option maxHeartbeats 4000000 in
theorem bytes_equal (a b:List UInt8):FnC Try.prog 102 [] [sU false a,sU false b] [] (bl (a == b)):=by
 refine FnC.go ok102 rfl ?_
 refine WL.sreg (by simp;rfl) (by simp;rfl) ?_
 refine WL.sreg (by simp;rfl) (by simp;rfl) (WL.ret ⟨.inr rfl,?_⟩)
 simp[fi102,strOf_toList]
set_option maxHeartbeats 4000000 in
theorem bytes_clone (l:List UInt8)(hl:Small l.length):FnC Try.prog 108 [] [sU false l] [] (sU true l):=by
 unfold Small at hl
 refine FnC.go ok108 rfl ?_
 refine WL.sreg (by simp;rfl) (by simp;rfl) ?_
 refine WL.seq (WL.sregC (RL.o (by simp;rfl) (RL.nilq (n:=l.length) (by simp) fun b hb=>RL.nil ⟨_,by simp;rfl,?_⟩)))
 cases b with
 | true =>
  have h0:l=[]:=by
   cases l with
   | nil=>rfl
   | cons x l=>have:=hb (by simp);cases this
  subst h0
  refine WL.cond (t:=true) (by simp) (fun _=>?_) (by simp)
  refine WL.sreg (by simp;rfl) (by simp;rfl) (WL.ret ⟨.inr rfl,?_⟩)
  simp[fi108]
 | false =>
  refine WL.cond (t:=false) (by simp) (by simp) (fun _=>WL.skip ?_)
  have h1:l.length * 8≤140737488355328:=by omega
  have h2:l.length≤140737488355328:=by omega
  have h3:l.length≤maxLen:=by unfold maxLen;omega
  have h4:∀ x ∈ l,True:=fun _ _=>trivial
  refine WL.sreg (by simp[h1,h2,h3];rfl) (by simp;rfl) (WL.ret ⟨.inr rfl,?_⟩)
  simp[fi108]
set_option maxHeartbeats 4000000 in
theorem clone_bool (l:List Bool)(hl:Small l.length):FnC Try.prog 167 [] [sB false l] [] (sB true l):=by
 unfold Small at hl
 refine FnC.go ok167 rfl ?_
 refine WL.sreg (by simp;rfl) (by simp;rfl) ?_
 refine WL.seq (WL.sregC (RL.o (by simp;rfl) (RL.nilq (n:=l.length) (by simp) fun b hb=>RL.nil ⟨_,by simp;rfl,?_⟩)))
 cases b with
 | true =>
  have h0:l=[]:=by
   cases l with
   | nil=>rfl
   | cons x l=>have:=hb (by simp);cases this
  subst h0
  refine WL.cond (t:=true) (by simp) (fun _=>?_) (by simp)
  refine WL.sreg (by simp;rfl) (by simp;rfl) (WL.ret ⟨.inr rfl,?_⟩)
  simp[fi167]
 | false =>
  refine WL.cond (t:=false) (by simp) (by simp) (fun _=>WL.skip ?_)
  have h1:l.length * 8≤140737488355328:=by omega
  have h2:l.length≤140737488355328:=by omega
  have h3:l.length≤maxLen:=by unfold maxLen;omega
  have h4:∀ x ∈ l,True:=fun _ _=>trivial
  refine WL.sreg (by simp[h1,h2,h3];rfl) (by simp;rfl) (WL.ret ⟨.inr rfl,?_⟩)
  simp[fi167]
set_option maxHeartbeats 4000000 in
theorem clone_int (l:List Int)(hl:Small l.length):FnC Try.prog 130 [] [sI false l] [] (sI true l):=by
 unfold Small at hl
 refine FnC.go ok130 rfl ?_
 refine WL.sreg (by simp;rfl) (by simp;rfl) ?_
 refine WL.seq (WL.sregC (RL.o (by simp;rfl) (RL.nilq (n:=l.length) (by simp) fun b hb=>RL.nil ⟨_,by simp;rfl,?_⟩)))
 cases b with
 | true =>
  have h0:l=[]:=by
   cases l with
   | nil=>rfl
   | cons x l=>have:=hb (by simp);cases this
  subst h0
  refine WL.cond (t:=true) (by simp) (fun _=>?_) (by simp)
  refine WL.sreg (by simp;rfl) (by simp;rfl) (WL.ret ⟨.inr rfl,?_⟩)
  simp[fi130]
 | false =>
  refine WL.cond (t:=false) (by simp) (by simp) (fun _=>WL.skip ?_)
  have h1:l.length * 8≤140737488355328:=by omega
  have h2:l.length≤140737488355328:=by omega
  have h3:l.length≤maxLen:=by unfold maxLen;omega
  have h4:∀ x ∈ l,True:=fun _ _=>trivial
  refine WL.sreg (by simp[h1,h2,h3];rfl) (by simp;rfl) (WL.ret ⟨.inr rfl,?_⟩)
  simp[fi130]
end Go.OT
namespace Go.OT
open Go.Proofs
structure St where
 There:List Bool
 Body:List (List UInt8)
 Handles:List (List Int)
 deriving DecidableEq
abbrev sUU (o:Bool)(l:List (List UInt8)):AU:=.sl o () 1 l.length (l.map (sU o))
abbrev sII (o:Bool)(l:List (List Int)):AU:=.sl o () 1 l.length (l.map (sI o))
abbrev cellsS (o:Bool)(s:St):List AU:=[sB o s.There,sUU o s.Body,sII o s.Handles]
abbrev encS (o:Bool)(s:St):AU:=.agg (cellsS o s)
structure Sized (s:St):Prop where
 t:s.There.length≤1000
 b:s.Body.length≤1000
 h:s.Handles.length≤1000
 bs:∀ b ∈ s.Body,b.length≤1000
 hs:∀ l ∈ s.Handles,l.length≤1000
def there (s:St)(p:Int):Bool:=decide (0≤p) && s.There.getD p.toNat false
set_option maxHeartbeats 4000000 in
theorem there_fn (s:St)(p:Int):FnC Try.prog 143 [] [encS false s,i64 p] [] (bl (there s p)):=by
 refine FnC.go ok143 rfl ?_
 refine WL.sreg (by simp;rfl) (by simp;rfl) ?_
 by_cases h0:0≤p
 ·obtain⟨i,rfl⟩:=Int.eq_ofNat_of_zero_le h0
  by_cases h1:i < s.There.length
  ·refine WL.sreg (by simp[h1];rfl) (by simp;rfl) ?_
   refine WL.ret ⟨.inr rfl,?_⟩
   simp[fi143,there,h1]
  ·refine WL.sreg (by simp[h1];rfl) (by simp;rfl) ?_
   refine WL.ret ⟨.inr rfl,?_⟩
   simp[fi143,there,h1]
 ·refine WL.sreg (by simp[h0];rfl) (by simp;rfl) ?_
  refine WL.ret ⟨.inr rfl,?_⟩
  simp[fi143,there,h0]
def badH (s:St)(p:Int):Bool:=p != -1 && !there s p
set_option maxHeartbeats 4000000 in
theorem may1_fn (s:St)(p:Int):FnC Try.prog 142 [] [i64 p,.vptr () (cellsS false s)] [] (bl (badH s p)):=by
 refine FnC.go ok142 rfl ?_
 refine WL.sreg (by simp;rfl) (by simp;rfl) ?_
 by_cases h0:p=-1
 ·refine WL.sregC (RL.o (by simp[h0];rfl) (RL.g (by simp;rfl) (RL.callN (by simp) (RL.g (by simp;rfl) (RL.o (by simp;rfl) (RL.nil ⟨_,by simp;rfl,WL.ret ⟨.inr rfl,?_⟩⟩))))))
  simp[fi142,badH,h0]
 ·have hb:(p != -1)=true:=by simp[h0]
  refine WL.sregC (RL.o (by simp[hb];rfl) (RL.g (by simp;rfl) (RL.callY0 false (by simp) (there_fn s p) (by simp) (by simp) (RL.g (by simp;rfl) (RL.o (by simp;rfl) (RL.nil ⟨_,by simp;rfl,WL.ret ⟨.inr rfl,?_⟩⟩))))))
  simp[fi142,badH,h0]
set_option maxHeartbeats 4000000 in
theorem indexfunc (l:List Int)(f:Nat)(cs:List AU)(p:Int→Bool)(hl:Small l.length)(hf:∀ x ∈ l,FnC Try.prog f [] [i64 x,.vptr () cs] [] (bl (p x))):FnC Try.prog 131 [] [sI false l,.clos f [.vptr () cs]] [] (i64 (ixF p l 0)):=by
 refine FnC.go ok131 rfl ?_
 refine WL.sreg (by simp;rfl) (by simp;rfl) ?_
 refine WL.seq (WL.sreg (by simp;rfl) (by simp;rfl) ?_)
 refine WL.block (WL.count l.length (fun i=>[(0,0,sI false l),(100,0,.clos f [.vptr () cs]),(700,0,i64 l.length),(800,0,i64 i)]) (fun i=>ixF p (l.drop i) i=ixF p l 0) rfl rfl fun i hi hinv=>?_)
 by_cases h:i < l.length
 ·refine WL.sreg (by simp[h];rfl) (by simp;rfl) ?_
  refine WL.seq (WL.cond (t:=true) (by simp) (fun _=>WL.skip ?_) (by simp))
  refine WL.seq (WL.block (WL.sreg (by simp;rfl) (by simp;rfl) ?_))
  rw[ixF_drop _ _ _ h] at hinv
  refine WL.sregC (RL.o (by simp[h];rfl) (RL.clo0 (f:=f) (cps:=[.vptr () cs]) false (by simp) (hf l[i] (List.getElem_mem h)) (by simp) (by simp) (by simp) (RL.nil ⟨_,by simp;rfl,?_⟩)))
  refine WL.cond (t:=p l[i]) (by simp) (fun hv=>?_) (fun hv=>?_)
  ·rw[if_pos hv] at hinv
   refine WL.sreg (by simp;rfl) (by simp;rfl) (WL.ret ⟨.inr rfl,?_⟩)
   simp[fi131,hinv]
  ·rw[if_neg (by simp[hv])] at hinv
   refine WL.skip ?_
   refine WL.reg (RL.run (by simp[wrap_succ hl h];rfl) ⟨_,by simp;rfl,?_⟩)
   exact⟨h,by simp,hinv⟩
 ·refine WL.sreg (by simp[h];rfl) (by simp;rfl) ?_
  refine WL.seq (WL.cond (t:=false) (by simp) (by simp) (fun _=>WL.exit ?_))
  simp
  refine WL.sreg (by simp;rfl) (by simp;rfl) (WL.ret ⟨.inr rfl,?_⟩)
  rw[ixF_end _ _ _ h] at hinv
  simp[fi131,← hinv]
set_option maxHeartbeats 4000000 in
theorem containsfunc (l:List Int)(f:Nat)(cs:List AU)(p:Int→Bool)(hl:Small l.length)(hf:∀ x ∈ l,FnC Try.prog f [] [i64 x,.vptr () cs] [] (bl (p x))):FnC Try.prog 141 [] [sI false l,.clos f [.vptr () cs]] [] (bl (l.any p)):=by
 refine FnC.go ok141 rfl ?_
 refine WL.sreg (by simp;rfl) (by simp;rfl) ?_
 refine WL.sregC (RL.o (by simp;rfl) (RL.call0 false (indexfunc l f cs p hl hf) (by simp) (by simp) (RL.o (by simp;rfl) (RL.nil ⟨_,by simp;rfl,WL.ret ⟨.inr rfl,?_⟩⟩))))
 simp only[fi141,RetOk]
 refine⟨_,by simp;rfl,?_,by simp⟩
 simp
 rw[Bool.eq_iff_iff]
 simp[← ixF_ge p l 0]
def bodyOk (s:St)(i:Nat)(b:List UInt8):Bool:=decide (b.length=16) && (s.There.getD i false || b == List.replicate 16 0)
def handOk (s:St)(l:List Int):Bool:=decide (l.length=6) && !l.any (badH s)
def bodiesOk (s:St):Nat→List (List UInt8)→Bool
 | _,[]=>true
 | i,b :: l=>bodyOk s i b && bodiesOk s (i+1) l
def May (s:St):Bool:=decide (1≤s.There.length) && decide (s.There.length≤48) && decide (s.Body.length=s.There.length) && decide (1≤s.Handles.length) && decide (s.Handles.length≤6) && bodiesOk s 0 s.Body && s.Handles.all (handOk s)
set_option maxHeartbeats 4000000 in
theorem may_fn (s:St)(hs:Sized s):FnC Try.prog 97 [] [encS false s] [] (bl (May s)):=by
 refine FnC.go ok97 rfl ?_
 refine WL.sreg (by simp;rfl) (by simp;rfl) ?_
 refine WL.sdraw mixed (by simp[cleanL,noH]) (by simp;exact⟨rfl,rfl⟩) (by kernel_rfl) (by simp;rfl) ?_
 let T:Int:=s.There.length
 let B:Int:=s.Body.length
 let N:Int:=s.Handles.length
 let c1:Bool:=decide (T < 1) || (decide (48 < T) || (B != T || (decide (N < 1) || decide (6 < N))))
 refine WL.seq (WL.ifEq c1 [(100,0,.bptr 1 1 0),(101,0,sB false s.There),(102,0,sUU false s.Body),(103,0,sII false s.Handles),(199,1,.non),(3500,0,bl c1)] ?_ (by simp) (fun h=>?_) (fun h=>WL.skip ?_))
 ·by_cases h1:(s.There.length:Int) < 1
  ·simp[c1,T,B,N,h1]
  by_cases h2:48 < (s.There.length:Int)
  ·simp[c1,T,B,N,h1,h2]
  by_cases h3:((s.Body.length:Int) != (s.There.length:Int))=true
  ·simp[c1,T,B,N,h1,h2,h3]
  rw[Bool.not_eq_true] at h3
  by_cases h4:(s.Handles.length:Int) < 1
  ·simp[c1,T,B,N,h1,h2,h3,h4]
  simp[c1,T,B,N,h1,h2,h3,h4]
 ·refine WL.sreg (by simp;rfl) (by simp;rfl) (WL.ret ⟨.inr rfl,?_⟩)
  have:May s=false:=by
   simp only[c1,Bool.or_eq_true,decide_eq_true_eq,bne_iff_ne,T,B,N] at h
   rw[Bool.eq_false_iff]
   intro hm
   simp only[May,Bool.and_eq_true,decide_eq_true_eq] at hm
   omega
  simp[fi97,this]
 have hg:1≤s.There.length∧s.There.length≤48∧s.Body.length=s.There.length∧1≤s.Handles.length∧s.Handles.length≤6:=by
  simp only[c1,Bool.or_eq_false_iff,decide_eq_false_iff_not,bne_eq_false_iff_eq,T,B,N] at h
  omega
 have hMay:May s=(bodiesOk s 0 s.Body && s.Handles.all (handOk s)):=by
  simp[May,hg]
 simp only[Ex.thenL_nrm]
 refine WL.seq (WL.sreg (by simp;rfl) (by simp;rfl) ?_)
 have hB:Small s.Body.length:=by have:=hs.b;unfold Small;omega
 refine WL.block (WL.count s.Body.length (fun i=>[(100,0,.bptr 1 1 0),(101,0,sB false s.There),(102,0,sUU false s.Body),(103,0,sII false s.Handles),(199,1,.non),(3700,0,sUU false s.Body),(3800,0,i64 s.Body.length),(3900,0,i64 i)]) (fun i=>bodiesOk s i (s.Body.drop i)=bodiesOk s 0 s.Body) rfl rfl fun i hi hinv=>?_)
 by_cases h:i < s.Body.length
 ·refine WL.sreg (by simp[h];rfl) (by simp;rfl) ?_
  refine WL.seq (WL.cond (t:=true) (by simp) (fun _=>WL.skip ?_) (by simp))
  refine WL.seq (WL.block (WL.sreg (by simp[h];rfl) (by simp;rfl) ?_))
  have hTh:i < s.There.length:=by omega
  rw[List.drop_eq_getElem_cons h] at hinv
  simp only[bodiesOk,bodyOk,List.getD_eq_getElem?_getD,List.getElem?_eq_getElem hTh,Option.getD_some] at hinv
  by_cases hl:((s.Body[i].length:Int) != 16)=true
  ·refine WL.seq (WL.reg (RL.o (by simp[hl];rfl) (RL.g (by simp;rfl) (RL.g (by simp;rfl) (RL.callN (by simp) (RL.g (by simp;rfl) (RL.g (by simp;rfl) (RL.o (by simp;rfl) (RL.nil ⟨_,by simp;rfl,?_⟩)))))))))
   refine WL.cond (t:=true) (by simp) (fun _=>?_) (by simp)
   refine WL.sreg (by simp;rfl) (by simp;rfl) (WL.ret ⟨.inr rfl,?_⟩)
   have h16:¬ s.Body[i].length=16:=by
    have:¬ (s.Body[i].length:Int)=16:=by simpa using hl
    omega
   simp[h16] at hinv
   simp[fi97,hMay,hinv]
  rw[Bool.not_eq_true] at hl
  have h16:s.Body[i].length=16:=by
   have:(s.Body[i].length:Int)=16:=by simpa using hl
   omega
  simp only[h16,decide_true,Bool.true_and] at hinv
  by_cases ht:s.There[i]=true
  ·refine WL.seq (WL.reg (RL.o (by simp[hl];rfl) (RL.g (by simp[hTh,ht];rfl) (RL.g (by simp;rfl) (RL.callN (by simp) (RL.g (by simp;rfl) (RL.g (by simp;rfl) (RL.o (by simp;rfl) (RL.nil ⟨_,by simp;rfl,?_⟩)))))))))
   refine WL.cond (t:=false) (by simp) (by simp) (fun _=>WL.skip ?_)
   refine WL.reg (RL.run (by simp[wrap_succ hB h];rfl) ⟨_,by simp;rfl,?_⟩)
   refine⟨h,by simp,?_⟩
   rw[← hinv];simp[ht]
  ·have ht':s.There[i]=false:=by simpa using ht
   refine WL.seq (WL.reg (RL.o (by simp[hl];rfl) (RL.g (by simp[hTh,ht'];rfl) (RL.g (by simp;rfl) (RL.callY0 true (by simp) (bytes_equal s.Body[i] (List.replicate 16 0)) (by simp[repL]) (by simp) (RL.g (by simp;rfl) (RL.g (by simp;rfl) (RL.o (by simp;rfl) (RL.nil ⟨_,by simp;rfl,?_⟩)))))))))
   refine WL.cond (t:=!(s.Body[i] == List.replicate 16 0)) (by simp) (fun hb=>?_) (fun hb=>WL.skip ?_)
   ·refine WL.sreg (by simp;rfl) (by simp;rfl) (WL.ret ⟨.inr rfl,?_⟩)
    have hb':(s.Body[i] == List.replicate 16 0)=false:=by simpa using hb
    rw[ht',hb'] at hinv
    simp only[Bool.or_self,Bool.false_and] at hinv
    simp[fi97,hMay,hinv.symm]
   ·have hb':(s.Body[i] == List.replicate 16 0)=true:=by simpa using hb
    refine WL.reg (RL.run (by simp[wrap_succ hB h];rfl) ⟨_,by simp;rfl,?_⟩)
    refine⟨h,by simp,?_⟩
    rw[← hinv,hb'];simp
 ·refine WL.sreg (by simp[h];rfl) (by simp;rfl) ?_
  refine WL.seq (WL.cond (t:=false) (by simp) (by simp) (fun _=>WL.exit ?_))
  have hi':i=s.Body.length:=by omega
  subst hi'
  rw[List.drop_of_length_le (Nat.le_refl _)] at hinv
  simp only[bodiesOk] at hinv
  rw[← hinv] at hMay
  simp only[Bool.true_and] at hMay
  simp only[Ex.thenL_ext,Ex.blkL_ext,if_true,Ex.thenL_nrm]
  refine WL.seq (WL.sreg (by simp;rfl) (by simp;rfl) ?_)
  have hH:Small s.Handles.length:=by have:=hs.h;unfold Small;omega
  refine WL.block (WL.count s.Handles.length (fun i=>[(100,0,.bptr 1 1 0),(101,0,sB false s.There),(102,0,sUU false s.Body),(103,0,sII false s.Handles),(199,1,.non),(6300,0,sII false s.Handles),(6400,0,i64 s.Handles.length),(6500,0,i64 i)]) (fun i=>(s.Handles.drop i).all (handOk s)=s.Handles.all (handOk s)) rfl rfl fun i hi hinv=>?_)
  by_cases h:i < s.Handles.length
  ·refine WL.sreg (by simp[h];rfl) (by simp;rfl) ?_
   refine WL.seq (WL.cond (t:=true) (by simp) (fun _=>WL.skip ?_) (by simp))
   refine WL.seq (WL.block (WL.sreg (by simp[h];rfl) (by simp;rfl) ?_))
   rw[List.drop_eq_getElem_cons h] at hinv
   simp only[List.all_cons,handOk] at hinv
   by_cases hl:((s.Handles[i].length:Int) != 6)=true
   ·refine WL.seq (WL.reg (RL.o (by simp[hl];rfl) (RL.g (by simp;rfl) (RL.callN (by simp) (RL.o (by simp;rfl) (RL.nil ⟨_,by simp;rfl,?_⟩))))))
    refine WL.cond (t:=true) (by simp) (fun _=>?_) (by simp)
    refine WL.sreg (by simp;rfl) (by simp;rfl) (WL.ret ⟨.inr rfl,?_⟩)
    have h6:¬ s.Handles[i].length=6:=by
     have:¬ (s.Handles[i].length:Int)=6:=by simpa using hl
     omega
    simp only[h6,decide_false,Bool.false_and] at hinv
    simp[fi97,hMay,← hinv]
   ·rw[Bool.not_eq_true] at hl
    have h6:s.Handles[i].length=6:=by
     have:(s.Handles[i].length:Int)=6:=by simpa using hl
     omega
    simp only[h6,decide_true,Bool.true_and] at hinv
    have hsm:Small s.Handles[i].length:=by unfold Small;omega
    refine WL.seq (WL.reg (RL.o (by simp[hl];rfl) (RL.g (by simp;rfl) (RL.callY0 true (by simp) (containsfunc s.Handles[i] 142 (cellsS false s) (badH s) hsm fun x _=>may1_fn s x) (by simp) (by simp) (RL.o (by simp;rfl) (RL.nil ⟨_,by simp;rfl,?_⟩))))))
    refine WL.cond (t:=s.Handles[i].any (badH s)) (by simp) (fun hb=>?_) (fun hb=>WL.skip ?_)
    ·refine WL.sreg (by simp;rfl) (by simp;rfl) (WL.ret ⟨.inr rfl,?_⟩)
     rw[hb] at hinv
     simp only[Bool.not_true,Bool.false_and] at hinv
     simp[fi97,hMay,← hinv]
    ·refine WL.reg (RL.run (by simp[wrap_succ hH h];rfl) ⟨_,by simp;rfl,?_⟩)
     refine⟨h,by simp,?_⟩
     rw[← hinv,hb];simp
  ·refine WL.sreg (by simp[h];rfl) (by simp;rfl) ?_
   refine WL.seq (WL.cond (t:=false) (by simp) (by simp) (fun _=>WL.exit ?_))
   have hi':i=s.Handles.length:=by omega
   subst hi'
   rw[List.drop_of_length_le (Nat.le_refl _)] at hinv
   simp only[List.all_nil] at hinv
   rw[← hinv] at hMay
   simp only[Ex.thenL_ext,Ex.blkL_ext,if_true,Ex.thenL_nrm]
   refine WL.sreg (by simp;rfl) (by simp;rfl) (WL.ret ⟨.inr rfl,?_⟩)
   simp[fi97,hMay]
end Go.OT
namespace Go.OT
open Go.Proofs
def cnt (p:Int)(l:List Int):Nat:=(l.filter (· == p)).length
def pinsL (p:Int):List (List Int)→Nat
 | []=>0
 | l :: ls=>cnt p l+pinsL p ls
def Pins (s:St)(p:Int):Int:=if p < 0 then 0 else (pinsL p s.Handles:Nat)
theorem pinsL_snoc (p:Int)(l:List (List Int)){i:Nat}(h:i < l.length):pinsL p (l.take (i+1))=pinsL p (l.take i)+cnt p l[i]:=by
 induction l generalizing i with
 | nil=>simp at h
 | cons a l ih =>
  cases i with
  | zero=>simp [pinsL]
  | succ i =>
   simp only[List.length_cons] at h
   simp only[List.take_succ_cons,pinsL,List.getElem_cons_succ,ih (by omega:i < l.length)]
   omega
theorem cnt_snoc (p:Int)(l:List Int){i:Nat}(h:i < l.length):cnt p (l.take (i+1))=cnt p (l.take i)+if l[i]=p then 1 else 0:=by
 unfold cnt
 rw[List.take_succ_eq_append_getElem h,List.filter_append,List.length_append]
 congr 1
 by_cases e:l[i]=p<;>simp [e]
theorem cnt_le (p:Int)(l:List Int):cnt p l≤l.length:=List.length_filter_le _ _
theorem pinsL_le (p:Int):∀ (l:List (List Int)),(∀ x ∈ l,x.length≤1000)→pinsL p l≤1000 * l.length
 | [],_=>by simp[pinsL]
 | a :: l,h=>by
  have h1:=pinsL_le p l fun x hx=>h x (List.mem_cons_of_mem _ hx)
  have h2:=cnt_le p a
  have h3:=h a List.mem_cons_self
  simp only[pinsL,List.length_cons]
  omega
set_option maxHeartbeats 4000000 in
theorem pins_fn (s:St)(hs:Sized s)(p:Int):FnC Try.prog 145 [] [encS false s,i64 p] [] (i64 (Pins s p)):=by
 refine FnC.go ok145 rfl ?_
 refine WL.sreg (by simp;rfl) (by simp;rfl) ?_
 by_cases hp:p < 0
 ·refine WL.seq (WL.sreg (by simp[hp];rfl) (by simp;rfl) (WL.cond (t:=true) (by simp) (fun _=>?_) (by simp)))
  refine WL.sreg (by simp;rfl) (by simp;rfl) (WL.ret ⟨.inr rfl,?_⟩)
  simp[fi145,Pins,hp]
 ·refine WL.seq (WL.sreg (by simp[hp];rfl) (by simp;rfl) (WL.cond (t:=false) (by simp) (by simp) (fun _=>WL.skip ?_)))
  refine WL.sreg (by simp;rfl) (by simp;rfl) ?_
  refine WL.seq (WL.sreg (by simp;rfl) (by simp;rfl) ?_)
  refine WL.block (WL.count s.Handles.length (fun i=>[(100,0,i64 p),(500,0,i64 (pinsL p (s.Handles.take i))),(1300,0,sII false s.Handles),(1400,0,i64 s.Handles.length),(1500,0,i64 i)]) (fun _=>True) (by simp[pinsL]) trivial fun i hi _=>?_)
  have hS:Small s.Handles.length:=by have:=hs.h;unfold Small;omega
  by_cases h:i < s.Handles.length
  ·have hl:s.Handles[i].length≤1000:=hs.hs _ (List.getElem_mem h)
   have hSl:Small s.Handles[i].length:=by unfold Small;omega
   have hle:pinsL p (s.Handles.take i)≤1000 * 1000:=by
    have h1:=pinsL_le p (s.Handles.take i) (fun l hl=>hs.hs l (List.mem_of_mem_take hl))
    have h2:=hs.h
    simp only[List.length_take] at h1
    omega
   refine WL.sreg (by simp[h];rfl) (by simp;rfl) ?_
   refine WL.seq (WL.cond (t:=true) (by simp) (fun _=>WL.skip ?_) (by simp))
   refine WL.seq (WL.block (WL.sreg (by simp[h];rfl) (by simp;rfl) (WL.scope (WL.seq (WL.label ?_)))))
   refine WL.sreg (by simp;rfl) (by simp;rfl) ?_
   refine WL.block (WL.count s.Handles[i].length (fun k=>[(100,0,i64 p),(500,0,i64 (pinsL p (s.Handles.take i)+cnt p (s.Handles[i].take k):Nat)),(1300,0,sII false s.Handles),(1400,0,i64 s.Handles.length),(1500,0,i64 i),(1900,0,sI false s.Handles[i]),(2000,0,i64 s.Handles[i].length),(2100,0,i64 k)]) (fun _=>True) (by simp[cnt]) trivial fun k hk _=>?_)
   by_cases h':k < s.Handles[i].length
   ·have hc:cnt p (s.Handles[i].take k)≤1000:=by
     have:=cnt_le p (s.Handles[i].take k)
     simp only[List.length_take] at this
     omega
    have hS2:Small 1000000000:=by unfold Small;omega
    refine WL.sreg (by simp[h'];rfl) (by simp;rfl) ?_
    refine WL.seq (WL.cond (t:=true) (by simp) (fun _=>WL.skip ?_) (by simp))
    refine WL.seq (WL.block (WL.sreg (by simp[h'];rfl) (by simp;rfl) ?_))
    have hcs:=cnt_snoc p s.Handles[i] h'
    by_cases e:s.Handles[i][k]=p
    ·have eb:(s.Handles[i][k] != p)=false:=by simp[e]
     rw[if_pos e] at hcs
     refine WL.seq (WL.sreg (by simp[eb];rfl) (by simp;rfl) (WL.cond (t:=false) (by simp) (by simp) fun _=>WL.skip ?_))
     have hw:IntKind.wrap .i64 ((pinsL p (s.Handles.take i):Int)+(cnt p (s.Handles[i].take k):Int)+1)=(pinsL p (s.Handles.take i):Int)+(cnt p (s.Handles[i].take k):Int)+1:=by
      simpa using wrap_succ hS2 (show pinsL p (s.Handles.take i)+cnt p (s.Handles[i].take k) < 1000000000 by omega)
     refine WL.reg (RL.run (by simp[hw];rfl) ⟨_,by simp;rfl,?_⟩)
     refine WL.reg (RL.run (by simp[wrap_succ hSl h'];rfl) ⟨_,by simp;rfl,h',?_,trivial⟩)
     simp[hcs]
     omega
    ·have eb:(s.Handles[i][k] != p)=true:=by simp[e]
     rw[if_neg e] at hcs
     refine WL.seq (WL.sreg (by simp[eb];rfl) (by simp;rfl) (WL.cond (t:=true) (by simp) (fun _=>WL.exit ?_) (by simp)))
     refine WL.fin [27] (by simp;rfl) ?_
     refine WL.reg (RL.run (by simp[wrap_succ hSl h'];rfl) ⟨_,by simp;rfl,h',?_,trivial⟩)
     simp[hcs]
   ·refine WL.sreg (by simp[h'];rfl) (by simp;rfl) ?_
    refine WL.seq (WL.cond (t:=false) (by simp) (by simp) fun _=>WL.exit ?_)
    refine WL.reg (RL.run (by simp[wrap_succ hS h];rfl) ⟨_,by simp;rfl,h,?_,trivial⟩)
    have hk':k=s.Handles[i].length:=by omega
    subst hk'
    simp[pinsL_snoc p s.Handles h]
  ·refine WL.sreg (by simp[h];rfl) (by simp;rfl) ?_
   refine WL.seq (WL.cond (t:=false) (by simp) (by simp) fun _=>WL.exit ?_)
   have hi':i=s.Handles.length:=by omega
   subst hi'
   refine WL.sreg (by simp;rfl) (by simp;rfl) (WL.ret ⟨.inr rfl,?_⟩)
   simp[fi145,Pins,hp]
end Go.OT
namespace Go.OT
open Go.Proofs
structure Op where
 Kind:Int
 Page:Int
 Handle:Int
 Off:Int
 N:Int
 Data:List UInt8
 deriving DecidableEq
abbrev encO (o:Bool)(q:Op):AU:=.agg [i64 q.Kind,i64 q.Page,i64 q.Handle,i64 q.Off,i64 q.N,sU o q.Data]
abbrev cellsC (o:Bool)(s:St)(c:Nat)(q:Op):List AU:=[sB o s.There,sUU o s.Body,sII o s.Handles,i64 c,i64 q.Kind,i64 q.Page,i64 q.Handle,i64 q.Off,i64 q.N,sU o q.Data]
abbrev encC (o:Bool)(s:St)(c:Nat)(q:Op):AU:=.agg (cellsC o s c q)
def room (l:List Int):Bool:=l.any (· == -1)
def isPage (s:St)(p:Int):Bool:=decide (0≤p) && decide (p < s.There.length)
def badHd (l:List Int)(h:Int):Bool:=decide (h < 0) || (decide (6≤h) || l.getD h.toNat 0 == -1)
def badRg (q:Op)(n:Int):Bool:=q.Kind != 5 && (decide (q.Off < 0) || (decide (n < 0) || (decide (16 < q.Off) || decide (16 - q.Off < n))))
def codeOf (s:St)(l:List Int)(q:Op):Int :=
 if q.Kind=1 then (if room l=false then 4 else if s.There.any (· == false)=false then 3 else 0)
 else if q.Kind=2∨q.Kind=6∨q.Kind=8 then
  (if isPage s q.Page=false then 1 else if there s q.Page=false then 2 else if q.Kind=2∧room l=false then 4 else if q.Kind=8∧0 < Pins s q.Page then 7 else 0)
 else if q.Kind=3∨q.Kind=4∨q.Kind=5 then
  (if badHd l q.Handle=true then 5 else if badRg q (if q.Kind=4 then q.Data.length else q.N)=true then 6 else 0)
 else if q.Kind=7 then 0 else 1
def cdS (s:St)(c:Nat)(q:Op)(r p i:Bool):SL:=[(100,0,.bptr 1 1 0),(101,0,sB false s.There),(102,0,sUU false s.Body),(103,0,sII false s.Handles),(104,0,i64 c),(105,0,i64 q.Kind),(106,0,i64 q.Page),(107,0,i64 q.Handle),(108,0,i64 q.Off),(109,0,i64 q.N),(110,0,sU false q.Data),(199,1,.non),(300,0,bl r),(400,0,bl p),(500,0,bl i)]
abbrev cdQ (v:Int):Ex→SL→Prop:=fun e L=>(e=Ex.nrm∨e=Ex.ret)∧RetOk fi98.rs [] (i64 v) L
set_option maxHeartbeats 4000000 in
theorem code_new (s:St)(hs:Sized s)(c:Nat)(q:Op)(l:List Int)(p i:Bool)(hk:q.Kind=1):WL Try.prog fi98.nt c98_46 (cdS s c q (room l) p i) (cdQ (codeOf s l q)):=by
 have h1:Small s.There.length:=by have:=hs.t;unfold Small;omega
 refine WL.seq (WL.sreg (by simp[cdS];rfl) (by simp;rfl) ?_)
 refine WL.block (WL.sreg (by simp[hk];rfl) (by simp;rfl) ?_)
 refine WL.cond (t:=true) (by simp) (fun _=>?_) (by simp)
 refine WL.seq (WL.sreg (by simp;rfl) (by simp;rfl) (WL.cond (t:=!room l) (by simp) (fun h=>?_) (fun h=>WL.skip ?_)))
 ·simp only[Bool.not_eq_true'] at h
  refine WL.sreg (by simp;rfl) (by simp;rfl) (WL.ret ⟨.inr rfl,?_⟩)
  simp[fi98,codeOf,hk,h]
 ·simp only[Bool.not_eq_false'] at h
  refine WL.sregC (RL.o (by simp;rfl) (RL.call0 false (contains_bool s.There false h1) (by simp) (by simp) (RL.o (by simp;rfl) (RL.nil ⟨_,by simp;rfl,?_⟩))))
  refine WL.cond (t:=!s.There.any (· == false)) (by simp) (fun h'=>?_) (fun h'=>WL.skip ?_)
  ·simp only[Bool.not_eq_true'] at h'
   refine WL.sreg (by simp;rfl) (by simp;rfl) (WL.ret ⟨.inr rfl,?_⟩)
   simp[fi98,codeOf,hk,h]
   simpa using h'
  ·simp only[Bool.not_eq_false'] at h'
   refine WL.sreg (by simp;rfl) (by simp;rfl) (WL.ret ⟨.inr rfl,?_⟩)
   simp[fi98,codeOf,hk,h]
   simpa using h'
def cdT (s:St)(c:Nat)(q:Op)(r p i b:Bool):SL:=[(100,0,.bptr 1 1 0),(101,0,sB false s.There),(102,0,sUU false s.Body),(103,0,sII false s.Handles),(104,0,i64 c),(105,0,i64 q.Kind),(106,0,i64 q.Page),(107,0,i64 q.Handle),(108,0,i64 q.Off),(109,0,i64 q.N),(110,0,sU false q.Data),(199,1,.non),(300,0,bl r),(400,0,bl p),(500,0,bl i),(3800,0,i64 q.Kind),(4800,0,bl b)]
set_option maxHeartbeats 4000000 in
theorem code_kinds (s:St)(c:Nat)(q:Op)(r p i:Bool)(v:Int)(h1:q.Kind ≠ 1)
  (h:WL Try.prog fi98.nt c98_41 (cdT s c q r p i (q.Kind == 2 || (q.Kind == 6 || q.Kind == 8))) (Ex.blkL 0 (Ex.thenL (fun L'=>WL Try.prog fi98.nt c98_45 L' (cdQ v)) (cdQ v)))):WL Try.prog fi98.nt c98_46 (cdS s c q r p i) (cdQ v):=by
 have e1:(q.Kind == 1)=false:=by simp[h1]
 refine WL.seq (WL.sreg (by simp[cdS];rfl) (by simp;rfl) ?_)
 refine WL.block (WL.sreg (by simp;rfl) (by simp;rfl) ?_)
 refine WL.cond (t:=false) (by simp[e1]) (by simp) (fun _=>?_)
 refine WL.join _ ?_ h
 by_cases h2:q.Kind=2
 ·refine WL.sreg (by simp;rfl) (by simp;rfl) (WL.cond (t:=true) (by simp[h2]) (fun _=>WL.skip ⟨rfl,?_⟩) (by simp))
  simp[cdT,h2]
 have e2:(q.Kind == 2)=false:=by simp[h2]
 refine WL.sreg (by simp;rfl) (by simp;rfl) (WL.cond (t:=false) (by simp[e2]) (by simp) fun _=>?_)
 by_cases h6:q.Kind=6
 ·refine WL.sreg (by simp;rfl) (by simp;rfl) (WL.cond (t:=true) (by simp[h6]) (fun _=>WL.skip ⟨rfl,?_⟩) (by simp))
  simp[cdT,h6]
 have e6:(q.Kind == 6)=false:=by simp[h6]
 refine WL.sreg (by simp;rfl) (by simp;rfl) (WL.cond (t:=false) (by simp[e6]) (by simp) fun _=>?_)
 refine WL.reg (RL.run (by simp;rfl) ⟨_,by simp;rfl,rfl,?_⟩)
 simp[cdT,e2,e6]
set_option maxHeartbeats 4000000 in
theorem code_page (s:St)(hs:Sized s)(c:Nat)(q:Op)(l:List Int)(hk:q.Kind=2∨q.Kind=6∨q.Kind=8):WL Try.prog fi98.nt c98_41 (cdT s c q (room l) (isPage s q.Page) (there s q.Page) true) (Ex.blkL 0 (Ex.thenL (fun L'=>WL Try.prog fi98.nt c98_45 L' (cdQ (codeOf s l q))) (cdQ (codeOf s l q)))):=by
 have h1:q.Kind ≠ 1:=by omega
 refine WL.cond (t:=true) (by simp[cdT]) (fun _=>?_) (by simp)
 refine WL.block (WL.sreg (by simp[cdT];rfl) (by simp;rfl) ?_)
 refine WL.cond (t:=!isPage s q.Page) (by simp) (fun hp=>?_) (fun hp=>?_)
 ·simp only[Bool.not_eq_true'] at hp
  refine WL.sreg (by simp;rfl) (by simp;rfl) (WL.ret ⟨.inr rfl,?_⟩)
  simp[fi98,codeOf,h1,hk,hp]
 simp only[Bool.not_eq_false'] at hp
 refine WL.sreg (by simp;rfl) (by simp;rfl) ?_
 refine WL.cond (t:=!there s q.Page) (by simp) (fun ht=>?_) (fun ht=>?_)
 ·simp only[Bool.not_eq_true'] at ht
  refine WL.sreg (by simp;rfl) (by simp;rfl) (WL.ret ⟨.inr rfl,?_⟩)
  simp[fi98,codeOf,h1,hk,hp,ht]
 simp only[Bool.not_eq_false'] at ht
 refine WL.join [(100,0,.bptr 1 1 0),(101,0,sB false s.There),(102,0,sUU false s.Body),(103,0,sII false s.Handles),(104,0,i64 c),(105,0,i64 q.Kind),(106,0,i64 q.Page),(107,0,i64 q.Handle),(108,0,i64 q.Off),(109,0,i64 q.N),(110,0,sU false q.Data),(199,1,.non),(5800,0,bl (q.Kind == 2 && !room l))] ?_ ?_
 ·by_cases h2:q.Kind=2
  ·refine WL.reg (RL.run (by simp[h2];rfl) ⟨_,by simp;rfl,rfl,?_⟩)
   simp[h2]
  ·have e2:(q.Kind == 2)=false:=by simp[h2]
   refine WL.reg (RL.run (by simp[e2];rfl) ⟨_,by simp;rfl,rfl,?_⟩)
   simp[e2]
 refine WL.cond (t:=q.Kind == 2 && !room l) (by simp) (fun hr=>?_) (fun hr=>?_)
 ·simp only[Bool.and_eq_true,beq_iff_eq,Bool.not_eq_true'] at hr
  refine WL.sreg (by simp;rfl) (by simp;rfl) (WL.ret ⟨.inr rfl,?_⟩)
  simp[fi98,codeOf,hp,ht,hr]
 have hr':¬ (q.Kind=2∧room l=false):=by
  intro⟨a,b⟩
  simp[a,b] at hr
 by_cases h8:q.Kind=8
 ·refine WL.sregC (RL.o (by simp[h8];rfl) (RL.g (by simp;rfl) (RL.callY0 false (by simp) (pins_fn s hs q.Page) (by simp) (by simp) (RL.g (by simp;rfl) (RL.o (by simp;rfl) (RL.nil ⟨_,by simp;rfl,?_⟩))))))
  refine WL.cond (t:=decide (0 < Pins s q.Page)) (by simp) (fun hq=>?_) (fun hq=>WL.skip ?_)
  ·simp only[decide_eq_true_eq] at hq
   refine WL.sreg (by simp;rfl) (by simp;rfl) (WL.ret ⟨.inr rfl,?_⟩)
   simp[fi98,codeOf,hp,ht,h8,hq]
  ·simp only[decide_eq_false_iff_not] at hq
   refine WL.sreg (by simp;rfl) (by simp;rfl) (WL.ret ⟨.inr rfl,?_⟩)
   simp[fi98,codeOf,hp,ht,h8,hq]
 ·have e8:(q.Kind == 8)=false:=by simp[h8]
  refine WL.sregC (RL.o (by simp[e8];rfl) (RL.g (by simp;rfl) (RL.callN (by simp) (RL.g (by simp;rfl) (RL.o (by simp;rfl) (RL.nil ⟨_,by simp;rfl,?_⟩))))))
  refine WL.cond (t:=false) (by simp) (by simp) (fun _=>WL.skip ?_)
  refine WL.sreg (by simp;rfl) (by simp;rfl) (WL.ret ⟨.inr rfl,?_⟩)
  simp[fi98,codeOf,h1,hk,hp,ht,hr',h8]
  intro a b
  exact absurd hk (by omega)
def cdU (s:St)(c:Nat)(q:Op):SL:=[(100,0,.bptr 1 1 0),(101,0,sB false s.There),(102,0,sUU false s.Body),(103,0,sII false s.Handles),(104,0,i64 c),(105,0,i64 q.Kind),(106,0,i64 q.Page),(107,0,i64 q.Handle),(108,0,i64 q.Off),(109,0,i64 q.N),(110,0,sU false q.Data),(199,1,.non)]
set_option maxHeartbeats 4000000 in
theorem code_kinds2 (s:St)(c:Nat)(q:Op)(r p i:Bool)(v:Int)(Q:Ex→SL→Prop)
  (h:WL Try.prog fi98.nt c98_39 (cdU s c q ++ [(3800,0,i64 q.Kind),(8100,0,bl (q.Kind == 3 || (q.Kind == 4 || q.Kind == 5)))]) Q):WL Try.prog fi98.nt c98_41 (cdT s c q r p i false) Q:=by
 refine WL.cond (t:=false) (by simp[cdT]) (by simp) (fun _=>?_)
 refine WL.join _ ?_ h
 by_cases h2:q.Kind=3
 ·refine WL.sreg (by simp[cdT];rfl) (by simp;rfl) (WL.cond (t:=true) (by simp[h2]) (fun _=>WL.skip ⟨rfl,?_⟩) (by simp))
  simp[cdU,h2]
 have e2:(q.Kind == 3)=false:=by simp[h2]
 refine WL.sreg (by simp[cdT];rfl) (by simp;rfl) (WL.cond (t:=false) (by simp[e2]) (by simp) fun _=>?_)
 by_cases h6:q.Kind=4
 ·refine WL.sreg (by simp;rfl) (by simp;rfl) (WL.cond (t:=true) (by simp[h6]) (fun _=>WL.skip ⟨rfl,?_⟩) (by simp))
  simp[cdU,h6]
 have e6:(q.Kind == 4)=false:=by simp[h6]
 refine WL.sreg (by simp;rfl) (by simp;rfl) (WL.cond (t:=false) (by simp[e6]) (by simp) fun _=>?_)
 refine WL.reg (RL.run (by simp;rfl) ⟨_,by simp;rfl,rfl,?_⟩)
 simp[cdU,e2,e6]
set_option maxHeartbeats 4000000 in
theorem code_else (s:St)(c:Nat)(q:Op)(l:List Int)(hk:¬ (q.Kind=1∨q.Kind=2∨q.Kind=6∨q.Kind=8∨q.Kind=3∨q.Kind=4∨q.Kind=5)):WL Try.prog fi98.nt c98_39 (cdU s c q ++ [(3800,0,i64 q.Kind),(8100,0,bl false)]) (Ex.blkL 0 (Ex.thenL (fun L'=>WL Try.prog fi98.nt c98_45 L' (cdQ (codeOf s l q))) (cdQ (codeOf s l q)))):=by
 refine WL.cond (t:=false) (by simp[cdU]) (by simp) (fun _=>?_)
 refine WL.sreg (by simp[cdU];rfl) (by simp;rfl) (WL.cond (t:=q.Kind == 7) (by simp) (fun h=>WL.skip ?_) (fun h=>?_))
 ·refine WL.sreg (by simp;rfl) (by simp;rfl) (WL.ret ⟨.inr rfl,?_⟩)
  simp only[beq_iff_eq] at h
  simp[fi98,codeOf,h]
 ·refine WL.sreg (by simp;rfl) (by simp;rfl) (WL.ret ⟨.inr rfl,?_⟩)
  simp only[beq_eq_false_iff_ne] at h
  simp only[not_or] at hk
  simp[fi98,codeOf,h,hk]
set_option maxHeartbeats 4000000 in
theorem code_hand (s:St)(c:Nat)(hc:c < s.Handles.length)(h6:s.Handles[c].length=6)(q:Op)(hk:q.Kind=3∨q.Kind=4∨q.Kind=5):WL Try.prog fi98.nt c98_39 (cdU s c q ++ [(3800,0,i64 q.Kind),(8100,0,bl true)]) (Ex.blkL 0 (Ex.thenL (fun L'=>WL Try.prog fi98.nt c98_45 L' (cdQ (codeOf s s.Handles[c] q))) (cdQ (codeOf s s.Handles[c] q)))):=by
 refine WL.cond (t:=true) (by simp[cdU]) (fun _=>?_) (by simp)
 refine WL.seq (WL.draw mixed (by simp[cleanL,noH,cdU]) (DL.o (by simp[cdU];exact⟨rfl,rfl⟩) (DL.nil ⟨by kernel_rfl,_,by simp;rfl,?_⟩)))
 generalize hn:(if q.Kind=4 then (q.Data.length:Int) else q.N)=n
 have h1:¬ q.Kind=1:=by omega
 have h2:¬ (q.Kind=2∨q.Kind=6∨q.Kind=8):=by omega
 refine WL.join (cdU s c q ++ [(600,0,i64 q.Handle),(700,0,i64 n)]) ?_ ?_
 ·refine WL.sreg (by simp;rfl) (by simp;rfl) (WL.cond (t:=q.Kind == 4) (by simp) (fun h=>?_) (fun h=>?_))
  ·simp only[beq_iff_eq] at h
   rw[if_pos h] at hn
   refine WL.reg (RL.run (by simp;rfl) ⟨_,by simp;rfl,rfl,?_⟩)
   simp[cdU,hn]
  ·simp only[beq_eq_false_iff_ne] at h
   rw[if_neg h] at hn
   refine WL.fin [94] (by simp;rfl) (WL.skip ⟨rfl,?_⟩)
   simp[cdU,hn]
 refine WL.block (WL.join (cdU s c q ++ [(700,0,i64 n),(9900,0,bl (badHd s.Handles[c] q.Handle))]) ?_ ?_)
 ·by_cases g1:q.Handle < 0
  ·refine WL.reg (RL.run (by simp[cdU,g1];rfl) ⟨_,by simp;rfl,rfl,?_⟩)
   simp[cdU,badHd,g1]
  by_cases g2:6≤q.Handle
  ·refine WL.reg (RL.run (by simp[cdU,g1,g2];rfl) ⟨_,by simp;rfl,rfl,?_⟩)
   simp[cdU,badHd,g2]
  obtain⟨k,hk'⟩:=Int.eq_ofNat_of_zero_le (a:=q.Handle) (by omega)
  have hk6:k < s.Handles[c].length:=by omega
  have g2':¬ 6≤k:=by omega
  have g1k:¬ (k:Int) < 0:=by omega
  have g2k:¬ (6:Int)≤k:=by omega
  refine WL.reg (RL.run (by simp[cdU,hk',g1k,g2k,g2',hc,hk6];rfl) ⟨_,by simp;rfl,rfl,?_⟩)
  simp[cdU,badHd,hk',g1k,g2k,g2',hk6]
 refine WL.cond (t:=badHd s.Handles[c] q.Handle) (by simp[cdU]) (fun hb=>?_) (fun hb=>?_)
 ·refine WL.sreg (by simp[cdU];rfl) (by simp;rfl) (WL.ret ⟨.inr rfl,?_⟩)
  simp[fi98,codeOf,h1,h2,hk,hb]
 refine WL.join [(11900,0,bl (badRg q n))] ?_ ?_
 ·by_cases e5:q.Kind=5
  ·refine WL.reg (RL.run (by simp[cdU,e5];rfl) ⟨_,by simp;rfl,rfl,?_⟩)
   simp[badRg,e5]
  have e5':(q.Kind != 5)=true:=by simp[e5]
  by_cases g1:q.Off < 0
  ·refine WL.reg (RL.run (by simp[cdU,e5',g1];rfl) ⟨_,by simp;rfl,rfl,?_⟩)
   simp[badRg,e5',g1]
  by_cases g2:n < 0
  ·refine WL.reg (RL.run (by simp[cdU,e5',g1,g2];rfl) ⟨_,by simp;rfl,rfl,?_⟩)
   simp[badRg,e5',g1,g2]
  by_cases g3:16 < q.Off
  ·refine WL.reg (RL.run (by simp[cdU,e5',g1,g2,g3];rfl) ⟨_,by simp;rfl,rfl,?_⟩)
   simp[badRg,e5',g1,g2,g3]
  have hw:IntKind.wrap .i64 (16 - q.Off)=16 - q.Off:=by
   have:=wrap_small (x:=16 - q.Off) (by omega) (by omega)
   exact this
  refine WL.reg (RL.run (by simp[cdU,e5',g1,g2,g3,hw];rfl) ⟨_,by simp;rfl,rfl,?_⟩)
  simp[badRg,e5',g1,g2,g3]
 refine WL.cond (t:=badRg q n) (by simp) (fun hb'=>?_) (fun hb'=>WL.skip ?_)
 ·refine WL.sreg (by simp;rfl) (by simp;rfl) (WL.ret ⟨.inr rfl,?_⟩)
  simp[fi98,codeOf,h1,h2,hk,hb,hn,hb']
 ·refine WL.sreg (by simp;rfl) (by simp;rfl) (WL.ret ⟨.inr rfl,?_⟩)
  simp[fi98,codeOf,h1,h2,hk,hb,hn,hb']
set_option maxHeartbeats 4000000 in
theorem code_fn (s:St)(hs:Sized s)(c:Nat)(hc:c < s.Handles.length)(h6:s.Handles[c].length=6)(q:Op):FnC Try.prog 98 [] [encC false s c q] [] (i64 (codeOf s s.Handles[c] q)):=by
 refine FnC.go ok98 rfl ?_
 refine WL.sreg (by simp;rfl) (by simp;rfl) ?_
 have h2:Small s.Handles[c].length:=by unfold Small;omega
 refine WL.sregC (RL.o (by simp[hc];rfl) (RL.call0 false (contains_int s.Handles[c] (-1) h2) (by simp) (by simp) (RL.o (by simp;rfl) (RL.nil ⟨_,by simp;rfl,?_⟩))))
 have key:WL Try.prog fi98.nt c98_46 (cdS s c q (room s.Handles[c]) (isPage s q.Page) (there s q.Page)) (cdQ (codeOf s s.Handles[c] q)):=by
  by_cases k1:q.Kind=1
  ·exact code_new s hs c q _ _ _ k1
  refine code_kinds s c q _ _ _ _ k1 ?_
  by_cases k2:q.Kind=2∨q.Kind=6∨q.Kind=8
  ·have e:(q.Kind == 2 || (q.Kind == 6 || q.Kind == 8))=true:=by simpa using k2
   rw[e]
   exact code_page s hs c q _ k2
  ·have e:(q.Kind == 2 || (q.Kind == 6 || q.Kind == 8))=false:=by simpa using k2
   rw[e]
   refine code_kinds2 s c q _ _ _ (codeOf s s.Handles[c] q) _ ?_
   by_cases k3:q.Kind=3∨q.Kind=4∨q.Kind=5
   ·have e:(q.Kind == 3 || (q.Kind == 4 || q.Kind == 5))=true:=by simpa using k3
    rw[e]
    exact code_hand s c hc h6 q k3
   ·have e:(q.Kind == 3 || (q.Kind == 4 || q.Kind == 5))=false:=by simpa using k3
    rw[e]
    exact code_else s c q _ (by omega)
 by_cases h0:0≤q.Page
 ·refine WL.seq (WL.draw mixed (by simp[cleanL,noH]) (DL.o (by simp[h0];exact⟨rfl,rfl⟩) (DL.g (by simp;exact⟨rfl,rfl⟩) (DL.o (by simp;exact⟨rfl,rfl⟩) (DL.call0 false (there_fn s q.Page) (by simp) (by simp) (DL.o (by simp;exact⟨rfl,rfl⟩) (DL.nil ⟨by kernel_rfl,_,by simp;rfl,?_⟩)))))))
  rw[show isPage s q.Page=decide (q.Page < s.There.length) by simp[isPage,h0]] at key
  exact key
 ·refine WL.seq (WL.draw mixed (by simp[cleanL,noH]) (DL.o (by simp[h0];exact⟨rfl,rfl⟩) (DL.g (by simp;exact⟨rfl,rfl⟩) (DL.o (by simp;exact⟨rfl,rfl⟩) (DL.call0 false (there_fn s q.Page) (by simp) (by simp) (DL.o (by simp;exact⟨rfl,rfl⟩) (DL.nil ⟨by kernel_rfl,_,by simp;rfl,?_⟩)))))))
  rw[show isPage s q.Page=false by simp[isPage,h0]] at key
  exact key
end Go.OT
namespace Go.OT
open Go.Proofs
theorem take_succ_snoc {α:Type}{l:List α}{i:Nat}(h:i < l.length):l.take (i+1)=l.take i ++ [l[i]]:=List.take_succ_eq_append_getElem h
theorem grow_take {α:Type}{f:α→AU}{l:List α}{i:Nat}(h:i < l.length):List.take (i+1) (List.take i (List.take i (l.map f)) ++ [f l[i]])=(l.take (i+1)).map f:=by
 rw[List.take_take,Nat.min_self,List.take_of_length_le (by simp;omega),take_succ_snoc h,List.map_append,List.map_take]
 rfl
set_option maxHeartbeats 1000000 in
theorem own_fn (s:St)(hs:Sized s):FnC Try.prog 146 [] [encS false s] [] (encS true s):=by
 have h1:Small s.There.length:=by have:=hs.t;unfold Small;omega
 have h2:Small s.Body.length:=by have:=hs.b;unfold Small;omega
 have h3:Small s.Handles.length:=by have:=hs.h;unfold Small;omega
 refine FnC.go ok146 rfl ?_
 refine WL.sreg (by simp;rfl) (by simp;rfl) ?_
 refine WL.sregC (RL.o (by simp;rfl) (RL.call0 false (clone_bool s.There h1) (by simp) (by simp) (RL.o (by simp;rfl) (RL.nil ⟨_,by simp;rfl,?_⟩))))
 refine WL.nil1 302 true 1 (by simp) (WL.nil1 303 true 1 (by simp) ?_)
 refine WL.seq (WL.sreg (by simp;rfl) (by simp;rfl) ?_)
 refine WL.block (WL.count s.Body.length (fun i=>[(100,0,.bptr 1 1 0),(101,0,sB false s.There),(102,0,sUU false s.Body),(103,0,sII false s.Handles),(199,1,.non),(200,0,.bptr 2 1 0),(201,0,.sl true () 1 0 []),(202,0,.sl true () 1 0 []),(203,0,.sl true () 1 0 []),(299,1,.non),(300,0,.bptr 3 1 0),(301,0,sB true s.There),(302,0,sUU true (s.Body.take i)),(303,0,.sl true () 1 0 []),(399,1,.non),(1300,0,sUU false s.Body),(1400,0,i64 s.Body.length),(1500,0,i64 i)]) (fun _=>True) rfl trivial fun i hi _=>?_)
 by_cases h:i < s.Body.length
 ·have hb1:Small (s.Body[i]).length:=by have:=hs.bs _ (List.getElem_mem h);unfold Small;omega
  have hn:=hs.b
  have hm1:(i+1) * 24≤140737488355328:=by omega
  have hm2:i+1≤maxLen:=by unfold maxLen;omega
  refine WL.sreg (by simp[h];rfl) (by simp;rfl) ?_
  refine WL.seq (WL.cond (t:=true) (by simp) (fun _=>WL.skip ?_) (by simp))
  refine WL.seq (WL.block (WL.sreg (by simp[h];rfl) (by simp;rfl) ?_))
  refine WL.draw mixed (by simp[cleanL,noH]) (DL.o (by simp[hi];exact⟨rfl,rfl⟩) ?_)
  refine DL.call0 false (bytes_clone s.Body[i] hb1) (by simp) (by simp) ?_
  refine DL.o (by simp[hm1,hm2];exact⟨rfl,rfl⟩) ?_
  refine DL.nil ⟨by kernel_rfl,_,by simp;rfl,?_⟩
  refine WL.reg (RL.run (by simp[wrap_succ h2 h];rfl) ⟨_,by simp;rfl,h,?_,trivial⟩)
  have hg:=grow_take (f:=sU true) h
  simp[hg,Nat.min_eq_left h]
 ·refine WL.sreg (by simp[h];rfl) (by simp;rfl) ?_
  refine WL.seq (WL.cond (t:=false) (by simp) (by simp) fun _=>WL.exit ?_)
  have hi':i=s.Body.length:=by omega
  subst hi'
  refine WL.seq (WL.sreg (by simp;rfl) (by simp;rfl) ?_)
  refine WL.block (WL.count s.Handles.length (fun i=>[(200,0,.bptr 2 1 0),(201,0,.sl true () 1 0 []),(202,0,.sl true () 1 0 []),(203,0,.sl true () 1 0 []),(299,1,.non),(300,0,.bptr 3 1 0),(301,0,sB true s.There),(302,0,sUU true s.Body),(303,0,sII true (s.Handles.take i)),(399,1,.non),(2800,0,sII false s.Handles),(2900,0,i64 s.Handles.length),(3000,0,i64 i)]) (fun _=>True) (by simp) trivial fun i hi _=>?_)
  by_cases h:i < s.Handles.length
  ·have hb1:Small (s.Handles[i]).length:=by have:=hs.hs _ (List.getElem_mem h);unfold Small;omega
   have hn:=hs.h
   have hm1:(i+1) * 24≤140737488355328:=by omega
   have hm2:i+1≤maxLen:=by unfold maxLen;omega
   refine WL.sreg (by simp[h];rfl) (by simp;rfl) ?_
   refine WL.seq (WL.cond (t:=true) (by simp) (fun _=>WL.skip ?_) (by simp))
   refine WL.seq (WL.block (WL.sreg (by simp[h];rfl) (by simp;rfl) ?_))
   refine WL.draw mixed (by simp[cleanL,noH]) (DL.o (by simp[hi];exact⟨rfl,rfl⟩) ?_)
   refine DL.call0 false (clone_int s.Handles[i] hb1) (by simp) (by simp) ?_
   refine DL.o (by simp[hm1,hm2];exact⟨rfl,rfl⟩) ?_
   refine DL.nil ⟨by kernel_rfl,_,by simp;rfl,?_⟩
   refine WL.reg (RL.run (by simp[wrap_succ h3 h];rfl) ⟨_,by simp;rfl,h,?_,trivial⟩)
   have hg:=grow_take (f:=sI true) h
   simp[hg,Nat.min_eq_left h]
  ·refine WL.sreg (by simp[h];rfl) (by simp;rfl) ?_
   refine WL.seq (WL.cond (t:=false) (by simp) (by simp) fun _=>WL.exit ?_)
   have hi':i=s.Handles.length:=by omega
   subst hi'
   refine WL.sreg (by simp;rfl) (by simp;rfl) ?_
   refine WL.ret ⟨.inr rfl,?_⟩
   simp[fi146]
end Go.OT
namespace Go.OT
open Go.Proofs
structure Rs where
 Code:Int
 Page:Int
 Handle:Int
 Data:List UInt8
 deriving DecidableEq
abbrev encR (o:Bool)(r:Rs):AU:=.agg [i64 r.Code,i64 r.Page,i64 r.Handle,sU o r.Data]
def SameRes (a b:Rs):Bool:=a.Code == b.Code && (a.Page == b.Page && (a.Handle == b.Handle && a.Data == b.Data))
set_option maxHeartbeats 4000000 in
theorem sameres_fn (a b:Rs):FnC Try.prog 136 [] [encR false a,encR false b] [] (bl (SameRes a b)):=by
 refine FnC.go ok136 rfl ?_
 refine WL.sreg (by simp;rfl) (by simp;rfl) ?_
 cases e1:a.Code == b.Code with
 | false =>
  refine WL.sregC (RL.o (by simp[e1];rfl) (RL.g (by simp;rfl) (RL.o (by simp;rfl) (RL.g (by simp;rfl) (RL.o (by simp;rfl) (RL.g (by simp;rfl) (RL.callN (by simp) (RL.o (by simp;rfl) (RL.nil ⟨_,by simp;rfl,WL.ret ⟨.inr rfl,?_⟩⟩)))))))))
  simp[fi136,SameRes,e1]
 | true =>
  cases e2:a.Page == b.Page with
  | false =>
   refine WL.sregC (RL.o (by simp[e1];rfl) (RL.g (by simp[e2];rfl) (RL.o (by simp;rfl) (RL.g (by simp;rfl) (RL.o (by simp;rfl) (RL.g (by simp;rfl) (RL.callN (by simp) (RL.o (by simp;rfl) (RL.nil ⟨_,by simp;rfl,WL.ret ⟨.inr rfl,?_⟩⟩)))))))))
   simp[fi136,SameRes,e1,e2]
  | true =>
   cases e3:a.Handle == b.Handle with
   | false =>
    refine WL.sregC (RL.o (by simp[e1];rfl) (RL.g (by simp[e2];rfl) (RL.o (by simp;rfl) (RL.g (by simp[e3];rfl) (RL.o (by simp;rfl) (RL.g (by simp;rfl) (RL.callN (by simp) (RL.o (by simp;rfl) (RL.nil ⟨_,by simp;rfl,WL.ret ⟨.inr rfl,?_⟩⟩)))))))))
    simp[fi136,SameRes,e1,e2,e3]
   | true =>
    refine WL.sregC (RL.o (by simp[e1];rfl) (RL.g (by simp[e2];rfl) (RL.o (by simp;rfl) (RL.g (by simp[e3];rfl) (RL.o (by simp;rfl) (RL.g (by simp;rfl) (RL.callY0 false (by simp) (bytes_equal a.Data b.Data) (by simp) (by simp) (RL.o (by simp;rfl) (RL.nil ⟨_,by simp;rfl,WL.ret ⟨.inr rfl,?_⟩⟩)))))))))
    simp[fi136,SameRes,e1,e2,e3]
end Go.OT
namespace Go.OT
open Go.Proofs
theorem sI_set (o:Bool)(l:List Int)(k:Nat)(v:Int):(sI o (l.set k v):AU)=.sl o () 1 l.length ((l.map i64).set k (.sc (.int .i64 v))):=by
 simp[sI,List.map_set]
theorem noImmU:∀ l:List UInt8,noImmL (l.map fun b=>u8 (b.toNat:Int))=true
 | []=>rfl
 | _ :: l=>noImmU l
theorem isScU (l:List UInt8)(a b:Nat):∀ x ∈ List.take a (List.drop b (l.map fun b=>u8 (b.toNat:Int))),isSc x=true:=by
 intro x hx
 obtain⟨y,_,rfl⟩:=List.mem_map.1 (List.mem_of_mem_drop (List.mem_of_mem_take hx))
 rfl
theorem isScU' (l:List UInt8)(a b:Nat):(∀ x ∈ List.take a (List.drop b (l.map fun b=>u8 (b.toNat:Int))),isSc x=true) ↔ True:=⟨fun _=>trivial,fun _=>isScU l a b⟩
theorem isSc8 (n:Int):isSc (u8 n)=true:=rfl
abbrev b1 (s:St)(c:Nat)(q:Op):SL:=[(100,0,.bptr 1 1 0),(101,0,sB false s.There),(102,0,sUU false s.Body),(103,0,sII false s.Handles),(104,0,i64 c),(105,0,i64 q.Kind),(106,0,i64 q.Page),(107,0,i64 q.Handle),(108,0,i64 q.Off),(109,0,i64 q.N),(110,0,sU false q.Data),(199,1,.non)]
abbrev b23:SL:=[(200,0,.bptr 2 1 0),(201,0,.sl true () 1 0 []),(202,0,.sl true () 1 0 []),(203,0,.sl true () 1 0 []),(299,1,.non),(300,0,.bptr 3 1 0),(301,0,i64 0),(302,0,i64 0),(303,0,i64 0),(304,0,.sl true () 1 0 []),(399,1,.non)]
abbrev b4 (t b h:AU):SL:=[(400,0,.bptr 4 1 0),(401,0,t),(402,0,b),(403,0,h),(499,1,.non)]
abbrev b5 (p h:Int)(d:AU):SL:=[(500,0,.bptr 5 1 0),(501,0,i64 0),(502,0,i64 p),(503,0,i64 h),(504,0,d),(599,1,.non)]
abbrev nilS:AU:=.sc (.slice none 0 0)
abbrev dBase (s:St)(c:Nat)(n:Nat)(q:Op):SL:=b1 s c q ++ (b23 ++ (b4 (sB true s.There) (sUU true s.Body) (sII true s.Handles) ++ (b5 0 0 nilS ++ [(600,0,.view 403 0 [c] 0 n)])))
abbrev dIn (s:St)(c:Nat)(n:Nat)(q:Op)(k:Nat):SL:=dBase s c n q ++ [(1900,0,i64 q.Kind),(k,0,bl true)]
abbrev dEnd (t b h:AU)(p k:Int)(d:AU):SL:=b23 ++ (b4 t b h ++ b5 p k d)
abbrev atEnd (L':SL):Ex→SL→Prop:=fun e L=>e=Ex.nrm∧L=L'
set_option maxHeartbeats 4000000 in
theorem do_new (s:St)(hs:Sized s)(c:Nat)(hc:c < s.Handles.length)(q:Op)(i k:Nat)(hi:i < s.There.length)(hix:ixF (· == false) s.There 0=i)(hk:k < s.Handles[c].length)(hkx:ixF (· == -1) s.Handles[c] 0=k) :
  WL Try.prog fi99.nt c99_3 (dIn s c s.Handles[c].length q 2000) (atEnd (dEnd (sB true (s.There.set i true)) (sUU true s.Body) (sII true (s.Handles.set c (s.Handles[c].set k i))) i k nilS)):=by
 have h1:Small s.There.length:=by have:=hs.t;unfold Small;omega
 have h2:Small s.Handles[c].length:=by have:=hs.hs _ (List.getElem_mem hc);unfold Small;omega
 have e1:=index_bool s.There false h1
 have e2:=index_int s.Handles[c] (-1) h2
 rw[hix] at e1
 rw[hkx] at e2
 refine WL.sregC (RL.o (by simp;rfl) (RL.call0 true e1 (by simp) (by simp) (RL.o (by simp;rfl) (RL.nil ⟨_,by simp;rfl,?_⟩))))
 refine WL.sreg (by simp[hi,Nat.succ_le_of_lt hi];rfl) (by simp;rfl) ?_
 refine WL.sregC (RL.o (by simp[hc];rfl) (RL.call0 true e2 (by simp[hc]) (by simp) (RL.o (by simp;rfl) (RL.nil ⟨_,by simp;rfl,?_⟩))))
 refine WL.reg (RL.run (by simp[hc,hk,Nat.succ_le_of_lt hk];rfl) ⟨_,by simp;rfl,rfl,?_⟩)
 simp[List.map_set]
 rw[sI_set]
set_option maxHeartbeats 4000000 in
theorem do_fetch (s:St)(hs:Sized s)(c:Nat)(hc:c < s.Handles.length)(q:Op)(k:Nat)(hk:k < s.Handles[c].length)(hkx:ixF (· == -1) s.Handles[c] 0=k) :
  WL Try.prog fi99.nt c99_5 (dIn s c s.Handles[c].length q 4000) (atEnd (dEnd (sB true s.There) (sUU true s.Body) (sII true (s.Handles.set c (s.Handles[c].set k q.Page))) q.Page k nilS)):=by
 have h2:Small s.Handles[c].length:=by have:=hs.hs _ (List.getElem_mem hc);unfold Small;omega
 have e2:=index_int s.Handles[c] (-1) h2
 rw[hkx] at e2
 refine WL.seq (WL.draw mixed (by simp[cleanL,noH]) (DL.o (by simp[hc];exact⟨rfl,rfl⟩) (DL.call0 true e2 (by simp[hc]) (by simp) (DL.o (by simp;exact⟨rfl,rfl⟩) (DL.nil ⟨by kernel_rfl,_,by simp;rfl,?_⟩)))))
 refine WL.reg (RL.run (by simp[hc,hk,Nat.succ_le_of_lt hk];rfl) ⟨_,by simp;rfl,rfl,?_⟩)
 simp[List.map_set]
 rw[sI_set]
set_option maxHeartbeats 4000000 in
theorem do_unpin (s:St)(c:Nat)(hc:c < s.Handles.length)(q:Op)(k:Nat)(hk:k < s.Handles[c].length)(hq:q.Handle=k) :
  WL Try.prog fi99.nt c99_8 (dIn s c s.Handles[c].length q 10000) (atEnd (dEnd (sB true s.There) (sUU true s.Body) (sII true (s.Handles.set c (s.Handles[c].set k (-1)))) 0 0 nilS)):=by
 refine WL.reg (RL.run (by simp[hc,hk,hq,Nat.succ_le_of_lt hk];rfl) ⟨_,by simp;rfl,rfl,?_⟩)
 simp[List.map_set]
 rw[sI_set]
set_option maxHeartbeats 4000000 in
theorem do_read (s:St)(hs:Sized s)(c:Nat)(hc:c < s.Handles.length)(q:Op)(k:Nat)(hk:k < s.Handles[c].length)(hq:q.Handle=k)(m:Nat)(hm:s.Handles[c][k]=m)(hmb:m < s.Body.length)(o n:Nat)(ho:q.Off=o)(hn:q.N=n)(hon:o+n≤16)(h16:s.Body[m].length=16) :
  WL Try.prog fi99.nt c99_6 (dIn s c s.Handles[c].length q 5500) (atEnd (dEnd (sB true s.There) (sUU true s.Body) (sII true s.Handles) 0 0 (sU true ((s.Body[m].drop o).take n)))):=by
 have h2:Small ((s.Body[m].drop o).take n).length:=by simp only[List.length_take,List.length_drop];unfold Small;omega
 have e2:=bytes_clone ((s.Body[m].drop o).take n) h2
 obtain⟨e,he⟩:∃ e,e=o+n:=⟨_,rfl⟩
 have hw:IntKind.wrap .i64 ((o:Int)+(n:Int))=(e:Int):=by rw[wrap_small (by omega) (by omega)];omega
 have f1:o≤e:=by omega
 have f2:e≤16:=by omega
 have f3:e - o=n:=by omega
 refine WL.draw mixed (by simp[cleanL,noH]) (DL.o (by simp[hc,hk,hq,hm,hmb,ho,hn,h16,hw,f1,f2,f3,Nat.succ_le_of_lt hk,Nat.succ_le_of_lt hmb];exact⟨rfl,rfl⟩) ?_)
 have f4:min n (16 - o)=n:=by omega
 refine DL.call0 true e2 (by simp[-List.map_take,-List.map_drop,← List.map_take,← List.map_drop,hc,hmb,h16,f4]) (by simp[-List.map_take,-List.map_drop,noImmU]) ?_
 refine DL.o (by simp;exact⟨rfl,rfl⟩) (DL.nil ⟨by kernel_rfl,_,by simp;rfl,rfl,?_⟩)
 simp[h16,f4,List.take_take]
def over (b:List UInt8)(k:Nat)(d:List UInt8):List UInt8:=b.take k ++ d ++ b.drop (k+d.length)
theorem sU_over {b:List UInt8}{o:Nat}{d:List UInt8}(h:b.length=16)(hd:o+d.length≤16):(sU true (over b o d):AU)=.sl true () 1 16 (splice (b.map fun b=>u8 (b.toNat:Int)) o (d.map fun b=>u8 (b.toNat:Int))):=by
 have:(over b o d).length=16:=by simp only[over,List.length_append,List.length_take,List.length_drop];omega
 show (AV.sl true () 1 (over b o d).length ((over b o d).map _):AU)=_
 rw[this]
 simp only[over,splice,List.map_append,List.map_take,List.map_drop,List.length_map]
set_option maxHeartbeats 4000000 in
theorem do_write (s:St)(hs:Sized s)(c:Nat)(hc:c < s.Handles.length)(q:Op)(k:Nat)(hk:k < s.Handles[c].length)(hq:q.Handle=k)(m:Nat)(hm:s.Handles[c][k]=m)(hmb:m < s.Body.length)(o:Nat)(ho:q.Off=o)(hon:o+q.Data.length≤16)(h16:s.Body[m].length=16) :
  WL Try.prog fi99.nt c99_7 (dIn s c s.Handles[c].length q 8000) (atEnd (dEnd (sB true s.There) (sUU true (s.Body.set m (over s.Body[m] o q.Data))) (sII true s.Handles) 0 0 nilS)):=by
 have f1:o≤16:=by omega
 have f4:min q.Data.length (16 - o)=q.Data.length:=by omega
 refine WL.draw mixed (by simp[cleanL,noH]) (DL.o (by simp[-isSc,isScU',isSc8,hon,f4,hc,hk,hq,hm,hmb,ho,h16,f1,Nat.succ_le_of_lt hk,Nat.succ_le_of_lt hmb];exact⟨rfl,rfl⟩) (DL.nil ⟨by kernel_rfl,_,by simp;rfl,rfl,?_⟩))
 simp[List.map_set]
 rw[sU_over h16 hon]
set_option maxHeartbeats 4000000 in
theorem do_delete (s:St)(c:Nat)(n:Nat)(q:Op)(m:Nat)(hq:q.Page=m)(ht:m < s.There.length)(hb:m < s.Body.length) :
  WL Try.prog fi99.nt c99_9 (b1 s c q ++ (b23 ++ (b4 (sB true s.There) (sUU true s.Body) (sII true s.Handles) ++ (b5 0 0 nilS ++ [(10700,0,bl true)])))) (atEnd (dEnd (sB true (s.There.set m false)) (sUU true (s.Body.set m (List.replicate 16 0))) (sII true s.Handles) 0 0 nilS)):=by
 refine WL.draw mixed (by simp[cleanL,noH]) (DL.o (by simp[hq,ht,hb,repL,Nat.succ_le_of_lt ht,Nat.succ_le_of_lt hb];exact⟨rfl,rfl⟩) (DL.nil ⟨by kernel_rfl,_,by simp;rfl,rfl,?_⟩))
 simp[List.map_set]
 rfl
set_option maxHeartbeats 4000000 in
theorem do_end (T:List Bool)(B:List (List UInt8))(Hs:List (List Int))(p k:Int)(d:List UInt8):WL Try.prog fi99.nt c99_22 (dEnd (sB true T) (sUU true B) (sII true Hs) p k (sU true d)) fun e L=>(e=Ex.nrm∨e=Ex.ret)∧RetOk fi99.rs [] (.tuple [encS true ⟨T,B,Hs⟩,encR true ⟨0,p,k,d⟩]) L:=by
 refine WL.seq (WL.draw mixed (by simp[cleanL,noH]) (DL.o (by simp;exact⟨rfl,rfl⟩) (DL.nil ⟨by kernel_rfl,_,by simp;rfl,?_⟩)))
 refine WL.ret ⟨.inr rfl,?_⟩
 simp[fi99]
set_option maxHeartbeats 4000000 in
theorem do_fn (s:St)(hs:Sized s)(c:Nat)(hc:c < s.Handles.length)(q:Op)(T:List Bool)(B:List (List UInt8))(Hs:List (List Int))(p k:Int)(d:List UInt8)(dt:AU)(hd:dt=sU true d∨(dt=nilS∧d=[]))
  (h:WL Try.prog fi99.nt c99_21 (dBase s c s.Handles[c].length q ++ [(1900,0,i64 q.Kind)]) (atEnd (dEnd (sB true T) (sUU true B) (sII true Hs) p k dt))):FnC Try.prog 99 [] [encC false s c q] [] (.tuple [encS true ⟨T,B,Hs⟩,encR true ⟨0,p,k,d⟩]):=by
 refine FnC.go ok99 rfl ?_
 refine WL.sreg (by simp;rfl) (by simp;rfl) ?_
 refine WL.sregC (RL.o (by simp;rfl) (RL.call0 false (own_fn s hs) (by simp) (by simp) (RL.o (by simp;rfl) (RL.nil ⟨_,by simp;rfl,?_⟩))))
 refine WL.sreg (by simp[hc,Nat.succ_le_of_lt hc];rfl) (by simp;rfl) ?_
 refine WL.seq (WL.sreg (by simp;rfl) (by simp;rfl) ?_)
 refine WL.mono h fun e L ⟨h1,h2⟩=>?_
 subst h1 h2
 rcases hd with rfl | ⟨rfl,rfl⟩
 ·exact do_end T B Hs p k d
 ·refine WL.nil1 504 true 1 (by simp) ?_
  exact do_end T B Hs p k []
end Go.OT
namespace Go.OT
open Go.Proofs
abbrev dGo (s:St)(c:Nat)(n:Nat)(q:Op):SL:=dBase s c n q ++ [(1900,0,i64 q.Kind)]
theorem blk_end {cc:Cd}{L L':SL}{P:Program}{nt i:Nat}(h:WL P nt cc L (atEnd L')):WL P nt cc L (Ex.blkL i (atEnd L')) :=
 h.mono fun e L1 ⟨h1,h2⟩=>by subst h1;exact⟨rfl,h2⟩
set_option maxHeartbeats 4000000 in
theorem dsp1 (s:St)(c n:Nat)(q:Op)(L':SL)(hk:q.Kind=1)(h:WL Try.prog fi99.nt c99_3 (dIn s c n q 2000) (atEnd L')):WL Try.prog fi99.nt c99_21 (dGo s c n q) (atEnd L'):=by
 obtain⟨K,P,hd,o,nn,d⟩:=q
 cases hk
 refine WL.block (WL.sreg (by first | (simp;done) | (simp;rfl)) (by first | (simp;done) | (simp;rfl)) (WL.cond (t:=true) (by simp) (fun _=>blk_end h) (by simp)))
set_option maxHeartbeats 4000000 in
theorem dsp2 (s:St)(c n:Nat)(q:Op)(L':SL)(hk:q.Kind=2)(h:WL Try.prog fi99.nt c99_5 (dIn s c n q 4000) (atEnd L')):WL Try.prog fi99.nt c99_21 (dGo s c n q) (atEnd L'):=by
 obtain⟨K,P,hd,o,nn,d⟩:=q
 cases hk
 refine WL.block (WL.sreg (by first | (simp;done) | (simp;rfl)) (by first | (simp;done) | (simp;rfl)) (WL.cond (t:=false) (by simp) (by simp) fun _=>?_))
 refine WL.sreg (by first | (simp;done) | (simp;rfl)) (by first | (simp;done) | (simp;rfl)) (WL.cond (t:=true) (by simp) (fun _=>blk_end h) (by simp))
set_option maxHeartbeats 4000000 in
theorem dsp3 (s:St)(c n:Nat)(q:Op)(L':SL)(hk:q.Kind=3)(h:WL Try.prog fi99.nt c99_6 (dIn s c n q 5500) (atEnd L')):WL Try.prog fi99.nt c99_21 (dGo s c n q) (atEnd L'):=by
 obtain⟨K,P,hd,o,nn,d⟩:=q
 cases hk
 refine WL.block (WL.sreg (by first | (simp;done) | (simp;rfl)) (by first | (simp;done) | (simp;rfl)) (WL.cond (t:=false) (by simp) (by simp) fun _=>?_))
 refine WL.sreg (by first | (simp;done) | (simp;rfl)) (by first | (simp;done) | (simp;rfl)) (WL.cond (t:=false) (by simp) (by simp) fun _=>?_)
 refine WL.sreg (by first | (simp;done) | (simp;rfl)) (by first | (simp;done) | (simp;rfl)) (WL.cond (t:=true) (by simp) (fun _=>blk_end h) (by simp))
set_option maxHeartbeats 4000000 in
theorem dsp4 (s:St)(c n:Nat)(q:Op)(L':SL)(hk:q.Kind=4)(h:WL Try.prog fi99.nt c99_7 (dIn s c n q 8000) (atEnd L')):WL Try.prog fi99.nt c99_21 (dGo s c n q) (atEnd L'):=by
 obtain⟨K,P,hd,o,nn,d⟩:=q
 cases hk
 refine WL.block (WL.sreg (by first | (simp;done) | (simp;rfl)) (by first | (simp;done) | (simp;rfl)) (WL.cond (t:=false) (by simp) (by simp) fun _=>?_))
 refine WL.sreg (by first | (simp;done) | (simp;rfl)) (by first | (simp;done) | (simp;rfl)) (WL.cond (t:=false) (by simp) (by simp) fun _=>?_)
 refine WL.sreg (by first | (simp;done) | (simp;rfl)) (by first | (simp;done) | (simp;rfl)) (WL.cond (t:=false) (by simp) (by simp) fun _=>?_)
 refine WL.sreg (by first | (simp;done) | (simp;rfl)) (by first | (simp;done) | (simp;rfl)) (WL.cond (t:=true) (by simp) (fun _=>blk_end h) (by simp))
set_option maxHeartbeats 4000000 in
theorem dsp5 (s:St)(c n:Nat)(q:Op)(L':SL)(hk:q.Kind=5)(h:WL Try.prog fi99.nt c99_8 (dIn s c n q 10000) (atEnd L')):WL Try.prog fi99.nt c99_21 (dGo s c n q) (atEnd L'):=by
 obtain⟨K,P,hd,o,nn,d⟩:=q
 cases hk
 refine WL.block (WL.sreg (by first | (simp;done) | (simp;rfl)) (by first | (simp;done) | (simp;rfl)) (WL.cond (t:=false) (by simp) (by simp) fun _=>?_))
 refine WL.sreg (by first | (simp;done) | (simp;rfl)) (by first | (simp;done) | (simp;rfl)) (WL.cond (t:=false) (by simp) (by simp) fun _=>?_)
 refine WL.sreg (by first | (simp;done) | (simp;rfl)) (by first | (simp;done) | (simp;rfl)) (WL.cond (t:=false) (by simp) (by simp) fun _=>?_)
 refine WL.sreg (by first | (simp;done) | (simp;rfl)) (by first | (simp;done) | (simp;rfl)) (WL.cond (t:=false) (by simp) (by simp) fun _=>?_)
 refine WL.sreg (by first | (simp;done) | (simp;rfl)) (by first | (simp;done) | (simp;rfl)) (WL.cond (t:=true) (by simp) (fun _=>blk_end h) (by simp))
set_option maxHeartbeats 4000000 in
theorem dsp8 (s:St)(c n:Nat)(q:Op)(L':SL)(hk:q.Kind=8)(h:WL Try.prog fi99.nt c99_9 (b1 s c q ++ (b23 ++ (b4 (sB true s.There) (sUU true s.Body) (sII true s.Handles) ++ (b5 0 0 nilS ++ [(10700,0,bl true)])))) (atEnd L')):WL Try.prog fi99.nt c99_21 (dGo s c n q) (atEnd L'):=by
 obtain⟨K,P,hd,o,nn,d⟩:=q
 cases hk
 refine WL.block (WL.sreg (by first | (simp;done) | (simp;rfl)) (by first | (simp;done) | (simp;rfl)) (WL.cond (t:=false) (by simp) (by simp) fun _=>?_))
 refine WL.sreg (by first | (simp;done) | (simp;rfl)) (by first | (simp;done) | (simp;rfl)) (WL.cond (t:=false) (by simp) (by simp) fun _=>?_)
 refine WL.sreg (by first | (simp;done) | (simp;rfl)) (by first | (simp;done) | (simp;rfl)) (WL.cond (t:=false) (by simp) (by simp) fun _=>?_)
 refine WL.sreg (by first | (simp;done) | (simp;rfl)) (by first | (simp;done) | (simp;rfl)) (WL.cond (t:=false) (by simp) (by simp) fun _=>?_)
 refine WL.sreg (by first | (simp;done) | (simp;rfl)) (by first | (simp;done) | (simp;rfl)) (WL.cond (t:=false) (by simp) (by simp) fun _=>?_)
 refine WL.sreg (by first | (simp;done) | (simp;rfl)) (by first | (simp;done) | (simp;rfl)) (WL.cond (t:=true) (by simp) (fun _=>blk_end h) (by simp))
set_option maxHeartbeats 4000000 in
theorem dsp0 (s:St)(c n:Nat)(q:Op)(hk:¬ (q.Kind=1∨q.Kind=2∨q.Kind=3∨q.Kind=4∨q.Kind=5∨q.Kind=8)):WL Try.prog fi99.nt c99_21 (dGo s c n q) (atEnd (dEnd (sB true s.There) (sUU true s.Body) (sII true s.Handles) 0 0 nilS)):=by
 have e1:(q.Kind == 1)=false:=by simp;omega
 have e2:(q.Kind == 2)=false:=by simp;omega
 have e3:(q.Kind == 3)=false:=by simp;omega
 have e4:(q.Kind == 4)=false:=by simp;omega
 have e5:(q.Kind == 5)=false:=by simp;omega
 have e8:(q.Kind == 8)=false:=by simp;omega
 refine WL.block (WL.sreg (by first | (simp;done) | (simp;rfl)) (by first | (simp;done) | (simp;rfl)) (WL.cond (t:=false) (by simp[e1]) (by simp) fun _=>?_))
 refine WL.sreg (by first | (simp;done) | (simp;rfl)) (by first | (simp;done) | (simp;rfl)) (WL.cond (t:=false) (by simp[e2]) (by simp) fun _=>?_)
 refine WL.sreg (by first | (simp;done) | (simp;rfl)) (by first | (simp;done) | (simp;rfl)) (WL.cond (t:=false) (by simp[e3]) (by simp) fun _=>?_)
 refine WL.sreg (by first | (simp;done) | (simp;rfl)) (by first | (simp;done) | (simp;rfl)) (WL.cond (t:=false) (by simp[e4]) (by simp) fun _=>?_)
 refine WL.sreg (by first | (simp;done) | (simp;rfl)) (by first | (simp;done) | (simp;rfl)) (WL.cond (t:=false) (by simp[e5]) (by simp) fun _=>?_)
 refine WL.sreg (by first | (simp;done) | (simp;rfl)) (by first | (simp;done) | (simp;rfl)) (WL.cond (t:=false) (by simp[e8]) (by simp) fun _=>?_)
 refine WL.fin [1,107] (by first | (simp;done) | (simp;rfl)) (WL.skip ⟨rfl,?_⟩)
 simp
end Go.OT
namespace Go.OT
open Go.Proofs
def rsE (e:Int):Rs:=⟨e,0,0,[]⟩
def noCall (s:St)(cl:Int):Bool:=!May s || (decide (cl < 0) || decide ((s.Handles.length:Int)≤cl))
abbrev DQ (v:AU):Ex→SL→Prop:=fun e L=>(e=Ex.nrm∨e=Ex.ret)∧RetOk fi44.rs [] v L
abbrev RQ (v:AU):Ex→SL→Prop:=fun e L=>e=Ex.ret∧RetOk fi44.rs [] v L
abbrev dArgs (s:St)(cl:Int)(q:Op):SL:=[(100,0,i64 cl),(300,0,.bptr 3 1 0),(301,0,sB false s.There),(302,0,sUU false s.Body),(303,0,sII false s.Handles),(399,1,.non),(500,0,.bptr 5 1 0),(501,0,i64 q.Kind),(502,0,i64 q.Page),(503,0,i64 q.Handle),(504,0,i64 q.Off),(505,0,i64 q.N),(506,0,sU false q.Data),(599,1,.non)]
abbrev dRes:SL:=[(600,0,.bptr 6 1 0),(601,0,.sl true () 1 0 []),(602,0,.sl true () 1 0 []),(603,0,.sl true () 1 0 []),(699,1,.non),(700,0,.bptr 7 1 0),(701,0,i64 0),(702,0,i64 0),(703,0,i64 0),(704,0,.sl true () 1 0 []),(799,1,.non)]
set_option maxHeartbeats 4000000 in
theorem Do_look (s:St)(hs:Sized s)(cl:Int)(q:Op)(v:AU)(h1:noCall s cl=true→WL Try.prog fi44.nt c44_0 (dArgs s cl q ++ (dRes ++ [(2300,0,bl true)])) (RQ v))
  (h2:noCall s cl=false→WL Try.prog fi44.nt c44_7 (dArgs s cl q ++ (dRes ++ [(2300,0,bl false)])) (DQ v)):FnC Try.prog 44 [] [encS false s,i64 cl,encO false q] [] v:=by
 refine FnC.go ok44 rfl ?_
 refine WL.sreg (by simp;rfl) (by simp;rfl) ?_
 refine WL.seq (WL.join (dArgs s cl q ++ (dRes ++ [(2300,0,bl (noCall s cl))])) ?_ ?_)
 ·by_cases hm:May s=true
  ·by_cases g1:cl < 0
   ·refine WL.reg (RL.o (by simp;rfl) (RL.call0 false (may_fn s hs) (by simp) (by simp) (RL.o (by simp[hm];rfl) (RL.g (by simp;rfl) (RL.o (by simp[g1];rfl) (RL.g (by simp;rfl) (RL.o (by simp;rfl) (RL.nil ⟨_,by simp;rfl,rfl,?_⟩))))))))
    simp[noCall,hm,g1]
   ·refine WL.reg (RL.o (by simp;rfl) (RL.call0 false (may_fn s hs) (by simp) (by simp) (RL.o (by simp[hm];rfl) (RL.g (by simp;rfl) (RL.o (by simp[g1];rfl) (RL.g (by simp;rfl) (RL.o (by simp;rfl) (RL.nil ⟨_,by simp;rfl,rfl,?_⟩))))))))
    simp[noCall,hm,g1]
  ·have hm':May s=false:=by simpa using hm
   refine WL.reg (RL.o (by simp;rfl) (RL.call0 false (may_fn s hs) (by simp) (by simp) (RL.o (by simp[hm'];rfl) (RL.g (by simp;rfl) (RL.o (by simp;rfl) (RL.g (by simp;rfl) (RL.o (by simp;rfl) (RL.nil ⟨_,by simp;rfl,rfl,?_⟩))))))))
   simp[noCall,hm']
 ·cases hb:noCall s cl with
  | true =>
   refine WL.cond (t:=true) (by simp) (fun _=>?_) (by simp)
   exact (h1 hb).mono fun e L ⟨h,h'⟩=>by subst h;exact⟨.inr rfl,h'⟩
  | false =>
   refine WL.cond (t:=false) (by simp) (by simp) (fun _=>WL.skip ?_)
   exact h2 hb
set_option maxHeartbeats 4000000 in
theorem Do_none (s:St)(hs:Sized s)(cl:Int)(q:Op)(hn:noCall s cl=true):FnC Try.prog 44 [] [encS false s,i64 cl,encO false q] [] (.tuple [encS false s,encR true (rsE 1)]):=by
 refine Do_look s hs cl q _ (fun _=>?_) (fun h=>by rw[hn] at h;cases h)
 refine WL.sreg (by simp;rfl) (by simp;rfl) ?_
 refine WL.nil1 704 true 1 (by simp) (WL.ret ⟨rfl,?_⟩)
 simp[fi44,rsE]
set_option maxHeartbeats 4000000 in
theorem Do_code (s:St)(hs:Sized s)(c:Nat)(hc:c < s.Handles.length)(h6:s.Handles[c].length=6)(q:Op)(hn:noCall s c=false)(he:codeOf s s.Handles[c] q ≠ 0):FnC Try.prog 44 [] [encS false s,i64 c,encO false q] [] (.tuple [encS false s,encR true (rsE (codeOf s s.Handles[c] q))]):=by
 refine Do_look s hs c q _ (fun h=>by rw[hn] at h;cases h) (fun _=>?_)
 refine WL.sreg (by simp;rfl) (by simp;rfl) ?_
 refine WL.seq (WL.sregC (RL.o (by simp;rfl) (RL.call0 false (code_fn s hs c hc h6 q) (by simp) (by simp) (RL.o (by simp;rfl) (RL.nil ⟨_,by simp;rfl,?_⟩)))))
 have hb:(codeOf s s.Handles[c] q != 0)=true:=by simp[he]
 refine WL.sreg (by simp;rfl) (by simp;rfl) (WL.cond (t:=true) (by simp[hb]) (fun _=>?_) (by simp))
 refine WL.sreg (by simp;rfl) (by simp;rfl) ?_
 refine WL.nil1 704 true 1 (by simp) (WL.ret ⟨.inr rfl,?_⟩)
 simp[fi44,rsE]
set_option maxHeartbeats 4000000 in
theorem Do_ok (s:St)(hs:Sized s)(c:Nat)(hc:c < s.Handles.length)(h6:s.Handles[c].length=6)(q:Op)(hn:noCall s c=false)(he:codeOf s s.Handles[c] q=0)(s':St)(r:Rs)(hd:FnC Try.prog 99 [] [encC false s c q] [] (.tuple [encS true s',encR true r])):FnC Try.prog 44 [] [encS false s,i64 c,encO false q] [] (.tuple [encS true s',encR true r]):=by
 refine Do_look s hs c q _ (fun h=>by rw[hn] at h;cases h) (fun _=>?_)
 refine WL.sreg (by simp;rfl) (by simp;rfl) ?_
 have e35:=code_fn s hs c hc h6 q
 rw[he] at e35
 refine WL.seq (WL.sregC (RL.o (by simp;rfl) (RL.call0 false e35 (by simp) (by simp) (RL.o (by simp;rfl) (RL.nil ⟨_,by simp;rfl,?_⟩)))))
 refine WL.sreg (by simp;rfl) (by simp;rfl) (WL.cond (t:=false) (by simp) (by simp) (fun _=>WL.skip ?_))
 refine WL.sregC (RL.o (by simp;rfl) (RL.call0 false hd (by simp) (by simp) (RL.o (by simp;rfl) (RL.nil ⟨_,by simp;rfl,?_⟩))))
 refine WL.ret ⟨.inr rfl,?_⟩
 simp[fi44]
end Go.OT
namespace Go.OT
open Go.Proofs
structure OkSt (s:St):Prop where
 n1:1≤s.There.length
 n2:s.There.length≤48
 bn:s.Body.length=s.There.length
 h1:1≤s.Handles.length
 h2:s.Handles.length≤6
 b16:∀ b ∈ s.Body,b.length=16
 zero:∀ (i:Nat) (hi:i < s.Body.length),s.There.getD i false=false→s.Body[i]=List.replicate 16 0
 l6:∀ l ∈ s.Handles,l.length=6
 hp:∀ l ∈ s.Handles,∀ p ∈ l,p=-1∨there s p=true
theorem OkSt.sized {s:St}(h:OkSt s):Sized s :=
 ⟨by have:=h.n2;omega,by have:=h.n2;have:=h.bn;omega,by have:=h.h2;omega,fun b hb=>by rw[h.b16 b hb];omega,fun l hl=>by rw[h.l6 l hl];omega⟩
theorem bodiesOk_iff (s:St):∀ (l:List (List UInt8)) (i:Nat),bodiesOk s i l=true ↔ ∀ (j:Nat) (hj:j < l.length),bodyOk s (i+j) l[j]=true
 | [],i=>by simp[bodiesOk]
 | b :: l,i=>by
  simp only[bodiesOk,Bool.and_eq_true,bodiesOk_iff s l (i+1)]
  constructor
  ·intro⟨h1,h2⟩ j hj
   cases j with
   | zero=>exact h1
   | succ j =>
    have:=h2 j (by simpa using hj)
    simpa [show i+1+j=i+(j+1) by omega] using this
  ·intro h
   refine⟨h 0 (by simp),fun j hj=>?_⟩
   have:=h (j+1) (by simpa using hj)
   simpa [show i+1+j=i+(j+1) by omega] using this
theorem May_iff (s:St):May s=true ↔ OkSt s:=by
 simp only[May,Bool.and_eq_true,decide_eq_true_eq,bodiesOk_iff,List.all_eq_true]
 constructor
 ·intro⟨⟨⟨⟨⟨⟨a,b⟩,c⟩,d⟩,e⟩,f⟩,g⟩
  have f':∀ (j:Nat) (hj:j < s.Body.length),s.Body[j].length=16∧(s.There.getD j false=false→s.Body[j]=List.replicate 16 0):=fun j hj=>by
   have:=f j hj
   simp only[bodyOk,Nat.zero_add,Bool.and_eq_true,decide_eq_true_eq,Bool.or_eq_true,beq_iff_eq] at this
   exact⟨this.1,fun h=>this.2.elim (fun h'=>by rw[h] at h';cases h') id⟩
  refine⟨a,b,c,d,e,fun x hx=>?_,fun i hi h=>(f' i hi).2 h,fun l hl=>?_,fun l hl p hp=>?_⟩
  ·obtain⟨j,hj,rfl⟩:=List.mem_iff_getElem.1 hx
   exact (f' j hj).1
  ·have:=g l hl
   simp only[handOk,Bool.and_eq_true,decide_eq_true_eq] at this
   exact this.1
  ·have:=g l hl
   simp only[handOk,Bool.and_eq_true,Bool.not_eq_true',List.any_eq_false] at this
   have:=this.2 p hp
   simp only[badH,Bool.and_eq_true,bne_iff_ne,Bool.not_eq_true',not_and,Bool.not_eq_false] at this
   by_cases e:p=-1
   ·exact .inl e
   ·exact .inr (this e)
 ·intro h
  refine⟨⟨⟨⟨⟨⟨h.n1,h.n2⟩,h.bn⟩,h.h1⟩,h.h2⟩,fun j hj=>?_⟩,fun l hl=>?_⟩
  ·simp only[bodyOk,Nat.zero_add,Bool.and_eq_true,decide_eq_true_eq,Bool.or_eq_true,beq_iff_eq]
   refine⟨h.b16 _ (List.getElem_mem hj),?_⟩
   cases e:s.There.getD j false with
   | true=>exact .inl rfl
   | false=>exact .inr (h.zero j hj e)
  ·simp only[handOk,Bool.and_eq_true,decide_eq_true_eq,Bool.not_eq_true',List.any_eq_false]
   refine⟨h.l6 l hl,fun p hp=>?_⟩
   simp only[badH,Bool.and_eq_true,bne_iff_ne,Bool.not_eq_true',not_and,Bool.not_eq_false]
   intro e
   exact (h.hp l hl p hp).resolve_left e
end Go.OT
namespace Go.OT
open Go.Proofs
theorem ixF_some {α:Type}(p:α→Bool):∀ (l:List α) (n:Nat),l.any p=true→∃ i,∃ h:i < l.length,ixF p l n=((n+i:Nat):Int)∧p l[i]=true
 | [],n,h=>by simp at h
 | x :: l,n,h=>by
  simp only[ixF]
  by_cases e:p x=true
  ·exact⟨0,by simp,by simp[e],e⟩
  ·have h':l.any p=true:=by simpa [e] using h
   obtain⟨i,hi,h1,h2⟩:=ixF_some p l (n+1) h'
   refine⟨i+1,by simpa using hi,?_,by simpa using h2⟩
   rw[if_neg e,h1]
   congr 1
   omega
def ix {α:Type}(p:α→Bool)(l:List α):Nat:=(ixF p l 0).toNat
theorem ix_spec {α:Type}{p:α→Bool}{l:List α}(h:l.any p=true):∃ hi:ix p l < l.length,ixF p l 0=(ix p l:Int)∧p l[ix p l]=true:=by
 obtain⟨i,hi,h1,h2⟩:=ixF_some p l 0 h
 rw[Nat.zero_add] at h1
 have e:ix p l=i:=by simp[ix,h1]
 subst e
 exact⟨hi,h1,h2⟩
def Step (s:St)(c:Nat)(q:Op):St × Rs :=
 let l:=s.Handles.getD c []
 if q.Kind=1 then (⟨s.There.set (ix (· == false) s.There) true,s.Body,s.Handles.set c (l.set (ix (· == -1) l) (ix (· == false) s.There:Nat))⟩,⟨0,(ix (· == false) s.There:Nat),(ix (· == -1) l:Nat),[]⟩)
 else if q.Kind=2 then (⟨s.There,s.Body,s.Handles.set c (l.set (ix (· == -1) l) q.Page)⟩,⟨0,q.Page,(ix (· == -1) l:Nat),[]⟩)
 else if q.Kind=3 then (s,⟨0,0,0,((s.Body.getD (l.getD q.Handle.toNat 0).toNat []).drop q.Off.toNat).take q.N.toNat⟩)
 else if q.Kind=4 then (⟨s.There,s.Body.set (l.getD q.Handle.toNat 0).toNat (over (s.Body.getD (l.getD q.Handle.toNat 0).toNat []) q.Off.toNat q.Data),s.Handles⟩,⟨0,0,0,[]⟩)
 else if q.Kind=5 then (⟨s.There,s.Body,s.Handles.set c (l.set q.Handle.toNat (-1))⟩,⟨0,0,0,[]⟩)
 else if q.Kind=8 then (⟨s.There.set q.Page.toNat false,s.Body.set q.Page.toNat (List.replicate 16 0),s.Handles⟩,⟨0,0,0,[]⟩)
 else (s,⟨0,0,0,[]⟩)
theorem do_step (s:St)(hok:OkSt s)(c:Nat)(hc:c < s.Handles.length)(q:Op)(h0:codeOf s s.Handles[c] q=0):FnC Try.prog 99 [] [encC false s c q] [] (.tuple [encS true (Step s c q).1,encR true (Step s c q).2]):=by
 have hs:=hok.sized
 have hl:s.Handles.getD c []=s.Handles[c]:=by simp[hc]
 have h6:s.Handles[c].length=6:=hok.l6 _ (List.getElem_mem hc)
 by_cases k1:q.Kind=1
 ·have hr:room s.Handles[c]=true:=by
   simp only[codeOf,k1,if_true] at h0
   split at h0
   ·cases h0
   ·rename_i h;simpa using h
  have hf:s.There.any (· == false)=true:=by
   simp only[codeOf,k1,if_true,hr] at h0
   split at h0
   ·rename_i h;cases h
   ·split at h0
    ·cases h0
    ·rename_i h;simpa using h
  obtain⟨i1,i2,i3⟩:=ix_spec hf
  obtain⟨j1,j2,j3⟩:=ix_spec hr
  have:=do_fn s hs c hc q _ _ _ _ _ [] nilS (.inr ⟨rfl,rfl⟩) (dsp1 s c _ q _ k1 (do_new s hs c hc q _ _ i1 i2 j1 j2))
  simpa only [Step,k1,if_true,hl] using this
 by_cases k2:q.Kind=2∨q.Kind=6∨q.Kind=8
 ·have hpg:isPage s q.Page=true∧there s q.Page=true∧¬ (q.Kind=2∧room s.Handles[c]=false):=by
   rw[codeOf,if_neg k1,if_pos k2] at h0
   split at h0
   ·cases h0
   rename_i a1
   split at h0
   ·cases h0
   rename_i a2
   split at h0
   ·cases h0
   rename_i a3
   exact⟨by simpa using a1,by simpa using a2,a3⟩
  obtain⟨p1,p2,p3⟩:=hpg
  by_cases e2:q.Kind=2
  ·have hr:room s.Handles[c]=true:=by
    cases e:room s.Handles[c] with
    | true=>rfl
    | false=>exact absurd ⟨e2,e⟩ p3
   obtain⟨j1,j2,j3⟩:=ix_spec hr
   have:=do_fn s hs c hc q _ _ _ _ _ [] nilS (.inr ⟨rfl,rfl⟩) (dsp2 s c _ q _ e2 (do_fetch s hs c hc q _ j1 j2))
   simpa [Step,e2,hc] using this
  by_cases e8:q.Kind=8
  ·simp only[isPage,Bool.and_eq_true,decide_eq_true_eq] at p1
   obtain⟨m,hm⟩:=Int.eq_ofNat_of_zero_le p1.1
   have hm1:m < s.There.length:=by omega
   have hm2:m < s.Body.length:=by rw[hok.bn];exact hm1
   have:=do_fn s hs c hc q _ _ _ _ _ [] nilS (.inr ⟨rfl,rfl⟩) (dsp8 s c s.Handles[c].length q _ e8 (do_delete s c 0 q m hm hm1 hm2))
   simpa [Step,e8,hm] using this
  ·have:=do_fn s hs c hc q _ _ _ _ _ [] nilS (.inr ⟨rfl,rfl⟩) (dsp0 s c s.Handles[c].length q (by omega))
   have k:¬ q.Kind=3∧¬ q.Kind=4∧¬ q.Kind=5:=by omega
   simpa [Step,k1,e2,e8,k] using this
 by_cases k3:q.Kind=3∨q.Kind=4∨q.Kind=5
 ·have hh:badHd s.Handles[c] q.Handle=false∧badRg q (if q.Kind=4 then q.Data.length else q.N)=false:=by
   rw[codeOf,if_neg k1,if_neg k2,if_pos k3] at h0
   generalize (if q.Kind=4 then (q.Data.length:Int) else q.N)=nn at h0 ⊢
   split at h0
   ·cases h0
   rename_i a1
   split at h0
   ·cases h0
   rename_i a2
   exact⟨by simpa using a1,by simpa using a2⟩
  obtain⟨p1,p2⟩:=hh
  simp only[badHd,Bool.or_eq_false_iff,decide_eq_false_iff_not,beq_eq_false_iff_ne] at p1
  obtain⟨k,hk⟩:=Int.eq_ofNat_of_zero_le (a:=q.Handle) (by omega)
  have hk6:k < s.Handles[c].length:=by omega
  have hne:s.Handles[c][k] ≠ -1:=by
   have:=p1.2.2
   simpa [hk,hk6] using this
  have hth:=(hok.hp _ (List.getElem_mem hc) _ (List.getElem_mem hk6)).resolve_left hne
  simp only[there,Bool.and_eq_true,decide_eq_true_eq] at hth
  obtain⟨m,hm⟩:=Int.eq_ofNat_of_zero_le hth.1
  have hmt:m < s.There.length:=by
   have:=hth.2
   rw[hm] at this
   by_cases h:m < s.There.length
   ·exact h
   ·simp[h] at this
  have hmb:m < s.Body.length:=by rw[hok.bn];exact hmt
  have h16:=hok.b16 _ (List.getElem_mem hmb)
  by_cases e5:q.Kind=5
  ·have:=do_fn s hs c hc q _ _ _ _ _ [] nilS (.inr ⟨rfl,rfl⟩) (dsp5 s c _ q _ e5 (do_unpin s c hc q k hk6 hk))
   simpa [Step,e5,hc,hk] using this
  simp only[badRg,bne_iff_ne,ne_eq,e5,not_false_eq_true,Bool.and_eq_false_iff,Bool.or_eq_false_iff,decide_eq_false_iff_not] at p2
  have p2:=p2.resolve_left (by simp[e5])
  obtain⟨o,ho⟩:=Int.eq_ofNat_of_zero_le (a:=q.Off) (by omega)
  by_cases e4:q.Kind=4
  ·rw[if_pos e4] at p2
   have:=do_fn s hs c hc q _ _ _ _ _ [] nilS (.inr ⟨rfl,rfl⟩) (dsp4 s c _ q _ e4 (do_write s hs c hc q k hk6 hk m hm hmb o ho (by omega) h16))
   simpa [Step,e4,hc,hk,hk6,hm,hmb,ho] using this
  ·have e3:q.Kind=3:=by omega
   rw[if_neg e4] at p2
   obtain⟨n,hn⟩:=Int.eq_ofNat_of_zero_le (a:=q.N) (by omega)
   have:=do_fn s hs c hc q _ _ _ _ _ ((s.Body[m].drop o).take n) _ (.inl rfl) (dsp3 s c _ q _ e3 (do_read s hs c hc q k hk6 hk m hm hmb o n ho hn (by omega) h16))
   simpa [Step,e3,hc,hk,hk6,hm,hmb,ho,hn] using this
 ·have:=do_fn s hs c hc q _ _ _ _ _ [] nilS (.inr ⟨rfl,rfl⟩) (dsp0 s c s.Handles[c].length q (by omega))
  have k:¬ q.Kind=1∧¬ q.Kind=2∧¬ q.Kind=3∧¬ q.Kind=4∧¬ q.Kind=5∧¬ q.Kind=8:=by omega
  simpa [Step,k] using this
def DoB (s:St)(cl:Int)(q:Op):Bool × St × Rs :=
 if noCall s cl=true then (false,s,rsE 1)
 else if codeOf s (s.Handles.getD cl.toNat []) q=0 then (true,Step s cl.toNat q)
 else (false,s,rsE (codeOf s (s.Handles.getD cl.toNat []) q))
theorem Do_fn (s:St)(hs:Sized s)(cl:Int)(q:Op):FnC Try.prog 44 [] [encS false s,i64 cl,encO false q] [] (.tuple [encS (DoB s cl q).1 (DoB s cl q).2.1,encR true (DoB s cl q).2.2]):=by
 by_cases hn:noCall s cl=true
 ·have:=Do_none s hs cl q hn
  simpa only [DoB,if_pos hn] using this
 have hn':noCall s cl=false:=by simpa using hn
 simp only[noCall,Bool.or_eq_false_iff,Bool.not_eq_false',decide_eq_false_iff_not] at hn'
 obtain⟨c,rfl⟩:=Int.eq_ofNat_of_zero_le (a:=cl) (by omega)
 have hc:c < s.Handles.length:=by omega
 have hok:=(May_iff s).1 hn'.1
 have h6:=hok.l6 _ (List.getElem_mem hc)
 have hl:s.Handles.getD c []=s.Handles[c]:=by simp[hc]
 have hn2:noCall s (c:Int)=false:=by simpa using hn
 by_cases h0:codeOf s s.Handles[c] q=0
 ·have:=Do_ok s hs c hc h6 q hn2 h0 _ _ (do_step s hok c hc q h0)
  simp only[DoB,if_neg hn,Int.toNat_natCast,hl,if_pos h0]
  exact this
 ·have:=Do_code s hs c hc h6 q hn2 h0
  simp only[DoB,if_neg hn,Int.toNat_natCast,hl,if_neg h0]
  exact this
end Go.OT
namespace Go.OT
open Go.Proofs
theorem there_set_true {s:St}{i:Nat}{p:Int}{b:List (List UInt8)}{l:List (List Int)}(h:there s p=true):there ⟨s.There.set i true,b,l⟩ p=true:=by
 simp only[there,Bool.and_eq_true,decide_eq_true_eq] at h ⊢
 refine⟨h.1,?_⟩
 have hlt:p.toNat < s.There.length:=by
  by_cases e:p.toNat < s.There.length
  ·exact e
  ·simp[e] at h
 by_cases e:i=p.toNat
 ·subst e;simp[hlt]
 ·have h2:=h.2
  simp only[List.getD_eq_getElem?_getD] at h2 ⊢
  rw[List.getElem?_set_ne e];exact h2
theorem cnt_zero {p:Int}{l:List Int}(h:cnt p l=0):∀ x ∈ l,x ≠ p:=by
 intro x hx e
 subst e
 unfold cnt at h
 have:x ∈ l.filter (· == x):=by simp[hx]
 rw[List.length_eq_zero_iff.1 h] at this
 simp at this
theorem pinsL_zero {p:Int}:∀ {ls:List (List Int)},pinsL p ls=0→∀ l ∈ ls,∀ x ∈ l,x ≠ p
 | [],_,l,hl=>by simp at hl
 | a :: ls,h,l,hl=>by
  simp only[pinsL] at h
  rcases List.mem_cons.1 hl with rfl | hl
  ·exact cnt_zero (by omega)
  ·exact pinsL_zero (by omega) l hl
theorem over_length {b:List UInt8}{k:Nat}{d:List UInt8}(h:k+d.length≤b.length):(over b k d).length=b.length:=by
 simp only[over,List.length_append,List.length_take,List.length_drop];omega
theorem step_cases {s:St}(h:OkSt s){c:Nat}(hc:c < s.Handles.length){q:Op}(h0:codeOf s s.Handles[c] q=0) :
  (q.Kind=1∧∃ i k:Nat,∃ hi:i < s.There.length,∃ hk:k < 6,s.There[i]=false∧s.Handles[c].getD k 0=-1∧ix (· == false) s.There=i∧ix (· == -1) s.Handles[c]=k∧Step s c q=(⟨s.There.set i true,s.Body,s.Handles.set c (s.Handles[c].set k (i:Nat))⟩,⟨0,(i:Nat),(k:Nat),[]⟩)) ∨
  (q.Kind=2∧∃ k:Nat,∃ hk:k < 6,there s q.Page=true∧s.Handles[c].getD k 0=-1∧ix (· == -1) s.Handles[c]=k∧Step s c q=(⟨s.There,s.Body,s.Handles.set c (s.Handles[c].set k q.Page)⟩,⟨0,q.Page,(k:Nat),[]⟩)) ∨
  (q.Kind=3∧∃ k m o n:Nat,∃ hk:k < 6,∃ hm:m < s.Body.length,q.Handle=k∧s.Handles[c].getD k 0=(m:Nat)∧s.There.getD m false=true∧q.Off=(o:Nat)∧q.N=(n:Nat)∧o+n≤16∧Step s c q=(s,⟨0,0,0,(s.Body[m].drop o).take n⟩)) ∨
  (q.Kind=4∧∃ k m o:Nat,∃ hk:k < 6,∃ hm:m < s.Body.length,q.Handle=k∧s.Handles[c].getD k 0=(m:Nat)∧s.There.getD m false=true∧q.Off=(o:Nat)∧o+q.Data.length≤16∧Step s c q=(⟨s.There,s.Body.set m (over s.Body[m] o q.Data),s.Handles⟩,⟨0,0,0,[]⟩)) ∨
  (q.Kind=5∧∃ k m:Nat,∃ hk:k < 6,q.Handle=k∧s.Handles[c].getD k 0=(m:Nat)∧s.There.getD m false=true∧Step s c q=(⟨s.There,s.Body,s.Handles.set c (s.Handles[c].set k (-1))⟩,⟨0,0,0,[]⟩)) ∨
  (q.Kind=8∧∃ m:Nat,∃ hm:m < s.There.length,q.Page=m∧s.There[m]=true∧pinsL m s.Handles=0∧Step s c q=(⟨s.There.set m false,s.Body.set m (List.replicate 16 0),s.Handles⟩,⟨0,0,0,[]⟩)) ∨
  ((q.Kind=6∧there s q.Page=true∨q.Kind=7)∧Step s c q=(s,⟨0,0,0,[]⟩)):=by
 have h6:s.Handles[c].length=6:=h.l6 _ (List.getElem_mem hc)
 by_cases k1:q.Kind=1
 ·left
  have hr:room s.Handles[c]=true:=by
   simp only[codeOf,k1,if_true] at h0
   split at h0
   ·cases h0
   ·rename_i h;simpa using h
  have hf:s.There.any (· == false)=true:=by
   simp only[codeOf,k1,if_true,hr] at h0
   split at h0
   ·rename_i h;cases h
   ·split at h0
    ·cases h0
    ·rename_i h;simpa using h
  obtain⟨i1,i2,i3⟩:=ix_spec hf
  obtain⟨j1,j2,j3⟩:=ix_spec hr
  refine⟨k1,_,_,i1,by omega,by simpa using i3,?_,rfl,rfl,by simp[Step,k1,hc]⟩
  simpa [j1] using j3
 right
 by_cases k2:q.Kind=2∨q.Kind=6∨q.Kind=8
 ·rw[codeOf,if_neg k1,if_pos k2] at h0
  split at h0
  ·cases h0
  rename_i a1
  split at h0
  ·cases h0
  rename_i a2
  split at h0
  ·cases h0
  rename_i a3
  split at h0
  ·cases h0
  rename_i a4
  have hth:there s q.Page=true:=by simpa using a2
  by_cases e2:q.Kind=2
  ·left
   have hr:room s.Handles[c]=true:=by
    cases e:room s.Handles[c] with
    | true=>rfl
    | false=>exact absurd ⟨e2,e⟩ a3
   obtain⟨j1,j2,j3⟩:=ix_spec hr
   exact⟨e2,_,by omega,hth,by simpa [j1] using j3,rfl,by simp[Step,e2,hc]⟩
  by_cases e8:q.Kind=8
  ·right;right;right;right;left
   simp only[there,Bool.and_eq_true,decide_eq_true_eq] at hth
   obtain⟨m,hm⟩:=Int.eq_ofNat_of_zero_le hth.1
   have hm1:m < s.There.length:=by
    have:=hth.2
    rw[hm] at this
    by_cases e:m < s.There.length
    ·exact e
    ·simp[e] at this
   refine⟨e8,m,hm1,hm,by simpa [hm,hm1] using hth.2,?_,by simp[Step,e8,hm]⟩
   have:¬ (0 < Pins s q.Page):=fun hp=>a4 ⟨e8,hp⟩
   rw[hm] at this
   simp only[Pins] at this
   rw[if_neg (by omega)] at this
   omega
  ·right;right;right;right;right
   have k:¬ q.Kind=3∧¬ q.Kind=4∧¬ q.Kind=5:=by omega
   exact⟨.inl ⟨by omega,hth⟩,by simp[Step,k1,e2,e8,k]⟩
 by_cases k3:q.Kind=3∨q.Kind=4∨q.Kind=5
 ·rw[codeOf,if_neg k1,if_neg k2,if_pos k3] at h0
  generalize hnn:(if q.Kind=4 then (q.Data.length:Int) else q.N)=nn at h0
  split at h0
  ·cases h0
  rename_i p1
  split at h0
  ·cases h0
  rename_i p2
  have p1:badHd s.Handles[c] q.Handle=false:=by simpa using p1
  have p2:badRg q nn=false:=by simpa using p2
  simp only[badHd,Bool.or_eq_false_iff,decide_eq_false_iff_not,beq_eq_false_iff_ne] at p1
  obtain⟨k,hk⟩:=Int.eq_ofNat_of_zero_le (a:=q.Handle) (by omega)
  have hk6:k < s.Handles[c].length:=by omega
  have hne:s.Handles[c][k] ≠ -1:=by
   have:=p1.2.2
   simpa [hk,hk6] using this
  have hth:=(h.hp _ (List.getElem_mem hc) _ (List.getElem_mem hk6)).resolve_left hne
  simp only[there,Bool.and_eq_true,decide_eq_true_eq] at hth
  obtain⟨m,hm⟩:=Int.eq_ofNat_of_zero_le hth.1
  have hmt:m < s.There.length:=by
   have:=hth.2
   rw[hm] at this
   by_cases h:m < s.There.length
   ·exact h
   ·simp[h] at this
  have htm:s.There.getD m false=true:=by have:=hth.2;rw[hm] at this;exact this
  have hg:s.Handles[c].getD k 0=(m:Nat):=by simp[hk6,hm]
  have hmb:m < s.Body.length:=by rw[h.bn];exact hmt
  by_cases e5:q.Kind=5
  ·right;right;right;left
   exact⟨e5,k,m,by omega,hk,hg,htm,by simp[Step,e5,hc,hk]⟩
  simp only[badRg,bne_iff_ne,ne_eq,e5,not_false_eq_true,Bool.and_eq_false_iff,Bool.or_eq_false_iff,decide_eq_false_iff_not] at p2
  have p2:=p2.resolve_left (by simp[e5])
  obtain⟨o,ho⟩:=Int.eq_ofNat_of_zero_le (a:=q.Off) (by omega)
  by_cases e4:q.Kind=4
  ·rw[if_pos e4] at hnn
   right;right;left
   exact⟨e4,k,m,o,by omega,hmb,hk,hg,htm,ho,by omega,by simp[Step,e4,hc,hk,hk6,hm,hmb,ho]⟩
  ·have e3:q.Kind=3:=by omega
   rw[if_neg e4] at hnn
   obtain⟨n,hn⟩:=Int.eq_ofNat_of_zero_le (a:=q.N) (by omega)
   right;left
   exact⟨e3,k,m,o,n,by omega,hmb,hk,hg,htm,ho,hn,by omega,by simp[Step,e3,hc,hk,hk6,hm,hmb,ho,hn]⟩
 ·right;right;right;right;right
  have k7:q.Kind=7:=by
   rw[codeOf,if_neg k1,if_neg k2,if_neg k3] at h0
   by_cases e:q.Kind=7
   ·exact e
   ·rw[if_neg e] at h0;cases h0
  exact⟨.inr k7,by simp[Step,k7]⟩
theorem OkSt.step {s:St}(h:OkSt s){c:Nat}(hc:c < s.Handles.length){q:Op}(h0:codeOf s s.Handles[c] q=0):OkSt (Step s c q).1:=by
 have h6:s.Handles[c].length=6:=h.l6 _ (List.getElem_mem hc)
 have hset:∀ (k:Nat) (v:Int) (P:Int→Prop),(∀ l ∈ s.Handles,∀ p ∈ l,P p)→P v→∀ l ∈ s.Handles.set c (s.Handles[c].set k v),∀ p ∈ l,P p:=by
  intro k v P h1 h2 l hl p hp
  rcases List.mem_or_eq_of_mem_set hl with hl | rfl
  ·exact h1 l hl p hp
  ·rcases List.mem_or_eq_of_mem_set hp with hp | rfl
   ·exact h1 _ (List.getElem_mem hc) p hp
   ·exact h2
 have hlen:∀ (k:Nat) (v:Int),∀ l ∈ s.Handles.set c (s.Handles[c].set k v),l.length=6:=by
  intro k v l hl
  rcases List.mem_or_eq_of_mem_set hl with hl | rfl
  ·exact h.l6 l hl
  ·simp[h6]
 rcases step_cases h hc h0 with ⟨_,i,k,hi,hk,h1,_,_,_,e⟩ | ⟨_,k,hk,ht,_,_,e⟩ | ⟨_,k,m,o,n,hk,hm,_,_,_,_,_,_,e⟩ | ⟨_,k,m,o,hk,hm,_,_,ht,_,ho,e⟩ | ⟨_,k,m,hk,_,_,_,e⟩ | ⟨_,m,hm,_,ht,hp,e⟩ | ⟨_,e⟩<;>rw [e]
 ·refine⟨by simpa using h.n1,by simpa using h.n2,by simpa using h.bn,by simpa using h.h1,by simpa using h.h2,h.b16,fun j hj hf=>?_,hlen _ _,?_⟩
  ·refine h.zero j hj ?_
   simp only[List.getD_eq_getElem?_getD] at hf ⊢
   by_cases e:i=j
   ·subst e;simp[hi] at hf
   ·rwa [List.getElem?_set_ne e] at hf
  ·refine hset _ _ _ (fun l hl p hp=>(h.hp l hl p hp).imp id there_set_true) (.inr ?_)
   simp[there,hi]
 ·exact⟨h.n1,h.n2,h.bn,by simpa using h.h1,by simpa using h.h2,h.b16,h.zero,hlen _ _,hset _ _ _ h.hp (.inr ht)⟩
 ·exact h
 ·have h16:=h.b16 _ (List.getElem_mem hm)
  have hov:(over s.Body[m] o q.Data).length=16:=by rw[over_length (by omega),h16]
  refine⟨h.n1,h.n2,by simpa using h.bn,h.h1,h.h2,fun b hb=>?_,fun j hj hf=>?_,h.l6,h.hp⟩
  ·rcases List.mem_or_eq_of_mem_set hb with hb | rfl
   ·exact h.b16 b hb
   ·exact hov
  ·simp only[List.length_set] at hj
   have hne:m ≠ j:=by rintro rfl;simp only at hf;rw[ht] at hf;cases hf
   simp only[List.getElem_set_ne hne]
   exact h.zero j hj hf
 ·exact⟨h.n1,h.n2,h.bn,by simpa using h.h1,by simpa using h.h2,h.b16,h.zero,hlen _ _,hset _ _ _ h.hp (.inl rfl)⟩
 ·refine⟨by simpa using h.n1,by simpa using h.n2,by simpa using h.bn,h.h1,h.h2,fun b hb=>?_,fun j hj hf=>?_,h.l6,fun l hl p hpl=>?_⟩
  ·rcases List.mem_or_eq_of_mem_set hb with hb | rfl
   ·exact h.b16 b hb
   ·simp
  ·simp only[List.length_set] at hj
   by_cases e:m=j
   ·subst e;simp
   ·simp only[List.getElem_set_ne e]
    refine h.zero j hj ?_
    simp only[List.getD_eq_getElem?_getD] at hf ⊢
    rwa [List.getElem?_set_ne e] at hf
  ·rcases h.hp l hl p hpl with h1 | h1
   ·exact .inl h1
   ·right
    have hne:=pinsL_zero hp l hl p hpl
    simp only[there,Bool.and_eq_true,decide_eq_true_eq] at h1 ⊢
    refine⟨h1.1,?_⟩
    have:m ≠ p.toNat:=by omega
    simp only[List.getD_eq_getElem?_getD] at h1 ⊢
    rw[List.getElem?_set_ne this]
    exact h1.2
 ·exact h
theorem OkSt.doB {s:St}(h:OkSt s)(cl:Int)(q:Op):OkSt (DoB s cl q).2.1:=by
 unfold DoB
 by_cases hn:noCall s cl=true
 ·rw[if_pos hn];exact h
 rw[if_neg hn]
 have hn':noCall s cl=false:=by simpa using hn
 simp only[noCall,Bool.or_eq_false_iff,Bool.not_eq_false',decide_eq_false_iff_not] at hn'
 obtain⟨c,rfl⟩:=Int.eq_ofNat_of_zero_le (a:=cl) (by omega)
 have hc:c < s.Handles.length:=by omega
 have hl:s.Handles.getD (c:Int).toNat []=s.Handles[c]:=by simp[hc]
 rw[hl]
 by_cases h0:codeOf s s.Handles[c] q=0
 ·rw[if_pos h0]
  exact h.step hc h0
 ·rw[if_neg h0];exact h
theorem Sized.doB {s:St}(h:Sized s)(cl:Int)(q:Op):Sized (DoB s cl q).2.1:=by
 cases hm:May s with
 | true=>exact (((May_iff s).1 hm).doB cl q).sized
 | false =>
  have:noCall s cl=true:=by simp[noCall,hm]
  simp only[DoB,this,if_true]
  exact h
@[simp] theorem lend_encS (b:Bool) (s:St):lend (encS b s)=encS false s:=by
 simp[lend,Function.comp_def]
@[simp] theorem lend_encR (b:Bool) (r:Rs):lend (encR b r)=encR false r:=by
 simp[lend]
theorem updL_setL (k:Nat)(v u:AU):∀ L:SL,updL (setL L k v) k u=setL L k u
 | []=>by simp[setL,updL]
 | (k',e) :: L=>by
  simp only[setL]
  by_cases h:k=k'
  ·subst h;simp[updL]
  ·simp only[h,if_false,updL,updL_setL k v u L]
theorem fnL_setL_self (L:SL)(k:Nat)(v:AU):(fnL (setL L k v) k).2=v:=by rw[← fnL_set,XF.set_self]
theorem lend_two (a b:AU):lend (.tuple [a,b])=.tuple [lend a,lend b]:=by simp only[lend,lendL]
theorem frzL_setL (L:SL)(k:Nat)(v:AU):frzL (setL L k v) k=setL L k (lend v):=by
 unfold frzL
 rw[updL_setL,fnL_setL_self]
theorem RL.doC {nt:Nat}{L:SL}{K:SL→Prop}{rest:List Sg}{d:Nat}{cs:List COd}(s:St)(hs:Sized s)(cl:Int)(q:Op)
  (has:trArgs (fnL L) [] false cs=some [encS false s,i64 cl,encO false q])
  (h:RL Try.prog nt rest (setL L (100 * d) (.tuple [encS false (DoB s cl q).2.1,encR false (DoB s cl q).2.2])) K):RL Try.prog nt (.call none d 44 cs :: rest) L K:=by
 refine RL.call0 false (Do_fn s hs cl q) has ?_ (RL.freeze (100 * d) ?_)
 ·simp[sideOk,ghsOk,roots,rootsL]
 ·rw[frzL_setL]
  have:lend (.tuple [encS (DoB s cl q).1 (DoB s cl q).2.1,encR true (DoB s cl q).2.2])=.tuple [encS false (DoB s cl q).2.1,encR false (DoB s cl q).2.2]:=by
   rw[lend_two,lend_encS,lend_encR]
  rw[this]
  exact h
end Go.OT
namespace Go.OT
open Go.Proofs
theorem ta3:TyA Try.prog 3 Int (fun n=>i64 n) (fun n=>(Lit.int .i64 n).wf=true):=TyA.int Try.underlying3 (Ty.int Try.underlying3)
theorem ty40:Ty Try.prog 40 (List UInt8) (fun l=>[sU false l]) (fun l=>l.length≤9223372036854775807) :=
 (Ty.slice (s:=1) Try.underlying40 (by kernel_rfl) (by decide) (fun _=>rfl) (Ty.u8 Try.underlying5)).map id (fun l=>by rw[flatMap_one];rfl) (fun l h=>h.1)
end Go.OT
namespace Go.OT
open Go.Proofs
def c77_0:Cd:=(.seq (.reg [1,3,5,26,27] [.call none 27 123 [(cI 1)],.o [.st 4 (.t 6) (.t 27)]]) .ret)
def c77_1:Cd:=(.cond (.t 26) c77_0 .skip)
def c77_2:Cd:=(.seq (.reg [1,3,5,7,51,52] [.call none 52 123 [(cI 1)],.o [.st 4 (.t 6) (.t 52)]]) .ret)
def c77_3:Cd:=(.cond (.t 51) c77_2 .skip)
def c77_4:Cd:=(.seq (.reg [1,3,5,7,58,59] [.call none 59 123 [(cI 2)],.o [.st 4 (.t 6) (.t 59)]]) .ret)
def c77_5:Cd:=(.cond (.t 58) c77_4 .skip)
def c77_6:Cd:=(.seq (.reg [51,53,54,55,56,57] [.o [.faddr 53 0 (.t 3),.ld 54 1 false (.t 53),.mov 55 (.t 7),.iaddr 56 1 (.t 54) (.t 55),.ld 57 1 false (.t 56),.un 58 .not (.t 57)]]) c77_5)
def c77_7:Cd:=(.seq (.seq (.reg [42,43,44,45,46,47,48,49,50] [.o [.mov 43 (.t 7),.bin 44 .lss (.t 43) (cI 0),.mov 45 (.t 44)],.g 45 false [.mov 46 (.t 7),.faddr 47 0 (.t 3),.ld 48 1 false (.t 47),.len 49 (.t 48),.bin 50 .geq (.t 46) (.t 49)],.o [.pick 51 (.t 45) (cB true) (.t 50)]]) c77_3) c77_6)
def c77_8:Cd:=(.cond (.t 42) c77_7 .skip)
def c77_9:Cd:=(.seq (.reg [1,3,5,7,79,80] [.call none 80 123 [(cI 5)],.o [.st 4 (.t 6) (.t 80)]]) .ret)
def c77_10:Cd:=(.cond (.t 79) c77_9 .skip)
def c77_11:Cd:=(.seq (.reg [78] [.o [.mov 78 (.t 7),.bin 79 .lss (.t 78) (cI 0)]]) c77_10)
def c77_12:Cd:=(.seq (.reg [72,73,74,75,76,77] [.o [.ld 73 3 true (.t 3),.mov 74 (.t 1),.faddr 75 2 (.t 5),.ld 76 1 false (.t 75)],.call none 77 124 [(.t 73),(.t 74),(.t 76)],.o [.asg 7 (.t 77)]]) c77_11)
def c77_13:Cd:=(.cond (.t 72) c77_12 .skip)
def c77_14:Cd:=(.seq (.reg [1,3,88,89] [.call none 89 123 [(cI 4)],.o [.st 4 (.t 6) (.t 89)]]) .ret)
def c77_15:Cd:=(.cond (.t 88) c77_14 .skip)
def c77_16:Cd:=(.cond (.t 101) .skip (.exit 1))
def c77_17:Cd:=(.block 2 (.reg [101,102,103] [.o [.mov 102 (.t 7),.bin 103 .add (.t 102) (cI 1),.asg 7 (.t 103)]]))
def c77_18:Cd:=(.seq (.seq (.reg [90,91,92,93,94,95,96,97,98,99,100] [.o [.mov 90 (.t 7),.faddr 91 0 (.t 3),.ld 92 1 false (.t 91),.len 93 (.t 92),.bin 94 .lss (.t 90) (.t 93),.mov 95 (.t 94)],.g 95 true [.faddr 96 0 (.t 3),.ld 97 1 false (.t 96),.mov 98 (.t 7),.iaddr 99 1 (.t 97) (.t 98),.ld 100 1 false (.t 99)],.o [.pick 101 (.t 95) (.t 100) (cB false)]]) c77_16) c77_17)
def c77_19:Cd:=(.seq (.reg [1,3,7,108,109] [.call none 109 123 [(cI 3)],.o [.st 4 (.t 6) (.t 109)]]) .ret)
def c77_20:Cd:=(.cond (.t 108) c77_19 .skip)
def c77_21:Cd:=(.seq (.reg [1,3,7,119,120,121,122,123,124] [.o [.mov 119 (.t 7),.ld 120 3 true (.t 3),.mov 121 (.t 1),.mov 122 (.t 7)],.call none 123 126 [(.t 120),(.t 121),(.t 122)],.o [.build 124 [(.sc (.int .i64 0)),(.sc (.int .i64 0)),(.sc (.int .i64 0)),(.sc (.slice none 0 0))] [(1,1,(.t 119)),(2,1,(.t 123))],.st 4 (.t 6) (.t 124)]]) .ret)
def c77_22:Cd:=(.seq (.draw [[],[0],[],[],[3],[],[],[1,2,0,1,2,6],[7,6,0,1,2,6],[4,5,0,1,2,3,4,5,6,7,8],[9,6,8,0,1,2,3,4,5,6,7,8]] [108,110,111,112,113,114,115,116,117,118] [.o [.faddr 110 0 (.t 3),.ld 111 1 false (.t 110),.mov 112 (.t 7),.faddr 113 1 (.t 3),.ld 114 1 false (.t 113),.mov 115 (.t 7)],.call none 116 122 [],.o [.iaddr 117 1 (.t 111) (.t 112),.st 1 (.t 117) (cB true),.iaddr 118 1 (.t 114) (.t 115),.st 1 (.t 118) (.t 116)]]) c77_21)
def c77_23:Cd:=(.seq (.seq (.reg [90,91,92,93,94,95,96,97,98,99,100,101,104,105,106,107] [.o [.mov 104 (.t 7),.faddr 105 0 (.t 3),.ld 106 1 false (.t 105),.len 107 (.t 106),.bin 108 .eql (.t 104) (.t 107)]]) c77_20) c77_22)
def c77_24:Cd:=(.seq (.block 1 (.loop c77_18)) c77_23)
def c77_25:Cd:=(.seq (.reg [88] [.o [.asg 7 (cI 0)]]) c77_24)
def c77_26:Cd:=(.seq (.seq (.reg [5,7,82,83,85,86,87] [.o [.ld 85 3 true (.t 3),.mov 86 (.t 1)],.call none 87 125 [(.t 85),(.t 86)],.o [.un 88 .not (.t 87)]]) c77_15) c77_25)
def c77_27:Cd:=(.seq (.reg [1,3,7,130,131] [.call none 131 123 [(cI 4)],.o [.st 4 (.t 6) (.t 131)]]) .ret)
def c77_28:Cd:=(.cond (.t 130) c77_27 .skip)
def c77_29:Cd:=(.seq (.reg [1,3,7,130,132,133,134,135,136,137] [.o [.mov 132 (.t 7),.ld 133 3 true (.t 3),.mov 134 (.t 1),.mov 135 (.t 7)],.call none 136 126 [(.t 133),(.t 134),(.t 135)],.o [.build 137 [(.sc (.int .i64 0)),(.sc (.int .i64 0)),(.sc (.int .i64 0)),(.sc (.slice none 0 0))] [(1,1,(.t 132)),(2,1,(.t 136))],.st 4 (.t 6) (.t 137)]]) .ret)
def c77_30:Cd:=(.seq (.seq (.reg [5,82,125,127,128,129] [.o [.ld 127 3 true (.t 3),.mov 128 (.t 1)],.call none 129 125 [(.t 127),(.t 128)],.o [.un 130 .not (.t 129)]]) c77_28) c77_29)
def c77_31:Cd:=(.seq (.reg [3,5,7,160,161] [.call none 161 123 [(cI 6)],.o [.st 4 (.t 6) (.t 161)]]) .ret)
def c77_32:Cd:=(.cond (.t 160) c77_31 .skip)
def c77_33:Cd:=(.seq (.draw [[],[0],[],[1,2],[3],[],[5],[],[7],[],[9],[8,10],[4,6,11],[12],[13],[14,0,1,2,3,4,5,6,7,8,9,10,11,12,13,14]] [3,5,7,160,162,163,164,165,166,167,168,169,170,171,172,173,174,175,176] [.o [.faddr 162 1 (.t 3),.ld 163 1 false (.t 162),.mov 164 (.t 7),.iaddr 165 1 (.t 163) (.t 164),.ld 166 1 false (.t 165),.faddr 167 3 (.t 5),.ld 168 1 false (.t 167),.faddr 169 3 (.t 5),.ld 170 1 false (.t 169),.faddr 171 4 (.t 5),.ld 172 1 false (.t 171),.bin 173 .add (.t 170) (.t 172),.ssl 174 (.t 166) (some (.t 168)) (some (.t 173)),.s2b 175 (.t 174),.build 176 [(.sc (.int .i64 0)),(.sc (.int .i64 0)),(.sc (.int .i64 0)),(.sc (.slice none 0 0))] [(3,1,(.t 175))],.st 4 (.t 6) (.t 176)]]) .ret)
def c77_34:Cd:=(.seq (.seq (.reg [1,82,138,140,141,142,143,144,145,146,147,148,149,150,151,152,153,154,155,156,157,158,159] [.o [.faddr 140 3 (.t 5),.ld 141 1 false (.t 140),.bin 142 .lss (.t 141) (cI 0),.mov 143 (.t 142)],.g 143 false [.faddr 144 4 (.t 5),.ld 145 1 false (.t 144),.bin 146 .lss (.t 145) (cI 0)],.o [.pick 147 (.t 143) (cB true) (.t 146),.mov 148 (.t 147)],.g 148 false [.faddr 149 3 (.t 5),.ld 150 1 false (.t 149),.bin 151 .gtr (.t 150) (cI 16)],.o [.pick 152 (.t 148) (cB true) (.t 151),.mov 153 (.t 152)],.g 153 false [.faddr 154 4 (.t 5),.ld 155 1 false (.t 154),.faddr 156 3 (.t 5),.ld 157 1 false (.t 156),.bin 158 .sub (cI 16) (.t 157),.bin 159 .gtr (.t 155) (.t 158)],.o [.pick 160 (.t 153) (cB true) (.t 159)]]) c77_32) c77_33)
def c77_35:Cd:=(.seq (.reg [3,5,7,195,196] [.call none 196 123 [(cI 6)],.o [.st 4 (.t 6) (.t 196)]]) .ret)
def c77_36:Cd:=(.cond (.t 195) c77_35 .skip)
def c77_37:Cd:=(.draw [[],[0],[],[],[3],[],[4,5],[6],[],[8],[7,9],[],[11],[12],[10,13],[],[15],[],[16,17],[18],[],[20],[],[22],[23],[21,24],[19,25],[14,26],[1,2,0,1,2,3,4,5,6,7,8,9,10,11,12,13,14,15,16,17,18,19,20,21,22,23,24,25,26,27],[28,27,0,1,2,3,4,5,6,7,8,9,10,11,12,13,14,15,16,17,18,19,20,21,22,23,24,25,26,27]] [3,5,7,195,197,198,199,200,201,202,203,204,205,206,207,208,209,210,211,212,213,214,215,216,217,218,219,220,221,222,223,224,225] [.o [.faddr 197 1 (.t 3),.ld 198 1 false (.t 197),.mov 199 (.t 7),.faddr 200 1 (.t 3),.ld 201 1 false (.t 200),.mov 202 (.t 7),.iaddr 203 1 (.t 201) (.t 202),.ld 204 1 false (.t 203),.faddr 205 3 (.t 5),.ld 206 1 false (.t 205),.ssl 207 (.t 204) none (some (.t 206)),.faddr 208 5 (.t 5),.ld 209 1 false (.t 208),.b2s 210 (.t 209),.bin 211 .add (.t 207) (.t 210),.faddr 212 1 (.t 3),.ld 213 1 false (.t 212),.mov 214 (.t 7),.iaddr 215 1 (.t 213) (.t 214),.ld 216 1 false (.t 215),.faddr 217 3 (.t 5),.ld 218 1 false (.t 217),.faddr 219 5 (.t 5),.ld 220 1 false (.t 219),.len 221 (.t 220),.bin 222 .add (.t 218) (.t 221),.ssl 223 (.t 216) (some (.t 222)) none,.bin 224 .add (.t 211) (.t 223),.iaddr 225 1 (.t 198) (.t 199),.st 1 (.t 225) (.t 224)]])
def c77_38:Cd:=(.seq (.seq (.reg [1,82,177,179,180,181,182,183,184,185,186,187,188,189,190,191,192,193,194] [.o [.faddr 179 3 (.t 5),.ld 180 1 false (.t 179),.bin 181 .lss (.t 180) (cI 0),.mov 182 (.t 181)],.g 182 false [.faddr 183 3 (.t 5),.ld 184 1 false (.t 183),.bin 185 .gtr (.t 184) (cI 16)],.o [.pick 186 (.t 182) (cB true) (.t 185),.mov 187 (.t 186)],.g 187 false [.faddr 188 5 (.t 5),.ld 189 1 false (.t 188),.len 190 (.t 189),.faddr 191 3 (.t 5),.ld 192 1 false (.t 191),.bin 193 .sub (cI 16) (.t 192),.bin 194 .gtr (.t 190) (.t 193)],.o [.pick 195 (.t 187) (cB true) (.t 194)]]) c77_36) c77_37)
def c77_39:Cd:=(.draw [[],[0],[],[1,2],[3],[],[5],[4,6,0,1,2,3,4,5,6],[7,0,1,2,3,4,5,6]] [1,3,5,7,82,226,228,229,230,231,232,233,234,235] [.o [.faddr 228 2 (.t 3),.ld 229 1 false (.t 228),.mov 230 (.t 1),.iaddr 231 1 (.t 229) (.t 230),.ld 232 1 false (.t 231),.faddr 233 2 (.t 5),.ld 234 1 false (.t 233),.iaddr 235 1 (.t 232) (.t 234),.st 1 (.t 235) (cI (-1))]])
def c77_40:Cd:=(.seq (.reg [3,7,241,242] [.call none 242 123 [(cI 7)],.o [.st 4 (.t 6) (.t 242)]]) .ret)
def c77_41:Cd:=(.cond (.t 241) c77_40 .skip)
def c77_42:Cd:=(.draw [[],[0],[],[],[3],[],[],[1,2,0,1,2,6],[7,6,0,1,2,6],[4,5,0,1,2,3,4,5,6,7,8],[9,6,8,0,1,2,3,4,5,6,7,8]] [3,7,241,243,244,245,246,247,248,249,250,251] [.o [.faddr 243 0 (.t 3),.ld 244 1 false (.t 243),.mov 245 (.t 7),.faddr 246 1 (.t 3),.ld 247 1 false (.t 246),.mov 248 (.t 7)],.call none 249 122 [],.o [.iaddr 250 1 (.t 244) (.t 245),.st 1 (.t 250) (cB false),.iaddr 251 1 (.t 247) (.t 248),.st 1 (.t 251) (.t 249)]])
def c77_43:Cd:=(.seq (.seq (.reg [236,238,239,240] [.o [.ld 238 3 true (.t 3),.mov 239 (.t 7)],.call none 240 127 [(.t 238),(.t 239)],.o [.bin 241 .gtr (.t 240) (cI 0)]]) c77_41) c77_42)
def c77_44:Cd:=(.cond (.t 236) c77_43 .skip)
def c77_45:Cd:=(.seq (.reg [1,5,82,226,237] [.o [.bin 237 .eql (.t 82) (cI 8),.asg 236 (.t 237)]]) c77_44)
def c77_46:Cd:=(.cond (.t 226) c77_39 c77_45)
def c77_47:Cd:=(.seq (.reg [177,227] [.o [.bin 227 .eql (.t 82) (cI 5),.asg 226 (.t 227)]]) c77_46)
def c77_48:Cd:=(.cond (.t 177) c77_38 c77_47)
def c77_49:Cd:=(.seq (.reg [138,178] [.o [.bin 178 .eql (.t 82) (cI 4),.asg 177 (.t 178)]]) c77_48)
def c77_50:Cd:=(.cond (.t 138) c77_34 c77_49)
def c77_51:Cd:=(.seq (.reg [125,139] [.o [.bin 139 .eql (.t 82) (cI 3),.asg 138 (.t 139)]]) c77_50)
def c77_52:Cd:=(.cond (.t 125) c77_30 c77_51)
def c77_53:Cd:=(.seq (.reg [83,126] [.o [.bin 126 .eql (.t 82) (cI 2),.asg 125 (.t 126)]]) c77_52)
def c77_54:Cd:=(.cond (.t 83) c77_26 c77_53)
def c77_55:Cd:=(.block 0 (.seq (.reg [84] [.o [.bin 84 .eql (.t 82) (cI 1),.asg 83 (.t 84)]]) c77_54))
def c77_56:Cd:=(.seq (.reg [3,7,236,252] [.o [.build 252 [(.sc (.int .i64 0)),(.sc (.int .i64 0)),(.sc (.int .i64 0)),(.sc (.slice none 0 0))] [],.st 4 (.t 6) (.t 252)]]) .ret)
def c77_57:Cd:=(.seq (.seq (.reg [79,72,81] [.o [.faddr 81 0 (.t 5),.ld 82 1 false (.t 81)]]) c77_55) c77_56)
def c77_58:Cd:=(.seq (.seq (.reg [58,42,60,61,62,63,64,65,66,67,68,69,70,71] [.o [.faddr 60 0 (.t 5),.ld 61 1 false (.t 60),.bin 62 .eql (.t 61) (cI 3),.mov 63 (.t 62)],.g 63 false [.faddr 64 0 (.t 5),.ld 65 1 false (.t 64),.bin 66 .eql (.t 65) (cI 4)],.o [.pick 67 (.t 63) (cB true) (.t 66),.mov 68 (.t 67)],.g 68 false [.faddr 69 0 (.t 5),.ld 70 1 false (.t 69),.bin 71 .eql (.t 70) (cI 5)],.o [.pick 72 (.t 68) (cB true) (.t 71)]]) c77_13) c77_57)
def c77_59:Cd:=(.seq (.seq (.reg [30,31,32,33,34,35,36,37,38,39,40,41] [.o [.faddr 30 0 (.t 5),.ld 31 1 false (.t 30),.bin 32 .eql (.t 31) (cI 2),.mov 33 (.t 32)],.g 33 false [.faddr 34 0 (.t 5),.ld 35 1 false (.t 34),.bin 36 .eql (.t 35) (cI 6)],.o [.pick 37 (.t 33) (cB true) (.t 36),.mov 38 (.t 37)],.g 38 false [.faddr 39 0 (.t 5),.ld 40 1 false (.t 39),.bin 41 .eql (.t 40) (cI 8)],.o [.pick 42 (.t 38) (cB true) (.t 41)]]) c77_8) c77_58)
def c77_60:Cd:=(.seq (.reg [26,28,29] [.o [.faddr 28 1 (.t 5),.ld 29 1 false (.t 28),.asg 7 (.t 29)]]) c77_59)
def c77_61:Cd:=(.seq (.seq (.reg [8,9,10,11,12,13,14,15,16,17,18,19,20,21,22,23,24,25] [.o [.mov 8 (.t 1),.bin 9 .lss (.t 8) (cI 0),.mov 10 (.t 9)],.g 10 false [.mov 11 (.t 1),.faddr 12 2 (.t 3),.ld 13 1 false (.t 12),.len 14 (.t 13),.bin 15 .geq (.t 11) (.t 14)],.o [.pick 16 (.t 10) (cB true) (.t 15),.mov 17 (.t 16)],.g 17 false [.faddr 18 0 (.t 5),.ld 19 1 false (.t 18),.bin 20 .lss (.t 19) (cI 1)],.o [.pick 21 (.t 17) (cB true) (.t 20),.mov 22 (.t 21)],.g 22 false [.faddr 23 0 (.t 5),.ld 24 1 false (.t 23),.bin 25 .gtr (.t 24) (cI 8)],.o [.pick 26 (.t 22) (cB true) (.t 25)]]) c77_1) c77_60)
def fi77:FI:=⟨253,3,[.cell 6 4 true],(.seq (.reg [0,2] [.o [.box 3 (.t 0),.box 5 (.t 2),.alloc 6 [(.sc (.int .i64 0)),(.sc (.int .i64 0)),(.sc (.int .i64 0)),(.sl true () 1 0 [])]]]) c77_61)⟩
theorem ok77:fiOk Try.prog 77 fi77:=⟨_,_,Try.func77,rfl,by kernel_rfl,by kernel_rfl,Try.call77⟩
def c76_0:Cd:=(.seq (.reg [0,1,5,21,22] [.o [.ld 22 3 true (.t 5),.st 3 (.t 4) (.t 22)]]) .ret)
def c76_1:Cd:=(.cond (.t 21) c76_0 .skip)
def c76_2:Cd:=(.cond (.t 25) .skip (.exit 0))
def c76_3:Cd:=(.reg [26,27] [.o [.mov 26 (.t 6),.bin 27 .add (.t 26) (cI 1),.asg 6 (.t 27)]])
def c76_4:Cd:=(.seq (.block 1 (.draw [[],[0],[],[1,2],[],[4],[3],[6],[5,7,6],[0,1,2,3,4,5],[9,3,8,0,1,2,3,4,5],[0,1,2,3,4,5,6,7,8,9,10],[11,8,10,0,1,2,3,4,5,6,7,8,9,10]] [25,28,29,30,31,32,33,34,35,36,37,38] [.o [.faddr 28 0 (.t 5),.ld 29 1 false (.t 28),.bs1 30 1 (cB false),.app 31 1 1 (.t 29) (.t 30),.faddr 32 1 (.t 5),.ld 33 1 false (.t 32)],.call none 34 122 [],.o [.bs1 35 1 (.t 34),.app 36 1 16 (.t 33) (.t 35),.faddr 37 0 (.t 5),.st 1 (.t 37) (.t 31),.faddr 38 1 (.t 5),.st 1 (.t 38) (.t 36)]])) c76_3)
def c76_5:Cd:=(.seq (.seq (.reg [23,24] [.o [.mov 23 (.t 6),.mov 24 (.t 0),.bin 25 .lss (.t 23) (.t 24)]]) c76_2) c76_4)
def c76_6:Cd:=(.block 0 (.loop c76_5))
def c76_7:Cd:=(.cond (.t 41) .skip (.exit 2))
def c76_8:Cd:=(.reg [42,43] [.o [.mov 42 (.t 7),.bin 43 .add (.t 42) (cI 1),.asg 7 (.t 43)]])
def c76_9:Cd:=(.seq (.block 3 (.reg [41,44,45,46,47,48,49] [.o [.faddr 44 2 (.t 5),.ld 45 1 false (.t 44),.bsn 46 [(cI (-1)),(cI (-1)),(cI (-1)),(cI (-1)),(cI (-1)),(cI (-1))],.bs1 47 1 (.t 46),.app 48 1 24 (.t 45) (.t 47),.faddr 49 2 (.t 5),.st 1 (.t 49) (.t 48)]])) c76_8)
def c76_10:Cd:=(.seq (.seq (.reg [39,40] [.o [.mov 39 (.t 7),.mov 40 (.t 1),.bin 41 .lss (.t 39) (.t 40)]]) c76_7) c76_9)
def c76_11:Cd:=(.block 2 (.loop c76_10))
def c76_12:Cd:=(.seq (.reg [1,5,7,39,40,41,50] [.o [.ld 50 3 true (.t 5),.st 3 (.t 4) (.t 50)]]) .ret)
def c76_13:Cd:=(.seq (.seq (.reg [0,6,23,24,25] [.o [.asg 7 (cI 0)]]) c76_11) c76_12)
def c76_14:Cd:=(.seq (.seq (.reg [21] [.o [.asg 6 (cI 0)]]) c76_6) c76_13)
def c76_15:Cd:=(.seq (.seq (.reg [8,9,10,11,12,13,14,15,16,17,18,19,20] [.o [.mov 8 (.t 0),.bin 9 .lss (.t 8) (cI 1),.mov 10 (.t 9)],.g 10 false [.mov 11 (.t 0),.bin 12 .gtr (.t 11) (cI 48)],.o [.pick 13 (.t 10) (cB true) (.t 12),.mov 14 (.t 13)],.g 14 false [.mov 15 (.t 1),.bin 16 .lss (.t 15) (cI 1)],.o [.pick 17 (.t 14) (cB true) (.t 16),.mov 18 (.t 17)],.g 18 false [.mov 19 (.t 1),.bin 20 .gtr (.t 19) (cI 6)],.o [.pick 21 (.t 18) (cB true) (.t 20)]]) c76_1) c76_14)
def c76_16:Cd:=(.seq (.reg [] [.o [.alloc 5 [(.sl true () 1 0 []),(.sl true () 1 0 []),(.sl true () 1 0 [])]]]) c76_15)
def fi76:FI:=⟨51,2,[.cell 4 3 true],(.seq (.reg [] [.o [.alloc 4 [(.sl true () 1 0 []),(.sl true () 1 0 []),(.sl true () 1 0 [])]]]) c76_16)⟩
theorem ok76:fiOk Try.prog 76 fi76:=⟨_,_,Try.func76,rfl,by kernel_rfl,by kernel_rfl,Try.call76⟩
def c137_0:Cd:=(.seq (.reg [2,3,5,6,7,8,9,10,11,12,13,14,15,16,17,18,19,20,21,22,23,24,25,26,27,28,29,30,31,32] [.o [.faddr 5 0 (.t 2),.ld 6 1 false (.t 5),.faddr 7 0 (.t 3),.ld 8 1 false (.t 7),.bin 9 .eql (.t 6) (.t 8),.mov 10 (.t 9)],.g 10 true [.faddr 11 1 (.t 2),.ld 12 1 false (.t 11),.faddr 13 1 (.t 3),.ld 14 1 false (.t 13),.bin 15 .eql (.t 12) (.t 14)],.o [.pick 16 (.t 10) (.t 15) (cB false),.mov 17 (.t 16)],.g 17 true [.faddr 18 2 (.t 2),.ld 19 1 false (.t 18),.faddr 20 2 (.t 3),.ld 21 1 false (.t 20),.bin 22 .eql (.t 19) (.t 21)],.o [.pick 23 (.t 17) (.t 22) (cB false),.mov 24 (.t 23)],.g 24 true [.faddr 25 3 (.t 2),.ld 26 1 false (.t 25),.b2s 27 (.t 26),.faddr 28 3 (.t 3),.ld 29 1 false (.t 28),.b2s 30 (.t 29),.bin 31 .eql (.t 27) (.t 30)],.o [.pick 32 (.t 24) (.t 31) (cB false),.asg 4 (.t 32)]]) .ret)
def fi137:FI:=⟨33,2,[.t 4],(.seq (.reg [0,1,4] [.o [.box 2 (.t 0),.box 3 (.t 1),.asg 4 (cB false)]]) c137_0)⟩
theorem ok137:fiOk Try.prog 137 fi137:=⟨_,_,Try.func137,rfl,by kernel_rfl,by kernel_rfl,Try.call137⟩
def c122_0:Cd:=(.seq (.reg [1,2] [.o [.make 1 1 1 [(.sc (.int .u8 0))] (cI 16) (cI 16),.b2s 2 (.t 1),.asg 0 (.t 2)]]) .ret)
def fi122:FI:=⟨3,0,[.t 0],(.seq (.reg [0] [.o [.asg 0 (.c (.sc (.string ⟨#[]⟩)))]]) c122_0)⟩
theorem ok122:fiOk Try.prog 122 fi122:=⟨_,_,Try.func122,rfl,by kernel_rfl,by kernel_rfl,Try.call122⟩
def c123_0:Cd:=(.seq (.reg [0,3,4] [.o [.mov 3 (.t 0),.build 4 [(.sc (.int .i64 0)),(.sc (.int .i64 0)),(.sc (.int .i64 0)),(.sc (.slice none 0 0))] [(0,1,(.t 3))],.st 4 (.t 2) (.t 4)]]) .ret)
def fi123:FI:=⟨5,1,[.cell 2 4 true],(.seq (.reg [] [.o [.alloc 2 [(.sc (.int .i64 0)),(.sc (.int .i64 0)),(.sc (.int .i64 0)),(.sl true () 1 0 [])]]]) c123_0)⟩
theorem ok123:fiOk Try.prog 123 fi123:=⟨_,_,Try.func123,rfl,by kernel_rfl,by kernel_rfl,Try.call123⟩
def c124_0:Cd:=(.seq (.reg [1,2,3,29] [.o [.asg 6 (cI (-1))]]) .ret)
def c124_1:Cd:=(.cond (.t 29) c124_0 .skip)
def c124_2:Cd:=(.seq (.reg [1,2,3,29,30,31,32,33,34,35,36,37] [.o [.faddr 30 2 (.t 3),.ld 31 1 false (.t 30),.mov 32 (.t 1),.iaddr 33 1 (.t 31) (.t 32),.ld 34 1 false (.t 33),.mov 35 (.t 2),.iaddr 36 1 (.t 34) (.t 35),.ld 37 1 false (.t 36),.asg 6 (.t 37)]]) .ret)
def c124_3:Cd:=(.seq (.seq (.reg [7,8,9,10,11,12,13,14,15,16,17,18,19,20,21,22,23,24,25,26,27,28] [.o [.mov 7 (.t 1),.bin 8 .lss (.t 7) (cI 0),.mov 9 (.t 8)],.g 9 false [.mov 10 (.t 1),.faddr 11 2 (.t 3),.ld 12 1 false (.t 11),.len 13 (.t 12),.bin 14 .geq (.t 10) (.t 13)],.o [.pick 15 (.t 9) (cB true) (.t 14),.mov 16 (.t 15)],.g 16 false [.mov 17 (.t 2),.bin 18 .lss (.t 17) (cI 0)],.o [.pick 19 (.t 16) (cB true) (.t 18),.mov 20 (.t 19)],.g 20 false [.mov 21 (.t 2),.faddr 22 2 (.t 3),.ld 23 1 false (.t 22),.mov 24 (.t 1),.iaddr 25 1 (.t 23) (.t 24),.ld 26 1 false (.t 25),.len 27 (.t 26),.bin 28 .geq (.t 21) (.t 27)],.o [.pick 29 (.t 20) (cB true) (.t 28)]]) c124_1) c124_2)
def fi124:FI:=⟨38,3,[.t 6],(.seq (.reg [0,6] [.o [.box 3 (.t 0),.asg 6 (cI 0)]]) c124_3)⟩
theorem ok124:fiOk Try.prog 124 fi124:=⟨_,_,Try.func124,rfl,by kernel_rfl,by kernel_rfl,Try.call124⟩
def c125_0:Cd:=(.cond (.t 13) .skip (.exit 0))
def c125_1:Cd:=(.seq (.reg [1,2,5,24] [.o [.asg 4 (cB true)]]) .ret)
def c125_2:Cd:=(.cond (.t 24) c125_1 .skip)
def c125_3:Cd:=(.reg [24,14,15] [.o [.mov 14 (.t 5),.bin 15 .add (.t 14) (cI 1),.asg 5 (.t 15)]])
def c125_4:Cd:=(.seq (.block 1 (.seq (.reg [13,16,17,18,19,20,21,22,23] [.o [.faddr 16 2 (.t 2),.ld 17 1 false (.t 16),.mov 18 (.t 1),.iaddr 19 1 (.t 17) (.t 18),.ld 20 1 false (.t 19),.mov 21 (.t 5),.iaddr 22 1 (.t 20) (.t 21),.ld 23 1 false (.t 22),.bin 24 .lss (.t 23) (cI 0)]]) c125_2)) c125_3)
def c125_5:Cd:=(.seq (.seq (.reg [6,7,8,9,10,11,12] [.o [.mov 6 (.t 5),.faddr 7 2 (.t 2),.ld 8 1 false (.t 7),.mov 9 (.t 1),.iaddr 10 1 (.t 8) (.t 9),.ld 11 1 false (.t 10),.len 12 (.t 11),.bin 13 .lss (.t 6) (.t 12)]]) c125_0) c125_4)
def c125_6:Cd:=(.block 0 (.loop c125_5))
def c125_7:Cd:=(.seq (.reg [1,2,5,6,7,8,9,10,11,12,13] [.o [.asg 4 (cB false)]]) .ret)
def c125_8:Cd:=(.seq (.seq (.reg [] [.o [.asg 5 (cI 0)]]) c125_6) c125_7)
def fi125:FI:=⟨25,2,[.t 4],(.seq (.reg [0,4] [.o [.box 2 (.t 0),.asg 4 (cB false)]]) c125_8)⟩
theorem ok125:fiOk Try.prog 125 fi125:=⟨_,_,Try.func125,rfl,by kernel_rfl,by kernel_rfl,Try.call125⟩
def c126_0:Cd:=(.cond (.t 15) .skip (.exit 0))
def c126_1:Cd:=(.seq (.reg [7,35] [.o [.mov 35 (.t 7),.asg 6 (.t 35)]]) .ret)
def c126_2:Cd:=(.seq (.reg [1,2,3,26,27,28,29,30,31,32,33,34] [.o [.faddr 27 2 (.t 3),.ld 28 1 false (.t 27),.mov 29 (.t 1),.iaddr 30 1 (.t 28) (.t 29),.ld 31 1 false (.t 30),.mov 32 (.t 7),.mov 33 (.t 2),.iaddr 34 1 (.t 31) (.t 32),.st 1 (.t 34) (.t 33)]]) c126_1)
def c126_3:Cd:=(.cond (.t 26) c126_2 .skip)
def c126_4:Cd:=(.reg [26,16,17] [.o [.mov 16 (.t 7),.bin 17 .add (.t 16) (cI 1),.asg 7 (.t 17)]])
def c126_5:Cd:=(.seq (.block 1 (.seq (.reg [15,18,19,20,21,22,23,24,25] [.o [.faddr 18 2 (.t 3),.ld 19 1 false (.t 18),.mov 20 (.t 1),.iaddr 21 1 (.t 19) (.t 20),.ld 22 1 false (.t 21),.mov 23 (.t 7),.iaddr 24 1 (.t 22) (.t 23),.ld 25 1 false (.t 24),.bin 26 .lss (.t 25) (cI 0)]]) c126_3)) c126_4)
def c126_6:Cd:=(.seq (.seq (.reg [8,9,10,11,12,13,14] [.o [.mov 8 (.t 7),.faddr 9 2 (.t 3),.ld 10 1 false (.t 9),.mov 11 (.t 1),.iaddr 12 1 (.t 10) (.t 11),.ld 13 1 false (.t 12),.len 14 (.t 13),.bin 15 .lss (.t 8) (.t 14)]]) c126_0) c126_5)
def c126_7:Cd:=(.block 0 (.loop c126_6))
def c126_8:Cd:=(.seq (.reg [1,2,3,7,8,9,10,11,12,13,14,15] [.o [.asg 6 (cI (-1))]]) .ret)
def c126_9:Cd:=(.seq (.seq (.reg [] [.o [.asg 7 (cI 0)]]) c126_7) c126_8)
def fi126:FI:=⟨36,3,[.t 6],(.seq (.reg [0,6] [.o [.box 3 (.t 0),.asg 6 (cI 0)]]) c126_9)⟩
theorem ok126:fiOk Try.prog 126 fi126:=⟨_,_,Try.func126,rfl,by kernel_rfl,by kernel_rfl,Try.call126⟩
def c127_0:Cd:=(.cond (.t 12) .skip (.exit 0))
def c127_1:Cd:=(.cond (.t 22) .skip (.exit 2))
def c127_2:Cd:=(.reg [38,39,40] [.o [.mov 39 (.t 5),.bin 40 .add (.t 39) (cI 1),.asg 5 (.t 40)]])
def c127_3:Cd:=(.cond (.t 38) c127_2 .skip)
def c127_4:Cd:=(.reg [38,23,24] [.o [.mov 23 (.t 7),.bin 24 .add (.t 23) (cI 1),.asg 7 (.t 24)]])
def c127_5:Cd:=(.seq (.block 3 (.seq (.reg [22,25,26,27,28,29,30,31,32,33,34,35,36,37] [.o [.faddr 25 2 (.t 2),.ld 26 1 false (.t 25),.mov 27 (.t 6),.iaddr 28 1 (.t 26) (.t 27),.ld 29 1 false (.t 28),.mov 30 (.t 7),.iaddr 31 1 (.t 29) (.t 30),.ld 32 1 false (.t 31),.mov 33 (.t 1),.bin 34 .eql (.t 32) (.t 33),.mov 35 (.t 34)],.g 35 true [.mov 36 (.t 1),.bin 37 .geq (.t 36) (cI 0)],.o [.pick 38 (.t 35) (.t 37) (cB false)]]) c127_3)) c127_4)
def c127_6:Cd:=(.seq (.seq (.reg [15,16,17,18,19,20,21] [.o [.mov 15 (.t 7),.faddr 16 2 (.t 2),.ld 17 1 false (.t 16),.mov 18 (.t 6),.iaddr 19 1 (.t 17) (.t 18),.ld 20 1 false (.t 19),.len 21 (.t 20),.bin 22 .lss (.t 15) (.t 21)]]) c127_1) c127_5)
def c127_7:Cd:=(.block 2 (.loop c127_6))
def c127_8:Cd:=(.reg [7,15,16,17,18,19,20,21,22,13,14] [.o [.mov 13 (.t 6),.bin 14 .add (.t 13) (cI 1),.asg 6 (.t 14)]])
def c127_9:Cd:=(.seq (.block 1 (.seq (.reg [12] [.o [.asg 7 (cI 0)]]) c127_7)) c127_8)
def c127_10:Cd:=(.seq (.seq (.reg [8,9,10,11] [.o [.mov 8 (.t 6),.faddr 9 2 (.t 2),.ld 10 1 false (.t 9),.len 11 (.t 10),.bin 12 .lss (.t 8) (.t 11)]]) c127_0) c127_9)
def c127_11:Cd:=(.block 0 (.loop c127_10))
def c127_12:Cd:=(.seq (.reg [1,2,5,6,8,9,10,11,12,41] [.o [.mov 41 (.t 5),.asg 4 (.t 41)]]) .ret)
def c127_13:Cd:=(.seq (.seq (.reg [] [.o [.asg 6 (cI 0)]]) c127_11) c127_12)
def c127_14:Cd:=(.seq (.reg [] [.o [.asg 5 (cI 0)]]) c127_13)
def fi127:FI:=⟨42,2,[.t 4],(.seq (.reg [0,4] [.o [.box 2 (.t 0),.asg 4 (cI 0)]]) c127_14)⟩
theorem ok127:fiOk Try.prog 127 fi127:=⟨_,_,Try.func127,rfl,by kernel_rfl,by kernel_rfl,Try.call127⟩
end Go.OT
namespace Go.OT
open Go.Proofs
theorem wu1:IntKind.wrap .u64 1=1:=rfl
theorem wu6:IntKind.wrap .u64 6=6:=rfl
theorem wi6:IntKind.wrap .i64 6=6:=rfl
abbrev u64 (n:Int):AU:=.sc (.int .u64 n)
set_option maxHeartbeats 4000000 in
theorem mul64_fn:FnC Try.prog 166 [] [u64 1,u64 6] [] (.tuple [u64 0,u64 6]):=by
 refine FnC.go ok166 rfl ?_
 refine WL.sreg (by simp;rfl) (by simp;rfl) ?_
 refine WL.sreg (by simp;rfl) (by simp;rfl) ?_
 refine WL.sreg (by simp;rfl) (by simp;rfl) ?_
 refine WL.sreg (by simp;rfl) (by simp;rfl) ?_
 refine WL.sreg (by simp;rfl) (by simp;rfl) ?_
 refine WL.sreg (by simp;rfl) (by simp;rfl) ?_
 refine WL.sreg (by simp;rfl) (by simp;rfl) ?_
 refine WL.sreg (by simp;rfl) (by simp;rfl) ?_
 refine WL.sreg (by simp;rfl) (by simp;rfl) ?_
 refine WL.sreg (by simp;rfl) (by simp;rfl) ?_
 refine WL.sreg (by simp;rfl) (by simp;rfl) ?_
 refine WL.sreg (by simp;rfl) (by simp;rfl) ?_
 refine WL.ret ⟨.inr rfl,?_⟩
 simp[fi166]
 exact⟨by kernel_rfl,by kernel_rfl⟩
set_option maxHeartbeats 4000000 in
theorem mul_fn:FnC Try.prog 140 [] [u64 1,u64 6] [] (.tuple [u64 0,u64 6]):=by
 refine FnC.go ok140 rfl ?_
 refine WL.sreg (by simp;rfl) (by simp;rfl) ?_
 refine WL.seq (WL.cond (t:=false) (by simp) (by simp) fun _=>WL.skip ?_)
 refine WL.sregC (RL.o (by simp;rfl) (RL.call0 false mul64_fn (by simp) (by simp) (RL.o (by simp;rfl) (RL.nil ⟨_,by simp;rfl,?_⟩))))
 refine WL.sreg (by simp;rfl) (by simp;rfl) ?_
 refine WL.ret ⟨.inr rfl,?_⟩
 simp[fi140]
theorem ws1 (a b:Int)(h:IntKind.wrap .i64 (a+b)=a+b):IntKind.wrap .i64 (a+b)=a+b:=h
def repS:Nat→SL
 | 0=>[(700,0,sI true [-1,0,0,0,0,0]),(800,0,i64 1)]
 | 1=>[(700,0,sI true [-1,-1,0,0,0,0]),(800,0,i64 2)]
 | 2=>[(700,0,sI true [-1,-1,-1,-1,0,0]),(800,0,i64 4)]
 | _=>[(700,0,sI true [-1,-1,-1,-1,-1,-1]),(800,0,i64 6)]
set_option maxHeartbeats 4000000 in
theorem repeat_fn:FnC Try.prog 96 [] [sI false [-1],i64 6] [] (sI true [-1,-1,-1,-1,-1,-1]):=by
 refine FnC.go ok96 rfl ?_
 refine WL.sreg (by simp[wu1,wu6,wi6];rfl) (by simp[wu1,wu6,wi6];rfl) ?_
 refine WL.seq (WL.sreg (by simp[wu1,wu6,wi6];rfl) (by simp[wu1,wu6,wi6];rfl) ?_)
 refine WL.cond (t:=false) (by simp) (by simp) fun _=>WL.skip ?_
 refine WL.sregC (RL.o (by simp[wu1,wu6,wi6];rfl) (RL.call0 false mul_fn (by simp[wu1,wu6]) (by simp) (RL.o (by simp[wu1,wu6,wi6];rfl) (RL.nil ⟨_,by simp;rfl,?_⟩))))
 refine WL.seq (WL.sregC (RL.o (by simp[wu1,wu6,wi6];rfl) (RL.g (by simp[wu1,wu6,wi6];rfl) (RL.o (by simp[wu1,wu6,wi6];rfl) (RL.nil ⟨_,by simp;rfl,?_⟩)))))
 refine WL.cond (t:=false) (by simp) (by simp) fun _=>WL.skip ?_
 refine WL.sreg (by simp[wu1,wu6,wi6];rfl) (by simp[wu1,wu6,wi6];rfl) ?_
 refine WL.sreg (by simp[repL];rfl) (by simp;rfl) ?_
 refine WL.seq (WL.block (WL.count 3 repS (fun _=>True) rfl trivial fun i hi _=>?_))
 match i,hi with
 | 0,_ =>
  refine WL.seq (WL.sreg (by simp[repS];rfl) (by simp;rfl) ?_)
  refine WL.cond (t:=true) (by simp) (fun _=>WL.skip ?_) (by simp)
  refine WL.block (WL.draw mixed (by simp[cleanL,noH]) (DL.o (by simp[ws1 1 1 rfl];exact⟨rfl,rfl⟩) (DL.nil ⟨by kernel_rfl,_,by simp;rfl,by omega,?_,trivial⟩)))
  simp[repS]
  exact⟨rfl,rfl⟩
 | 1,_ =>
  refine WL.seq (WL.sreg (by simp[repS];rfl) (by simp;rfl) ?_)
  refine WL.cond (t:=true) (by simp) (fun _=>WL.skip ?_) (by simp)
  refine WL.block (WL.draw mixed (by simp[cleanL,noH]) (DL.o (by simp[ws1 2 2 rfl];exact⟨rfl,rfl⟩) (DL.nil ⟨by kernel_rfl,_,by simp;rfl,by omega,?_,trivial⟩)))
  simp[repS]
  exact⟨rfl,rfl⟩
 | 2,_ =>
  refine WL.seq (WL.sreg (by simp[repS];rfl) (by simp;rfl) ?_)
  refine WL.cond (t:=true) (by simp) (fun _=>WL.skip ?_) (by simp)
  refine WL.block (WL.draw mixed (by simp[cleanL,noH]) (DL.o (by simp[ws1 4 2 rfl];exact⟨rfl,rfl⟩) (DL.nil ⟨by kernel_rfl,_,by simp;rfl,by omega,?_,trivial⟩)))
  simp[repS]
  exact⟨rfl,rfl⟩
 | 3,_ =>
  refine WL.seq (WL.sreg (by simp[repS];rfl) (by simp;rfl) ?_)
  refine WL.cond (t:=false) (by simp) (by simp) fun _=>WL.exit ?_
  refine WL.sregC (RL.o (by simp;rfl) (RL.own 4 (by decide) (by simp;rfl) (RL.nil ⟨_,by simp;rfl,?_⟩)))
  refine WL.ret ⟨.inr rfl,?_⟩
  simp[fi96]
end Go.OT
namespace Go.OT
open Go.Proofs
def newBad (p c:Int):Bool:=decide (p < 1) || (decide (48 < p) || (decide (c < 1) || decide (6 < c)))
def newSt (p c:Int):St:=if newBad p c=true then ⟨[],[],[]⟩ else ⟨List.replicate p.toNat false,List.replicate p.toNat (List.replicate 16 0),List.replicate c.toNat [-1,-1,-1,-1,-1,-1]⟩
theorem replicate_snoc {α:Type}(n:Nat)(x:α):List.replicate n x ++ [x]=List.replicate (n+1) x:=by
 rw[← List.replicate_append_replicate (m:=1)]<;>rfl
def nwA (n m i:Nat)(cs:List AU):SL:=[(100,0,i64 m),(400,0,.bptr 4 1 0),(401,0,.sl true () 1 0 []),(402,0,.sl true () 1 0 []),(403,0,.sl true () 1 0 []),(499,1,.non),(500,0,.bptr 5 1 0),(501,0,.sl true () 1 n (List.replicate n (bl false))),(502,0,.sl true () 1 i cs),(503,0,.sl true () 1 0 []),(599,1,.non),(2400,0,i64 n),(2500,0,i64 i)]
def nwB (n m j:Nat)(cs:List AU):SL:=[(400,0,.bptr 4 1 0),(401,0,.sl true () 1 0 []),(402,0,.sl true () 1 0 []),(403,0,.sl true () 1 0 []),(499,1,.non),(500,0,.bptr 5 1 0),(501,0,.sl true () 1 n (List.replicate n (bl false))),(502,0,.sl true () 1 n (List.replicate n (sU true (List.replicate 16 0)))),(503,0,.sl true () 1 j cs),(599,1,.non),(3400,0,i64 m),(3500,0,i64 j)]
theorem grow_rep (x:AU)(i:Nat):List.take (i+1) (List.replicate i x ++ [x])=List.replicate (i+1) x:=by
 rw[replicate_snoc,List.take_of_length_le (by simp)]
theorem repL_rep (x:AU):∀ n,repL [x] n=List.replicate n x
 | 0=>rfl
 | n+1=>by rw[repL,repL_rep x n];rfl
theorem take_repL (x:AU)(n:Nat):List.take n (repL [x] n)=List.replicate n x:=by
 rw[repL_rep,List.take_of_length_le (by simp)]
set_option maxHeartbeats 4000000 in
theorem new_fn (p c:Int):FnC Try.prog 42 [] [i64 p,i64 c] [] (encS true (newSt p c)):=by
 refine FnC.go ok42 rfl ?_
 refine WL.sreg (by simp;rfl) (by simp;rfl) ?_
 refine WL.seq (WL.ifEq (newBad p c) [(0,0,i64 p),(100,0,i64 c),(400,0,.bptr 4 1 0),(401,0,.sl true () 1 0 []),(402,0,.sl true () 1 0 []),(403,0,.sl true () 1 0 []),(499,1,.non),(1900,0,bl (newBad p c))] ?_ (by simp) (fun h=>?_) (fun h=>WL.skip ?_))
 ·by_cases h1:p < 1
  ·simp[newBad,h1]
  by_cases h2:48 < p
  ·simp[newBad,h1,h2]
  by_cases h3:c < 1
  ·simp[newBad,h1,h2,h3]
  by_cases h4:6 < c
  ·simp[newBad,h1,h2,h3,h4]
  ·simp[newBad,h1,h2,h3,h4]
 ·refine WL.sreg (by simp;rfl) (by simp;rfl) ?_
  refine WL.nil1 401 true 1 (by simp) (WL.nil1 402 true 1 (by simp) (WL.nil1 403 true 1 (by simp) (WL.ret ⟨.inr rfl,?_⟩)))
  simp[fi42,newSt,h]
 simp only[newBad,Bool.or_eq_false_iff,decide_eq_false_iff_not] at h
 obtain⟨n,rfl⟩:=Int.eq_ofNat_of_zero_le (a:=p) (by omega)
 obtain⟨m,rfl⟩:=Int.eq_ofNat_of_zero_le (a:=c) (by omega)
 have hn:n≤48:=by omega
 have hm:m≤6:=by omega
 have hst:newSt n m=⟨List.replicate n false,List.replicate n (List.replicate 16 0),List.replicate m [-1,-1,-1,-1,-1,-1]⟩:=by
  unfold newSt
  rw[if_neg]
  ·rfl
  ·simp only[newBad,Bool.or_eq_true,decide_eq_true_eq];omega
 rw[hst]
 have hb1:n≤281474976710656:=by omega
 have hb2:(n:Int)≤9223372036854775807:=by omega
 refine WL.sreg (by simp[hb1,hb2];rfl) (by simp;rfl) ?_
 refine WL.nil1 502 true 1 (by simp) (WL.nil1 503 true 1 (by simp) ?_)
 refine WL.seq (WL.sreg (by simp;rfl) (by simp;rfl) ?_)
 refine WL.block (WL.count n (fun i=>nwA n m i (List.replicate i (sU true (List.replicate 16 0)))) (fun _=>True) (by simp[take_repL,nwA]) trivial fun i hi _=>?_)
 by_cases h:i < n
 ·refine WL.sreg (by simp[h,nwA];rfl) (by simp;rfl) ?_
  refine WL.seq (WL.cond (t:=true) (by simp) (fun _=>WL.skip ?_) (by simp))
  have hm1:(i+1) * 24≤140737488355328:=by omega
  have hm2:i+1≤maxLen:=by unfold maxLen;omega
  refine WL.seq (WL.block (WL.draw mixed (by simp[cleanL,noH]) (DL.o (by simp[hm1,hm2,repL];exact⟨rfl,rfl⟩) (DL.nil ⟨by kernel_rfl,_,by simp;rfl,?_⟩))))
  have hs:Small n:=by unfold Small;omega
  refine WL.reg (RL.run (by simp[wrap_succ hs h];rfl) ⟨_,by simp;rfl,h,?_,trivial⟩)
  exact congrArg (nwA n m (i+1)) (grow_rep (sU true (List.replicate 16 0)) i)
 ·refine WL.sreg (by simp[h,nwA];rfl) (by simp;rfl) ?_
  refine WL.seq (WL.cond (t:=false) (by simp) (by simp) fun _=>WL.exit ?_)
  obtain rfl:i=n:=by omega
  refine WL.seq (WL.sreg (by simp[nwA];rfl) (by simp;rfl) ?_)
  refine WL.block (WL.count m (fun j=>nwB i m j (List.replicate j (sI true [-1,-1,-1,-1,-1,-1]))) (fun _=>True) (by simp[nwB]) trivial fun j hj _=>?_)
  by_cases h:j < m
  ·have hs:Small m:=by unfold Small;omega
   refine WL.sreg (by simp[h,nwB];rfl) (by simp;rfl) ?_
   refine WL.seq (WL.cond (t:=true) (by simp) (fun _=>WL.skip ?_) (by simp))
   have hm1:(j+1) * 24≤140737488355328:=by omega
   have hm2:j+1≤maxLen:=by unfold maxLen;omega
   refine WL.seq (WL.block (WL.draw mixed (by simp[cleanL,noH]) (DL.o (by simp;exact⟨rfl,rfl⟩) ?_)))
   refine DL.call0 true repeat_fn (by simp) (by simp) ?_
   refine DL.o (by simp[hm1,hm2];exact⟨rfl,rfl⟩) ?_
   refine DL.nil ⟨by kernel_rfl,_,by simp;rfl,?_⟩
   refine WL.reg (RL.run (by simp[wrap_succ hs h];rfl) ⟨_,by simp;rfl,h,?_,trivial⟩)
   exact congrArg (nwB i m (j+1)) (grow_rep (sI true [-1,-1,-1,-1,-1,-1]) j)
  ·refine WL.sreg (by simp[h,nwB];rfl) (by simp;rfl) ?_
   refine WL.seq (WL.cond (t:=false) (by simp) (by simp) fun _=>WL.exit ?_)
   obtain rfl:j=m:=by omega
   refine WL.sreg (by simp;rfl) (by simp;rfl) ?_
   refine WL.ret ⟨.inr rfl,?_⟩
   simp[fi42]
end Go.OT
namespace Go.OT
open Go.Proofs
theorem RL.newC {nt:Nat}{L:SL}{K:SL→Prop}{rest:List Sg}{d:Nat}{cs:List COd}(p c:Int)
  (has:trArgs (fnL L) [] false cs=some [i64 p,i64 c])
  (h:RL Try.prog nt rest (setL L (100 * d) (encS false (newSt p c))) K):RL Try.prog nt (.call none d 42 cs :: rest) L K:=by
 refine RL.call0 false (new_fn p c) has ?_ (RL.freeze (100 * d) ?_)
 ·simp[sideOk,ghsOk,roots,rootsL]
 ·rw[frzL_setL,lend_encS]
  exact h
theorem newSt_sized (p c:Int):Sized (newSt p c):=by
 unfold newSt
 split
 ·exact⟨by simp,by simp,by simp,by simp,by simp⟩
 ·rename_i h
  simp only[newBad,Bool.or_eq_true,decide_eq_true_eq,not_or] at h
  exact⟨by simp;omega,by simp;omega,by simp;omega,fun b hb=>by rw[List.eq_of_mem_replicate hb];simp,fun l hl=>by rw[List.eq_of_mem_replicate hl];simp⟩
end Go.OT
namespace Go.OT
open Go.Proofs
end Go.OT
namespace Go.OT
open Go.Proofs
end Go.OT
namespace Go.OT
open Go.Proofs
def z16:List UInt8:=List.replicate 16 0
def sw (w:List UInt8)(c1 c2:Int):St:=⟨[true,false,false],[w,z16,z16],[[c1,-1,-1,-1,-1,-1],[c2,-1,-1,-1,-1,-1]]⟩
end Go.OT
namespace Go.OT
open Go.Proofs
end Go.OT
namespace Go.OT
open Go.Proofs
abbrev str (w:List UInt8):AU:=.sc (.string (strOf w))
abbrev sS (o:Bool)(l:List (List UInt8)):AU:=.sl o () 1 l.length (l.map str)
abbrev cellsT (o:Bool)(s:St):List AU:=[sB o s.There,sS o s.Body,sII o s.Handles]
abbrev encT (o:Bool)(s:St):AU:=.agg (cellsT o s)
theorem rep16:repL [.sc (.int .u8 0)] 16=z16.map (fun b=>u8 (b.toNat:Int)):=rfl
theorem tak16:List.take 16 (z16.map (fun b=>u8 (b.toNat:Int)))=z16.map (fun b=>u8 (b.toNat:Int)):=rfl
theorem len16:z16.length=16:=rfl
theorem zeros_fn:FnC Try.prog 122 [] [] [] (str z16):=by
 refine FnC.go ok122 rfl ?_
 refine WL.sreg (by simp;rfl) (by simp;rfl) ?_
 refine WL.sreg (by simp[rep16,tak16,len16];rfl) (by simp;rfl) ?_
 refine WL.ret ⟨.inr rfl,?_⟩
 simp[fi122]
theorem fail_fn (n:Int):FnC Try.prog 123 [] [i64 n] [] (encR true (rsE n)):=by
 refine FnC.go ok123 rfl ?_
 refine WL.sreg (by simp;rfl) (by simp;rfl) ?_
 refine WL.sreg (by simp;rfl) (by simp;rfl) ?_
 refine WL.nil1 204 true 1 (by simp) (WL.ret ⟨.inr rfl,?_⟩)
 simp[fi123,rsE]
theorem strOf_inj {a b:List UInt8}:((strOf a).toList == (strOf b).toList)=(a == b):=by rw[strOf_toList,strOf_toList]
set_option maxHeartbeats 1000000 in
theorem refres_fn (a b:Rs):FnC Try.prog 137 [] [encR false a,encR false b] [] (bl (SameRes a b)):=by
 refine FnC.go ok137 rfl ?_
 refine WL.sreg (by simp;rfl) (by simp;rfl) ?_
 cases h1:(a.Code == b.Code) with
 | false =>
  refine WL.sreg (by simp[h1];rfl) (by simp;rfl) ?_
  refine WL.ret ⟨.inr rfl,?_⟩
  simp[fi137,SameRes,h1]
 | true =>
 cases h2:(a.Page == b.Page) with
 | false =>
  refine WL.sreg (by simp[h1,h2];rfl) (by simp;rfl) ?_
  refine WL.ret ⟨.inr rfl,?_⟩
  simp[fi137,SameRes,h1,h2]
 | true =>
 cases h3:(a.Handle == b.Handle) with
 | false =>
  refine WL.sreg (by simp[h1,h2,h3];rfl) (by simp;rfl) ?_
  refine WL.ret ⟨.inr rfl,?_⟩
  simp[fi137,SameRes,h1,h2,h3]
 | true =>
  refine WL.sreg (by simp[h1,h2,h3,strOf_inj];rfl) (by simp;rfl) ?_
  refine WL.ret ⟨.inr rfl,?_⟩
  simp[fi137,SameRes,h1,h2,h3]
def freeH (l:List Int):Bool:=l.any fun p=>decide (p < 0)
set_option maxHeartbeats 1000000 in
theorem room_fn (s:St)(c:Nat)(hc:c < s.Handles.length)(hs:Small s.Handles[c].length):FnC Try.prog 125 [] [encT false s,i64 c] [] (bl (freeH s.Handles[c])):=by
 refine FnC.go ok125 rfl ?_
 refine WL.sreg (by simp;rfl) (by simp;rfl) ?_
 refine WL.seq (WL.sreg (by simp;rfl) (by simp;rfl) ?_)
 refine WL.block (WL.count s.Handles[c].length (fun i=>[(100,0,i64 c),(200,0,.bptr 2 1 0),(201,0,sB false s.There),(202,0,sS false s.Body),(203,0,sII false s.Handles),(299,1,.non),(500,0,i64 i)]) (fun i=>∀ j (hj:j < s.Handles[c].length),j < i→0≤s.Handles[c][j]) rfl (fun j _ h=>absurd h (Nat.not_lt_zero _)) fun i hi hp=>?_)
 by_cases h:i < s.Handles[c].length
 ·refine WL.seq (WL.sreg (by simp[hc,h];rfl) (by simp;rfl) ?_)
  refine WL.cond (t:=true) (by simp) (fun _=>WL.skip ?_) (by simp)
  refine WL.seq (WL.block (WL.sreg (by simp[hc,h];rfl) (by simp;rfl) ?_))
  by_cases hf:s.Handles[c][i] < 0
  ·refine WL.cond (t:=true) (by simp[hf]) (fun _=>?_) (by simp)
   refine WL.sreg (by simp;rfl) (by simp;rfl) ?_
   refine WL.ret ⟨.inr rfl,?_⟩
   have:freeH s.Handles[c]=true:=List.any_eq_true.2 ⟨_,List.getElem_mem h,by simpa using hf⟩
   simp[fi125,this]
  ·refine WL.cond (t:=false) (by simp;omega) (by simp) fun _=>WL.skip ?_
   refine WL.reg (RL.run (by simp[wrap_succ hs h];rfl) ⟨_,by simp;rfl,h,?_,fun j hj hji=>?_⟩)
   ·simp
   ·by_cases e:j=i
    ·subst e;omega
    ·exact hp j hj (by omega)
 ·refine WL.seq (WL.sreg (by simp[hc,h];rfl) (by simp;rfl) ?_)
  refine WL.cond (t:=false) (by simp) (by simp) fun _=>WL.exit ?_
  refine WL.sreg (by simp;rfl) (by simp;rfl) ?_
  refine WL.ret ⟨.inr rfl,?_⟩
  have:freeH s.Handles[c]=false:=by
   simp only[freeH,List.any_eq_false,decide_eq_true_eq,Int.not_lt]
   intro x hx
   obtain⟨j,hj,rfl⟩:=List.mem_iff_getElem.1 hx
   exact hp j hj (by omega)
  simp[fi125,this]
end Go.OT
namespace Go.OT
open Go.Proofs
structure Cl where
 Client:Int
 op:Op
end Go.OT
namespace Go.OT
open Go.Proofs
theorem ty3:Ty Try.prog 3 Int (fun n=>[i64 n]) (fun n=>(Lit.int .i64 n).wf=true):=Ty.int Try.underlying3
theorem ty42:Ty Try.prog 42 Op (fun q=>[i64 q.Kind,i64 q.Page,i64 q.Handle,i64 q.Off,i64 q.N,sU false q.Data]) (fun q=>q.Data.length≤9223372036854775807) :=
 (Ty.struct Try.underlying42 (by kernel_rfl) (TyF.cons rfl (by kernel_rfl) ty3 (TyF.cons rfl (by kernel_rfl) ty3 (TyF.cons rfl (by kernel_rfl) ty3 (TyF.cons rfl (by kernel_rfl) ty3 (TyF.cons rfl (by kernel_rfl) ty3 (TyF.cons rfl (by kernel_rfl) ty40 (TyF.nil (off:=6))))))))).map
  (fun p=>⟨p.1,p.2.1,p.2.2.1,p.2.2.2.1,p.2.2.2.2.1,p.2.2.2.2.2.1⟩) (fun p=>rfl) (fun p h=>h.2.2.2.2.2.1)
end Go.OT
