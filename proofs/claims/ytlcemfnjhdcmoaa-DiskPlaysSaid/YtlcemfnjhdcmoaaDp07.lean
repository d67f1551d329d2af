/- Part 7 of the proof: see its last file. -/
import Derived.Orders
import Derived.Below
import Derived.Laws.Entries
import Derived.Laws.Cells
import Derived.Laws.IdiomCopy
import Derived.Scope
import Derived.Calls
import Derived.Laws.Tables
import Derived.Laws.MakeOwn
import Derived.Laws.BytesString
import Derived.ArgAppend
import Derived.WalkSpells
import Derived.Lib.SlBytesConst
import Derived.Lib.ConvBytes
import Derived.WalkKit
import Derived.ProofKit
import Derived.OpenShut
import Derived.ShutString
import Derived.ChangeOld
import Derived.Lib.SmallJoins
import Derived.Test.YtlcemfnjhdcmoaaProg
import Derived.KernelRfl
import Derived.Shelf.Spec.SlicesInsertGrow
import Derived.Laws.IdiomRangeMap
import Derived.Test.YtlcemfnjhdcmoaaDp06
set_option linter.unusedSimpArgs false
set_option linter.unusedVariables false
namespace Go.OT
open Go.Proofs
def c12_0:Cd:=(.seq (.reg [1,5,6,18,19,20,21,22,23] [.call none 19 48 [],.o [.mov 20 (.t 19)],.g 20 true [.mov 21 (.t 5),.pnq 22 true (.t 21)],.o [.pick 23 (.t 20) (.t 22) (cB false),.asg 4 (.t 23)]]) .ret)
def c12_1:Cd:=(.cond (.t 18) c12_0 .skip)
def c12_2:Cd:=(.seq (.reg [1,5,6,25] [.o [.asg 4 (cB false)]]) .ret)
def c12_3:Cd:=(.cond (.t 25) c12_2 .skip)
def c12_4:Cd:=(.seq (.reg [1,5,6,28,29] [.call none 29 48 [],.o [.asg 4 (.t 29)]]) .ret)
def c12_5:Cd:=(.cond (.t 28) c12_4 .skip)
def c12_6:Cd:=(.cond (.t 33) .skip (.exit 0))
def c12_7:Cd:=(.seq (.reg [1,5,6,7,8,43,44] [.call none 44 48 [],.o [.asg 4 (.t 44)]]) .ret)
def c12_8:Cd:=(.cond (.t 43) c12_7 .skip)
def c12_9:Cd:=(.reg [61] [.o [.bin 61 .eql (.t 49) (cI 1),.asg 59 (.t 61)]])
def c12_10:Cd:=(.cond (.t 59) .skip c12_9)
def c12_11:Cd:=(.seq (.reg [1,5,6,7,84] [.o [.asg 4 (cB false)]]) .ret)
def c12_12:Cd:=(.cond (.t 84) c12_11 .skip)
def c12_13:Cd:=(.seq (.reg [9,10,11,12,76,77,78,79,80,81,82,83] [.o [.mov 76 (.t 10),.mov 77 (.t 12),.bin 78 .neq (.t 76) (.t 77),.mov 79 (.t 78)],.g 79 false [.mov 80 (.t 9),.b2s 81 (.t 80),.mov 82 (.t 11),.bin 83 .neq (.t 81) (.t 82)],.o [.pick 84 (.t 79) (cB true) (.t 83)]]) c12_12)
def c12_14:Cd:=(.seq (.reg [8,70,71,72,73,69,74,75] [.o [.mov 70 (.t 6),.faddr 71 1 (.t 8),.ld 72 1 false (.t 71)],.call none 73 50 [(.t 70),(.t 72)],.o [.mov 69 (.t 73),.ext 74 69 0,.ext 75 69 1,.asg 11 (.t 74),.asg 12 (.t 75)]]) c12_13)
def c12_15:Cd:=(.seq (.reg [49,59,63,64,65,66,62,67,68] [.o [.mov 63 (.t 5),.faddr 64 1 (.t 8),.ld 65 1 false (.t 64)],.call none 66 49 [(.t 63),(.t 65)],.o [.mov 62 (.t 66),.ext 67 62 0,.ext 68 62 1,.asg 9 (.t 67),.asg 10 (.t 68)]]) c12_14)
def c12_16:Cd:=(.reg [87] [.o [.bin 87 .eql (.t 49) (cI 3),.asg 85 (.t 87)]])
def c12_17:Cd:=(.cond (.t 85) .skip c12_16)
def c12_18:Cd:=(.seq (.reg [1,5,6,7,103] [.o [.asg 4 (cB false)]]) .ret)
def c12_19:Cd:=(.cond (.t 103) c12_18 .skip)
def c12_20:Cd:=(.seq (.draw [[],[],[1],[],[3],[4],[0,2,5,5],[],[],[8],[],[10],[11,6],[12],[7,9,13,12],[6,14]] [8,49,85,88,89,90,91,92,93,94,95,96,97,98,99,100,101,102] [.o [.mov 88 (.t 5),.faddr 89 1 (.t 8),.ld 90 1 false (.t 89),.faddr 91 3 (.t 8),.ld 92 1 false (.t 91)],.call none 93 52 [(.t 92)],.call none 94 51 [(.t 88),(.t 90),(.t 93)],.o [.mov 95 (.t 6),.faddr 96 1 (.t 8),.ld 97 1 false (.t 96),.faddr 98 3 (.t 8),.ld 99 1 false (.t 98)],.call none 100 52 [(.t 99)],.o [.b2s 101 (.t 100)],.call none 102 53 [(.t 95),(.t 97),(.t 101)],.o [.bin 103 .neq (.t 94) (.t 102)]]) c12_19)
def c12_21:Cd:=(.seq (.reg [1,5,6,7,119] [.o [.asg 4 (cB false)]]) .ret)
def c12_22:Cd:=(.cond (.t 119) c12_21 .skip)
def c12_23:Cd:=(.seq (.draw [[],[],[1],[],[3],[0,2,4],[],[],[7],[],[9],[10],[6,8,11,5],[5,12]] [8,49,104,106,107,108,109,110,111,112,113,114,115,116,117,118] [.o [.mov 106 (.t 5),.faddr 107 1 (.t 8),.ld 108 1 false (.t 107),.faddr 109 4 (.t 8),.ld 110 1 false (.t 109)],.call none 111 51 [(.t 106),(.t 108),(.t 110)],.o [.mov 112 (.t 6),.faddr 113 1 (.t 8),.ld 114 1 false (.t 113),.faddr 115 4 (.t 8),.ld 116 1 false (.t 115),.b2s 117 (.t 116)],.call none 118 53 [(.t 112),(.t 114),(.t 117)],.o [.bin 119 .neq (.t 111) (.t 118)]]) c12_22)
def c12_24:Cd:=(.seq (.reg [1,5,6,7,126] [.o [.asg 4 (cB false)]]) .ret)
def c12_25:Cd:=(.cond (.t 126) c12_24 .skip)
def c12_26:Cd:=(.seq (.reg [8,49,120,122,123,124,125] [.o [.mov 122 (.t 5)],.call none 123 54 [(.t 122)],.o [.mov 124 (.t 6)],.call none 125 55 [(.t 124)],.o [.bin 126 .neq (.t 123) (.t 125)]]) c12_25)
def c12_27:Cd:=(.seq (.reg [1,5,6,7,137] [.o [.asg 4 (cB false)]]) .ret)
def c12_28:Cd:=(.cond (.t 137) c12_27 .skip)
def c12_29:Cd:=(.seq (.draw [[],[],[1],[0,2],[],[],[5],[4,6,3],[3,7]] [8,127,129,130,131,132,133,134,135,136] [.o [.mov 129 (.t 5),.faddr 130 2 (.t 8),.ld 131 1 false (.t 130)],.call none 132 56 [(.t 129),(.t 131)],.o [.mov 133 (.t 6),.faddr 134 2 (.t 8),.ld 135 1 false (.t 134)],.call none 136 57 [(.t 133),(.t 135)],.o [.beq 137 false (.t 132) (.t 136)]]) c12_28)
def c12_30:Cd:=(.seq (.reg [1,5,6,7,58] [.o [.asg 4 (cB false)]]) .ret)
def c12_31:Cd:=(.cond (.t 58) c12_30 .skip)
def c12_32:Cd:=(.seq (.draw [[],[],[1],[0,2],[],[],[5],[4,6,3],[3,7]] [8,127,50,51,52,53,54,55,56,57] [.o [.mov 50 (.t 5),.faddr 51 4 (.t 8),.ld 52 1 false (.t 51)],.call none 53 58 [(.t 50),(.t 52)],.o [.mov 54 (.t 6),.faddr 55 4 (.t 8),.ld 56 1 false (.t 55)],.call none 57 59 [(.t 54),(.t 56)],.o [.beq 58 false (.t 53) (.t 57)]]) c12_31)
def c12_33:Cd:=(.cond (.t 127) c12_29 c12_32)
def c12_34:Cd:=(.seq (.reg [49,120,128] [.o [.bin 128 .eql (.t 49) (cI 6),.asg 127 (.t 128)]]) c12_33)
def c12_35:Cd:=(.cond (.t 120) c12_26 c12_34)
def c12_36:Cd:=(.seq (.reg [104,121] [.o [.bin 121 .eql (.t 49) (cI 5),.asg 120 (.t 121)]]) c12_35)
def c12_37:Cd:=(.cond (.t 104) c12_23 c12_36)
def c12_38:Cd:=(.seq (.reg [85,105] [.o [.bin 105 .eql (.t 49) (cI 4),.asg 104 (.t 105)]]) c12_37)
def c12_39:Cd:=(.cond (.t 85) c12_20 c12_38)
def c12_40:Cd:=(.seq (.seq (.reg [59,86] [.o [.bin 86 .eql (.t 49) (cI 2),.asg 85 (.t 86)]]) c12_17) c12_39)
def c12_41:Cd:=(.cond (.t 59) c12_15 c12_40)
def c12_42:Cd:=(.block 2 (.seq (.seq (.reg [60] [.o [.bin 60 .eql (.t 49) (cI 0),.asg 59 (.t 60)]]) c12_10) c12_41))
def c12_43:Cd:=(.seq (.reg [1,5,6,7,162] [.o [.asg 4 (cB false)]]) .ret)
def c12_44:Cd:=(.cond (.t 162) c12_43 .skip)
def c12_45:Cd:=(.seq (.draw [[],[0],[],[2],[3],[4],[1,5,1],[6],[7,6],[8],[9,8,8],[8],[11,10,8],[10,12,12,8],[13,8],[8,14],[15,13],[16],[17,16,16],[16],[19,16],[20,16],[21,16],[18,22,16],[16,23]] [84,103,119,126,137,58,138,139,140,141,142,143,144,145,146,147,148,149,150,151,152,153,154,155,156,157,158,159,160,161] [.o [.mov 138 (.t 5)],.call none 139 61 [(.t 138)],.o [.mov 140 (.t 6),.chk 141 (.t 140),.faddr 142 0 (.t 141),.ld 143 1 false (.t 142)],.call none 144 60 [(.t 139),(.t 143)],.o [.un 145 .not (.t 144),.mov 146 (.t 145)],.g 146 false [.mov 147 (.t 5)],.call (some (146,false)) 148 62 [(.t 147)],.g 146 false [.mov 149 (.t 6)],.call (some (146,false)) 150 63 [(.t 149)],.call (some (146,false)) 151 32 [(.t 148),(.t 150)],.g 146 false [.un 152 .not (.t 151)],.o [.pick 153 (.t 146) (cB true) (.t 152),.mov 154 (.t 153)],.g 154 false [.mov 155 (.t 5)],.call (some (154,false)) 156 64 [(.t 155)],.g 154 false [.mov 157 (.t 6),.chk 158 (.t 157),.faddr 159 3 (.t 158),.ld 160 1 false (.t 159),.bin 161 .neq (.t 156) (.t 160)],.o [.pick 162 (.t 154) (cB true) (.t 161)]]) c12_44)
def c12_46:Cd:=(.seq (.seq (.reg [43,45,46,47,48] [.o [.faddr 45 0 (.t 8),.ld 46 1 false (.t 45),.bin 47 .rem (.t 46) (cI 8),.bin 48 .add (.t 47) (cI 8),.bin 49 .rem (.t 48) (cI 8)]]) c12_42) c12_45)
def c12_47:Cd:=(.seq (.seq (.reg [40,41,42] [.o [.faddr 40 4 (.t 8),.ld 41 1 false (.t 40),.len 42 (.t 41),.bin 43 .gtr (.t 42) (cI 60)]]) c12_8) c12_46)
def c12_48:Cd:=(.reg [162,34,35] [.o [.mov 34 (.t 7),.bin 35 .add (.t 34) (cI 1),.asg 7 (.t 35)]])
def c12_49:Cd:=(.seq (.block 1 (.seq (.reg [33,36,37,38,39] [.o [.mov 36 (.t 1),.mov 37 (.t 7),.iaddr 38 5 (.t 36) (.t 37),.ld 39 5 true (.t 38),.alloc 8 [(.sc (.int .i64 0)),(.sc (.int .i64 0)),(.sc (.int .i64 0)),(.sc (.int .u8 0)),(.sl true () 1 0 [])],.st 5 (.t 8) (.t 39)]]) c12_47)) c12_48)
def c12_50:Cd:=(.seq (.seq (.reg [30,31,32] [.o [.mov 30 (.t 7),.mov 31 (.t 1),.len 32 (.t 31),.bin 33 .lss (.t 30) (.t 32)]]) c12_6) c12_49)
def c12_51:Cd:=(.block 0 (.loop c12_50))
def c12_52:Cd:=(.seq (.reg [1,5,6,7,30,31,32,33,163] [.call none 163 48 [],.o [.asg 4 (.t 163)]]) .ret)
def c12_53:Cd:=(.seq (.seq (.reg [28] [.o [.asg 7 (cI 0)]]) c12_51) c12_52)
def c12_54:Cd:=(.seq (.seq (.reg [25,26,27] [.o [.mov 26 (.t 1),.len 27 (.t 26),.bin 28 .gtr (.t 27) (cI 100)]]) c12_5) c12_53)
def c12_55:Cd:=(.seq (.seq (.reg [18,24] [.o [.mov 24 (.t 5),.pnq 25 true (.t 24)]]) c12_3) c12_54)
def c12_56:Cd:=(.seq (.seq (.reg [17] [.o [.mov 17 (.t 6),.pnq 18 true (.t 17)]]) c12_1) c12_55)
def c12_57:Cd:=(.seq (.reg [0,13,14,15,16] [.o [.mov 13 (.t 0)],.call none 14 46 [(.t 13)],.o [.mov 15 (.t 0)],.call none 16 47 [(.t 15)],.o [.asg 5 (.t 14),.asg 6 (.t 16)]]) c12_56)
def fi12:FI:=⟨164,2,[.t 4],(.seq (.reg [4] [.o [.asg 4 (cB false)]]) c12_57)⟩
theorem ok12:fiOk Try.prog 12 fi12:=⟨_,_,Try.func12,rfl,by kernel_rfl,by kernel_rfl,Try.call12⟩
def c32_0:Cd:=(.seq (.reg [0,1,10] [.o [.asg 4 (cB false)]]) .ret)
def c32_1:Cd:=(.cond (.t 10) c32_0 .skip)
def c32_2:Cd:=(.cond (.t 14) .skip (.exit 0))
def c32_3:Cd:=(.seq (.reg [0,1,5,25] [.o [.asg 4 (cB false)]]) .ret)
def c32_4:Cd:=(.cond (.t 25) c32_3 .skip)
def c32_5:Cd:=(.reg [25,15,16] [.o [.mov 15 (.t 5),.bin 16 .add (.t 15) (cI 1),.asg 5 (.t 16)]])
def c32_6:Cd:=(.seq (.block 1 (.seq (.draw [[],[],[0,1],[2],[],[],[4,5],[6],[3,7]] [14,17,18,19,20,21,22,23,24] [.o [.mov 17 (.t 0),.mov 18 (.t 5),.iaddr 19 1 (.t 17) (.t 18),.ld 20 1 false (.t 19),.mov 21 (.t 1),.mov 22 (.t 5),.iaddr 23 1 (.t 21) (.t 22),.ld 24 1 false (.t 23),.bin 25 .neq (.t 20) (.t 24)]]) c32_4)) c32_5)
def c32_7:Cd:=(.seq (.seq (.reg [11,12,13] [.o [.mov 11 (.t 5),.mov 12 (.t 0),.len 13 (.t 12),.bin 14 .lss (.t 11) (.t 13)]]) c32_2) c32_6)
def c32_8:Cd:=(.block 0 (.loop c32_7))
def c32_9:Cd:=(.seq (.reg [0,1,5,11,12,13,14] [.o [.asg 4 (cB true)]]) .ret)
def c32_10:Cd:=(.seq (.seq (.reg [10] [.o [.asg 5 (cI 0)]]) c32_8) c32_9)
def c32_11:Cd:=(.seq (.seq (.reg [6,7,8,9] [.o [.mov 6 (.t 0),.len 7 (.t 6),.mov 8 (.t 1),.len 9 (.t 8),.bin 10 .neq (.t 7) (.t 9)]]) c32_1) c32_10)
def fi32:FI:=⟨26,2,[.t 4],(.seq (.reg [4] [.o [.asg 4 (cB false)]]) c32_11)⟩
theorem ok32:fiOk Try.prog 32 fi32:=⟨_,_,Try.func32,rfl,by kernel_rfl,by kernel_rfl,Try.call32⟩
def c46_0:Cd:=(.seq (.reg [0,9] [.o [.asg 2 (.c (.sc (.pointer none)))]]) .ret)
def c46_1:Cd:=(.cond (.t 9) c46_0 .skip)
def c46_2:Cd:=(.reg [26] [.o [.bin 26 .add (.t 14) (cI 1),.mov 14 (.t 26)]])
def c46_3:Cd:=(.seq (.block 1 (.draw [[],[],[1],[2],[3],[],[5],[4,6,5],[0,0,1,2,3,4,5,6,7],[8,0,1,2,3,4,5,6,7],[9,7,7,0,1,2,3,4,5,6,7]] [15,16,17,18,19,20,21,22,23,24,25] [.o [.mov 16 (.t 3),.mov 17 (.t 3),.chk 18 (.t 17),.faddr 19 0 (.t 18),.ld 20 1 false (.t 19)],.call none 21 75 [],.o [.bs1 22 1 (.t 21),.app 23 1 24 (.t 20) (.t 22),.chk 24 (.t 16),.faddr 25 0 (.t 24),.st 1 (.t 25) (.t 23)]])) c46_2)
def c46_4:Cd:=(.seq (.cond (.t 15) .skip (.exit 0)) c46_3)
def c46_5:Cd:=(.seq (.reg [] [.o [.bin 15 .lss (.t 14) (.t 13)]]) c46_4)
def c46_6:Cd:=(.block 0 (.loop c46_5))
def c46_7:Cd:=(.seq (.reg [3,13,14,15,27] [.o [.mov 27 (.t 3),.asg 2 (.t 27)]]) .ret)
def c46_8:Cd:=(.seq (.seq (.reg [0] [.o [.mov 13 (.t 0),.mov 14 (cI 0)]]) c46_6) c46_7)
def c46_9:Cd:=(.seq (.reg [9,10,11,12] [.raw (some 10) (.makeMap 145 none) 145,.o [.build 11 [(.sc (.slice none 0 0)),(.sc (.map none)),(.sc (.int .i64 0)),(.sc (.int .i64 0)),(.sc (.bool false))] [(1,1,(.t 10))],.box 12 (.t 11),.asg 3 (.t 12)]]) c46_8)
def c46_10:Cd:=(.seq (.seq (.reg [4,5,6,7,8] [.o [.mov 4 (.t 0),.bin 5 .lss (.t 4) (cI 1),.mov 6 (.t 5)],.g 6 false [.mov 7 (.t 0),.bin 8 .gtr (.t 7) (cI 48)],.o [.pick 9 (.t 6) (cB true) (.t 8)]]) c46_1) c46_9)
def fi46:FI:=⟨28,1,[.t 2],(.seq (.reg [2] [.o [.asg 2 (.c (.sc (.pointer none)))]]) c46_10)⟩
theorem ok46:fiOk Try.prog 46 fi46:=⟨_,_,Try.func46,rfl,by kernel_rfl,by kernel_rfl,Try.call46⟩
def c47_0:Cd:=(.seq (.reg [0,10] [.o [.asg 2 (.c (.sc (.pointer none)))]]) .ret)
def c47_1:Cd:=(.cond (.t 10) c47_0 .skip)
def c47_2:Cd:=(.cond (.t 15) .skip (.exit 0))
def c47_3:Cd:=(.reg [16,17] [.o [.mov 16 (.t 4),.bin 17 .add (.t 16) (cI 1),.asg 4 (.t 17)]])
def c47_4:Cd:=(.seq (.block 1 (.draw [[],[],[],[],[3],[4],[5],[],[7],[6,8,7],[],[10],[11],[12],[9],[14],[13,15,14],[],[17],[18],[19],[],[20,21,16],[0,0,3,4,5,6,7,8,9,13,14,16,20,22],[23,0,3,4,5,6,7,8,9,13,14,16,20,22],[24,9,22,0,3,4,5,6,7,8,9,13,14,16,20,22],[1,0,1,3,4,5,6,7,8,9,10,11,12,13,14,15,16,20,22,23,24,25],[26,0,1,3,4,5,6,7,8,9,10,11,12,13,14,15,16,20,22,23,24,25],[27,16,25,0,1,3,4,5,6,7,8,9,10,11,12,13,14,15,16,20,22,23,24,25],[2,0,1,2,3,4,5,6,7,8,9,10,11,12,13,14,15,16,17,18,19,20,21,22,23,24,25,26,27,28],[29,0,1,2,3,4,5,6,7,8,9,10,11,12,13,14,15,16,17,18,19,20,21,22,23,24,25,26,27,28],[30,22,28,0,1,2,3,4,5,6,7,8,9,10,11,12,13,14,15,16,17,18,19,20,21,22,23,24,25,26,27,28]] [15,18,19,20,21,22,23,24,25,26,27,28,29,30,31,32,33,34,35,36,37,38,39,40,41,42,43,44,45,46] [.o [.mov 18 (.t 3),.mov 19 (.t 3),.mov 20 (.t 3),.mov 21 (.t 3),.chk 22 (.t 21),.faddr 23 0 (.t 22),.ld 24 1 false (.t 23)],.call none 25 74 [],.o [.bs1 26 1 (.t 25),.app 27 1 16 (.t 24) (.t 26),.mov 28 (.t 3),.chk 29 (.t 28),.faddr 30 1 (.t 29),.ld 31 1 false (.t 30)],.call none 32 74 [],.o [.bs1 33 1 (.t 32),.app 34 1 16 (.t 31) (.t 33),.mov 35 (.t 3),.chk 36 (.t 35),.faddr 37 2 (.t 36),.ld 38 1 false (.t 37),.bs1 39 1 (cB false),.app 40 1 1 (.t 38) (.t 39),.chk 41 (.t 18),.faddr 42 0 (.t 41),.st 1 (.t 42) (.t 27),.chk 43 (.t 19),.faddr 44 1 (.t 43),.st 1 (.t 44) (.t 34),.chk 45 (.t 20),.faddr 46 2 (.t 45),.st 1 (.t 46) (.t 40)]])) c47_3)
def c47_5:Cd:=(.seq (.seq (.reg [13,14] [.o [.mov 13 (.t 4),.mov 14 (.t 0),.bin 15 .lss (.t 13) (.t 14)]]) c47_2) c47_4)
def c47_6:Cd:=(.block 0 (.loop c47_5))
def c47_7:Cd:=(.seq (.reg [0,3,4,13,14,15,47] [.o [.mov 47 (.t 3),.asg 2 (.t 47)]]) .ret)
def c47_8:Cd:=(.seq (.seq (.reg [] [.o [.asg 4 (cI 0)]]) c47_6) c47_7)
def c47_9:Cd:=(.seq (.reg [10,11,12] [.o [.build 11 [(.sc (.slice none 0 0)),(.sc (.slice none 0 0)),(.sc (.slice none 0 0)),(.sc (.int .i64 0)),(.sc (.int .i64 0)),(.sc (.bool false))] [],.box 12 (.t 11),.asg 3 (.t 12)]]) c47_8)
def c47_10:Cd:=(.seq (.seq (.reg [5,6,7,8,9] [.o [.mov 5 (.t 0),.bin 6 .lss (.t 5) (cI 1),.mov 7 (.t 6)],.g 7 false [.mov 8 (.t 0),.bin 9 .gtr (.t 8) (cI 48)],.o [.pick 10 (.t 7) (cB true) (.t 9)]]) c47_1) c47_9)
def fi47:FI:=⟨48,1,[.t 2],(.seq (.reg [2] [.o [.asg 2 (.c (.sc (.pointer none)))]]) c47_10)⟩
theorem ok47:fiOk Try.prog 47 fi47:=⟨_,_,Try.func47,rfl,by kernel_rfl,by kernel_rfl,Try.call47⟩
def c48_0:Cd:=(.seq (.reg [1,2,19] [.o [.asg 0 (cB false)]]) .ret)
def c48_1:Cd:=(.cond (.t 19) c48_0 .skip)
def c48_2:Cd:=(.seq (.reg [1,3,4,5,6,7,8,9,10,11,12,13,42,43,44,45,46,47,48,49,50,51,52,53,54,55,56,57,58,59,60,61,62,63,64,65,66,67,68,69,70,71,72,73,74,75,76,77,78,79,80,81,82,83,84,85,86,87,88,89,90,91,92,93,94,95,96,97,98,99,100,101,102,103,104,105,106,107,108,109,110,111,112,113,114,115,116,117,118] [.o [.mov 42 (.t 4),.bin 43 .eql (.t 42) (cI 0),.mov 44 (.t 43)],.g 44 true [.mov 45 (.t 3),.len 46 (.t 45),.bin 47 .eql (.t 46) (cI 24)],.o [.pick 48 (.t 44) (.t 47) (cB false),.mov 49 (.t 48)],.g 49 true [.mov 50 (.t 5),.bin 51 .eql (.t 50) (cI 0)],.o [.pick 52 (.t 49) (.t 51) (cB false),.mov 53 (.t 52)],.g 53 true [.mov 54 (.t 6),.len 55 (.t 54),.bin 56 .eql (.t 55) (cI 1)],.o [.pick 57 (.t 53) (.t 56) (cB false),.mov 58 (.t 57)],.g 58 true [.mov 59 (.t 6),.iaddr 60 1 (.t 59) (cI 0),.ld 61 1 false (.t 60),.bin 62 .eql (.t 61) (cI 1)],.o [.pick 63 (.t 58) (.t 62) (cB false),.mov 64 (.t 63)],.g 64 true [.mov 65 (.t 7)],.o [.pick 66 (.t 64) (.t 65) (cB false),.mov 67 (.t 66)],.g 67 true [.mov 68 (.t 8),.bin 69 .eql (.t 68) (cI 9)],.o [.pick 70 (.t 67) (.t 69) (cB false),.mov 71 (.t 70)],.g 71 true [.mov 72 (.t 9),.bin 73 .eql (.t 72) (cI 0)],.o [.pick 74 (.t 71) (.t 73) (cB false),.mov 75 (.t 74)],.g 75 true [.mov 76 (.t 10)],.o [.pick 77 (.t 75) (.t 76) (cB false),.mov 78 (.t 77)],.g 78 true [.mov 79 (.t 1)],.call (some (78,true)) 80 58 [(.t 79),(.c (.sl true () 1 0 []))],.g 78 true [.un 81 .not (.t 80)],.o [.pick 82 (.t 78) (.t 81) (cB false),.mov 83 (.t 82)],.g 83 true [.mov 84 (.t 11),.bin 85 .eql (.t 84) (cI 12)],.o [.pick 86 (.t 83) (.t 85) (cB false),.mov 87 (.t 86)],.g 87 true [.mov 88 (.t 12),.len 89 (.t 88),.bin 90 .eql (.t 89) (cI 2)],.o [.pick 91 (.t 87) (.t 90) (cB false),.mov 92 (.t 91)],.g 92 true [.mov 93 (.t 12),.iaddr 94 1 (.t 93) (cI 1),.ld 95 1 false (.t 94),.iaddr 96 1 (.t 95) (cI 0),.ld 97 1 false (.t 96),.bin 98 .eql (.t 97) (.c (.sc (.int .u8 7)))],.o [.pick 99 (.t 92) (.t 98) (cB false),.mov 100 (.t 99)],.g 100 true [.mov 101 (.t 1)],.call (some (100,true)) 102 64 [(.t 101)],.g 100 true [.bin 103 .eql (.t 102) (cI 4)],.o [.pick 104 (.t 100) (.t 103) (cB false),.mov 105 (.t 104)],.call (some (105,true)) 106 46 [(cI 0)],.g 105 true [.pnq 107 true (.t 106)],.o [.pick 108 (.t 105) (.t 107) (cB false),.mov 109 (.t 108)],.g 109 true [.mov 110 (.t 13)],.call (some (109,true)) 111 54 [(.t 110)],.g 109 true [.bin 112 .eql (.t 111) (cI 12)],.o [.pick 113 (.t 109) (.t 112) (cB false),.mov 114 (.t 113)],.g 114 true [.mov 115 (.t 13)],.call (some (114,true)) 116 56 [(.t 115),(cI 1)],.g 114 true [.un 117 .not (.t 116)],.o [.pick 118 (.t 114) (.t 117) (cB false),.asg 0 (.t 118)]]) .ret)
def c48_3:Cd:=(.seq (.reg [] [.o [.asg 13 (.c (.sc (.pointer none)))]]) c48_2)
def c48_4:Cd:=(.seq (.reg [40,41] [.o [.mov 40 (.t 1)],.call none 41 61 [(.t 40)],.o [.asg 12 (.t 41)]]) c48_3)
def c48_5:Cd:=(.seq (.reg [38,39] [.o [.mov 38 (.t 1)],.call none 39 54 [(.t 38)],.o [.asg 11 (.t 39)]]) c48_4)
def c48_6:Cd:=(.seq (.reg [36,37] [.o [.mov 36 (.t 1)],.call none 37 58 [(.t 36),(.c (.sl true () 1 0 []))],.o [.asg 10 (.t 37)]]) c48_5)
def c48_7:Cd:=(.seq (.reg [34,35] [.o [.mov 34 (.t 1)],.call none 35 54 [(.t 34)],.o [.asg 9 (.t 35)]]) c48_6)
def c48_8:Cd:=(.seq (.reg [32,33] [.o [.mov 32 (.t 1)],.call none 33 54 [(.t 32)],.o [.asg 8 (.t 33)]]) c48_7)
def c48_9:Cd:=(.seq (.reg [30,31] [.o [.mov 30 (.t 1)],.call none 31 56 [(.t 30),(cI 1)],.o [.asg 7 (.t 31)]]) c48_8)
def c48_10:Cd:=(.seq (.reg [28,29] [.o [.mov 28 (.t 1)],.call none 29 62 [(.t 28)],.o [.asg 6 (.t 29)]]) c48_9)
def c48_11:Cd:=(.seq (.reg [2,25,26,27] [.o [.mov 25 (.t 1),.mov 26 (.t 2)],.call none 27 51 [(.t 25),(cI 1),(.t 26)],.o [.asg 5 (.t 27)]]) c48_10)
def c48_12:Cd:=(.seq (.reg [19,21,22,20,23,24] [.o [.mov 21 (.t 1)],.call none 22 49 [(.t 21),(cI 0)],.o [.mov 20 (.t 22),.ext 23 20 0,.ext 24 20 1,.asg 3 (.t 23),.asg 4 (.t 24)]]) c48_11)
def c48_13:Cd:=(.seq (.seq (.reg [18] [.o [.mov 18 (.t 1),.pnq 19 true (.t 18)]]) c48_1) c48_12)
def c48_14:Cd:=(.seq (.reg [16,17] [.o [.mov 16 (.t 2),.iaddr 17 1 (.t 16) (cI 0),.st 1 (.t 17) (.c (.sc (.int .u8 7)))]]) c48_13)
def c48_15:Cd:=(.seq (.reg [15] [.o [.make 15 1 1 [(.sc (.int .u8 0))] (cI 24) (cI 24),.asg 2 (.t 15)]]) c48_14)
def c48_16:Cd:=(.seq (.reg [14] [.call none 14 46 [(cI 2)],.o [.asg 1 (.t 14)]]) c48_15)
def fi48:FI:=⟨119,0,[.t 0],(.seq (.reg [0] [.o [.asg 0 (cB false)]]) c48_16)⟩
theorem ok48:fiOk Try.prog 48 fi48:=⟨_,_,Try.func48,rfl,by kernel_rfl,by kernel_rfl,Try.call48⟩
def c49_0:Cd:=(.seq (.reg [0,1,10] [.o [.asg 4 (.c (.sl true () 1 0 [])),.asg 5 (cI 12)]]) .ret)
def c49_1:Cd:=(.cond (.t 10) c49_0 .skip)
def c49_2:Cd:=(.seq (.reg [0,1,14] [.o [.asg 4 (.c (.sl true () 1 0 [])),.asg 5 (cI 1)]]) .ret)
def c49_3:Cd:=(.cond (.t 14) c49_2 .skip)
def c49_4:Cd:=(.seq (.reg [0,1,6,18,19] [.o [.mov 19 (.t 6),.asg 4 (.c (.sl true () 1 0 [])),.asg 5 (.t 19)]]) .ret)
def c49_5:Cd:=(.cond (.t 18) c49_4 .skip)
def c49_6:Cd:=(.seq (.reg [17] [.o [.mov 17 (.t 6),.bin 18 .neq (.t 17) (cI 0)]]) c49_5)
def c49_7:Cd:=(.seq (.reg [0,1,7,29,30,31] [.o [.mov 30 (.t 7)],.call none 31 108 [(.t 30)],.o [.asg 4 (.t 31),.asg 5 (cI 0)]]) .ret)
def c49_8:Cd:=(.cond (.t 29) c49_7 .skip)
def c49_9:Cd:=(.seq (.reg [8] [.o [.mov 29 (.t 8)]]) c49_8)
def c49_10:Cd:=(.seq (.reg [0,1,7,29,32,33,34,35,36,37,38,39] [.o [.mov 32 (.t 0),.chk 33 (.t 32),.faddr 34 0 (.t 33),.ld 35 1 false (.t 34),.mov 36 (.t 1),.iaddr 37 1 (.t 35) (.t 36),.ld 38 1 false (.t 37)],.call none 39 108 [(.t 38)],.o [.asg 4 (.t 39),.asg 5 (cI 0)]]) .ret)
def c49_11:Cd:=(.seq (.seq (.reg [6,18,21,22,23,24,25,26,20,27,28] [.o [.mov 21 (.t 0),.chk 22 (.t 21),.faddr 23 1 (.t 22),.ld 24 1 false (.t 23),.mov 25 (.t 1)],.raw (some 26) (.lookup 145 (.tmp 24) (.tmp 25) true) 148,.o [.mov 20 (.t 26),.ext 27 20 0,.ext 28 20 1,.asg 7 (.t 27),.asg 8 (.t 28)]]) c49_9) c49_10)
def c49_12:Cd:=(.seq (.seq (.reg [14,15,16] [.o [.mov 15 (.t 0)],.call none 16 107 [(.t 15)],.o [.asg 6 (.t 16)]]) c49_6) c49_11)
def c49_13:Cd:=(.seq (.seq (.reg [10,11,12,13] [.o [.mov 11 (.t 0),.mov 12 (.t 1)],.call none 13 106 [(.t 11),(.t 12)],.o [.un 14 .not (.t 13)]]) c49_3) c49_12)
def c49_14:Cd:=(.seq (.seq (.reg [9] [.o [.mov 9 (.t 0),.pnq 10 true (.t 9)]]) c49_1) c49_13)
def fi49:FI:=⟨40,2,[.t 4,.t 5],(.seq (.reg [4,5] [.o [.asg 4 (.c (.sl true () 1 0 [])),.asg 5 (cI 0)]]) c49_14)⟩
theorem ok49:fiOk Try.prog 49 fi49:=⟨_,_,Try.func49,rfl,by kernel_rfl,by kernel_rfl,Try.call49⟩
def c50_0:Cd:=(.seq (.reg [0,1,6] [.o [.asg 4 (.c (.sc (.string ⟨#[]⟩))),.asg 5 (cI 1)]]) .ret)
def c50_1:Cd:=(.seq (.reg [0,1,18] [.o [.asg 4 (.c (.sc (.string ⟨#[]⟩))),.asg 5 (cI 12)]]) .ret)
def c50_2:Cd:=(.seq (.reg [0,1,23] [.o [.asg 4 (.c (.sc (.string ⟨#[]⟩))),.asg 5 (cI 9)]]) .ret)
def c50_3:Cd:=(.cond (.t 23) c50_2 .skip)
def c50_4:Cd:=(.seq (.reg [18,24,25,26] [.o [.mov 24 (.t 0)],.call none 25 109 [(.t 24)],.o [.un 26 .not (.t 25),.asg 23 (.t 26)]]) c50_3)
def c50_5:Cd:=(.cond (.t 18) c50_1 c50_4)
def c50_6:Cd:=(.seq (.reg [6,19,20,21,22] [.o [.mov 19 (.t 0),.chk 20 (.t 19),.faddr 21 5 (.t 20),.ld 22 1 false (.t 21),.asg 18 (.t 22)]]) c50_5)
def c50_7:Cd:=(.cond (.t 6) c50_0 c50_6)
def c50_8:Cd:=(.seq (.reg [0,1,23,27,28,29,30,31,32,33] [.o [.mov 27 (.t 0),.chk 28 (.t 27),.faddr 29 1 (.t 28),.ld 30 1 false (.t 29),.mov 31 (.t 1),.iaddr 32 1 (.t 30) (.t 31),.ld 33 1 false (.t 32),.asg 4 (.t 33),.asg 5 (cI 0)]]) .ret)
def c50_9:Cd:=(.seq (.block 0 (.seq (.reg [7,8,9,10,11,12,13,14,15,16,17] [.o [.mov 7 (.t 1),.bin 8 .lss (.t 7) (cI 0),.mov 9 (.t 8)],.g 9 false [.mov 10 (.t 1),.mov 11 (.t 0),.chk 12 (.t 11),.faddr 13 0 (.t 12),.ld 14 1 false (.t 13),.len 15 (.t 14),.bin 16 .geq (.t 10) (.t 15)],.o [.pick 17 (.t 9) (cB true) (.t 16),.asg 6 (.t 17)]]) c50_7)) c50_8)
def fi50:FI:=⟨34,2,[.t 4,.t 5],(.seq (.reg [4,5] [.o [.asg 4 (.c (.sc (.string ⟨#[]⟩))),.asg 5 (cI 0)]]) c50_9)⟩
theorem ok50:fiOk Try.prog 50 fi50:=⟨_,_,Try.func50,rfl,by kernel_rfl,by kernel_rfl,Try.call50⟩
def c51_0:Cd:=(.seq (.reg [0,1,2,9] [.o [.asg 6 (cI 12)]]) .ret)
def c51_1:Cd:=(.cond (.t 9) c51_0 .skip)
def c51_2:Cd:=(.seq (.reg [0,1,2,18] [.o [.asg 6 (cI 1)]]) .ret)
def c51_3:Cd:=(.cond (.t 18) c51_2 .skip)
def c51_4:Cd:=(.seq (.reg [0,1,2,7,22,23] [.o [.mov 23 (.t 7),.asg 6 (.t 23)]]) .ret)
def c51_5:Cd:=(.cond (.t 22) c51_4 .skip)
def c51_6:Cd:=(.seq (.reg [21] [.o [.mov 21 (.t 7),.bin 22 .neq (.t 21) (cI 0)]]) c51_5)
def c51_7:Cd:=(.seq (.reg [] [.o [.asg 6 (cI 0)]]) .ret)
def c51_8:Cd:=(.seq (.draw [[],[0],[1],[2],[],[],[5],[3,4,6,6,0,1,2,3,4,5,6]] [0,1,2,7,22,24,25,26,27,28,29,30] [.o [.mov 24 (.t 0),.chk 25 (.t 24),.faddr 26 1 (.t 25),.ld 27 1 false (.t 26),.mov 28 (.t 1),.mov 29 (.t 2)],.call none 30 108 [(.t 29)],.raw none (.mapUpdate 145 (.tmp 27) (.tmp 28) (.tmp 30)) 0]) c51_7)
def c51_9:Cd:=(.seq (.seq (.reg [18,19,20] [.o [.mov 19 (.t 0)],.call none 20 107 [(.t 19)],.o [.asg 7 (.t 20)]]) c51_6) c51_8)
def c51_10:Cd:=(.seq (.seq (.reg [9,10,11,12,13,14,15,16,17] [.o [.mov 10 (.t 0),.mov 11 (.t 1)],.call none 12 106 [(.t 10),(.t 11)],.o [.un 13 .not (.t 12),.mov 14 (.t 13)],.g 14 false [.mov 15 (.t 2),.len 16 (.t 15),.bin 17 .neq (.t 16) (cI 24)],.o [.pick 18 (.t 14) (cB true) (.t 17)]]) c51_3) c51_9)
def c51_11:Cd:=(.seq (.seq (.reg [8] [.o [.mov 8 (.t 0),.pnq 9 true (.t 8)]]) c51_1) c51_10)
def fi51:FI:=⟨31,3,[.t 6],(.seq (.reg [6] [.o [.asg 6 (cI 0)]]) c51_11)⟩
theorem ok51:fiOk Try.prog 51 fi51:=⟨_,_,Try.func51,rfl,by kernel_rfl,by kernel_rfl,Try.call51⟩
def c52_0:Cd:=(.cond (.t 9) .skip (.exit 0))
def c52_1:Cd:=(.reg [10,11] [.o [.mov 10 (.t 4),.bin 11 .add (.t 10) (cI 1),.asg 4 (.t 11)]])
def c52_2:Cd:=(.seq (.block 1 (.reg [9,12,13,14,15] [.o [.mov 12 (.t 3),.mov 13 (.t 4),.mov 14 (.t 0),.iaddr 15 1 (.t 12) (.t 13),.st 1 (.t 15) (.t 14)]])) c52_1)
def c52_3:Cd:=(.seq (.seq (.reg [6,7,8] [.o [.mov 6 (.t 4),.mov 7 (.t 3),.len 8 (.t 7),.bin 9 .lss (.t 6) (.t 8)]]) c52_0) c52_2)
def c52_4:Cd:=(.block 0 (.loop c52_3))
def c52_5:Cd:=(.seq (.reg [0,3,4,6,7,8,9,16] [.o [.mov 16 (.t 3),.asg 2 (.t 16)]]) .ret)
def c52_6:Cd:=(.seq (.seq (.reg [] [.o [.asg 4 (cI 0)]]) c52_4) c52_5)
def c52_7:Cd:=(.seq (.reg [5] [.o [.make 5 1 1 [(.sc (.int .u8 0))] (cI 24) (cI 24),.asg 3 (.t 5)]]) c52_6)
def fi52:FI:=⟨17,1,[.t 2],(.seq (.reg [2] [.o [.asg 2 (.c (.sl true () 1 0 []))]]) c52_7)⟩
theorem ok52:fiOk Try.prog 52 fi52:=⟨_,_,Try.func52,rfl,by kernel_rfl,by kernel_rfl,Try.call52⟩
def c53_0:Cd:=(.seq (.reg [0,1,2,7] [.o [.asg 6 (cI 1)]]) .ret)
def c53_1:Cd:=(.seq (.reg [0,1,2,24] [.o [.asg 6 (cI 12)]]) .ret)
def c53_2:Cd:=(.seq (.reg [0,1,2,29] [.o [.asg 6 (cI 9)]]) .ret)
def c53_3:Cd:=(.cond (.t 29) c53_2 .skip)
def c53_4:Cd:=(.seq (.reg [24,30,31,32] [.o [.mov 30 (.t 0)],.call none 31 109 [(.t 30)],.o [.un 32 .not (.t 31),.asg 29 (.t 32)]]) c53_3)
def c53_5:Cd:=(.cond (.t 24) c53_1 c53_4)
def c53_6:Cd:=(.seq (.reg [7,25,26,27,28] [.o [.mov 25 (.t 0),.chk 26 (.t 25),.faddr 27 5 (.t 26),.ld 28 1 false (.t 27),.asg 24 (.t 28)]]) c53_5)
def c53_7:Cd:=(.cond (.t 7) c53_0 c53_6)
def c53_8:Cd:=(.seq (.reg [] [.o [.asg 6 (cI 0)]]) .ret)
def c53_9:Cd:=(.seq (.draw [[],[0],[1],[2],[],[],[5],[6],[7],[],[],[3,4,0,1,2,3,4,8,10],[11,10,0,1,2,3,4,8,10],[8,9,0,1,2,3,4,5,6,7,8,9,10,11,12],[13,12,0,1,2,3,4,5,6,7,8,9,10,11,12]] [0,1,2,29,33,34,35,36,37,38,39,40,41,42,43,44,45] [.o [.mov 33 (.t 0),.chk 34 (.t 33),.faddr 35 1 (.t 34),.ld 36 1 false (.t 35),.mov 37 (.t 1),.mov 38 (.t 0),.chk 39 (.t 38),.faddr 40 2 (.t 39),.ld 41 1 false (.t 40),.mov 42 (.t 1),.mov 43 (.t 2),.iaddr 44 1 (.t 36) (.t 37),.st 1 (.t 44) (.t 43),.iaddr 45 1 (.t 41) (.t 42),.st 1 (.t 45) (cB true)]]) c53_8)
def c53_10:Cd:=(.seq (.block 0 (.seq (.reg [8,9,10,11,12,13,14,15,16,17,18,19,20,21,22,23] [.o [.mov 8 (.t 1),.bin 9 .lss (.t 8) (cI 0),.mov 10 (.t 9)],.g 10 false [.mov 11 (.t 1),.mov 12 (.t 0),.chk 13 (.t 12),.faddr 14 0 (.t 13),.ld 15 1 false (.t 14),.len 16 (.t 15),.bin 17 .geq (.t 11) (.t 16)],.o [.pick 18 (.t 10) (cB true) (.t 17),.mov 19 (.t 18)],.g 19 false [.mov 20 (.t 2),.slen 21 (.t 20),.bin 22 .neq (.t 21) (cI 24)],.o [.pick 23 (.t 19) (cB true) (.t 22),.asg 7 (.t 23)]]) c53_7)) c53_9)
def fi53:FI:=⟨46,3,[.t 6],(.seq (.reg [6] [.o [.asg 6 (cI 0)]]) c53_10)⟩
theorem ok53:fiOk Try.prog 53 fi53:=⟨_,_,Try.func53,rfl,by kernel_rfl,by kernel_rfl,Try.call53⟩
def c54_0:Cd:=(.seq (.reg [0,7] [.o [.asg 2 (cI 12)]]) .ret)
def c54_1:Cd:=(.cond (.t 7) c54_0 .skip)
def c54_2:Cd:=(.seq (.reg [0,3,11,12] [.o [.mov 12 (.t 3),.asg 2 (.t 12)]]) .ret)
def c54_3:Cd:=(.cond (.t 11) c54_2 .skip)
def c54_4:Cd:=(.seq (.reg [10] [.o [.mov 10 (.t 3),.bin 11 .neq (.t 10) (cI 0)]]) c54_3)
def c54_5:Cd:=(.reg [4,5,23,24,25,26,27,28,29] [.o [.mov 23 (.t 0),.chk 24 (.t 23),.faddr 25 0 (.t 24),.ld 26 1 false (.t 25),.mov 27 (.t 4),.mov 28 (.t 5),.iaddr 29 1 (.t 26) (.t 27),.st 1 (.t 29) (.t 28)]])
def c54_6:Cd:=(.block 1 (.seq (.reg [19,20,21,22] [.raw (some 20) (.entry (.tmp 17)) 0,.o [.ext 21 20 0,.ext 22 20 1,.asg 4 (.t 21),.asg 5 (.t 22)]]) c54_5))
def c54_7:Cd:=(.seq (.cond (.t 19) .skip (.exit 0)) c54_6)
def c54_8:Cd:=(.seq (.reg [18] [.raw (some 18) (.next (.tmp 17) false) 0,.o [.ext 19 18 0]]) c54_7)
def c54_9:Cd:=(.block 0 (.loop c54_8))
def c54_10:Cd:=(.seq (.reg [] [.o [.asg 2 (cI 0)]]) .ret)
def c54_11:Cd:=(.seq (.reg [0,17,18,19,30,31,32,33] [.o [.mov 30 (.t 0),.chk 31 (.t 30),.faddr 32 1 (.t 31),.ld 33 1 false (.t 32)],.raw none (.call ⟨.builtin .clear,#[.tmp 33],#[145]⟩) 0]) c54_10)
def c54_12:Cd:=(.seq (.seq (.reg [3,11,13,14,15,16] [.o [.mov 13 (.t 0),.chk 14 (.t 13),.faddr 15 1 (.t 14),.ld 16 1 false (.t 15)],.raw (some 17) (.range 145 (.tmp 16)) 0]) c54_9) c54_11)
def c54_13:Cd:=(.seq (.seq (.reg [7,8,9] [.o [.mov 8 (.t 0)],.call none 9 107 [(.t 8)],.o [.asg 3 (.t 9)]]) c54_4) c54_12)
def c54_14:Cd:=(.seq (.seq (.reg [6] [.o [.mov 6 (.t 0),.pnq 7 true (.t 6)]]) c54_1) c54_13)
def fi54:FI:=⟨34,1,[.t 2],(.seq (.reg [2] [.o [.asg 2 (cI 0)]]) c54_14)⟩
theorem ok54:fiOk Try.prog 54 fi54:=⟨_,_,Try.func54,rfl,by kernel_rfl,by kernel_rfl,Try.call54⟩
def c55_0:Cd:=(.seq (.reg [0,7] [.o [.asg 2 (cI 12)]]) .ret)
def c55_1:Cd:=(.cond (.t 7) c55_0 .skip)
def c55_2:Cd:=(.seq (.reg [0,10] [.o [.asg 2 (cI 9)]]) .ret)
def c55_3:Cd:=(.cond (.t 10) c55_2 .skip)
def c55_4:Cd:=(.cond (.t 17) .skip (.exit 0))
def c55_5:Cd:=(.reg [18,19] [.o [.mov 18 (.t 3),.bin 19 .add (.t 18) (cI 1),.asg 3 (.t 19)]])
def c55_6:Cd:=(.seq (.block 1 (.draw [[],[0],[1],[2],[],[],[5],[6],[7],[],[],[10],[11],[12],[],[13,14],[15],[3,4,0,1,2,3,4,8,10,11,12,13,14,15,16],[17,16,0,1,2,3,4,8,10,11,12,13,14,15,16],[8,9,0,1,2,3,4,5,6,7,8,9,10,11,12,13,14,15,16,17,18],[19,18,0,1,2,3,4,5,6,7,8,9,10,11,12,13,14,15,16,17,18]] [17,20,21,22,23,24,25,26,27,28,29,30,31,32,33,34,35,36,37,38] [.o [.mov 20 (.t 0),.chk 21 (.t 20),.faddr 22 0 (.t 21),.ld 23 1 false (.t 22),.mov 24 (.t 3),.mov 25 (.t 0),.chk 26 (.t 25),.faddr 27 2 (.t 26),.ld 28 1 false (.t 27),.mov 29 (.t 3),.mov 30 (.t 0),.chk 31 (.t 30),.faddr 32 1 (.t 31),.ld 33 1 false (.t 32),.mov 34 (.t 3),.iaddr 35 1 (.t 33) (.t 34),.ld 36 1 false (.t 35),.iaddr 37 1 (.t 23) (.t 24),.st 1 (.t 37) (.t 36),.iaddr 38 1 (.t 28) (.t 29),.st 1 (.t 38) (cB false)]])) c55_5)
def c55_7:Cd:=(.seq (.seq (.reg [11,12,13,14,15,16] [.o [.mov 11 (.t 3),.mov 12 (.t 0),.chk 13 (.t 12),.faddr 14 0 (.t 13),.ld 15 1 false (.t 14),.len 16 (.t 15),.bin 17 .lss (.t 11) (.t 16)]]) c55_4) c55_6)
def c55_8:Cd:=(.block 0 (.loop c55_7))
def c55_9:Cd:=(.seq (.reg [0,3,11,12,13,14,15,16,17] [.o [.asg 2 (cI 0)]]) .ret)
def c55_10:Cd:=(.seq (.seq (.reg [10] [.o [.asg 3 (cI 0)]]) c55_8) c55_9)
def c55_11:Cd:=(.seq (.seq (.reg [7,8,9] [.o [.mov 8 (.t 0)],.call none 9 109 [(.t 8)],.o [.un 10 .not (.t 9)]]) c55_3) c55_10)
def c55_12:Cd:=(.seq (.seq (.reg [4,5,6] [.o [.mov 4 (.t 0),.chk 5 (.t 4),.faddr 6 5 (.t 5),.ld 7 1 false (.t 6)]]) c55_1) c55_11)
def fi55:FI:=⟨39,1,[.t 2],(.seq (.reg [2] [.o [.asg 2 (cI 0)]]) c55_12)⟩
theorem ok55:fiOk Try.prog 55 fi55:=⟨_,_,Try.func55,rfl,by kernel_rfl,by kernel_rfl,Try.call55⟩
def c56_0:Cd:=(.seq (.reg [0,1,14] [.o [.asg 4 (cB false)]]) .ret)
def c56_1:Cd:=(.cond (.t 14) c56_0 .skip)
def c56_2:Cd:=(.seq (.reg [] [.o [.asg 4 (cB true)]]) .ret)
def c56_3:Cd:=(.seq (.reg [0,1,14,15,16,17,18] [.o [.mov 15 (.t 0),.mov 16 (.t 1),.chk 17 (.t 15),.faddr 18 3 (.t 17),.st 1 (.t 18) (.t 16)]]) c56_2)
def c56_4:Cd:=(.seq (.seq (.reg [5,6,7,8,9,10,11,12,13] [.o [.mov 5 (.t 0),.pnq 6 true (.t 5),.mov 7 (.t 6)],.g 7 false [.mov 8 (.t 1),.bin 9 .lss (.t 8) (cI 0)],.o [.pick 10 (.t 7) (cB true) (.t 9),.mov 11 (.t 10)],.g 11 false [.mov 12 (.t 1),.bin 13 .gtr (.t 12) (cI 1000000)],.o [.pick 14 (.t 11) (cB true) (.t 13)]]) c56_1) c56_3)
def fi56:FI:=⟨19,2,[.t 4],(.seq (.reg [4] [.o [.asg 4 (cB false)]]) c56_4)⟩
theorem ok56:fiOk Try.prog 56 fi56:=⟨_,_,Try.func56,rfl,by kernel_rfl,by kernel_rfl,Try.call56⟩
def c57_0:Cd:=(.seq (.reg [0,1,10] [.o [.asg 4 (cB false)]]) .ret)
def c57_1:Cd:=(.cond (.t 10) c57_0 .skip)
def c57_2:Cd:=(.seq (.reg [] [.o [.asg 4 (cB true)]]) .ret)
def c57_3:Cd:=(.seq (.reg [0,1,10,11,12,13,14] [.o [.mov 11 (.t 0),.mov 12 (.t 1),.chk 13 (.t 11),.faddr 14 4 (.t 13),.st 1 (.t 14) (.t 12)]]) c57_2)
def c57_4:Cd:=(.seq (.seq (.reg [5,6,7,8,9] [.o [.mov 5 (.t 1),.bin 6 .lss (.t 5) (cI 0),.mov 7 (.t 6)],.g 7 false [.mov 8 (.t 1),.bin 9 .gtr (.t 8) (cI 1000000)],.o [.pick 10 (.t 7) (cB true) (.t 9)]]) c57_1) c57_3)
def fi57:FI:=⟨15,2,[.t 4],(.seq (.reg [4] [.o [.asg 4 (cB false)]]) c57_4)⟩
theorem ok57:fiOk Try.prog 57 fi57:=⟨_,_,Try.func57,rfl,by kernel_rfl,by kernel_rfl,Try.call57⟩
def c58_0:Cd:=(.seq (.reg [0,1,17] [.o [.asg 4 (cB false)]]) .ret)
def c58_1:Cd:=(.cond (.t 17) c58_0 .skip)
def c58_2:Cd:=(.reg [32,33,34,35,36,37,38,39,40,41,42,43,44] [.o [.mov 33 (.t 1),.mov 34 (.t 5),.bin 35 .quo (.t 34) (cI 4),.iaddr 36 1 (.t 33) (.t 35),.ld 37 1 false (.t 36),.mov 38 (.t 5),.bin 39 .rem (.t 38) (cI 4),.bin 40 .mul (cI 2) (.t 39),.conv 41 .u64 (.t 40),.bin 42 .shr (.t 37) (.t 41),.bin 43 .and (.t 42) (.c (.sc (.int .u8 3))),.conv 44 .i64 (.t 43),.asg 8 (.t 44)]])
def c58_3:Cd:=(.cond (.t 32) c58_2 .skip)
def c58_4:Cd:=(.reg [7,9,53,56,58,59,60,61,62,63,64] [.o [.mov 58 (.t 0),.chk 59 (.t 58),.faddr 60 0 (.t 59),.ld 61 1 false (.t 60),.mov 62 (.t 7),.mov 63 (.t 9),.iaddr 64 1 (.t 61) (.t 62),.st 1 (.t 64) (.t 63)]])
def c58_5:Cd:=(.draw [[],[0],[1],[2],[],[],[5],[],[7],[8],[9],[],[10,11],[12],[13],[6,14],[15],[3,4,0,1,2,3,4,5,6,7,8,9,10,11,12,13,14,15,16],[17,16,16,0,1,2,3,4,5,6,7,8,9,10,11,12,13,14,15,16]] [7,9,53,65,67,68,69,70,71,72,73,74,75,76,77,78,79,80,81,82,83,84] [.o [.mov 67 (.t 0),.chk 68 (.t 67),.faddr 69 0 (.t 68),.ld 70 1 false (.t 69),.mov 71 (.t 7),.mov 72 (.t 9),.slice 73 1 (.t 72) none (some (cI 12)),.mov 74 (.t 0),.chk 75 (.t 74),.faddr 76 0 (.t 75),.ld 77 1 false (.t 76),.mov 78 (.t 7),.iaddr 79 1 (.t 77) (.t 78),.ld 80 1 false (.t 79),.slice 81 1 (.t 80) (some (cI 12)) none,.bsn 82 [(.t 73),(.t 81)]],.call none 83 110 [(.t 82)],.o [.iaddr 84 1 (.t 70) (.t 71),.st 1 (.t 84) (.t 83)]])
def c58_6:Cd:=(.draw [[],[0],[1],[2],[],[],[5],[6],[7],[],[8,9],[10],[11],[],[13],[12,14],[15],[3,4,0,1,2,3,4,5,6,7,8,9,10,11,12,13,14,15,16],[17,16,16,0,1,2,3,4,5,6,7,8,9,10,11,12,13,14,15,16]] [7,9,85,87,88,89,90,91,92,93,94,95,96,97,98,99,100,101,102,103,104] [.o [.mov 87 (.t 0),.chk 88 (.t 87),.faddr 89 0 (.t 88),.ld 90 1 false (.t 89),.mov 91 (.t 7),.mov 92 (.t 0),.chk 93 (.t 92),.faddr 94 0 (.t 93),.ld 95 1 false (.t 94),.mov 96 (.t 7),.iaddr 97 1 (.t 95) (.t 96),.ld 98 1 false (.t 97),.slice 99 1 (.t 98) none (some (cI 12)),.mov 100 (.t 9),.slice 101 1 (.t 100) (some (cI 12)) none,.bsn 102 [(.t 99),(.t 101)]],.call none 103 110 [(.t 102)],.o [.iaddr 104 1 (.t 90) (.t 91),.st 1 (.t 104) (.t 103)]])
def c58_7:Cd:=(.cond (.t 85) c58_6 .skip)
def c58_8:Cd:=(.seq (.reg [53,65,86] [.o [.bin 86 .eql (.t 53) (cI 3),.asg 85 (.t 86)]]) c58_7)
def c58_9:Cd:=(.cond (.t 65) c58_5 c58_8)
def c58_10:Cd:=(.seq (.reg [56,66] [.o [.bin 66 .eql (.t 53) (cI 2),.asg 65 (.t 66)]]) c58_9)
def c58_11:Cd:=(.cond (.t 56) c58_4 c58_10)
def c58_12:Cd:=(.seq (.reg [54,57] [.o [.bin 57 .eql (.t 53) (cI 1),.asg 56 (.t 57)]]) c58_11)
def c58_13:Cd:=(.cond (.t 54) (.exit 1) c58_12)
def c58_14:Cd:=(.block 2 (.seq (.reg [55] [.o [.bin 55 .eql (.t 53) (cI 0),.asg 54 (.t 55)]]) c58_13))
def c58_15:Cd:=(.seq (.reg [8] [.o [.mov 53 (.t 8)]]) c58_14)
def c58_16:Cd:=(.seq (.reg [47,48,49,50,51,52] [.o [.mov 47 (.t 0),.chk 48 (.t 47),.faddr 49 1 (.t 48),.ld 50 1 false (.t 49),.mov 51 (.t 7)],.raw (some 52) (.lookup 145 (.tmp 50) (.tmp 51) false) 40,.o [.asg 9 (.t 52)]]) c58_15)
def c58_17:Cd:=(.seq (.reg [32,45,46] [.o [.mov 45 (.t 5),.bin 46 .add (.t 45) (cI 1),.asg 5 (.t 46)]]) c58_16)
def c58_18:Cd:=(.seq (.seq (.reg [28,29,30,31] [.o [.mov 28 (.t 5),.bin 29 .quo (.t 28) (cI 4),.mov 30 (.t 1),.len 31 (.t 30),.bin 32 .lss (.t 29) (.t 31)]]) c58_3) c58_17)
def c58_19:Cd:=(.seq (.reg [] [.o [.asg 8 (cI 0)]]) c58_18)
def c58_20:Cd:=(.reg [7,9,53,54,85,105] [.o [.bin 105 .add (.t 24) (cI 1),.mov 24 (.t 105)]])
def c58_21:Cd:=(.seq (.block 1 (.seq (.reg [25,26,27] [.o [.iaddr 26 1 (.t 22) (.t 24),.ld 27 1 false (.t 26),.asg 7 (.t 27)]]) c58_19)) c58_20)
def c58_22:Cd:=(.seq (.cond (.t 25) .skip (.exit 0)) c58_21)
def c58_23:Cd:=(.seq (.reg [] [.o [.bin 25 .lss (.t 24) (.t 23)]]) c58_22)
def c58_24:Cd:=(.block 0 (.loop c58_23))
def c58_25:Cd:=(.seq (.reg [] [.o [.asg 4 (cB true)]]) .ret)
def c58_26:Cd:=(.seq (.reg [0,1,5,22,23,24,25,106,107,108,109] [.o [.mov 106 (.t 0),.chk 107 (.t 106),.faddr 108 1 (.t 107),.ld 109 1 false (.t 108)],.raw none (.call ⟨.builtin .clear,#[.tmp 109],#[145]⟩) 0]) c58_25)
def c58_27:Cd:=(.seq (.seq (.reg [21] [.o [.mov 21 (.t 0)],.call none 22 62 [(.t 21)],.o [.len 23 (.t 22),.mov 24 (cI 0)]]) c58_24) c58_26)
def c58_28:Cd:=(.seq (.label 0) c58_27)
def c58_29:Cd:=(.seq (.reg [] [.o [.asg 5 (cI 0)]]) c58_28)
def c58_30:Cd:=(.seq (.reg [17,18,19,20] [.o [.mov 18 (.t 0),.chk 19 (.t 18),.faddr 20 4 (.t 19),.st 1 (.t 20) (cB true)]]) c58_29)
def c58_31:Cd:=(.scope (.seq (.seq (.reg [10,11,12,13,14,15,16] [.o [.mov 10 (.t 0),.pnq 11 true (.t 10),.mov 12 (.t 11)],.g 12 false [.mov 13 (.t 0),.chk 14 (.t 13),.faddr 15 4 (.t 14),.ld 16 1 false (.t 15)],.o [.pick 17 (.t 12) (cB true) (.t 16)]]) c58_1) c58_30))
def fi58:FI:=⟨110,2,[.t 4],(.seq (.reg [4] [.o [.asg 4 (cB false)]]) c58_31)⟩
theorem ok58:fiOk Try.prog 58 fi58:=⟨_,_,Try.func58,rfl,by kernel_rfl,by kernel_rfl,Try.call58⟩
def c59_0:Cd:=(.seq (.reg [0,1,13] [.o [.asg 4 (cB false)]]) .ret)
def c59_1:Cd:=(.cond (.t 13) c59_0 .skip)
def c59_2:Cd:=(.cond (.t 20) .skip (.exit 0))
def c59_3:Cd:=(.cond (.t 30) (.exit 1) .skip)
def c59_4:Cd:=(.reg [35,36,37,38,39,40,41,42,43,44,45,46,47] [.o [.mov 36 (.t 1),.mov 37 (.t 5),.bin 38 .quo (.t 37) (cI 4),.iaddr 39 1 (.t 36) (.t 38),.ld 40 1 false (.t 39),.conv 41 .i64 (.t 40),.mov 42 (.t 5),.bin 43 .rem (.t 42) (cI 4),.bin 44 .mul (cI 2) (.t 43),.conv 45 .u64 (.t 44),.bin 46 .shr (.t 41) (.t 45),.bin 47 .and (.t 46) (cI 3),.asg 7 (.t 47)]])
def c59_5:Cd:=(.cond (.t 35) c59_4 .skip)
def c59_6:Cd:=(.reg [8,9,64,65,67,68,69,70,71,72,73] [.o [.mov 67 (.t 0),.chk 68 (.t 67),.faddr 69 0 (.t 68),.ld 70 1 false (.t 69),.mov 71 (.t 6),.mov 72 (.t 9),.iaddr 73 1 (.t 70) (.t 71),.st 1 (.t 73) (.t 72)]])
def c59_7:Cd:=(.draw [[],[0],[1],[2],[],[],[5],[],[7],[6,8],[3,4,0,1,2,3,4,5,6,7,8,9],[10,9,0,1,2,3,4,5,6,7,8,9]] [8,9,64,74,76,77,78,79,80,81,82,83,84,85,86] [.o [.mov 76 (.t 0),.chk 77 (.t 76),.faddr 78 0 (.t 77),.ld 79 1 false (.t 78),.mov 80 (.t 6),.mov 81 (.t 9),.ssl 82 (.t 81) none (some (cI 12)),.mov 83 (.t 8),.ssl 84 (.t 83) (some (cI 12)) none,.bin 85 .add (.t 82) (.t 84),.iaddr 86 1 (.t 79) (.t 80),.st 1 (.t 86) (.t 85)]])
def c59_8:Cd:=(.draw [[],[0],[1],[2],[],[],[5],[],[7],[6,8],[3,4,0,1,2,3,4,5,6,7,8,9],[10,9,0,1,2,3,4,5,6,7,8,9]] [8,9,87,89,90,91,92,93,94,95,96,97,98,99] [.o [.mov 89 (.t 0),.chk 90 (.t 89),.faddr 91 0 (.t 90),.ld 92 1 false (.t 91),.mov 93 (.t 6),.mov 94 (.t 8),.ssl 95 (.t 94) none (some (cI 12)),.mov 96 (.t 9),.ssl 97 (.t 96) (some (cI 12)) none,.bin 98 .add (.t 95) (.t 97),.iaddr 99 1 (.t 92) (.t 93),.st 1 (.t 99) (.t 98)]])
def c59_9:Cd:=(.cond (.t 87) c59_8 .skip)
def c59_10:Cd:=(.seq (.reg [64,74,88] [.o [.bin 88 .eql (.t 64) (cI 3),.asg 87 (.t 88)]]) c59_9)
def c59_11:Cd:=(.cond (.t 74) c59_7 c59_10)
def c59_12:Cd:=(.seq (.reg [65,75] [.o [.bin 75 .eql (.t 64) (cI 2),.asg 74 (.t 75)]]) c59_11)
def c59_13:Cd:=(.cond (.t 65) c59_6 c59_12)
def c59_14:Cd:=(.block 2 (.seq (.reg [66] [.o [.bin 66 .eql (.t 64) (cI 1),.asg 65 (.t 66)]]) c59_13))
def c59_15:Cd:=(.reg [8,9,87,100,101,102,103,104,105] [.o [.mov 100 (.t 0),.chk 101 (.t 100),.faddr 102 2 (.t 101),.ld 103 1 false (.t 102),.mov 104 (.t 6),.iaddr 105 1 (.t 103) (.t 104),.st 1 (.t 105) (cB false)]])
def c59_16:Cd:=(.seq (.seq (.reg [7] [.o [.mov 64 (.t 7)]]) c59_14) c59_15)
def c59_17:Cd:=(.seq (.draw [[],[0],[1],[2],[],[3,4],[5],[],[7],[8],[9],[],[10,11],[12],[6,0,1,2,3,4,5,6],[13,14,0,1,2,3,4,5,6,7,8,9,10,11,12,13,14]] [50,51,52,53,54,55,56,57,58,59,60,61,62,63] [.o [.mov 50 (.t 0),.chk 51 (.t 50),.faddr 52 0 (.t 51),.ld 53 1 false (.t 52),.mov 54 (.t 6),.iaddr 55 1 (.t 53) (.t 54),.ld 56 1 false (.t 55),.mov 57 (.t 0),.chk 58 (.t 57),.faddr 59 1 (.t 58),.ld 60 1 false (.t 59),.mov 61 (.t 6),.iaddr 62 1 (.t 60) (.t 61),.ld 63 1 false (.t 62),.asg 8 (.t 56),.asg 9 (.t 63)]]) c59_16)
def c59_18:Cd:=(.seq (.reg [35,48,49] [.o [.mov 48 (.t 5),.bin 49 .add (.t 48) (cI 1),.asg 5 (.t 49)]]) c59_17)
def c59_19:Cd:=(.seq (.seq (.reg [31,32,33,34] [.o [.mov 31 (.t 5),.bin 32 .quo (.t 31) (cI 4),.mov 33 (.t 1),.len 34 (.t 33),.bin 35 .lss (.t 32) (.t 34)]]) c59_5) c59_18)
def c59_20:Cd:=(.seq (.reg [30] [.o [.asg 7 (cI 0)]]) c59_19)
def c59_21:Cd:=(.reg [21,22] [.o [.mov 21 (.t 6),.bin 22 .add (.t 21) (cI 1),.asg 6 (.t 22)]])
def c59_22:Cd:=(.seq (.block 1 (.seq (.seq (.reg [20,23,24,25,26,27,28,29] [.o [.mov 23 (.t 0),.chk 24 (.t 23),.faddr 25 2 (.t 24),.ld 26 1 false (.t 25),.mov 27 (.t 6),.iaddr 28 1 (.t 26) (.t 27),.ld 29 1 false (.t 28),.un 30 .not (.t 29)]]) c59_3) c59_20)) c59_21)
def c59_23:Cd:=(.seq (.seq (.reg [14,15,16,17,18,19] [.o [.mov 14 (.t 6),.mov 15 (.t 0),.chk 16 (.t 15),.faddr 17 0 (.t 16),.ld 18 1 false (.t 17),.len 19 (.t 18),.bin 20 .lss (.t 14) (.t 19)]]) c59_2) c59_22)
def c59_24:Cd:=(.block 0 (.loop c59_23))
def c59_25:Cd:=(.seq (.reg [] [.o [.asg 4 (cB true)]]) .ret)
def c59_26:Cd:=(.seq (.reg [0,1,5,6,14,15,16,17,18,19,20,106,107,108] [.o [.mov 106 (.t 0),.chk 107 (.t 106),.faddr 108 5 (.t 107),.st 1 (.t 108) (cB true)]]) c59_25)
def c59_27:Cd:=(.seq (.seq (.reg [] [.o [.asg 6 (cI 0)]]) c59_24) c59_26)
def c59_28:Cd:=(.seq (.reg [13] [.o [.asg 5 (cI 0)]]) c59_27)
def c59_29:Cd:=(.seq (.seq (.reg [10,11,12] [.o [.mov 10 (.t 0),.chk 11 (.t 10),.faddr 12 5 (.t 11),.ld 13 1 false (.t 12)]]) c59_1) c59_28)
def fi59:FI:=⟨109,2,[.t 4],(.seq (.reg [4] [.o [.asg 4 (cB false)]]) c59_29)⟩
theorem ok59:fiOk Try.prog 59 fi59:=⟨_,_,Try.func59,rfl,by kernel_rfl,by kernel_rfl,Try.call59⟩
def c60_0:Cd:=(.seq (.reg [0,1,10] [.o [.asg 4 (cB false)]]) .ret)
def c60_1:Cd:=(.cond (.t 10) c60_0 .skip)
def c60_2:Cd:=(.cond (.t 14) .skip (.exit 0))
def c60_3:Cd:=(.seq (.reg [0,1,5,26] [.o [.asg 4 (cB false)]]) .ret)
def c60_4:Cd:=(.cond (.t 26) c60_3 .skip)
def c60_5:Cd:=(.reg [26,15,16] [.o [.mov 15 (.t 5),.bin 16 .add (.t 15) (cI 1),.asg 5 (.t 16)]])
def c60_6:Cd:=(.seq (.block 1 (.seq (.draw [[],[],[0,1],[2],[3],[],[],[5,6],[7],[4,8]] [14,17,18,19,20,21,22,23,24,25] [.o [.mov 17 (.t 0),.mov 18 (.t 5),.iaddr 19 1 (.t 17) (.t 18),.ld 20 1 false (.t 19),.b2s 21 (.t 20),.mov 22 (.t 1),.mov 23 (.t 5),.iaddr 24 1 (.t 22) (.t 23),.ld 25 1 false (.t 24),.bin 26 .neq (.t 21) (.t 25)]]) c60_4)) c60_5)
def c60_7:Cd:=(.seq (.seq (.reg [11,12,13] [.o [.mov 11 (.t 5),.mov 12 (.t 1),.len 13 (.t 12),.bin 14 .lss (.t 11) (.t 13)]]) c60_2) c60_6)
def c60_8:Cd:=(.block 0 (.loop c60_7))
def c60_9:Cd:=(.seq (.reg [0,1,5,11,12,13,14] [.o [.asg 4 (cB true)]]) .ret)
def c60_10:Cd:=(.seq (.seq (.reg [10] [.o [.asg 5 (cI 0)]]) c60_8) c60_9)
def c60_11:Cd:=(.seq (.seq (.reg [6,7,8,9] [.o [.mov 6 (.t 0),.len 7 (.t 6),.mov 8 (.t 1),.len 9 (.t 8),.bin 10 .neq (.t 7) (.t 9)]]) c60_1) c60_10)
def fi60:FI:=⟨27,2,[.t 4],(.seq (.reg [4] [.o [.asg 4 (cB false)]]) c60_11)⟩
theorem ok60:fiOk Try.prog 60 fi60:=⟨_,_,Try.func60,rfl,by kernel_rfl,by kernel_rfl,Try.call60⟩
def c61_0:Cd:=(.seq (.reg [0,7] [.o [.asg 2 (.c (.sl true () 1 0 []))]]) .ret)
def c61_1:Cd:=(.cond (.t 7) c61_0 .skip)
def c61_2:Cd:=(.reg [5,17,18,19,20,21] [.o [.mov 17 (.t 3),.mov 18 (.t 5)],.call none 19 108 [(.t 18)],.o [.bs1 20 1 (.t 19),.app 21 1 24 (.t 17) (.t 20),.asg 3 (.t 21)]])
def c61_3:Cd:=(.reg [22] [.o [.bin 22 .add (.t 13) (cI 1),.mov 13 (.t 22)]])
def c61_4:Cd:=(.seq (.block 1 (.seq (.reg [14,15,16] [.o [.iaddr 15 1 (.t 11) (.t 13),.ld 16 1 false (.t 15),.asg 5 (.t 16)]]) c61_2)) c61_3)
def c61_5:Cd:=(.seq (.cond (.t 14) .skip (.exit 0)) c61_4)
def c61_6:Cd:=(.seq (.reg [] [.o [.bin 14 .lss (.t 13) (.t 12)]]) c61_5)
def c61_7:Cd:=(.block 0 (.loop c61_6))
def c61_8:Cd:=(.seq (.reg [3,11,12,13,14,23] [.o [.mov 23 (.t 3),.asg 2 (.t 23)]]) .ret)
def c61_9:Cd:=(.seq (.seq (.reg [0,8,9,10] [.o [.mov 8 (.t 0),.chk 9 (.t 8),.faddr 10 0 (.t 9),.ld 11 1 false (.t 10),.len 12 (.t 11),.mov 13 (cI 0)]]) c61_7) c61_8)
def c61_10:Cd:=(.seq (.reg [7] [.o [.asg 3 (.c (.sl true () 1 0 []))]]) c61_9)
def c61_11:Cd:=(.seq (.seq (.reg [6] [.o [.mov 6 (.t 0),.pnq 7 true (.t 6)]]) c61_1) c61_10)
def fi61:FI:=⟨24,1,[.t 2],(.seq (.reg [2] [.o [.asg 2 (.c (.sl true () 1 0 []))]]) c61_11)⟩
theorem ok61:fiOk Try.prog 61 fi61:=⟨_,_,Try.func61,rfl,by kernel_rfl,by kernel_rfl,Try.call61⟩
def c62_0:Cd:=(.seq (.reg [0,4] [.o [.asg 2 (.c (.sl true () 1 0 []))]]) .ret)
def c62_1:Cd:=(.cond (.t 4) c62_0 .skip)
def c62_2:Cd:=(.seq (.reg [0,4,5,6,7,8,9,10] [.o [.mov 5 (.t 0),.chk 6 (.t 5),.faddr 7 1 (.t 6),.ld 8 1 false (.t 7)],.call none 9 112 [(.t 8)],.call none 10 111 [(.t 9)],.o [.asg 2 (.t 10)]]) .ret)
def c62_3:Cd:=(.seq (.seq (.reg [3] [.o [.mov 3 (.t 0),.pnq 4 true (.t 3)]]) c62_1) c62_2)
def fi62:FI:=⟨11,1,[.t 2],(.seq (.reg [2] [.o [.asg 2 (.c (.sl true () 1 0 []))]]) c62_3)⟩
theorem ok62:fiOk Try.prog 62 fi62:=⟨_,_,Try.func62,rfl,by kernel_rfl,by kernel_rfl,Try.call62⟩
def c63_0:Cd:=(.cond (.t 11) .skip (.exit 0))
def c63_1:Cd:=(.reg [20,21,22,23,24] [.o [.mov 21 (.t 3),.mov 22 (.t 4),.bs1 23 1 (.t 22),.app 24 1 8 (.t 21) (.t 23),.asg 3 (.t 24)]])
def c63_2:Cd:=(.cond (.t 20) c63_1 .skip)
def c63_3:Cd:=(.reg [20,12,13] [.o [.mov 12 (.t 4),.bin 13 .add (.t 12) (cI 1),.asg 4 (.t 13)]])
def c63_4:Cd:=(.seq (.block 1 (.seq (.reg [11,14,15,16,17,18,19] [.o [.mov 14 (.t 0),.chk 15 (.t 14),.faddr 16 2 (.t 15),.ld 17 1 false (.t 16),.mov 18 (.t 4),.iaddr 19 1 (.t 17) (.t 18),.ld 20 1 false (.t 19)]]) c63_2)) c63_3)
def c63_5:Cd:=(.seq (.seq (.reg [5,6,7,8,9,10] [.o [.mov 5 (.t 4),.mov 6 (.t 0),.chk 7 (.t 6),.faddr 8 2 (.t 7),.ld 9 1 false (.t 8),.len 10 (.t 9),.bin 11 .lss (.t 5) (.t 10)]]) c63_0) c63_4)
def c63_6:Cd:=(.block 0 (.loop c63_5))
def c63_7:Cd:=(.seq (.reg [0,3,4,5,6,7,8,9,10,11,25] [.o [.mov 25 (.t 3),.asg 2 (.t 25)]]) .ret)
def c63_8:Cd:=(.seq (.seq (.reg [] [.o [.asg 4 (cI 0)]]) c63_6) c63_7)
def c63_9:Cd:=(.seq (.reg [] [.o [.asg 3 (.c (.sl true () 1 0 []))]]) c63_8)
def fi63:FI:=⟨26,1,[.t 2],(.seq (.reg [2] [.o [.asg 2 (.c (.sl true () 1 0 []))]]) c63_9)⟩
theorem ok63:fiOk Try.prog 63 fi63:=⟨_,_,Try.func63,rfl,by kernel_rfl,by kernel_rfl,Try.call63⟩
def c64_0:Cd:=(.seq (.reg [0,4] [.o [.asg 2 (cI 0)]]) .ret)
def c64_1:Cd:=(.cond (.t 4) c64_0 .skip)
def c64_2:Cd:=(.seq (.reg [0,4,5,6,7,8] [.o [.mov 5 (.t 0),.chk 6 (.t 5),.faddr 7 2 (.t 6),.ld 8 1 false (.t 7),.asg 2 (.t 8)]]) .ret)
def c64_3:Cd:=(.seq (.seq (.reg [3] [.o [.mov 3 (.t 0),.pnq 4 true (.t 3)]]) c64_1) c64_2)
def fi64:FI:=⟨9,1,[.t 2],(.seq (.reg [2] [.o [.asg 2 (cI 0)]]) c64_3)⟩
theorem ok64:fiOk Try.prog 64 fi64:=⟨_,_,Try.func64,rfl,by kernel_rfl,by kernel_rfl,Try.call64⟩
def c106_0:Cd:=(.seq (.reg [0,1,5,6,7,8,9,10,11,12,13,14,15] [.o [.mov 5 (.t 1),.bin 6 .geq (.t 5) (cI 0),.mov 7 (.t 6)],.g 7 true [.mov 8 (.t 1),.mov 9 (.t 0),.chk 10 (.t 9),.faddr 11 0 (.t 10),.ld 12 1 false (.t 11),.len 13 (.t 12),.bin 14 .lss (.t 8) (.t 13)],.o [.pick 15 (.t 7) (.t 14) (cB false),.asg 4 (.t 15)]]) .ret)
def fi106:FI:=⟨16,2,[.t 4],(.seq (.reg [4] [.o [.asg 4 (cB false)]]) c106_0)⟩
theorem ok106:fiOk Try.prog 106 fi106:=⟨_,_,Try.func106,rfl,by kernel_rfl,by kernel_rfl,Try.call106⟩
def c107_0:Cd:=(.seq (.reg [0,6] [.o [.asg 2 (cI 12)]]) .ret)
def c107_1:Cd:=(.cond (.t 6) c107_0 .skip)
def c107_2:Cd:=(.seq (.reg [30] [.o [.asg 2 (cI 9)]]) .ret)
def c107_3:Cd:=(.cond (.t 30) c107_2 .skip)
def c107_4:Cd:=(.seq (.reg [0,26,27,28,29] [.o [.mov 26 (.t 0),.chk 27 (.t 26),.faddr 28 3 (.t 27),.ld 29 1 false (.t 28),.bin 30 .eql (.t 29) (cI 0)]]) c107_3)
def c107_5:Cd:=(.seq (.reg [18,19,20,21,22,23,24,25] [.o [.mov 19 (.t 0),.chk 20 (.t 19),.faddr 21 3 (.t 20),.ld 22 1 false (.t 21),.bin 23 .sub (.t 22) (cI 1),.chk 24 (.t 19),.faddr 25 3 (.t 24),.st 1 (.t 25) (.t 23)]]) c107_4)
def c107_6:Cd:=(.cond (.t 18) c107_5 .skip)
def c107_7:Cd:=(.seq (.reg [30,0,18] [.o [.asg 2 (cI 0)]]) .ret)
def c107_8:Cd:=(.seq (.seq (.reg [14,15,16,17] [.o [.mov 14 (.t 0),.chk 15 (.t 14),.faddr 16 3 (.t 15),.ld 17 1 false (.t 16),.bin 18 .gtr (.t 17) (cI 0)]]) c107_6) c107_7)
def c107_9:Cd:=(.seq (.reg [6,7,8,9,10,11,12,13] [.o [.mov 7 (.t 0),.chk 8 (.t 7),.faddr 9 2 (.t 8),.ld 10 1 false (.t 9),.bin 11 .add (.t 10) (cI 1),.chk 12 (.t 7),.faddr 13 2 (.t 12),.st 1 (.t 13) (.t 11)]]) c107_8)
def c107_10:Cd:=(.seq (.seq (.reg [3,4,5] [.o [.mov 3 (.t 0),.chk 4 (.t 3),.faddr 5 4 (.t 4),.ld 6 1 false (.t 5)]]) c107_1) c107_9)
def fi107:FI:=⟨31,1,[.t 2],(.seq (.reg [2] [.o [.asg 2 (cI 0)]]) c107_10)⟩
theorem ok107:fiOk Try.prog 107 fi107:=⟨_,_,Try.func107,rfl,by kernel_rfl,by kernel_rfl,Try.call107⟩
def c109_0:Cd:=(.seq (.reg [0,22,23,24,25,26] [.o [.mov 22 (.t 0),.chk 23 (.t 22),.faddr 24 4 (.t 23),.ld 25 1 false (.t 24),.bin 26 .gtr (.t 25) (cI 0),.asg 2 (.t 26)]]) .ret)
def c109_1:Cd:=(.seq (.reg [14,15,16,17,18,19,20,21] [.o [.mov 15 (.t 0),.chk 16 (.t 15),.faddr 17 4 (.t 16),.ld 18 1 false (.t 17),.bin 19 .sub (.t 18) (cI 1),.chk 20 (.t 15),.faddr 21 4 (.t 20),.st 1 (.t 21) (.t 19)]]) c109_0)
def c109_2:Cd:=(.cond (.t 14) c109_1 .skip)
def c109_3:Cd:=(.seq (.reg [0,14] [.o [.asg 2 (cB true)]]) .ret)
def c109_4:Cd:=(.seq (.seq (.reg [10,11,12,13] [.o [.mov 10 (.t 0),.chk 11 (.t 10),.faddr 12 4 (.t 11),.ld 13 1 false (.t 12),.bin 14 .gtr (.t 13) (cI 0)]]) c109_2) c109_3)
def c109_5:Cd:=(.seq (.reg [3,4,5,6,7,8,9] [.o [.mov 3 (.t 0),.chk 4 (.t 3),.faddr 5 3 (.t 4),.ld 6 1 false (.t 5),.bin 7 .add (.t 6) (cI 1),.chk 8 (.t 3),.faddr 9 3 (.t 8),.st 1 (.t 9) (.t 7)]]) c109_4)
def fi109:FI:=⟨27,1,[.t 2],(.seq (.reg [2] [.o [.asg 2 (cB false)]]) c109_5)⟩
theorem ok109:fiOk Try.prog 109 fi109:=⟨_,_,Try.func109,rfl,by kernel_rfl,by kernel_rfl,Try.call109⟩
-- BAD 110 slices.Concat[[]byte,byte] [0, 1]
def c110_0:Cd:=(.reg [20] [.bad,.bad])
def c110_1:Cd:=(.cond (.t 20) c110_0 .skip)
def c110_2:Cd:=(.seq (.reg [19] [.o [.mov 19 (.t 3),.bin 20 .lss (.t 19) (cI 0)]]) c110_1)
def c110_3:Cd:=(.seq (.reg [5,15,16,17,18] [.o [.mov 15 (.t 3),.mov 16 (.t 5),.len 17 (.t 16),.bin 18 .add (.t 15) (.t 17),.asg 3 (.t 18)]]) c110_2)
def c110_4:Cd:=(.reg [20,22] [.o [.bin 22 .add (.t 11) (cI 1),.mov 11 (.t 22)]])
def c110_5:Cd:=(.seq (.block 1 (.seq (.reg [12,13,14] [.o [.iaddr 13 1 (.t 9) (.t 11),.ld 14 1 false (.t 13),.asg 5 (.t 14)]]) c110_3)) c110_4)
def c110_6:Cd:=(.seq (.cond (.t 12) .skip (.exit 0)) c110_5)
def c110_7:Cd:=(.seq (.reg [] [.o [.bin 12 .lss (.t 11) (.t 10)]]) c110_6)
def c110_8:Cd:=(.block 0 (.loop c110_7))
def c110_9:Cd:=(.reg [8,31,32,33] [.o [.mov 31 (.t 6),.mov 32 (.t 8),.app 33 1 1 (.t 31) (.t 32),.asg 6 (.t 33)]])
def c110_10:Cd:=(.reg [34] [.o [.bin 34 .add (.t 27) (cI 1),.mov 27 (.t 34)]])
def c110_11:Cd:=(.seq (.block 3 (.seq (.reg [28,29,30] [.o [.iaddr 29 1 (.t 25) (.t 27),.ld 30 1 false (.t 29),.asg 8 (.t 30)]]) c110_9)) c110_10)
def c110_12:Cd:=(.seq (.cond (.t 28) .skip (.exit 2)) c110_11)
def c110_13:Cd:=(.seq (.reg [] [.o [.bin 28 .lss (.t 27) (.t 26)]]) c110_12)
def c110_14:Cd:=(.block 2 (.loop c110_13))
def c110_15:Cd:=(.seq (.reg [6,25,26,27,28,35] [.o [.mov 35 (.t 6),.asg 2 (.t 35)]]) .ret)
def c110_16:Cd:=(.seq (.seq (.reg [0] [.o [.mov 25 (.t 0),.len 26 (.t 25),.mov 27 (cI 0)]]) c110_14) c110_15)
def c110_17:Cd:=(.seq (.reg [3,9,10,11,12,23,24] [.o [.mov 23 (.t 3)],.call none 24 148 [(.c (.sl true () 1 0 [])),(.t 23)],.o [.asg 6 (.t 24)]]) c110_16)
def c110_18:Cd:=(.seq (.seq (.reg [] [.o [.mov 9 (.t 0),.len 10 (.t 9),.mov 11 (cI 0)]]) c110_8) c110_17)
def c110_19:Cd:=(.seq (.reg [] [.o [.asg 3 (cI 0)]]) c110_18)
def fi110:FI:=⟨36,1,[.t 2],(.seq (.reg [2] [.o [.asg 2 (.c (.sl true () 1 0 []))]]) c110_19)⟩
theorem ok110:fiOk Try.prog 110 fi110:=⟨_,_,Try.func110,rfl,by kernel_rfl,by kernel_rfl,Try.call110⟩
def c108_0:Cd:=(.seq (.reg [0,4] [.o [.asg 2 (.c (.sl true () 1 0 []))]]) .ret)
def c108_1:Cd:=(.cond (.t 4) c108_0 .skip)
def c108_2:Cd:=(.seq (.reg [0,4,5,6,7] [.o [.bs0 5 1,.mov 6 (.t 0),.app 7 1 1 (.t 5) (.t 6),.asg 2 (.t 7)]]) .ret)
def c108_3:Cd:=(.seq (.seq (.reg [3] [.o [.mov 3 (.t 0)],.nilq 4 true (.t 3)]) c108_1) c108_2)
def fi108:FI:=⟨8,1,[.t 2],(.seq (.reg [2] [.o [.asg 2 (.c (.sl true () 1 0 []))]]) c108_3)⟩
theorem ok108:fiOk Try.prog 108 fi108:=⟨_,_,Try.func108,rfl,by kernel_rfl,by kernel_rfl,Try.call108⟩
def c75_0:Cd:=(.seq (.reg [1] [.o [.make 1 1 1 [(.sc (.int .u8 0))] (cI 24) (cI 24),.asg 0 (.t 1)]]) .ret)
def fi75:FI:=⟨2,0,[.t 0],(.seq (.reg [0] [.o [.asg 0 (.c (.sl true () 1 0 []))]]) c75_0)⟩
theorem ok75:fiOk Try.prog 75 fi75:=⟨_,_,Try.func75,rfl,by kernel_rfl,by kernel_rfl,Try.call75⟩
def c74_0:Cd:=(.seq (.reg [1,2] [.o [.make 1 1 1 [(.sc (.int .u8 0))] (cI 24) (cI 24),.b2s 2 (.t 1),.asg 0 (.t 2)]]) .ret)
def fi74:FI:=⟨3,0,[.t 0],(.seq (.reg [0] [.o [.asg 0 (.c (.sc (.string ⟨#[]⟩)))]]) c74_0)⟩
theorem ok74:fiOk Try.prog 74 fi74:=⟨_,_,Try.func74,rfl,by kernel_rfl,by kernel_rfl,Try.call74⟩
end Go.OT
namespace Go.OT
theorem bind_some' {α β:Type}{x:Option α}{f:α→Option β}{y:β}(h:x.bind f=some y):∃ a,x=some a∧f a=some y:=Option.bind_eq_some_iff.1 h
theorem map_some' {α β:Type}{x:Option α}{f:α→β}{y:β}(h:x.map f=some y):∃ a,x=some a∧f a=y:=Option.map_eq_some_iff.1 h
theorem compCall_mov {P:Program}{nt:Nat}{o:Oper}{c:Call}{d n:Nat}(h:compCall P nt o c=some (.mov d (.t n))):False:=by
 unfold compCall at h
 obtain⟨d',_,h⟩:=bind_some' h
 split at h
 ·obtain⟨c,_,h⟩:=bind_some' h
  split at h<;>cases h
 ·obtain⟨c,_,h⟩:=bind_some' h
  obtain⟨b,_,h⟩:=map_some' h
  cases h
 ·obtain⟨c,_,h⟩:=bind_some' h
  obtain⟨b,_,h⟩:=map_some' h
  cases h
 ·obtain⟨c,_,h⟩:=bind_some' h
  obtain⟨b,_,h⟩:=bind_some' h
  split at h
  ·split at h
   ·obtain⟨i,_,h⟩:=bind_some' h
    obtain⟨z,_,h⟩:=bind_some' h
    split at h<;>cases h
   ·cases h
  ·cases h
 ·obtain⟨c,_,h⟩:=bind_some' h
  obtain⟨b,_,h⟩:=bind_some' h
  split at h
  ·obtain⟨i,_,h⟩:=bind_some' h
   split at h<;>cases h
  ·cases h
 ·cases h
theorem compO_mov {P:Program}{nt:Nat}{here:List Nat}{o:Oper}{d n:Nat}(h:compO P nt here o=some (.mov d (.t n))):opsIn nt o=true∧∃ x,(o.op=.move x∨o.op=.assign x)∧∃ sz,compOd nt sz x=some (.t n):=by
 unfold compO at h
 split at h
 ·rename_i hc
  refine⟨hc.1,?_⟩
  split at h
  ·rename_i x hop
   obtain⟨d',_,h⟩:=bind_some' h
   obtain⟨c,hx,h⟩:=map_some' h
   cases h
   exact⟨x,.inl hop,_,hx⟩
  ·rename_i x hop
   obtain⟨d',_,h⟩:=bind_some' h
   obtain⟨c,hx,h⟩:=map_some' h
   split at h
   ·split at h
    ·cases h
    ·cases h;exact⟨x,.inr hop,_,hx⟩
   ·cases h
  ·exfalso
   obtain⟨_,_,h⟩:=bind_some' h
   obtain⟨_,_,h⟩:=map_some' h
   cases h
  ·exfalso
   obtain⟨_,_,h⟩:=bind_some' h
   obtain⟨_,_,h⟩:=bind_some' h
   obtain⟨_,_,h⟩:=bind_some' h
   obtain⟨_,_,h⟩:=map_some' h
   cases h
  ·exfalso
   obtain⟨_,_,h⟩:=bind_some' h
   obtain⟨_,_,h⟩:=map_some' h
   cases h
  ·exfalso
   obtain⟨_,_,h⟩:=bind_some' h
   obtain⟨_,_,h⟩:=bind_some' h
   split at h
   ·cases h
   ·split at h
    ·cases h
    ·split at h
     ·cases h
     ·obtain⟨_,_,h⟩:=bind_some' h
      split at h
      ·split at h
       ·cases h
       ·split at h<;>cases h
      ·cases h
  ·exfalso
   obtain⟨_,_,h⟩:=bind_some' h
   obtain⟨_,_,h⟩:=bind_some' h
   split at h
   ·cases h
   ·split at h<;>cases h
   ·split at h
    ·split at h<;>cases h
    ·cases h
   ·split at h<;>cases h
   ·cases h
  ·exfalso
   obtain⟨_,_,h⟩:=bind_some' h
   obtain⟨_,_,h⟩:=bind_some' h
   obtain⟨_,_,h⟩:=bind_some' h
   obtain⟨_,_,h⟩:=bind_some' h
   split at h<;>cases h
  ·exfalso
   obtain⟨_,_,h⟩:=bind_some' h
   obtain⟨_,_,h⟩:=bind_some' h
   split at h
   ·obtain⟨_,_,h⟩:=bind_some' h
    obtain⟨_,_,h⟩:=bind_some' h
    split at h<;>cases h
   ·cases h
  ·exfalso
   obtain⟨_,_,h⟩:=bind_some' h
   obtain⟨_,_,h⟩:=bind_some' h
   obtain⟨_,_,h⟩:=bind_some' h
   split at h
   ·obtain⟨_,_,h⟩:=map_some' h
    cases h
   ·obtain⟨_,_,h⟩:=map_some' h
    cases h
   ·cases h
  ·exfalso
   obtain⟨_,_,h⟩:=bind_some' h
   obtain⟨_,_,h⟩:=bind_some' h
   obtain⟨_,_,h⟩:=bind_some' h
   obtain⟨_,_,h⟩:=bind_some' h
   split at h
   ·obtain⟨_,_,h⟩:=map_some' h
    cases h
   ·cases h
   ·cases h
  ·exfalso
   obtain⟨_,_,h⟩:=bind_some' h
   obtain⟨_,_,h⟩:=bind_some' h
   obtain⟨_,_,h⟩:=bind_some' h
   split at h<;>cases h
  ·exfalso
   split at h
   ·obtain⟨_,_,h⟩:=bind_some' h
    obtain⟨_,_,h⟩:=bind_some' h
    obtain⟨_,_,h⟩:=map_some' h
    cases h
   ·cases h
  ·exfalso
   obtain⟨_,_,h⟩:=map_some' h
   cases h
  ·exfalso
   obtain⟨_,_,h⟩:=bind_some' h
   obtain⟨_,_,h⟩:=map_some' h
   cases h
  ·exfalso
   obtain⟨_,_,h⟩:=bind_some' h
   obtain⟨_,_,h⟩:=bind_some' h
   split at h<;>cases h
  ·exfalso
   obtain⟨_,_,h⟩:=bind_some' h
   obtain⟨_,_,h⟩:=bind_some' h
   obtain⟨_,_,h⟩:=bind_some' h
   split at h<;>cases h
  ·exfalso
   obtain⟨_,_,h⟩:=bind_some' h
   obtain⟨_,_,h⟩:=bind_some' h
   obtain⟨_,_,h⟩:=bind_some' h
   split at h
   ·obtain⟨_,_,h⟩:=bind_some' h
    obtain⟨_,_,h⟩:=bind_some' h
    split at h<;>cases h
   ·cases h
  ·exfalso
   obtain⟨_,_,h⟩:=bind_some' h
   split at h
   ·obtain⟨_,_,h⟩:=bind_some' h
    split at h
    ·obtain⟨_,_,h⟩:=bind_some' h
     split at h<;>cases h
    ·cases h
   ·split at h
    ·obtain⟨_,_,h⟩:=map_some' h
     cases h
    ·cases h
   ·split at h
    ·obtain⟨_,_,h⟩:=bind_some' h
     obtain⟨_,_,h⟩:=bind_some' h
     split at h
     ·cases h
     ·obtain⟨_,_,h⟩:=bind_some' h
      split at h<;>cases h
    ·cases h
  ·exfalso
   obtain⟨_,_,h⟩:=bind_some' h
   split at h
   ·obtain⟨_,_,h⟩:=map_some' h
    cases h
   ·cases h
  ·exfalso
   obtain⟨_,_,h⟩:=bind_some' h
   obtain⟨_,_,h⟩:=bind_some' h
   split at h
   ·obtain⟨_,_,h⟩:=bind_some' h
    split at h<;>cases h
   ·cases h
  ·exfalso
   exact compCall_mov h
  ·exfalso
   cases h
 ·cases h
theorem ok_mvr {C:Ctx}{o:Oper}{X:XF Unit}{d n sz:Nat}{x:Operand}(ho:o.op=.move x∨o.op=.assign x)(hd:o.dst=some d)(hlt:d < C.nt)(hin:opsIn C.nt o=true)(hc:compOd C.nt sz x=some (.t n))(hne:d ≠ n) :
  OpOk C o X ((X.set (100 * d) (X (100 * n)).2).set (100 * n) .non) :=
 OpOk.of_val hd hlt hin fun XL β I rg w he R=>by
  subst he
  have hx:x=.tmp n:=by
   cases x with
   | tmp t =>
    simp only[compOd] at hc
    split at hc
    ·simp only[Option.some.injEq,COd.t.injEq] at hc;rw[hc]
    ·cases hc
   | const v=>simp only[compOd] at hc;split at hc<;>cases hc
   | func f=>cases hc
   | global g=>cases hc
  subst hx
  have R1:=R.moveR d n (by have:=C.hnt;omega) hne
  refine⟨rg n,w,_,β,I,_,?_,?_,R1,by simp,fun t h1 _=>by simp[h1]⟩
  ·rcases ho with ho | ho<;>simp [execOp,ho,evR]
  ·rw[erF_set,erF_set];rfl
theorem RL.mv {P:Program}{nt:Nat}{L:SL}{K:SL→Prop}{l:List COp}{rest:List Sg}{d n:Nat}(hne:d ≠ n)(h:RL P nt (.o l :: rest) (setL (setL L (100 * d) (fnL L (100 * n)).2) (100 * n) .non) K):RL P nt (.o (.mov d (.t n) :: l) :: rest) L K :=
 RL.cons (it:=.op none (.mov d (.t n))) (rest:=.o l :: rest) (by simp[flatS]) (fun C ops i o hP hn hi hit=>by
  obtain⟨h1,h2,h3⟩:=itOf_op hit
  subst hP hn
  obtain⟨hin,x,hop,sz,hx⟩:=compO_mov h2
  rcases h3 with ⟨_,_,_,e,_⟩ | ⟨h4,h5,_⟩
  ·cases e
  ·have:=ok_mvr (X:=fnL L) hop h4 h5 hin hx hne
   rw[fnL_set,fnL_set] at this
   exact SOk.op hi (compGd_none h1) this) h
section
variable {C:Ctx} {X:XF LO} {β:Nat→Nat × Nat} {I:ASet} {rg:Nat→Value} {w:World}
end
end Go.OT
namespace Go.OT
section
variable {P:Program} {nt:Nat} {L:SL}
theorem unitK_inj {k j:Nat}(h:unitK k=unitK j):k=j:=by
 unfold unitK at h
 split at h<;>split at h<;>omega
theorem backU_ne {X:XF Unit}{k:Nat}:∀ {zs:List ((Nat × List Nat) × Gh Unit)},(∀ e ∈ zs,e.1.1 ≠ k)→backU X zs k=X k
 | [],_=>rfl
 | e :: l,h=>by
  rw[backU,XF.set_ne _ _ (fun e'=>h e List.mem_cons_self e'.symm)]
  exact backU_ne fun e' he'=>h e' (List.mem_cons_of_mem _ he')
theorem backU_agr {X Y:XF Unit}:∀ {zs:List ((Nat × List Nat) × Gh Unit)},(∀ e ∈ zs,X e.1.1=Y e.1.1)→∀ k,X k=Y k→backU X zs k=backU Y zs k
 | [],_,k,hk=>hk
 | e :: l,h,k,hk=>by
  have ih:=backU_agr (zs:=l) fun e' he'=>h e' (List.mem_cons_of_mem _ he')
  simp only[backU]
  by_cases hke:k=e.1.1
  ·subst hke
   have h1:=ih e.1.1 hk
   simp only[XF.set,if_true,hk,h1]
  ·rw[XF.set_ne _ _ hke,XF.set_ne _ _ hke]
   exact ih k hk
theorem mapM_agr {X Y:XF Unit}:∀ {ls:List (Nat × List Nat)},(∀ e ∈ ls,X e.1=Y e.1)→ls.mapM (ghAt X)=ls.mapM (ghAt Y)
 | [],_=>rfl
 | e :: l,h=>by
  simp only[List.mapM_cons]
  rw[mapM_agr fun e' he'=>h e' (List.mem_cons_of_mem _ he')]
  have:ghAt X e=ghAt Y e:=by simp only[ghAt,h e List.mem_cons_self]
  rw[this]
theorem DL.callL {K:SL→Fs→Prop}{rest:List Sg}{d f:Nat}{cs:List COd}{gs gs':List (Gh Unit)}{vs:List AU}{r:AU}{fs:Fs}(own:Bool)(ls:List (Nat × List Nat))(hfn:FnC P f gs vs gs' r)(hgs:ls.mapM (ghAt (fnL L))=some gs)(hnd:(ls.map (·.1)).Nodup)
  (has:trArgs (fnL L) ls own cs=some vs) (hs:sideOk own gs gs' r=true) (hcl:cleanL (setL (backL L (ls.zip gs')) (100 * d) r)=true)
  (h:DL P nt rest (setL (backL L (ls.zip gs')) (100 * d) r) ((2 * d :: (ls.map (fun e=>unitK e.1) ++ (uOs (fnL L) cs ++ luOs (fnL L) own cs)),2 * d :: ls.map (fun e=>unitK e.1)) :: fs) K):DL P nt (.call none d f cs :: rest) L fs K:=by
 refine DL.cons (it:=.call none d f cs) (rest:=rest) (by simp[flatS]) (fun C ops i o hP hn hc0 hi hit=>?_) h
 have hzip:∀ e ∈ ls.zip gs',e.1 ∈ ls:=fun e he=>(List.of_mem_zip (a:=e.1) (b:=e.2) he).1
 have hcx:=cleanL_ok hcl
 have e0:fnL (setL (backL L (ls.zip gs')) (100 * d) r)=(backU (fnL L) (ls.zip gs')).set (100 * d) r:=by rw[← fnL_set,fnL_back]
 rw[e0] at hcx ⊢
 refine⟨fun u hu=>?_,fun k hk=>?_,hcx,fun X hX ha=>?_⟩
 ·simp only[List.mem_cons,List.mem_append] at hu ⊢
  rcases hu with hu | hu
  ·exact .inl hu
  ·exact .inr (.inl hu)
 ·have h1:k ≠ 100 * d:=fun e=>hk (by rw[e,unit_reg];simp)
  rw[XF.set_ne _ _ h1]
  refine backU_ne fun e he e'=>hk ?_
  rw[← e']
  exact List.mem_cons_of_mem _ (List.mem_map.2 ⟨e.1,hzip e he,rfl⟩)
 ·have hls:∀ e ∈ ls,X e.1=fnL L e.1:=fun e he=>ha e.1 (by
   simp only[List.mem_cons,List.mem_append]
   exact .inr (.inl (List.mem_map.2 ⟨e,he,rfl⟩)))
  have hzs:∀ e ∈ ls.zip gs',X e.1.1=fnL L e.1.1:=fun e he=>hls _ (hzip e he)
  have hag:agr (uOs (fnL L) cs ++ luOs (fnL L) own cs) X (fnL L):=fun k hk=>ha k (by
   simp only[List.mem_cons,List.mem_append] at hk ⊢
   exact .inr (.inr hk))
  have hd0:X (100 * d)=fnL L (100 * d):=ha _ (by rw[unit_reg];simp)
  have hsk:=sok_call (ls:=ls) (gs:=gs) (gs':=gs') own hP hn hi hit hfn (by rw[mapM_agr hls];exact hgs) hnd (by rw[trArgs_agr hag];exact has) hs
  have:mix (2 * d :: ls.map (fun e=>unitK e.1)) ((backU (fnL L) (ls.zip gs')).set (100 * d) r) X=(backU X (ls.zip gs')).set (100 * d) r:=by
   funext k
   unfold mix
   by_cases hk:unitK k ∈ 2 * d :: ls.map (fun e=>unitK e.1)
   ·rw[if_pos hk]
    have hXk:X k=fnL L k:=by
     rcases List.mem_cons.1 hk with hk | hk
     ·rw[← unit_reg d] at hk
      rw[unitK_inj hk]
      exact hd0
     ·obtain⟨e,he,hke⟩:=List.mem_map.1 hk
      rw[← unitK_inj hke]
      exact hls e he
    have hb:=backU_agr hzs k hXk
    by_cases e:k=100 * d
    ·subst e
     simp only[XF.set,if_true,hb]
    ·rw[XF.set_ne _ _ e,XF.set_ne _ _ e,hb]
   ·rw[if_neg hk]
    have h1:k ≠ 100 * d:=fun e=>hk (by rw[e,unit_reg];simp)
    rw[XF.set_ne _ _ h1,backU_ne fun e he e'=>hk (by
     rw[← e']
     exact List.mem_cons_of_mem _ (List.mem_map.2 ⟨e.1,hzip e he,rfl⟩))]
  rw[this]
  exact hsk
end
end Go.OT
namespace Go.OT
def clrB {L:Type}(X:XF L)(b:Nat):Nat→XF L
 | 0=>X
 | n+1=>(clrB X b n).set (100 * b+1+n) .non
theorem clrB_at {L:Type}(X:XF L)(b:Nat):∀ (n k:Nat),clrB X b n k=if 100 * b+1≤k∧k < 100 * b+1+n then (nx (X k),.non) else X k
 | 0,k=>by rw[if_neg (by omega)];rfl
 | n+1,k=>by
  simp only[clrB,XF.set]
  by_cases h:k=100 * b+1+n
  ·subst h
   rw[if_pos rfl,if_pos (by omega),clrB_at X b n,if_neg (by omega)]
  ·rw[if_neg h,clrB_at X b n]
   by_cases h':100 * b+1≤k∧k < 100 * b+1+n
   ·rw[if_pos h',if_pos (by omega)]
   ·rw[if_neg h',if_neg (by omega)]
theorem keeps_clrB (X:XF LO) (β:Nat→Nat × Nat)(b:Nat):∀ n,Keeps X (clrB X b n) β β
 | 0=>Keeps.refl X β
 | n+1=>(keeps_clrB X β b n).trans (keeps_set _ β _ _)
theorem erF_clrB (X:XF LO)(b:Nat):∀ n,erF (clrB X b n)=clrB (erF X) b n
 | 0=>rfl
 | n+1=>by simp only[clrB];rw[erF_set,erF_clrB X b n];rfl
section
variable {C:Ctx} {X:XF LO} {β:Nat→Nat × Nat} {I:ASet} {rg:Nat→Value} {w:World}
theorem RelL.up (R:RelL C X β I rg w)(b:Nat)(hb:b < 10000)(hr:(X (100 * b)).2=.bptr b (X (100 * b+99)).1 0)(cs:List AL)(hn:cs.length≤98)
  (hcs:∀ i c,cs[i]?=some c→(X (100 * b+1+i)).2=c∧treeV c=true) :
  RelL C ((clrB X b cs.length).set (100 * b) (.bx true (some ⟨(β b).1,(β b).2,0⟩) cs)) β I rg w:=by
 have hc:∀ i,i < cs.length→∃ c,cs[i]?=some c∧(X (100 * b+1+i)).2=c∧treeV c=true∧c ≠ .non∧isCell (100 * b+1+i)∧(100 * b+1+i) / 100=b∧(100 * b+1+i) % 100 - 1=i:=by
  intro i hi
  obtain⟨h1,h2⟩:=hcs i _ (List.getElem?_eq_getElem hi)
  refine⟨_,List.getElem?_eq_getElem hi,h1,h2,fun e=>?_,⟨by omega,by omega⟩,by omega,by omega⟩
  rw[e] at h2;simp[treeV] at h2
 have hat:∀ i c,cs[i]?=some c→(∃ y,w.at (β b).1 ((β b).2+i)=some (.v y)∧CR c y)∧¬ fp c (β b).1 ((β b).2+i)∧Mem w I c∧Sep c:=by
  intro i c hi
  obtain⟨c',h1,h2,h3,h4,h5,h6,h7⟩:=hc i (List.getElem?_eq_some_iff.1 hi).1
  rw[hi] at h1
  cases h1
  have hk:=R.key (100 * b+1+i)
  obtain⟨⟨y,hy,hx⟩,hnf⟩:=hk.cell h5 (by rw[h2];exact h4)
  rw[h6,h7] at hy hnf
  rw[h2] at hx hnf
  exact⟨⟨y,hy,hx.cr (by cases c<;>simp [treeV] at h3<;>rfl)⟩,hnf,by rw[← h2];exact hk.mem,by rw[← h2];exact hk.sep⟩
 have haddr:∀ i,i < cs.length→kfp β X (100 * b+1+i) (β b).1 ((β b).2+i):=by
  intro i hi
  obtain⟨c,h1,h2,h3,h4,h5,h6,h7⟩:=hc i hi
  exact .inr ⟨h5,by rw[h2];exact h4,by rw[h6],by rw[h6,h7]⟩
 have hin:∀ i c,cs[i]?=some c→∀ b' o',fp c b' o'→kfp β X (100 * b+1+i) b' o':=by
  intro i c hi b' o' h
  left
  rw[(hcs i c hi).1];exact h
 have hfp:∀ b' o',fp (.bx true (some ⟨(β b).1,(β b).2,0⟩) cs) b' o'→∃ i,i < cs.length∧kfp β X (100 * b+1+i) b' o':=by
  intro b' o' h
  simp only[fp] at h
  rcases h with ⟨rfl,h1,h2⟩ | h
  ·refine⟨o' - (β b).2,by omega,?_⟩
   have:=haddr (o' - (β b).2) (by omega)
   rwa [show (β b).2+(o' - (β b).2)=o' by omega] at this
  ·obtain⟨c,hc',hcb⟩:=fpL_iff.1 h
   obtain⟨i,hi⟩:=List.getElem?_of_mem hc'
   exact⟨i,(List.getElem?_eq_some_iff.1 hi).1,hin i c hi _ _ hcb⟩
 have hself:((clrB X b cs.length).set (100 * b) (.bx true (some ⟨(β b).1,(β b).2,0⟩) cs) (100 * b)).2=.bx true (some ⟨(β b).1,(β b).2,0⟩) cs:=by rw[XF.set_self]
 have hoth:∀ k,100 * b+1≤k∧k < 100 * b+1+cs.length→((clrB X b cs.length).set (100 * b) (.bx true (some ⟨(β b).1,(β b).2,0⟩) cs) k).2=.non:=by
  intro k hk
  rw[XF.set_ne _ _ (by omega),clrB_at,if_pos hk]
 have hK:Keeps X ((clrB X b cs.length).set (100 * b) (.bx true (some ⟨(β b).1,(β b).2,0⟩) cs)) β β:=(keeps_clrB X β b _).trans (keeps_set _ β _ _)
 refine R.change (fun k=>k=100 * b∨(100 * b+1≤k∧k < 100 * b+1+cs.length)) (fun k hk=>?_) hK (fun _ _ _=>.inl rfl) (fun _ _=>rfl) (fun _ _=>rfl) (fun t ht=>?_) (fun k hk=>?_) (fun k k' hk hk' hne b' o' h1 h2=>?_) (fun k hk b' o' h=>?_)
  (fun _ _ h=>h) (fun _ _ h=>.inl h) ((Frame.refl _ w).mono fun _ _ _ h=>h)
 ·rw[XF.set_ne _ _ (fun e=>hk (.inl e)),clrB_at,if_neg (fun e=>hk (.inr e))]
 ·have e:t=b:=by omega
  subst e
  rw[hself]
  have:=R.reg t
  rw[hr] at this
  simp only[RR] at this
  have h2:=this.2 trivial
  simp only[RR,CR]
  simpa using h2
 ·rcases hk with rfl | hk
  ·refine⟨?_,?_,fun h=>absurd h.1 (by omega),fun b' o' h=>?_,fun h=>by omega⟩
   ·rw[hself]
    simp only[Mem]
    exact MemL_iff.2 fun i c hi=>⟨(hat i c hi).1,(hat i c hi).2.2.1,by simp⟩
   ·rw[hself]
    simp only[Sep]
    refine⟨fun i hi hbad=>?_,SepL_iff.2 ⟨fun c hc'=>?_,fun i j u v hij hu hv b' o' g1 g2=>?_⟩⟩
    ·obtain⟨c,hc',hcb⟩:=fpL_iff.1 hbad
     obtain⟨i',hi'⟩:=List.getElem?_of_mem hc'
     by_cases hii:i=i'
     ·subst hii;exact (hat i c hi').2.1 hcb
     ·exact R.disj (100 * b+1+i) (100 * b+1+i') (by omega) _ _ (haddr i hi) (hin i' c hi' _ _ hcb)
    ·obtain⟨i',hi'⟩:=List.getElem?_of_mem hc'
     exact (hat i' c hi').2.2.2
    ·exact R.disj (100 * b+1+i) (100 * b+1+j) (by omega) b' o' (hin i u hu _ _ g1) (hin j v hv _ _ g2)
   ·rcases h with h | ⟨h,_⟩
    ·rw[hself] at h
     obtain⟨i,_,hi⟩:=hfp _ _ h
     exact (R.key _).live _ _ hi
    ·exact absurd h.1 (by omega)
  ·have h0:=hoth k hk
   refine⟨by rw[h0];simp[Mem],by rw[h0];simp[Sep],fun _ h=>absurd h0 h,fun b' o' h=>?_,fun _=>h0⟩
   rcases h with h | ⟨_,h,_⟩
   ·rw[h0] at h;simp[fp] at h
   ·exact absurd h0 h
 ·have only:∀ k,(k=100 * b∨(100 * b+1≤k∧k < 100 * b+1+cs.length))→kfp β ((clrB X b cs.length).set (100 * b) (.bx true (some ⟨(β b).1,(β b).2,0⟩) cs)) k b' o'→k=100 * b:=by
   intro k hk h
   rcases hk with e | hk
   ·exact e
   ·have h0:=hoth k hk
    rcases h with h | ⟨_,h,_⟩
    ·rw[h0] at h;simp[fp] at h
    ·exact absurd h0 h
  exact hne ((only k hk h1).trans (only k' hk' h2).symm)
 ·rcases hk with rfl | hk
  ·rcases h with h | ⟨h,_⟩
   ·rw[hself] at h
    obtain⟨i,hi,hi'⟩:=hfp _ _ h
    exact .inl ⟨_,.inr ⟨by omega,by omega⟩,hi'⟩
   ·exact absurd h.1 (by omega)
  ·have h0:=hoth k hk
   rcases h with h | ⟨_,h,_⟩
   ·rw[h0] at h;simp[fp] at h
   ·exact absurd h0 h
end
theorem RelT.up {C:Ctx}{X:XF Unit}{tm:Array Value}{w:World}(h:RelT C X tm w)(b:Nat)(hb:b < 10000)(hr:(X (100 * b)).2=.bptr b (X (100 * b+99)).1 0)(cs:List AU)(hn:cs.length≤98)
  (hcs:∀ i c,cs[i]?=some c→(X (100 * b+1+i)).2=c∧treeV c=true):RelT C ((clrB X b cs.length).set (100 * b) (.bx true () cs)) tm w:=by
 obtain⟨XL,β,I,rg,he,R,hs,ht⟩:=h
 subst he
 have hr':(XL (100 * b)).2=.bptr b (XL (100 * b+99)).1 0:=by
  simp only[erF] at hr
  revert hr
  cases (XL (100 * b)).2<;>simp [er]
 have hget:∀ i c,((List.range cs.length).map fun i=>(XL (100 * b+1+i)).2)[i]?=some c→i < cs.length∧c=(XL (100 * b+1+i)).2:=by
  intro i c hc
  have hi:i < cs.length:=by
   have:=(List.getElem?_eq_some_iff.1 hc).1
   simpa using this
  simp[hi] at hc
  exact⟨hi,hc.symm⟩
 have R':=R.up b hb hr' ((List.range cs.length).map fun i=>(XL (100 * b+1+i)).2) (by simpa using hn) (fun i c hc=>by
  obtain⟨hi,rfl⟩:=hget i c hc
  refine⟨rfl,?_⟩
  obtain⟨h1,h2⟩:=hcs i _ (List.getElem?_eq_getElem hi)
  rw[← er_treeV]
  have h1':er (XL (100 * b+1+i)).2=cs[i]:=h1
  rw[h1'];exact h2)
 rw[show ((List.range cs.length).map fun i=>(XL (100 * b+1+i)).2).length=cs.length by simp] at R'
 refine⟨_,β,_,rg,?_,R',hs,ht⟩
 rw[erF_set,erF_clrB]
 congr 1
 simp only[er,erL_eq,List.map_map]
 congr 1
 apply List.ext_getElem?
 intro i
 by_cases hi:i < cs.length
 ·have h1:er (XL (100 * b+1+i)).2=cs[i]:=(hcs i _ (List.getElem?_eq_getElem hi)).1
  simp[hi,h1]
 ·rw[List.getElem?_eq_none (by simpa using Nat.le_of_not_lt hi),List.getElem?_eq_none (by omega:cs.length≤i)]
def clrBL (L:SL)(b:Nat):Nat→SL
 | 0=>L
 | n+1=>setL (clrBL L b n) (100 * b+1+n) .non
theorem fnL_clrB (L:SL)(b:Nat):∀ n,clrB (fnL L) b n=fnL (clrBL L b n)
 | 0=>rfl
 | n+1=>by simp only[clrB,clrBL];rw[fnL_clrB L b n,fnL_set]
attribute [simp] clrBL
theorem boxFrom_at {X:XF Unit}{b:Nat}:∀ (n i j:Nat) (c:AU),(boxFrom X b i n)[j]?=some c→(X (100 * b+1+(i+j))).2=c
 | 0,i,j,c,h=>by simp[boxFrom] at h
 | n+1,i,j,c,h=>by
  have key:∀ v:AU,(X (100 * b+1+i)).2=v→(v :: boxFrom X b (i+1) n)[j]?=some c→(X (100 * b+1+(i+j))).2=c:=by
   intro v hv h
   cases j with
   | zero =>
    simp at h
    show (X (100 * b+1+i)).2=c
    rw[hv,h]
   | succ j =>
    have:=boxFrom_at n (i+1) j c (by simpa using h)
    rwa [show i+1+j=i+(j+1) by omega] at this
  simp only[boxFrom] at h
  split at h
  all_goals first | (simp at h;done) | skip
  exact key _ rfl h
section
variable {P:Program} {nt:Nat} {L:SL} {Q:Ex→SL→Prop}
def upL (L:SL)(b:Nat)(cs:List AU):SL:=setL (clrBL L b cs.length) (100 * b) (.bx true () cs)
attribute [simp] upL
theorem RelT.upL {C:Ctx}{tm:Array Value}{w:World}(h:RelT C (fnL L) tm w)(b n:Nat)(cs:List AU)(hb:b < 10000)(hr:(fnL L (100 * b)).2=.bptr b (fnL L (100 * b+99)).1 0)(hn:n≤98)
  (hcs:boxFrom (fnL L) b 0 n=cs) (ht:cs.all treeV=true):RelT C (fnL (upL L b cs)) tm w:=by
 have hlen:cs.length≤n:=by
  rw[← hcs]
  have:∀ m i,(boxFrom (fnL L) b i m).length≤m:=by
   intro m
   induction m with
   | zero=>intro i;simp[boxFrom]
   | succ m ih=>intro i;simp only[boxFrom];split<;>simp [ih]
  exact this n 0
 have:=h.up b hb hr cs (by omega) (fun i c hi=>⟨by
  rw[← hcs] at hi
  have:=boxFrom_at n 0 i c hi
  rwa [Nat.zero_add] at this,List.all_eq_true.1 ht c (List.mem_of_getElem? hi)⟩)
 rw[fnL_clrB,fnL_set] at this
 exact this
end
end Go.OT
namespace Go.OT
mutual
/-- What refers to a key of the list refers to the whole. -/
def rootR {L:Type}(ks:List Nat):AV L→Bool
 | .view k _ p _ _=>!ks.contains k || p.isEmpty
 | .ptr k _ p _=>!ks.contains k || p.isEmpty
 | .mv k _ p=>!ks.contains k || p.isEmpty
 | .agg cs=>rootRL ks cs
 | .tuple cs=>rootRL ks cs
 | .clos _ cs=>rootRL ks cs
 | _=>true
def rootRL {L:Type}(ks:List Nat):List (AV L)→Bool
 | []=>true
 | c :: cs=>rootR ks c && rootRL ks cs
end
def noR {L:Type}(ks:List Nat):AV L→Bool
 | .view k _ _ _ _=>!ks.contains k
 | .ptr k _ _ _=>!ks.contains k
 | _=>true
def hdSame {L:Type}:AV L→AV L→Bool
 | .sl true _ s n _,.sl true _ s' n' _=>decide (s=s') && decide (n=n')
 | .bx true _ _,.bx true _ _=>true
 | _,_=>false
def HdK (X X'':XF LO)(k:Nat):Prop:=∀ s l sz n,hd (X k).2=some (s,some l,sz,n)→∃ l',hd (X'' k).2=some (s,some l',sz,n)∧l'.b=l.b∧l'.o=l.o∧(s=true→l'=l)
def HdN (X X'':XF LO)(k:Nat):Prop:=∀ s sz n,hd (X k).2=some (s,none,sz,n)→hd (X'' k).2=some (s,none,sz,n)
mutual
theorem RR_comb {X X' X'':XF LO} {β:Nat→Nat × Nat}{ks:List Nat}(hA:∀ k,ks.contains k=false→X'' k=X' k)(hB:∀ k,ks.contains k=true→(X'' k).1=(X k).1∧HdK X X'' k∧HdN X X'' k)(h99:∀ b,ks.contains (100 * b+99)=false) :
  ∀ (v' v:AL) (x:Value),er v=er v'→rootR ks v'=true→RR X β v x→RR X' β v' x→RR X'' β v' x
 | .view k g p off len,v,x,he,hr,h,h'=>by
  have hv:v=.view k g p off len:=by cases v<;>simp_all [er]
  subst hv
  by_cases hk:ks.contains k=true
  ·simp only[rootR,hk,Bool.not_true,Bool.false_or,List.isEmpty_iff] at hr
   subst hr
   obtain⟨e1,e2,e3⟩:=hB k hk
   simp only[RR,getN,Option.bind_some] at h ⊢
   rw[e1]
   refine⟨h.1,fun hg=>?_⟩
   obtain⟨l,sz,n,h1,h2⟩:=h.2 hg
   cases l with
   | none=>exact ⟨none,sz,n,e3 _ _ _ h1,h2⟩
   | some l =>
    obtain⟨l',q1,_,_,q4⟩:=e2 _ _ _ _ h1
    rw[q4 rfl] at q1
    exact⟨some l,sz,n,q1,h2⟩
  ·have hk':ks.contains k=false:=by simpa using hk
   simp only[RR] at h' ⊢
   rw[hA k hk'];exact h'
 | .ptr k g p i,v,x,he,hr,h,h'=>by
  have hv:v=.ptr k g p i:=by cases v<;>simp_all [er]
  subst hv
  by_cases hk:ks.contains k=true
  ·simp only[rootR,hk,Bool.not_true,Bool.false_or,List.isEmpty_iff] at hr
   subst hr
   obtain⟨e1,e2,e3⟩:=hB k hk
   simp only[RR,getN,Option.bind_some] at h ⊢
   rw[e1]
   refine⟨h.1,fun hg=>?_⟩
   obtain⟨s,l,sz,n,h1,h2⟩:=h.2 hg
   obtain⟨l',q1,q2,q3,_⟩:=e2 _ _ _ _ h1
   exact⟨s,l',sz,n,q1,by rw[h2,q2,q3]⟩
  ·have hk':ks.contains k=false:=by simpa using hk
   simp only[RR] at h' ⊢
   rw[hA k hk'];exact h'
 | .mv k g p,v,x,he,hr,h,h'=>by
  have hv:v=.mv k g p:=by cases v<;>simp_all [er]
  subst hv
  by_cases hk:ks.contains k=true
  ·simp only[rootR,hk,Bool.not_true,Bool.false_or,List.isEmpty_iff] at hr
   subst hr
   obtain⟨e1,e2,e3⟩:=hB k hk
   simp only[RR,getN,Option.bind_some] at h ⊢
   rw[e1]
   refine⟨h.1,fun hg=>?_⟩
   obtain⟨l,h1,h2⟩:=h.2 hg
   obtain⟨l',q1,q2,_,_⟩:=e2 _ _ _ _ h1
   exact⟨l',q1,by rw[h2,q2]⟩
  ·have hk':ks.contains k=false:=by simpa using hk
   simp only[RR] at h' ⊢
   rw[hA k hk'];exact h'
 | .bptr b g i,v,x,he,hr,h,h'=>by
  simp only[RR] at h' ⊢
  rw[hA _ (h99 b)];exact h'
 | .agg cs',v,x,he,hr,h,h'=>by
  obtain⟨cs,rfl,hcs⟩:∃ cs,v=.agg cs∧erL cs=erL cs':=by cases v<;>simp_all [er]
  simp only[RR] at h h' ⊢
  obtain⟨xs,rfl,h1⟩:=h
  obtain⟨ys,e,h2⟩:=h'
  have:ys=xs:=by simpa using e.symm
  subst this
  exact⟨ys,rfl,RRL_comb hA hB h99 cs' cs ys hcs (by simpa [rootR] using hr) h1 h2⟩
 | .tuple cs',v,x,he,hr,h,h'=>by
  obtain⟨cs,rfl,hcs⟩:∃ cs,v=.tuple cs∧erL cs=erL cs':=by cases v<;>simp_all [er]
  simp only[RR] at h h' ⊢
  obtain⟨xs,rfl,h1⟩:=h
  obtain⟨ys,e,h2⟩:=h'
  have:ys=xs:=by simpa using e.symm
  subst this
  exact⟨ys,rfl,RRL_comb hA hB h99 cs' cs ys hcs (by simpa [rootR] using hr) h1 h2⟩
 | .clos f cs',v,x,he,hr,h,h'=>by
  obtain⟨cs,rfl,hcs⟩:∃ cs,v=.clos f cs∧erL cs=erL cs':=by cases v<;>simp_all [er]
  simp only[RR] at h h' ⊢
  obtain⟨xs,rfl,h1⟩:=h
  obtain⟨ys,e,h2⟩:=h'
  have:ys=xs:=by simpa using e.symm
  subst this
  exact⟨ys,rfl,RRL_comb hA hB h99 cs' cs ys hcs (by simpa [rootR] using hr) h1 h2⟩
 | .vptr l cs,v,x,_,_,_,h'=>by simpa [RR] using h'
 | .non,_,_,_,_,_,_=>by simp[RR]
 | .dead,_,_,_,_,_,_=>by simp[RR]
 | .sc c,v,x,_,_,_,h'=>by simpa [RR] using h'
 | .sl o l s n cs,v,x,_,_,_,h'=>by simpa [RR] using h'
 | .bx o l cs,v,x,_,_,_,h'=>by simpa [RR] using h'
 | .mp o l cs,v,x,_,_,_,h'=>by simpa [RR] using h'
theorem RRL_comb {X X' X'':XF LO} {β:Nat→Nat × Nat}{ks:List Nat}(hA:∀ k,ks.contains k=false→X'' k=X' k)(hB:∀ k,ks.contains k=true→(X'' k).1=(X k).1∧HdK X X'' k∧HdN X X'' k)(h99:∀ b,ks.contains (100 * b+99)=false) :
  ∀ (vs' vs:List AL) (xs:List Value),erL vs=erL vs'→rootRL ks vs'=true→RRL X β vs xs→RRL X' β vs' xs→RRL X'' β vs' xs
 | [],vs,xs,_,_,_,h'=>by simpa [RRL] using h'
 | v' :: vs',[],xs,he,_,_,_=>by simp[erL] at he
 | v' :: vs',v :: vs,xs,he,hr,h,h'=>by
  simp only[erL,List.cons.injEq] at he
  simp only[rootRL,Bool.and_eq_true] at hr
  simp only[RRL] at h h' ⊢
  obtain⟨y,ys,rfl,h1,h2⟩:=h
  obtain⟨z,zs,e,h3,h4⟩:=h'
  simp only[List.cons.injEq] at e
  obtain⟨rfl,rfl⟩:=e
  exact⟨y,ys,rfl,RR_comb hA hB h99 v' v y he.1 hr.1 h1 h3,RRL_comb hA hB h99 vs' vs ys he.2 hr.2 h2 h4⟩
end
mutual
theorem er_rootR (ks:List Nat):∀ v:AL,rootR ks (er v)=rootR ks v
 | .agg cs=>by simp only[er,rootR];exact er_rootRL ks cs
 | .tuple cs=>by simp only[er,rootR];exact er_rootRL ks cs
 | .clos _ cs=>by simp only[er,rootR];exact er_rootRL ks cs
 | .sl _ _ _ _ _ | .bx _ _ _ | .sc _ | .view _ _ _ _ _ | .ptr _ _ _ _ | .bptr _ _ _ | .vptr _ _ | .mp _ _ _ | .mv _ _ _ | .dead | .non=>by simp[er,rootR]
theorem er_rootRL (ks:List Nat):∀ vs:List AL,rootRL ks (erL vs)=rootRL ks vs
 | []=>rfl
 | v :: vs=>by simp only[erL,rootRL,er_rootR ks v,er_rootRL ks vs]
end
theorem er_noR (ks:List Nat)(v:AL):noR ks (er v)=noR ks v:=by cases v<;>simp [er,noR]
theorem hdSame_ok {X X':XF LO} {β:Nat→Nat × Nat}{k:Nat}{y:Value}(hs:hdSame (er (X k).2) (er (X' k).2)=true)(h:RR X β (X k).2 y)(h':RR X' β (X' k).2 y):HdK X X' k∧HdN X X' k:=by
 unfold HdK HdN
 revert hs h h'
 generalize (X k).2=v
 generalize (X' k).2=v'
 intro hs h h'
 cases v with
 | sl o l s n cs =>
  cases v' with
  | sl o' l' s' n' cs' =>
   cases o<;>cases o'<;>simp [er,hdSame] at hs
   obtain⟨rfl,rfl⟩:=hs
   simp only[RR] at h h'
   refine⟨fun s1 l1 sz1 n1 e=>?_,fun s1 sz1 n1 e=>?_⟩
   ·simp only[hd,Option.some.injEq,Prod.mk.injEq] at e ⊢
    obtain⟨rfl,rfl,rfl,rfl⟩:=e
    simp only[CR] at h
    subst h
    cases l' with
    | none=>simp [CR] at h'
    | some l' =>
     simp only[CR,Value.slice.injEq,Option.some.injEq,Addr.mk.injEq] at h'
     have e:l'=l1:=by
      cases l';cases l1;simp at h';simp;omega
     exact⟨l',⟨rfl,rfl,rfl,rfl⟩,by rw[e],by rw[e],fun _=>e⟩
   ·simp only[hd,Option.some.injEq,Prod.mk.injEq] at e ⊢
    obtain⟨rfl,rfl,rfl,rfl⟩:=e
    simp only[CR] at h
    have hy:y=.slice none 0 0:=by
     rcases h.1 with h | h
     ·exact h
     ·cases h.1
    subst hy
    cases l' with
    | none=>exact ⟨rfl,rfl,rfl,rfl⟩
    | some l'=>simp [CR] at h'
  | _=>cases o<;>simp [er,hdSame] at hs
 | bx o l cs =>
  cases v' with
  | bx o' l' cs' =>
   simp only[RR] at h h'
   refine⟨fun s1 l1 sz1 n1 e=>?_,fun s1 sz1 n1 e=>?_⟩
   ·simp only[hd,Option.some.injEq,Prod.mk.injEq] at e ⊢
    obtain⟨rfl,rfl,rfl,rfl⟩:=e
    simp only[CR] at h
    subst h
    cases l' with
    | none=>simp [CR] at h'
    | some l' =>
     simp only[CR,Value.pointer.injEq,Option.some.injEq,Addr.mk.injEq] at h'
     exact⟨l',⟨rfl,rfl,rfl,rfl⟩,h'.1.symm,h'.2.1.symm,fun e=>by cases e⟩
   ·simp only[hd,Option.some.injEq,Prod.mk.injEq] at e
    obtain⟨rfl,rfl,rfl,rfl⟩:=e
    simp[CR] at h
  | _=>simp [er,hdSame] at hs
 | _=>simp [er,hdSame] at hs
def ungen {L:Type}(ks:List Nat)(X M:XF L):XF L:=fun k=>if ks.contains k=true then ((X k).1,(M k).2) else M k
theorem erF_ungen (ks:List Nat)(X M:XF LO):erF (ungen ks X M)=ungen ks (erF X) (erF M):=by
 funext k
 simp only[erF,ungen]
 split<;>rfl
theorem RelL.regen {C:Ctx}{X M:XF LO} {β:Nat→Nat × Nat}{I I':ASet}{rg rg':Nat→Value}{w w':World}(R:RelL C X β I rg w)(R':RelL C M β I' rg' w')(ks:List Nat)(d:Nat)
  (h1:∀ k,ks.contains k=true→k % 100=0∧k ≠ 100 * d) (hrg:∀ t,t ≠ d→rg' t=rg t) (hd0:roots (M (100 * d)).2=[])
  (hsame:∀ k,ks.contains k=false→k ≠ 100 * d→er (X k).2=er (M k).2)
  (h2:∀ t,rootR ks (M (100 * t)).2=true) (h3:∀ k,isCell k→noR ks (M k).2=true) (h4:∀ k,ks.contains k=true→hdSame (er (X k).2) (er (M k).2)=true):RelL C (ungen ks X M) β I' rg' w':=by
 have hsnd:∀ k,(ungen ks X M k).2=(M k).2:=fun k=>by simp only[ungen];split<;>rfl
 have hA:∀ k,ks.contains k=false→ungen ks X M k=M k:=fun k hk=>by simp only[ungen,hk];simp
 have hB:∀ k,ks.contains k=true→(ungen ks X M k).1=(X k).1∧HdK X (ungen ks X M) k∧HdN X (ungen ks X M) k:=by
  intro k hk
  refine⟨by simp only[ungen,hk,if_true],?_⟩
  obtain⟨e1,e2⟩:=h1 k hk
  have hkt:k=100 * (k / 100):=by omega
  have r1:=R.reg (k / 100)
  have r2:=R'.reg (k / 100)
  rw[← hkt] at r1 r2
  rw[hrg _ (by omega)] at r2
  have:=hdSame_ok (h4 k hk) r1 r2
  unfold HdK HdN at this ⊢
  rw[hsnd];exact this
 have h99:∀ b,ks.contains (100 * b+99)=false:=fun b=>by
  cases e:ks.contains (100 * b+99) with
  | false=>rfl
  | true=>have:=(h1 _ e).1;omega
 have hkfp:∀ k b o,kfp β (ungen ks X M) k b o ↔ kfp β M k b o:=fun k b o=>by simp only[kfp,hsnd]
 refine⟨fun t=>?_,fun k=>?_,fun k k' hne b o g1 g2=>R'.disj k k' hne b o ((hkfp _ _ _).1 g1) ((hkfp _ _ _).1 g2),fun b o h=>⟨(R'.imm b o h).1,fun k hk=>(R'.imm b o h).2 k ((hkfp _ _ _).1 hk)⟩,fun k b o h=>R'.frK k b o ((hkfp _ _ _).1 h),R'.frI,R'.frI0,R'.fr,R'.gh,R'.gr⟩
 ·rw[hsnd]
  have r2:=R'.reg t
  by_cases htd:t=d
  ·subst htd;exact RR_rootless _ _ hd0 r2
  ·cases hk:ks.contains (100 * t) with
   | true =>
    have hn:=h4 _ hk
    revert r2 hn
    generalize (M (100 * t)).2=v
    intro r2 hn
    cases v with
    | sl o l s n cs=>simpa [RR] using r2
    | bx o l cs=>simpa [RR] using r2
    | _=>generalize er (X (100 * t)).2=z at hn;cases z<;>simp [er,hdSame] at hn
   | false=>exact RR_comb hA hB h99 _ _ _ (hsame _ hk (by omega)) (h2 t) (by rw[hrg t htd];exact R.reg t) r2
 ·have hk:=R'.key k
  refine⟨by rw[hsnd];exact hk.mem,by rw[hsnd];exact hk.sep,fun hc hn=>?_,fun b o h=>hk.live b o ((hkfp _ _ _).1 h),by rw[hsnd];exact hk.last⟩
  rw[hsnd] at hn ⊢
  obtain⟨⟨y,hy,hx⟩,hf⟩:=hk.cell hc hn
  refine⟨⟨y,hy,hx.imp id fun h=>⟨h.1,?_⟩⟩,hf⟩
  have hr:=h3 k hc
  obtain⟨hv,hrr⟩:=h
  revert hr hv hrr
  generalize (M k).2=v
  intro hr hv hrr
  cases v with
  | view k' g p off len =>
   simp only[noR,Bool.not_eq_true'] at hr
   simp only[RR] at hrr ⊢
   rw[hA _ hr];exact hrr
  | ptr k' g p i =>
   simp only[noR,Bool.not_eq_true'] at hr
   simp only[RR] at hrr ⊢
   rw[hA _ hr];exact hrr
  | bptr b g i =>
   simp only[RR] at hrr ⊢
   rw[hA _ (h99 b)];exact hrr
  | _=>simp [isVw] at hv
structure KeepOk (ks:List Nat) (d:Nat) (X M:XF Unit):Prop where
 k1:∀ k,ks.contains k=true→k % 100=0∧k ≠ 100 * d
 k2:∀ t,rootR ks (M (100 * t)).2=true
 k3:∀ k,isCell k→noR ks (M k).2=true
 k4:∀ k,ks.contains k=true→hdSame (X k).2 (M k).2=true
theorem RelL.keep {C:Ctx}{XL XL2:XF LO} {β:Nat→Nat × Nat}{I I':ASet}{rg rg':Nat→Value}{w w':World}(R:RelL C XL β I rg w)(R':RelL C XL2 β I' rg' w'){ls:List (Nat × List Nat)}{gs':List (Gh Unit)}{d:Nat}{r:AU}
  (hE:erF XL2=(backU (erF XL) (ls.zip gs')).set (100 * d) r) (hrg:∀ t,t ≠ d→rg' t=rg t) (hr:roots r=[]) (hk:KeepOk (ls.map (·.1)) d (erF XL) ((backU (erF XL) (ls.zip gs')).set (100 * d) r)) :
  ∃ XL3,erF XL3=ungen (ls.map (·.1)) (erF XL) ((backU (erF XL) (ls.zip gs')).set (100 * d) r)∧RelL C XL3 β I' rg' w':=by
 have hM:∀ k,er (XL2 k).2=(((backU (erF XL) (ls.zip gs')).set (100 * d) r) k).2:=fun k=>by rw[← hE];rfl
 refine⟨ungen (ls.map (·.1)) XL XL2,by rw[erF_ungen,hE],R.regen R' _ d hk.k1 hrg ?_ (fun k hk1 hk2=>?_) (fun t=>?_) (fun k hc=>?_) (fun k hk1=>?_)⟩
 ·rw[← er_roots,hM,XF.set_self];exact hr
 ·rw[hM,XF.set_ne _ _ hk2,backU_ne (fun e he h=>?_)]
  ·rfl
  ·have:=(List.of_mem_zip (a:=e.1) (b:=e.2) he).1
   have hin:(ls.map (·.1)).contains k=true:=by
    rw[List.contains_iff_mem,← h];exact List.mem_map_of_mem this
   rw[hin] at hk1;cases hk1
 ·rw[← er_rootR,hM];exact hk.k2 t
 ·rw[← er_noR,hM];exact hk.k3 k hc
 ·rw[hM];exact hk.k4 k hk1
theorem ok_callK {C:Ctx}{o:Oper}{X:XF Unit}{ls:List (Nat × List Nat)}{gs gs':List (Gh Unit)}{azs:List AU}{r:AU}{own:Bool}{d:Nat}{f:FuncId}{xs:Array Operand}{tys:Array TypeId}{ss:List Nat}{cs:List COd}
  (hdst:o.dst=some d) (hlt:d < C.nt) (hin:opsIn C.nt o=true) (hop:o.op=.call ⟨.value (.func f),xs,tys⟩) (hcs:argsOd C.nt ss xs.toList=some cs)
  (hgs:ls.mapM (ghAt X)=some gs) (hnd:(ls.map (·.1)).Nodup) (has:trArgs X ls own cs=some azs) (hlen:xs.size≤9000)
  (hrun:∀ args w,(callFunc f args).run C.P w=.ok (.enter f args) w) (hfn:Fn C.P f gs azs gs' r) (hok:ghsOk gs gs'=true) (himm:own=true→gs'.all ghImm=true∧noImm r=true) (hroot:roots r=[]) (hkeep:KeepOk (ls.map (·.1)) d X ((backU X (ls.zip gs')).set (100 * d) r)) :
  OpOk C o X (ungen (ls.map (·.1)) X ((backU X (ls.zip gs')).set (100 * d) r)):=by
 rintro a w hdef ⟨XL,β,I,rg,he,R,hs,ht⟩ K Q hK
 subst he
 have L:=Loans.of R hgs hnd
 obtain⟨las,e1,e2,e3⟩:=trArgs_ok R (calleeOk R L own) ss xs.toList cs azs hcs has
 have hxs:las.length=xs.size:=by simpa using e2
 have hval:∀ t,t < las.length→(xs.map (evR rg)).getD t undef=evR rg (xs.toList.getD t (.const undef)):=by
  intro t htl
  simp[Array.getD_eq_getD_getElem?,List.getD_eq_getElem?_getD,show t < xs.size by omega]
 have R0:=call_rel (own:=own) (args:=xs.map (evR rg)) R L (las:=las) (by simp[hxs]) (fun t la h=>by
  have hlt':t < las.length:=(List.getElem?_eq_some_iff.1 h).1
  have hx:xs.toList[t]?=some (xs.toList[t]'(by simpa using hxs ▸ hlt')):=List.getElem?_eq_getElem _
  rw[hval t hlt',List.getD_eq_getElem?_getD,hx]
  exact e3 t la _ h hx)
 have hcall:=hfn (CC C XL β I w ls own (xs.map (evR rg))) (XC XL ls las) (βC XL ls) (IC XL β I ls own) (rgC XL ls (xs.map (evR rg))) w (xs.map (evR rg)) rfl (by rw[erF_XC L,e1]) R0
  (by rw[← e1];simp[hxs]) (fun t htl=>by
   rw[← e1] at htl
   simp only[List.length_map,hxs] at htl
   simp only[rgC,if_pos (show t < 10000 by omega)])
 have hexec:(execOp (evR rg) o).run C.P w=.ok (.enter f (xs.map (evR rg))) w:=by
  simp only[execOp,hop,resolve,evR,Deferred.ofValue]
  simp only[Sem.run_bind,Sem.run_pure,Result.andThen_ok,invoke,Array.append_empty,Array.empty_append,hrun]
 unfold Oper.wp
 rw[evR_of hin ht,hexec,Oper.upon_enter]
 refine Calls.mono hcall fun e w' hq=>?_
 obtain⟨x,XL',β',I',rg',rfl,R',hx,hF⟩:=hq
 obtain⟨XL2,I2,f1,f2⟩:=call_back R L R' hF hok himm hroot (d:=d) (by have:=C.hnt;omega)
 obtain⟨XL3,f1,f2⟩:=R.keep f2 f1 (fun t ht=>if_neg ht) hroot hkeep
 refine hK _ _ (by simp[Act.put,hdst,hdef]) ⟨XL3,β,I2,_,f1,f2,by simp[Act.put,hdst,hs],fun t htl=>?_⟩
 simp only[Act.put,hdst]
 by_cases e:t=d
 ·subst e;simp[Array.getD_eq_getD_getElem?,hs,hlt];exact hx.symm
 ·simp only[e,if_false]
  rw[← ht t htl]
  simp[Array.getD_eq_getD_getElem?,Array.getElem?_setIfInBounds_ne (Ne.symm e)]
section
variable {P:Program} {nt:Nat} {L:SL}
def ungenL (ks:List Nat)(X:XF Unit):SL→SL
 | []=>[]
 | (k,g,v) :: l=>(k,(if ks.contains k=true then (X k).1 else g),v) :: ungenL ks X l
theorem fnL_ungen (ks:List Nat)(X:XF Unit):∀ M:SL,(∀ k,ks.contains k=true→(fnL M k).2 ≠ .non)→ungen ks X (fnL M)=fnL (ungenL ks X M)
 | M,h=>by
  have key:∀ (M:SL) (k:Nat),fnL (ungenL ks X M) k=if ks.contains k=true∧M.any (fun e=>e.1 == k)=true then ((X k).1,(fnL M k).2) else fnL M k:=by
   intro M
   induction M with
   | nil=>intro k;simp[ungenL]
   | cons e M ih =>
    obtain⟨k',g,v⟩:=e
    intro k
    simp only[ungenL,fnL,List.any_cons,ih]
    by_cases hk:k=k'
    ·subst hk
     simp only[if_true,beq_self_eq_true,Bool.true_or,and_true]
     split<;>rfl
    ·have hb:(k' == k)=false:=by simpa using fun e=>hk e.symm
     simp only[hk,if_false,hb,Bool.false_or]
  funext k
  rw[key]
  simp only[ungen]
  by_cases hk:ks.contains k=true
  ·have hany:M.any (fun e=>e.1 == k)=true:=by
    cases e:M.any (fun e=>e.1 == k) with
    | true=>rfl
    | false =>
     exfalso
     apply h k hk
     have:∀ (M:SL),M.any (fun e=>e.1 == k)=false→fnL M k=(0,.non):=by
      intro M
      induction M with
      | nil=>intro _;rfl
      | cons e M ih =>
       obtain⟨k',g,v⟩:=e
       intro he
       simp only[List.any_cons,Bool.or_eq_false_iff] at he
       have hne:k ≠ k':=fun e=>by subst e;simp at he
       simp only[fnL,hne,if_false]
       exact ih he.2
     rw[this M e]
   rw[if_pos hk,if_pos ⟨hk,hany⟩]
  ·rw[if_neg hk,if_neg (fun h=>hk h.1)]
def stayB (ks:List Nat)(d:Nat)(L M:SL):Bool :=
 ks.all (fun k=>decide (k % 100=0) && !decide (k=100 * d) && hdSame (fnL L k).2 (fnL M k).2) && M.all fun e=>rootR ks e.2.2 && (decide (e.1 % 100=0) || noR ks e.2.2)
theorem fnL_mem (M:SL)(k:Nat):(fnL M k).2=.non∨∃ e ∈ M,e.1=k∧(fnL M k).2=e.2.2:=by
 induction M with
 | nil=>left;rfl
 | cons e M ih =>
  obtain⟨k',g,v⟩:=e
  simp only[fnL]
  by_cases hk:k=k'
  ·subst hk;right;exact⟨_,List.mem_cons_self,rfl,by simp⟩
  ·simp only[hk,if_false]
   rcases ih with h | ⟨e,he,h1,h2⟩
   ·exact .inl h
   ·exact .inr ⟨e,List.mem_cons_of_mem _ he,h1,h2⟩
theorem stayB_ok {ks:List Nat}{d:Nat}{M:SL}(h:stayB ks d L M=true):KeepOk ks d (fnL L) (fnL M)∧∀ k,ks.contains k=true→(fnL M k).2 ≠ .non:=by
 simp only[stayB,Bool.and_eq_true,List.all_eq_true,Bool.or_eq_true,decide_eq_true_eq,Bool.not_eq_true',decide_eq_false_iff_not] at h
 obtain⟨h1,h2⟩:=h
 have hk:∀ k,ks.contains k=true→_:=fun k hk=>h1 k (List.contains_iff_mem.1 hk)
 refine⟨⟨fun k h=>⟨(hk k h).1.1,(hk k h).1.2⟩,fun t=>?_,fun k hc=>?_,fun k h=>(hk k h).2⟩,fun k h e=>?_⟩
 ·rcases fnL_mem M (100 * t) with h | ⟨e,he,_,h⟩
  ·rw[h];rfl
  ·rw[h];exact (h2 e he).1
 ·rcases fnL_mem M k with h | ⟨e,he,e1,h⟩
  ·rw[h];rfl
  ·rw[h]
   rcases (h2 e he).2 with q | q
   ·rw[e1] at q;exact absurd q hc.1
   ·exact q
 ·have:=(hk k h).2
  rw[e] at this
  generalize (fnL L k).2=z at this
  cases z<;>simp [hdSame] at this
theorem RL.callK {K:SL→Prop}{rest:List Sg}{d f:Nat}{cs:List COd}{gs gs':List (Gh Unit)}{azs:List AU}{r:AU}(own:Bool)(ls:List (Nat × List Nat))(hfn:FnC P f gs azs gs' r)(hgs:ls.mapM (ghAt (fnL L))=some gs)(hnd:(ls.map (·.1)).Nodup)
  (has:trArgs (fnL L) ls own cs=some azs) (hs:sideOk own gs gs' r=true) (hk:stayB (ls.map (·.1)) d L (setL (backL L (ls.zip gs')) (100 * d) r)=true)
  (h:RL P nt rest (ungenL (ls.map (·.1)) (fnL L) (setL (backL L (ls.zip gs')) (100 * d) r)) K):RL P nt (.call none d f cs :: rest) L K :=
 RL.cons (it:=.call none d f cs) (rest:=rest) rfl (fun C ops i o hP hn hi hit=>by
  obtain⟨g0,h1,h2,h3,xs,ts,ss,e1,e2,e3⟩:=itOf_call hit
  simp only[sideOk,Bool.and_eq_true,Bool.or_eq_true,Bool.not_eq_true',List.isEmpty_iff] at hs
  obtain⟨⟨s1,s2⟩,s3⟩:=hs
  subst hP hn
  have s2':own=true→gs'.all ghImm=true∧noImm r=true:=by
   intro h
   rcases s2 with s2 | s2
   ·rw[s2] at h;cases h
   ·exact s2
  obtain⟨k1,k2⟩:=stayB_ok hk
  have e:fnL (setL (backL L (ls.zip gs')) (100 * d) r)=(backU (fnL L) (ls.zip gs')).set (100 * d) r:=by rw[← fnL_set,fnL_back]
  have:=ok_callK h1 h2 h3 e1 e3 hgs hnd has e2 hfn.2 hfn.1 s1 s2' s3 (by rw[← e];exact k1)
  rw[← e,fnL_ungen _ _ _ k2] at this
  exact SOk.op hi (compGd_none g0) this) h
end
attribute [simp] rootR rootRL noR hdSame ungenL stayB
end Go.OT
namespace Go.OT
section
variable {P:Program} {nt:Nat} {L:SL} {Q:Ex→SL→Prop}
def wipeB (k:Nat)(L:SL):Bool:=decide (k % 100=0) && (!decide (k=100 * H) && ((roots (fnL L (100 * H)).2).isEmpty && L.all fun e=>rootR [k] e.2.2 && (decide (e.1 % 100=0) || noR [k] e.2.2)))
end
attribute [simp] wipeB
end Go.OT
namespace Go.OT
theorem RelT.wipe1 {C:Ctx}{X:XF Unit}{tm:Array Value}{w:World}(h:RelT C X tm w)(k:Nat)(p:List Nat)(hk:k % 100=0)(hkH:k ≠ 100 * H)(hH:(X (100 * H)).2=.non){N:AU}(hN:getN (X k).2 p=some N)(hn:N.isNode=true)(ho:ownQ (X k).2 p=true)
  (hsm:hdSame (X k).2 (setN (X k).2 p .dead)=true) (h2:∀ t,rootR [k] (X (100 * t)).2=true) (h3:∀ k',isCell k'→noR [k] (X k').2=true):RelT C (X.upd k (setN (X k).2 p .dead)) tm w:=by
 obtain⟨XL,β,I,rg,he,R,hs,ht⟩:=h
 subst he
 obtain⟨NL,hNL,hNe⟩:∃ NL,getN (XL k).2 p=some NL∧er NL=N:=by
  have:=hN
  simp only[erF,er_getN] at this
  cases hc:getN (XL k).2 p with
  | none=>simp [hc] at this
  | some NL =>
   rw[hc] at this
   exact⟨NL,rfl,by simpa using this⟩
 have hnL:NL.isNode=true:=by rw[← hNe,er_isNode] at hn;exact hn
 have hoL:ownQ (XL k).2 p=true:=by rw[← er_ownQ];exact ho
 have hHL:(XL (100 * H)).2=.non:=by
  have:er (XL (100 * H)).2=.non:=hH
  revert this
  generalize (XL (100 * H)).2=v
  intro h;cases v<;>simp [er] at h;rfl
 have R1:=R.takeP k H (by decide) p hkH (v:=.non) (x:=rg H) hNL hnL hoL (by simp[Mem]) (by simp[Sep]) (fun b o hb=>by simp[fp] at hb) (by simp[RR])
 have erg:(fun s=>if s=H then rg H else rg s)=rg:=by funext s;split<;>simp_all
 rw[erg] at R1
 have hM1:∀ j,j ≠ k→((XL.set k (setN (XL k).2 p .dead)).set (100 * H) .non) j=XL j:=fun j hj=>by
  by_cases e:j=100 * H
  ·subst e
   rw[XF.set_self,XF.set_ne _ _ hj]
   have:XL (100 * H)=((XL (100 * H)).1,.non):=by rw[← hHL]
   rw[this];rfl
  ·rw[XF.set_ne _ _ e,XF.set_ne _ _ hj]
 have hM2:(((XL.set k (setN (XL k).2 p .dead)).set (100 * H) .non) k).2=setN (XL k).2 p .dead:=by
  rw[XF.set_ne _ _ hkH,XF.set_self]
 have hsmL:hdSame (er (XL k).2) (er (setN (XL k).2 p .dead))=true:=by rw[er_setN];exact hsm
 have hroot:rootR [k] (setN (XL k).2 p .dead)=true:=by
  rw[← er_rootR]
  revert hsmL
  generalize er (setN (XL k).2 p .dead)=z
  generalize er (XL k).2=y
  intro h
  cases y<;>cases z<;>simp [hdSame] at h<;>rfl
 have R2:=R.regen R1 [k] H (fun j hj=>by simp at hj;subst hj;exact⟨hk,hkH⟩) (fun _ _=>rfl) (by
   rw[hM1 _ (Ne.symm hkH),hHL];rfl) (fun j hj _=>by
   rw[hM1 j (by intro e;subst e;simp at hj)]) (fun t=>by
   by_cases e:100 * t=k
   ·rw[e,hM2];exact hroot
   ·rw[hM1 _ e,← er_rootR];exact h2 t) (fun j hj=>by
   have:j ≠ k:=by intro e;subst e;unfold isCell at hj;omega
   rw[hM1 _ this,← er_noR];exact h3 j hj) (fun j hj=>by
   simp at hj;subst hj;rw[hM2];exact hsmL)
 refine⟨_,β,I,rg,?_,R2,hs,ht⟩
 rw[erF_ungen]
 funext j
 by_cases e:j=k
 ·subst e
  simp only[ungen,List.contains_cons,beq_self_eq_true,Bool.true_or,if_true,XF.upd_self,erF]
  rw[hM2,er_setN];rfl
 ·have hc:[k].contains j=false:=by simp[e]
  simp only[ungen,hc,Bool.false_eq_true,if_false,XF.upd_ne _ _ e,erF,hM1 j e]
section
variable {P:Program} {nt:Nat} {L:SL} {Q:Ex→SL→Prop}
def nodQ:Option AU→Bool
 | some N=>N.isNode
 | none=>false
@[simp] theorem nodQ_some (N:AU):nodQ (some N)=N.isNode:=rfl
def wipe1B (k:Nat)(p:List Nat)(L:SL):Bool:=decide (k % 100=0) && (!decide (k=100 * H) && ((fnL L (100 * H)).2.isNon && (nodQ (getN (fnL L k).2 p) && (ownQ (fnL L k).2 p && (hdSame (fnL L k).2 (setN (fnL L k).2 p .dead) && L.all fun e=>rootR [k] e.2.2 && (decide (e.1 % 100=0) || noR [k] e.2.2))))))
theorem RelT.wipe1L {C:Ctx}{tm:Array Value}{w:World}(h:RelT C (fnL L) tm w)(k:Nat)(p:List Nat)(hB:wipe1B k p L=true):RelT C (fnL (updL L k (setN (fnL L k).2 p .dead))) tm w:=by
 simp only[wipe1B,Bool.and_eq_true,decide_eq_true_eq,Bool.not_eq_true',decide_eq_false_iff_not,List.all_eq_true,Bool.or_eq_true] at hB
 obtain⟨a1,a2,a3,a5,a6,a7,a4⟩:=hB
 have a3':(fnL L (100 * H)).2=.non:=by
  revert a3
  generalize (fnL L (100 * H)).2=v
  intro h;cases v<;>simp [AV.isNon] at h;rfl
 obtain⟨N,hN,hn⟩:∃ N,getN (fnL L k).2 p=some N∧N.isNode=true:=by
  revert a5
  generalize getN (fnL L k).2 p=o
  intro h
  cases o with
  | none=>simp [nodQ] at h
  | some N=>exact ⟨N,rfl,h⟩
 have:=h.wipe1 k p a1 a2 a3' hN hn a6 a7 (fun t=>?_) (fun k' hc=>?_)
 ·rwa [fnL_upd] at this
 ·rcases fnL_mem L (100 * t) with h | ⟨e,he,_,h⟩
  ·rw[h];rfl
  ·rw[h];exact (a4 e he).1
 ·rcases fnL_mem L k' with h | ⟨e,he,e1,h⟩
  ·rw[h];rfl
  ·rw[h]
   rcases (a4 e he).2 with q | q
   ·rw[e1] at q;exact absurd q hc.1
   ·exact q
theorem WL.wipe1 {cc:Cd}(k:Nat)(p:List Nat)(hB:wipe1B k p L=true)(h:WL P nt cc (updL L k (setN (fnL L k).2 p .dead)) Q):WL P nt cc L Q:=by
 intro C code hP hn hc a w hd hR
 exact h C code hP hn hc a w hd (hR.wipe1L k p hB)
theorem RL.wipe1 {K:SL→Prop}{segs:List Sg}(k:Nat)(p:List Nat)(hB:wipe1B k p L=true)(h:RL P nt segs (updL L k (setN (fnL L k).2 p .dead)) K):RL P nt segs L K:=by
 intro C ops idx hP hnt hc a w Q hd hR hK
 exact h C ops idx hP hnt hc a w Q hd (hR.wipe1L k p hB) hK
theorem DL.callLF {K:SL→Fs→Prop}{rest:List Sg}{d f:Nat}{cs:List COd}{gs gs':List (Gh Unit)}{vs:List AU}{r:AU}{fs:Fs}(own:Bool)(ls:List (Nat × List Nat))(hfn:FnC P f gs vs gs' r)(hgs:ls.mapM (ghAt (fnL L))=some gs)(hnd:(ls.map (·.1)).Nodup)
  (has:trArgs (fnL L) ls own cs=some vs) (hs:sideOk own gs gs' r=true) (hcl:cleanL (setL (backL L (ls.zip gs')) (100 * d) (lend r))=true)
  (h:DL P nt rest (setL (backL L (ls.zip gs')) (100 * d) (lend r)) ((2 * d :: (ls.map (fun e=>unitK e.1) ++ (uOs (fnL L) cs ++ luOs (fnL L) own cs)),2 * d :: ls.map (fun e=>unitK e.1)) :: fs) K):DL P nt (.call none d f cs :: rest) L fs K:=by
 refine DL.cons (it:=.call none d f cs) (rest:=rest) (by simp[flatS]) (fun C ops i o hP hn hc0 hi hit=>?_) h
 have hzip:∀ e ∈ ls.zip gs',e.1 ∈ ls:=fun e he=>(List.of_mem_zip (a:=e.1) (b:=e.2) he).1
 have hcx:=cleanL_ok hcl
 have e0:fnL (setL (backL L (ls.zip gs')) (100 * d) (lend r))=(backU (fnL L) (ls.zip gs')).set (100 * d) (lend r):=by rw[← fnL_set,fnL_back]
 rw[e0] at hcx ⊢
 refine⟨fun u hu=>?_,fun k hk=>?_,hcx,fun X hX ha=>?_⟩
 ·simp only[List.mem_cons,List.mem_append] at hu ⊢
  rcases hu with hu | hu
  ·exact .inl hu
  ·exact .inr (.inl hu)
 ·have h1:k ≠ 100 * d:=fun e=>hk (by rw[e,unit_reg];simp)
  rw[XF.set_ne _ _ h1]
  refine backU_ne fun e he e'=>hk ?_
  rw[← e']
  exact List.mem_cons_of_mem _ (List.mem_map.2 ⟨e.1,hzip e he,rfl⟩)
 ·have hls:∀ e ∈ ls,X e.1=fnL L e.1:=fun e he=>ha e.1 (by
   simp only[List.mem_cons,List.mem_append]
   exact .inr (.inl (List.mem_map.2 ⟨e,he,rfl⟩)))
  have hzs:∀ e ∈ ls.zip gs',X e.1.1=fnL L e.1.1:=fun e he=>hls _ (hzip e he)
  have hag:agr (uOs (fnL L) cs ++ luOs (fnL L) own cs) X (fnL L):=fun k hk=>ha k (by
   simp only[List.mem_cons,List.mem_append] at hk ⊢
   exact .inr (.inr hk))
  have hd0:X (100 * d)=fnL L (100 * d):=ha _ (by rw[unit_reg];simp)
  have hsk0:=sok_call (ls:=ls) (gs:=gs) (gs':=gs') own hP hn hi hit hfn (by rw[mapM_agr hls];exact hgs) hnd (by rw[trArgs_agr hag];exact has) hs
  have hsk:SOk C ops i X ((backU X (ls.zip gs')).set (100 * d) (lend r)):=hsk0.weak fun tm w hR=>by
   have h2:=hR.freeze (100 * d)
   have e:((backU X (ls.zip gs')).set (100 * d) r).upd (100 * d) (lend (((backU X (ls.zip gs')).set (100 * d) r) (100 * d)).2)=(backU X (ls.zip gs')).set (100 * d) (lend r):=by
    funext j
    by_cases ej:j=100 * d
    ·subst ej;simp[XF.upd_self,XF.set_self,XF.set,XF.upd]
    ·rw[XF.upd_ne _ _ ej,XF.set_ne _ _ ej,XF.set_ne _ _ ej]
   rw[e] at h2
   exact h2
  have:mix (2 * d :: ls.map (fun e=>unitK e.1)) ((backU (fnL L) (ls.zip gs')).set (100 * d) (lend r)) X=(backU X (ls.zip gs')).set (100 * d) (lend r):=by
   funext k
   unfold mix
   by_cases hk:unitK k ∈ 2 * d :: ls.map (fun e=>unitK e.1)
   ·rw[if_pos hk]
    have hXk:X k=fnL L k:=by
     rcases List.mem_cons.1 hk with hk | hk
     ·rw[← unit_reg d] at hk
      rw[unitK_inj hk]
      exact hd0
     ·obtain⟨e,he,hke⟩:=List.mem_map.1 hk
      rw[← unitK_inj hke]
      exact hls e he
    have hb:=backU_agr hzs k hXk
    by_cases e:k=100 * d
    ·subst e
     simp only[XF.set,if_true,hb]
    ·rw[XF.set_ne _ _ e,XF.set_ne _ _ e,hb]
   ·rw[if_neg hk]
    have h1:k ≠ 100 * d:=fun e=>hk (by rw[e,unit_reg];simp)
    rw[XF.set_ne _ _ h1,backU_ne fun e he e'=>hk (by
     rw[← e']
     exact List.mem_cons_of_mem _ (List.mem_map.2 ⟨e.1,hzip e he,rfl⟩))]
  rw[this]
  exact hsk
end
attribute [simp] wipe1B
end Go.OT
namespace Go.OT
theorem DStep.conv {C:Ctx}{ops:Array Oper}{i:Nat}{R D:List Nat}{Y Y':XF Unit}(h:DStep C ops i R D Y Y')(k:Nat)(hk:unitK k ∈ D)(hh:handB k=false)(v:AU)(hr:∀ r ∈ roots v,r ∈ roots (Y' k).2)
  (hc:∀ (X:XF Unit) tm w,X k=Y' k→RelT C X tm w→RelT C (X.upd k v) tm w):DStep C ops i R D Y (Y'.upd k v):=by
 have hu:∀ j,(Y'.upd k v) j=if j=k then ((Y' k).1,v) else Y' j:=fun j=>by
  by_cases e:j=k
  ·subst e;rw[XF.upd_self];simp
  ·rw[XF.upd_ne _ _ e];simp[e]
 refine⟨h.sub,fun j hj=>?_,fun j=>?_,fun X hX ha=>?_⟩
 ·have e:j ≠ k:=fun e=>hj (e ▸ hk)
  rw[XF.upd_ne _ _ e];exact h.out j hj
 ·rw[hu]
  by_cases e:j=k
  ·subst e
   simp only[if_true]
   exact⟨fun z=>(by rw[hh] at z;cases z),fun r hr'=>(h.cl j).2 r (hr r hr')⟩
  ·simp only[e,if_false];exact h.cl j
 ·refine (h.step X hX ha).weak fun tm w r=>?_
  have hm:(mix D Y' X) k=Y' k:=by unfold mix;rw[if_pos hk]
  have:=hc (mix D Y' X) tm w hm r
  have e:mix D (Y'.upd k v) X=(mix D Y' X).upd k v:=by
   funext j
   by_cases e:j=k
   ·subst e;rw[XF.upd_self];simp only[mix,hk,if_true,XF.upd_self]
   ·rw[XF.upd_ne _ _ e];simp only[mix,XF.upd_ne _ _ e]
  rw[e];exact this
section
variable {P:Program} {nt:Nat}
theorem WL.eqL {cc:Cd}{L L':SL}{Q:Ex→SL→Prop}(e:L=L')(h:WL P nt cc L' Q):WL P nt cc L Q:=e ▸ h
theorem RL.eqL {segs:List Sg}{L L':SL}{K:SL→Prop}(e:L=L')(h:RL P nt segs L' K):RL P nt segs L K:=e ▸ h
theorem DL.cut {L:SL}{fs:Fs}{K:SL→Fs→Prop}{segs segs':List Sg}(e:flatS segs=flatS segs')(h:DL P nt segs' L fs K):DL P nt segs L fs K:=by
 intro C ops i n hP hn hc0 hc
 exact h C ops i n hP hn hc0 (by rw[← e];exact hc)
end
end Go.OT
namespace Go.OT
section
variable {C:Ctx} {X:XF LO} {β:Nat→Nat × Nat} {I:ASet} {rg:Nat→Value} {w:World}
theorem RelL.down (R:RelL C X β I rg w)(r b:Nat)(hb:b < 10000)(l:Loc)(cs:List AL)(hX:(X (100 * r)).2=.bx true (some l) cs)(hp:(X (100 * b)).2=.ptr (100 * r) (X (100 * r)).1 [] 0)(hn:cs.length≤98) :
  RelL C (((X.box b cs).set (100 * r) (.bptr b ((X (100 * b+99)).1+1) 0)).set (100 * b) (.bptr b ((X (100 * b+99)).1+1) 0)) (fun j=>if j=b then (l.b,l.o) else β j) I rg w:=by
 have hk:=R.key (100 * r)
 have hm:=hk.mem
 have hs:=hk.sep
 have hr:=R.reg r
 have hrb:=R.reg b
 rw[hX] at hm hs hr
 rw[hp] at hrb
 simp only[Mem] at hm
 simp only[Sep] at hs
 simp only[RR,CR] at hr
 simp only[RR] at hrb
 have hrb:=hrb.2 trivial
 rw[show (getN (X (100 * r)).2 [])=some (X (100 * r)).2 from rfl,hX] at hrb
 simp only[Option.bind_some,Go.OT.hd,Option.some.injEq,Prod.mk.injEq] at hrb
 obtain⟨s0,l0,z0,n0,⟨_,e1,_,_⟩,hrb⟩:=hrb
 subst e1
 have hmem:=MemL_iff.1 hm
 have hsep:=SepL_iff.1 hs.2
 have hfpX:∀ b' o',fp (.bx true (some l) cs) b' o'→kfp β X (100 * r) b' o':=fun b' o' h=>.inl (by rw[hX];exact h)
 have hown:∀ i,i < cs.length→kfp β X (100 * r) l.b (l.o+i):=fun i hi=>hfpX _ _ (by simp only[fp];exact .inl ⟨trivial,by omega,by omega⟩)
 have hold:∀ c b' o',c ∈ cs→fp c b' o'→kfp β X (100 * r) b' o':=fun c b' o' hc h=>hfpX _ _ (by simp only[fp];exact .inr (fpL_iff.2 ⟨c,hc,h⟩))
 generalize hβ':(fun j=>if j=b then (l.b,l.o) else β j)=β'
 have hβb:β' b=(l.b,l.o):=by subst hβ';simp
 have hβn:∀ j,j ≠ b→β' j=β j:=by intro j hj;subst hβ';simp[hj]
 have hKY:Keeps X (X.box b cs) β β':=by
  refine⟨fun k=>?_,fun k he p a ha=>?_,fun b' he=>?_⟩
  ·simp only[XF.box];split
   ·split
    ·simp
    ·exact nx_ge _
   ·exact Nat.le_refl _
  ·simp only[XF.box] at he ⊢
   split at he
   ·rename_i hc
    rw[if_pos hc]
    split at he
    ·omega
    ·have:=getN_hd_isNode ha
     have e1:nx (X k)=(X k).1+1:=by unfold nx;rw[this];rfl
     simp only[e1] at he
     omega
   ·rename_i hc;rw[if_neg hc];exact ha
  ·by_cases hbb:b'=b
   ·subst hbb
    simp only[XF.box] at he
    rw[if_pos ⟨by omega,by omega⟩,if_pos (by omega)] at he
    omega
   ·exact hβn b' hbb
 generalize hg':(X (100 * b+99)).1+1=g'
 generalize hZ:((X.box b cs).set (100 * r) (.bptr b g' 0)).set (100 * b) (.bptr b g' 0)=Z
 have hK:Keeps X Z β β':=by
  rw[← hZ]
  exact (hKY.trans (keeps_set _ β' (100 * r) _)).trans (keeps_set _ β' (100 * b) _)
 have hcellZ:∀ k,k % 100 ≠ 0→Z k=(X.box b cs) k:=fun k hk=>by
  rw[← hZ,XF.set_ne _ _ (by omega),XF.set_ne _ _ (by omega)]
 have hkey:∀ i,i < 98→(Z (100 * b+1+i)).2=cs.getD i .non:=by
  intro i hi
  rw[hcellZ _ (by omega)]
  simp only[XF.box]
  rw[if_pos ⟨by omega,by omega⟩,if_neg (by omega)]
  simp only[show (100 * b+1+i) % 100 - 1=i by omega]
 have hform:∀ k,k / 100=b→k % 100 ≠ 0→k % 100 ≠ 99→∃ i,i < 98∧k=100 * b+1+i:=fun k h1 h2 h3=>⟨k % 100 - 1,by omega,by omega⟩
 have hZ99:Z (100 * b+99)=(g',.non):=by
  rw[hcellZ _ (by omega)]
  simp only[XF.box]
  rw[if_pos ⟨by omega,by omega⟩,if_pos (by omega),hg']
 have h99:(Z (100 * b+99)).2=.non:=by rw[hZ99]
 have hZr:∀ t,t=r∨t=b→(Z (100 * t)).2=.bptr b g' 0:=by
  rintro t ht
  rw[← hZ]
  by_cases e:t=b
  ·subst e;rw[XF.set_self]
  ·rcases ht with rfl | ht
   ·rw[XF.set_ne _ _ (by omega),XF.set_self]
   ·exact absurd ht e
 have hno:∀ t,t=r∨t=b→∀ b' o',¬ kfp β' Z (100 * t) b' o':=by
  intro t ht b' o' hb'
  rcases hb' with hb' | ⟨hc,_⟩
  ·rw[hZr t ht] at hb';simp[fp] at hb'
  ·exact isCell_reg t hc
 have hno99:∀ b' o',¬ kfp β' Z (100 * b+99) b' o':=by
  intro b' o' hb'
  rcases hb' with hb' | ⟨hc,_⟩
  ·rw[h99] at hb';simp[fp] at hb'
  ·exact hc.2 (by omega)
 have hgetD:∀ i c,cs[i]?=some c→cs.getD i .non=c:=fun i c hc=>by simp[List.getD_eq_getElem?_getD,hc]
 have hcase:∀ i,i < 98→∀ b' o',kfp β' Z (100 * b+1+i) b' o'→∃ c,cs[i]?=some c∧(fp c b' o'∨(b'=l.b∧o'=l.o+i)):=by
  intro i hi b' o' hb'
  cases hc:cs[i]? with
  | none =>
   have hg:cs.getD i .non=.non:=by simp[List.getD_eq_getElem?_getD,hc]
   rcases hb' with hb' | ⟨_,hne,_⟩
   ·rw[hkey i hi,hg] at hb';simp[fp] at hb'
   ·exact absurd ((hkey i hi).trans hg) hne
  | some c =>
   refine⟨c,rfl,?_⟩
   rcases hb' with hb' | ⟨_,_,h3⟩
   ·rw[hkey i hi,hgetD i c hc] at hb';exact .inl hb'
   ·simp only[cellAt,show (100 * b+1+i) / 100=b by omega,hβb,show (100 * b+1+i) % 100 - 1=i by omega] at h3
    exact .inr ⟨h3.1,h3.2⟩
 have hcell:∀ k,(k / 100=b∧k % 100 ≠ 0)→∀ b' o',kfp β' Z k b' o'→∃ i c,i < 98∧k=100 * b+1+i∧cs[i]?=some c∧(fp c b' o'∨(b'=l.b∧o'=l.o+i)):=by
  rintro k ⟨h1,h2⟩ b' o' hb'
  by_cases h3:k % 100=99
  ·have:k=100 * b+99:=by omega
   subst this;exact absurd hb' (hno99 b' o')
  ·obtain⟨i,hi,rfl⟩:=hform k h1 h2 h3
   obtain⟨c,hc,h'⟩:=hcase i hi b' o' hb'
   exact⟨i,c,hi,rfl,hc,h'⟩
 have hD:∀ t,(100 * t / 100=b∧100 * t % 100 ≠ 0)∨100 * t=100 * r∨100 * t=100 * b→t=r∨t=b:=by
  rintro t (⟨_,h2⟩ | h | h)<;>omega
 refine R.change (fun k=>(k / 100=b∧k % 100 ≠ 0)∨k=100 * r∨k=100 * b) ?_ hK ?_ ?_ (fun _ _=>rfl) ?_ ?_ ?_ ?_ (fun _ _ h=>h) (fun _ _ h=>.inl h) ((Frame.refl _ w).mono fun _ _ _ h=>h)
 ·intro k hk
  rw[← hZ,XF.set_ne _ _ (fun e=>hk (.inr (.inr e))),XF.set_ne _ _ (fun e=>hk (.inr (.inl e)))]
  simp only[XF.box]
  rw[if_neg (fun e=>hk (.inl e))]
 ·intro k hk hc
  exact .inl (hβn _ (fun e=>hk (.inl ⟨e,hc.1⟩)))
 ·intro j hj;exact hβn j (by omega)
 ·intro t ht
  have ht:=hD t ht
  rw[hZr t ht]
  simp only[RR]
  refine⟨by rw[hZ99];exact Nat.le_refl _,fun _=>?_⟩
  rw[hβb]
  rcases ht with rfl | rfl
  ·rw[hr];rfl
  ·exact hrb
 ·rintro k hk
  rcases hk with ⟨h1,h2⟩ | hk
  ·by_cases h3:k % 100=99
   ·have:k=100 * b+99:=by omega
    subst this
    exact⟨by rw[h99];simp[Mem],by rw[h99];simp[Sep],fun hc=>absurd h3 hc.2,fun b' o' hb'=>absurd hb' (hno99 b' o'),fun _=>h99⟩
   ·obtain⟨i,hi,rfl⟩:=hform k h1 h2 h3
    cases hc:cs[i]? with
    | none =>
     have hg:(Z (100 * b+1+i)).2=.non:=(hkey i hi).trans (by simp[List.getD_eq_getElem?_getD,hc])
     refine⟨by rw[hg];simp[Mem],by rw[hg];simp[Sep],fun _ hne=>absurd hg hne,fun b' o' hb'=>?_,fun h=>absurd h h3⟩
     obtain⟨c,hc',_⟩:=hcase i hi b' o' hb'
     rw[hc] at hc';cases hc'
    | some c =>
     have hg:(Z (100 * b+1+i)).2=c:=(hkey i hi).trans (hgetD i c hc)
     have hlt:i < cs.length:=(List.getElem?_eq_some_iff.1 hc).1
     have hin:=List.mem_of_getElem? hc
     obtain⟨⟨y,hy,hcy⟩,hmc,_⟩:=hmem i c hc
     refine⟨by rw[hg];exact hmc,by rw[hg];exact hsep.1 c hin,fun _ _=>?_,fun b' o' hb'=>?_,fun h=>absurd h h3⟩
     ·rw[hg]
      simp only[show (100 * b+1+i) / 100=b by omega,hβb,show (100 * b+1+i) % 100 - 1=i by omega]
      exact⟨⟨y,hy,.inl hcy⟩,fun hbad=>hs.1 i hlt (fpL_iff.2 ⟨c,hin,hbad⟩)⟩
     ·obtain⟨c',hc',h'⟩:=hcase i hi b' o' hb'
      rw[hc] at hc';cases hc'
      rcases h' with h' | ⟨rfl,rfl⟩
      ·exact (R.key (100 * r)).live _ _ (hold c b' o' hin h')
      ·exact (R.key (100 * r)).live _ _ (hown i hlt)
  ·obtain⟨t,ht,rfl⟩:∃ t,(t=r∨t=b)∧k=100 * t:=by
    rcases hk with h | h
    ·exact⟨r,.inl rfl,h⟩
    ·exact⟨b,.inr rfl,h⟩
   exact⟨by rw[hZr t ht];simp[Mem],by rw[hZr t ht];simp[Sep],fun hc=>absurd hc (isCell_reg t),fun b' o' hb'=>absurd hb' (hno t ht b' o'),fun h=>by omega⟩
 ·rintro k k' hk hk' hne b' o' h1 h2
  have hreg:∀ q,q=100 * r∨q=100 * b→kfp β' Z q b' o'→False:=fun q hq h=>by
   rcases hq with rfl | rfl
   ·exact hno r (.inl rfl) b' o' h
   ·exact hno b (.inr rfl) b' o' h
  rcases hk with hk | hk
  ·rcases hk' with hk' | hk'
   ·obtain⟨i,c,hi,rfl,hc,hh⟩:=hcell k hk b' o' h1
    obtain⟨j,d,hj,rfl,hd,hh'⟩:=hcell k' hk' b' o' h2
    have hij:i ≠ j:=fun e=>hne (by rw[e])
    have hli:i < cs.length:=(List.getElem?_eq_some_iff.1 hc).1
    have hlj:j < cs.length:=(List.getElem?_eq_some_iff.1 hd).1
    rcases hh with hh | ⟨e1,e2⟩
    ·rcases hh' with hh' | ⟨e1,e2⟩
     ·rcases Nat.lt_or_gt_of_ne hij with hlt | hlt
      ·exact hsep.2 i j c d hlt hc hd b' o' hh hh'
      ·exact hsep.2 j i d c hlt hd hc b' o' hh' hh
     ·subst e1 e2
      exact hs.1 j hlj (fpL_iff.2 ⟨c,List.mem_of_getElem? hc,hh⟩)
    ·rcases hh' with hh' | ⟨e3,e4⟩
     ·subst e1 e2
      exact hs.1 i hli (fpL_iff.2 ⟨d,List.mem_of_getElem? hd,hh'⟩)
     ·omega
   ·exact hreg k' hk' h2
  ·exact hreg k hk h1
 ·rintro k hk b' o' hb'
  rcases hk with hk | hk
  ·obtain⟨i,c,hi,rfl,hc,hh⟩:=hcell k hk b' o' hb'
   rcases hh with hh | ⟨e1,e2⟩
   ·exact .inl ⟨100 * r,.inr (.inl rfl),hold c b' o' (List.mem_of_getElem? hc) hh⟩
   ·subst e1 e2
    exact .inl ⟨100 * r,.inr (.inl rfl),hown i (List.getElem?_eq_some_iff.1 hc).1⟩
  ·exfalso
   rcases hk with rfl | rfl
   ·exact hno r (.inl rfl) b' o' hb'
   ·exact hno b (.inr rfl) b' o' hb'
theorem RelL.upR (R:RelL C X β I rg w)(r b:Nat)(hr:(X (100 * r)).2=.bptr b (X (100 * b+99)).1 0)(cs:List AL)(hn:cs.length≤98)
  (hcs:∀ i c,cs[i]?=some c→(X (100 * b+1+i)).2=c∧treeV c=true) :
  RelL C ((clrB X b cs.length).set (100 * r) (.bx true (some ⟨(β b).1,(β b).2,0⟩) cs)) β I rg w:=by
 have hc:∀ i,i < cs.length→∃ c,cs[i]?=some c∧(X (100 * b+1+i)).2=c∧treeV c=true∧c ≠ .non∧isCell (100 * b+1+i)∧(100 * b+1+i) / 100=b∧(100 * b+1+i) % 100 - 1=i:=by
  intro i hi
  obtain⟨h1,h2⟩:=hcs i _ (List.getElem?_eq_getElem hi)
  refine⟨_,List.getElem?_eq_getElem hi,h1,h2,fun e=>?_,⟨by omega,by omega⟩,by omega,by omega⟩
  rw[e] at h2;simp[treeV] at h2
 have hat:∀ i c,cs[i]?=some c→(∃ y,w.at (β b).1 ((β b).2+i)=some (.v y)∧CR c y)∧¬ fp c (β b).1 ((β b).2+i)∧Mem w I c∧Sep c:=by
  intro i c hi
  obtain⟨c',h1,h2,h3,h4,h5,h6,h7⟩:=hc i (List.getElem?_eq_some_iff.1 hi).1
  rw[hi] at h1
  cases h1
  have hk:=R.key (100 * b+1+i)
  obtain⟨⟨y,hy,hx⟩,hnf⟩:=hk.cell h5 (by rw[h2];exact h4)
  rw[h6,h7] at hy hnf
  rw[h2] at hx hnf
  exact⟨⟨y,hy,hx.cr (by cases c<;>simp [treeV] at h3<;>rfl)⟩,hnf,by rw[← h2];exact hk.mem,by rw[← h2];exact hk.sep⟩
 have haddr:∀ i,i < cs.length→kfp β X (100 * b+1+i) (β b).1 ((β b).2+i):=by
  intro i hi
  obtain⟨c,h1,h2,h3,h4,h5,h6,h7⟩:=hc i hi
  exact .inr ⟨h5,by rw[h2];exact h4,by rw[h6],by rw[h6,h7]⟩
 have hin:∀ i c,cs[i]?=some c→∀ b' o',fp c b' o'→kfp β X (100 * b+1+i) b' o':=by
  intro i c hi b' o' h
  left
  rw[(hcs i c hi).1];exact h
 have hfp:∀ b' o',fp (.bx true (some ⟨(β b).1,(β b).2,0⟩) cs) b' o'→∃ i,i < cs.length∧kfp β X (100 * b+1+i) b' o':=by
  intro b' o' h
  simp only[fp] at h
  rcases h with ⟨rfl,h1,h2⟩ | h
  ·refine⟨o' - (β b).2,by omega,?_⟩
   have:=haddr (o' - (β b).2) (by omega)
   rwa [show (β b).2+(o' - (β b).2)=o' by omega] at this
  ·obtain⟨c,hc',hcb⟩:=fpL_iff.1 h
   obtain⟨i,hi⟩:=List.getElem?_of_mem hc'
   exact⟨i,(List.getElem?_eq_some_iff.1 hi).1,hin i c hi _ _ hcb⟩
 have hself:((clrB X b cs.length).set (100 * r) (.bx true (some ⟨(β b).1,(β b).2,0⟩) cs) (100 * r)).2=.bx true (some ⟨(β b).1,(β b).2,0⟩) cs:=by rw[XF.set_self]
 have hoth:∀ k,100 * b+1≤k∧k < 100 * b+1+cs.length→((clrB X b cs.length).set (100 * r) (.bx true (some ⟨(β b).1,(β b).2,0⟩) cs) k).2=.non:=by
  intro k hk
  rw[XF.set_ne _ _ (by omega),clrB_at,if_pos hk]
 have hK:Keeps X ((clrB X b cs.length).set (100 * r) (.bx true (some ⟨(β b).1,(β b).2,0⟩) cs)) β β:=(keeps_clrB X β b _).trans (keeps_set _ β _ _)
 refine R.change (fun k=>k=100 * r∨(100 * b+1≤k∧k < 100 * b+1+cs.length)) (fun k hk=>?_) hK (fun _ _ _=>.inl rfl) (fun _ _=>rfl) (fun _ _=>rfl) (fun t ht=>?_) (fun k hk=>?_) (fun k k' hk hk' hne b' o' h1 h2=>?_) (fun k hk b' o' h=>?_)
  (fun _ _ h=>h) (fun _ _ h=>.inl h) ((Frame.refl _ w).mono fun _ _ _ h=>h)
 ·rw[XF.set_ne _ _ (fun e=>hk (.inl e)),clrB_at,if_neg (fun e=>hk (.inr e))]
 ·have e:t=r:=by omega
  subst e
  rw[hself]
  have:=R.reg t
  rw[hr] at this
  simp only[RR] at this
  have h2:=this.2 trivial
  simp only[RR,CR]
  simpa using h2
 ·rcases hk with rfl | hk
  ·refine⟨?_,?_,fun h=>absurd h.1 (by omega),fun b' o' h=>?_,fun h=>by omega⟩
   ·rw[hself]
    simp only[Mem]
    exact MemL_iff.2 fun i c hi=>⟨(hat i c hi).1,(hat i c hi).2.2.1,by simp⟩
   ·rw[hself]
    simp only[Sep]
    refine⟨fun i hi hbad=>?_,SepL_iff.2 ⟨fun c hc'=>?_,fun i j u v hij hu hv b' o' g1 g2=>?_⟩⟩
    ·obtain⟨c,hc',hcb⟩:=fpL_iff.1 hbad
     obtain⟨i',hi'⟩:=List.getElem?_of_mem hc'
     by_cases hii:i=i'
     ·subst hii;exact (hat i c hi').2.1 hcb
     ·exact R.disj (100 * b+1+i) (100 * b+1+i') (by omega) _ _ (haddr i hi) (hin i' c hi' _ _ hcb)
    ·obtain⟨i',hi'⟩:=List.getElem?_of_mem hc'
     exact (hat i' c hi').2.2.2
    ·exact R.disj (100 * b+1+i) (100 * b+1+j) (by omega) b' o' (hin i u hu _ _ g1) (hin j v hv _ _ g2)
   ·rcases h with h | ⟨h,_⟩
    ·rw[hself] at h
     obtain⟨i,_,hi⟩:=hfp _ _ h
     exact (R.key _).live _ _ hi
    ·exact absurd h.1 (by omega)
  ·have h0:=hoth k hk
   refine⟨by rw[h0];simp[Mem],by rw[h0];simp[Sep],fun _ h=>absurd h0 h,fun b' o' h=>?_,fun _=>h0⟩
   rcases h with h | ⟨_,h,_⟩
   ·rw[h0] at h;simp[fp] at h
   ·exact absurd h0 h
 ·have only:∀ k,(k=100 * r∨(100 * b+1≤k∧k < 100 * b+1+cs.length))→kfp β ((clrB X b cs.length).set (100 * r) (.bx true (some ⟨(β b).1,(β b).2,0⟩) cs)) k b' o'→k=100 * r:=by
   intro k hk h
   rcases hk with e | hk
   ·exact e
   ·have h0:=hoth k hk
    rcases h with h | ⟨_,h,_⟩
    ·rw[h0] at h;simp[fp] at h
    ·exact absurd h0 h
  exact hne ((only k hk h1).trans (only k' hk' h2).symm)
 ·rcases hk with rfl | hk
  ·rcases h with h | ⟨h,_⟩
   ·rw[hself] at h
    obtain⟨i,hi,hi'⟩:=hfp _ _ h
    exact .inl ⟨_,.inr ⟨by omega,by omega⟩,hi'⟩
   ·exact absurd h.1 (by omega)
  ·have h0:=hoth k hk
   rcases h with h | ⟨_,h,_⟩
   ·rw[h0] at h;simp[fp] at h
   ·exact absurd h0 h
end
theorem RelT.down {C:Ctx}{X:XF Unit}{tm:Array Value}{w:World}(h:RelT C X tm w)(r b:Nat)(hb:b < 10000)(cs:List AU)(hX:(X (100 * r)).2=.bx true () cs)(hp:(X (100 * b)).2=.ptr (100 * r) (X (100 * r)).1 [] 0)(hn:cs.length≤98) :
  RelT C (((X.box b cs).set (100 * r) (.bptr b ((X (100 * b+99)).1+1) 0)).set (100 * b) (.bptr b ((X (100 * b+99)).1+1) 0)) tm w:=by
 obtain⟨XL,β,I,rg,he,R,hs,ht⟩:=h
 subst he
 obtain⟨l,lcs,hXL,hl⟩:∃ l lcs,(XL (100 * r)).2=.bx true l lcs∧lcs.map er=cs:=by
  have hX':er (XL (100 * r)).2=.bx true () cs:=hX
  revert hX'
  generalize (XL (100 * r)).2=v
  intro h
  cases v<;>simp [er,erL_eq] at h
  obtain⟨h1,h2⟩:=h
  subst h1
  exact⟨_,_,rfl,h2⟩
 have hm:=(R.key (100 * r)).mem
 rw[hXL] at hm
 cases l with
 | none=>simp [Mem] at hm
 | some l =>
  have hp':(XL (100 * b)).2=.ptr (100 * r) (XL (100 * r)).1 [] 0:=by
   have hp2:er (XL (100 * b)).2=.ptr (100 * r) (XL (100 * r)).1 [] 0:=hp
   revert hp2
   generalize (XL (100 * b)).2=v
   intro h
   cases v<;>simp [er] at h
   obtain⟨h1,h2,h3,h4⟩:=h
   subst h1 h2 h3 h4
   rfl
  have R':=R.down r b hb l lcs hXL hp' (by rw[← hl] at hn;simpa using hn)
  refine⟨_,_,I,rg,?_,R',hs,ht⟩
  rw[erF_set,erF_set,erF_box,hl]
  rfl
theorem RelT.upR {C:Ctx}{X:XF Unit}{tm:Array Value}{w:World}(h:RelT C X tm w)(r b:Nat)(hr:(X (100 * r)).2=.bptr b (X (100 * b+99)).1 0)(cs:List AU)(hn:cs.length≤98)
  (hcs:∀ i c,cs[i]?=some c→(X (100 * b+1+i)).2=c∧treeV c=true):RelT C ((clrB X b cs.length).set (100 * r) (.bx true () cs)) tm w:=by
 obtain⟨XL,β,I,rg,he,R,hs,ht⟩:=h
 subst he
 have hr':(XL (100 * r)).2=.bptr b (XL (100 * b+99)).1 0:=by
  simp only[erF] at hr
  revert hr
  cases (XL (100 * r)).2<;>simp [er]
 have hget:∀ i c,((List.range cs.length).map fun i=>(XL (100 * b+1+i)).2)[i]?=some c→i < cs.length∧c=(XL (100 * b+1+i)).2:=by
  intro i c hc
  have hi:i < cs.length:=by
   have:=(List.getElem?_eq_some_iff.1 hc).1
   simpa using this
  simp[hi] at hc
  exact⟨hi,hc.symm⟩
 have R':=R.upR r b hr' ((List.range cs.length).map fun i=>(XL (100 * b+1+i)).2) (by simpa using hn) (fun i c hc=>by
  obtain⟨hi,rfl⟩:=hget i c hc
  refine⟨rfl,?_⟩
  obtain⟨h1,h2⟩:=hcs i _ (List.getElem?_eq_getElem hi)
  rw[← er_treeV]
  have h1':er (XL (100 * b+1+i)).2=cs[i]:=h1
  rw[h1'];exact h2)
 rw[show ((List.range cs.length).map fun i=>(XL (100 * b+1+i)).2).length=cs.length by simp] at R'
 refine⟨_,β,_,rg,?_,R',hs,ht⟩
 rw[erF_set,erF_clrB]
 congr 1
 simp only[er,erL_eq,List.map_map]
 congr 1
 apply List.ext_getElem?
 intro i
 by_cases hi:i < cs.length
 ·have h1:er (XL (100 * b+1+i)).2=cs[i]:=(hcs i _ (List.getElem?_eq_getElem hi)).1
  simp[hi,h1]
 ·rw[List.getElem?_eq_none (by simpa using Nat.le_of_not_lt hi),List.getElem?_eq_none (by omega:cs.length≤i)]
section
variable {P:Program} {nt:Nat} {L:SL} {Q:Ex→SL→Prop}
def upRL (L:SL)(r b:Nat)(cs:List AU):SL:=setL (clrBL L b cs.length) (100 * r) (.bx true () cs)
def downL (L:SL)(r b:Nat)(cs:List AU):SL:=setL (setL (boxM b cs L) (100 * r) (.bptr b ((fnL L (100 * b+99)).1+1) 0)) (100 * b) (.bptr b ((fnL L (100 * b+99)).1+1) 0)
attribute [simp] upRL downL
theorem RelT.upRL {C:Ctx}{tm:Array Value}{w:World}(h:RelT C (fnL L) tm w)(r b n:Nat)(cs:List AU)(hr:(fnL L (100 * r)).2=.bptr b (fnL L (100 * b+99)).1 0)(hn:n≤98)
  (hcs:boxFrom (fnL L) b 0 n=cs) (ht:cs.all treeV=true):RelT C (fnL (upRL L r b cs)) tm w:=by
 have hlen:cs.length≤n:=by
  rw[← hcs]
  have:∀ m i,(boxFrom (fnL L) b i m).length≤m:=by
   intro m
   induction m with
   | zero=>intro i;simp[boxFrom]
   | succ m ih=>intro i;simp only[boxFrom];split<;>simp [ih]
  exact this n 0
 have:=h.upR r b hr cs (by omega) (fun i c hi=>⟨by
  rw[← hcs] at hi
  have:=boxFrom_at n 0 i c hi
  rwa [Nat.zero_add] at this,List.all_eq_true.1 ht c (List.mem_of_getElem? hi)⟩)
 rw[fnL_clrB,fnL_set] at this
 exact this
theorem RelT.downL {C:Ctx}{tm:Array Value}{w:World}(h:RelT C (fnL L) tm w)(r b:Nat)(hb:b < 10000)(cs:List AU)(hX:(fnL L (100 * r)).2=.bx true () cs)(hp:(fnL L (100 * b)).2=.ptr (100 * r) (fnL L (100 * r)).1 [] 0)(hn:cs.length≤98) :
  RelT C (fnL (downL L r b cs)) tm w:=by
 have:=h.down r b hb cs hX hp hn
 rw[fnL_boxM b cs _ hn,fnL_set,fnL_set] at this
 exact this
theorem WL.lower {cc:Cd}(r b:Nat){cs:List AU}(hX:(fnL L (100 * r)).2=.bx true () cs)(hp:(fnL L (100 * b)).2=.ptr (100 * r) (fnL L (100 * r)).1 [] 0)(h:WL P nt cc (downL L r b cs) Q)(hn:cs.length≤98:=by simp)(hb:b < 10000:=by decide):WL P nt cc L Q:=by
 intro C code hP hnt hc a w hd hR
 exact h C code hP hnt hc a w hd (hR.downL r b hb cs hX hp hn)
theorem WL.lift {cc:Cd}(r b n:Nat){cs:List AU}(hr:(fnL L (100 * r)).2=.bptr b (fnL L (100 * b+99)).1 0)(hcs:boxFrom (fnL L) b 0 n=cs)(ht:cs.all treeV=true)
  (h:WL P nt cc (upRL L r b cs) Q) (hn:n≤98:=by decide):WL P nt cc L Q:=by
 intro C code hP hnt hc a w hd hR
 exact h C code hP hnt hc a w hd (hR.upRL r b n cs hr hn hcs ht)
theorem RL.lower {K:SL→Prop}{segs:List Sg}(r b:Nat){cs:List AU}(hX:(fnL L (100 * r)).2=.bx true () cs)(hp:(fnL L (100 * b)).2=.ptr (100 * r) (fnL L (100 * r)).1 [] 0)(h:RL P nt segs (downL L r b cs) K)(hn:cs.length≤98:=by simp)(hb:b < 10000:=by decide):RL P nt segs L K:=by
 intro C ops idx hP hnt hc a w Q hd hR hK
 exact h C ops idx hP hnt hc a w Q hd (hR.downL r b hb cs hX hp hn) hK
theorem RL.lift {K:SL→Prop}{segs:List Sg}(r b n:Nat){cs:List AU}(hr:(fnL L (100 * r)).2=.bptr b (fnL L (100 * b+99)).1 0)(hcs:boxFrom (fnL L) b 0 n=cs)(ht:cs.all treeV=true)
  (h:RL P nt segs (upRL L r b cs) K) (hn:n≤98:=by decide):RL P nt segs L K:=by
 intro C ops idx hP hnt hc a w Q hd hR hK
 exact h C ops idx hP hnt hc a w Q hd (hR.upRL r b n cs hr hn hcs ht) hK
end
end Go.OT
namespace Go.OT
theorem OpOk.of_valN {C:Ctx}{o:Oper}{X X':XF Unit}(hd:o.dst=none)(hin:opsIn C.nt o=true)
  (h:∀ XL β I rg w,erF XL=X→RelL C XL β I rg w→∃ x w' XL' β' I' rg',(execOp (evR rg) o).run C.P w=.ok (.value x) w'∧erF XL'=X'∧RelL C XL' β' I' rg' w'∧∀ t,t < C.nt→rg' t=rg t) :
  OpOk C o X X':=by
 rintro a w hdef ⟨XL,β,I,rg,he,R,hs,ht⟩ K Q hK
 obtain⟨x,w',XL',β',I',rg',hrun,he',R',hrg⟩:=h XL β I rg w he R
 unfold Oper.wp
 rw[evR_of hin ht,hrun,Oper.upon_value]
 exact hK _ _ (by simp[Act.put,hd,hdef]) ⟨XL',β',I',rg',he',R',by simp[Act.put,hd,hs],fun t hlt'=>by simp only[Act.put,hd];rw[hrg t hlt'];exact ht t hlt'⟩
def clL (L:SL)(z:Value):AU→Option SL
 | .view k g p off n=>if (fnL L k).1=g∧k ≠ 100 * hh∧ownQ (fnL L k).2 p=true then
   match getN (fnL L k).2 p with
   | some (.sl true _ 1 m cs)=>if off+n≤cs.length∧((cs.drop off).take n).all isSc=true then
     some (updL (setL L (100 * hh) .non) k (setN (fnL L k).2 p (.sl true () 1 m (splice cs off (List.replicate n (.sc z)))))) else none
   | _=>none
  else none
 | _=>none
theorem zeroCells_one (z:Value)(n:Nat):(Builtin.zeroCells #[z] n).toList=List.replicate n z:=by
 apply List.ext_getElem?
 intro j
 simp only[Builtin.zeroCells,Array.toList_map,Array.toList_range,List.getElem?_map,List.getElem?_replicate]
 by_cases h:j < n
 ·rw[List.getElem?_range (by simpa using h)]
  simp[h,Nat.mod_one]
 ·rw[List.getElem?_eq_none (by simpa using h)]
  simp[h]
theorem ok_clear {C:Ctx}{o:Oper}{L L':SL}{sz:Nat}{t e:TypeId}{x:Operand}{cx:COd}{z:Value}(ho:o.op=.call ⟨.builtin .clear,#[x],#[t]⟩)(hd:o.dst=none)(hin:opsIn C.nt o=true)(hnt:C.nt≤H)
  (ht:C.P.underlying t=some (.slice e)) (hz:∀ w,(zeroValue e).run C.P w=.ok z w) (hz1:z.cells=#[z]) (hzo:z.oneCell'=true) (hcx:compOd C.nt sz x=some cx) (hr:clL L z (rd (fnL L) cx)=some L'):OpOk C o (fnL L) (fnL L') :=
 OpOk.of_valN hd hin fun XL β I rg w he R=>by
  have hx:=opd R hcx
  rw[he] at hx
  cases hv:rd (fnL L) cx with
  | view k g p off n =>
   rw[hv] at hr hx
   simp only[clL] at hr
   split at hr
   case isFalse=>cases hr
   rename_i hc
   obtain⟨hg,hk,hq⟩:=hc
   rw[← he] at hg hq hr
   obtain⟨l,sz',m',hnode,hsv⟩:=hx.view hg
   cases hN:getN (erF XL k).2 p with
   | none=>rw [hN] at hr;simp at hr
   | some NU =>
    rw[hN] at hr
    split at hr
    case h_2=>cases hr
    rename_i m cs hNU
    simp only[Option.some.injEq] at hNU
    subst hNU
    split at hr
    case isFalse=>cases hr
    rename_i hcond
    obtain⟨hfit,hold⟩:=hcond
    simp only[Option.some.injEq] at hr
    obtain⟨ll,lcs,hNL,hlcs⟩:=node_sl hN
    rw[hNL] at hnode
    have hnode':ll=l∧1=sz'∧m=m':=by simpa [Go.OT.hd] using hnode
    obtain⟨rfl,rfl,rfl⟩:=hnode'
    obtain⟨xa,cap,hxv,hlab⟩:=hsv
    have hR0:=R.setR hh (by decide) (v:=.non) (x:=rg hh) rfl (by simp[Mem]) (by simp[RR])
    have hek:(XL.set (100 * hh) .non) k=XL k:=XF.set_ne _ _ hk
    have hXhh:((XL.set (100 * hh) .non) (100 * hh)).2=.non:=by rw[XF.set_self]
    have hll:lcs.length=cs.length:=by rw[← hlcs,List.length_map]
    have hE:er (.sl true ll 1 m (splice lcs off ((List.replicate n z).map (AV.sc:Value→AL))))=.sl true () 1 m (splice cs off (List.replicate n (.sc z))):=by
     simp only[er,erL_eq,splice,List.map_append,List.map_take,List.map_drop,hlcs,List.map_replicate,List.length_replicate]
    have hfin:∀ (w':World) (rg':Nat→Value),RelL C ((XL.set (100 * hh) .non).upd k (setN (XL k).2 p (.sl true ll 1 m (splice lcs off ((List.replicate n z).map (AV.sc:Value→AL)))))) β I rg' w'→(∀ t,t ≠ hh→rg' t=(fun u=>if u=hh then rg hh else rg u) t) →
      (execOp (evR rg) o).run C.P w=.ok (.value (.tuple #[])) w'→∃ x w' XL' β' I' rg',(execOp (evR rg) o).run C.P w=.ok (.value x) w'∧erF XL'=fnL L'∧RelL C XL' β' I' rg' w'∧∀ t,t < C.nt→rg' t=rg t:=by
     intro w' rg' R' hrg' hrun
     refine⟨_,_,_,_,_,_,hrun,?_,R',fun t h2=>?_⟩
     ·rw[erF_upd,erF_set,← hr,← fnL_upd,← fnL_set,er_setN,hE,← he]
      rfl
     ·rw[hrg' t (by unfold hh H at *;omega)]
      simp only[show t ≠ hh by unfold hh H at *;omega,if_false]
    have hso:∀ (w':World) (cap:Nat) (a:Addr),n ≠ 0→(storeCells a (List.replicate n z)).run C.P w=.ok () w'→evR rg x=.slice (some a) n cap→(execOp (evR rg) o).run C.P w=.ok (.value (.tuple #[])) w':=by
     intro w' cap a hn hst hev
     obtain⟨n',rfl⟩:=Nat.exists_eq_succ_of_ne_zero hn
     simp only[execOp,ho,resolve,List.map_toArray,List.map_cons,List.map_nil,hev,Sem.run_bind,Sem.run_pure,Result.andThen_ok,invoke,builtin,Builtin.clear_]
     simp[Sem.run_bind,run_underlying ht,hz,hz1,zeroCells_one,hst]
    by_cases hn:n=0
    ·subst hn
     have hE0:(XL.set (100 * hh) .non).upd k (setN (XL k).2 p (.sl true ll 1 m (splice lcs off ((List.replicate 0 z).map (AV.sc:Value→AL)))))=XL.set (100 * hh) .non:=by
      have:splice lcs off ((List.replicate 0 z).map (AV.sc:Value→AL))=lcs:=by simp[splice]
      rw[this,setN_self p hNL]
      funext j
      by_cases hj:j=k
      ·subst hj;rw[XF.upd_self,hek]
      ·rw[XF.upd_ne _ _ hj]
     refine hfin w _ (by rw[hE0];exact hR0) (fun t h=>rfl) ?_
     simp only[execOp,ho,resolve,List.map_toArray,List.map_cons,List.map_nil,hxv,Sem.run_bind,Sem.run_pure,Result.andThen_ok,invoke,builtin,Builtin.clear_]
     cases xa<;>simp [Sem.run_bind,run_underlying ht]
    ·cases ll with
     | none=>obtain ⟨_,_,h0⟩:=hlab;omega
     | some ll =>
      obtain⟨q1,q2,q3,o',rfl,q5⟩:=hlab
      have ho':o'=ll.o+off:=q5 (by omega)
      subst ho'
      obtain⟨w',rg',st,R2,hrg2⟩:=RelL.putS (C:=C) ll k p hk off (List.replicate n z) 0 (XL.set (100 * hh) .non) _ w (.sl true (some ll) 1 m lcs) lcs hR0 hXhh (by rw[hek];exact hNL) rfl rfl rfl (by rw[hek];rw[← er_ownQ];exact hq)
       (by rw[List.length_replicate];omega) (fun j c hj hc hlt=>by
        rw[List.length_replicate] at hlt
        have hjc:((cs.drop off).take n)[j - off]?=some (er c):=by
         rw[List.getElem?_take,if_pos (by omega),List.getElem?_drop,show off+(j - off)=j by omega,← hlcs,List.getElem?_map,hc];rfl
        have:=List.all_eq_true.1 hold _ (List.mem_of_getElem? hjc)
        rw[er_isSc] at this
        cases c<;>simp [isSc] at this
        rfl) (fun y hy=>by rw[(List.mem_replicate.1 hy).2];exact hzo)
      rw[hek] at R2
      simp only[AV.withCells,Nat.add_zero] at R2
      exact hfin w' rg' R2 hrg2 (hso w' _ _ hn st hxv)
  | _=>rw [hv] at hr;simp[clL] at hr
section
variable {P:Program} {nt:Nat} {L:SL}
theorem RL.clear {K:SL→Prop}{rest:List Sg}{ty t e:TypeId}{r:Nat}{z:Value}{L1:SL}(ht:P.underlying t=some (.slice e))(hz:∀ w,(zeroValue e).run P w=.ok z w)(hz1:z.cells=#[z])(hzo:z.oneCell'=true)(hr:r < nt)(hnt:nt≤H)
  (hs:clL L z (rd (fnL L) (.t r))=some L1) (h:RL P nt rest L1 K):RL P nt (.raw none (.call ⟨.builtin .clear,#[.tmp r],#[t]⟩) ty :: rest) L K :=
 RL.raw (fun C o hP hn h2 h3 h4=>by
  subst hP hn
  exact ok_clear (sz:=0) (cx:=.t r) h3 h2 (by simp[opsIn,isSelect,h3,Op.operands,Call.operands,hr]) hnt ht hz hz1 hzo (by simp[compOd,hr]) hs) h
end
end Go.OT
namespace Go.OT
def NB (o:Option COp):Prop:=∀ d s c,o ≠ some (.bs1 d s c)
theorem NB.none:NB .none:=fun _ _ _ h=>by cases h
theorem NB.some {v:COp}(h:∀ d s c,v ≠ .bs1 d s c):NB (.some v):=fun d s c e=>h d s c (Option.some.inj e)
theorem NB.bind {α:Type}{x:Option α}{f:α→Option COp}(h:∀ a,NB (f a)):NB (x.bind f):=by
 cases x with
 | none=>exact NB.none
 | some a=>exact h a
theorem NB.map {α:Type}{x:Option α}{f:α→COp}(h:∀ a d s c,f a ≠ .bs1 d s c):NB (x.map f):=by
 cases x with
 | none=>exact NB.none
 | some a=>exact NB.some (h a)
section
variable {C:Ctx} {X:XF LO} {β:Nat→Nat × Nat} {I:ASet} {rg:Nat→Value} {w:World}
theorem fpL_sc (ys:List Value)(b o:Nat):¬ fpL (ys.map (AV.sc:Value→AL)) b o:=by
 intro h
 obtain⟨c,hc,hb⟩:=fpL_iff.1 h
 obtain⟨y,_,rfl⟩:=List.mem_map.1 hc
 simp[fp] at hb
theorem SepL_sc (ys:List Value):SepL (ys.map (AV.sc:Value→AL)):=SepL_iff.2 ⟨fun c hc=>by
 obtain⟨y,_,rfl⟩:=List.mem_map.1 hc
 simp[Sep],fun i j u v _ hu hv b o h1 _=>fpL_sc ys b o (fpL_iff.2 ⟨u,List.mem_of_getElem? hu,h1⟩)⟩
end
end Go.OT
namespace Go.OT
open Go.Proofs Go.Shelf
section
variable {C:Ctx} {X:XF LO} {β:Nat→Nat × Nat} {I:ASet} {rg:Nat→Value} {w:World} {ρ:Ren}
end
end Go.OT
namespace Go.OT
open Go.Proofs Go.Shelf
theorem wp_in {P:Program}{o:Oper}{a:Act}{w w1:World}{K:Act→World→Prop}{Q:Exit→Act→World→Prop}{x:Value}(hr:(execOp a.eval o).run P w=.ok (.value x) w1)(h:K (a.put o.dst x) w1):o.wp P a w K Q:=by
 unfold Oper.wp
 rw[hr,Oper.upon_value]
 exact h
theorem wpOp_of {P:Program}{ops:Array Oper}{i:Nat}{o:Oper}{a:Act}{w:World}{K:Act→World→Prop}{Q:Exit→Act→World→Prop}(hi:ops[i]?=some o)(hg:o.guard=none)(h:o.wp P a w K Q):wpOp P ops Q i K a w:=by
 unfold Go.wpOp
 simp only[hi]
 simp only[Region.wanted,hg,if_true]
 exact .inl h
theorem compOd_t {nt sz n:Nat}{x:Operand}(h:compOd nt sz x=some (.t n)):x=.tmp n∧n < nt:=by
 cases x with
 | tmp m =>
  simp only[compOd] at h
  split at h
  ·rename_i hl;cases h;exact⟨rfl,hl⟩
  ·cases h
 | const v=>simp only[compOd] at h;split at h<;>simp at h
 | func f=>simp [compOd] at h
 | global g=>simp [compOd] at h
theorem argsOd_cons {nt:Nat}{ss:List Nat}{l:List Operand}{c:COd}{cs:List COd}(h:argsOd nt ss l=some (c :: cs)):∃ s ss' x l',l=x :: l'∧compOd nt s x=some c∧argsOd nt ss' l'=some cs:=by
 cases ss with
 | nil=>cases l<;>simp [argsOd] at h
 | cons s ss =>
  cases l with
  | nil=>simp [argsOd] at h
  | cons x l =>
   simp only[argsOd] at h
   split at h
   ·rename_i c' cs' h1 h2
    simp only[Option.some.injEq,List.cons.injEq] at h
    obtain⟨rfl,rfl⟩:=h
    exact⟨s,ss,x,l,rfl,h1,h2⟩
   ·cases h
theorem argsOd_nil {nt:Nat}{ss:List Nat}{l:List Operand}(h:argsOd nt ss l=some []):l=[]:=by
 cases ss with
 | nil=>cases l<;>simp [argsOd] at h ⊢
 | cons s ss =>
  cases l with
  | nil=>rfl
  | cons x l=>simp only[argsOd] at h;split at h<;>simp at h
section
variable {P:Program} {nt:Nat} {L:SL} {ρ:Ren}
end
end Go.OT
namespace Go.OT
theorem hd_leaf {N N':AL}(h1:N.cells?=none)(h2:hd N=hd N')(h3:N'.cells?=none):∀ (p:List Nat) (v:AL),getN v p=some N→∀ q a,(getN v q).bind hd=some a→(getN (setN v p N') q).bind hd=some a
 | [],v,hg,q,a,ha=>by
  simp only[getN,Option.some.injEq] at hg
  subst hg
  cases q with
  | nil=>simpa only [getN,setN,Option.bind_some,← h2] using ha
  | cons i q=>simp only[getN,h1,Option.bind_none,reduceCtorEq] at ha
 | i :: p,v,hg,q,a,ha=>by
  simp only[getN] at hg
  cases hc:v.cells? with
  | none=>simp only[hc,reduceCtorEq] at hg
  | some cs =>
   simp only[hc] at hg
   cases hi:cs[i]? with
   | none=>simp only[hi,reduceCtorEq] at hg
   | some c =>
    simp only[hi] at hg
    have hw:∀ cs',(v.withCells cs').cells?=some cs':=fun cs'=>by cases v<;>simp [AV.cells?] at hc<;>rfl
    have hh:∀ cs',hd (v.withCells cs')=hd v:=fun cs'=>by cases v<;>simp [AV.cells?] at hc<;>rfl
    have hs:setN v (i :: p) N'=v.withCells (cs.set i (setN c p N')):=by
     simp only[setN,hc];congr 3;simp[List.getD_eq_getElem?_getD,hi]
    rw[hs]
    cases q with
    | nil=>simpa only [getN,Option.bind_some,hh] using ha
    | cons j q =>
     simp only[getN,hc,hw] at ha ⊢
     by_cases e:j=i
     ·subst e
      rw[List.getElem?_set_self (List.getElem?_eq_some_iff.1 hi).1]
      simp only[hi] at ha
      exact hd_leaf h1 h2 h3 p c hg q a ha
     ·rw[List.getElem?_set_ne (Ne.symm e)]
      exact ha
theorem getN_ne_non {v N:AL}{p:List Nat}(h:getN v p=some N)(hn:N ≠ .non):v ≠ .non:=by
 rintro rfl
 cases p with
 | nil=>simp [getN] at h;exact hn h.symm
 | cons i p=>simp [getN,AV.cells?] at h
section
variable {C:Ctx} {X:XF LO} {β:Nat→Nat × Nat} {I:ASet} {rg:Nat→Value} {w:World}
theorem frame_map (K:ASet)(w w':World)(b:Nat)(es es':Array MapEntry)(ck ck':Nat)(hk:K b 0)(hb:w.heap[b]?=some (.map es ck))(hh:w'.heap=w.heap.setIfInBounds b (.map es' ck'))(h1:w'.os=w.os)(h2:w'.tape=w.tape)(h3:w'.output=w.output):Frame K w w':=by
 have hlt:b < w.heap.size:=(Array.getElem?_eq_some_iff.1 hb).1
 have hne:∀ b',b' ≠ b→w'.heap[b']?=w.heap[b']?:=fun b' h=>by rw[hh,Array.getElem?_setIfInBounds_ne (Ne.symm h)]
 have hbb:w'.heap[b]?=some (.map es' ck'):=by rw[hh,Array.getElem?_setIfInBounds_self_of_lt hlt]
 refine⟨h1,h2,h3,by rw[hh];simp,fun b' _ hn=>hne b' (fun e=>hn 0 (e ▸ hk)),?_,?_,?_⟩
 ·intro b' o' _ hn
  by_cases e:b'=b
  ·subst e
   have h0:o' ≠ 0:=fun e=>hn (e ▸ hk)
   simp[World.at,hbb,hb,h0]
  ·simp only[World.at,hne b' e]
 ·intro b' o' _
  by_cases e:b'=b
  ·subst e
   simp only[World.at,hbb,hb]
   split<;>rfl
  ·simp only[World.at,hne b' e]
 ·intro b' o' _ _
  by_cases e:b'=b
  ·subst e;simp only[World.fz,hbb,hb]
  ·simp only[World.fz,hne b' e]
theorem RelL.mapW (R:RelL C X β I rg w)(k:Nat)(p:List Nat){l:Loc}{cs cs':List AL}{es':Array MapEntry}{ck':Nat}{w':World}(hg:getN (X k).2 p=some (.mp true (some l) cs))(ho:ownQ (X k).2 p=true)
  (hh:w'.heap=w.heap.setIfInBounds l.b (.map es' ck')) (h1:w'.os=w.os) (h2:w'.tape=w.tape) (h3:w'.output=w.output) (hE:EOk es' ck') (hK:MemK w I cs' (flatE es'.toList)) :
  RelL C (X.upd k (setN (X k).2 p (.mp true (some l) cs'))) β I rg w':=by
 have hKk:=R.key k
 have r:=repl p (X k).2 hKk.mem hKk.sep ho hg
 have hm:=r.mem
 simp only[Mem] at hm
 obtain⟨⟨es,ck,hes,_,_⟩,_⟩:=hm
 have hb:=(at_m.1 hes).2
 have hfu:∀ (c:List AL) b o,fp (.mp true (some l) c) b o ↔ b=l.b∧o=0:=fun c b o=>by simp[fp]
 have hfb:fp (X k).2 l.b 0:=r.sub _ _ ((hfu cs _ _).2 ⟨rfl,rfl⟩)
 have hkf:kfp β X k l.b 0:=.inl hfb
 have hw:=frame_map (fun b o=>∃ j,j=k∧kfp β X j b o) w w' l.b es es' ck ck' ⟨k,rfl,hkf⟩ hb hh h1 h2 h3
 have hw1:=frame_map (fun b o=>b=l.b∧o=0) w w' l.b es es' ck ck' ⟨rfl,rfl⟩ hb hh h1 h2 h3
 have hat:∀ b o,¬ (b=l.b∧o=0)→w'.at b o=w.at b o:=by
  intro b o hne
  by_cases hlt:b < w.heap.size
  ·exact hw1.cell b o hlt hne
  ·have e1:w.heap[b]?=none:=Array.getElem?_eq_none (by omega)
   have e2:w'.heap[b]?=none:=Array.getElem?_eq_none (by rw[hh];simp;omega)
   simp[World.at,e1,e2]
 have hnew:w'.at l.b 0=some (.m es' ck'):=at_m.2 ⟨rfl,by rw[hh,Array.getElem?_setIfInBounds_self_of_lt (Array.getElem?_eq_some_iff.1 hb).1]⟩
 have hnon:(X k).2 ≠ .non:=getN_ne_non hg (by simp)
 have hx:((X.upd k (setN (X k).2 p (.mp true (some l) cs'))) k).2=setN (X k).2 p (.mp true (some l) cs'):=by rw[XF.upd_self]
 have hfps:∀ b o,fp (setN (X k).2 p (.mp true (some l) cs')) b o→fp (X k).2 b o:=fun b o h=>by
  rcases r.fps _ b o h with h | h
  ·exact h.1
  ·exact r.sub b o ((hfu cs b o).2 ((hfu cs' b o).1 h))
 have hsub:∀ b o,kfp β (X.upd k (setN (X k).2 p (.mp true (some l) cs'))) k b o→kfp β X k b o:=by
  intro b o h
  rcases h with h | ⟨c1,c2,c3⟩
  ·rw[hx] at h;exact .inl (hfps b o h)
  ·exact .inr ⟨c1,hnon,c3⟩
 have hI:∀ b o,I b o→¬ (b=l.b∧o=0):=fun b o h e=>by
  obtain⟨rfl,rfl⟩:=e
  exact (R.imm _ _ h).2 k hkf
 have hKeep:Keeps X (X.upd k (setN (X k).2 p (.mp true (some l) cs'))) β β:=by
  refine⟨fun j=>?_,fun j _ q a ha=>?_,fun _ _=>rfl⟩
  ·by_cases e:j=k
   ·subst e;simp[XF.upd]
   ·simp[XF.upd,e]
  ·by_cases e:j=k
   ·subst e
    rw[XF.upd_self]
    exact hd_leaf (N:=.mp true (some l) cs) (N':=.mp true (some l) cs') rfl rfl rfl p _ hg q a ha
   ·rw[XF.upd_ne _ _ e];exact ha
 refine R.change (fun j=>j=k) (fun j hj=>XF.upd_ne _ _ hj) hKeep (fun _ _ _=>.inl rfl) (fun _ _=>rfl) (fun _ _=>rfl) ?_ ?_ ?_ ?_ (fun _ _ h=>h) (fun _ _ h=>.inl h) hw
 ·intro s e
  rw[e,hx]
  have hreg:=R.reg s
  rw[e] at hreg
  by_cases hp:p=[]
  ·subst hp
   simp only[getN,Option.some.injEq] at hg
   rw[hg] at hreg
   simpa [setN,RR,CR] using hreg
  ·refine RR_of_CR ((CR_setN hp).2 ?_)
   generalize (X k).2=V at hreg hg
   cases p with
   | nil=>exact absurd rfl hp
   | cons i p=>cases V<;>simp [getN,AV.cells?] at hg<;>simpa [RR] using hreg
 ·rintro j rfl
  refine⟨?_,?_,?_,?_,fun h99=>absurd (hKk.last h99) hnon⟩
  ·rw[hx]
   refine r.mems _ w' I ?_ ?_ ?_ (fun b o h=>⟨hat b o (hI b o h),h⟩)
   ·simp only[Mem]
    exact⟨⟨es',ck',hnew,hE,MemK_frame cs' _ hK (fun b o h=>⟨hat b o (hI b o h),h⟩)⟩,fun e=>by cases e⟩
   ·intro b o hb'
    have hp:p ≠ []:=by rintro rfl;simp[addr] at hb'
    obtain⟨b2,o2,y,g1,g2,g3,g4,g5⟩:=r.ad hp
    rw[hb'] at g1
    cases g1
    refine⟨y,?_,by simpa [CR] using g5⟩
    rw[hat b o (fun e=>g3 ((hfu cs b o).2 e))]
    exact g4
   ·intro b o _ hn _
    exact hat b o (fun e=>hn ((hfu cs b o).2 e))
  ·rw[hx]
   exact r.seps _ (by simp[Sep]) (fun b o h1 _=>(hfu cs b o).2 ((hfu cs' b o).1 h1))
  ·intro hc _
   obtain⟨⟨y,hy,hcy⟩,hnf⟩:=hKk.cell hc hnon
   rw[hx]
   have hvw:isVw (X j).2=false:=by
    generalize (X j).2=V at hg
    cases p with
    | nil=>simp [getN] at hg;subst hg;rfl
    | cons i p=>cases V<;>simp [getN,AV.cells?] at hg<;>rfl
   have hcy:=hcy.cr hvw
   refine⟨⟨y,?_,.inl ?_⟩,fun h=>hnf (hfps _ _ h)⟩
   ·rw[hat _ _ (fun e=>hnf (by rw[e.1,e.2];exact hfb))];exact hy
   ·by_cases hp:p=[]
    ·subst hp
     simp only[getN,Option.some.injEq] at hg
     rw[hg] at hcy
     simpa [setN,CR] using hcy
    ·exact (CR_setN hp).2 hcy
  ·intro b o h
   obtain⟨l1,l2,l3⟩:=hKk.live b o (hsub b o h)
   exact⟨Nat.lt_of_lt_of_le l1 hw.size,by rw[hw.fz b o l1 l3];exact l2,by rw[hw.some b o l1];exact l3⟩
 ·rintro j j' rfl rfl hne;exact absurd rfl hne
 ·rintro j rfl b o h;exact .inl ⟨j,rfl,hsub b o h⟩
end
end Go.OT
namespace Go.OT
open Go.MapKept
def flatM (m:List (Int × AU)):List AU:=m.flatMap fun e=>[.sc (.int .i64 e.1),e.2]
def flatLM (m:List (Int × AL)):List AL:=m.flatMap fun e=>[.sc (.int .i64 e.1),e.2]
def mgetD (z:AU)(key:Int):List (Int × AU)→AU
 | []=>z
 | (a,v) :: r=>if a=key then v else mgetD z key r
def mhas (key:Int)(m:List (Int × AU)):Bool:=m.any (·.1 == key)
def mset (key:Int)(u:AU):List (Int × AU)→List (Int × AU)
 | []=>[(key,u)]
 | (a,v) :: r=>if a=key then (key,u) :: r else (a,v) :: mset key u r
def erM (m:List (Int × AL)):List (Int × AU):=m.map fun e=>(e.1,er e.2)
theorem flatLM_er (m:List (Int × AL)):(flatLM m).map er=flatM (erM m):=by
 induction m with
 | nil=>rfl
 | cons e m ih =>
  have h1:flatLM (e :: m)=.sc (.int .i64 e.1) :: e.2 :: flatLM m:=rfl
  have h2:flatM (erM (e :: m))=.sc (.int .i64 e.1) :: er e.2 :: flatM (erM m):=rfl
  rw[h1,h2,List.map_cons,List.map_cons,ih]
  rfl
theorem flatM_inv:∀ (m:List (Int × AU)) (lcs:List AL),lcs.map er=flatM m→∃ lm,lcs=flatLM lm∧erM lm=m
 | [],lcs,h=>by
  have:lcs=[]:=by simpa [flatM] using h
  subst this
  exact⟨[],rfl,rfl⟩
 | (a,v) :: m,lcs,h=>by
  have h2:flatM ((a,v) :: m)=.sc (.int .i64 a) :: v :: flatM m:=rfl
  rw[h2] at h
  cases lcs with
  | nil=>simp at h
  | cons x lcs =>
   cases lcs with
   | nil=>simp at h
   | cons y lcs =>
    simp only[List.map_cons,List.cons.injEq] at h
    obtain⟨e1,e2,e3⟩:=h
    obtain⟨lm,rfl,rfl⟩:=flatM_inv m lcs e3
    have:=er_sc e1
    subst this
    exact⟨(a,y) :: lm,rfl,by simp[erM,e2]⟩
def EntK (w:World)(I:ASet):List (Int × AL)→List MapEntry→Prop
 | [],[]=>True
 | (a,v) :: lm,e :: es=>e.key=.int .i64 a∧CR v e.val∧Mem w I v∧(∀ b o,¬ fp v b o)∧EntK w I lm es
 | _,_=>False
theorem memK_ent {w:World}{I:ASet}:∀ (lm:List (Int × AL)) (es:List MapEntry),MemK w I (flatLM lm) (flatE es) ↔ EntK w I lm es
 | [],[]=>by simp[flatLM,flatE,MemK,EntK]
 | [],e :: es=>by simp[flatLM,flatE,MemK,EntK]
 | (a,v) :: lm,[]=>by
  have h1:flatLM ((a,v) :: lm)=.sc (.int .i64 a) :: v :: flatLM lm:=rfl
  rw[h1]
  simp[flatE,MemK,EntK]
 | (a,v) :: lm,e :: es=>by
  have h1:flatLM ((a,v) :: lm)=.sc (.int .i64 a) :: v :: flatLM lm:=rfl
  rw[h1]
  simp only[flatE,MemK,EntK]
  constructor
  ·rintro⟨y,r,h2,h3,_,_,y',r',h5,h6,h7,h8,h9⟩
   simp only[List.cons.injEq] at h2
   obtain⟨rfl,rfl⟩:=h2
   simp only[List.cons.injEq] at h5
   obtain⟨rfl,rfl⟩:=h5
   simp only[CR] at h3
   exact⟨h3,h6,h7,h8,(memK_ent lm es).1 h9⟩
  ·rintro⟨h3,h6,h7,h8,h9⟩
   exact⟨_,_,rfl,by simp[CR,h3],by simp[Mem],by simp[fp],_,_,rfl,h6,h7,h8,(memK_ent lm es).2 h9⟩
section
variable {w:World} {I:ASet} {key:Int}
theorem ent_find {z:AL}:∀ {lm:List (Int × AL)} {es:List MapEntry} (i:Nat),EntK w I lm es →
  (Instr.findNow (.int .i64) (.int .i64 key) es i=some none∧mhas key (erM lm)=false∧mgetD (er z) key (erM lm)=er z∧∀ u:AL,erM lm ++ [(key,er u)]=mset key (er u) (erM lm)) ∨
  ∃ j e lv,Instr.findNow (.int .i64) (.int .i64 key) es i=some (some (i+j,e.val))∧es[j]?=some e∧e.key=.int .i64 key∧CR lv e.val∧Mem w I lv∧mhas key (erM lm)=true∧mgetD (er z) key (erM lm)=er lv∧(∃ q,(q,lv) ∈ lm) ∧
   ∀ (u:AL) (y:Value),CR u y→Mem w I u→(∀ b o,¬ fp u b o)→∃ lm',EntK w I lm' (es.set j { e with key:=.int .i64 key,val:=y })∧erM lm'=mset key (er u) (erM lm)
 | [],[],i,_=>.inl ⟨rfl,rfl,rfl,fun _=>rfl⟩
 | (a,v) :: lm,e :: es,i,h=>by
  simp only[EntK] at h
  obtain⟨h1,h2,h3,h4,h5⟩:=h
  have hs:Instr.sameNow (.int .i64) (.int .i64 key) e.key=some (key == a):=by rw[h1];rfl
  by_cases ha:a=key
  ·subst ha
   refine .inr ⟨0,e,v,by simp[Instr.findNow,hs],rfl,h1,h2,h3,by simp[mhas,erM],by simp[mgetD,erM],⟨a,by simp⟩,fun u y g1 g2 g3=>⟨(a,u) :: lm,?_,by simp[mset,erM]⟩⟩
   simp only[List.set_cons_zero,EntK]
   exact⟨trivial,g1,g2,g3,h5⟩
  ·have hb:(key == a)=false:=by simp;exact fun e=>ha e.symm
   rcases ent_find (z:=z) (i+1) h5 with ⟨g1,g2,g3,g4⟩ | ⟨j,e',lv,g1,g2,g3,g4,g5,g6,g7,⟨q,hq⟩,g9⟩
   ·refine .inl ⟨by simp[Instr.findNow,hs,hb,g1],by simpa [mhas,erM,ha] using g2,by simpa [mgetD,erM,ha] using g3,fun u=>?_⟩
    have:=g4 u
    simpa [mset,erM,ha] using this
   ·refine .inr ⟨j+1,e',lv,by simp[Instr.findNow,hs,hb,g1];omega,by simpa using g2,g3,g4,g5,?_,?_,⟨q,by simp[hq]⟩,fun u y q1 q2 q3=>?_⟩
    ·simp only[mhas,erM,List.map_cons,List.any_cons,Bool.or_eq_true]
     exact .inr g6
    ·simpa [mgetD,erM,ha] using g7
    ·obtain⟨lm',r1,r2⟩:=g9 u y q1 q2 q3
     refine⟨(a,v) :: lm',?_,?_⟩
     ·simp only[List.set_cons_succ,EntK]
      exact⟨h1,h2,h3,h4,r1⟩
     ·have e1:erM ((a,v) :: lm')=(a,er v) :: erM lm':=rfl
      have e2:erM ((a,v) :: lm)=(a,er v) :: erM lm:=rfl
      rw[e1,e2,r2]
      simp[mset,ha]
 | [],_ :: _,_,h=>by simp[EntK] at h
 | _ :: _,[],_,h=>by simp[EntK] at h
theorem ent_push:∀ {lm:List (Int × AL)} {es:List MapEntry} {u:AL} {e:MapEntry},EntK w I lm es→e.key=.int .i64 key→CR u e.val→Mem w I u→(∀ b o,¬ fp u b o)→EntK w I (lm ++ [(key,u)]) (es ++ [e])
 | [],[],u,e,_,h1,h2,h3,h4=>by simp only[List.nil_append,EntK];exact⟨h1,h2,h3,h4,trivial⟩
 | (a,v) :: lm,x :: es,u,e,h,h1,h2,h3,h4=>by
  simp only[EntK,List.cons_append] at h ⊢
  exact⟨h.1,h.2.1,h.2.2.1,h.2.2.2.1,ent_push h.2.2.2.2 h1 h2 h3 h4⟩
 | [],_ :: _,_,_,h,_,_,_,_=>by simp[EntK] at h
 | _ :: _,[],_,_,h,_,_,_,_=>by simp[EntK] at h
end
section
variable {C:Ctx} {o:Oper} {X:XF Unit} {d sz:Nat} {t kt et:TypeId}
theorem mv_node {XL:XF LO} {β:Nat→Nat × Nat}{I:ASet}{rg:Nat→Value}{w:World}{x:Operand}{cx:COd}(R:RelL C XL β I rg w)(he:erF XL=X)(hcx:compOd C.nt sz x=some cx){k g:Nat}{p:List Nat}{own:Bool}{m:List (Int × AU)}
  (hx:rd X cx=.mv k g p) (hg:(X k).1=g) (hn:getN (X k).2 p=some (.mp own () (flatM m))) :
  ∃ l lm,getN (XL k).2 p=some (.mp own (some l) (flatLM lm))∧erM lm=m∧evR rg x=.map (some l.b):=by
 have e1:=opd R hcx
 rw[he,hx] at e1
 obtain⟨lv,h1,h2,_⟩:=e1.ex
 rw[er_mv h1] at h2
 simp only[RR] at h2
 rw[← he] at hg hn
 obtain⟨l,h3,h4⟩:=h2.2 hg
 obtain⟨l',lcs,h5,h6⟩:=node_mp hn
 rw[h5] at h3
 have:l'=some l:=by simpa [Go.OT.hd] using h3
 subst this
 obtain⟨lm,rfl,rfl⟩:=flatM_inv m lcs h6
 exact⟨l,lm,h5,rfl,h4⟩
theorem ok_look {x ix:Operand}{cx ci:COd}{ok:Bool}{k g:Nat}{p:List Nat}{own:Bool}{m:List (Int × AU)}{key:Int}{zv:Value}{lz:AL}(ho:o.op=.lookup t x ix ok)(hd:o.dst=some d)(hlt:d < C.nt)(hin:opsIn C.nt o=true)
  (ht:C.P.underlying t=some (.map kt et)) (hk:C.P.underlying kt=some (.int .i64)) (hz:∀ w,(zeroValue et).run C.P w=.ok zv w) (hz1:noOwn lz=true) (hz2:∀ w I,Mem w I lz) (hz3:CR lz zv)
  (hcx:compOd C.nt sz x=some cx) (hci:compOd C.nt sz ix=some ci) (hx:rd X cx=.mv k g p) (hg:(X k).1=g) (hn:getN (X k).2 p=some (.mp own () (flatM m))) (hi:rd X ci=.sc (.int .i64 key)) (hown:(m.all fun e=>noOwn e.2)=true) :
  OpOk C o X (X.set (100 * d) (if ok=true then .tuple [mgetD (er lz) key m,.sc (.bool (mhas key m))] else mgetD (er lz) key m)):=by
 have hall:(mgetD (er lz) key m)=er lz∨noOwn (mgetD (er lz) key m)=true:=by
  clear hn
  induction m with
  | nil=>exact .inl rfl
  | cons e m ih =>
   obtain⟨a,v⟩:=e
   simp only[List.all_cons,Bool.and_eq_true] at hown
   simp only[mgetD]
   split
   ·exact .inr hown.1
   ·exact ih hown.2
 have hno:noOwn (mgetD (er lz) key m)=true:=by
  rcases hall with h | h
  ·rw[h,er_noOwn];exact hz1
  ·exact h
 refine OpOk.of_pure hd hlt hin (by cases ok<;>simp [noOwn,noOwnL,hno]) fun XL β I rg w he R=>?_
 obtain⟨l,lm,h1,rfl,h2⟩:=mv_node R he hcx hx hg hn
 have e2:=opd R hci
 rw[he,hi] at e2
 have e2:=e2.sc
 have hm:=Mem_getN (R.key k).mem h1
 simp only[Mem] at hm
 obtain⟨⟨es,ck,h3,h4,h5⟩,_⟩:=hm
 have hb:=(at_m.1 h3).2
 have hE:=(memK_ent lm es.toList).1 h5
 have hkey:IsKey (.int .i64) (.int .i64 key):=rfl
 have key1:∀ (lv:AL) (v:Value) (b:Bool),Mem w I lv→CR lv v→(Instr.lookup t (.map (some l.b)) (.int .i64 key) ok).run C.P w=.ok (if ok=true then .tuple #[v,.bool b] else v) w→er lv=mgetD (er lz) key (erM lm)→b=mhas key (erM lm) →
   ∃ lv x_1,er lv=(if ok=true then .tuple [mgetD (er lz) key (erM lm),.sc (.bool (mhas key (erM lm)))] else mgetD (er lz) key (erM lm))∧(execOp (evR rg) o).run C.P w=.ok (.value x_1) w∧Mem w I lv∧RR XL β lv x_1:=by
  intro lv v b q2 q3 q4 q5 q6
  have hex:(execOp (evR rg) o).run C.P w=.ok (.value (if ok=true then .tuple #[v,.bool b] else v)) w:=by
   simp only[execOp,ho,h2,e2,Sem.run_bind,q4,Result.andThen_ok,Sem.run_pure]
  cases ok with
  | true =>
   refine⟨.tuple [lv,.sc (.bool b)],_,by simp only[er,erL,q5,q6,if_true],hex,by simp only[Mem,MemA];exact⟨q2,trivial,trivial⟩,?_⟩
   simp only[RR,if_true]
   exact⟨[v,.bool b],rfl,v,_,rfl,RR_of_CR q3,.bool b,[],rfl,by simp[RR],by simp[RRL]⟩
  | false=>exact ⟨lv,_,by simp[q5],hex,q2,RR_of_CR q3⟩
 have hg0:=MapKept.run_getObj_map (P:=C.P) hb
 rcases ent_find (z:=lz) (key:=key) 0 hE with ⟨g1,g2,g3,_⟩ | ⟨j,e,lv,g1,g2,g3,g4,g5,g6,g7,⟨q,hq⟩,_⟩
 ·refine key1 lz zv false (hz2 w I) hz3 ?_ g3.symm g2.symm
  simp only[Instr.lookup,Sem.run_bind,run_underlying ht,hg0,Result.andThen_ok,Sem.run_pure,run_checkKey hk hkey,run_findKey hk g1,hz]
 ·rw[Nat.zero_add] at g1
  refine key1 lv e.val true g5 g4 ?_ g7.symm g6.symm
  simp only[Instr.lookup,Sem.run_bind,run_underlying ht,hg0,Result.andThen_ok,Sem.run_pure,run_checkKey hk hkey,run_findKey hk g1]
theorem er_flatM (lm:List (Int × AL))(own:Bool)(l:LO):er (.mp own l (flatLM lm))=.mp own () (flatM (erM lm)):=by
 simp only[er,erL_eq,flatLM_er]
theorem ok_mupd {mx kx vx:Operand}{cm ck cv:COd}{k g:Nat}{p:List Nat}{m:List (Int × AU)}{key:Int}{u:AU}(ho:o.op=.mapUpdate t mx kx vx)(hd:o.dst=none)(hin:opsIn C.nt o=true)
  (ht:C.P.underlying t=some (.map kt et)) (hk:C.P.underlying kt=some (.int .i64)) (hcm:compOd C.nt sz mx=some cm) (hck:compOd C.nt sz kx=some ck) (hcv:compOd C.nt sz vx=some cv)
  (hx:rd X cm=.mv k g p) (hg:(X k).1=g) (hn:getN (X k).2 p=some (.mp true () (flatM m))) (hq:ownQ (X k).2 p=true) (hi:rd X ck=.sc (.int .i64 key)) (hv:rd X cv=u) (hu1:noOwn u=true) (hu2:treeV u=true) :
  OpOk C o X (X.upd k (setN (X k).2 p (.mp true () (flatM (mset key u m))))) :=
 OpOk.of_skip hd hin fun XL β I rg w he R=>by
  obtain⟨l,lm,h1,rfl,h2⟩:=mv_node R he hcm hx hg hn
  have e2:=opd R hck
  rw[he,hi] at e2
  have e2:=e2.sc
  have e3:=opd R hcv
  rw[he,hv] at e3
  obtain⟨lu,rfl,hr3,hm3⟩:=e3.ex
  have hcu:CR lu (evR rg vx):=CR_of_RR (by rw[← er_treeV];exact hu2) hr3
  have hfu:=(noOwn_spec lu (by rw[← er_noOwn];exact hu1)).1
  have hm:=Mem_getN (R.key k).mem h1
  simp only[Mem] at hm
  obtain⟨⟨es,clk,h3,h4,h5⟩,_⟩:=hm
  have hb:=(at_m.1 h3).2
  have hE:=(memK_ent lm es.toList).1 h5
  have hkey:IsKey (.int .i64) (.int .i64 key):=rfl
  have hq:ownQ (XL k).2 p=true:=by rw[← he] at hq;exact (er_ownQ p _).symm.trans hq
  have fin:∀ (es':Array MapEntry) (clk':Nat) (lm':List (Int × AL)),EntK w I lm' es'.toList→erM lm'=mset key (er lu) (erM lm)→EOk es' clk'→(Instr.mapUpdate t (.map (some l.b)) (.int .i64 key) (evR rg vx)).run C.P w=.ok () { w with heap:=w.heap.setIfInBounds l.b (.map es' clk') } →
    ∃ w' XL' β' I' rg',(execOp (evR rg) o).run C.P w=.ok .skip w'∧erF XL'=X.upd k (setN (X k).2 p (.mp true () (flatM (mset key (er lu) (erM lm)))))∧RelL C XL' β' I' rg' w'∧∀ t,t < C.nt→rg' t=rg t:=by
   intro es' clk' lm' q1 q2 q3 q4
   refine⟨{ w with heap:=w.heap.setIfInBounds l.b (.map es' clk') },_,_,_,_,?_,?_,R.mapW k p h1 hq (es':=es') (ck':=clk') rfl rfl rfl rfl q3 ((memK_ent lm' es'.toList).2 q1),fun _ _=>rfl⟩
   ·simp only[execOp,ho,h2,e2,Sem.run_bind,q4,Result.andThen_ok,Sem.run_pure]
   ·rw[erF_upd,he,er_setN,er_flatM,q2,← he]
    rfl
  have hg0:=MapKept.run_getObj_map (P:=C.P) hb
  rcases ent_find (z:=lu) (key:=key) 0 hE with ⟨g1,g2,g3,g4⟩ | ⟨j,e,lv,g1,g2,g3,g4,g5,g6,g7,_,g9⟩
  ·refine fin (es.push ⟨.int .i64 key,evR rg vx,clk⟩) (clk+1) (lm ++ [(key,lu)]) (by rw[Array.toList_push];exact ent_push hE rfl hcu hm3 hfu) ?_ ?_ ?_
   ·rw[← g4 lu];simp[erM]
   ·refine⟨?_,?_⟩
    ·simp only[Array.toList_push,List.map_append,List.map_cons,List.map_nil]
     refine List.nodup_append.2 ⟨h4.1,by simp,?_⟩
     intro a ha b hb'
     simp only[List.mem_singleton] at hb'
     subst hb'
     obtain⟨x,hx',rfl⟩:=List.mem_map.1 ha
     exact Nat.ne_of_lt (h4.2 x hx')
    ·intro e' he'
     simp only[Array.toList_push,List.mem_append,List.mem_singleton] at he'
     rcases he' with he' | rfl
     ·exact Nat.lt_succ_of_lt (h4.2 e' he')
     ·exact Nat.lt_succ_self _
   ·simp only[Instr.mapUpdate,Sem.run_bind,run_underlying ht,hg0,Result.andThen_ok,Sem.run_pure,run_checkKey hk hkey,run_findKey hk g1,run_setObj_map _ hb]
  ·rw[Nat.zero_add] at g1
   obtain⟨lm',r1,r2⟩:=g9 lu _ hcu hm3 hfu
   have hj:es[j]?=some e:=by simpa using g2
   have hmod:(es.modify j fun e=>{ e with key:=.int .i64 key,val:=evR rg vx }).toList=es.toList.set j { e with key:=.int .i64 key,val:=evR rg vx }:=by
    apply List.ext_getElem?
    intro i
    simp only[Array.getElem?_toList,Array.getElem?_modify]
    by_cases hij:j=i
    ·subst hij
     rw[List.getElem?_set_self (by simpa using (Array.getElem?_eq_some_iff.1 hj).1)]
     simp[hj]
    ·rw[List.getElem?_set_ne hij]
     simp[hij]
   refine fin (es.modify j fun e=>{ e with key:=.int .i64 key,val:=evR rg vx }) clk lm' (by rw[hmod];exact r1) r2 ?_ ?_
   ·have hborn:(es.modify j fun e=>{ e with key:=.int .i64 key,val:=evR rg vx }).toList.map (·.born)=es.toList.map (·.born):=by
     rw[hmod,List.map_set]
     apply List.ext_getElem?
     intro i
     by_cases hij:j=i
     ·subst hij
      rw[List.getElem?_set_self (by simpa using (Array.getElem?_eq_some_iff.1 hj).1)]
      simp[hj]
     ·rw[List.getElem?_set_ne hij]
    refine⟨by rw[hborn];exact h4.1,fun e' he'=>?_⟩
    have:e'.born ∈ (es.modify j fun e=>{ e with key:=.int .i64 key,val:=evR rg vx }).toList.map (·.born):=List.mem_map.2 ⟨e',he',rfl⟩
    rw[hborn] at this
    obtain⟨y,hy,e0⟩:=List.mem_map.1 this
    rw[← e0];exact h4.2 y hy
   ·have hst:=run_keyThatStays (P:=C.P) (w:=w) hkey
    simp only[Instr.mapUpdate,Sem.run_bind,run_underlying ht,hg0,Result.andThen_ok,Sem.run_pure,run_checkKey hk hkey,run_findKey hk g1,hj,Option.map_some,Option.getD_some,g3,hst,run_setObj_map _ hb]
theorem ok_mclr {x:Operand}{cm:COd}{k g:Nat}{p:List Nat}{m:List (Int × AU)}(ho:o.op=.call ⟨.builtin .clear,#[x],#[t]⟩)(hd:o.dst=none)(hin:opsIn C.nt o=true)
  (ht:C.P.underlying t=some (.map kt et)) (hcm:compOd C.nt sz x=some cm) (hx:rd X cm=.mv k g p) (hg:(X k).1=g) (hn:getN (X k).2 p=some (.mp true () (flatM m))) (hq:ownQ (X k).2 p=true) :
  OpOk C o X (X.upd k (setN (X k).2 p (.mp true () []))) :=
 OpOk.of_valN hd hin fun XL β I rg w he R=>by
  obtain⟨l,lm,h1,rfl,h2⟩:=mv_node R he hcm hx hg hn
  have hm:=Mem_getN (R.key k).mem h1
  simp only[Mem] at hm
  obtain⟨⟨es,clk,h3,h4,h5⟩,_⟩:=hm
  have hb:=(at_m.1 h3).2
  have hq:ownQ (XL k).2 p=true:=by rw[← he] at hq;exact (er_ownQ p _).symm.trans hq
  refine⟨.tuple #[],{ w with heap:=w.heap.setIfInBounds l.b (.map #[] clk) },_,_,_,_,?_,?_,R.mapW k p h1 hq (cs':=[]) (es':=#[]) (ck':=clk) rfl rfl rfl rfl ⟨by simp,by simp⟩ (by simp[MemK,flatE]),fun _ _=>rfl⟩
  ·have hg0:=MapKept.run_getObj_map (P:=C.P) hb
   simp only[execOp,ho,resolve,List.map_toArray,List.map_cons,List.map_nil,h2,Sem.run_bind,Sem.run_pure,Result.andThen_ok,invoke,builtin,Builtin.clear_]
   simp[Sem.run_bind,run_underlying ht,hg0,run_setObj_map _ hb]
  ·rw[erF_upd,he,er_setN,← he]
   rfl
end
section
variable {P:Program} {nt:Nat} {L:SL} {K:SL→Prop} {rest:List Sg} {ty t kt et:TypeId}
theorem RL.mlook {d r ix k g:Nat}{ok:Bool}{p:List Nat}{own:Bool}{key:Int}{zv:Value}(m:List (Int × AU))(lz:AL)(ht:P.underlying t=some (.map kt et))(hk:P.underlying kt=some (.int .i64))(hz:∀ w,(zeroValue et).run P w=.ok zv w)(hz1:noOwn lz=true)(hz2:∀ w I,Mem w I lz)(hz3:CR lz zv)
  (hd:d < nt) (hr:r < nt) (hi:ix < nt) (hx:rd (fnL L) (.t r)=.mv k g p) (hg:(fnL L k).1=g) (hn:getN (fnL L k).2 p=some (.mp own () (flatM m))) (hix:rd (fnL L) (.t ix)=.sc (.int .i64 key)) (hown:(m.all fun e=>noOwn e.2)=true)
  (h:RL P nt rest (setL L (100 * d) (if ok=true then .tuple [mgetD (er lz) key m,.sc (.bool (mhas key m))] else mgetD (er lz) key m)) K):RL P nt (.raw (some d) (.lookup t (.tmp r) (.tmp ix) ok) ty :: rest) L K :=
 RL.raw (fun C o hP hn' h2 h3 h4=>by
  subst hP hn'
  rw[← fnL_set]
  exact ok_look (sz:=0) h3 h2 hd (by simp[opsIn,isSelect,h3,Op.operands,hr,hi]) ht hk hz hz1 hz2 hz3 (by simp[compOd,hr]) (by simp[compOd,hi]) hx hg hn hix hown) h
theorem RL.mupd {r kx vx k g:Nat}{p:List Nat}{key:Int}{u:AU}(m:List (Int × AU))(ht:P.underlying t=some (.map kt et))(hk:P.underlying kt=some (.int .i64))(hr:r < nt)(hkx:kx < nt)(hvx:vx < nt)
  (hx:rd (fnL L) (.t r)=.mv k g p) (hg:(fnL L k).1=g) (hn:getN (fnL L k).2 p=some (.mp true () (flatM m))) (hq:ownQ (fnL L k).2 p=true) (hi:rd (fnL L) (.t kx)=.sc (.int .i64 key)) (hv:rd (fnL L) (.t vx)=u) (hu1:noOwn u=true) (hu2:treeV u=true)
  (h:RL P nt rest (updL L k (setN (fnL L k).2 p (.mp true () (flatM (mset key u m))))) K):RL P nt (.raw none (.mapUpdate t (.tmp r) (.tmp kx) (.tmp vx)) ty :: rest) L K :=
 RL.raw (fun C o hP hn' h2 h3 h4=>by
  subst hP hn'
  rw[← fnL_upd]
  exact ok_mupd (sz:=0) h3 h2 (by simp[opsIn,isSelect,h3,Op.operands,hr,hkx,hvx]) ht hk (by simp[compOd,hr]) (by simp[compOd,hkx]) (by simp[compOd,hvx]) hx hg hn hq hi hv hu1 hu2) h
theorem RL.mclr {r k g:Nat}{p:List Nat}(m:List (Int × AU))(ht:P.underlying t=some (.map kt et))(hr:r < nt)(hx:rd (fnL L) (.t r)=.mv k g p)(hg:(fnL L k).1=g)(hn:getN (fnL L k).2 p=some (.mp true () (flatM m)))(hq:ownQ (fnL L k).2 p=true)
  (h:RL P nt rest (updL L k (setN (fnL L k).2 p (.mp true () []))) K):RL P nt (.raw none (.call ⟨.builtin .clear,#[.tmp r],#[t]⟩) ty :: rest) L K :=
 RL.raw (fun C o hP hn' h2 h3 h4=>by
  subst hP hn'
  rw[← fnL_upd]
  exact ok_mclr (sz:=0) h3 h2 (by simp[opsIn,isSelect,h3,Op.operands,Call.operands,hr]) ht (by simp[compOd,hr]) hx hg hn hq) h
theorem rd_self {X:XF Unit}{n:Nat}(h:noOwn (X (100 * n)).2=true):rd X (.t n)=(X (100 * n)).2:=by
 simp only[rd,rdK]
 generalize (X (100 * n)).2=v at h ⊢
 cases v with
 | sl o l s n cs=>cases o<;>simp_all [noOwn,ldV]
 | bx o l cs=>cases o<;>simp_all [noOwn,ldV]
 | mp o l cs=>cases o<;>simp_all [noOwn,ldV]
 | _=>rfl
theorem roots_setN {v N N':AU}{p:List Nat}(hg:getN v p=some N)(hr:roots N'=[]):roots (setN v p N')=[]:=by
 cases p with
 | nil=>simpa only [setN] using hr
 | cons i p =>
  simp only[getN] at hg
  simp only[setN]
  cases v with
  | sl o l s n cs=>rfl
  | bx o l cs=>rfl
  | _=>simp only[AV.cells?,reduceCtorEq] at hg
theorem DL.mupd {K:SL→Fs→Prop}{fs:Fs}{r kx vx k g:Nat}{p:List Nat}{key:Int}{u:AU}(m:List (Int × AU))(ht:P.underlying t=some (.map kt et))(hk:P.underlying kt=some (.int .i64))(hr:r < nt)(hkx:kx < nt)(hvx:vx < nt)
  (hx:(fnL L (100 * r)).2=.mv k g p) (hg:(fnL L k).1=g) (hn:getN (fnL L k).2 p=some (.mp true () (flatM m))) (hq:ownQ (fnL L k).2 p=true) (hi:(fnL L (100 * kx)).2=.sc (.int .i64 key)) (hv:(fnL L (100 * vx)).2=u) (hu1:noOwn u=true) (hu2:treeV u=true)
  (hh:handB k=false) (h:DL P nt rest (updL L k (setN (fnL L k).2 p (.mp true () (flatM (mset key u m))))) (([unitK k,2 * r,2 * kx,2 * vx],[unitK k]) :: fs) K):DL P nt (.raw none (.mapUpdate t (.tmp r) (.tmp kx) (.tmp vx)) ty :: rest) L fs K :=
 DL.cons (it:=.raw none (.mapUpdate t (.tmp r) (.tmp kx) (.tmp vx)) ty) rfl (fun C ops i o hP hn' hc0 ho hit=>by
  subst hP hn'
  obtain⟨h1,h2,h3,h4⟩:=itOf_raw hit fun it h=>itOf0_kn h
  rw[← fnL_upd]
  refine⟨fun u hu=>by simp only[List.mem_singleton] at hu;subst hu;simp,fun j hj=>?_,fun j=>?_,fun X hX ha=>?_⟩
  ·rw[XF.upd_ne _ _ (fun e=>hj (by rw[e];simp))]
  ·by_cases e:j=k
   ·subst e
    refine⟨fun h=>absurd (hh.symm.trans h) (by decide),fun q hq'=>?_⟩
    rw[XF.upd_self] at hq'
    rw[roots_setN hn (by simp[roots])] at hq'
    cases hq'
   ·rw[XF.upd_ne _ _ e];exact hc0 j
  ·have ek:X k=fnL L k:=ha k (by simp)
   have er:X (100 * r)=fnL L (100 * r):=ha _ (by rw[unit_reg];simp)
   have ei:X (100 * kx)=fnL L (100 * kx):=ha _ (by rw[unit_reg];simp)
   have ev:X (100 * vx)=fnL L (100 * vx):=ha _ (by rw[unit_reg];simp)
   have hst:SOk C ops i X (X.upd k (setN (X k).2 p (.mp true () (flatM (mset key u m))))):=by
    refine SOk.op ho h1 (ok_mupd (sz:=0) (g:=g) (cm:=.t r) (ck:=.t kx) (cv:=.t vx) h3 h2 (by simp[opsIn,isSelect,h3,Op.operands,hr,hkx,hvx]) ht hk (by simp[compOd,hr]) (by simp[compOd,hkx]) (by simp[compOd,hvx]) ?_ (by rw[ek];exact hg) (by rw[ek];exact hn) (by rw[ek];exact hq) ?_ ?_ hu1 hu2)
    ·rw[rd_self (by rw[er,hx];rfl),er,hx]
    ·rw[rd_self (by rw[ei,hi];rfl),ei,hi]
    ·rw[rd_self (by rw[ev,hv];exact hu1),ev,hv]
   have e:mix [unitK k] ((fnL L).upd k (setN (fnL L k).2 p (.mp true () (flatM (mset key u m))))) X=X.upd k (setN (X k).2 p (.mp true () (flatM (mset key u m)))):=by
    funext j
    simp only[mix,List.mem_singleton]
    by_cases hj:j=k
    ·subst hj;rw[if_pos rfl,XF.upd_self,XF.upd_self,ek]
    ·rw[XF.upd_ne _ _ hj,XF.upd_ne _ _ hj]
     split
     ·rename_i hu
      exact (ha j (by rw[hu];simp)).symm
     ·rfl
   rw[e]
   exact hst) h
end
end Go.OT
namespace Go.OT
theorem hd_leaf' {N N':AL}(h1:N.cells?=none)(h2:hd N=none∨hd N=hd N')(h3:N'.cells?=none):∀ (p:List Nat) (v:AL),getN v p=some N→∀ q a,(getN v q).bind hd=some a→(getN (setN v p N') q).bind hd=some a
 | [],v,hg,q,a,ha=>by
  simp only[getN,Option.some.injEq] at hg
  subst hg
  cases q with
  | nil =>
   simp only[getN,setN,Option.bind_some] at ha ⊢
   rcases h2 with h2 | h2
   ·rw[h2] at ha;cases ha
   ·rw[← h2];exact ha
  | cons i q=>simp only[getN,h1,Option.bind_none,reduceCtorEq] at ha
 | i :: p,v,hg,q,a,ha=>by
  simp only[getN] at hg
  cases hc:v.cells? with
  | none=>simp only[hc,reduceCtorEq] at hg
  | some cs =>
   simp only[hc] at hg
   cases hi:cs[i]? with
   | none=>simp only[hi,reduceCtorEq] at hg
   | some c =>
    simp only[hi] at hg
    have hw:∀ cs',(v.withCells cs').cells?=some cs':=fun cs'=>by cases v<;>simp [AV.cells?] at hc<;>rfl
    have hh:∀ cs',hd (v.withCells cs')=hd v:=fun cs'=>by cases v<;>simp [AV.cells?] at hc<;>rfl
    have hs:setN v (i :: p) N'=v.withCells (cs.set i (setN c p N')):=by
     simp only[setN,hc];congr 3;simp[List.getD_eq_getElem?_getD,hi]
    rw[hs]
    cases q with
    | nil=>simpa only [getN,Option.bind_some,hh] using ha
    | cons j q =>
     simp only[getN,hc,hw] at ha ⊢
     by_cases e:j=i
     ·subst e
      rw[List.getElem?_set_self (List.getElem?_eq_some_iff.1 hi).1]
      simp only[hi] at ha
      exact hd_leaf' h1 h2 h3 p c hg q a ha
     ·rw[List.getElem?_set_ne (Ne.symm e)]
      exact ha
section
variable {C:Ctx} {X:XF LO} {β:Nat→Nat × Nat} {I:ASet} {rg:Nat→Value} {w:World}
theorem RelL.leaf (R:RelL C X β I rg w)(k:Nat)(p:List Nat){N N':AL}(hp:p ≠ [])(hg:getN (X k).2 p=some N)(ho:ownQ (X k).2 p=true)(h1:N.cells?=none)(h2:hd N=none∨hd N=hd N')(h3:N'.cells?=none)
  (hm:Mem w I N') (hs:Sep N') (hcr:∀ b o y,addr (X k).2 p=some (b,o)→w.at b o=some (.v y)→CR N' y)
  (hf:∀ b o,fp N' b o→fp N b o∨((∀ j,¬ kfp β X j b o)∧¬ I b o∧b < w.heap.size∧w.fz b o=false∧(w.at b o).isSome∧(C.K b o∨C.w0.heap.size≤b))) :
  RelL C (X.upd k (setN (X k).2 p N')) β I rg w:=by
 have hKk:=R.key k
 have r:=repl p (X k).2 hKk.mem hKk.sep ho hg
 obtain⟨ba,oa,ya,had,hfa,hna,hya,hca⟩:=r.ad hp
 have hnode:(X k).2.isNode=true:=by
  cases p with
  | nil=>exact absurd rfl hp
  | cons i p=>generalize (X k).2=V at hg;cases V<;>simp [getN,AV.cells?] at hg<;>rfl
 have hnon:(X k).2 ≠ .non:=isNode_ne_non hnode
 have hx:((X.upd k (setN (X k).2 p N')) k).2=setN (X k).2 p N':=by rw[XF.upd_self]
 have hfps:∀ b o,fp (setN (X k).2 p N') b o→fp (X k).2 b o∨((∀ j,¬ kfp β X j b o)∧¬ I b o∧b < w.heap.size∧w.fz b o=false∧(w.at b o).isSome∧(C.K b o∨C.w0.heap.size≤b)):=fun b o h=>by
  rcases r.fps _ b o h with h | h
  ·exact .inl h.1
  ·rcases hf b o h with h | h
   ·exact .inl (r.sub b o h)
   ·exact .inr h
 have hsub:∀ j b o,kfp β (X.upd k (setN (X k).2 p N')) j b o→kfp β X j b o∨(j=k∧(∀ j,¬ kfp β X j b o)∧¬ I b o∧b < w.heap.size∧w.fz b o=false∧(w.at b o).isSome∧(C.K b o∨C.w0.heap.size≤b)):=by
  intro j b o h
  by_cases e:j=k
  ·subst e
   rcases h with h | ⟨c1,c2,c3⟩
   ·rw[hx] at h
    rcases hfps b o h with h | h
    ·exact .inl (.inl h)
    ·exact .inr ⟨rfl,h⟩
   ·exact .inl (.inr ⟨c1,hnon,c3⟩)
  ·rw[kfp,XF.upd_ne _ _ e] at h
   exact .inl h
 have hKeep:Keeps X (X.upd k (setN (X k).2 p N')) β β:=by
  refine⟨fun j=>?_,fun j _ q a ha=>?_,fun _ _=>rfl⟩
  ·by_cases e:j=k
   ·subst e;simp[XF.upd]
   ·simp[XF.upd,e]
  ·by_cases e:j=k
   ·subst e
    rw[XF.upd_self]
    exact hd_leaf' h1 h2 h3 p _ hg q a ha
   ·rw[XF.upd_ne _ _ e];exact ha
 refine⟨fun t=>?_,fun j=>?_,fun a b hne b' o q1 q2=>?_,fun b o h=>⟨(R.imm b o h).1,fun j hj=>?_⟩,fun j b o h=>?_,R.frI,R.frI0,R.fr,R.gh,R.gr⟩
 ·by_cases e:100 * t=k
  ·rw[e,hx]
   have hreg:=R.reg t
   rw[e] at hreg
   refine RR_of_CR ((CR_setN hp).2 ?_)
   generalize (X k).2=V at hreg hnode
   cases V<;>simp [AV.isNode] at hnode<;>simpa [RR] using hreg
  ·rw[XF.upd_ne _ _ e]
   exact RR_keep hKeep _ _ (R.reg t)
 ·by_cases e:j=k
  ·subst e
   refine⟨?_,?_,?_,fun b o h=>?_,fun h99=>absurd (hKk.last h99) hnon⟩
   ·rw[hx]
    refine r.mems _ w I hm (fun b o hb'=>?_) (fun b o _ _ _=>rfl) (fun b o h=>⟨rfl,h⟩)
    rw[had] at hb'
    cases hb'
    exact⟨ya,hya,hcr _ _ ya had hya⟩
   ·rw[hx]
    refine r.seps _ hs (fun b o q1 q2=>?_)
    rcases hf b o q1 with h | h
    ·exact h
    ·exact absurd (.inl q2) (h.1 j)
   ·intro hc _
    obtain⟨⟨y,hy,hcy⟩,hnf⟩:=hKk.cell hc hnon
    rw[hx]
    have hcy:=hcy.cr (vw_node hnode)
    refine⟨⟨y,hy,.inl ((CR_setN hp).2 hcy)⟩,fun h=>?_⟩
    rcases hfps _ _ h with h | h
    ·exact hnf h
    ·exact h.1 j (.inr ⟨hc,hnon,rfl,rfl⟩)
   ·rcases hsub _ b o h with h | h
    ·exact hKk.live b o h
    ·exact⟨h.2.2.2.1,h.2.2.2.2.1,h.2.2.2.2.2.1⟩
  ·have h:=R.key j
   refine⟨by rw[XF.upd_ne _ _ e];exact h.mem,by rw[XF.upd_ne _ _ e];exact h.sep,?_,fun b o hb=>?_,by rw[XF.upd_ne _ _ e];exact h.last⟩
   ·rw[XF.upd_ne _ _ e]
    intro q1 q2
    obtain⟨⟨y,hy,hcy⟩,hnf⟩:=h.cell q1 q2
    exact⟨⟨y,hy,hcy.imp id fun h=>⟨h.1,RR_keep hKeep _ _ h.2⟩⟩,hnf⟩
   ·rcases hsub _ b o hb with hb | hb
    ·exact h.live b o hb
    ·exact absurd hb.1 e
 ·rcases hsub _ _ _ q1 with q1 | q1
  ·rcases hsub _ _ _ q2 with q2 | q2
   ·exact R.disj a b hne b' o q1 q2
   ·exact q2.2.1 a q1
  ·rcases hsub _ _ _ q2 with q2 | q2
   ·exact q1.2.1 b q2
   ·exact hne (q1.1.trans q2.1.symm)
 ·rcases hsub _ _ _ hj with hj | hj
  ·exact (R.imm b o h).2 j hj
  ·exact hj.2.2.1 h
 ·rcases hsub _ _ _ h with h | h
  ·exact R.frK j b o h
  ·exact h.2.2.2.2.2.2
end
end Go.OT
