/- Part 7 of the proof: see its last file. -/
import Derived.Orders
import Derived.Below
import Derived.Laws.Entries
import Derived.Laws.Cells
import Derived.Laws.IdiomCopy
import Derived.Scope
import Derived.Calls
import Derived.Laws.Tables
import Derived.Laws.MakeOwn
import Derived.Laws.BytesString
import Derived.ArgAppend
import Derived.WalkSpells
import Derived.Lib.SlBytesConst
import Derived.Lib.ConvBytes
import Derived.Test.YtlcemfnjhdcmoaaProg
import Derived.KernelRfl
import Derived.IntWalk
import Derived.Shelf.Spec.SlicesInsertGrow
import Derived.Test.YtlcemfnjhdcmoaaLg06
set_option linter.unusedSimpArgs false
set_option linter.unusedVariables false
namespace Go.OT
open Go.Proofs
def c3_0:Cd:=(.cond (.t 26) .skip (.exit 0))
def c3_1:Cd:=(.cond (.t 40) .skip (.exit 2))
def c3_2:Cd:=(.reg [41,42] [.o [.mov 41 (.t 9),.bin 42 .add (.t 41) (cI 1),.asg 9 (.t 42)]])
def c3_3:Cd:=(.seq (.block 3 (.reg [40,43,44,45,46,47,48,49,50,51] [.o [.mov 43 (.t 8),.mov 44 (.t 43)],.g 44 false [.mov 45 (.t 4),.mov 46 (.t 9),.iaddr 47 1 (.t 45) (.t 46),.ld 48 1 false (.t 47),.mov 49 (.t 7),.bin 50 .eql (.t 48) (.t 49)],.o [.pick 51 (.t 44) (cB true) (.t 50),.asg 8 (.t 51)]])) c3_2)
def c3_4:Cd:=(.seq (.seq (.reg [37,38,39] [.o [.mov 37 (.t 9),.mov 38 (.t 4),.len 39 (.t 38),.bin 40 .lss (.t 37) (.t 39)]]) c3_1) c3_3)
def c3_5:Cd:=(.block 2 (.loop c3_4))
def c3_6:Cd:=(.cond (.t 65) (.exit 1) .skip)
def c3_7:Cd:=(.reg [72,74,75,76,73,77,78] [.o [.ld 74 3 true (.t 3),.mov 75 (.t 7)],.call none 76 22 [(.t 74),(.t 75)],.o [.mov 73 (.t 76),.ext 77 73 0,.ext 78 73 1,.st 3 (.t 3) (.t 77),.asg 10 (.t 78)]])
def c3_8:Cd:=(.reg [72,80,81,82,79,83,84] [.o [.ld 80 3 true (.t 3),.mov 81 (.t 7)],.call none 82 23 [(.t 80),(.t 81)],.o [.mov 79 (.t 82),.ext 83 79 0,.ext 84 79 1,.st 3 (.t 3) (.t 83),.asg 10 (.t 84)]])
def c3_9:Cd:=(.cond (.t 72) c3_7 c3_8)
def c3_10:Cd:=(.seq (.reg [0,3,4,5,6,7,10,90] [.o [.asg 2 (cB false)]]) .ret)
def c3_11:Cd:=(.cond (.t 90) c3_10 .skip)
def c3_12:Cd:=(.reg [7,91,92,93,94,95,96,97,98,99,100] [.o [.mov 92 (.t 7),.mov 93 (.t 0),.mov 94 (.t 6),.iaddr 95 2 (.t 93) (.t 94),.faddr 96 0 (.t 95),.ld 97 1 false (.t 96),.bin 98 .and (.t 97) (cI 3),.bin 99 .add (cI 1) (.t 98),.aaddr 100 1 8 (.t 5) (.t 92),.st 1 (.t 100) (.t 99)]])
def c3_13:Cd:=(.reg [7,91,101,102,103,104] [.o [.mov 101 (.t 4),.mov 102 (.t 7),.bs1 103 1 (.t 102),.app 104 1 8 (.t 101) (.t 103),.asg 4 (.t 104)]])
def c3_14:Cd:=(.cond (.t 91) c3_12 c3_13)
def c3_15:Cd:=(.seq (.reg [10,90] [.o [.mov 91 (.t 10)]]) c3_14)
def c3_16:Cd:=(.seq (.seq (.reg [85,86,87,88,89] [.o [.mov 85 (.t 10),.mov 86 (.t 85)],.g 86 true [.mov 87 (.t 4),.len 88 (.t 87),.bin 89 .gtr (.t 88) (cI 0)],.o [.pick 90 (.t 86) (.t 89) (cB false)]]) c3_11) c3_15)
def c3_17:Cd:=(.seq (.seq (.reg [66,67,68,69,70,71] [.o [.mov 66 (.t 0),.mov 67 (.t 6),.iaddr 68 2 (.t 66) (.t 67),.faddr 69 0 (.t 68),.ld 70 1 false (.t 69),.bin 71 .and (.t 70) (cI 3),.bin 72 .eql (.t 71) (cI 0)]]) c3_9) c3_16)
def c3_18:Cd:=(.seq (.reg [65,10] [.o [.asg 10 (cB false)]]) c3_17)
def c3_19:Cd:=(.seq (.seq (.reg [8,58,59,60,61,62,63,64] [.o [.mov 59 (.t 7),.aaddr 60 1 8 (.t 5) (.t 59),.ld 61 1 false (.t 60),.bin 62 .gtr (.t 61) (cI 0),.mov 63 (.t 62)],.g 63 false [.mov 64 (.t 8)],.o [.pick 65 (.t 63) (cB true) (.t 64)]]) c3_6) c3_18)
def c3_20:Cd:=(.cond (.t 108) (.exit 1) .skip)
def c3_21:Cd:=(.seq (.reg [0,3,4,5,6,7,11,12,124] [.o [.asg 2 (cB false)]]) .ret)
def c3_22:Cd:=(.cond (.t 124) c3_21 .skip)
def c3_23:Cd:=(.cond (.t 131) .skip (.exit 4))
def c3_24:Cd:=(.seq (.reg [0,3,4,5,6,12,14,142] [.o [.asg 2 (cB false)]]) .ret)
def c3_25:Cd:=(.cond (.t 142) c3_24 .skip)
def c3_26:Cd:=(.reg [154,155,156,157,158,159] [.o [.mov 155 (.t 12),.mov 156 (.t 14),.iaddr 157 1 (.t 155) (.t 156),.ld 158 1 false (.t 157),.aaddr 159 1 8 (.t 5) (.t 158),.st 1 (.t 159) (cI 1)]])
def c3_27:Cd:=(.cond (.t 154) c3_26 .skip)
def c3_28:Cd:=(.seq (.draw [[],[0],[],[],[2,3],[4],[1,5]] [148,149,150,151,152,153] [.o [.faddr 148 0 (.t 3),.ld 149 1 false (.t 148),.mov 150 (.t 12),.mov 151 (.t 14),.iaddr 152 1 (.t 150) (.t 151),.ld 153 1 false (.t 152),.bin 154 .eql (.t 149) (.t 153)]]) c3_27)
def c3_29:Cd:=(.seq (.reg [142,143,144,145,146,147] [.o [.mov 143 (.t 12),.mov 144 (.t 14),.iaddr 145 1 (.t 143) (.t 144),.ld 146 1 false (.t 145),.aaddr 147 1 8 (.t 5) (.t 146),.st 1 (.t 147) (cI 2)]]) c3_28)
def c3_30:Cd:=(.reg [154,132,133] [.o [.mov 132 (.t 14),.bin 133 .add (.t 132) (cI 1),.asg 14 (.t 133)]])
def c3_31:Cd:=(.seq (.block 5 (.seq (.seq (.draw [[],[],[0,1],[2],[],[],[4,5],[6],[3,7]] [131,134,135,136,137,138,139,140,141] [.o [.mov 134 (.t 4),.mov 135 (.t 14),.iaddr 136 1 (.t 134) (.t 135),.ld 137 1 false (.t 136),.mov 138 (.t 12),.mov 139 (.t 14),.iaddr 140 1 (.t 138) (.t 139),.ld 141 1 false (.t 140),.bin 142 .neq (.t 137) (.t 141)]]) c3_25) c3_29)) c3_30)
def c3_32:Cd:=(.seq (.seq (.reg [128,129,130] [.o [.mov 128 (.t 14),.mov 129 (.t 12),.len 130 (.t 129),.bin 131 .lss (.t 128) (.t 130)]]) c3_23) c3_31)
def c3_33:Cd:=(.block 4 (.loop c3_32))
def c3_34:Cd:=(.reg [12,14,128,129,130,131,160,161,162,163] [.o [.mov 160 (.t 4),.mov 161 (.t 12),.len 162 (.t 161),.slice 163 1 (.t 160) (some (.t 162)) none,.asg 4 (.t 163)]])
def c3_35:Cd:=(.seq (.seq (.reg [] [.o [.asg 14 (cI 0)]]) c3_33) c3_34)
def c3_36:Cd:=(.seq (.reg [7,11,124,125,126,127] [.o [.mov 125 (.t 7),.ld 126 3 true (.t 11),.st 3 (.t 3) (.t 126),.aaddr 127 1 8 (.t 5) (.t 125),.st 1 (.t 127) (cI 0)]]) c3_35)
def c3_37:Cd:=(.seq (.seq (.reg [13,116,117,118,119,120,121,122,123] [.o [.mov 116 (.t 13),.bin 117 .neq (.t 116) (cI 0),.mov 118 (.t 117)],.g 118 false [.mov 119 (.t 12),.len 120 (.t 119),.mov 121 (.t 4),.len 122 (.t 121),.bin 123 .gtr (.t 120) (.t 122)],.o [.pick 124 (.t 118) (cB true) (.t 123)]]) c3_22) c3_36)
def c3_38:Cd:=(.seq (.reg [108,110,111,112,109,113,114,115] [.o [.ld 110 3 true (.t 3),.mov 111 (.t 7)],.call none 112 24 [(.t 110),(.t 111)],.o [.mov 109 (.t 112),.ext 113 109 0,.ext 114 109 1,.ext 115 109 2,.alloc 11 [(.sc (.int .i64 0)),(.sl true () 1 0 []),(.sl true () 1 0 [])],.st 3 (.t 11) (.t 113),.asg 12 (.t 114),.asg 13 (.t 115)]]) c3_37)
def c3_39:Cd:=(.seq (.seq (.reg [8,58,105,106,107] [.o [.mov 105 (.t 7),.aaddr 106 1 8 (.t 5) (.t 105),.ld 107 1 false (.t 106),.bin 108 .eql (.t 107) (cI 0)]]) c3_20) c3_38)
def c3_40:Cd:=(.cond (.t 58) c3_19 c3_39)
def c3_41:Cd:=(.cond (.t 165) .skip (.exit 6))
def c3_42:Cd:=(.reg [171,172,173] [.o [.mov 172 (.t 15),.bin 173 .add (.t 172) (cI 1),.asg 15 (.t 173)]])
def c3_43:Cd:=(.cond (.t 171) c3_42 .skip)
def c3_44:Cd:=(.reg [177,178,179] [.o [.mov 178 (.t 16),.bin 179 .add (.t 178) (cI 1),.asg 16 (.t 179)]])
def c3_45:Cd:=(.cond (.t 177) c3_44 .skip)
def c3_46:Cd:=(.seq (.reg [0,3,4,5,6,15,16,17,187] [.o [.asg 2 (cB false)]]) .ret)
def c3_47:Cd:=(.cond (.t 187) c3_46 .skip)
def c3_48:Cd:=(.seq (.draw [[],[],[0,1],[],[3],[4],[5],[2,6]] [177,180,181,182,183,184,185,186] [.o [.ld 180 3 true (.t 3),.mov 181 (.t 17)],.call none 182 25 [(.t 180),(.t 181)],.o [.mov 183 (.t 17),.aaddr 184 1 8 (.t 5) (.t 183),.ld 185 1 false (.t 184),.bin 186 .gtr (.t 185) (cI 0),.beq 187 false (.t 182) (.t 186)]]) c3_47)
def c3_49:Cd:=(.seq (.seq (.reg [171,174,175,176] [.o [.mov 174 (.t 17),.aaddr 175 1 8 (.t 5) (.t 174),.ld 176 1 false (.t 175),.bin 177 .eql (.t 176) (cI 2)]]) c3_45) c3_48)
def c3_50:Cd:=(.reg [187,166,167] [.o [.mov 166 (.t 17),.bin 167 .add (.t 166) (cI 1),.asg 17 (.t 167)]])
def c3_51:Cd:=(.seq (.block 7 (.seq (.seq (.reg [165,168,169,170] [.o [.mov 168 (.t 17),.aaddr 169 1 8 (.t 5) (.t 168),.ld 170 1 false (.t 169),.bin 171 .eql (.t 170) (cI 1)]]) c3_43) c3_49)) c3_50)
def c3_52:Cd:=(.seq (.seq (.reg [164] [.o [.mov 164 (.t 17),.bin 165 .lss (.t 164) (cI 8)]]) c3_41) c3_51)
def c3_53:Cd:=(.block 6 (.loop c3_52))
def c3_54:Cd:=(.seq (.reg [0,3,4,5,6,197] [.o [.asg 2 (cB false)]]) .ret)
def c3_55:Cd:=(.cond (.t 197) c3_54 .skip)
def c3_56:Cd:=(.seq (.reg [15,16,17,164,165,188,189,190,191,192,193,194,195,196] [.o [.mov 188 (.t 15),.bin 189 .gtr (.t 188) (cI 1),.mov 190 (.t 189)],.g 190 false [.mov 191 (.t 15),.bin 192 .eql (.t 191) (cI 1),.mov 193 (.t 192)],.g 193 true [.mov 194 (.t 16),.bin 195 .gtr (.t 194) (cI 0)],.g 190 false [.pick 196 (.t 193) (.t 195) (cB false)],.o [.pick 197 (.t 190) (cB true) (.t 196)]]) c3_55)
def c3_57:Cd:=(.seq (.seq (.reg [] [.o [.asg 17 (cI 0)]]) c3_53) c3_56)
def c3_58:Cd:=(.seq (.reg [] [.o [.asg 15 (cI 0),.asg 16 (cI 0)]]) c3_57)
def c3_59:Cd:=(.seq (.seq (.reg [9,37,38,39,40,52,53,54,55,56,57] [.o [.mov 52 (.t 0),.mov 53 (.t 6),.iaddr 54 2 (.t 52) (.t 53),.faddr 55 0 (.t 54),.ld 56 1 false (.t 55),.bin 57 .and (.t 56) (cI 3),.bin 58 .lss (.t 57) (cI 2)]]) c3_40) c3_58)
def c3_60:Cd:=(.seq (.seq (.reg [] [.o [.asg 9 (cI 0)]]) c3_5) c3_59)
def c3_61:Cd:=(.seq (.reg [] [.o [.asg 8 (cB false)]]) c3_60)
def c3_62:Cd:=(.reg [197,27,28] [.o [.mov 27 (.t 6),.bin 28 .add (.t 27) (cI 1),.asg 6 (.t 28)]])
def c3_63:Cd:=(.seq (.block 1 (.seq (.reg [26,29,30,31,32,33,34,35,36] [.o [.mov 29 (.t 0),.mov 30 (.t 6),.iaddr 31 2 (.t 29) (.t 30),.faddr 32 1 (.t 31),.ld 33 1 false (.t 32),.conv 34 .u64 (.t 33),.bin 35 .rem (.t 34) (.c (.sc (.int .u64 8))),.conv 36 .i64 (.t 35),.asg 7 (.t 36)]]) c3_61)) c3_62)
def c3_64:Cd:=(.seq (.seq (.reg [19,20,21,22,23,24,25] [.o [.mov 19 (.t 6),.mov 20 (.t 0),.len 21 (.t 20),.bin 22 .lss (.t 19) (.t 21),.mov 23 (.t 22)],.g 23 true [.mov 24 (.t 6),.bin 25 .lss (.t 24) (cI 100)],.o [.pick 26 (.t 23) (.t 25) (cB false)]]) c3_0) c3_63)
def c3_65:Cd:=(.block 0 (.loop c3_64))
def c3_66:Cd:=(.seq (.reg [0,3,4,5,6,19,20,21,22,23,24,25,26,198] [.call none 198 26 [],.o [.asg 2 (.t 198)]]) .ret)
def c3_67:Cd:=(.seq (.seq (.reg [] [.o [.asg 6 (cI 0)]]) c3_65) c3_66)
def c3_68:Cd:=(.seq (.reg [] [.o [.alloc 5 [(.sc (.int .i64 0)),(.sc (.int .i64 0)),(.sc (.int .i64 0)),(.sc (.int .i64 0)),(.sc (.int .i64 0)),(.sc (.int .i64 0)),(.sc (.int .i64 0)),(.sc (.int .i64 0))]]]) c3_67)
def c3_69:Cd:=(.seq (.reg [] [.o [.asg 4 (.c (.sl true () 1 0 []))]]) c3_68)
def c3_70:Cd:=(.seq (.reg [18] [.call none 18 21 [],.o [.alloc 3 [(.sc (.int .i64 0)),(.sl true () 1 0 []),(.sl true () 1 0 [])],.st 3 (.t 3) (.t 18)]]) c3_69)
def fi3:FI:=⟨199,1,[.t 2],(.seq (.reg [2] [.o [.asg 2 (cB false)]]) c3_70)⟩
theorem ok3:fiOk Try.prog 3 fi3:=⟨_,_,Try.func3,rfl,by kernel_rfl,by kernel_rfl,Try.call3⟩
def c4_0:Cd:=(.cond (.t 29) .skip (.exit 0))
def c4_1:Cd:=(.seq (.reg [1,5,6,7,39] [.o [.asg 4 (cB false)]]) .ret)
def c4_2:Cd:=(.cond (.t 39) c4_1 .skip)
def c4_3:Cd:=(.seq (.reg [8,38] [.o [.mov 38 (.t 8),.un 39 .not (.t 38)]]) c4_2)
def c4_4:Cd:=(.seq (.reg [33,34,35,32,36,37] [.o [.ld 33 3 true (.t 6),.mov 34 (.t 7)],.call none 35 23 [(.t 33),(.t 34)],.o [.mov 32 (.t 35),.ext 36 32 0,.ext 37 32 1,.st 3 (.t 6) (.t 36),.asg 8 (.t 37)]]) c4_3)
def c4_5:Cd:=(.reg [39,30,31] [.o [.mov 30 (.t 7),.bin 31 .add (.t 30) (cI 1),.asg 7 (.t 31)]])
def c4_6:Cd:=(.seq (.block 1 (.seq (.reg [29,8] [.o [.asg 8 (cB false)]]) c4_4)) c4_5)
def c4_7:Cd:=(.seq (.seq (.reg [27,28] [.o [.mov 27 (.t 7),.mov 28 (.t 5),.bin 29 .lss (.t 27) (.t 28)]]) c4_0) c4_6)
def c4_8:Cd:=(.block 0 (.loop c4_7))
def c4_9:Cd:=(.seq (.reg [1,5,6,53] [.o [.asg 4 (cB false)]]) .ret)
def c4_10:Cd:=(.cond (.t 53) c4_9 .skip)
def c4_11:Cd:=(.cond (.t 63) .skip (.exit 2))
def c4_12:Cd:=(.reg [71,72,73,74,75,76,77,78] [.o [.mov 72 (.t 1),.mov 73 (.t 13),.iaddr 74 1 (.t 72) (.t 73),.ld 75 1 false (.t 74),.conv 76 .u64 (.t 75),.bin 77 .rem (.t 76) (.c (.sc (.int .u64 20))),.conv 78 .i64 (.t 77),.asg 14 (.t 78)]])
def c4_13:Cd:=(.cond (.t 71) c4_12 .skip)
def c4_14:Cd:=(.cond (.t 86) (.exit 3) .skip)
def c4_15:Cd:=(.seq (.reg [1,5,6,11,12,13,15,112] [.o [.asg 4 (cB false)]]) .ret)
def c4_16:Cd:=(.cond (.t 112) c4_15 .skip)
def c4_17:Cd:=(.seq (.reg [1,5,6,11,12,13,115,116] [.call none 116 26 [],.o [.asg 4 (.t 116)]]) .ret)
def c4_18:Cd:=(.cond (.t 115) c4_17 .skip)
def c4_19:Cd:=(.seq (.reg [114] [.o [.mov 114 (.t 13),.bin 115 .gtr (.t 114) (cI 200)]]) c4_18)
def c4_20:Cd:=(.seq (.reg [15,112,113] [.o [.ld 113 3 true (.t 15),.st 3 (.t 6) (.t 113)]]) c4_19)
def c4_21:Cd:=(.seq (.seq (.reg [16,17,98,99,100,101,102,103,104,105,106,107,108,109,110,111] [.o [.mov 98 (.t 17),.bin 99 .neq (.t 98) (cI 0),.mov 100 (.t 99)],.g 100 false [.mov 101 (.t 16),.len 102 (.t 101),.bin 103 .eql (.t 102) (cI 1),.mov 104 (.t 11),.bin 105 .eql (.t 104) (cI 0),.beq 106 false (.t 103) (.t 105)],.o [.pick 107 (.t 100) (cB true) (.t 106),.mov 108 (.t 107)],.g 108 false [.mov 109 (.t 16),.len 110 (.t 109),.bin 111 .gtr (.t 110) (cI 1)],.o [.pick 112 (.t 108) (cB true) (.t 111)]]) c4_16) c4_20)
def c4_22:Cd:=(.seq (.reg [14,96,97] [.o [.mov 96 (.t 14),.aaddr 97 1 20 (.t 12) (.t 96),.st 1 (.t 97) (cB true)]]) c4_21)
def c4_23:Cd:=(.seq (.reg [94,95] [.o [.mov 94 (.t 11),.bin 95 .sub (.t 94) (cI 1),.asg 11 (.t 95)]]) c4_22)
def c4_24:Cd:=(.seq (.reg [86,88,89,90,87,91,92,93] [.o [.ld 88 3 true (.t 6),.mov 89 (.t 14)],.call none 90 24 [(.t 88),(.t 89)],.o [.mov 87 (.t 90),.ext 91 87 0,.ext 92 87 1,.ext 93 87 2,.alloc 15 [(.sc (.int .i64 0)),(.sl true () 1 0 []),(.sl true () 1 0 [])],.st 3 (.t 15) (.t 91),.asg 16 (.t 92),.asg 17 (.t 93)]]) c4_23)
def c4_25:Cd:=(.seq (.seq (.reg [71,79,80,81,82,83,84,85] [.o [.mov 79 (.t 14),.mov 80 (.t 5),.bin 81 .geq (.t 79) (.t 80),.mov 82 (.t 81)],.g 82 false [.mov 83 (.t 14),.aaddr 84 1 20 (.t 12) (.t 83),.ld 85 1 false (.t 84)],.o [.pick 86 (.t 82) (cB true) (.t 85)]]) c4_14) c4_24)
def c4_26:Cd:=(.seq (.seq (.reg [68,69,70] [.o [.mov 68 (.t 13),.mov 69 (.t 1),.len 70 (.t 69),.bin 71 .lss (.t 68) (.t 70)]]) c4_13) c4_25)
def c4_27:Cd:=(.reg [115,64,65] [.o [.mov 64 (.t 13),.bin 65 .add (.t 64) (cI 1),.asg 13 (.t 65)]])
def c4_28:Cd:=(.seq (.block 3 (.seq (.reg [63,66,67] [.o [.mov 66 (.t 13),.bin 67 .rem (.t 66) (cI 20),.asg 14 (.t 67)]]) c4_26)) c4_27)
def c4_29:Cd:=(.seq (.seq (.reg [55,56,57,58,59,60,61,62] [.o [.mov 55 (.t 11),.bin 56 .gtr (.t 55) (cI 0),.mov 57 (.t 56)],.g 57 true [.mov 58 (.t 13),.mov 59 (.t 1),.len 60 (.t 59),.bin 61 .add (cI 20) (.t 60),.bin 62 .lss (.t 58) (.t 61)],.o [.pick 63 (.t 57) (.t 62) (cB false)]]) c4_11) c4_28)
def c4_30:Cd:=(.block 2 (.loop c4_29))
def c4_31:Cd:=(.seq (.reg [6,118,119] [.call none 119 26 [],.o [.asg 4 (.t 119)]]) .ret)
def c4_32:Cd:=(.cond (.t 118) c4_31 .skip)
def c4_33:Cd:=(.seq (.reg [6,18,19,20,126,127,128,129,130,131,132,133,134,135,136,137,138,139,140,141,142,143,144,145,146,147,148,149] [.call none 126 26 [],.o [.mov 127 (.t 126)],.g 127 true [.ld 128 3 true (.t 6)],.call (some (127,true)) 129 25 [(.t 128),(cI 30)],.o [.pick 130 (.t 127) (.t 129) (cB false),.mov 131 (.t 130)],.g 131 true [.mov 132 (.t 20),.bin 133 .eql (.t 132) (cI 0)],.o [.pick 134 (.t 131) (.t 133) (cB false),.mov 135 (.t 134)],.g 135 true [.mov 136 (.t 19),.len 137 (.t 136),.bin 138 .eql (.t 137) (cI 1)],.o [.pick 139 (.t 135) (.t 138) (cB false),.mov 140 (.t 139)],.g 140 true [.mov 141 (.t 19),.iaddr 142 1 (.t 141) (cI 0),.ld 143 1 false (.t 142),.bin 144 .eql (.t 143) (cI 31)],.o [.pick 145 (.t 140) (.t 144) (cB false),.mov 146 (.t 145)],.g 146 true [.ld 147 3 true (.t 18)],.call (some (146,true)) 148 25 [(.t 147),(cI 31)],.o [.pick 149 (.t 146) (.t 148) (cB false),.asg 4 (.t 149)]]) .ret)
def c4_34:Cd:=(.seq (.reg [118,121,122,120,123,124,125] [.o [.ld 121 3 true (.t 6)],.call none 122 24 [(.t 121),(cI 30)],.o [.mov 120 (.t 122),.ext 123 120 0,.ext 124 120 1,.ext 125 120 2,.alloc 18 [(.sc (.int .i64 0)),(.sl true () 1 0 []),(.sl true () 1 0 [])],.st 3 (.t 18) (.t 123),.asg 19 (.t 124),.asg 20 (.t 125)]]) c4_33)
def c4_35:Cd:=(.seq (.seq (.reg [1,5,11,12,13,55,56,57,58,59,60,61,62,63,117] [.o [.mov 117 (.t 11),.bin 118 .gtr (.t 117) (cI 0)]]) c4_32) c4_34)
def c4_36:Cd:=(.seq (.seq (.reg [] [.o [.asg 13 (cI 0)]]) c4_30) c4_35)
def c4_37:Cd:=(.seq (.reg [] [.o [.alloc 12 [(.sc (.bool false)),(.sc (.bool false)),(.sc (.bool false)),(.sc (.bool false)),(.sc (.bool false)),(.sc (.bool false)),(.sc (.bool false)),(.sc (.bool false)),(.sc (.bool false)),(.sc (.bool false)),(.sc (.bool false)),(.sc (.bool false)),(.sc (.bool false)),(.sc (.bool false)),(.sc (.bool false)),(.sc (.bool false)),(.sc (.bool false)),(.sc (.bool false)),(.sc (.bool false)),(.sc (.bool false))]]]) c4_36)
def c4_38:Cd:=(.seq (.reg [53,54] [.o [.mov 54 (.t 5),.asg 11 (.t 54)]]) c4_37)
def c4_39:Cd:=(.seq (.seq (.reg [9,10,50,51,52] [.o [.mov 50 (.t 9),.mov 51 (.t 50)],.g 51 false [.mov 52 (.t 10)],.o [.pick 53 (.t 51) (cB true) (.t 52)]]) c4_10) c4_38)
def c4_40:Cd:=(.seq (.reg [46,47,45,48,49] [.o [.ld 46 3 true (.t 6)],.call none 47 23 [(.t 46),(cI 31)],.o [.mov 45 (.t 47),.ext 48 45 0,.ext 49 45 1,.st 3 (.t 6) (.t 48),.asg 10 (.t 49)]]) c4_39)
def c4_41:Cd:=(.seq (.reg [7,27,28,29,41,42,40,43,44] [.o [.ld 41 3 true (.t 6)],.call none 42 22 [(.t 41),(cI 30)],.o [.mov 40 (.t 42),.ext 43 40 0,.ext 44 40 1,.st 3 (.t 6) (.t 43),.asg 9 (.t 44)]]) c4_40)
def c4_42:Cd:=(.seq (.seq (.reg [] [.o [.asg 7 (cI 0)]]) c4_8) c4_41)
def c4_43:Cd:=(.seq (.reg [26] [.call none 26 21 [],.o [.alloc 6 [(.sc (.int .i64 0)),(.sl true () 1 0 []),(.sl true () 1 0 [])],.st 3 (.t 6) (.t 26)]]) c4_42)
def c4_44:Cd:=(.seq (.reg [0,21,22,23,24,25] [.o [.mov 21 (.t 0),.conv 22 .u64 (.t 21),.bin 23 .rem (.t 22) (.c (.sc (.int .u64 20))),.conv 24 .i64 (.t 23),.bin 25 .add (cI 1) (.t 24),.asg 5 (.t 25)]]) c4_43)
def fi4:FI:=⟨150,2,[.t 4],(.seq (.reg [4] [.o [.asg 4 (cB false)]]) c4_44)⟩
theorem ok4:fiOk Try.prog 4 fi4:=⟨_,_,Try.func4,rfl,by kernel_rfl,by kernel_rfl,Try.call4⟩
def c21_0:Cd:=(.seq (.reg [1] [.o [.build 1 [(.sc (.int .i64 0)),(.sc (.slice none 0 0)),(.sc (.slice none 0 0))] [(0,1,(cI (-1)))],.st 3 (.t 0) (.t 1)]]) .ret)
def fi21:FI:=⟨2,0,[.cell 0 3 true],(.seq (.reg [] [.o [.alloc 0 [(.sc (.int .i64 0)),(.sl true () 1 0 []),(.sl true () 1 0 [])]]]) c21_0)⟩
theorem ok21:fiOk Try.prog 21 fi21:=⟨_,_,Try.func21,rfl,by kernel_rfl,by kernel_rfl,Try.call21⟩
def c22_0:Cd:=(.seq (.reg [1,2,6,7,8,9,10] [.o [.ld 6 3 true (.t 2),.mov 7 (.t 1)],.call none 8 78 [(.t 6),(.t 7),(cB false)],.o [.ext 9 8 0,.ext 10 8 1,.st 3 (.t 4) (.t 9),.asg 5 (.t 10)]]) .ret)
def fi22:FI:=⟨11,2,[.cell 4 3 true,.t 5],(.seq (.reg [0,5] [.o [.box 2 (.t 0),.alloc 4 [(.sc (.int .i64 0)),(.sl true () 1 0 []),(.sl true () 1 0 [])],.asg 5 (cB false)]]) c22_0)⟩
theorem ok22:fiOk Try.prog 22 fi22:=⟨_,_,Try.func22,rfl,by kernel_rfl,by kernel_rfl,Try.call22⟩
def c23_0:Cd:=(.seq (.reg [1,2,6,7,8,9,10] [.o [.ld 6 3 true (.t 2),.mov 7 (.t 1)],.call none 8 78 [(.t 6),(.t 7),(cB true)],.o [.ext 9 8 0,.ext 10 8 1,.st 3 (.t 4) (.t 9),.asg 5 (.t 10)]]) .ret)
def fi23:FI:=⟨11,2,[.cell 4 3 true,.t 5],(.seq (.reg [0,5] [.o [.box 2 (.t 0),.alloc 4 [(.sc (.int .i64 0)),(.sl true () 1 0 []),(.sl true () 1 0 [])],.asg 5 (cB false)]]) c23_0)⟩
theorem ok23:fiOk Try.prog 23 fi23:=⟨_,_,Try.func23,rfl,by kernel_rfl,by kernel_rfl,Try.call23⟩
def c24_0:Cd:=(.seq (.reg [2,3,10,14] [.o [.ld 14 3 true (.t 2),.st 3 (.t 4) (.t 14),.asg 5 (.c (.sl true () 1 0 [])),.asg 6 (cI 1)]]) .ret)
def c24_1:Cd:=(.seq (.reg [2,3,15,20] [.o [.ld 20 3 true (.t 2),.st 3 (.t 4) (.t 20),.asg 5 (.c (.sl true () 1 0 [])),.asg 6 (cI 12)]]) .ret)
def c24_2:Cd:=(.cond (.t 15) c24_1 .skip)
def c24_3:Cd:=(.seq (.reg [10,16,17,18,19] [.o [.ld 16 3 true (.t 2),.ld 17 1 false (.t 3)],.call none 18 25 [(.t 16),(.t 17)],.o [.un 19 .not (.t 18),.asg 15 (.t 19)]]) c24_2)
def c24_4:Cd:=(.cond (.t 10) c24_0 c24_3)
def c24_5:Cd:=(.reg [26,27] [.o [.faddr 27 0 (.t 2),.st 1 (.t 27) (cI (-1))]])
def c24_6:Cd:=(.cond (.t 26) c24_5 .skip)
def c24_7:Cd:=(.cond (.t 36) .skip (.exit 1))
def c24_8:Cd:=(.cond (.t 48) (.exit 1) .skip)
def c24_9:Cd:=(.reg [8,57,58,59,60] [.o [.mov 57 (.t 7),.mov 58 (.t 8),.bs1 59 1 (.t 58),.app 60 1 8 (.t 57) (.t 59),.asg 7 (.t 60)]])
def c24_10:Cd:=(.seq (.reg [9,53,54,55,56] [.o [.ld 53 3 true (.t 2),.mov 54 (.t 8),.mov 55 (.t 9)],.call none 56 85 [(.t 53),(.t 54),(.t 55)],.o [.st 3 (.t 2) (.t 56)]]) c24_9)
def c24_11:Cd:=(.seq (.reg [48,49,50,51,52] [.o [.faddr 49 2 (.t 2),.ld 50 1 false (.t 49),.slice 51 1 (.t 50) (some (cI 1)) none,.faddr 52 2 (.t 2),.st 1 (.t 52) (.t 51)]]) c24_10)
def c24_12:Cd:=(.seq (.seq (.reg [45,46,47] [.o [.ld 45 3 true (.t 2),.mov 46 (.t 9)],.call none 47 84 [(.t 45),(.t 46)],.o [.un 48 .not (.t 47)]]) c24_8) c24_11)
def c24_13:Cd:=(.block 2 (.seq (.reg [36,38,39,40,41,42,37,43,44] [.o [.faddr 38 2 (.t 2),.ld 39 1 false (.t 38),.iaddr 40 1 (.t 39) (cI 0),.ld 41 1 false (.t 40)],.call none 42 83 [(.t 41)],.o [.mov 37 (.t 42),.ext 43 37 0,.ext 44 37 1,.asg 8 (.t 43),.asg 9 (.t 44)]]) c24_12))
def c24_14:Cd:=(.seq (.seq (.reg [33,34,35] [.o [.faddr 33 2 (.t 2),.ld 34 1 false (.t 33),.len 35 (.t 34),.bin 36 .gtr (.t 35) (cI 0)]]) c24_7) c24_13)
def c24_15:Cd:=(.seq (.reg [2,7,33,34,35,36,61,62] [.o [.ld 61 3 true (.t 2),.mov 62 (.t 7),.st 3 (.t 4) (.t 61),.asg 5 (.t 62),.asg 6 (cI 0)]]) .ret)
def c24_16:Cd:=(.seq (.block 1 (.loop c24_14)) c24_15)
def c24_17:Cd:=(.seq (.label 0) c24_16)
def c24_18:Cd:=(.seq (.reg [] [.o [.asg 7 (.c (.sl true () 1 0 []))]]) c24_17)
def c24_19:Cd:=(.seq (.reg [3,26,28,29,30,31,32] [.o [.faddr 28 1 (.t 2),.ld 29 1 false (.t 28),.mkf 30 82 [(.t 3)]],.call none 31 81 [(.t 29),(.t 30)],.o [.faddr 32 1 (.t 2),.st 1 (.t 32) (.t 31)]]) c24_18)
def c24_20:Cd:=(.seq (.seq (.reg [23,24,25] [.o [.faddr 23 0 (.t 2),.ld 24 1 false (.t 23),.ld 25 1 false (.t 3),.bin 26 .eql (.t 24) (.t 25)]]) c24_6) c24_19)
def c24_21:Cd:=(.seq (.reg [15,21,22] [.o [.ld 21 3 true (.t 2)],.call none 22 80 [(.t 21)],.o [.st 3 (.t 2) (.t 22)]]) c24_20)
def c24_22:Cd:=(.scope (.seq (.block 0 (.seq (.reg [11,12,13] [.o [.ld 11 3 true (.t 2)],.call none 12 79 [(.t 11)],.o [.un 13 .not (.t 12),.asg 10 (.t 13)]]) c24_4)) c24_21))
def fi24:FI:=⟨63,2,[.cell 4 3 true,.t 5,.t 6],(.seq (.reg [0,1,5,6] [.o [.box 2 (.t 0),.box 3 (.t 1),.alloc 4 [(.sc (.int .i64 0)),(.sl true () 1 0 []),(.sl true () 1 0 [])],.asg 5 (.c (.sl true () 1 0 [])),.asg 6 (cI 0)]]) c24_22)⟩
theorem ok24:fiOk Try.prog 24 fi24:=⟨_,_,Try.func24,rfl,by kernel_rfl,by kernel_rfl,Try.call24⟩
def c25_0:Cd:=(.seq (.reg [1,2,5,6,7,8,9,10,11,12,13,14,15,16,17,18] [.o [.mov 5 (.t 1),.bin 6 .geq (.t 5) (cI 0),.mov 7 (.t 6)],.g 7 true [.faddr 8 0 (.t 2),.ld 9 1 false (.t 8),.mov 10 (.t 1),.bin 11 .eql (.t 9) (.t 10)],.o [.pick 12 (.t 7) (.t 11) (cB false),.mov 13 (.t 12)],.g 13 false [.faddr 14 1 (.t 2),.ld 15 1 false (.t 14),.mov 16 (.t 1)],.call (some (13,false)) 17 86 [(.t 15),(.t 16)],.o [.pick 18 (.t 13) (cB true) (.t 17),.asg 4 (.t 18)]]) .ret)
def fi25:FI:=⟨19,2,[.t 4],(.seq (.reg [0,4] [.o [.box 2 (.t 0),.asg 4 (cB false)]]) c25_0)⟩
theorem ok25:fiOk Try.prog 25 fi25:=⟨_,_,Try.func25,rfl,by kernel_rfl,by kernel_rfl,Try.call25⟩
def c26_0:Cd:=(.seq (.reg [1,2,3,4,6,7,8,9,12,40,41,42,43,44,45,46,47,48,49,50,51,52,53,54,55,56,57,58,59,60,61,62,63,64,65,66,67,68,69,70,71,72,73,74,75,76,77,78,79,80,81,82,83,84,85,86,87,88,89,90,91,92,93,94,95,96,97,98,99,100,101,102,103,104,105,106,107,108,109,110,111,112,113,114,115,116,117,118,119,120,121,122,123,124,125,126,127,128,129] [.o [.mov 40 (.t 2),.mov 41 (.t 40)],.g 41 true [.faddr 42 0 (.t 1),.ld 43 1 false (.t 42),.bin 44 .eql (.t 43) (cI 1)],.o [.pick 45 (.t 41) (.t 44) (cB false),.mov 46 (.t 45)],.g 46 true [.mov 47 (.t 4),.un 48 .not (.t 47)],.o [.pick 49 (.t 46) (.t 48) (cB false),.mov 50 (.t 49)],.g 50 true [.faddr 51 2 (.t 3),.ld 52 1 false (.t 51),.len 53 (.t 52),.bin 54 .eql (.t 53) (cI 1)],.o [.pick 55 (.t 50) (.t 54) (cB false),.mov 56 (.t 55)],.g 56 true [.faddr 57 2 (.t 3),.ld 58 1 false (.t 57),.iaddr 59 1 (.t 58) (cI 0),.ld 60 1 false (.t 59),.bin 61 .eql (.t 60) (cI (-4))],.o [.pick 62 (.t 56) (.t 61) (cB false),.mov 63 (.t 62)],.g 63 true [.mov 64 (.t 6),.un 65 .not (.t 64)],.o [.pick 66 (.t 63) (.t 65) (cB false),.mov 67 (.t 66)],.g 67 true [.mov 68 (.t 9),.bin 69 .eql (.t 68) (cI 0)],.o [.pick 70 (.t 67) (.t 69) (cB false),.mov 71 (.t 70)],.g 71 true [.mov 72 (.t 8),.len 73 (.t 72),.bin 74 .eql (.t 73) (cI 2)],.o [.pick 75 (.t 71) (.t 74) (cB false),.mov 76 (.t 75)],.g 76 true [.mov 77 (.t 8),.iaddr 78 1 (.t 77) (cI 0),.ld 79 1 false (.t 78),.bin 80 .eql (.t 79) (cI 2)],.o [.pick 81 (.t 76) (.t 80) (cB false),.mov 82 (.t 81)],.g 82 true [.mov 83 (.t 8),.iaddr 84 1 (.t 83) (cI 1),.ld 85 1 false (.t 84),.bin 86 .eql (.t 85) (cI 3)],.o [.pick 87 (.t 82) (.t 86) (cB false),.mov 88 (.t 87)],.g 88 true [.faddr 89 1 (.t 7),.ld 90 1 false (.t 89),.len 91 (.t 90),.bin 92 .eql (.t 91) (cI 2)],.o [.pick 93 (.t 88) (.t 92) (cB false),.mov 94 (.t 93)],.g 94 true [.mov 95 (.t 12),.bin 96 .eql (.t 95) (cI 12)],.o [.pick 97 (.t 94) (.t 96) (cB false),.mov 98 (.t 97)],.g 98 true [.ld 99 3 true (.t 7)],.call (some (98,true)) 100 79 [(.t 99)],.o [.pick 101 (.t 98) (.t 100) (cB false),.mov 102 (.t 101)],.g 102 true [.ld 103 3 true (.t 7)],.call (some (102,true)) 104 25 [(.t 103),(cI 3)],.o [.pick 105 (.t 102) (.t 104) (cB false),.mov 106 (.t 105)],.g 106 true [.ld 107 3 true (.t 7)],.call (some (106,true)) 108 25 [(.t 107),(cI 1)],.g 106 true [.un 109 .not (.t 108)],.o [.pick 110 (.t 106) (.t 109) (cB false),.mov 111 (.t 110)],.g 111 true [.build 112 [(.sc (.int .i64 0)),(.sc (.slice none 0 0)),(.sc (.slice none 0 0))] []],.call (some (111,true)) 113 25 [(.t 112),(cI 0)],.o [.pick 114 (.t 111) (.t 113) (cB false),.mov 115 (.t 114)],.g 115 true [.build 116 [(.sc (.int .i64 0)),(.sc (.slice none 0 0)),(.sc (.slice none 0 0))] []],.call (some (115,true)) 117 79 [(.t 116)],.o [.pick 118 (.t 115) (.t 117) (cB false),.mov 119 (.t 118)],.g 119 true [.bs1 120 1 (cI 3),.build 121 [(.sc (.int .i64 0)),(.sc (.slice none 0 0)),(.sc (.slice none 0 0))] [(0,1,(cI (-1))),(2,1,(.t 120))]],.call (some (119,true)) 122 79 [(.t 121)],.g 119 true [.un 123 .not (.t 122)],.o [.pick 124 (.t 119) (.t 123) (cB false),.mov 125 (.t 124)],.g 125 true [.ld 126 3 true (.t 7),.ld 127 3 true (.t 7)],.call (some (125,true)) 128 87 [(.t 126),(.t 127)],.o [.pick 129 (.t 125) (.t 128) (cB false),.asg 0 (.t 129)]]) .ret)
def c26_1:Cd:=(.seq (.reg [35,36,34,37,38,39,10,11] [.o [.ld 35 3 true (.t 7)],.call none 36 24 [(.t 35),(cI 1)],.o [.mov 34 (.t 36),.ext 37 34 0,.ext 38 34 1,.ext 39 34 2,.alloc 10 [(.sc (.int .i64 0)),(.sl true () 1 0 []),(.sl true () 1 0 [])],.st 3 (.t 10) (.t 37),.asg 11 (.t 38),.asg 12 (.t 39)]]) c26_0)
def c26_2:Cd:=(.seq (.reg [5,29,30,28,31,32,33] [.o [.ld 29 3 true (.t 5)],.call none 30 24 [(.t 29),(cI 1)],.o [.mov 28 (.t 30),.ext 31 28 0,.ext 32 28 1,.ext 33 28 2,.alloc 7 [(.sc (.int .i64 0)),(.sl true () 1 0 []),(.sl true () 1 0 [])],.st 3 (.t 7) (.t 31),.asg 8 (.t 32),.asg 9 (.t 33)]]) c26_1)
def c26_3:Cd:=(.seq (.reg [24,25,23,26,27] [.o [.ld 24 3 true (.t 3)],.call none 25 23 [(.t 24),(cI 3)],.o [.mov 23 (.t 25),.ext 26 23 0,.ext 27 23 1,.alloc 5 [(.sc (.int .i64 0)),(.sl true () 1 0 []),(.sl true () 1 0 [])],.st 3 (.t 5) (.t 26),.asg 6 (.t 27)]]) c26_2)
def c26_4:Cd:=(.seq (.reg [19,20,18,21,22] [.o [.ld 19 3 true (.t 1)],.call none 20 23 [(.t 19),(cI 2)],.o [.mov 18 (.t 20),.ext 21 18 0,.ext 22 18 1,.alloc 3 [(.sc (.int .i64 0)),(.sl true () 1 0 []),(.sl true () 1 0 [])],.st 3 (.t 3) (.t 21),.asg 4 (.t 22)]]) c26_3)
def c26_5:Cd:=(.seq (.reg [14,15,13,16,17] [.call none 14 21 [],.call none 15 22 [(.t 14),(cI 1)],.o [.mov 13 (.t 15),.ext 16 13 0,.ext 17 13 1,.alloc 1 [(.sc (.int .i64 0)),(.sl true () 1 0 []),(.sl true () 1 0 [])],.st 3 (.t 1) (.t 16),.asg 2 (.t 17)]]) c26_4)
def fi26:FI:=⟨130,0,[.t 0],(.seq (.reg [0] [.o [.asg 0 (cB false)]]) c26_5)⟩
theorem ok26:fiOk Try.prog 26 fi26:=⟨_,_,Try.func26,rfl,by kernel_rfl,by kernel_rfl,Try.call26⟩
def c78_0:Cd:=(.seq (.reg [1,2,3,25,26] [.o [.ld 26 3 true (.t 3),.st 3 (.t 6) (.t 26),.asg 7 (cB false)]]) .ret)
def c78_1:Cd:=(.cond (.t 25) c78_0 .skip)
def c78_2:Cd:=(.seq (.reg [1,2,3,37,38,39,40,41] [.o [.ld 38 3 true (.t 3),.mov 39 (.t 1),.mov 40 (.t 2)],.call none 41 85 [(.t 38),(.t 39),(.t 40)],.o [.st 3 (.t 6) (.t 41),.asg 7 (cB true)]]) .ret)
def c78_3:Cd:=(.cond (.t 37) c78_2 .skip)
def c78_4:Cd:=(.reg [42,43,44] [.o [.mov 43 (.t 1),.bin 44 .sub (cI (-2)) (.t 43),.asg 1 (.t 44)]])
def c78_5:Cd:=(.cond (.t 42) c78_4 .skip)
def c78_6:Cd:=(.seq (.reg [3,51] [.o [.ld 51 3 true (.t 3),.st 3 (.t 6) (.t 51),.asg 7 (cB false)]]) .ret)
def c78_7:Cd:=(.seq (.reg [1,42,45,46,47,48,49,50] [.o [.faddr 45 2 (.t 3),.ld 46 1 false (.t 45),.mov 47 (.t 1),.bs1 48 1 (.t 47),.app 49 1 8 (.t 46) (.t 48),.faddr 50 2 (.t 3),.st 1 (.t 50) (.t 49)]]) c78_6)
def c78_8:Cd:=(.seq (.seq (.reg [2,37] [.o [.mov 42 (.t 2)]]) c78_5) c78_7)
def c78_9:Cd:=(.seq (.seq (.reg [29,30,31,32,33,34,35,36] [.o [.faddr 29 2 (.t 3),.ld 30 1 false (.t 29),.len 31 (.t 30),.bin 32 .eql (.t 31) (cI 0),.mov 33 (.t 32)],.g 33 true [.ld 34 3 true (.t 3),.mov 35 (.t 2)],.call (some (33,true)) 36 84 [(.t 34),(.t 35)],.o [.pick 37 (.t 33) (.t 36) (cB false)]]) c78_3) c78_8)
def c78_10:Cd:=(.seq (.reg [25,27,28] [.o [.ld 27 3 true (.t 3)],.call none 28 80 [(.t 27)],.o [.st 3 (.t 3) (.t 28)]]) c78_9)
def c78_11:Cd:=(.seq (.seq (.reg [8,9,10,11,12,13,14,15,16,17,18,19,20,21,22,23,24] [.o [.ld 8 3 true (.t 3)],.call none 9 79 [(.t 8)],.o [.un 10 .not (.t 9),.mov 11 (.t 10)],.g 11 false [.mov 12 (.t 1)],.call (some (11,false)) 13 128 [(.t 12)],.g 11 false [.un 14 .not (.t 13)],.o [.pick 15 (.t 11) (cB true) (.t 14),.mov 16 (.t 15)],.g 16 false [.ld 17 3 true (.t 3),.mov 18 (.t 1)],.call (some (16,false)) 19 25 [(.t 17),(.t 18)],.o [.pick 20 (.t 16) (cB true) (.t 19),.mov 21 (.t 20)],.g 21 false [.ld 22 3 true (.t 3),.mov 23 (.t 1)],.call (some (21,false)) 24 129 [(.t 22),(.t 23)],.o [.pick 25 (.t 21) (cB true) (.t 24)]]) c78_1) c78_10)
def fi78:FI:=⟨52,3,[.cell 6 3 true,.t 7],(.seq (.reg [0,7] [.o [.box 3 (.t 0),.alloc 6 [(.sc (.int .i64 0)),(.sl true () 1 0 []),(.sl true () 1 0 [])],.asg 7 (cB false)]]) c78_11)⟩
theorem ok78:fiOk Try.prog 78 fi78:=⟨_,_,Try.func78,rfl,by kernel_rfl,by kernel_rfl,Try.call78⟩
def c79_0:Cd:=(.seq (.reg [1,23] [.o [.asg 2 (cB false)]]) .ret)
def c79_1:Cd:=(.cond (.t 23) c79_0 .skip)
def c79_2:Cd:=(.seq (.reg [1,25,26,27,48] [.o [.asg 2 (cB false)]]) .ret)
def c79_3:Cd:=(.cond (.t 48) c79_2 .skip)
def c79_4:Cd:=(.seq (.reg [3,4,32,33,34,35,36,37,38,39,40,41,42,43,44,45,46,47] [.o [.mov 32 (.t 4)],.call none 33 128 [(.t 32)],.o [.un 34 .not (.t 33),.mov 35 (.t 34)],.g 35 false [.mov 36 (.t 3),.bin 37 .gtr (.t 36) (cI 0),.mov 38 (.t 37)],.g 38 true [.mov 39 (.t 4),.faddr 40 1 (.t 1),.ld 41 1 false (.t 40),.mov 42 (.t 3),.bin 43 .sub (.t 42) (cI 1),.iaddr 44 1 (.t 41) (.t 43),.ld 45 1 false (.t 44),.bin 46 .leq (.t 39) (.t 45)],.g 35 false [.pick 47 (.t 38) (.t 46) (cB false)],.o [.pick 48 (.t 35) (cB true) (.t 47)]]) c79_3)
def c79_5:Cd:=(.reg [48,49] [.o [.bin 49 .add (.t 27) (cI 1),.mov 27 (.t 49)]])
def c79_6:Cd:=(.seq (.block 1 (.seq (.reg [28,29,30,31] [.o [.mov 29 (.t 27),.iaddr 30 1 (.t 25) (.t 27),.ld 31 1 false (.t 30),.asg 3 (.t 29),.asg 4 (.t 31)]]) c79_4)) c79_5)
def c79_7:Cd:=(.seq (.cond (.t 28) .skip (.exit 0)) c79_6)
def c79_8:Cd:=(.seq (.reg [] [.o [.bin 28 .lss (.t 27) (.t 26)]]) c79_7)
def c79_9:Cd:=(.block 0 (.loop c79_8))
def c79_10:Cd:=(.seq (.reg [1,51,52,53,88] [.o [.asg 2 (cB false)]]) .ret)
def c79_11:Cd:=(.cond (.t 88) c79_10 .skip)
def c79_12:Cd:=(.seq (.reg [5,7,8,63,64,65,66,67,68,69,70,71,72,73,74,75,76,77,78,79,80,81,82,83,84,85,86,87] [.o [.mov 63 (.t 7)],.call none 64 128 [(.t 63)],.o [.un 65 .not (.t 64),.mov 66 (.t 65)],.g 66 false [.ld 67 3 true (.t 1),.mov 68 (.t 7)],.call (some (66,false)) 69 25 [(.t 67),(.t 68)],.o [.pick 70 (.t 66) (cB true) (.t 69),.mov 71 (.t 70)],.g 71 false [.mov 72 (.t 5),.bin 73 .eql (.t 72) (cI 0),.mov 74 (.t 73)],.g 74 true [.ld 75 3 true (.t 1),.mov 76 (.t 8)],.call (some (74,true)) 77 84 [(.t 75),(.t 76)],.g 71 false [.pick 78 (.t 74) (.t 77) (cB false)],.o [.pick 79 (.t 71) (cB true) (.t 78),.mov 80 (.t 79)],.g 80 false [.faddr 81 2 (.t 1),.ld 82 1 false (.t 81),.mov 83 (.t 5),.slice 84 1 (.t 82) none (some (.t 83)),.build 85 [(.sc (.int .i64 0)),(.sc (.slice none 0 0)),(.sc (.slice none 0 0))] [(2,1,(.t 84))],.mov 86 (.t 7)],.call (some (80,false)) 87 129 [(.t 85),(.t 86)],.o [.pick 88 (.t 80) (cB true) (.t 87)]]) c79_11)
def c79_13:Cd:=(.seq (.reg [6,59,60,58,61,62] [.o [.mov 59 (.t 6)],.call none 60 83 [(.t 59)],.o [.mov 58 (.t 60),.ext 61 58 0,.ext 62 58 1,.asg 7 (.t 61),.asg 8 (.t 62)]]) c79_12)
def c79_14:Cd:=(.reg [88,89] [.o [.bin 89 .add (.t 53) (cI 1),.mov 53 (.t 89)]])
def c79_15:Cd:=(.seq (.block 3 (.seq (.reg [54,55,56,57] [.o [.mov 55 (.t 53),.iaddr 56 1 (.t 51) (.t 53),.ld 57 1 false (.t 56),.asg 5 (.t 55),.asg 6 (.t 57)]]) c79_13)) c79_14)
def c79_16:Cd:=(.seq (.cond (.t 54) .skip (.exit 2)) c79_15)
def c79_17:Cd:=(.seq (.reg [] [.o [.bin 54 .lss (.t 53) (.t 52)]]) c79_16)
def c79_18:Cd:=(.block 2 (.loop c79_17))
def c79_19:Cd:=(.seq (.reg [1,51,52,53,54] [.o [.asg 2 (cB true)]]) .ret)
def c79_20:Cd:=(.seq (.seq (.reg [25,26,27,28,50] [.o [.faddr 50 2 (.t 1),.ld 51 1 false (.t 50),.len 52 (.t 51),.mov 53 (cI 0)]]) c79_18) c79_19)
def c79_21:Cd:=(.seq (.seq (.reg [23,24] [.o [.faddr 24 1 (.t 1),.ld 25 1 false (.t 24),.len 26 (.t 25),.mov 27 (cI 0)]]) c79_9) c79_20)
def c79_22:Cd:=(.seq (.seq (.reg [9,10,11,12,13,14,15,16,17,18,19,20,21,22] [.o [.faddr 9 0 (.t 1),.ld 10 1 false (.t 9),.bin 11 .neq (.t 10) (cI (-1)),.mov 12 (.t 11)],.g 12 true [.faddr 13 0 (.t 1),.ld 14 1 false (.t 13)],.call (some (12,true)) 15 128 [(.t 14)],.g 12 true [.un 16 .not (.t 15),.mov 17 (.t 16)],.g 17 false [.faddr 18 1 (.t 1),.ld 19 1 false (.t 18),.len 20 (.t 19),.bin 21 .gtr (.t 20) (cI 0)],.g 12 true [.pick 22 (.t 17) (cB true) (.t 21)],.o [.pick 23 (.t 12) (.t 22) (cB false)]]) c79_1) c79_21)
def fi79:FI:=⟨90,1,[.t 2],(.seq (.reg [0,2] [.o [.box 1 (.t 0),.asg 2 (cB false)]]) c79_22)⟩
theorem ok79:fiOk Try.prog 79 fi79:=⟨_,_,Try.func79,rfl,by kernel_rfl,by kernel_rfl,Try.call79⟩
def c80_0:Cd:=(.seq (.draw [[],[0],[],[2],[3],[],[5],[6,4],[1,4,7],[8,7,0,1,2,3,4,5,6,7,8]] [1,3,4,5,6,7,8,9,10,11] [.o [.faddr 3 0 (.t 1),.ld 4 1 false (.t 3),.faddr 5 1 (.t 1),.ld 6 1 false (.t 5)],.call none 7 130 [(.t 6)],.o [.faddr 8 2 (.t 1),.ld 9 1 false (.t 8)],.call none 10 130 [(.t 9)],.o [.build 11 [(.sc (.int .i64 0)),(.sc (.slice none 0 0)),(.sc (.slice none 0 0))] [(0,1,(.t 4)),(1,1,(.t 7)),(2,1,(.t 10))],.st 3 (.t 2) (.t 11)]]) .ret)
def fi80:FI:=⟨12,1,[.cell 2 3 true],(.seq (.reg [0] [.o [.box 1 (.t 0),.alloc 2 [(.sc (.int .i64 0)),(.sl true () 1 0 []),(.sl true () 1 0 [])]]]) c80_0)⟩
theorem ok80:fiOk Try.prog 80 fi80:=⟨_,_,Try.func80,rfl,by kernel_rfl,by kernel_rfl,Try.call80⟩
def c81_0:Cd:=(.seq (.reg [0,1,5,12,13] [.o [.mov 13 (.t 0),.asg 4 (.t 13)]]) .ret)
def c81_1:Cd:=(.cond (.t 12) c81_0 .skip)
def c81_2:Cd:=(.cond (.t 19) .skip (.exit 0))
def c81_3:Cd:=(.reg [34,35] [.o [.mov 34 (.t 5),.bin 35 .add (.t 34) (cI 1),.asg 5 (.t 35)]])
def c81_4:Cd:=(.seq (.reg [7,29,30,31,32,33] [.o [.mov 30 (.t 0),.mov 31 (.t 5),.mov 32 (.t 7),.iaddr 33 1 (.t 30) (.t 31),.st 1 (.t 33) (.t 32)]]) c81_3)
def c81_5:Cd:=(.cond (.t 29) c81_4 .skip)
def c81_6:Cd:=(.seq (.reg [26,27,28] [.o [.mov 26 (.t 1),.mov 27 (.t 7)],.clo none 28 26 [(.t 27)],.o [.un 29 .not (.t 28)]]) c81_5)
def c81_7:Cd:=(.reg [7,29,20,21] [.o [.mov 20 (.t 6),.bin 21 .add (.t 20) (cI 1),.asg 6 (.t 21)]])
def c81_8:Cd:=(.seq (.block 1 (.seq (.reg [19,22,23,24,25] [.o [.mov 22 (.t 0),.mov 23 (.t 6),.iaddr 24 1 (.t 22) (.t 23),.ld 25 1 false (.t 24),.asg 7 (.t 25)]]) c81_6)) c81_7)
def c81_9:Cd:=(.seq (.seq (.reg [16,17,18] [.o [.mov 16 (.t 6),.mov 17 (.t 0),.len 18 (.t 17),.bin 19 .lss (.t 16) (.t 18)]]) c81_2) c81_8)
def c81_10:Cd:=(.block 0 (.loop c81_9))
def c81_11:Cd:=(.seq (.reg [0,5,39,40,41] [.o [.mov 39 (.t 0),.mov 40 (.t 5),.slice 41 1 (.t 39) none (some (.t 40)),.asg 4 (.t 41)]]) .ret)
def c81_12:Cd:=(.seq (.reg [1,6,16,17,18,19,36,37,38] [.o [.mov 36 (.t 0),.mov 37 (.t 5),.slice 38 1 (.t 36) (some (.t 37)) none],.raw none (.call ⟨.builtin .clear,#[.tmp 38],#[23]⟩) 0]) c81_11)
def c81_13:Cd:=(.seq (.seq (.reg [12,14,15] [.o [.mov 14 (.t 5),.bin 15 .add (.t 14) (cI 1),.asg 6 (.t 15)]]) c81_10) c81_12)
def c81_14:Cd:=(.seq (.seq (.reg [11] [.o [.mov 11 (.t 5),.bin 12 .eql (.t 11) (cI (-1))]]) c81_1) c81_13)
def c81_15:Cd:=(.seq (.reg [8,9,10] [.o [.mov 8 (.t 0),.mov 9 (.t 1)],.call none 10 131 [(.t 8),(.t 9)],.o [.asg 5 (.t 10)]]) c81_14)
def fi81:FI:=⟨42,2,[.t 4],(.seq (.reg [4] [.o [.asg 4 (.c (.sl true () 1 0 []))]]) c81_15)⟩
theorem ok81:fiOk Try.prog 81 fi81:=⟨_,_,Try.func81,rfl,by kernel_rfl,by kernel_rfl,Try.call81⟩
def c82_0:Cd:=(.seq (.reg [0,1,4,5,6] [.o [.mov 4 (.t 0),.ld 5 1 false (.t 1),.bin 6 .eql (.t 4) (.t 5),.asg 3 (.t 6)]]) .ret)
def fi82:FI:=⟨7,2,[.t 3],(.seq (.reg [3] [.o [.asg 3 (cB false)]]) c82_0)⟩
theorem ok82:fiOk Try.prog 82 fi82:=⟨_,_,Try.func82,rfl,by kernel_rfl,by kernel_rfl,Try.call82⟩
def c83_0:Cd:=(.seq (.reg [0,5,6,7] [.o [.mov 6 (.t 0),.bin 7 .sub (cI (-2)) (.t 6),.asg 2 (.t 7),.asg 3 (cB true)]]) .ret)
def c83_1:Cd:=(.cond (.t 5) c83_0 .skip)
def c83_2:Cd:=(.seq (.reg [0,5,8] [.o [.mov 8 (.t 0),.asg 2 (.t 8),.asg 3 (cB false)]]) .ret)
def c83_3:Cd:=(.seq (.seq (.reg [4] [.o [.mov 4 (.t 0),.bin 5 .lss (.t 4) (cI 0)]]) c83_1) c83_2)
def fi83:FI:=⟨9,1,[.t 2,.t 3],(.seq (.reg [2,3] [.o [.asg 2 (cI 0),.asg 3 (cB false)]]) c83_3)⟩
theorem ok83:fiOk Try.prog 83 fi83:=⟨_,_,Try.func83,rfl,by kernel_rfl,by kernel_rfl,Try.call83⟩
def c84_0:Cd:=(.seq (.reg [1,2,5,6,7,8,9,10,11,12,13,14,15,16] [.o [.faddr 5 0 (.t 2),.ld 6 1 false (.t 5),.bin 7 .eql (.t 6) (cI (-1)),.mov 8 (.t 7)],.g 8 true [.mov 9 (.t 1),.mov 10 (.t 9)],.g 10 false [.faddr 11 1 (.t 2),.ld 12 1 false (.t 11),.len 13 (.t 12),.bin 14 .eql (.t 13) (cI 0)],.g 8 true [.pick 15 (.t 10) (cB true) (.t 14)],.o [.pick 16 (.t 8) (.t 15) (cB false),.asg 4 (.t 16)]]) .ret)
def fi84:FI:=⟨17,2,[.t 4],(.seq (.reg [0,4] [.o [.box 2 (.t 0),.asg 4 (cB false)]]) c84_0)⟩
theorem ok84:fiOk Try.prog 84 fi84:=⟨_,_,Try.func84,rfl,by kernel_rfl,by kernel_rfl,Try.call84⟩
def c85_0:Cd:=(.seq (.reg [3,13] [.o [.ld 13 3 true (.t 3),.st 3 (.t 6) (.t 13)]]) .ret)
def c85_1:Cd:=(.seq (.reg [1,10,11,12] [.o [.mov 11 (.t 1),.faddr 12 0 (.t 3),.st 1 (.t 12) (.t 11)]]) c85_0)
def c85_2:Cd:=(.cond (.t 10) c85_1 .skip)
def c85_3:Cd:=(.seq (.reg [3,28] [.o [.ld 28 3 true (.t 3),.st 3 (.t 6) (.t 28)]]) .ret)
def c85_4:Cd:=(.seq (.reg [1,7,21,22,23,24,25,26,27] [.o [.faddr 21 1 (.t 3),.ld 22 1 false (.t 21),.mov 23 (.t 7),.mov 24 (.t 1),.bs1 25 1 (.t 24)],.call none 26 133 [(.t 22),(.t 23),(.t 25)],.o [.faddr 27 1 (.t 3),.st 1 (.t 27) (.t 26)]]) c85_3)
def c85_5:Cd:=(.seq (.reg [10,15,16,17,18,14,19,20,8] [.o [.faddr 15 1 (.t 3),.ld 16 1 false (.t 15),.mov 17 (.t 1)],.call none 18 132 [(.t 16),(.t 17)],.o [.mov 14 (.t 18),.ext 19 14 0,.ext 20 14 1,.asg 7 (.t 19),.asg 8 (.t 20)]]) c85_4)
def c85_6:Cd:=(.seq (.seq (.reg [2,9] [.o [.mov 9 (.t 2),.un 10 .not (.t 9)]]) c85_2) c85_5)
def fi85:FI:=⟨29,3,[.cell 6 3 true],(.seq (.reg [0] [.o [.box 3 (.t 0),.alloc 6 [(.sc (.int .i64 0)),(.sl true () 1 0 []),(.sl true () 1 0 [])]]]) c85_6)⟩
theorem ok85:fiOk Try.prog 85 fi85:=⟨_,_,Try.func85,rfl,by kernel_rfl,by kernel_rfl,Try.call85⟩
def c86_0:Cd:=(.seq (.reg [0,1,5,6,7,8] [.o [.mov 5 (.t 0),.mov 6 (.t 1)],.call none 7 134 [(.t 5),(.t 6)],.o [.bin 8 .geq (.t 7) (cI 0),.asg 4 (.t 8)]]) .ret)
def fi86:FI:=⟨9,2,[.t 4],(.seq (.reg [4] [.o [.asg 4 (cB false)]]) c86_0)⟩
theorem ok86:fiOk Try.prog 86 fi86:=⟨_,_,Try.func86,rfl,by kernel_rfl,by kernel_rfl,Try.call86⟩
def c87_0:Cd:=(.seq (.reg [2,3,5,6,7,8,9,10,11,12,13,14,15,16,17,18,19,20,21,22,23] [.o [.faddr 5 0 (.t 2),.ld 6 1 false (.t 5),.faddr 7 0 (.t 3),.ld 8 1 false (.t 7),.bin 9 .eql (.t 6) (.t 8),.mov 10 (.t 9)],.g 10 true [.faddr 11 1 (.t 2),.ld 12 1 false (.t 11),.faddr 13 1 (.t 3),.ld 14 1 false (.t 13)],.call (some (10,true)) 15 105 [(.t 12),(.t 14)],.o [.pick 16 (.t 10) (.t 15) (cB false),.mov 17 (.t 16)],.g 17 true [.faddr 18 2 (.t 2),.ld 19 1 false (.t 18),.faddr 20 2 (.t 3),.ld 21 1 false (.t 20)],.call (some (17,true)) 22 105 [(.t 19),(.t 21)],.o [.pick 23 (.t 17) (.t 22) (cB false),.asg 4 (.t 23)]]) .ret)
def fi87:FI:=⟨24,2,[.t 4],(.seq (.reg [0,1,4] [.o [.box 2 (.t 0),.box 3 (.t 1),.asg 4 (cB false)]]) c87_0)⟩
theorem ok87:fiOk Try.prog 87 fi87:=⟨_,_,Try.func87,rfl,by kernel_rfl,by kernel_rfl,Try.call87⟩
def c105_0:Cd:=(.seq (.reg [0,1,10] [.o [.asg 4 (cB false)]]) .ret)
def c105_1:Cd:=(.cond (.t 10) c105_0 .skip)
def c105_2:Cd:=(.seq (.reg [0,1,12,13,24] [.o [.asg 4 (cB false)]]) .ret)
def c105_3:Cd:=(.cond (.t 24) c105_2 .skip)
def c105_4:Cd:=(.seq (.draw [[],[],[0,1],[2],[],[],[4,5],[6],[3,7]] [5,16,17,18,19,20,21,22,23] [.o [.mov 16 (.t 0),.mov 17 (.t 5),.iaddr 18 1 (.t 16) (.t 17),.ld 19 1 false (.t 18),.mov 20 (.t 1),.mov 21 (.t 5),.iaddr 22 1 (.t 20) (.t 21),.ld 23 1 false (.t 22),.bin 24 .neq (.t 19) (.t 23)]]) c105_3)
def c105_5:Cd:=(.reg [24,25] [.o [.bin 25 .add (.t 13) (cI 1),.mov 13 (.t 25)]])
def c105_6:Cd:=(.seq (.block 1 (.seq (.reg [14,15] [.o [.mov 15 (.t 13),.asg 5 (.t 15)]]) c105_4)) c105_5)
def c105_7:Cd:=(.seq (.cond (.t 14) .skip (.exit 0)) c105_6)
def c105_8:Cd:=(.seq (.reg [] [.o [.bin 14 .lss (.t 13) (.t 12)]]) c105_7)
def c105_9:Cd:=(.block 0 (.loop c105_8))
def c105_10:Cd:=(.seq (.reg [0,1,12,13,14] [.o [.asg 4 (cB true)]]) .ret)
def c105_11:Cd:=(.seq (.seq (.reg [10,11] [.o [.mov 11 (.t 0),.len 12 (.t 11),.mov 13 (cI 0)]]) c105_9) c105_10)
def c105_12:Cd:=(.seq (.seq (.reg [6,7,8,9] [.o [.mov 6 (.t 0),.len 7 (.t 6),.mov 8 (.t 1),.len 9 (.t 8),.bin 10 .neq (.t 7) (.t 9)]]) c105_1) c105_11)
def fi105:FI:=⟨26,2,[.t 4],(.seq (.reg [4] [.o [.asg 4 (cB false)]]) c105_12)⟩
theorem ok105:fiOk Try.prog 105 fi105:=⟨_,_,Try.func105,rfl,by kernel_rfl,by kernel_rfl,Try.call105⟩
def c128_0:Cd:=(.seq (.reg [0,3,4,5,6,7,8] [.o [.mov 3 (.t 0),.bin 4 .geq (.t 3) (cI 0),.mov 5 (.t 4)],.g 5 true [.mov 6 (.t 0),.bin 7 .lss (.t 6) (cI 64)],.o [.pick 8 (.t 5) (.t 7) (cB false),.asg 2 (.t 8)]]) .ret)
def fi128:FI:=⟨9,1,[.t 2],(.seq (.reg [2] [.o [.asg 2 (cB false)]]) c128_0)⟩
theorem ok128:fiOk Try.prog 128 fi128:=⟨_,_,Try.func128,rfl,by kernel_rfl,by kernel_rfl,Try.call128⟩
def c129_0:Cd:=(.seq (.reg [2,3,5,6,7,8] [.o [.faddr 5 2 (.t 2),.ld 6 1 false (.t 5),.mkf 7 158 [(.t 3)]],.call none 8 141 [(.t 6),(.t 7)],.o [.asg 4 (.t 8)]]) .ret)
def fi129:FI:=⟨9,2,[.t 4],(.seq (.reg [0,1,4] [.o [.box 2 (.t 0),.box 3 (.t 1),.asg 4 (cB false)]]) c129_0)⟩
theorem ok129:fiOk Try.prog 129 fi129:=⟨_,_,Try.func129,rfl,by kernel_rfl,by kernel_rfl,Try.call129⟩
def c130_0:Cd:=(.seq (.reg [0,4] [.o [.asg 2 (.c (.sl true () 1 0 []))]]) .ret)
def c130_1:Cd:=(.cond (.t 4) c130_0 .skip)
def c130_2:Cd:=(.seq (.reg [0,4,5,6,7] [.o [.bs0 5 1,.mov 6 (.t 0),.app 7 1 8 (.t 5) (.t 6),.asg 2 (.t 7)]]) .ret)
def c130_3:Cd:=(.seq (.seq (.reg [3] [.o [.mov 3 (.t 0)],.nilq 4 true (.t 3)]) c130_1) c130_2)
def fi130:FI:=⟨8,1,[.t 2],(.seq (.reg [2] [.o [.asg 2 (.c (.sl true () 1 0 []))]]) c130_3)⟩
theorem ok130:fiOk Try.prog 130 fi130:=⟨_,_,Try.func130,rfl,by kernel_rfl,by kernel_rfl,Try.call130⟩
def c131_0:Cd:=(.seq (.reg [0,1,7,8,5,16,17] [.o [.mov 17 (.t 5),.asg 4 (.t 17)]]) .ret)
def c131_1:Cd:=(.cond (.t 16) c131_0 .skip)
def c131_2:Cd:=(.seq (.reg [11,12,13,14,15] [.o [.mov 11 (.t 1),.mov 12 (.t 0),.mov 13 (.t 5),.iaddr 14 1 (.t 12) (.t 13),.ld 15 1 false (.t 14)],.clo none 16 11 [(.t 15)]]) c131_1)
def c131_3:Cd:=(.reg [5,16,18] [.o [.bin 18 .add (.t 8) (cI 1),.mov 8 (.t 18)]])
def c131_4:Cd:=(.seq (.block 1 (.seq (.reg [9,10] [.o [.mov 10 (.t 8),.asg 5 (.t 10)]]) c131_2)) c131_3)
def c131_5:Cd:=(.seq (.cond (.t 9) .skip (.exit 0)) c131_4)
def c131_6:Cd:=(.seq (.reg [] [.o [.bin 9 .lss (.t 8) (.t 7)]]) c131_5)
def c131_7:Cd:=(.block 0 (.loop c131_6))
def c131_8:Cd:=(.seq (.reg [0,1,7,8,9] [.o [.asg 4 (cI (-1))]]) .ret)
def c131_9:Cd:=(.seq (.seq (.reg [6] [.o [.mov 6 (.t 0),.len 7 (.t 6),.mov 8 (cI 0)]]) c131_7) c131_8)
def fi131:FI:=⟨19,2,[.t 4],(.seq (.reg [4] [.o [.asg 4 (cI 0)]]) c131_9)⟩
theorem ok131:fiOk Try.prog 131 fi131:=⟨_,_,Try.func131,rfl,by kernel_rfl,by kernel_rfl,Try.call131⟩
def c132_0:Cd:=(.cond (.t 15) .skip (.exit 0))
def c132_1:Cd:=(.reg [9,27,28,29] [.o [.mov 28 (.t 9),.bin 29 .add (.t 28) (cI 1),.asg 7 (.t 29)]])
def c132_2:Cd:=(.reg [9,27,30] [.o [.mov 30 (.t 9),.asg 8 (.t 30)]])
def c132_3:Cd:=(.cond (.t 27) c132_1 c132_2)
def c132_4:Cd:=(.seq (.reg [22,23,24,25,26] [.o [.mov 22 (.t 0),.mov 23 (.t 9),.iaddr 24 1 (.t 22) (.t 23),.ld 25 1 false (.t 24),.mov 26 (.t 1)],.call none 27 159 [(.t 25),(.t 26)]]) c132_3)
def c132_5:Cd:=(.block 1 (.seq (.reg [15,16,17,18,19,20,21] [.o [.mov 16 (.t 7),.mov 17 (.t 8),.bin 18 .add (.t 16) (.t 17),.conv 19 .u64 (.t 18),.bin 20 .shr (.t 19) (.c (.sc (.int .u64 1))),.conv 21 .i64 (.t 20),.asg 9 (.t 21)]]) c132_4))
def c132_6:Cd:=(.seq (.seq (.reg [13,14] [.o [.mov 13 (.t 7),.mov 14 (.t 8),.bin 15 .lss (.t 13) (.t 14)]]) c132_0) c132_5)
def c132_7:Cd:=(.seq (.reg [0,1,6,7,8,13,14,15,31,32,33,34,35,36,37,38,39,40,41,42,43,44,45,46,47,48,49,50,51,52,53] [.o [.mov 31 (.t 7),.mov 32 (.t 7),.mov 33 (.t 6),.bin 34 .lss (.t 32) (.t 33),.mov 35 (.t 34)],.g 35 true [.mov 36 (.t 0),.mov 37 (.t 7),.iaddr 38 1 (.t 36) (.t 37),.ld 39 1 false (.t 38),.mov 40 (.t 1),.bin 41 .eql (.t 39) (.t 40),.mov 42 (.t 41)],.g 42 false [.mov 43 (.t 0),.mov 44 (.t 7),.iaddr 45 1 (.t 43) (.t 44),.ld 46 1 false (.t 45)],.call (some (42,false)) 47 160 [(.t 46)],.g 42 false [.mov 48 (.t 47)],.g 48 true [.mov 49 (.t 1)],.call (some (48,true)) 50 160 [(.t 49)],.g 42 false [.pick 51 (.t 48) (.t 50) (cB false)],.g 35 true [.pick 52 (.t 42) (cB true) (.t 51)],.o [.pick 53 (.t 35) (.t 52) (cB false),.asg 4 (.t 31),.asg 5 (.t 53)]]) .ret)
def c132_8:Cd:=(.seq (.block 0 (.loop c132_6)) c132_7)
def c132_9:Cd:=(.seq (.reg [12] [.o [.mov 12 (.t 6),.asg 7 (cI 0),.asg 8 (.t 12)]]) c132_8)
def c132_10:Cd:=(.seq (.reg [10,11] [.o [.mov 10 (.t 0),.len 11 (.t 10),.asg 6 (.t 11)]]) c132_9)
def fi132:FI:=⟨54,2,[.t 4,.t 5],(.seq (.reg [4,5] [.o [.asg 4 (cI 0),.asg 5 (cB false)]]) c132_10)⟩
theorem ok132:fiOk Try.prog 132 fi132:=⟨_,_,Try.func132,rfl,by kernel_rfl,by kernel_rfl,Try.call132⟩
def c134_0:Cd:=(.seq (.reg [0,1,7,8,5,16,17] [.o [.mov 17 (.t 5),.asg 4 (.t 17)]]) .ret)
def c134_1:Cd:=(.cond (.t 16) c134_0 .skip)
def c134_2:Cd:=(.seq (.reg [11,12,13,14,15] [.o [.mov 11 (.t 1),.mov 12 (.t 0),.mov 13 (.t 5),.iaddr 14 1 (.t 12) (.t 13),.ld 15 1 false (.t 14),.bin 16 .eql (.t 11) (.t 15)]]) c134_1)
def c134_3:Cd:=(.reg [5,16,18] [.o [.bin 18 .add (.t 8) (cI 1),.mov 8 (.t 18)]])
def c134_4:Cd:=(.seq (.block 1 (.seq (.reg [9,10] [.o [.mov 10 (.t 8),.asg 5 (.t 10)]]) c134_2)) c134_3)
def c134_5:Cd:=(.seq (.cond (.t 9) .skip (.exit 0)) c134_4)
def c134_6:Cd:=(.seq (.reg [] [.o [.bin 9 .lss (.t 8) (.t 7)]]) c134_5)
def c134_7:Cd:=(.block 0 (.loop c134_6))
def c134_8:Cd:=(.seq (.reg [0,1,7,8,9] [.o [.asg 4 (cI (-1))]]) .ret)
def c134_9:Cd:=(.seq (.seq (.reg [6] [.o [.mov 6 (.t 0),.len 7 (.t 6),.mov 8 (cI 0)]]) c134_7) c134_8)
def fi134:FI:=⟨19,2,[.t 4],(.seq (.reg [4] [.o [.asg 4 (cI 0)]]) c134_9)⟩
theorem ok134:fiOk Try.prog 134 fi134:=⟨_,_,Try.func134,rfl,by kernel_rfl,by kernel_rfl,Try.call134⟩
def c139_0:Cd:=(.seq (.reg [0,3,4,5] [.o [.mov 3 (.t 0),.mov 4 (.t 0),.bin 5 .neq (.t 3) (.t 4),.asg 2 (.t 5)]]) .ret)
def fi139:FI:=⟨6,1,[.t 2],(.seq (.reg [2] [.o [.asg 2 (cB false)]]) c139_0)⟩
theorem ok139:fiOk Try.prog 139 fi139:=⟨_,_,Try.func139,rfl,by kernel_rfl,by kernel_rfl,Try.call139⟩
def c141_0:Cd:=(.seq (.reg [0,1,5,6,7,8] [.o [.mov 5 (.t 0),.mov 6 (.t 1)],.call none 7 131 [(.t 5),(.t 6)],.o [.bin 8 .geq (.t 7) (cI 0),.asg 4 (.t 8)]]) .ret)
def fi141:FI:=⟨9,2,[.t 4],(.seq (.reg [4] [.o [.asg 4 (cB false)]]) c141_0)⟩
theorem ok141:fiOk Try.prog 141 fi141:=⟨_,_,Try.func141,rfl,by kernel_rfl,by kernel_rfl,Try.call141⟩
def c158_0:Cd:=(.seq (.reg [1,4,11,12,13] [.o [.mov 11 (.t 4),.ld 12 1 false (.t 1),.bin 13 .eql (.t 11) (.t 12),.asg 3 (.t 13)]]) .ret)
def c158_1:Cd:=(.seq (.reg [0,7,8,6,9,10,5] [.o [.mov 7 (.t 0)],.call none 8 83 [(.t 7)],.o [.mov 6 (.t 8),.ext 9 6 0,.ext 10 6 1,.asg 4 (.t 9),.asg 5 (.t 10)]]) c158_0)
def fi158:FI:=⟨14,2,[.t 3],(.seq (.reg [3] [.o [.asg 3 (cB false)]]) c158_1)⟩
theorem ok158:fiOk Try.prog 158 fi158:=⟨_,_,Try.func158,rfl,by kernel_rfl,by kernel_rfl,Try.call158⟩
def c159_0:Cd:=(.seq (.reg [0,1,5,6,7,8,9,10,11,12,13,14,15,16] [.o [.mov 5 (.t 0)],.call none 6 139 [(.t 5)],.o [.mov 7 (.t 6)],.g 7 true [.mov 8 (.t 1)],.call (some (7,true)) 9 139 [(.t 8)],.g 7 true [.un 10 .not (.t 9)],.o [.pick 11 (.t 7) (.t 10) (cB false),.mov 12 (.t 11)],.g 12 false [.mov 13 (.t 0),.mov 14 (.t 1),.bin 15 .lss (.t 13) (.t 14)],.o [.pick 16 (.t 12) (cB true) (.t 15),.asg 4 (.t 16)]]) .ret)
def fi159:FI:=⟨17,2,[.t 4],(.seq (.reg [4] [.o [.asg 4 (cB false)]]) c159_0)⟩
theorem ok159:fiOk Try.prog 159 fi159:=⟨_,_,Try.func159,rfl,by kernel_rfl,by kernel_rfl,Try.call159⟩
def c160_0:Cd:=(.seq (.reg [0,3,4,5] [.o [.mov 3 (.t 0),.mov 4 (.t 0),.bin 5 .neq (.t 3) (.t 4),.asg 2 (.t 5)]]) .ret)
def fi160:FI:=⟨6,1,[.t 2],(.seq (.reg [2] [.o [.asg 2 (cB false)]]) c160_0)⟩
theorem ok160:fiOk Try.prog 160 fi160:=⟨_,_,Try.func160,rfl,by kernel_rfl,by kernel_rfl,Try.call160⟩
end Go.OT
namespace Go.OT
open Go.Proofs
abbrev sI (o:Bool)(l:List Int):AU:=.sl o () 1 l.length (l.map i64)
def Small (n:Nat):Prop:=n≤1000000000
theorem wrap_small {x:Int}(h:-9223372036854775808≤x)(h':x < 9223372036854775808):IntKind.wrap .i64 x=x:=IntWalk.i64_in x ⟨h,by omega⟩
theorem wrap_succ {i n:Nat}(h:Small n)(hi:i < n):IntKind.wrap .i64 ((i:Int)+1)=((i+1:Nat):Int):=by
 unfold Small at h
 rw[wrap_small (by omega) (by omega)];simp
def ixF {α:Type}(p:α→Bool):List α→Nat→Int
 | [],_=>-1
 | x :: l,i=>if p x=true then (i:Int) else ixF p l (i+1)
theorem ixF_drop {α:Type}(p:α→Bool)(l:List α)(i:Nat)(h:i < l.length):ixF p (l.drop i) i=if p l[i]=true then (i:Int) else ixF p (l.drop (i+1)) (i+1):=by
 rw[List.drop_eq_getElem_cons h];rfl
theorem ixF_end {α:Type}(p:α→Bool)(l:List α)(i:Nat)(h:¬ i < l.length):ixF p (l.drop i) i=-1:=by
 rw[List.drop_of_length_le (by omega)];rfl
set_option maxHeartbeats 4000000 in
theorem index_int (l:List Int)(v:Int)(hl:Small l.length):FnC Try.prog 134 [] [sI false l,i64 v] [] (i64 (ixF (· == v) l 0)):=by
 refine FnC.go ok134 rfl ?_
 refine WL.sreg (by simp;rfl) (by simp;rfl) ?_
 refine WL.seq (WL.sreg (by simp;rfl) (by simp;rfl) ?_)
 refine WL.block (WL.count l.length (fun i=>[(0,0,sI false l),(100,0,i64 v),(700,0,i64 l.length),(800,0,i64 i)]) (fun i=>ixF (· == v) (l.drop i) i=ixF (· == v) l 0) rfl rfl fun i hi hinv=>?_)
 by_cases h:i < l.length
 ·refine WL.sreg (by simp[h];rfl) (by simp;rfl) ?_
  refine WL.seq (WL.cond (t:=true) (by simp) (fun _=>WL.skip ?_) (by simp))
  refine WL.seq (WL.block (WL.sreg (by simp;rfl) (by simp;rfl) ?_))
  refine WL.sreg (by simp[h];rfl) (by simp;rfl) ?_
  rw[ixF_drop _ _ _ h] at hinv
  refine WL.cond (t:=v == l[i]) (by simp) (fun hv=>?_) (fun hv=>?_)
  ·have hv':l[i]=v:=by simp at hv;exact hv.symm
   rw[if_pos (by simp[hv'])] at hinv
   refine WL.sreg (by simp;rfl) (by simp;rfl) (WL.ret ⟨.inr rfl,?_⟩)
   simp[fi134,hinv]
  ·have hv':¬ l[i]=v:=fun e=>by simp[e] at hv
   refine WL.skip ?_
   refine WL.reg (RL.run (by simp[wrap_succ hl h];rfl) ⟨_,by simp;rfl,?_⟩)
   refine⟨h,by simp,?_⟩
   rw[← hinv];simp[hv']
 ·refine WL.sreg (by simp[h];rfl) (by simp;rfl) ?_
  refine WL.seq (WL.cond (t:=false) (by simp) (by simp) (fun _=>WL.exit ?_))
  simp
  refine WL.sreg (by simp;rfl) (by simp;rfl) (WL.ret ⟨.inr rfl,?_⟩)
  rw[ixF_end _ _ _ h] at hinv
  simp[fi134,← hinv]
theorem ixF_ge {α:Type}(p:α→Bool):∀ (l:List α) (i:Nat),(0≤ixF p l i) ↔ l.any p=true
 | [],i=>by simp[ixF]
 | x :: l,i=>by
  simp only[ixF,List.any_cons]
  split
  ·rename_i h;simp[h]
  ·rename_i h;simp[h,ixF_ge p l (i+1)]
set_option maxHeartbeats 4000000 in
theorem contains_int (l:List Int)(v:Int)(hl:Small l.length):FnC Try.prog 86 [] [sI false l,i64 v] [] (bl (l.any (· == v))):=by
 refine FnC.go ok86 rfl ?_
 refine WL.sreg (by simp;rfl) (by simp;rfl) ?_
 refine WL.sregC (RL.o (by simp;rfl) (RL.call0 false (index_int l v hl) (by simp) (by simp) (RL.o (by simp;rfl) (RL.nil ⟨_,by simp;rfl,WL.ret ⟨.inr rfl,?_⟩⟩))))
 simp only[fi86,RetOk]
 refine⟨_,by simp;rfl,?_,by simp⟩
 simp
 rw[Bool.eq_iff_iff]
 simp[← ixF_ge (· == v) l 0]
set_option maxHeartbeats 4000000 in
theorem mixed:Try.prog.follows .mixedOrders=true:=by kernel_rfl
theorem list_ne_at {α:Type} [BEq α] [LawfulBEq α] {a b:List α}{i:Nat}(h:i < a.length)(h':i < b.length)(hne:¬ a[i]=b[i]):(a == b)=false:=by
 rw[beq_eq_false_iff_ne]
 intro e
 subst e
 exact hne rfl
theorem list_eq_of {α:Type} [BEq α] [LawfulBEq α] {a b:List α}(h:a.length=b.length)(hp:a.take a.length=b.take a.length):(a == b)=true:=by
 rw[beq_iff_eq]
 rw[List.take_length] at hp
 rw[hp,h,List.take_length]
theorem take_succ_eq {α:Type}{a b:List α}{i:Nat}(h:i < a.length)(h':i < b.length)(hp:a.take i=b.take i)(e:a[i]=b[i]):a.take (i+1)=b.take (i+1):=by
 rw[List.take_succ_eq_append_getElem h,List.take_succ_eq_append_getElem h',hp,e]
set_option maxHeartbeats 4000000 in
theorem equal_int (a b:List Int)(ha:Small a.length):FnC Try.prog 105 [] [sI false a,sI false b] [] (bl (a == b)):=by
 refine FnC.go ok105 rfl ?_
 refine WL.sreg (by simp;rfl) (by simp;rfl) ?_
 refine WL.seq (WL.sreg (by simp;rfl) (by simp;rfl) ?_)
 refine WL.cond (t:=((a.length:Int) != (b.length:Int))) (by simp) (fun hl=>?_) (fun hl=>WL.skip ?_)
 ·refine WL.sreg (by simp;rfl) (by simp;rfl) (WL.ret ⟨.inr rfl,?_⟩)
  have h1:¬ (a.length:Int)=b.length:=by simpa using hl
  have:(a == b)=false:=by rw[beq_eq_false_iff_ne];intro e;exact h1 (by rw[e])
  simp[fi105,this]
 have hab':(a.length:Int)=b.length:=by simpa using hl
 have hab:a.length=b.length:=by omega
 refine WL.seq (WL.sreg (by simp;rfl) (by simp;rfl) ?_)
 refine WL.block (WL.count a.length (fun i=>[(0,0,sI false a),(100,0,sI false b),(1200,0,i64 a.length),(1300,0,i64 i)]) (fun i=>a.take i=b.take i) rfl rfl fun i hi hinv=>?_)
 by_cases h:i < a.length
 ·have h':i < b.length:=by omega
  refine WL.sreg (by simp[h];rfl) (by simp;rfl) ?_
  refine WL.seq (WL.cond (t:=true) (by simp) (fun _=>WL.skip ?_) (by simp))
  refine WL.seq (WL.block (WL.sreg (by simp;rfl) (by simp;rfl) ?_))
  refine WL.sdraw mixed (by simp[cleanL,noH]) (by simp[h,h'];exact⟨rfl,rfl⟩) (by kernel_rfl) (by simp;rfl) ?_
  refine WL.cond (t:=a[i] != b[i]) (by simp) (fun hv=>?_) (fun hv=>?_)
  ·refine WL.sreg (by simp;rfl) (by simp;rfl) (WL.ret ⟨.inr rfl,?_⟩)
   simp[fi105,list_ne_at h h' (by simpa using hv)]
  ·refine WL.skip ?_
   refine WL.reg (RL.run (by simp[wrap_succ ha h];rfl) ⟨_,by simp;rfl,?_⟩)
   exact⟨h,by simp,take_succ_eq h h' hinv (by simpa using hv)⟩
 ·refine WL.sreg (by simp[h];rfl) (by simp;rfl) ?_
  refine WL.seq (WL.cond (t:=false) (by simp) (by simp) (fun _=>WL.exit ?_))
  simp
  refine WL.sreg (by simp;rfl) (by simp;rfl) (WL.ret ⟨.inr rfl,?_⟩)
  have:i=a.length:=by omega
  subst this
  simp[fi105,list_eq_of hab hinv]
set_option maxHeartbeats 4000000 in
@[simp] theorem take_len_map {α β:Type} (f:α→β) (l:List α):List.take l.length (l.map f)=l.map f:=List.take_of_length_le (by simp)
set_option maxHeartbeats 4000000 in
theorem clone_int (l:List Int)(hl:Small l.length):FnC Try.prog 130 [] [sI false l] [] (sI true l):=by
 unfold Small at hl
 refine FnC.go ok130 rfl ?_
 refine WL.sreg (by simp;rfl) (by simp;rfl) ?_
 refine WL.seq (WL.sregC (RL.o (by simp;rfl) (RL.nilq (n:=l.length) (by simp) fun b hb=>RL.nil ⟨_,by simp;rfl,?_⟩)))
 cases b with
 | true =>
  have h0:l=[]:=by
   cases l with
   | nil=>rfl
   | cons x l=>have:=hb (by simp);cases this
  subst h0
  refine WL.cond (t:=true) (by simp) (fun _=>?_) (by simp)
  refine WL.sreg (by simp;rfl) (by simp;rfl) (WL.ret ⟨.inr rfl,?_⟩)
  simp[fi130]
 | false =>
  refine WL.cond (t:=false) (by simp) (by simp) (fun _=>WL.skip ?_)
  have h1:l.length * 8≤140737488355328:=by omega
  have h2:l.length≤140737488355328:=by omega
  have h3:l.length≤maxLen:=by unfold maxLen;omega
  have h4:∀ x ∈ l,True:=fun _ _=>trivial
  refine WL.sreg (by simp[h1,h2,h3];rfl) (by simp;rfl) (WL.ret ⟨.inr rfl,?_⟩)
  simp[fi130]
end Go.OT
namespace Go.OT
open Go.Proofs
structure Lt where
 W:Int
 R:List Int
 Q:List Int
 deriving DecidableEq
abbrev cellsL (o:Bool)(l:Lt):List AU:=[i64 l.W,sI o l.R,sI o l.Q]
abbrev encL (o:Bool)(l:Lt):AU:=.agg (cellsL o l)
def isT (t:Int):Bool:=decide (0≤t) && decide (t < 64)
def whoT (w:Int):Int × Bool:=if w < 0 then (-2 - w,true) else (w,false)
def fitsL (l:Lt)(reads:Bool):Bool:=l.W == -1 && (reads || l.R.length == 0)
def waitsL (q:List Int)(t:Int):Bool:=q.any fun w=>(whoT w).1 == t
def hasL (l:Lt)(t:Int):Bool:=(decide (0≤t) && l.W == t) || l.R.any (· == t)
def N64 (w:Int):Prop:=-9223372036854775808≤w∧w < 9223372036854775808
set_option maxHeartbeats 4000000 in
theorem is_fn (t:Int):FnC Try.prog 128 [] [i64 t] [] (bl (isT t)):=by
 refine FnC.go ok128 rfl ?_
 refine WL.sreg (by simp;rfl) (by simp;rfl) ?_
 by_cases h0:0≤t
 ·refine WL.sreg (by simp[h0];rfl) (by simp;rfl) (WL.ret ⟨.inr rfl,?_⟩)
  simp[fi128,isT,h0]
 ·refine WL.sreg (by simp[h0];rfl) (by simp;rfl) (WL.ret ⟨.inr rfl,?_⟩)
  simp[fi128,isT,h0]
set_option maxHeartbeats 4000000 in
theorem who_fn (w:Int)(hw:N64 w):FnC Try.prog 83 [] [i64 w] [] (.tuple [i64 (whoT w).1,bl (whoT w).2]):=by
 refine FnC.go ok83 rfl ?_
 refine WL.sreg (by simp;rfl) (by simp;rfl) ?_
 refine WL.seq (WL.sreg (by simp;rfl) (by simp;rfl) ?_)
 by_cases h:w < 0
 ·refine WL.cond (t:=true) (by simp[h]) (fun _=>?_) (by simp)
  have hr:IntKind.wrap .i64 (-2 - w)=-2 - w:=wrap_small (by have:=hw.1;omega) (by have:=hw.1;omega)
  refine WL.sreg (by simp[hr];rfl) (by simp;rfl) (WL.ret ⟨.inr rfl,?_⟩)
  simp[fi83,whoT,h]
 ·refine WL.cond (t:=false) (by simp[h]) (by simp) (fun _=>WL.skip ?_)
  refine WL.sreg (by simp;rfl) (by simp;rfl) (WL.ret ⟨.inr rfl,?_⟩)
  simp[fi83,whoT,h]
set_option maxHeartbeats 4000000 in
theorem fits_fn (l:Lt)(b:Bool):FnC Try.prog 84 [] [encL false l,bl b] [] (bl (fitsL l b)):=by
 refine FnC.go ok84 rfl ?_
 refine WL.sreg (by simp;rfl) (by simp;rfl) ?_
 by_cases h:l.W=-1
 ·cases b with
  | true =>
   refine WL.sreg (by simp[h];rfl) (by simp;rfl) (WL.ret ⟨.inr rfl,?_⟩)
   simp[fi84,fitsL,h]
  | false =>
   refine WL.sreg (by simp[h];rfl) (by simp;rfl) (WL.ret ⟨.inr rfl,?_⟩)
   simp[fi84,fitsL,h]
   rw[Bool.eq_iff_iff];simp
 ·have h':(l.W == -1)=false:=by simpa using h
  refine WL.sreg (by simp[h'];rfl) (by simp;rfl) (WL.ret ⟨.inr rfl,?_⟩)
  simp[fi84,fitsL,h']
set_option maxHeartbeats 4000000 in
theorem free1_fn (r t:Int):FnC Try.prog 82 [] [i64 r,.vptr () [i64 t]] [] (bl (r == t)):=by
 refine FnC.go ok82 rfl ?_
 refine WL.sreg (by simp;rfl) (by simp;rfl) ?_
 refine WL.sreg (by simp;rfl) (by simp;rfl) (WL.ret ⟨.inr rfl,?_⟩)
 simp[fi82]
set_option maxHeartbeats 4000000 in
theorem waits1_fn (w t:Int)(hw:N64 w):FnC Try.prog 158 [] [i64 w,.vptr () [i64 t]] [] (bl ((whoT w).1 == t)):=by
 refine FnC.go ok158 rfl ?_
 refine WL.sreg (by simp;rfl) (by simp;rfl) ?_
 refine WL.sregC (RL.o (by simp;rfl) (RL.call0 false (who_fn w hw) (by simp) (by simp) (RL.o (by simp;rfl) (RL.nil ⟨_,by simp;rfl,?_⟩))))
 refine WL.sreg (by simp;rfl) (by simp;rfl) (WL.ret ⟨.inr rfl,?_⟩)
 simp[fi158]
set_option maxHeartbeats 4000000 in
theorem indexfunc (l:List Int)(f:Nat)(cs:List AU)(p:Int→Bool)(hl:Small l.length)(hf:∀ x ∈ l,FnC Try.prog f [] [i64 x,.vptr () cs] [] (bl (p x))):FnC Try.prog 131 [] [sI false l,.clos f [.vptr () cs]] [] (i64 (ixF p l 0)):=by
 refine FnC.go ok131 rfl ?_
 refine WL.sreg (by simp;rfl) (by simp;rfl) ?_
 refine WL.seq (WL.sreg (by simp;rfl) (by simp;rfl) ?_)
 refine WL.block (WL.count l.length (fun i=>[(0,0,sI false l),(100,0,.clos f [.vptr () cs]),(700,0,i64 l.length),(800,0,i64 i)]) (fun i=>ixF p (l.drop i) i=ixF p l 0) rfl rfl fun i hi hinv=>?_)
 by_cases h:i < l.length
 ·refine WL.sreg (by simp[h];rfl) (by simp;rfl) ?_
  refine WL.seq (WL.cond (t:=true) (by simp) (fun _=>WL.skip ?_) (by simp))
  refine WL.seq (WL.block (WL.sreg (by simp;rfl) (by simp;rfl) ?_))
  rw[ixF_drop _ _ _ h] at hinv
  refine WL.sregC (RL.o (by simp[h];rfl) (RL.clo0 (f:=f) (cps:=[.vptr () cs]) false (by simp) (hf l[i] (List.getElem_mem h)) (by simp) (by simp) (by simp) (RL.nil ⟨_,by simp;rfl,?_⟩)))
  refine WL.cond (t:=p l[i]) (by simp) (fun hv=>?_) (fun hv=>?_)
  ·rw[if_pos hv] at hinv
   refine WL.sreg (by simp;rfl) (by simp;rfl) (WL.ret ⟨.inr rfl,?_⟩)
   simp[fi131,hinv]
  ·rw[if_neg (by simp[hv])] at hinv
   refine WL.skip ?_
   refine WL.reg (RL.run (by simp[wrap_succ hl h];rfl) ⟨_,by simp;rfl,?_⟩)
   exact⟨h,by simp,hinv⟩
 ·refine WL.sreg (by simp[h];rfl) (by simp;rfl) ?_
  refine WL.seq (WL.cond (t:=false) (by simp) (by simp) (fun _=>WL.exit ?_))
  simp
  refine WL.sreg (by simp;rfl) (by simp;rfl) (WL.ret ⟨.inr rfl,?_⟩)
  rw[ixF_end _ _ _ h] at hinv
  simp[fi131,← hinv]
set_option maxHeartbeats 4000000 in
theorem containsfunc (l:List Int)(f:Nat)(cs:List AU)(p:Int→Bool)(hl:Small l.length)(hf:∀ x ∈ l,FnC Try.prog f [] [i64 x,.vptr () cs] [] (bl (p x))):FnC Try.prog 141 [] [sI false l,.clos f [.vptr () cs]] [] (bl (l.any p)):=by
 refine FnC.go ok141 rfl ?_
 refine WL.sreg (by simp;rfl) (by simp;rfl) ?_
 refine WL.sregC (RL.o (by simp;rfl) (RL.call0 false (indexfunc l f cs p hl hf) (by simp) (by simp) (RL.o (by simp;rfl) (RL.nil ⟨_,by simp;rfl,WL.ret ⟨.inr rfl,?_⟩⟩))))
 simp only[fi141,RetOk]
 refine⟨_,by simp;rfl,?_,by simp⟩
 simp
 rw[Bool.eq_iff_iff]
 simp[← ixF_ge p l 0]
theorem waits_fn (l:Lt)(t:Int)(hq:Small l.Q.length)(h6:∀ w ∈ l.Q,N64 w):FnC Try.prog 129 [] [encL false l,i64 t] [] (bl (waitsL l.Q t)):=by
 refine FnC.go ok129 rfl ?_
 refine WL.sreg (by simp;rfl) (by simp;rfl) ?_
 refine WL.sregC (RL.o (by simp;rfl) (RL.call0 true (containsfunc l.Q 158 [i64 t] (fun w=>(whoT w).1 == t) hq fun w hw=>waits1_fn w t (h6 w hw)) (by simp) (by simp) (RL.o (by simp;rfl) (RL.nil ⟨_,by simp;rfl,WL.ret ⟨.inr rfl,?_⟩⟩))))
 simp[fi129,waitsL]
set_option maxHeartbeats 4000000 in
theorem has_fn (l:Lt)(t:Int)(hr:Small l.R.length):FnC Try.prog 25 [] [encL false l,i64 t] [] (bl (hasL l t)):=by
 refine FnC.go ok25 rfl ?_
 refine WL.sreg (by simp;rfl) (by simp;rfl) ?_
 by_cases h0:0≤t
 ·by_cases h1:l.W=t
  ·refine WL.sregC (RL.o (by simp[h0];rfl) (RL.g (by simp[h1];rfl) (RL.o (by simp;rfl) (RL.g (by simp;rfl) (RL.callN (by simp) (RL.o (by simp;rfl) (RL.nil ⟨_,by simp;rfl,WL.ret ⟨.inr rfl,?_⟩⟩)))))))
   simp[fi25,hasL,h0,h1]
  ·have h1':(l.W == t)=false:=by simpa using h1
   refine WL.sregC (RL.o (by simp[h0];rfl) (RL.g (by simp[h1'];rfl) (RL.o (by simp;rfl) (RL.g (by simp;rfl) (RL.callY0 false (by simp) (contains_int l.R t hr) (by simp) (by simp) (RL.o (by simp;rfl) (RL.nil ⟨_,by simp;rfl,WL.ret ⟨.inr rfl,?_⟩⟩)))))))
   simp[fi25,hasL,h0,h1']
 ·refine WL.sregC (RL.o (by simp[h0];rfl) (RL.g (by simp;rfl) (RL.o (by simp;rfl) (RL.g (by simp;rfl) (RL.callY0 false (by simp) (contains_int l.R t hr) (by simp) (by simp) (RL.o (by simp;rfl) (RL.nil ⟨_,by simp;rfl,WL.ret ⟨.inr rfl,?_⟩⟩)))))))
  simp[fi25,hasL,h0]
end Go.OT
namespace Go.OT
open Go.Proofs
set_option maxHeartbeats 4000000 in
theorem lown_fn (l:Lt)(h1:Small l.R.length)(h2:Small l.Q.length):FnC Try.prog 80 [] [encL false l] [] (encL true l):=by
 refine FnC.go ok80 rfl ?_
 refine WL.sreg (by simp;rfl) (by simp;rfl) ?_
 refine WL.seq (WL.draw mixed (by simp[cleanL,noH]) (DL.o (by simp;exact⟨rfl,rfl⟩) ?_))
 refine DL.call0 false (clone_int l.R h1) (by simp) (by simp) ?_
 refine DL.o (by simp;exact⟨rfl,rfl⟩) ?_
 refine DL.call0 false (clone_int l.Q h2) (by simp) (by simp) ?_
 refine DL.o (by simp;exact⟨rfl,rfl⟩) ?_
 refine DL.nil ⟨by kernel_rfl,_,by simp;rfl,?_⟩
 refine WL.ret ⟨.inr rfl,?_⟩
 simp[fi80]
set_option maxHeartbeats 4000000 in
theorem nan_fn (x:Int):FnC Try.prog 139 [] [i64 x] [] (bl false):=by
 refine FnC.go ok139 rfl ?_
 refine WL.sreg (by simp;rfl) (by simp;rfl) ?_
 refine WL.sreg (by simp;rfl) (by simp;rfl) (WL.ret ⟨.inr rfl,?_⟩)
 simp[fi139]
set_option maxHeartbeats 4000000 in
theorem nan2_fn (x:Int):FnC Try.prog 160 [] [i64 x] [] (bl false):=by
 refine FnC.go ok160 rfl ?_
 refine WL.sreg (by simp;rfl) (by simp;rfl) ?_
 refine WL.sreg (by simp;rfl) (by simp;rfl) (WL.ret ⟨.inr rfl,?_⟩)
 simp[fi160]
set_option maxHeartbeats 4000000 in
theorem less_fn (x y:Int):FnC Try.prog 159 [] [i64 x,i64 y] [] (bl (decide (x < y))):=by
 refine FnC.go ok159 rfl ?_
 refine WL.sreg (by simp;rfl) (by simp;rfl) ?_
 refine WL.sregC (RL.o (by simp;rfl) (RL.call0 false (nan_fn x) (by simp) (by simp) (RL.o (by simp;rfl) (RL.g (by simp;rfl) (RL.callN (by simp) (RL.g (by simp;rfl) (RL.o (by simp;rfl) (RL.g (by simp;rfl) (RL.o (by simp;rfl) (RL.nil ⟨_,by simp;rfl,WL.ret ⟨.inr rfl,?_⟩⟩))))))))))
 simp[fi159]
def rank (l:List Int)(t:Int):Nat:=(l.filter (fun x=>decide (x < t))).length
theorem mid_wrap (i j:Nat)(h:i+j < 9223372036854775808):IntKind.i64.wrap ((IntKind.u64.wrap ((i:Int)+(j:Int))).fdiv (2 ^ min 1 IntKind.u64.bits))=(((i+j) / 2:Nat):Int):=by
 have h1:IntKind.u64.wrap ((i:Int)+(j:Int))=((i+j:Nat):Int):=by
  rw[IntWalk.u64_in _ ⟨by omega,by omega⟩];simp
 rw[h1]
 have h2:(2:Int) ^ min 1 IntKind.u64.bits=2:=by decide
 rw[h2,Int.fdiv_eq_ediv_of_nonneg _ (by omega)]
 rw[wrap_small (by omega) (by omega)]
 omega
theorem rank_eq {l:List Int}{t:Int}{i:Nat}(hj:i≤l.length)(hlo:∀ k (h:k < l.length),k < i→l[k] < t)(hhi:∀ k (h:k < l.length),i≤k→¬ l[k] < t):rank l t=i:=by
 unfold rank
 have h1:l=l.take i ++ l.drop i:=(List.take_append_drop i l).symm
 rw[h1,List.filter_append]
 have h2:(l.take i).filter (fun x=>decide (x < t))=l.take i:=by
  rw[List.filter_eq_self]
  intro a ha
  obtain⟨k,hk,rfl⟩:=List.getElem_of_mem ha
  simp only[List.getElem_take,decide_eq_true_eq]
  simp at hk
  exact hlo k (by omega) (by omega)
 have h3:(l.drop i).filter (fun x=>decide (x < t))=[]:=by
  rw[List.filter_eq_nil_iff]
  intro a ha
  obtain⟨k,hk,rfl⟩:=List.getElem_of_mem ha
  simp only[List.getElem_drop,decide_eq_true_eq]
  simp at hk
  exact hhi (i+k) (by omega) (by omega)
 rw[h2,h3]
 simp;omega
theorem rank_mem {l:List Int}{t:Int}{i:Nat}(hs:l.Pairwise (·≤·))(hj:i≤l.length)(hlo:∀ k (h:k < l.length),k < i→l[k] < t)(hhi:∀ k (h:k < l.length),i≤k→¬ l[k] < t):l.any (· == t)=(if h:i < l.length then l[i] == t else false):=by
 rw[Bool.eq_iff_iff]
 constructor
 ·intro h
  obtain⟨x,hx,he⟩:=List.any_eq_true.1 h
  obtain⟨k,hk,rfl⟩:=List.getElem_of_mem hx
  have he:l[k]=t:=by simpa using he
  rcases Nat.lt_or_ge k i with h1 | h1
  ·have:=hlo k hk h1;omega
  ·rw[dif_pos (by omega)]
   rcases Nat.lt_or_ge i k with h2 | h2
   ·have h3:=List.pairwise_iff_getElem.1 hs i k (by omega) hk h2
    have h4:=hhi i (by omega) (Nat.le_refl _)
    have h5:l[i]=t:=by omega
    simpa using h5
   ·have e:i=k:=by omega
    subst e;simpa using he
 ·intro h
  split at h
  ·rename_i hi
   exact List.any_eq_true.2 ⟨l[i],List.getElem_mem hi,h⟩
  ·cases h
def schT (l:List Int)(t:Int)(x:Nat × Nat):SL:=[(0,0,sI false l),(100,0,i64 t),(600,0,i64 l.length),(700,0,i64 x.1),(800,0,i64 x.2)]
set_option maxHeartbeats 4000000 in
theorem search_fn (l:List Int)(t:Int)(hl:Small l.length)(hs:l.Pairwise (·≤·)):FnC Try.prog 132 [] [sI false l,i64 t] [] (.tuple [i64 (rank l t),bl (l.any (· == t))]):=by
 refine FnC.go ok132 rfl ?_
 refine WL.sreg (by simp;rfl) (by simp;rfl) ?_
 refine WL.sreg (by simp;rfl) (by simp;rfl) ?_
 refine WL.sreg (by simp;rfl) (by simp;rfl) ?_
 refine WL.seq ?_
 refine WL.block (WL.loop (ι:={x:Nat × Nat // x.1≤x.2∧x.2≤l.length∧(∀ k (h:k < l.length),k < x.1→l[k] < t)∧(∀ k (h:k < l.length),x.2≤k→¬ l[k] < t)}) (fun x=>schT l t x.1) (fun x=>x.1.2 - x.1.1) ⟨(0,l.length),by simp,by simp,by simp,fun k h h'=>absurd h' (by simp;omega)⟩ ?_ fun ⟨⟨i,j⟩,hij,hj,hlo,hhi⟩=>?_)
 ·simp[schT]
 ·simp only[schT]
  unfold Small at hl
  by_cases h:i < j
  ·obtain⟨m,hmd⟩:∃ m,m=(i+j) / 2:=⟨_,rfl⟩
   have hmi:i≤m:=by omega
   have hmj:m < j:=by omega
   have hh:m < l.length:=by simp only at hj;omega
   have hm:i+j < 9223372036854775808:=by simp only at hj;omega
   have hmw:=mid_wrap i j hm
   rw[← hmd] at hmw
   have hw:IntKind.wrap .i64 ((i:Int)+(j:Int))=((i+j:Nat):Int):=by
    rw[wrap_small (by omega) (by omega)];simp
   refine WL.seq (WL.sreg (by simp[h];rfl) (by simp;rfl) (WL.cond (t:=true) (by simp) (fun _=>WL.skip ?_) (by simp)))
   simp only[Ex.thenL_nrm]
   refine WL.block (WL.sreg (by simp[hw,hmw];rfl) (by simp;rfl) ?_)
   refine WL.sregC (RL.o (by simp[hh];rfl) (RL.call0 false (less_fn l[m] t) (by simp) (by simp) (RL.nil ⟨_,by simp;rfl,?_⟩)))
   refine WL.cond (t:=decide (l[m] < t)) (by simp) (fun hv=>?_) (fun hv=>?_)
   ·have hv':l[m] < t:=by simpa using hv
    have hw2:IntKind.wrap .i64 (((m:Nat):Int)+1)=((m+1:Nat):Int):=by
     rw[wrap_small (by omega) (by omega)];simp
    refine WL.reg (RL.run (by simp[hw2];rfl) ⟨_,by simp;rfl,?_⟩)
    refine⟨⟨(m+1,j),?_,hj,fun k hk hlt=>?_,hhi⟩,by simp[schT],?_⟩
    ·show m+1≤j
     omega
    ·simp only at hlt
     rcases Nat.lt_or_ge k (m) with h1 | h1
     ·have:=List.pairwise_iff_getElem.1 hs k (m) hk hh h1
      omega
     ·have e:k=m:=by omega
      subst e;exact hv'
    ·show j - (m+1) < j - i
     omega
   ·have hv':¬ l[m] < t:=by simpa using hv
    refine WL.reg (RL.run (by simp;rfl) ⟨_,by simp;rfl,?_⟩)
    refine⟨⟨(i,m),?_,?_,hlo,fun k hk hle=>?_⟩,by simp[schT],?_⟩
    ·show i≤m
     omega
    ·show m≤l.length
     omega
    ·simp only at hle
     rcases Nat.lt_or_ge (m) k with h1 | h1
     ·have:=List.pairwise_iff_getElem.1 hs (m) k hh hk h1
      omega
     ·have e:k=m:=by omega
      subst e;exact hv'
    ·show m - i < j - i
     omega
  ·have hij':i=j:=by simp only at hij;omega
   subst hij'
   have hri:rank l t=i:=rank_eq hj hlo hhi
   have hmem:l.any (· == t)=(if h:i < l.length then l[i] == t else false):=rank_mem hs hj hlo hhi
   refine WL.seq (WL.sreg (by simp;rfl) (by simp;rfl) (WL.cond (t:=false) (by simp) (by simp) fun _=>WL.exit ?_))
   simp
   by_cases h1:i < l.length
   ·by_cases h2:l[i]=t
    ·refine WL.sregC (RL.o (by simp[h1];rfl) (RL.g (by simp[h1,h2];rfl) (RL.g (by simp;rfl) (RL.callN (by simp) (RL.g (by simp;rfl) (RL.g (by simp;rfl) (RL.callN (by simp) (RL.g (by simp;rfl) (RL.g (by simp;rfl) (RL.o (by simp;rfl) (RL.nil ⟨_,by simp;rfl,WL.ret ⟨.inr rfl,?_⟩⟩)))))))))))
     simp[fi132,hri,hmem,h1,h2]
    ·have h2':(l[i] == t)=false:=by simpa using h2
     refine WL.sregC (RL.o (by simp[h1];rfl) (RL.g (by simp[h1,h2'];rfl) (RL.g (by simp[h1];rfl) (RL.callY0 false (by simp) (nan2_fn l[i]) (by simp) (by simp) (RL.g (by simp;rfl) (RL.g (by simp;rfl) (RL.callN (by simp) (RL.g (by simp;rfl) (RL.g (by simp;rfl) (RL.o (by simp;rfl) (RL.nil ⟨_,by simp;rfl,WL.ret ⟨.inr rfl,?_⟩⟩)))))))))))
     simp[fi132,hri,hmem,h1,h2']
   ·refine WL.sregC (RL.o (by simp[h1];rfl) (RL.g (by simp;rfl) (RL.g (by simp;rfl) (RL.callN (by simp) (RL.g (by simp;rfl) (RL.g (by simp;rfl) (RL.callN (by simp) (RL.g (by simp;rfl) (RL.g (by simp;rfl) (RL.o (by simp;rfl) (RL.nil ⟨_,by simp;rfl,WL.ret ⟨.inr rfl,?_⟩⟩)))))))))))
    simp[fi132,hri,hmem,h1]
end Go.OT
namespace Go.OT
theorem bind_some' {α β:Type}{x:Option α}{f:α→Option β}{y:β}(h:x.bind f=some y):∃ a,x=some a∧f a=some y:=Option.bind_eq_some_iff.1 h
theorem map_some' {α β:Type}{x:Option α}{f:α→β}{y:β}(h:x.map f=some y):∃ a,x=some a∧f a=y:=Option.map_eq_some_iff.1 h
theorem compCall_mov {P:Program}{nt:Nat}{o:Oper}{c:Call}{d n:Nat}(h:compCall P nt o c=some (.mov d (.t n))):False:=by
 unfold compCall at h
 obtain⟨d',_,h⟩:=bind_some' h
 split at h
 ·obtain⟨c,_,h⟩:=bind_some' h
  split at h<;>cases h
 ·obtain⟨c,_,h⟩:=bind_some' h
  obtain⟨b,_,h⟩:=map_some' h
  cases h
 ·obtain⟨c,_,h⟩:=bind_some' h
  obtain⟨b,_,h⟩:=map_some' h
  cases h
 ·obtain⟨c,_,h⟩:=bind_some' h
  obtain⟨b,_,h⟩:=bind_some' h
  split at h
  ·split at h
   ·obtain⟨i,_,h⟩:=bind_some' h
    obtain⟨z,_,h⟩:=bind_some' h
    split at h<;>cases h
   ·cases h
  ·cases h
 ·obtain⟨c,_,h⟩:=bind_some' h
  obtain⟨b,_,h⟩:=bind_some' h
  split at h
  ·obtain⟨i,_,h⟩:=bind_some' h
   split at h<;>cases h
  ·cases h
 ·cases h
theorem compO_mov {P:Program}{nt:Nat}{here:List Nat}{o:Oper}{d n:Nat}(h:compO P nt here o=some (.mov d (.t n))):opsIn nt o=true∧∃ x,(o.op=.move x∨o.op=.assign x)∧∃ sz,compOd nt sz x=some (.t n):=by
 unfold compO at h
 split at h
 ·rename_i hc
  refine⟨hc.1,?_⟩
  split at h
  ·rename_i x hop
   obtain⟨d',_,h⟩:=bind_some' h
   obtain⟨c,hx,h⟩:=map_some' h
   cases h
   exact⟨x,.inl hop,_,hx⟩
  ·rename_i x hop
   obtain⟨d',_,h⟩:=bind_some' h
   obtain⟨c,hx,h⟩:=map_some' h
   split at h
   ·split at h
    ·cases h
    ·cases h;exact⟨x,.inr hop,_,hx⟩
   ·cases h
  ·exfalso
   obtain⟨_,_,h⟩:=bind_some' h
   obtain⟨_,_,h⟩:=map_some' h
   cases h
  ·exfalso
   obtain⟨_,_,h⟩:=bind_some' h
   obtain⟨_,_,h⟩:=bind_some' h
   obtain⟨_,_,h⟩:=bind_some' h
   obtain⟨_,_,h⟩:=map_some' h
   cases h
  ·exfalso
   obtain⟨_,_,h⟩:=bind_some' h
   obtain⟨_,_,h⟩:=map_some' h
   cases h
  ·exfalso
   obtain⟨_,_,h⟩:=bind_some' h
   obtain⟨_,_,h⟩:=bind_some' h
   split at h
   ·cases h
   ·split at h
    ·cases h
    ·obtain⟨_,_,h⟩:=bind_some' h
     split at h
     ·split at h
      ·cases h
      ·split at h<;>cases h
     ·cases h
  ·exfalso
   obtain⟨_,_,h⟩:=bind_some' h
   obtain⟨_,_,h⟩:=bind_some' h
   split at h
   ·cases h
   ·split at h<;>cases h
   ·split at h
    ·split at h<;>cases h
    ·cases h
   ·split at h<;>cases h
   ·cases h
  ·exfalso
   obtain⟨_,_,h⟩:=bind_some' h
   obtain⟨_,_,h⟩:=bind_some' h
   obtain⟨_,_,h⟩:=bind_some' h
   obtain⟨_,_,h⟩:=bind_some' h
   split at h<;>cases h
  ·exfalso
   obtain⟨_,_,h⟩:=bind_some' h
   obtain⟨_,_,h⟩:=bind_some' h
   split at h
   ·obtain⟨_,_,h⟩:=bind_some' h
    obtain⟨_,_,h⟩:=bind_some' h
    split at h<;>cases h
   ·cases h
  ·exfalso
   obtain⟨_,_,h⟩:=bind_some' h
   obtain⟨_,_,h⟩:=bind_some' h
   obtain⟨_,_,h⟩:=bind_some' h
   split at h
   ·obtain⟨_,_,h⟩:=map_some' h
    cases h
   ·obtain⟨_,_,h⟩:=map_some' h
    cases h
   ·cases h
  ·exfalso
   obtain⟨_,_,h⟩:=bind_some' h
   obtain⟨_,_,h⟩:=bind_some' h
   obtain⟨_,_,h⟩:=bind_some' h
   obtain⟨_,_,h⟩:=bind_some' h
   split at h
   ·obtain⟨_,_,h⟩:=map_some' h
    cases h
   ·cases h
   ·cases h
  ·exfalso
   obtain⟨_,_,h⟩:=bind_some' h
   obtain⟨_,_,h⟩:=bind_some' h
   obtain⟨_,_,h⟩:=bind_some' h
   split at h<;>cases h
  ·exfalso
   split at h
   ·obtain⟨_,_,h⟩:=bind_some' h
    obtain⟨_,_,h⟩:=bind_some' h
    obtain⟨_,_,h⟩:=map_some' h
    cases h
   ·cases h
  ·exfalso
   obtain⟨_,_,h⟩:=map_some' h
   cases h
  ·exfalso
   obtain⟨_,_,h⟩:=bind_some' h
   obtain⟨_,_,h⟩:=map_some' h
   cases h
  ·exfalso
   obtain⟨_,_,h⟩:=bind_some' h
   obtain⟨_,_,h⟩:=bind_some' h
   split at h<;>cases h
  ·exfalso
   obtain⟨_,_,h⟩:=bind_some' h
   obtain⟨_,_,h⟩:=bind_some' h
   obtain⟨_,_,h⟩:=bind_some' h
   split at h<;>cases h
  ·exfalso
   obtain⟨_,_,h⟩:=bind_some' h
   obtain⟨_,_,h⟩:=bind_some' h
   obtain⟨_,_,h⟩:=bind_some' h
   split at h
   ·obtain⟨_,_,h⟩:=bind_some' h
    obtain⟨_,_,h⟩:=bind_some' h
    split at h<;>cases h
   ·cases h
  ·exfalso
   obtain⟨_,_,h⟩:=bind_some' h
   split at h
   ·obtain⟨_,_,h⟩:=bind_some' h
    split at h
    ·obtain⟨_,_,h⟩:=bind_some' h
     split at h<;>cases h
    ·cases h
   ·split at h
    ·obtain⟨_,_,h⟩:=map_some' h
     cases h
    ·cases h
   ·split at h
    ·obtain⟨_,_,h⟩:=bind_some' h
     obtain⟨_,_,h⟩:=bind_some' h
     split at h
     ·cases h
     ·obtain⟨_,_,h⟩:=bind_some' h
      split at h<;>cases h
    ·cases h
  ·exfalso
   obtain⟨_,_,h⟩:=bind_some' h
   split at h
   ·obtain⟨_,_,h⟩:=map_some' h
    cases h
   ·cases h
  ·exfalso
   obtain⟨_,_,h⟩:=bind_some' h
   obtain⟨_,_,h⟩:=bind_some' h
   split at h
   ·obtain⟨_,_,h⟩:=bind_some' h
    split at h<;>cases h
   ·cases h
  ·exfalso
   exact compCall_mov h
  ·exfalso
   cases h
 ·cases h
theorem ok_mvr {C:Ctx}{o:Oper}{X:XF Unit}{d n sz:Nat}{x:Operand}(ho:o.op=.move x∨o.op=.assign x)(hd:o.dst=some d)(hlt:d < C.nt)(hin:opsIn C.nt o=true)(hc:compOd C.nt sz x=some (.t n))(hne:d ≠ n) :
  OpOk C o X ((X.set (100 * d) (X (100 * n)).2).set (100 * n) .non) :=
 OpOk.of_val hd hlt hin fun XL β I rg w he R=>by
  subst he
  have hx:x=.tmp n:=by
   cases x with
   | tmp t =>
    simp only[compOd] at hc
    split at hc
    ·simp only[Option.some.injEq,COd.t.injEq] at hc;rw[hc]
    ·cases hc
   | const v=>simp only[compOd] at hc;split at hc<;>cases hc
   | func f=>cases hc
   | global g=>cases hc
  subst hx
  have R1:=R.moveR d n (by have:=C.hnt;omega) hne
  refine⟨rg n,w,_,β,I,_,?_,?_,R1,by simp,fun t h1 _=>by simp[h1]⟩
  ·rcases ho with ho | ho<;>simp [execOp,ho,evR]
  ·rw[erF_set,erF_set];rfl
theorem RL.mv {P:Program}{nt:Nat}{L:SL}{K:SL→Prop}{l:List COp}{rest:List Sg}{d n:Nat}(hne:d ≠ n)(h:RL P nt (.o l :: rest) (setL (setL L (100 * d) (fnL L (100 * n)).2) (100 * n) .non) K):RL P nt (.o (.mov d (.t n) :: l) :: rest) L K :=
 RL.cons (it:=.op none (.mov d (.t n))) (rest:=.o l :: rest) (by simp[flatS]) (fun C ops i o hP hn hi hit=>by
  obtain⟨h1,h2,h3⟩:=itOf_op hit
  subst hP hn
  obtain⟨hin,x,hop,sz,hx⟩:=compO_mov h2
  rcases h3 with ⟨_,_,_,e,_⟩ | ⟨h4,h5,_⟩
  ·cases e
  ·have:=ok_mvr (X:=fnL L) hop h4 h5 hin hx hne
   rw[fnL_set,fnL_set] at this
   exact SOk.op hi (compGd_none h1) this) h
section
variable {C:Ctx} {X:XF LO} {β:Nat→Nat × Nat} {I:ASet} {rg:Nat→Value} {w:World}
end
end Go.OT
namespace Go.OT
section
variable {P:Program} {nt:Nat} {L:SL}
theorem backU_ne {X:XF Unit}{k:Nat}:∀ {zs:List ((Nat × List Nat) × Gh Unit)},(∀ e ∈ zs,e.1.1 ≠ k)→backU X zs k=X k
 | [],_=>rfl
 | e :: l,h=>by
  rw[backU,XF.set_ne _ _ (fun e'=>h e List.mem_cons_self e'.symm)]
  exact backU_ne fun e' he'=>h e' (List.mem_cons_of_mem _ he')
end
end Go.OT
namespace Go.OT
def clrB {L:Type}(X:XF L)(b:Nat):Nat→XF L
 | 0=>X
 | n+1=>(clrB X b n).set (100 * b+1+n) .non
theorem clrB_at {L:Type}(X:XF L)(b:Nat):∀ (n k:Nat),clrB X b n k=if 100 * b+1≤k∧k < 100 * b+1+n then (nx (X k),.non) else X k
 | 0,k=>by rw[if_neg (by omega)];rfl
 | n+1,k=>by
  simp only[clrB,XF.set]
  by_cases h:k=100 * b+1+n
  ·subst h
   rw[if_pos rfl,if_pos (by omega),clrB_at X b n,if_neg (by omega)]
  ·rw[if_neg h,clrB_at X b n]
   by_cases h':100 * b+1≤k∧k < 100 * b+1+n
   ·rw[if_pos h',if_pos (by omega)]
   ·rw[if_neg h',if_neg (by omega)]
theorem keeps_clrB (X:XF LO) (β:Nat→Nat × Nat)(b:Nat):∀ n,Keeps X (clrB X b n) β β
 | 0=>Keeps.refl X β
 | n+1=>(keeps_clrB X β b n).trans (keeps_set _ β _ _)
theorem erF_clrB (X:XF LO)(b:Nat):∀ n,erF (clrB X b n)=clrB (erF X) b n
 | 0=>rfl
 | n+1=>by simp only[clrB];rw[erF_set,erF_clrB X b n];rfl
section
variable {C:Ctx} {X:XF LO} {β:Nat→Nat × Nat} {I:ASet} {rg:Nat→Value} {w:World}
theorem RelL.up (R:RelL C X β I rg w)(b:Nat)(hb:b < 10000)(hr:(X (100 * b)).2=.bptr b (X (100 * b+99)).1 0)(cs:List AL)(hn:cs.length≤98)
  (hcs:∀ i c,cs[i]?=some c→(X (100 * b+1+i)).2=c∧treeV c=true) :
  RelL C ((clrB X b cs.length).set (100 * b) (.bx true (some ⟨(β b).1,(β b).2,0⟩) cs)) β I rg w:=by
 have hc:∀ i,i < cs.length→∃ c,cs[i]?=some c∧(X (100 * b+1+i)).2=c∧treeV c=true∧c ≠ .non∧isCell (100 * b+1+i)∧(100 * b+1+i) / 100=b∧(100 * b+1+i) % 100 - 1=i:=by
  intro i hi
  obtain⟨h1,h2⟩:=hcs i _ (List.getElem?_eq_getElem hi)
  refine⟨_,List.getElem?_eq_getElem hi,h1,h2,fun e=>?_,⟨by omega,by omega⟩,by omega,by omega⟩
  rw[e] at h2;simp[treeV] at h2
 have hat:∀ i c,cs[i]?=some c→(∃ y,w.at (β b).1 ((β b).2+i)=some (.v y)∧CR c y)∧¬ fp c (β b).1 ((β b).2+i)∧Mem w I c∧Sep c:=by
  intro i c hi
  obtain⟨c',h1,h2,h3,h4,h5,h6,h7⟩:=hc i (List.getElem?_eq_some_iff.1 hi).1
  rw[hi] at h1
  cases h1
  have hk:=R.key (100 * b+1+i)
  obtain⟨⟨y,hy,hx⟩,hnf⟩:=hk.cell h5 (by rw[h2];exact h4)
  rw[h6,h7] at hy hnf
  rw[h2] at hx hnf
  exact⟨⟨y,hy,hx.cr (by cases c<;>simp [treeV] at h3<;>rfl)⟩,hnf,by rw[← h2];exact hk.mem,by rw[← h2];exact hk.sep⟩
 have haddr:∀ i,i < cs.length→kfp β X (100 * b+1+i) (β b).1 ((β b).2+i):=by
  intro i hi
  obtain⟨c,h1,h2,h3,h4,h5,h6,h7⟩:=hc i hi
  exact .inr ⟨h5,by rw[h2];exact h4,by rw[h6],by rw[h6,h7]⟩
 have hin:∀ i c,cs[i]?=some c→∀ b' o',fp c b' o'→kfp β X (100 * b+1+i) b' o':=by
  intro i c hi b' o' h
  left
  rw[(hcs i c hi).1];exact h
 have hfp:∀ b' o',fp (.bx true (some ⟨(β b).1,(β b).2,0⟩) cs) b' o'→∃ i,i < cs.length∧kfp β X (100 * b+1+i) b' o':=by
  intro b' o' h
  simp only[fp] at h
  rcases h with ⟨rfl,h1,h2⟩ | h
  ·refine⟨o' - (β b).2,by omega,?_⟩
   have:=haddr (o' - (β b).2) (by omega)
   rwa [show (β b).2+(o' - (β b).2)=o' by omega] at this
  ·obtain⟨c,hc',hcb⟩:=fpL_iff.1 h
   obtain⟨i,hi⟩:=List.getElem?_of_mem hc'
   exact⟨i,(List.getElem?_eq_some_iff.1 hi).1,hin i c hi _ _ hcb⟩
 have hself:((clrB X b cs.length).set (100 * b) (.bx true (some ⟨(β b).1,(β b).2,0⟩) cs) (100 * b)).2=.bx true (some ⟨(β b).1,(β b).2,0⟩) cs:=by rw[XF.set_self]
 have hoth:∀ k,100 * b+1≤k∧k < 100 * b+1+cs.length→((clrB X b cs.length).set (100 * b) (.bx true (some ⟨(β b).1,(β b).2,0⟩) cs) k).2=.non:=by
  intro k hk
  rw[XF.set_ne _ _ (by omega),clrB_at,if_pos hk]
 have hK:Keeps X ((clrB X b cs.length).set (100 * b) (.bx true (some ⟨(β b).1,(β b).2,0⟩) cs)) β β:=(keeps_clrB X β b _).trans (keeps_set _ β _ _)
 refine R.change (fun k=>k=100 * b∨(100 * b+1≤k∧k < 100 * b+1+cs.length)) (fun k hk=>?_) hK (fun _ _ _=>.inl rfl) (fun _ _=>rfl) (fun _ _=>rfl) (fun t ht=>?_) (fun k hk=>?_) (fun k k' hk hk' hne b' o' h1 h2=>?_) (fun k hk b' o' h=>?_)
  (fun _ _ h=>h) (fun _ _ h=>.inl h) ((Frame.refl _ w).mono fun _ _ _ h=>h)
 ·rw[XF.set_ne _ _ (fun e=>hk (.inl e)),clrB_at,if_neg (fun e=>hk (.inr e))]
 ·have e:t=b:=by omega
  subst e
  rw[hself]
  have:=R.reg t
  rw[hr] at this
  simp only[RR] at this
  have h2:=this.2 trivial
  simp only[RR,CR]
  simpa using h2
 ·rcases hk with rfl | hk
  ·refine⟨?_,?_,fun h=>absurd h.1 (by omega),fun b' o' h=>?_,fun h=>by omega⟩
   ·rw[hself]
    simp only[Mem]
    exact MemL_iff.2 fun i c hi=>⟨(hat i c hi).1,(hat i c hi).2.2.1,by simp⟩
   ·rw[hself]
    simp only[Sep]
    refine⟨fun i hi hbad=>?_,SepL_iff.2 ⟨fun c hc'=>?_,fun i j u v hij hu hv b' o' g1 g2=>?_⟩⟩
    ·obtain⟨c,hc',hcb⟩:=fpL_iff.1 hbad
     obtain⟨i',hi'⟩:=List.getElem?_of_mem hc'
     by_cases hii:i=i'
     ·subst hii;exact (hat i c hi').2.1 hcb
     ·exact R.disj (100 * b+1+i) (100 * b+1+i') (by omega) _ _ (haddr i hi) (hin i' c hi' _ _ hcb)
    ·obtain⟨i',hi'⟩:=List.getElem?_of_mem hc'
     exact (hat i' c hi').2.2.2
    ·exact R.disj (100 * b+1+i) (100 * b+1+j) (by omega) b' o' (hin i u hu _ _ g1) (hin j v hv _ _ g2)
   ·rcases h with h | ⟨h,_⟩
    ·rw[hself] at h
     obtain⟨i,_,hi⟩:=hfp _ _ h
     exact (R.key _).live _ _ hi
    ·exact absurd h.1 (by omega)
  ·have h0:=hoth k hk
   refine⟨by rw[h0];simp[Mem],by rw[h0];simp[Sep],fun _ h=>absurd h0 h,fun b' o' h=>?_,fun _=>h0⟩
   rcases h with h | ⟨_,h,_⟩
   ·rw[h0] at h;simp[fp] at h
   ·exact absurd h0 h
 ·have only:∀ k,(k=100 * b∨(100 * b+1≤k∧k < 100 * b+1+cs.length))→kfp β ((clrB X b cs.length).set (100 * b) (.bx true (some ⟨(β b).1,(β b).2,0⟩) cs)) k b' o'→k=100 * b:=by
   intro k hk h
   rcases hk with e | hk
   ·exact e
   ·have h0:=hoth k hk
    rcases h with h | ⟨_,h,_⟩
    ·rw[h0] at h;simp[fp] at h
    ·exact absurd h0 h
  exact hne ((only k hk h1).trans (only k' hk' h2).symm)
 ·rcases hk with rfl | hk
  ·rcases h with h | ⟨h,_⟩
   ·rw[hself] at h
    obtain⟨i,hi,hi'⟩:=hfp _ _ h
    exact .inl ⟨_,.inr ⟨by omega,by omega⟩,hi'⟩
   ·exact absurd h.1 (by omega)
  ·have h0:=hoth k hk
   rcases h with h | ⟨_,h,_⟩
   ·rw[h0] at h;simp[fp] at h
   ·exact absurd h0 h
end
theorem RelT.up {C:Ctx}{X:XF Unit}{tm:Array Value}{w:World}(h:RelT C X tm w)(b:Nat)(hb:b < 10000)(hr:(X (100 * b)).2=.bptr b (X (100 * b+99)).1 0)(cs:List AU)(hn:cs.length≤98)
  (hcs:∀ i c,cs[i]?=some c→(X (100 * b+1+i)).2=c∧treeV c=true):RelT C ((clrB X b cs.length).set (100 * b) (.bx true () cs)) tm w:=by
 obtain⟨XL,β,I,rg,he,R,hs,ht⟩:=h
 subst he
 have hr':(XL (100 * b)).2=.bptr b (XL (100 * b+99)).1 0:=by
  simp only[erF] at hr
  revert hr
  cases (XL (100 * b)).2<;>simp [er]
 have hget:∀ i c,((List.range cs.length).map fun i=>(XL (100 * b+1+i)).2)[i]?=some c→i < cs.length∧c=(XL (100 * b+1+i)).2:=by
  intro i c hc
  have hi:i < cs.length:=by
   have:=(List.getElem?_eq_some_iff.1 hc).1
   simpa using this
  simp[hi] at hc
  exact⟨hi,hc.symm⟩
 have R':=R.up b hb hr' ((List.range cs.length).map fun i=>(XL (100 * b+1+i)).2) (by simpa using hn) (fun i c hc=>by
  obtain⟨hi,rfl⟩:=hget i c hc
  refine⟨rfl,?_⟩
  obtain⟨h1,h2⟩:=hcs i _ (List.getElem?_eq_getElem hi)
  rw[← er_treeV]
  have h1':er (XL (100 * b+1+i)).2=cs[i]:=h1
  rw[h1'];exact h2)
 rw[show ((List.range cs.length).map fun i=>(XL (100 * b+1+i)).2).length=cs.length by simp] at R'
 refine⟨_,β,_,rg,?_,R',hs,ht⟩
 rw[erF_set,erF_clrB]
 congr 1
 simp only[er,erL_eq,List.map_map]
 congr 1
 apply List.ext_getElem?
 intro i
 by_cases hi:i < cs.length
 ·have h1:er (XL (100 * b+1+i)).2=cs[i]:=(hcs i _ (List.getElem?_eq_getElem hi)).1
  simp[hi,h1]
 ·rw[List.getElem?_eq_none (by simpa using Nat.le_of_not_lt hi),List.getElem?_eq_none (by omega:cs.length≤i)]
def clrBL (L:SL)(b:Nat):Nat→SL
 | 0=>L
 | n+1=>setL (clrBL L b n) (100 * b+1+n) .non
theorem fnL_clrB (L:SL)(b:Nat):∀ n,clrB (fnL L) b n=fnL (clrBL L b n)
 | 0=>rfl
 | n+1=>by simp only[clrB,clrBL];rw[fnL_clrB L b n,fnL_set]
attribute [simp] clrBL
theorem boxFrom_at {X:XF Unit}{b:Nat}:∀ (n i j:Nat) (c:AU),(boxFrom X b i n)[j]?=some c→(X (100 * b+1+(i+j))).2=c
 | 0,i,j,c,h=>by simp[boxFrom] at h
 | n+1,i,j,c,h=>by
  have key:∀ v:AU,(X (100 * b+1+i)).2=v→(v :: boxFrom X b (i+1) n)[j]?=some c→(X (100 * b+1+(i+j))).2=c:=by
   intro v hv h
   cases j with
   | zero =>
    simp at h
    show (X (100 * b+1+i)).2=c
    rw[hv,h]
   | succ j =>
    have:=boxFrom_at n (i+1) j c (by simpa using h)
    rwa [show i+1+j=i+(j+1) by omega] at this
  simp only[boxFrom] at h
  split at h
  all_goals first | (simp at h;done) | skip
  exact key _ rfl h
section
variable {P:Program} {nt:Nat} {L:SL} {Q:Ex→SL→Prop}
def upL (L:SL)(b:Nat)(cs:List AU):SL:=setL (clrBL L b cs.length) (100 * b) (.bx true () cs)
attribute [simp] upL
theorem RelT.upL {C:Ctx}{tm:Array Value}{w:World}(h:RelT C (fnL L) tm w)(b n:Nat)(cs:List AU)(hb:b < 10000)(hr:(fnL L (100 * b)).2=.bptr b (fnL L (100 * b+99)).1 0)(hn:n≤98)
  (hcs:boxFrom (fnL L) b 0 n=cs) (ht:cs.all treeV=true):RelT C (fnL (upL L b cs)) tm w:=by
 have hlen:cs.length≤n:=by
  rw[← hcs]
  have:∀ m i,(boxFrom (fnL L) b i m).length≤m:=by
   intro m
   induction m with
   | zero=>intro i;simp[boxFrom]
   | succ m ih=>intro i;simp only[boxFrom];split<;>simp [ih]
  exact this n 0
 have:=h.up b hb hr cs (by omega) (fun i c hi=>⟨by
  rw[← hcs] at hi
  have:=boxFrom_at n 0 i c hi
  rwa [Nat.zero_add] at this,List.all_eq_true.1 ht c (List.mem_of_getElem? hi)⟩)
 rw[fnL_clrB,fnL_set] at this
 exact this
theorem RL.raise {K:SL→Prop}{segs:List Sg}(b n:Nat){cs:List AU}(hr:(fnL L (100 * b)).2=.bptr b (fnL L (100 * b+99)).1 0)(hcs:boxFrom (fnL L) b 0 n=cs)(ht:cs.all treeV=true)
  (h:RL P nt segs (upL L b cs) K) (hb:b < 10000:=by decide) (hn:n≤98:=by decide):RL P nt segs L K:=by
 intro C ops idx hP hnt hc a w Q hd hR hK
 exact h C ops idx hP hnt hc a w Q hd (hR.upL b n cs hb hr hn hcs ht) hK
theorem WL.raise {cc:Cd}(b n:Nat){cs:List AU}(hr:(fnL L (100 * b)).2=.bptr b (fnL L (100 * b+99)).1 0)(hcs:boxFrom (fnL L) b 0 n=cs)(ht:cs.all treeV=true)
  (h:WL P nt cc (upL L b cs) Q) (hb:b < 10000:=by decide) (hn:n≤98:=by decide):WL P nt cc L Q:=by
 intro C code hP hnt hc a w hd hR
 exact h C code hP hnt hc a w hd (hR.upL b n cs hb hr hn hcs ht)
end
end Go.OT
namespace Go.OT
mutual
/-- What refers to a key of the list refers to the whole. -/
def rootR {L:Type}(ks:List Nat):AV L→Bool
 | .view k _ p _ _=>!ks.contains k || p.isEmpty
 | .ptr k _ p _=>!ks.contains k || p.isEmpty
 | .mv k _ p=>!ks.contains k || p.isEmpty
 | .agg cs=>rootRL ks cs
 | .tuple cs=>rootRL ks cs
 | .clos _ cs=>rootRL ks cs
 | _=>true
def rootRL {L:Type}(ks:List Nat):List (AV L)→Bool
 | []=>true
 | c :: cs=>rootR ks c && rootRL ks cs
end
def noR {L:Type}(ks:List Nat):AV L→Bool
 | .view k _ _ _ _=>!ks.contains k
 | .ptr k _ _ _=>!ks.contains k
 | _=>true
def hdSame {L:Type}:AV L→AV L→Bool
 | .sl true _ s n _,.sl true _ s' n' _=>decide (s=s') && decide (n=n')
 | .bx true _ _,.bx true _ _=>true
 | _,_=>false
def HdK (X X'':XF LO)(k:Nat):Prop:=∀ s l sz n,hd (X k).2=some (s,some l,sz,n)→∃ l',hd (X'' k).2=some (s,some l',sz,n)∧l'.b=l.b∧l'.o=l.o∧(s=true→l'=l)
def HdN (X X'':XF LO)(k:Nat):Prop:=∀ s sz n,hd (X k).2=some (s,none,sz,n)→hd (X'' k).2=some (s,none,sz,n)
mutual
theorem RR_comb {X X' X'':XF LO} {β:Nat→Nat × Nat}{ks:List Nat}(hA:∀ k,ks.contains k=false→X'' k=X' k)(hB:∀ k,ks.contains k=true→(X'' k).1=(X k).1∧HdK X X'' k∧HdN X X'' k)(h99:∀ b,ks.contains (100 * b+99)=false) :
  ∀ (v' v:AL) (x:Value),er v=er v'→rootR ks v'=true→RR X β v x→RR X' β v' x→RR X'' β v' x
 | .view k g p off len,v,x,he,hr,h,h'=>by
  have hv:v=.view k g p off len:=by cases v<;>simp_all [er]
  subst hv
  by_cases hk:ks.contains k=true
  ·simp only[rootR,hk,Bool.not_true,Bool.false_or,List.isEmpty_iff] at hr
   subst hr
   obtain⟨e1,e2,e3⟩:=hB k hk
   simp only[RR,getN,Option.bind_some] at h ⊢
   rw[e1]
   refine⟨h.1,fun hg=>?_⟩
   obtain⟨l,sz,n,h1,h2⟩:=h.2 hg
   cases l with
   | none=>exact ⟨none,sz,n,e3 _ _ _ h1,h2⟩
   | some l =>
    obtain⟨l',q1,_,_,q4⟩:=e2 _ _ _ _ h1
    rw[q4 rfl] at q1
    exact⟨some l,sz,n,q1,h2⟩
  ·have hk':ks.contains k=false:=by simpa using hk
   simp only[RR] at h' ⊢
   rw[hA k hk'];exact h'
 | .ptr k g p i,v,x,he,hr,h,h'=>by
  have hv:v=.ptr k g p i:=by cases v<;>simp_all [er]
  subst hv
  by_cases hk:ks.contains k=true
  ·simp only[rootR,hk,Bool.not_true,Bool.false_or,List.isEmpty_iff] at hr
   subst hr
   obtain⟨e1,e2,e3⟩:=hB k hk
   simp only[RR,getN,Option.bind_some] at h ⊢
   rw[e1]
   refine⟨h.1,fun hg=>?_⟩
   obtain⟨s,l,sz,n,h1,h2⟩:=h.2 hg
   obtain⟨l',q1,q2,q3,_⟩:=e2 _ _ _ _ h1
   exact⟨s,l',sz,n,q1,by rw[h2,q2,q3]⟩
  ·have hk':ks.contains k=false:=by simpa using hk
   simp only[RR] at h' ⊢
   rw[hA k hk'];exact h'
 | .mv k g p,v,x,he,hr,h,h'=>by
  have hv:v=.mv k g p:=by cases v<;>simp_all [er]
  subst hv
  by_cases hk:ks.contains k=true
  ·simp only[rootR,hk,Bool.not_true,Bool.false_or,List.isEmpty_iff] at hr
   subst hr
   obtain⟨e1,e2,e3⟩:=hB k hk
   simp only[RR,getN,Option.bind_some] at h ⊢
   rw[e1]
   refine⟨h.1,fun hg=>?_⟩
   obtain⟨l,h1,h2⟩:=h.2 hg
   obtain⟨l',q1,q2,_,_⟩:=e2 _ _ _ _ h1
   exact⟨l',q1,by rw[h2,q2]⟩
  ·have hk':ks.contains k=false:=by simpa using hk
   simp only[RR] at h' ⊢
   rw[hA k hk'];exact h'
 | .bptr b g i,v,x,he,hr,h,h'=>by
  simp only[RR] at h' ⊢
  rw[hA _ (h99 b)];exact h'
 | .agg cs',v,x,he,hr,h,h'=>by
  obtain⟨cs,rfl,hcs⟩:∃ cs,v=.agg cs∧erL cs=erL cs':=by cases v<;>simp_all [er]
  simp only[RR] at h h' ⊢
  obtain⟨xs,rfl,h1⟩:=h
  obtain⟨ys,e,h2⟩:=h'
  have:ys=xs:=by simpa using e.symm
  subst this
  exact⟨ys,rfl,RRL_comb hA hB h99 cs' cs ys hcs (by simpa [rootR] using hr) h1 h2⟩
 | .tuple cs',v,x,he,hr,h,h'=>by
  obtain⟨cs,rfl,hcs⟩:∃ cs,v=.tuple cs∧erL cs=erL cs':=by cases v<;>simp_all [er]
  simp only[RR] at h h' ⊢
  obtain⟨xs,rfl,h1⟩:=h
  obtain⟨ys,e,h2⟩:=h'
  have:ys=xs:=by simpa using e.symm
  subst this
  exact⟨ys,rfl,RRL_comb hA hB h99 cs' cs ys hcs (by simpa [rootR] using hr) h1 h2⟩
 | .clos f cs',v,x,he,hr,h,h'=>by
  obtain⟨cs,rfl,hcs⟩:∃ cs,v=.clos f cs∧erL cs=erL cs':=by cases v<;>simp_all [er]
  simp only[RR] at h h' ⊢
  obtain⟨xs,rfl,h1⟩:=h
  obtain⟨ys,e,h2⟩:=h'
  have:ys=xs:=by simpa using e.symm
  subst this
  exact⟨ys,rfl,RRL_comb hA hB h99 cs' cs ys hcs (by simpa [rootR] using hr) h1 h2⟩
 | .vptr l cs,v,x,_,_,_,h'=>by simpa [RR] using h'
 | .non,_,_,_,_,_,_=>by simp[RR]
 | .dead,_,_,_,_,_,_=>by simp[RR]
 | .sc c,v,x,_,_,_,h'=>by simpa [RR] using h'
 | .sl o l s n cs,v,x,_,_,_,h'=>by simpa [RR] using h'
 | .bx o l cs,v,x,_,_,_,h'=>by simpa [RR] using h'
 | .mp o l cs,v,x,_,_,_,h'=>by simpa [RR] using h'
theorem RRL_comb {X X' X'':XF LO} {β:Nat→Nat × Nat}{ks:List Nat}(hA:∀ k,ks.contains k=false→X'' k=X' k)(hB:∀ k,ks.contains k=true→(X'' k).1=(X k).1∧HdK X X'' k∧HdN X X'' k)(h99:∀ b,ks.contains (100 * b+99)=false) :
  ∀ (vs' vs:List AL) (xs:List Value),erL vs=erL vs'→rootRL ks vs'=true→RRL X β vs xs→RRL X' β vs' xs→RRL X'' β vs' xs
 | [],vs,xs,_,_,_,h'=>by simpa [RRL] using h'
 | v' :: vs',[],xs,he,_,_,_=>by simp[erL] at he
 | v' :: vs',v :: vs,xs,he,hr,h,h'=>by
  simp only[erL,List.cons.injEq] at he
  simp only[rootRL,Bool.and_eq_true] at hr
  simp only[RRL] at h h' ⊢
  obtain⟨y,ys,rfl,h1,h2⟩:=h
  obtain⟨z,zs,e,h3,h4⟩:=h'
  simp only[List.cons.injEq] at e
  obtain⟨rfl,rfl⟩:=e
  exact⟨y,ys,rfl,RR_comb hA hB h99 v' v y he.1 hr.1 h1 h3,RRL_comb hA hB h99 vs' vs ys he.2 hr.2 h2 h4⟩
end
mutual
theorem er_rootR (ks:List Nat):∀ v:AL,rootR ks (er v)=rootR ks v
 | .agg cs=>by simp only[er,rootR];exact er_rootRL ks cs
 | .tuple cs=>by simp only[er,rootR];exact er_rootRL ks cs
 | .clos _ cs=>by simp only[er,rootR];exact er_rootRL ks cs
 | .sl _ _ _ _ _ | .bx _ _ _ | .sc _ | .view _ _ _ _ _ | .ptr _ _ _ _ | .bptr _ _ _ | .vptr _ _ | .mp _ _ _ | .mv _ _ _ | .dead | .non=>by simp[er,rootR]
theorem er_rootRL (ks:List Nat):∀ vs:List AL,rootRL ks (erL vs)=rootRL ks vs
 | []=>rfl
 | v :: vs=>by simp only[erL,rootRL,er_rootR ks v,er_rootRL ks vs]
end
theorem er_noR (ks:List Nat)(v:AL):noR ks (er v)=noR ks v:=by cases v<;>simp [er,noR]
theorem hdSame_ok {X X':XF LO} {β:Nat→Nat × Nat}{k:Nat}{y:Value}(hs:hdSame (er (X k).2) (er (X' k).2)=true)(h:RR X β (X k).2 y)(h':RR X' β (X' k).2 y):HdK X X' k∧HdN X X' k:=by
 unfold HdK HdN
 revert hs h h'
 generalize (X k).2=v
 generalize (X' k).2=v'
 intro hs h h'
 cases v with
 | sl o l s n cs =>
  cases v' with
  | sl o' l' s' n' cs' =>
   cases o<;>cases o'<;>simp [er,hdSame] at hs
   obtain⟨rfl,rfl⟩:=hs
   simp only[RR] at h h'
   refine⟨fun s1 l1 sz1 n1 e=>?_,fun s1 sz1 n1 e=>?_⟩
   ·simp only[hd,Option.some.injEq,Prod.mk.injEq] at e ⊢
    obtain⟨rfl,rfl,rfl,rfl⟩:=e
    simp only[CR] at h
    subst h
    cases l' with
    | none=>simp [CR] at h'
    | some l' =>
     simp only[CR,Value.slice.injEq,Option.some.injEq,Addr.mk.injEq] at h'
     have e:l'=l1:=by
      cases l';cases l1;simp at h';simp;omega
     exact⟨l',⟨rfl,rfl,rfl,rfl⟩,by rw[e],by rw[e],fun _=>e⟩
   ·simp only[hd,Option.some.injEq,Prod.mk.injEq] at e ⊢
    obtain⟨rfl,rfl,rfl,rfl⟩:=e
    simp only[CR] at h
    have hy:y=.slice none 0 0:=by
     rcases h.1 with h | h
     ·exact h
     ·cases h.1
    subst hy
    cases l' with
    | none=>exact ⟨rfl,rfl,rfl,rfl⟩
    | some l'=>simp [CR] at h'
  | _=>cases o<;>simp [er,hdSame] at hs
 | bx o l cs =>
  cases v' with
  | bx o' l' cs' =>
   simp only[RR] at h h'
   refine⟨fun s1 l1 sz1 n1 e=>?_,fun s1 sz1 n1 e=>?_⟩
   ·simp only[hd,Option.some.injEq,Prod.mk.injEq] at e ⊢
    obtain⟨rfl,rfl,rfl,rfl⟩:=e
    simp only[CR] at h
    subst h
    cases l' with
    | none=>simp [CR] at h'
    | some l' =>
     simp only[CR,Value.pointer.injEq,Option.some.injEq,Addr.mk.injEq] at h'
     exact⟨l',⟨rfl,rfl,rfl,rfl⟩,h'.1.symm,h'.2.1.symm,fun e=>by cases e⟩
   ·simp only[hd,Option.some.injEq,Prod.mk.injEq] at e
    obtain⟨rfl,rfl,rfl,rfl⟩:=e
    simp[CR] at h
  | _=>simp [er,hdSame] at hs
 | _=>simp [er,hdSame] at hs
def ungen {L:Type}(ks:List Nat)(X M:XF L):XF L:=fun k=>if ks.contains k=true then ((X k).1,(M k).2) else M k
theorem erF_ungen (ks:List Nat)(X M:XF LO):erF (ungen ks X M)=ungen ks (erF X) (erF M):=by
 funext k
 simp only[erF,ungen]
 split<;>rfl
theorem RelL.regen {C:Ctx}{X M:XF LO} {β:Nat→Nat × Nat}{I I':ASet}{rg rg':Nat→Value}{w w':World}(R:RelL C X β I rg w)(R':RelL C M β I' rg' w')(ks:List Nat)(d:Nat)
  (h1:∀ k,ks.contains k=true→k % 100=0∧k ≠ 100 * d) (hrg:∀ t,t ≠ d→rg' t=rg t) (hd0:roots (M (100 * d)).2=[])
  (hsame:∀ k,ks.contains k=false→k ≠ 100 * d→er (X k).2=er (M k).2)
  (h2:∀ t,rootR ks (M (100 * t)).2=true) (h3:∀ k,isCell k→noR ks (M k).2=true) (h4:∀ k,ks.contains k=true→hdSame (er (X k).2) (er (M k).2)=true):RelL C (ungen ks X M) β I' rg' w':=by
 have hsnd:∀ k,(ungen ks X M k).2=(M k).2:=fun k=>by simp only[ungen];split<;>rfl
 have hA:∀ k,ks.contains k=false→ungen ks X M k=M k:=fun k hk=>by simp only[ungen,hk];simp
 have hB:∀ k,ks.contains k=true→(ungen ks X M k).1=(X k).1∧HdK X (ungen ks X M) k∧HdN X (ungen ks X M) k:=by
  intro k hk
  refine⟨by simp only[ungen,hk,if_true],?_⟩
  obtain⟨e1,e2⟩:=h1 k hk
  have hkt:k=100 * (k / 100):=by omega
  have r1:=R.reg (k / 100)
  have r2:=R'.reg (k / 100)
  rw[← hkt] at r1 r2
  rw[hrg _ (by omega)] at r2
  have:=hdSame_ok (h4 k hk) r1 r2
  unfold HdK HdN at this ⊢
  rw[hsnd];exact this
 have h99:∀ b,ks.contains (100 * b+99)=false:=fun b=>by
  cases e:ks.contains (100 * b+99) with
  | false=>rfl
  | true=>have:=(h1 _ e).1;omega
 have hkfp:∀ k b o,kfp β (ungen ks X M) k b o ↔ kfp β M k b o:=fun k b o=>by simp only[kfp,hsnd]
 refine⟨fun t=>?_,fun k=>?_,fun k k' hne b o g1 g2=>R'.disj k k' hne b o ((hkfp _ _ _).1 g1) ((hkfp _ _ _).1 g2),fun b o h=>⟨(R'.imm b o h).1,fun k hk=>(R'.imm b o h).2 k ((hkfp _ _ _).1 hk)⟩,fun k b o h=>R'.frK k b o ((hkfp _ _ _).1 h),R'.frI,R'.frI0,R'.fr,R'.gh,R'.gr⟩
 ·rw[hsnd]
  have r2:=R'.reg t
  by_cases htd:t=d
  ·subst htd;exact RR_rootless _ _ hd0 r2
  ·cases hk:ks.contains (100 * t) with
   | true =>
    have hn:=h4 _ hk
    revert r2 hn
    generalize (M (100 * t)).2=v
    intro r2 hn
    cases v with
    | sl o l s n cs=>simpa [RR] using r2
    | bx o l cs=>simpa [RR] using r2
    | _=>generalize er (X (100 * t)).2=z at hn;cases z<;>simp [er,hdSame] at hn
   | false=>exact RR_comb hA hB h99 _ _ _ (hsame _ hk (by omega)) (h2 t) (by rw[hrg t htd];exact R.reg t) r2
 ·have hk:=R'.key k
  refine⟨by rw[hsnd];exact hk.mem,by rw[hsnd];exact hk.sep,fun hc hn=>?_,fun b o h=>hk.live b o ((hkfp _ _ _).1 h),by rw[hsnd];exact hk.last⟩
  rw[hsnd] at hn ⊢
  obtain⟨⟨y,hy,hx⟩,hf⟩:=hk.cell hc hn
  refine⟨⟨y,hy,hx.imp id fun h=>⟨h.1,?_⟩⟩,hf⟩
  have hr:=h3 k hc
  obtain⟨hv,hrr⟩:=h
  revert hr hv hrr
  generalize (M k).2=v
  intro hr hv hrr
  cases v with
  | view k' g p off len =>
   simp only[noR,Bool.not_eq_true'] at hr
   simp only[RR] at hrr ⊢
   rw[hA _ hr];exact hrr
  | ptr k' g p i =>
   simp only[noR,Bool.not_eq_true'] at hr
   simp only[RR] at hrr ⊢
   rw[hA _ hr];exact hrr
  | bptr b g i =>
   simp only[RR] at hrr ⊢
   rw[hA _ (h99 b)];exact hrr
  | _=>simp [isVw] at hv
structure KeepOk (ks:List Nat) (d:Nat) (X M:XF Unit):Prop where
 k1:∀ k,ks.contains k=true→k % 100=0∧k ≠ 100 * d
 k2:∀ t,rootR ks (M (100 * t)).2=true
 k3:∀ k,isCell k→noR ks (M k).2=true
 k4:∀ k,ks.contains k=true→hdSame (X k).2 (M k).2=true
theorem RelL.keep {C:Ctx}{XL XL2:XF LO} {β:Nat→Nat × Nat}{I I':ASet}{rg rg':Nat→Value}{w w':World}(R:RelL C XL β I rg w)(R':RelL C XL2 β I' rg' w'){ls:List (Nat × List Nat)}{gs':List (Gh Unit)}{d:Nat}{r:AU}
  (hE:erF XL2=(backU (erF XL) (ls.zip gs')).set (100 * d) r) (hrg:∀ t,t ≠ d→rg' t=rg t) (hr:roots r=[]) (hk:KeepOk (ls.map (·.1)) d (erF XL) ((backU (erF XL) (ls.zip gs')).set (100 * d) r)) :
  ∃ XL3,erF XL3=ungen (ls.map (·.1)) (erF XL) ((backU (erF XL) (ls.zip gs')).set (100 * d) r)∧RelL C XL3 β I' rg' w':=by
 have hM:∀ k,er (XL2 k).2=(((backU (erF XL) (ls.zip gs')).set (100 * d) r) k).2:=fun k=>by rw[← hE];rfl
 refine⟨ungen (ls.map (·.1)) XL XL2,by rw[erF_ungen,hE],R.regen R' _ d hk.k1 hrg ?_ (fun k hk1 hk2=>?_) (fun t=>?_) (fun k hc=>?_) (fun k hk1=>?_)⟩
 ·rw[← er_roots,hM,XF.set_self];exact hr
 ·rw[hM,XF.set_ne _ _ hk2,backU_ne (fun e he h=>?_)]
  ·rfl
  ·have:=(List.of_mem_zip (a:=e.1) (b:=e.2) he).1
   have hin:(ls.map (·.1)).contains k=true:=by
    rw[List.contains_iff_mem,← h];exact List.mem_map_of_mem this
   rw[hin] at hk1;cases hk1
 ·rw[← er_rootR,hM];exact hk.k2 t
 ·rw[← er_noR,hM];exact hk.k3 k hc
 ·rw[hM];exact hk.k4 k hk1
section
variable {P:Program} {nt:Nat} {L:SL}
def ungenL (ks:List Nat)(X:XF Unit):SL→SL
 | []=>[]
 | (k,g,v) :: l=>(k,(if ks.contains k=true then (X k).1 else g),v) :: ungenL ks X l
def stayB (ks:List Nat)(d:Nat)(L M:SL):Bool :=
 ks.all (fun k=>decide (k % 100=0) && !decide (k=100 * d) && hdSame (fnL L k).2 (fnL M k).2) && M.all fun e=>rootR ks e.2.2 && (decide (e.1 % 100=0) || noR ks e.2.2)
theorem DL.clo0 {K:SL→Fs→Prop}{rest:List Sg}{d t f:Nat}{cs:List COd}{cps:List AU}{azs:List AU}{r:AU}{fs:Fs}(own:Bool)(hcl:(fnL L (100 * t)).2=.clos f cps)(hfn:FnC P f [] azs [] r)
  (has:opL (trArgs (fnL L) [] own cs) (trL (fnL L) [] own (100 * t) cps)=some azs) (hlen:azs.length≤9000) (hs:sideOk own [] [] r=true)
  (h:DL P nt rest (setL L (100 * d) r) ((2 * d :: 2 * t :: ((rootsL cps).map unitK ++ luR own (rootsL cps) ++ (uOs (fnL L) cs ++ luOs (fnL L) own cs)),[2 * d]) :: fs) K):DL P nt (.clo none d t cs :: rest) L fs K:=by
 refine DL.cons (it:=.clo none d t cs) (rest:=rest) (by simp[flatS]) (fun C ops i o hP hn hc0 hi hit=>?_) h
 have hroot:roots r=[]:=by simp only[sideOk,Bool.and_eq_true,List.isEmpty_iff] at hs;exact hs.2
 obtain⟨g0,g1,g2,g3,g4,g5⟩:=itOf_clo hit
 refine dstep_val (by have:=opsNt hn;omega) (by simp) hroot hc0 fun X hX ha=>?_
 have hag:agr (uOs (fnL L) cs ++ luOs (fnL L) own cs) X (fnL L):=fun k hk=>ha k (List.mem_cons_of_mem _ (List.mem_cons_of_mem _ (List.mem_append_right _ hk)))
 have ht:X (100 * t)=fnL L (100 * t):=ha _ (by rw[unit_reg];simp)
 have hcps:trL X [] own (100 * t) cps=trL (fnL L) [] own (100 * t) cps:=trL_agr (U:=(rootsL cps).map unitK ++ luR own (rootsL cps)) (fun k hk=>ha k (List.mem_cons_of_mem _ (List.mem_cons_of_mem _ (List.mem_append_left _ hk)))) cps (fun u hu=>List.mem_append_left _ hu) (fun u hu=>List.mem_append_right _ hu)
 exact SOk.op hi (compGd_none g0) (opok_clo (ls:=[]) (gs:=[]) (gs':=[]) own hP hn g1 g2 g3 g4 g5 (by rw[ht];exact hcl) hfn rfl (by simp) (by rw[trArgs_agr hag,hcps];exact has) hlen hs)
end
attribute [simp] rootR rootRL noR hdSame ungenL stayB
end Go.OT
namespace Go.OT
section
variable {P:Program} {nt:Nat} {L:SL} {Q:Ex→SL→Prop}
def wipeB (k:Nat)(L:SL):Bool:=decide (k % 100=0) && (!decide (k=100 * H) && ((roots (fnL L (100 * H)).2).isEmpty && L.all fun e=>rootR [k] e.2.2 && (decide (e.1 % 100=0) || noR [k] e.2.2)))
end
attribute [simp] wipeB
end Go.OT
namespace Go.OT
section
variable {P:Program} {nt:Nat} {L:SL} {Q:Ex→SL→Prop}
def nodQ:Option AU→Bool
 | some N=>N.isNode
 | none=>false
@[simp] theorem nodQ_some (N:AU):nodQ (some N)=N.isNode:=rfl
def wipe1B (k:Nat)(p:List Nat)(L:SL):Bool:=decide (k % 100=0) && (!decide (k=100 * H) && ((fnL L (100 * H)).2.isNon && (nodQ (getN (fnL L k).2 p) && (ownQ (fnL L k).2 p && (hdSame (fnL L k).2 (setN (fnL L k).2 p .dead) && L.all fun e=>rootR [k] e.2.2 && (decide (e.1 % 100=0) || noR [k] e.2.2))))))
end
attribute [simp] wipe1B
end Go.OT
namespace Go.OT
theorem DStep.conv {C:Ctx}{ops:Array Oper}{i:Nat}{R D:List Nat}{Y Y':XF Unit}(h:DStep C ops i R D Y Y')(k:Nat)(hk:unitK k ∈ D)(hh:handB k=false)(v:AU)(hr:∀ r ∈ roots v,r ∈ roots (Y' k).2)
  (hc:∀ (X:XF Unit) tm w,X k=Y' k→RelT C X tm w→RelT C (X.upd k v) tm w):DStep C ops i R D Y (Y'.upd k v):=by
 have hu:∀ j,(Y'.upd k v) j=if j=k then ((Y' k).1,v) else Y' j:=fun j=>by
  by_cases e:j=k
  ·subst e;rw[XF.upd_self];simp
  ·rw[XF.upd_ne _ _ e];simp[e]
 refine⟨h.sub,fun j hj=>?_,fun j=>?_,fun X hX ha=>?_⟩
 ·have e:j ≠ k:=fun e=>hj (e ▸ hk)
  rw[XF.upd_ne _ _ e];exact h.out j hj
 ·rw[hu]
  by_cases e:j=k
  ·subst e
   simp only[if_true]
   exact⟨fun z=>(by rw[hh] at z;cases z),fun r hr'=>(h.cl j).2 r (hr r hr')⟩
  ·simp only[e,if_false];exact h.cl j
 ·refine (h.step X hX ha).weak fun tm w r=>?_
  have hm:(mix D Y' X) k=Y' k:=by unfold mix;rw[if_pos hk]
  have:=hc (mix D Y' X) tm w hm r
  have e:mix D (Y'.upd k v) X=(mix D Y' X).upd k v:=by
   funext j
   by_cases e:j=k
   ·subst e;rw[XF.upd_self];simp only[mix,hk,if_true,XF.upd_self]
   ·rw[XF.upd_ne _ _ e];simp only[mix,XF.upd_ne _ _ e]
  rw[e];exact this
section
variable {P:Program} {nt:Nat}
end
end Go.OT
namespace Go.OT
section
variable {C:Ctx} {X:XF LO} {β:Nat→Nat × Nat} {I:ASet} {rg:Nat→Value} {w:World}
theorem RelL.down (R:RelL C X β I rg w)(r b:Nat)(hb:b < 10000)(l:Loc)(cs:List AL)(hX:(X (100 * r)).2=.bx true (some l) cs)(hp:(X (100 * b)).2=.ptr (100 * r) (X (100 * r)).1 [] 0)(hn:cs.length≤98) :
  RelL C (((X.box b cs).set (100 * r) (.bptr b ((X (100 * b+99)).1+1) 0)).set (100 * b) (.bptr b ((X (100 * b+99)).1+1) 0)) (fun j=>if j=b then (l.b,l.o) else β j) I rg w:=by
 have hk:=R.key (100 * r)
 have hm:=hk.mem
 have hs:=hk.sep
 have hr:=R.reg r
 have hrb:=R.reg b
 rw[hX] at hm hs hr
 rw[hp] at hrb
 simp only[Mem] at hm
 simp only[Sep] at hs
 simp only[RR,CR] at hr
 simp only[RR] at hrb
 have hrb:=hrb.2 trivial
 rw[show (getN (X (100 * r)).2 [])=some (X (100 * r)).2 from rfl,hX] at hrb
 simp only[Option.bind_some,Go.OT.hd,Option.some.injEq,Prod.mk.injEq] at hrb
 obtain⟨s0,l0,z0,n0,⟨_,e1,_,_⟩,hrb⟩:=hrb
 subst e1
 have hmem:=MemL_iff.1 hm
 have hsep:=SepL_iff.1 hs.2
 have hfpX:∀ b' o',fp (.bx true (some l) cs) b' o'→kfp β X (100 * r) b' o':=fun b' o' h=>.inl (by rw[hX];exact h)
 have hown:∀ i,i < cs.length→kfp β X (100 * r) l.b (l.o+i):=fun i hi=>hfpX _ _ (by simp only[fp];exact .inl ⟨trivial,by omega,by omega⟩)
 have hold:∀ c b' o',c ∈ cs→fp c b' o'→kfp β X (100 * r) b' o':=fun c b' o' hc h=>hfpX _ _ (by simp only[fp];exact .inr (fpL_iff.2 ⟨c,hc,h⟩))
 generalize hβ':(fun j=>if j=b then (l.b,l.o) else β j)=β'
 have hβb:β' b=(l.b,l.o):=by subst hβ';simp
 have hβn:∀ j,j ≠ b→β' j=β j:=by intro j hj;subst hβ';simp[hj]
 have hKY:Keeps X (X.box b cs) β β':=by
  refine⟨fun k=>?_,fun k he p a ha=>?_,fun b' he=>?_⟩
  ·simp only[XF.box];split
   ·split
    ·simp
    ·exact nx_ge _
   ·exact Nat.le_refl _
  ·simp only[XF.box] at he ⊢
   split at he
   ·rename_i hc
    rw[if_pos hc]
    split at he
    ·omega
    ·have:=getN_hd_isNode ha
     have e1:nx (X k)=(X k).1+1:=by unfold nx;rw[this];rfl
     simp only[e1] at he
     omega
   ·rename_i hc;rw[if_neg hc];exact ha
  ·by_cases hbb:b'=b
   ·subst hbb
    simp only[XF.box] at he
    rw[if_pos ⟨by omega,by omega⟩,if_pos (by omega)] at he
    omega
   ·exact hβn b' hbb
 generalize hg':(X (100 * b+99)).1+1=g'
 generalize hZ:((X.box b cs).set (100 * r) (.bptr b g' 0)).set (100 * b) (.bptr b g' 0)=Z
 have hK:Keeps X Z β β':=by
  rw[← hZ]
  exact (hKY.trans (keeps_set _ β' (100 * r) _)).trans (keeps_set _ β' (100 * b) _)
 have hcellZ:∀ k,k % 100 ≠ 0→Z k=(X.box b cs) k:=fun k hk=>by
  rw[← hZ,XF.set_ne _ _ (by omega),XF.set_ne _ _ (by omega)]
 have hkey:∀ i,i < 98→(Z (100 * b+1+i)).2=cs.getD i .non:=by
  intro i hi
  rw[hcellZ _ (by omega)]
  simp only[XF.box]
  rw[if_pos ⟨by omega,by omega⟩,if_neg (by omega)]
  simp only[show (100 * b+1+i) % 100 - 1=i by omega]
 have hform:∀ k,k / 100=b→k % 100 ≠ 0→k % 100 ≠ 99→∃ i,i < 98∧k=100 * b+1+i:=fun k h1 h2 h3=>⟨k % 100 - 1,by omega,by omega⟩
 have hZ99:Z (100 * b+99)=(g',.non):=by
  rw[hcellZ _ (by omega)]
  simp only[XF.box]
  rw[if_pos ⟨by omega,by omega⟩,if_pos (by omega),hg']
 have h99:(Z (100 * b+99)).2=.non:=by rw[hZ99]
 have hZr:∀ t,t=r∨t=b→(Z (100 * t)).2=.bptr b g' 0:=by
  rintro t ht
  rw[← hZ]
  by_cases e:t=b
  ·subst e;rw[XF.set_self]
  ·rcases ht with rfl | ht
   ·rw[XF.set_ne _ _ (by omega),XF.set_self]
   ·exact absurd ht e
 have hno:∀ t,t=r∨t=b→∀ b' o',¬ kfp β' Z (100 * t) b' o':=by
  intro t ht b' o' hb'
  rcases hb' with hb' | ⟨hc,_⟩
  ·rw[hZr t ht] at hb';simp[fp] at hb'
  ·exact isCell_reg t hc
 have hno99:∀ b' o',¬ kfp β' Z (100 * b+99) b' o':=by
  intro b' o' hb'
  rcases hb' with hb' | ⟨hc,_⟩
  ·rw[h99] at hb';simp[fp] at hb'
  ·exact hc.2 (by omega)
 have hgetD:∀ i c,cs[i]?=some c→cs.getD i .non=c:=fun i c hc=>by simp[List.getD_eq_getElem?_getD,hc]
 have hcase:∀ i,i < 98→∀ b' o',kfp β' Z (100 * b+1+i) b' o'→∃ c,cs[i]?=some c∧(fp c b' o'∨(b'=l.b∧o'=l.o+i)):=by
  intro i hi b' o' hb'
  cases hc:cs[i]? with
  | none =>
   have hg:cs.getD i .non=.non:=by simp[List.getD_eq_getElem?_getD,hc]
   rcases hb' with hb' | ⟨_,hne,_⟩
   ·rw[hkey i hi,hg] at hb';simp[fp] at hb'
   ·exact absurd ((hkey i hi).trans hg) hne
  | some c =>
   refine⟨c,rfl,?_⟩
   rcases hb' with hb' | ⟨_,_,h3⟩
   ·rw[hkey i hi,hgetD i c hc] at hb';exact .inl hb'
   ·simp only[cellAt,show (100 * b+1+i) / 100=b by omega,hβb,show (100 * b+1+i) % 100 - 1=i by omega] at h3
    exact .inr ⟨h3.1,h3.2⟩
 have hcell:∀ k,(k / 100=b∧k % 100 ≠ 0)→∀ b' o',kfp β' Z k b' o'→∃ i c,i < 98∧k=100 * b+1+i∧cs[i]?=some c∧(fp c b' o'∨(b'=l.b∧o'=l.o+i)):=by
  rintro k ⟨h1,h2⟩ b' o' hb'
  by_cases h3:k % 100=99
  ·have:k=100 * b+99:=by omega
   subst this;exact absurd hb' (hno99 b' o')
  ·obtain⟨i,hi,rfl⟩:=hform k h1 h2 h3
   obtain⟨c,hc,h'⟩:=hcase i hi b' o' hb'
   exact⟨i,c,hi,rfl,hc,h'⟩
 have hD:∀ t,(100 * t / 100=b∧100 * t % 100 ≠ 0)∨100 * t=100 * r∨100 * t=100 * b→t=r∨t=b:=by
  rintro t (⟨_,h2⟩ | h | h)<;>omega
 refine R.change (fun k=>(k / 100=b∧k % 100 ≠ 0)∨k=100 * r∨k=100 * b) ?_ hK ?_ ?_ (fun _ _=>rfl) ?_ ?_ ?_ ?_ (fun _ _ h=>h) (fun _ _ h=>.inl h) ((Frame.refl _ w).mono fun _ _ _ h=>h)
 ·intro k hk
  rw[← hZ,XF.set_ne _ _ (fun e=>hk (.inr (.inr e))),XF.set_ne _ _ (fun e=>hk (.inr (.inl e)))]
  simp only[XF.box]
  rw[if_neg (fun e=>hk (.inl e))]
 ·intro k hk hc
  exact .inl (hβn _ (fun e=>hk (.inl ⟨e,hc.1⟩)))
 ·intro j hj;exact hβn j (by omega)
 ·intro t ht
  have ht:=hD t ht
  rw[hZr t ht]
  simp only[RR]
  refine⟨by rw[hZ99];exact Nat.le_refl _,fun _=>?_⟩
  rw[hβb]
  rcases ht with rfl | rfl
  ·rw[hr];rfl
  ·exact hrb
 ·rintro k hk
  rcases hk with ⟨h1,h2⟩ | hk
  ·by_cases h3:k % 100=99
   ·have:k=100 * b+99:=by omega
    subst this
    exact⟨by rw[h99];simp[Mem],by rw[h99];simp[Sep],fun hc=>absurd h3 hc.2,fun b' o' hb'=>absurd hb' (hno99 b' o'),fun _=>h99⟩
   ·obtain⟨i,hi,rfl⟩:=hform k h1 h2 h3
    cases hc:cs[i]? with
    | none =>
     have hg:(Z (100 * b+1+i)).2=.non:=(hkey i hi).trans (by simp[List.getD_eq_getElem?_getD,hc])
     refine⟨by rw[hg];simp[Mem],by rw[hg];simp[Sep],fun _ hne=>absurd hg hne,fun b' o' hb'=>?_,fun h=>absurd h h3⟩
     obtain⟨c,hc',_⟩:=hcase i hi b' o' hb'
     rw[hc] at hc';cases hc'
    | some c =>
     have hg:(Z (100 * b+1+i)).2=c:=(hkey i hi).trans (hgetD i c hc)
     have hlt:i < cs.length:=(List.getElem?_eq_some_iff.1 hc).1
     have hin:=List.mem_of_getElem? hc
     obtain⟨⟨y,hy,hcy⟩,hmc,_⟩:=hmem i c hc
     refine⟨by rw[hg];exact hmc,by rw[hg];exact hsep.1 c hin,fun _ _=>?_,fun b' o' hb'=>?_,fun h=>absurd h h3⟩
     ·rw[hg]
      simp only[show (100 * b+1+i) / 100=b by omega,hβb,show (100 * b+1+i) % 100 - 1=i by omega]
      exact⟨⟨y,hy,.inl hcy⟩,fun hbad=>hs.1 i hlt (fpL_iff.2 ⟨c,hin,hbad⟩)⟩
     ·obtain⟨c',hc',h'⟩:=hcase i hi b' o' hb'
      rw[hc] at hc';cases hc'
      rcases h' with h' | ⟨rfl,rfl⟩
      ·exact (R.key (100 * r)).live _ _ (hold c b' o' hin h')
      ·exact (R.key (100 * r)).live _ _ (hown i hlt)
  ·obtain⟨t,ht,rfl⟩:∃ t,(t=r∨t=b)∧k=100 * t:=by
    rcases hk with h | h
    ·exact⟨r,.inl rfl,h⟩
    ·exact⟨b,.inr rfl,h⟩
   exact⟨by rw[hZr t ht];simp[Mem],by rw[hZr t ht];simp[Sep],fun hc=>absurd hc (isCell_reg t),fun b' o' hb'=>absurd hb' (hno t ht b' o'),fun h=>by omega⟩
 ·rintro k k' hk hk' hne b' o' h1 h2
  have hreg:∀ q,q=100 * r∨q=100 * b→kfp β' Z q b' o'→False:=fun q hq h=>by
   rcases hq with rfl | rfl
   ·exact hno r (.inl rfl) b' o' h
   ·exact hno b (.inr rfl) b' o' h
  rcases hk with hk | hk
  ·rcases hk' with hk' | hk'
   ·obtain⟨i,c,hi,rfl,hc,hh⟩:=hcell k hk b' o' h1
    obtain⟨j,d,hj,rfl,hd,hh'⟩:=hcell k' hk' b' o' h2
    have hij:i ≠ j:=fun e=>hne (by rw[e])
    have hli:i < cs.length:=(List.getElem?_eq_some_iff.1 hc).1
    have hlj:j < cs.length:=(List.getElem?_eq_some_iff.1 hd).1
    rcases hh with hh | ⟨e1,e2⟩
    ·rcases hh' with hh' | ⟨e1,e2⟩
     ·rcases Nat.lt_or_gt_of_ne hij with hlt | hlt
      ·exact hsep.2 i j c d hlt hc hd b' o' hh hh'
      ·exact hsep.2 j i d c hlt hd hc b' o' hh' hh
     ·subst e1 e2
      exact hs.1 j hlj (fpL_iff.2 ⟨c,List.mem_of_getElem? hc,hh⟩)
    ·rcases hh' with hh' | ⟨e3,e4⟩
     ·subst e1 e2
      exact hs.1 i hli (fpL_iff.2 ⟨d,List.mem_of_getElem? hd,hh'⟩)
     ·omega
   ·exact hreg k' hk' h2
  ·exact hreg k hk h1
 ·rintro k hk b' o' hb'
  rcases hk with hk | hk
  ·obtain⟨i,c,hi,rfl,hc,hh⟩:=hcell k hk b' o' hb'
   rcases hh with hh | ⟨e1,e2⟩
   ·exact .inl ⟨100 * r,.inr (.inl rfl),hold c b' o' (List.mem_of_getElem? hc) hh⟩
   ·subst e1 e2
    exact .inl ⟨100 * r,.inr (.inl rfl),hown i (List.getElem?_eq_some_iff.1 hc).1⟩
  ·exfalso
   rcases hk with rfl | rfl
   ·exact hno r (.inl rfl) b' o' hb'
   ·exact hno b (.inr rfl) b' o' hb'
theorem RelL.upR (R:RelL C X β I rg w)(r b:Nat)(hr:(X (100 * r)).2=.bptr b (X (100 * b+99)).1 0)(cs:List AL)(hn:cs.length≤98)
  (hcs:∀ i c,cs[i]?=some c→(X (100 * b+1+i)).2=c∧treeV c=true) :
  RelL C ((clrB X b cs.length).set (100 * r) (.bx true (some ⟨(β b).1,(β b).2,0⟩) cs)) β I rg w:=by
 have hc:∀ i,i < cs.length→∃ c,cs[i]?=some c∧(X (100 * b+1+i)).2=c∧treeV c=true∧c ≠ .non∧isCell (100 * b+1+i)∧(100 * b+1+i) / 100=b∧(100 * b+1+i) % 100 - 1=i:=by
  intro i hi
  obtain⟨h1,h2⟩:=hcs i _ (List.getElem?_eq_getElem hi)
  refine⟨_,List.getElem?_eq_getElem hi,h1,h2,fun e=>?_,⟨by omega,by omega⟩,by omega,by omega⟩
  rw[e] at h2;simp[treeV] at h2
 have hat:∀ i c,cs[i]?=some c→(∃ y,w.at (β b).1 ((β b).2+i)=some (.v y)∧CR c y)∧¬ fp c (β b).1 ((β b).2+i)∧Mem w I c∧Sep c:=by
  intro i c hi
  obtain⟨c',h1,h2,h3,h4,h5,h6,h7⟩:=hc i (List.getElem?_eq_some_iff.1 hi).1
  rw[hi] at h1
  cases h1
  have hk:=R.key (100 * b+1+i)
  obtain⟨⟨y,hy,hx⟩,hnf⟩:=hk.cell h5 (by rw[h2];exact h4)
  rw[h6,h7] at hy hnf
  rw[h2] at hx hnf
  exact⟨⟨y,hy,hx.cr (by cases c<;>simp [treeV] at h3<;>rfl)⟩,hnf,by rw[← h2];exact hk.mem,by rw[← h2];exact hk.sep⟩
 have haddr:∀ i,i < cs.length→kfp β X (100 * b+1+i) (β b).1 ((β b).2+i):=by
  intro i hi
  obtain⟨c,h1,h2,h3,h4,h5,h6,h7⟩:=hc i hi
  exact .inr ⟨h5,by rw[h2];exact h4,by rw[h6],by rw[h6,h7]⟩
 have hin:∀ i c,cs[i]?=some c→∀ b' o',fp c b' o'→kfp β X (100 * b+1+i) b' o':=by
  intro i c hi b' o' h
  left
  rw[(hcs i c hi).1];exact h
 have hfp:∀ b' o',fp (.bx true (some ⟨(β b).1,(β b).2,0⟩) cs) b' o'→∃ i,i < cs.length∧kfp β X (100 * b+1+i) b' o':=by
  intro b' o' h
  simp only[fp] at h
  rcases h with ⟨rfl,h1,h2⟩ | h
  ·refine⟨o' - (β b).2,by omega,?_⟩
   have:=haddr (o' - (β b).2) (by omega)
   rwa [show (β b).2+(o' - (β b).2)=o' by omega] at this
  ·obtain⟨c,hc',hcb⟩:=fpL_iff.1 h
   obtain⟨i,hi⟩:=List.getElem?_of_mem hc'
   exact⟨i,(List.getElem?_eq_some_iff.1 hi).1,hin i c hi _ _ hcb⟩
 have hself:((clrB X b cs.length).set (100 * r) (.bx true (some ⟨(β b).1,(β b).2,0⟩) cs) (100 * r)).2=.bx true (some ⟨(β b).1,(β b).2,0⟩) cs:=by rw[XF.set_self]
 have hoth:∀ k,100 * b+1≤k∧k < 100 * b+1+cs.length→((clrB X b cs.length).set (100 * r) (.bx true (some ⟨(β b).1,(β b).2,0⟩) cs) k).2=.non:=by
  intro k hk
  rw[XF.set_ne _ _ (by omega),clrB_at,if_pos hk]
 have hK:Keeps X ((clrB X b cs.length).set (100 * r) (.bx true (some ⟨(β b).1,(β b).2,0⟩) cs)) β β:=(keeps_clrB X β b _).trans (keeps_set _ β _ _)
 refine R.change (fun k=>k=100 * r∨(100 * b+1≤k∧k < 100 * b+1+cs.length)) (fun k hk=>?_) hK (fun _ _ _=>.inl rfl) (fun _ _=>rfl) (fun _ _=>rfl) (fun t ht=>?_) (fun k hk=>?_) (fun k k' hk hk' hne b' o' h1 h2=>?_) (fun k hk b' o' h=>?_)
  (fun _ _ h=>h) (fun _ _ h=>.inl h) ((Frame.refl _ w).mono fun _ _ _ h=>h)
 ·rw[XF.set_ne _ _ (fun e=>hk (.inl e)),clrB_at,if_neg (fun e=>hk (.inr e))]
 ·have e:t=r:=by omega
  subst e
  rw[hself]
  have:=R.reg t
  rw[hr] at this
  simp only[RR] at this
  have h2:=this.2 trivial
  simp only[RR,CR]
  simpa using h2
 ·rcases hk with rfl | hk
  ·refine⟨?_,?_,fun h=>absurd h.1 (by omega),fun b' o' h=>?_,fun h=>by omega⟩
   ·rw[hself]
    simp only[Mem]
    exact MemL_iff.2 fun i c hi=>⟨(hat i c hi).1,(hat i c hi).2.2.1,by simp⟩
   ·rw[hself]
    simp only[Sep]
    refine⟨fun i hi hbad=>?_,SepL_iff.2 ⟨fun c hc'=>?_,fun i j u v hij hu hv b' o' g1 g2=>?_⟩⟩
    ·obtain⟨c,hc',hcb⟩:=fpL_iff.1 hbad
     obtain⟨i',hi'⟩:=List.getElem?_of_mem hc'
     by_cases hii:i=i'
     ·subst hii;exact (hat i c hi').2.1 hcb
     ·exact R.disj (100 * b+1+i) (100 * b+1+i') (by omega) _ _ (haddr i hi) (hin i' c hi' _ _ hcb)
    ·obtain⟨i',hi'⟩:=List.getElem?_of_mem hc'
     exact (hat i' c hi').2.2.2
    ·exact R.disj (100 * b+1+i) (100 * b+1+j) (by omega) b' o' (hin i u hu _ _ g1) (hin j v hv _ _ g2)
   ·rcases h with h | ⟨h,_⟩
    ·rw[hself] at h
     obtain⟨i,_,hi⟩:=hfp _ _ h
     exact (R.key _).live _ _ hi
    ·exact absurd h.1 (by omega)
  ·have h0:=hoth k hk
   refine⟨by rw[h0];simp[Mem],by rw[h0];simp[Sep],fun _ h=>absurd h0 h,fun b' o' h=>?_,fun _=>h0⟩
   rcases h with h | ⟨_,h,_⟩
   ·rw[h0] at h;simp[fp] at h
   ·exact absurd h0 h
 ·have only:∀ k,(k=100 * r∨(100 * b+1≤k∧k < 100 * b+1+cs.length))→kfp β ((clrB X b cs.length).set (100 * r) (.bx true (some ⟨(β b).1,(β b).2,0⟩) cs)) k b' o'→k=100 * r:=by
   intro k hk h
   rcases hk with e | hk
   ·exact e
   ·have h0:=hoth k hk
    rcases h with h | ⟨_,h,_⟩
    ·rw[h0] at h;simp[fp] at h
    ·exact absurd h0 h
  exact hne ((only k hk h1).trans (only k' hk' h2).symm)
 ·rcases hk with rfl | hk
  ·rcases h with h | ⟨h,_⟩
   ·rw[hself] at h
    obtain⟨i,hi,hi'⟩:=hfp _ _ h
    exact .inl ⟨_,.inr ⟨by omega,by omega⟩,hi'⟩
   ·exact absurd h.1 (by omega)
  ·have h0:=hoth k hk
   rcases h with h | ⟨_,h,_⟩
   ·rw[h0] at h;simp[fp] at h
   ·exact absurd h0 h
end
theorem RelT.down {C:Ctx}{X:XF Unit}{tm:Array Value}{w:World}(h:RelT C X tm w)(r b:Nat)(hb:b < 10000)(cs:List AU)(hX:(X (100 * r)).2=.bx true () cs)(hp:(X (100 * b)).2=.ptr (100 * r) (X (100 * r)).1 [] 0)(hn:cs.length≤98) :
  RelT C (((X.box b cs).set (100 * r) (.bptr b ((X (100 * b+99)).1+1) 0)).set (100 * b) (.bptr b ((X (100 * b+99)).1+1) 0)) tm w:=by
 obtain⟨XL,β,I,rg,he,R,hs,ht⟩:=h
 subst he
 obtain⟨l,lcs,hXL,hl⟩:∃ l lcs,(XL (100 * r)).2=.bx true l lcs∧lcs.map er=cs:=by
  have hX':er (XL (100 * r)).2=.bx true () cs:=hX
  revert hX'
  generalize (XL (100 * r)).2=v
  intro h
  cases v<;>simp [er,erL_eq] at h
  obtain⟨h1,h2⟩:=h
  subst h1
  exact⟨_,_,rfl,h2⟩
 have hm:=(R.key (100 * r)).mem
 rw[hXL] at hm
 cases l with
 | none=>simp [Mem] at hm
 | some l =>
  have hp':(XL (100 * b)).2=.ptr (100 * r) (XL (100 * r)).1 [] 0:=by
   have hp2:er (XL (100 * b)).2=.ptr (100 * r) (XL (100 * r)).1 [] 0:=hp
   revert hp2
   generalize (XL (100 * b)).2=v
   intro h
   cases v<;>simp [er] at h
   obtain⟨h1,h2,h3,h4⟩:=h
   subst h1 h2 h3 h4
   rfl
  have R':=R.down r b hb l lcs hXL hp' (by rw[← hl] at hn;simpa using hn)
  refine⟨_,_,I,rg,?_,R',hs,ht⟩
  rw[erF_set,erF_set,erF_box,hl]
  rfl
theorem RelT.upR {C:Ctx}{X:XF Unit}{tm:Array Value}{w:World}(h:RelT C X tm w)(r b:Nat)(hr:(X (100 * r)).2=.bptr b (X (100 * b+99)).1 0)(cs:List AU)(hn:cs.length≤98)
  (hcs:∀ i c,cs[i]?=some c→(X (100 * b+1+i)).2=c∧treeV c=true):RelT C ((clrB X b cs.length).set (100 * r) (.bx true () cs)) tm w:=by
 obtain⟨XL,β,I,rg,he,R,hs,ht⟩:=h
 subst he
 have hr':(XL (100 * r)).2=.bptr b (XL (100 * b+99)).1 0:=by
  simp only[erF] at hr
  revert hr
  cases (XL (100 * r)).2<;>simp [er]
 have hget:∀ i c,((List.range cs.length).map fun i=>(XL (100 * b+1+i)).2)[i]?=some c→i < cs.length∧c=(XL (100 * b+1+i)).2:=by
  intro i c hc
  have hi:i < cs.length:=by
   have:=(List.getElem?_eq_some_iff.1 hc).1
   simpa using this
  simp[hi] at hc
  exact⟨hi,hc.symm⟩
 have R':=R.upR r b hr' ((List.range cs.length).map fun i=>(XL (100 * b+1+i)).2) (by simpa using hn) (fun i c hc=>by
  obtain⟨hi,rfl⟩:=hget i c hc
  refine⟨rfl,?_⟩
  obtain⟨h1,h2⟩:=hcs i _ (List.getElem?_eq_getElem hi)
  rw[← er_treeV]
  have h1':er (XL (100 * b+1+i)).2=cs[i]:=h1
  rw[h1'];exact h2)
 rw[show ((List.range cs.length).map fun i=>(XL (100 * b+1+i)).2).length=cs.length by simp] at R'
 refine⟨_,β,_,rg,?_,R',hs,ht⟩
 rw[erF_set,erF_clrB]
 congr 1
 simp only[er,erL_eq,List.map_map]
 congr 1
 apply List.ext_getElem?
 intro i
 by_cases hi:i < cs.length
 ·have h1:er (XL (100 * b+1+i)).2=cs[i]:=(hcs i _ (List.getElem?_eq_getElem hi)).1
  simp[hi,h1]
 ·rw[List.getElem?_eq_none (by simpa using Nat.le_of_not_lt hi),List.getElem?_eq_none (by omega:cs.length≤i)]
section
variable {P:Program} {nt:Nat} {L:SL} {Q:Ex→SL→Prop}
def upRL (L:SL)(r b:Nat)(cs:List AU):SL:=setL (clrBL L b cs.length) (100 * r) (.bx true () cs)
def downL (L:SL)(r b:Nat)(cs:List AU):SL:=setL (setL (boxM b cs L) (100 * r) (.bptr b ((fnL L (100 * b+99)).1+1) 0)) (100 * b) (.bptr b ((fnL L (100 * b+99)).1+1) 0)
attribute [simp] upRL downL
theorem RelT.upRL {C:Ctx}{tm:Array Value}{w:World}(h:RelT C (fnL L) tm w)(r b n:Nat)(cs:List AU)(hr:(fnL L (100 * r)).2=.bptr b (fnL L (100 * b+99)).1 0)(hn:n≤98)
  (hcs:boxFrom (fnL L) b 0 n=cs) (ht:cs.all treeV=true):RelT C (fnL (upRL L r b cs)) tm w:=by
 have hlen:cs.length≤n:=by
  rw[← hcs]
  have:∀ m i,(boxFrom (fnL L) b i m).length≤m:=by
   intro m
   induction m with
   | zero=>intro i;simp[boxFrom]
   | succ m ih=>intro i;simp only[boxFrom];split<;>simp [ih]
  exact this n 0
 have:=h.upR r b hr cs (by omega) (fun i c hi=>⟨by
  rw[← hcs] at hi
  have:=boxFrom_at n 0 i c hi
  rwa [Nat.zero_add] at this,List.all_eq_true.1 ht c (List.mem_of_getElem? hi)⟩)
 rw[fnL_clrB,fnL_set] at this
 exact this
theorem RelT.downL {C:Ctx}{tm:Array Value}{w:World}(h:RelT C (fnL L) tm w)(r b:Nat)(hb:b < 10000)(cs:List AU)(hX:(fnL L (100 * r)).2=.bx true () cs)(hp:(fnL L (100 * b)).2=.ptr (100 * r) (fnL L (100 * r)).1 [] 0)(hn:cs.length≤98) :
  RelT C (fnL (downL L r b cs)) tm w:=by
 have:=h.down r b hb cs hX hp hn
 rw[fnL_boxM b cs _ hn,fnL_set,fnL_set] at this
 exact this
end
end Go.OT
namespace Go.OT
theorem OpOk.of_valN {C:Ctx}{o:Oper}{X X':XF Unit}(hd:o.dst=none)(hin:opsIn C.nt o=true)
  (h:∀ XL β I rg w,erF XL=X→RelL C XL β I rg w→∃ x w' XL' β' I' rg',(execOp (evR rg) o).run C.P w=.ok (.value x) w'∧erF XL'=X'∧RelL C XL' β' I' rg' w'∧∀ t,t < C.nt→rg' t=rg t) :
  OpOk C o X X':=by
 rintro a w hdef ⟨XL,β,I,rg,he,R,hs,ht⟩ K Q hK
 obtain⟨x,w',XL',β',I',rg',hrun,he',R',hrg⟩:=h XL β I rg w he R
 unfold Oper.wp
 rw[evR_of hin ht,hrun,Oper.upon_value]
 exact hK _ _ (by simp[Act.put,hd,hdef]) ⟨XL',β',I',rg',he',R',by simp[Act.put,hd,hs],fun t hlt'=>by simp only[Act.put,hd];rw[hrg t hlt'];exact ht t hlt'⟩
def clL (L:SL)(z:Value):AU→Option SL
 | .view k g p off n=>if (fnL L k).1=g∧k ≠ 100 * hh∧ownQ (fnL L k).2 p=true then
   match getN (fnL L k).2 p with
   | some (.sl true _ 1 m cs)=>if off+n≤cs.length∧((cs.drop off).take n).all isSc=true then
     some (updL (setL L (100 * hh) .non) k (setN (fnL L k).2 p (.sl true () 1 m (splice cs off (List.replicate n (.sc z)))))) else none
   | _=>none
  else none
 | _=>none
theorem zeroCells_one (z:Value)(n:Nat):(Builtin.zeroCells #[z] n).toList=List.replicate n z:=by
 apply List.ext_getElem?
 intro j
 simp only[Builtin.zeroCells,Array.toList_map,Array.toList_range,List.getElem?_map,List.getElem?_replicate]
 by_cases h:j < n
 ·rw[List.getElem?_range (by simpa using h)]
  simp[h,Nat.mod_one]
 ·rw[List.getElem?_eq_none (by simpa using h)]
  simp[h]
theorem ok_clear {C:Ctx}{o:Oper}{L L':SL}{sz:Nat}{t e:TypeId}{x:Operand}{cx:COd}{z:Value}(ho:o.op=.call ⟨.builtin .clear,#[x],#[t]⟩)(hd:o.dst=none)(hin:opsIn C.nt o=true)(hnt:C.nt≤H)
  (ht:C.P.underlying t=some (.slice e)) (hz:∀ w,(zeroValue e).run C.P w=.ok z w) (hz1:z.cells=#[z]) (hzo:z.oneCell'=true) (hcx:compOd C.nt sz x=some cx) (hr:clL L z (rd (fnL L) cx)=some L'):OpOk C o (fnL L) (fnL L') :=
 OpOk.of_valN hd hin fun XL β I rg w he R=>by
  have hx:=opd R hcx
  rw[he] at hx
  cases hv:rd (fnL L) cx with
  | view k g p off n =>
   rw[hv] at hr hx
   simp only[clL] at hr
   split at hr
   case isFalse=>cases hr
   rename_i hc
   obtain⟨hg,hk,hq⟩:=hc
   rw[← he] at hg hq hr
   obtain⟨l,sz',m',hnode,hsv⟩:=hx.view hg
   cases hN:getN (erF XL k).2 p with
   | none=>rw [hN] at hr;simp at hr
   | some NU =>
    rw[hN] at hr
    split at hr
    case h_2=>cases hr
    rename_i m cs hNU
    simp only[Option.some.injEq] at hNU
    subst hNU
    split at hr
    case isFalse=>cases hr
    rename_i hcond
    obtain⟨hfit,hold⟩:=hcond
    simp only[Option.some.injEq] at hr
    obtain⟨ll,lcs,hNL,hlcs⟩:=node_sl hN
    rw[hNL] at hnode
    have hnode':ll=l∧1=sz'∧m=m':=by simpa [Go.OT.hd] using hnode
    obtain⟨rfl,rfl,rfl⟩:=hnode'
    obtain⟨xa,cap,hxv,hlab⟩:=hsv
    have hR0:=R.setR hh (by decide) (v:=.non) (x:=rg hh) rfl (by simp[Mem]) (by simp[RR])
    have hek:(XL.set (100 * hh) .non) k=XL k:=XF.set_ne _ _ hk
    have hXhh:((XL.set (100 * hh) .non) (100 * hh)).2=.non:=by rw[XF.set_self]
    have hll:lcs.length=cs.length:=by rw[← hlcs,List.length_map]
    have hE:er (.sl true ll 1 m (splice lcs off ((List.replicate n z).map (AV.sc:Value→AL))))=.sl true () 1 m (splice cs off (List.replicate n (.sc z))):=by
     simp only[er,erL_eq,splice,List.map_append,List.map_take,List.map_drop,hlcs,List.map_replicate,List.length_replicate]
    have hfin:∀ (w':World) (rg':Nat→Value),RelL C ((XL.set (100 * hh) .non).upd k (setN (XL k).2 p (.sl true ll 1 m (splice lcs off ((List.replicate n z).map (AV.sc:Value→AL)))))) β I rg' w'→(∀ t,t ≠ hh→rg' t=(fun u=>if u=hh then rg hh else rg u) t) →
      (execOp (evR rg) o).run C.P w=.ok (.value (.tuple #[])) w'→∃ x w' XL' β' I' rg',(execOp (evR rg) o).run C.P w=.ok (.value x) w'∧erF XL'=fnL L'∧RelL C XL' β' I' rg' w'∧∀ t,t < C.nt→rg' t=rg t:=by
     intro w' rg' R' hrg' hrun
     refine⟨_,_,_,_,_,_,hrun,?_,R',fun t h2=>?_⟩
     ·rw[erF_upd,erF_set,← hr,← fnL_upd,← fnL_set,er_setN,hE,← he]
      rfl
     ·rw[hrg' t (by unfold hh H at *;omega)]
      simp only[show t ≠ hh by unfold hh H at *;omega,if_false]
    have hso:∀ (w':World) (cap:Nat) (a:Addr),n ≠ 0→(storeCells a (List.replicate n z)).run C.P w=.ok () w'→evR rg x=.slice (some a) n cap→(execOp (evR rg) o).run C.P w=.ok (.value (.tuple #[])) w':=by
     intro w' cap a hn hst hev
     obtain⟨n',rfl⟩:=Nat.exists_eq_succ_of_ne_zero hn
     simp only[execOp,ho,resolve,List.map_toArray,List.map_cons,List.map_nil,hev,Sem.run_bind,Sem.run_pure,Result.andThen_ok,invoke,builtin,Builtin.clear_]
     simp[Sem.run_bind,run_underlying ht,hz,hz1,zeroCells_one,hst]
    by_cases hn:n=0
    ·subst hn
     have hE0:(XL.set (100 * hh) .non).upd k (setN (XL k).2 p (.sl true ll 1 m (splice lcs off ((List.replicate 0 z).map (AV.sc:Value→AL)))))=XL.set (100 * hh) .non:=by
      have:splice lcs off ((List.replicate 0 z).map (AV.sc:Value→AL))=lcs:=by simp[splice]
      rw[this,setN_self p hNL]
      funext j
      by_cases hj:j=k
      ·subst hj;rw[XF.upd_self,hek]
      ·rw[XF.upd_ne _ _ hj]
     refine hfin w _ (by rw[hE0];exact hR0) (fun t h=>rfl) ?_
     simp only[execOp,ho,resolve,List.map_toArray,List.map_cons,List.map_nil,hxv,Sem.run_bind,Sem.run_pure,Result.andThen_ok,invoke,builtin,Builtin.clear_]
     cases xa<;>simp [Sem.run_bind,run_underlying ht]
    ·cases ll with
     | none=>obtain ⟨_,_,h0⟩:=hlab;omega
     | some ll =>
      obtain⟨q1,q2,q3,o',rfl,q5⟩:=hlab
      have ho':o'=ll.o+off:=q5 (by omega)
      subst ho'
      obtain⟨w',rg',st,R2,hrg2⟩:=RelL.putS (C:=C) ll k p hk off (List.replicate n z) 0 (XL.set (100 * hh) .non) _ w (.sl true (some ll) 1 m lcs) lcs hR0 hXhh (by rw[hek];exact hNL) rfl rfl rfl (by rw[hek];rw[← er_ownQ];exact hq)
       (by rw[List.length_replicate];omega) (fun j c hj hc hlt=>by
        rw[List.length_replicate] at hlt
        have hjc:((cs.drop off).take n)[j - off]?=some (er c):=by
         rw[List.getElem?_take,if_pos (by omega),List.getElem?_drop,show off+(j - off)=j by omega,← hlcs,List.getElem?_map,hc];rfl
        have:=List.all_eq_true.1 hold _ (List.mem_of_getElem? hjc)
        rw[er_isSc] at this
        cases c<;>simp [isSc] at this
        rfl) (fun y hy=>by rw[(List.mem_replicate.1 hy).2];exact hzo)
      rw[hek] at R2
      simp only[AV.withCells,Nat.add_zero] at R2
      exact hfin w' rg' R2 hrg2 (hso w' _ _ hn st hxv)
  | _=>rw [hv] at hr;simp[clL] at hr
section
variable {P:Program} {nt:Nat} {L:SL}
theorem RL.clear {K:SL→Prop}{rest:List Sg}{ty t e:TypeId}{r:Nat}{z:Value}{L1:SL}(ht:P.underlying t=some (.slice e))(hz:∀ w,(zeroValue e).run P w=.ok z w)(hz1:z.cells=#[z])(hzo:z.oneCell'=true)(hr:r < nt)(hnt:nt≤H)
  (hs:clL L z (rd (fnL L) (.t r))=some L1) (h:RL P nt rest L1 K):RL P nt (.raw none (.call ⟨.builtin .clear,#[.tmp r],#[t]⟩) ty :: rest) L K :=
 RL.raw (fun C o hP hn h2 h3 h4=>by
  subst hP hn
  exact ok_clear (sz:=0) (cx:=.t r) h3 h2 (by simp[opsIn,isSelect,h3,Op.operands,Call.operands,hr]) hnt ht hz hz1 hzo (by simp[compOd,hr]) hs) h
end
end Go.OT
namespace Go.OT
def NB (o:Option COp):Prop:=∀ d s c,o ≠ some (.bs1 d s c)
theorem NB.none:NB .none:=fun _ _ _ h=>by cases h
theorem NB.some {v:COp}(h:∀ d s c,v ≠ .bs1 d s c):NB (.some v):=fun d s c e=>h d s c (Option.some.inj e)
theorem NB.bind {α:Type}{x:Option α}{f:α→Option COp}(h:∀ a,NB (f a)):NB (x.bind f):=by
 cases x with
 | none=>exact NB.none
 | some a=>exact h a
theorem NB.map {α:Type}{x:Option α}{f:α→COp}(h:∀ a d s c,f a ≠ .bs1 d s c):NB (x.map f):=by
 cases x with
 | none=>exact NB.none
 | some a=>exact NB.some (h a)
theorem compCall_nb {P:Program}{nt:Nat}{o:Oper}{c:Call}:NB (compCall P nt o c):=by
 unfold compCall
 repeat' first
  | exact NB.none
  | exact NB.some (fun _ _ _ h=>by cases h)
  | exact NB.map (fun _ _ _ _ h=>by cases h)
  | refine NB.bind fun _=>?_
  | split
theorem compO_bs1 {P:Program}{nt:Nat}{here:List Nat}{o:Oper}{d s:Nat}{c:COd}(h:compO P nt here o=some (.bs1 d s c)) :
  opsIn nt o=true∧nt≤H∧o.dst=some d∧d < nt∧∃ t x e z,o.op=.buildSlice t 1 #[(0,x)]∧compOd nt (elemSz1 P t) x=some c∧P.underlying t=some (.slice e)∧sizeT P e=some s∧s ≠ 0∧s≤16777216∧(P.info? e).bind (·.zero)=some z:=by
 unfold compO at h
 split at h
 case isFalse=>cases h
 rename_i hc
 refine⟨hc.1,hc.2,?_⟩
 split at h
 case h_19 t n ps hop =>
  simp only[Option.bind_eq_some_iff] at h
  obtain⟨d',hd,h⟩:=h
  obtain⟨hd1,hd2⟩:=dstIn_some hd
  split at h
  ·rename_i x hps
   have eps:ps=#[(0,x)]:=by cases ps;simp only at hps;rw[hps]
   subst eps
   simp only[Option.bind_eq_some_iff] at h
   obtain⟨c',h1,h⟩:=h
   split at h
   ·rename_i e he
    simp only[Option.bind_eq_some_iff] at h
    obtain⟨s',h2,h⟩:=h
    split at h
    ·rename_i h3
     simp only[Option.some.injEq,COp.bs1.injEq] at h
     obtain⟨rfl,rfl,rfl⟩:=h
     obtain⟨z,hz⟩:=Option.isSome_iff_exists.1 h3.2.2
     exact⟨hd1,hd2,t,x,e,z,hop,h1,he,h2,h3.1,h3.2.1,hz⟩
    ·cases h
   ·cases h
  all_goals
   exfalso
   revert d s c h
   show NB _
   repeat' first
    | exact NB.none
    | exact NB.some (fun _ _ _ h=>by cases h)
    | exact NB.map (fun _ _ _ _ h=>by cases h)
    | refine NB.bind fun _=>?_
    | split
 case h_22=>exact absurd h (compCall_nb d s c)
 all_goals
  exfalso
  revert d s c h
  show NB _
  repeat' first
   | exact NB.none
   | exact NB.some (fun _ _ _ h=>by cases h)
   | exact NB.map (fun _ _ _ _ h=>by cases h)
   | exact NB.map (fun a _ _ _ h=>by cases a<;>dsimp only at h<;>first | (split at h<;>cases h) | cases h)
   | refine NB.bind fun _=>?_
   | split
section
variable {C:Ctx} {X:XF LO} {β:Nat→Nat × Nat} {I:ASet} {rg:Nat→Value} {w:World}
theorem fpL_sc (ys:List Value)(b o:Nat):¬ fpL (ys.map (AV.sc:Value→AL)) b o:=by
 intro h
 obtain⟨c,hc,hb⟩:=fpL_iff.1 h
 obtain⟨y,_,rfl⟩:=List.mem_map.1 hc
 simp[fp] at hb
theorem SepL_sc (ys:List Value):SepL (ys.map (AV.sc:Value→AL)):=SepL_iff.2 ⟨fun c hc=>by
 obtain⟨y,_,rfl⟩:=List.mem_map.1 hc
 simp[Sep],fun i j u v _ hu hv b o h1 _=>fpL_sc ys b o (fpL_iff.2 ⟨u,List.mem_of_getElem? hu,h1⟩)⟩
theorem RelL.rewr (R:RelL C X β I rg w)(h:Nat)(hh:h < 10000){l:Loc}{n:Nat}{cs:List AL}(hX:(X (100 * h)).2=.sl true (some l) 1 n cs){w':World}(hfr:Frame (fun b o=>b=l.b∧l.o≤o∧o < l.o+l.cap) w w')
  (n':Nat) (ys:List Value) (hys:ys.length=n') (hn:n'≤l.cap) (hin:∀ j y,ys[j]?=some y→w'.at l.b (l.o+j)=some (.v y)) (hroom:∀ j,j < l.cap→∃ y,w'.at l.b (l.o+j)=some (.v y)) :
  RelL C (X.set (100 * h) (.sl true (some l) 1 n' (ys.map .sc))) β I (fun t=>if t=h then .slice (some ⟨l.b,l.o,none⟩) n' l.cap else rg t) w':=by
 have hkey:=R.key (100 * h)
 have hkm:=hkey.mem
 rw[hX] at hkm
 simp only[Mem] at hkm
 have hown:∀ j,j < l.cap→kfp β X (100 * h) l.b (l.o+j):=fun j hj=>.inl (by rw[hX];simp only[fp];exact .inl ⟨trivial,by omega,by omega⟩)
 have hfr':Frame (fun b o=>∃ k0,k0=100 * h∧kfp β X k0 b o) w w':=hfr.mono fun b o _ hb=>⟨_,rfl,by
  obtain⟨rfl,h1,h2⟩:=hb
  have:=hown (o - l.o) (by omega)
  rwa [show l.o+(o - l.o)=o by omega] at this⟩
 have hself:=XF.set_self X (100 * h) (.sl true (some l) 1 n' (ys.map .sc))
 have hfpn:∀ b o,fp (.sl true (some l) 1 n' (ys.map .sc)) b o→fp (X (100 * h)).2 b o:=by
  intro b o hb
  rw[hX]
  simp only[fp] at hb ⊢
  rcases hb with hb | hb
  ·exact .inl hb
  ·exact absurd hb (fpL_sc ys b o)
 refine R.change (fun k=>k=100 * h) (fun k hk=>XF.set_ne _ _ hk) (keeps_set X β _ _) (fun _ _ _=>.inl rfl) (fun _ _=>rfl) ?_ ?_ ?_ ?_ ?_ (fun _ _ h=>h) (fun _ _ h=>.inl h) hfr'
 ·intro t ht
  rw[if_neg (fun e=>ht.elim (fun ht=>ht (by rw[e])) (fun ht=>by omega))]
 ·intro t ht
  have e:t=h:=by omega
  subst e
  rw[hself,if_pos rfl]
  simp[RR,CR]
 ·rintro k rfl
  refine⟨?_,?_,fun hc=>absurd (by omega) hc.1,fun b o hb=>?_,fun h=>by omega⟩
  ·rw[hself]
   simp only[Mem]
   refine⟨by simp[hys],hn,MemL_iff.2 fun i c hc=>?_,fun _=>⟨fun j hj=>hroom j (by omega),(hkm.2.2.2 trivial).2⟩⟩
   rw[List.getElem?_map] at hc
   cases hy:ys[i]? with
   | none=>simp [hy] at hc
   | some y =>
    simp only[hy,Option.map_some,Option.some.injEq] at hc
    subst hc
    exact⟨⟨y,hin i y hy,by simp[CR]⟩,by simp[Mem],fun e=>by simp at e⟩
  ·rw[hself]
   simp only[Sep]
   exact⟨fun j hj hb=>fpL_sc ys _ _ hb,SepL_sc ys⟩
  ·have hold:kfp β X (100 * h) b o:=by
    rcases hb with hb | ⟨hc,_⟩
    ·rw[hself] at hb;exact .inl (hfpn b o hb)
    ·exact absurd (by omega) hc.1
   obtain⟨l1,l2,l3⟩:=hkey.live b o hold
   exact⟨Nat.lt_of_lt_of_le l1 hfr.size,by rw[hfr.fz b o l1 l3];exact l2,by rw[hfr.some b o l1];exact l3⟩
 ·rintro k k' rfl rfl hne;exact absurd rfl hne
 ·rintro k rfl b o hb
  left
  rcases hb with hb | ⟨hc,_⟩
  ·rw[hself] at hb;exact⟨_,rfl,.inl (hfpn b o hb)⟩
  ·exact absurd (by omega) hc.1
theorem RelL.newslW (R:RelL C X β I rg w)(d:Nat)(hd:d < 10000){w':World}(hw:Frame (fun _ _=>False) w w')(hsize:w.heap.size < w'.heap.size)(n c:Nat)(ys:List Value)(hys:ys.length=n)(hnc:n≤c)(hcb:c≤9223372036854775807)
  (hin:∀ j y,ys[j]?=some y→w'.at w.heap.size j=some (.v y)) (hroom:∀ j,j < c→∃ y,w'.at w.heap.size j=some (.v y)) (hfz:∀ j,j < c→w'.fz w.heap.size j=false) :
  RelL C (X.set (100 * d) (.sl true (some ⟨w.heap.size,0,c⟩) 1 n (ys.map .sc))) β I (fun t=>if t=d then .slice (some ⟨w.heap.size,0,none⟩) n c else rg t) w':=by
 have:=R.fresh (w':=w') d hd [] (by simp) (v:=.sl true (some ⟨w.heap.size,0,c⟩) 1 n (ys.map .sc)) (x:=.slice (some ⟨w.heap.size,0,none⟩) n c) hw ?_ ?_ (by simp[RR,CR]) ?_
 ·simpa using this
 ·simp only[Mem]
  refine⟨by simp[hys],hnc,MemL_iff.2 fun i c0 hc=>?_,fun _=>⟨fun j hj=>by rw[Nat.zero_add];exact hroom j (by omega),fun _=>hcb⟩⟩
  rw[List.getElem?_map] at hc
  cases hy:ys[i]? with
  | none=>simp [hy] at hc
  | some v =>
   simp only[hy,Option.map_some,Option.some.injEq] at hc
   subst hc
   exact⟨⟨v,by rw[Nat.zero_add];exact hin i v hy,by simp[CR]⟩,by simp[Mem],fun e=>by simp at e⟩
 ·simp only[Sep]
  exact⟨fun j _ hb=>fpL_sc ys _ _ hb,SepL_sc ys⟩
 ·intro b o hb
  simp only[fp] at hb
  rcases hb with ⟨rfl,h1,h2⟩ | hb
  ·obtain⟨y,hy⟩:=hroom o (by simp at h2;omega)
   exact .inl ⟨Nat.le_refl _,hsize,hfz o (by simp at h2;omega),by rw[hy];rfl⟩
  ·exact absurd hb (fpL_sc ys b o)
end
end Go.OT
namespace Go.OT
open Go.Proofs Go.Shelf
theorem Calls.ofEq {P:Program}{f:FuncId}{args args':Array Value}{w:World}{Q Q':Ending→World→Prop}(h:Calls P f args w Q)(ha:args=args')(hq:∀ e w',Q e w'→Q' e w'):Calls P f args' w Q':=by
 subst ha;exact Calls.mono h hq
def insAt {α:Type}(l:List α)(i:Nat)(v:α):List α:=l.take i ++ v :: l.drop i
theorem insAt_length {α:Type}(l:List α)(i:Nat)(v:α)(h:i≤l.length):(insAt l i v).length=l.length+1:=by
 simp[insAt];omega
theorem insAt_get {α:Type}(l:List α)(i:Nat)(v:α)(h:i≤l.length)(j:Nat):(insAt l i v)[j]?=if j < i then l[j]? else if j=i then some v else l[j - 1]?:=by
 unfold insAt
 have hl:(l.take i).length=i:=by simp;omega
 by_cases h1:j < i
 ·rw[if_pos h1,List.getElem?_append_left (by omega),List.getElem?_take,if_pos h1]
 ·rw[if_neg h1,List.getElem?_append_right (by omega),hl]
  by_cases h2:j=i
  ·subst h2;simp
  ·rw[if_neg h2]
   obtain⟨k,rfl⟩:∃ k,j=i+k+1:=⟨j - i - 1,by omega⟩
   rw[show i+k+1 - i=k+1 by omega,List.getElem?_cons_succ,List.getElem?_drop]
   congr 1
theorem map_insAt {α γ:Type}(f:α→γ)(l:List α)(i:Nat)(v:α):(insAt l i v).map f=insAt (l.map f) i (f v):=by
 simp[insAt,List.map_take,List.map_drop]
theorem ins_cells {w:World}{b o n i:Nat}{xs:List Value}{v:Value}(hn:xs.length=n)(hi:i≤n)(hsp:∀ j,j < n+1→(w.cell? ⟨b,o+j,none⟩).isSome=true)(hpre:∀ j,j < i→w.cell? ⟨b,o+j,none⟩=xs[j]?) :
  ∀ j y,(insAt xs i v)[j]?=some y→((w.setCells b (o+(i+1)) (xs.drop i)).setCells b (o+i) [v]).cell? ⟨b,o+j,none⟩=some y:=by
 intro j y hj
 have hsp1:∀ k,k < n+1→((w.setCells b (o+(i+1)) (xs.drop i)).cell? ⟨b,o+k,none⟩).isSome=true:=fun k hk =>
  isSome_setCells b _ _ _ (fun j hj=>by rw[Nat.add_assoc];exact hsp _ (by simp at hj;omega)) _ (hsp k hk)
 rw[insAt_get xs i v (by omega)] at hj
 by_cases h1:j < i
 ·rw[if_pos h1] at hj
  rw[World.cell?_setCells_out _ _ _ _ _ (fun _ _=>.inl (by show o+j < o+i;omega)),World.cell?_setCells_out _ _ _ _ _ (fun _ _=>.inl (by show o+j < o+(i+1);omega)),hpre j h1]
  exact hj
 ·rw[if_neg h1] at hj
  by_cases h2:j=i
  ·subst h2
   rw[if_pos rfl] at hj
   have:=World.cell?_setCells_in b [v] (o+j) _ (fun k hk=>by
    have hk0:k=0:=by simpa using hk
    subst hk0
    exact hsp1 j (by omega)) 0 (by simp)
   simpa using this.trans (by simpa using hj)
  ·rw[if_neg h2] at hj
   have hjl:j - 1 < xs.length:=(List.getElem?_eq_some_iff.1 hj).1
   rw[World.cell?_setCells_out _ _ _ _ _ (fun _ _=>.inr (by show o+i+1≤o+j;omega))]
   have:=World.cell?_setCells_in b (xs.drop i) (o+(i+1)) w (fun k hk=>by rw[Nat.add_assoc];exact hsp _ (by simp at hk;omega)) (j - 1 - i) (by simp;omega)
   rw[show o+(i+1)+(j - 1 - i)=o+j by omega] at this
   rw[this]
   rw[List.getElem_drop]
   have e:i+(j - 1 - i)=j - 1:=by omega
   rw[List.getElem?_eq_getElem hjl] at hj
   simp only[e]
   exact hj
theorem at_isSome_setCells {w:World}{b o0:Nat}{vs:List Value}{o:Nat}(h:∃ y,w.at b o=some (.v y))(hsp:∀ j,j < vs.length→(w.cell? ⟨b,o0+j,none⟩).isSome=true):∃ y,(w.setCells b o0 vs).at b o=some (.v y):=by
 obtain⟨y,hy⟩:=h
 have:=isSome_setCells b vs o0 w hsp o (by rw[at_v.1 hy];rfl)
 obtain⟨z,hz⟩:=Option.isSome_iff_exists.1 this
 exact⟨z,at_v.2 hz⟩
section
variable {C:Ctx} {X:XF LO} {β:Nat→Nat × Nat} {I:ASet} {rg:Nat→Value} {w:World} {ρ:Ren}
def InsQ (C:Ctx)(X:XF LO) (β:Nat→Nat × Nat)(I:ASet)(rg:Nat→Value)(d h n i:Nat)(xs:List Value)(v:Value)(e:Ending)(w':World):Prop :=
 ∃ x XL' rg',e=.returned x∧RelL C XL' β I rg' w'∧erF XL'=(((erF X).set (100 * h) (erF X (100 * h)).2).set (100 * d) (.sl true () 1 (n+1) ((insAt xs i v).map .sc))).set (100 * h) .non∧rg' d=x∧∀ t,t ≠ d→t ≠ h→rg' t=rg t
theorem ins_room (R:RelL C X β I rg w){d h:Nat}(hd:d < 10000)(hh:h < 10000)(hdh:d ≠ h){l:Loc}{n i:Nat}{xs:List Value}{v:Value}(hX:(X (100 * h)).2=.sl true (some l) 1 n (xs.map .sc))(hi:i≤n)(hroom:n+1≤l.cap){w0 w':World}(h0:w0=w∨w0=w.drew)(hw:w'=(w0.setCells l.b (l.o+(i+1)) (xs.drop i)).setCells l.b (l.o+i) [v]) :
  InsQ C X β I rg d h n i xs v (.returned (.slice (some ⟨l.b,l.o,none⟩) (n+1) l.cap)) w':=by
 have hkey:=R.key (100 * h)
 have hkm:=hkey.mem
 rw[hX] at hkm
 simp only[Mem] at hkm
 have hxl:xs.length=n:=by simpa using hkm.1
 have hfd:Frame (fun b o=>b=l.b∧l.o≤o∧o < l.o+l.cap) w w0:=by
  rcases h0 with rfl | rfl
  ·exact Frame.refl _ _
  ·exact frame_drew _ w
 have hat:∀ b o,w0.at b o=w.at b o:=by rcases h0 with rfl | rfl<;>intro b o<;>rfl
 have hrm:∀ j,j < l.cap→∃ y,w0.at l.b (l.o+j)=some (.v y):=fun j hj=>by rw[hat];exact (hkm.2.2.2 trivial).1 j (by omega)
 have hsp:∀ j,j < l.cap→(w0.cell? ⟨l.b,l.o+j,none⟩).isSome=true:=fun j hj=>by obtain ⟨y,hy⟩:=hrm j hj;rw[at_v.1 hy];rfl
 have f1:=frame_setCells (fun b o=>b=l.b∧l.o≤o∧o < l.o+l.cap) l.b (xs.drop i) (l.o+(i+1)) w0 (fun j hj=>by
  simp only[List.length_drop] at hj
  obtain⟨y,hy⟩:=hrm (i+1+j) (by omega)
  refine⟨⟨rfl,by omega,by omega⟩,?_⟩
  rw[Nat.add_assoc,hy];rfl)
 have hr1:∀ j,j < l.cap→∃ y,(w0.setCells l.b (l.o+(i+1)) (xs.drop i)).at l.b (l.o+j)=some (.v y):=fun j hj =>
  at_isSome_setCells (hrm j hj) (fun k hk=>by rw[Nat.add_assoc];exact hsp _ (by simp at hk;omega))
 have f2:=frame_setCells (fun b o=>b=l.b∧l.o≤o∧o < l.o+l.cap) l.b [v] (l.o+i) (w0.setCells l.b (l.o+(i+1)) (xs.drop i)) (fun j hj=>by
  have hj0:j=0:=by simpa using hj
  subst hj0
  obtain⟨y,hy⟩:=hr1 i (by omega)
  exact⟨⟨rfl,by omega,by omega⟩,by rw[show l.o+i+0=l.o+i by omega,hy];rfl⟩)
 have hfr:Frame (fun b o=>b=l.b∧l.o≤o∧o < l.o+l.cap) w w':=by
  rw[hw]
  exact (hfd.trans f1 (fun _ _ h=>.inl h)).trans f2 (fun _ _ h=>.inl h)
 have hcell:=ins_cells (w:=w0) (b:=l.b) (o:=l.o) (v:=v) hxl hi (fun j hj=>hsp j (by omega)) (fun j hj=>by
  have hj':xs[j]?=some (xs[j]'(by omega)):=List.getElem?_eq_getElem (by omega)
  obtain⟨⟨y,hy,hc⟩,_⟩:=MemL_iff.1 hkm.2.2.1 j (.sc (xs[j]'(by omega))) (by rw[List.getElem?_map,hj'];rfl)
  simp only[CR] at hc
  subst hc
  rw[← hat] at hy
  rw[hj',at_v.1 hy])
 have R2:=R.rewr h hh hX hfr (n+1) (insAt xs i v) (by rw[insAt_length _ _ _ (by omega),hxl]) hroom (fun j y hj=>by rw[at_v,hw];exact hcell j y hj) (fun j hj=>by
  rw[hw]
  exact at_isSome_setCells (hr1 j hj) (fun k hk=>by
   have hk0:k=0:=by simpa using hk
   subst hk0
   obtain⟨y,hy⟩:=hr1 i (by omega)
   rw[show l.o+i+0=l.o+i by omega,at_v.1 hy];rfl))
 have R3:=R2.moveR d h hd hdh
 refine⟨_,_,_,rfl,R3,?_,by simp,fun t h1 h2=>by simp[h1,h2]⟩
 rw[XF.set_self,erF_set,erF_set,erF_set]
 have hE:er (.sl true (some l) 1 (n+1) ((insAt xs i v).map (AV.sc:Value→AL)))=.sl true () 1 (n+1) ((insAt xs i v).map .sc):=by
  simp[er,erL_eq]
 rw[hE]
 have hV:(erF X (100 * h)).2.isNode=true:=by
  show (er (X (100 * h)).2).isNode=true
  rw[hX];rfl
 exact set_twice _ _ _ (by omega) _ _ _ (by rw[hV];rfl)
theorem ins_new (R:RelL C X β I rg w){d h:Nat}(hd:d < 10000)(hh:h < 10000)(hdh:d ≠ h){n i c:Nat}{xs:List Value}{v:Value}(hxl:xs.length=n)(hi:i≤n)(hnc:n+1≤c)(hc:c≤9223372036854775807){w':World}(hw:Frame (fun _ _=>False) w w')(hsize:w.heap.size < w'.heap.size)
  (hin:∀ j y,(insAt xs i v)[j]?=some y→w'.at w.heap.size j=some (.v y)) (hroom:∀ j,j < c→∃ y,w'.at w.heap.size j=some (.v y)) (hfz:∀ j,j < c→w'.fz w.heap.size j=false) :
  InsQ C X β I rg d h n i xs v (.returned (.slice (some ⟨w.heap.size,0,none⟩) (n+1) c)) w':=by
 have R2:=(R.bump h).newslW d hd hw hsize (n+1) c (insAt xs i v) (by rw[insAt_length _ _ _ (by omega),hxl]) hnc hc hin hroom hfz
 have R3:=R2.setR h hh (v:=.non) (x:=rg h) rfl (by simp[Mem]) (by simp[RR])
 refine⟨_,_,_,rfl,R3,?_,by simp[hdh],fun t h1 h2=>by simp[h1,h2]⟩
 rw[erF_set,erF_set,erF_set]
 have hE:er (.sl true (some ⟨w.heap.size,0,c⟩) 1 (n+1) ((insAt xs i v).map (AV.sc:Value→AL)))=.sl true () 1 (n+1) ((insAt xs i v).map .sc):=by
  simp[er,erL_eq]
 rw[hE]
 rfl
theorem at_alloc (w:World)(c:Array Value)(t:TypeId)(j:Nat):(w.alloc (.cells c t)).at w.heap.size j=(c[j]?).map Hp.v:=by
 have h:(w.alloc (.cells c t)).heap[w.heap.size]?=some (.cells c t (0,0)):=by
  show (w.heap.push _)[w.heap.size]?=_
  rw[Array.getElem?_push,if_pos rfl]
 simp only[World.at,h]
theorem fz_alloc (w:World)(c:Array Value)(t:TypeId)(j:Nat):(w.alloc (.cells c t)).fz w.heap.size j=false:=by
 have h:(w.alloc (.cells c t)).heap[w.heap.size]?=some (.cells c t (0,0)):=by
  show (w.heap.push _)[w.heap.size]?=_
  rw[Array.getElem?_push,if_pos rfl]
 simp only[World.fz,h]
 simp
theorem ins_calls {P:Program}(LI:Lays2.n21 P ρ)(hP:C.P=P)(R:RelL C X β I rg w){d h:Nat}(hd:d < 10000)(hh:h < 10000)(hdh:d ≠ h){l:LO}{n i:Nat}{xs:List Value}{v:Value}(hX:(X (100 * h)).2=.sl true l 1 n (xs.map .sc))(hi:i≤n)
  (hbig:(n+1) * 8≤140737488355328) (h1x:∀ x ∈ xs,x.oneCell'=true) (h1v:v.oneCell'=true) {vb:Nat} {e:TypeId} (hvb:w.heap[vb]?=some (.cells #[v] e (0,0))) (hne:∀ l',l=some l'→0 < l'.cap→l'.b ≠ vb) :
  Calls C.P (ρ.f 21) #[rg h,.int .i64 (i:Nat),.slice (some ⟨vb,0,none⟩) 1 1] w (InsQ C X β I rg d h n i xs v):=by
 subst hP
 have hkey:=R.key (100 * h)
 have hkm:=hkey.mem
 have hreg:=R.reg h
 rw[hX] at hkm hreg
 simp only[RR] at hreg
 have hvs:∀ j y,([v]:List Value)[j]?=some y→w.cell? ⟨vb,0+j,none⟩=some y:=fun j y hj=>by
  cases j with
  | zero=>simp at hj;subst hj;simp[World.cell?,hvb]
  | succ j=>simp at hj
 have h1vs:∀ y ∈ ([v]:List Value),y.oneCell'=true:=fun y hy=>by simp at hy;rw[hy];exact h1v
 have hz1:(Value.int IntKind.i64 0).cells.size=1:=rfl
 -- a new row, where the number goes to the end
 have hendg:∀ (base:Option Addr) (c:Nat),xs.length=n→i=n→n≤c→c < n+1→rg h=.slice base n c→(base=none→n=0)→(∀ a,base=some a→∀ j u,xs[j]?=some u→w.cell? (a.add j)=some u) →
   Calls C.P (ρ.f 21) #[rg h,.int .i64 (i:Nat),.slice (some ⟨vb,0,none⟩) 1 1] w (InsQ C X β I rg d h n i xs v):=by
  intro base c hxl hin hnc hcn hr hb hcs
  subst hin
  refine Calls.ofEq (Any2.slices_Insert_int_end_grow LI base i c vb 0 1 1 xs [v] w (by omega) hnc hcn hbig hxl rfl hb hcs hvs h1vs) (by rw[hr]) ?_
  rintro _ w' ⟨rfl,rfl⟩
  have hg:=grownCap_ge w (i+1) c (ρ.t 3)
  have hgm:=grownCap_le_maxLen w (i+1) c (ρ.t 3) (by simp only[maxLen];omega)
  have hat:=at_alloc w.drew ((xs ++ [v]).toArray ++ Builtin.zeroCells (Value.int .i64 0).cells (grownCap w (i+1) c (ρ.t 3) - (i+1))) (ρ.t 3)
  refine ins_new R hd hh hdh hxl (Nat.le_refl _) hg (by simpa only [maxLen] using hgm) ((frame_drew _ w).trans (frame_alloc _ w.drew _) (fun _ _ h=>.inl h)) (by simp) (fun j y hj=>?_) (fun j hj=>?_) (fun j _=>fz_alloc w.drew _ _ j)
  ·refine (hat j).trans ?_
   have e1:insAt xs i v=xs ++ [v]:=by simp[insAt,← hxl]
   rw[e1] at hj
   have hjl:=(List.getElem?_eq_some_iff.1 hj).1
   rw[Array.getElem?_append_left (by simpa using hjl)]
   simpa using hj
  ·have hs:((xs ++ [v]).toArray ++ Builtin.zeroCells (Value.int .i64 0).cells (grownCap w (i+1) c (ρ.t 3) - (i+1))).size=grownCap w (i+1) c (ρ.t 3):=by
    simp[size_zeroCells,hz1,hxl];omega
   exact⟨_,(hat j).trans (by rw[Array.getElem?_eq_getElem (by rw[hs];exact hj)];rfl)⟩
 cases l with
 | none =>
  simp only[Mem] at hkm
  obtain⟨rfl,hx0⟩:=hkm
  have hx0:xs=[]:=by simpa using hx0
  subst hx0
  simp only[CR] at hreg
  have hv0:rg h=.slice none 0 0:=hreg.1.resolve_right (by simp)
  exact hendg none 0 rfl (by omega) (by omega) (by omega) hv0 (fun _=>rfl) (fun a ha=>by cases ha)
 | some l =>
  simp only[Mem] at hkm
  simp only[CR] at hreg
  have hxl:xs.length=n:=by simpa using hkm.1
  have hcap63:l.cap≤9223372036854775807:=(hkm.2.2.2 trivial).2 (by omega)
  have hcs:∀ j u,xs[j]?=some u→w.cell? ⟨l.b,l.o+j,none⟩=some u:=fun j u hj=>by
   obtain⟨⟨y,hy,hc⟩,_⟩:=MemL_iff.1 hkm.2.2.1 j (.sc u) (by rw[List.getElem?_map,hj];rfl)
   simp only[CR] at hc
   subst hc
   exact at_v.1 hy
  have hlive:∀ j,j < l.cap→l.b < w.heap.size∧w.fz l.b (l.o+j)=false:=fun j hj=>by
   obtain⟨q1,q2,_⟩:=hkey.live l.b (l.o+j) (.inl (by rw[hX];simp only[fp];exact .inl ⟨trivial,by omega,by omega⟩))
   exact⟨q1,q2⟩
  have hsp:∀ j,j < l.cap→(w.cell? ⟨l.b,l.o+j,none⟩).isSome=true:=fun j hj=>by
   obtain⟨y,hy⟩:=(hkm.2.2.2 trivial).1 j (by omega)
   rw[at_v.1 hy];rfl
  by_cases hroom:n+1≤l.cap
  ·by_cases hin:i=n
   ·subst hin
    refine Calls.ofEq (Any2.slices_Insert_int_end_room LI l.b l.o i l.cap vb 0 1 1 [v] w (by omega) hroom hcap63 rfl (fun j hj=>by rw[Nat.add_assoc];exact hsp _ (by omega)) (fun j hj=>by rw[Nat.add_assoc];exact fz_frozen (hlive _ (by omega)).2) hvs h1vs) (by rw[hreg]) ?_
    rintro _ w' ⟨rfl,rfl⟩
    exact ins_room R hd hh hdh hX (Nat.le_refl _) hroom (.inl rfl) (by rw[show xs.drop i=[] by simp[← hxl]];rfl)
   ·obtain⟨y0,hy0⟩:=(hkm.2.2.2 trivial).1 0 (by omega)
    have hsb:∃ tB kB,w.shape? l.b=some (tB,kB)∧kB ≠ 0:=by
     have:=at_v.1 hy0
     unfold World.cell? at this
     unfold World.shape?
     split at this
     ·rename_i c t f hc
      simp only at hc
      rw[hc]
      exact⟨_,_,rfl,fun h0=>by
       have hlt:=(Array.getElem?_eq_some_iff.1 this).1
       omega⟩
     ·cases this
    obtain⟨tB,kB,hsb,hkB⟩:=hsb
    refine Calls.ofEq (Any2.slices_Insert_int_shift LI l.b l.o n l.cap i vb 0 1 1 xs [v] w (by omega) (by omega) hroom hcap63 (hne l rfl (by omega)).symm hxl rfl hcs (fun j hj=>hsp j (by omega)) (fun j hj=>fz_frozen (hlive j (by omega)).2) hvs h1x h1vs
     e tB 1 kB (by simp[World.shape?,hvb]) hsb hkB (by simp[World.frozen?,hvb]) (by simp[World.frozen?,hvb])) (by rw[hreg]) ?_
    rintro _ w' ⟨rfl,rfl⟩
    exact ins_room R hd hh hdh hX hi hroom (.inr rfl) rfl
  ·have hadd:∀ (b oo j:Nat),(⟨b,oo,none⟩:Addr).add j=⟨b,oo+j,none⟩:=fun b oo j=>Addr.add_lit ..
   by_cases hin:i=n
   ·exact hendg (some ⟨l.b,l.o,none⟩) l.cap hxl hin hkm.2.1 (by omega) hreg (fun h=>by cases h) (fun a ha j u hj=>by
     cases ha
     rw[hadd];exact hcs j u hj)
   ·refine Calls.ofEq (Any2.slices_Insert_int_grow LI l.b l.o n l.cap i vb 0 1 1 xs [v] w (by omega) (by omega) hkm.2.1 (by omega) hbig hxl rfl hcs hvs h1x h1vs) (by rw[hreg]) ?_
    rintro _ w' ⟨rfl,hw'⟩
    have hg:=grownCap_ge w (n+1) l.cap (ρ.t 3)
    have hgm:=grownCap_le_maxLen w (n+1) l.cap (ρ.t 3) (by simp only[maxLen];omega)
    generalize grownCap w (n+1) l.cap (ρ.t 3)=G at hw' hg hgm ⊢
    generalize hROW:(xs.take i).toArray ++ Builtin.zeroCells (Value.int .i64 0).cells (n+1 - i) ++ Builtin.zeroCells (Value.int .i64 0).cells (G - (n+1))=ROW at hw'
    have hRs:ROW.size=G:=by
     rw[← hROW]
     simp[size_zeroCells,hz1,hxl];omega
    have hR1:∀ j,j < i→ROW[j]?=xs[j]?:=fun j hj=>by
     rw[← hROW,Array.append_assoc,Array.getElem?_append_left (by simp;omega)]
     simp[List.getElem?_take,hj]
    have f0:Frame (fun _ _=>False) w (w.alloc (.cells ROW (ρ.t 3))).drew:=(frame_alloc _ w _).trans (frame_drew _ _) (fun _ _ h=>.inl h)
    have a0:∀ j,j < G→∃ y,(w.alloc (.cells ROW (ρ.t 3))).drew.at w.heap.size j=some (.v y):=fun j hj =>
     ⟨ROW[j]'(by omega),(at_alloc w ROW (ρ.t 3) j).trans (by rw[Array.getElem?_eq_getElem (by omega)];rfl)⟩
    have z0:∀ j,(w.alloc (.cells ROW (ρ.t 3))).drew.fz w.heap.size j=false:=fun j=>fz_alloc w ROW (ρ.t 3) j
    have c0:∀ j,j < i→(w.alloc (.cells ROW (ρ.t 3))).drew.cell? ⟨w.heap.size,j,none⟩=xs[j]?:=fun j hj=>by
     obtain⟨y,hy⟩:=a0 j (by omega)
     have h2:=(at_alloc w ROW (ρ.t 3) j).symm.trans hy
     rw[hR1 j hj] at h2
     rw[at_v.1 hy]
     cases hx:xs[j]? with
     | none=>rw [hx] at h2;simp at h2
     | some u=>rw [hx] at h2;simp at h2;rw[h2]
    have s0:(w.alloc (.cells ROW (ρ.t 3))).drew.heap.size=w.heap.size+1:=by simp
    generalize (w.alloc (.cells ROW (ρ.t 3))).drew=W1 at *
    have f1:=frame_setCells (fun b o=>b=w.heap.size) w.heap.size [v] i W1 (fun j hj=>by
     have hj0:j=0:=by simpa using hj
     subst hj0
     obtain⟨y,hy⟩:=a0 (i+0) (by omega)
     exact⟨rfl,by rw[hy];rfl⟩)
    have a1:∀ j,j < G→∃ y,(W1.setCells w.heap.size i [v]).at w.heap.size j=some (.v y):=fun j hj =>
     at_isSome_setCells (a0 j hj) (fun k hk=>by
      have hk0:k=0:=by simpa using hk
      subst hk0
      obtain⟨y,hy⟩:=a0 (i+0) (by omega)
      rw[at_v.1 hy];rfl)
    have f1':=f1.trans (frame_drew (fun b o=>b=w.heap.size) _) (fun _ _ h=>.inl h)
    have c1:∀ j,j < i+1→∀ y,(insAt xs i v)[j]?=some y→(W1.setCells w.heap.size i [v]).cell? ⟨w.heap.size,j,none⟩=some y:=fun j hj y hy=>by
     rw[insAt_get xs i v (by omega)] at hy
     by_cases h1:j < i
     ·rw[if_pos h1] at hy
      rw[World.cell?_setCells_out _ _ _ _ _ (fun _ _=>.inl h1),c0 j h1]
      exact hy
     ·rw[if_neg h1,if_pos (by omega)] at hy
      have hji:j=i:=by omega
      subst hji
      have:=World.cell?_setCells_in w.heap.size [v] j W1 (fun k hk=>by
       have hk0:k=0:=by simpa using hk
       subst hk0
       obtain⟨y,hy⟩:=a0 (j+0) (by omega)
       rw[at_v.1 hy];rfl) 0 (by simp)
      simpa using this.trans (by simpa using hy)
    have c1':∀ x,(W1.setCells w.heap.size i [v]).drew.cell? x=(W1.setCells w.heap.size i [v]).cell? x:=fun x=>rfl
    have f2:=frame_setCells (fun b o=>b=w.heap.size) w.heap.size (xs.drop i) (i+1) (W1.setCells w.heap.size i [v]).drew (fun j hj=>by
     simp only[List.length_drop] at hj
     obtain⟨y,hy⟩:=a1 (i+1+j) (by omega)
     refine⟨rfl,?_⟩
     show ((W1.setCells w.heap.size i [v]).at w.heap.size (i+1+j)).isSome=true
     rw[hy];rfl)
    have hsp2:∀ j,j < (xs.drop i).length→((W1.setCells w.heap.size i [v]).drew.cell? ⟨w.heap.size,i+1+j,none⟩).isSome=true:=fun j hj=>by
     simp only[List.length_drop] at hj
     obtain⟨y,hy⟩:=a1 (i+1+j) (by omega)
     rw[c1',at_v.1 hy];rfl
    have f3:=f1'.trans f2 (fun _ _ h=>.inl h)
    rw[← hw'] at f3
    have a2:∀ j,j < G→∃ y,w'.at w.heap.size j=some (.v y):=fun j hj=>by
     rw[hw']
     exact at_isSome_setCells (a1 j hj) hsp2
    refine ins_new R hd hh hdh hxl hi hg (by simpa only [maxLen] using hgm) (f0.trans f3 (fun b o h=>.inr (by omega))) (by have:=f3.size;omega) (fun j y hj=>?_) a2 (fun j hj=>?_)
    ·rw[at_v,hw']
     by_cases h1:j < i+1
     ·rw[World.cell?_setCells_out _ _ _ _ _ (fun _ _=>.inl h1),c1']
      exact c1 j h1 y hj
     ·rw[insAt_get xs i v (by omega),if_neg (by omega),if_neg (by omega)] at hj
      have hjl:=(List.getElem?_eq_some_iff.1 hj).1
      have:=World.cell?_setCells_in w.heap.size (xs.drop i) (i+1) _ hsp2 (j - 1 - i) (by simp;omega)
      rw[show i+1+(j - 1 - i)=j by omega] at this
      rw[this,List.getElem_drop]
      rw[List.getElem?_eq_getElem hjl] at hj
      have e:i+(j - 1 - i)=j - 1:=by omega
      simp only[e]
      exact hj
    ·obtain⟨y,hy⟩:=a0 j hj
     rw[f3.fz _ _ (by omega) (by rw[hy];rfl)]
     exact z0 j
end
end Go.OT
namespace Go.OT
open Go.Proofs Go.Shelf
theorem wp_out {P:Program}{o:Oper}{a:Act}{w w1:World}{K:Act→World→Prop}{Q:Exit→Act→World→Prop}{x:Value}(h:o.wp P a w K Q)(hr:(execOp a.eval o).run P w=.ok (.value x) w1):K (a.put o.dst x) w1:=by
 unfold Oper.wp at h
 rw[hr,Oper.upon_value] at h
 exact h
theorem wp_in {P:Program}{o:Oper}{a:Act}{w w1:World}{K:Act→World→Prop}{Q:Exit→Act→World→Prop}{x:Value}(hr:(execOp a.eval o).run P w=.ok (.value x) w1)(h:K (a.put o.dst x) w1):o.wp P a w K Q:=by
 unfold Oper.wp
 rw[hr,Oper.upon_value]
 exact h
theorem wpOp_of {P:Program}{ops:Array Oper}{i:Nat}{o:Oper}{a:Act}{w:World}{K:Act→World→Prop}{Q:Exit→Act→World→Prop}(hi:ops[i]?=some o)(hg:o.guard=none)(h:o.wp P a w K Q):wpOp P ops Q i K a w:=by
 unfold Go.wpOp
 simp only[hi]
 simp only[Region.wanted,hg,if_true]
 exact .inl h
theorem bs1_exec {P:Program}{o:Oper}{ev:Operand→Value}{w:World}{ty e:TypeId}{x:Operand}{s:Nat}{z:Value}(hop:o.op=.buildSlice ty 1 #[(0,x)])(hty:P.underlying ty=some (.slice e))(hse:sizeT P e=some s)(hs0:s ≠ 0)(hsb:s≤16777216)
  (hz:(P.info? e).bind (·.zero)=some z) (hsz:(ev x).cells.size=s):(execOp ev o).run P w=.ok (.value (.slice (some ⟨w.heap.size,0,none⟩) 1 1)) { w with heap:=w.heap.push (.cells (ev x).cells e (0,0)) }:=by
 have hzr:(zeroValue e).run P w=.ok z w:=by
  cases hi:P.info? e with
  | none=>simp [hi] at hz
  | some i=>simp [hi] at hz;simp[zeroValue,typeInfo,hi,hz]
 have hso:=run_sizeOf hse w
 have hfill:Instr.fill (fun i=>some (i * s,s)) ((Array.range (1 * s)).map (z.cells[· % z.cells.size]!)) [(0,ev x)]=some (ev x).cells:=by
  simp only[Instr.fill]
  rw[if_neg (by simp[hsz])]
  congr 1
  apply Array.ext'
  rw[fill_cells,Nat.zero_mul]
  exact setR_full _ _ (by simp[hsz])
 simp only[execOp,hop]
 have hne:¬ (1 * s=0):=by omega
 have hle:¬ (1 * s > 2 ^ 24):=by omega
 simp only[Instr.buildSlice,Sem.run_bind,run_underlying hty,Result.andThen_ok,hso,if_neg hne,if_neg hle,hzr,Sem.run_pure,List.map_toArray,List.map_cons,List.map_nil,hfill,newRow,newObj,Sem.run]
theorem compOd_t {nt sz n:Nat}{x:Operand}(h:compOd nt sz x=some (.t n)):x=.tmp n∧n < nt:=by
 cases x with
 | tmp m =>
  simp only[compOd] at h
  split at h
  ·rename_i hl;cases h;exact⟨rfl,hl⟩
  ·cases h
 | const v=>simp only[compOd] at h;split at h<;>simp at h
 | func f=>simp [compOd] at h
 | global g=>simp [compOd] at h
theorem argsOd_cons {nt:Nat}{ss:List Nat}{l:List Operand}{c:COd}{cs:List COd}(h:argsOd nt ss l=some (c :: cs)):∃ s ss' x l',l=x :: l'∧compOd nt s x=some c∧argsOd nt ss' l'=some cs:=by
 cases ss with
 | nil=>cases l<;>simp [argsOd] at h
 | cons s ss =>
  cases l with
  | nil=>simp [argsOd] at h
  | cons x l =>
   simp only[argsOd] at h
   split at h
   ·rename_i c' cs' h1 h2
    simp only[Option.some.injEq,List.cons.injEq] at h
    obtain⟨rfl,rfl⟩:=h
    exact⟨s,ss,x,l,rfl,h1,h2⟩
   ·cases h
theorem argsOd_nil {nt:Nat}{ss:List Nat}{l:List Operand}(h:argsOd nt ss l=some []):l=[]:=by
 cases ss with
 | nil=>cases l<;>simp [argsOd] at h ⊢
 | cons s ss =>
  cases l with
  | nil=>rfl
  | cons x l=>simp only[argsOd] at h;split at h<;>simp at h
theorem argsOd3 {nt a i t:Nat}{ss:List Nat}{l:List Operand}(h:argsOd nt ss l=some [.t a,.t i,.t t]):l=[.tmp a,.tmp i,.tmp t]∧a < nt∧i < nt∧t < nt:=by
 obtain⟨s1,ss1,x1,l1,rfl,h1,h⟩:=argsOd_cons h
 obtain⟨s2,ss2,x2,l2,rfl,h2,h⟩:=argsOd_cons h
 obtain⟨s3,ss3,x3,l3,rfl,h3,h⟩:=argsOd_cons h
 obtain rfl:=argsOd_nil h
 obtain⟨rfl,q1⟩:=compOd_t h1
 obtain⟨rfl,q2⟩:=compOd_t h2
 obtain⟨rfl,q3⟩:=compOd_t h3
 exact⟨rfl,q1,q2,q3⟩
theorem map_er_sc:∀ {lcs:List AL} {xs:List Value},lcs.map er=xs.map (AV.sc:Value→AU)→lcs=xs.map AV.sc
 | [],[],_=>rfl
 | [],_ :: _,h=>by simp at h
 | _ :: _,[],h=>by simp at h
 | c :: lcs,x :: xs,h=>by
  simp only[List.map_cons,List.cons.injEq] at h
  rw[map_er_sc h.2]
  cases c<;>simp [er] at h
  rw[h.1]
  rfl
section
variable {P:Program} {nt:Nat} {L:SL} {ρ:Ren}
theorem RL.ins {K:SL→Prop}{rest:List Sg}{t a i d s f n k:Nat}{v:Value}{xs:List Value}{L1 L2:SL}(LI:Lays2.n21 P ρ)(hf:ρ.f 21=f)(hrun:∀ args w,(callFunc f args).run P w=.ok (.enter f args) w)
  (hs:stpL L (.bs1 t 1 (.t s))=some L1) (hv:(fnL L (100 * s)).2=.sc v) (h1v:v.oneCell'=true) (ha:takeCS L1 (.t a)=some L2) (hX:(fnL L2 (100 * H)).2=.sl true () 1 n (xs.map .sc)) (h1x:∀ x ∈ xs,x.oneCell'=true)
  (ht1:(fnL L2 (100 * t)).2=.sl true () 1 1 [.sc v]) (hi:(fnL L1 (100 * i)).2=.sc (.int .i64 (k:Nat))) (hk:k≤n) (hbig:(n+1) * 8≤140737488355328)
  (h:RL P nt rest (setL (setL (setL L2 (100 * H) (fnL L2 (100 * H)).2) (100 * d) (.sl true () 1 (n+1) ((insAt xs k v).map .sc))) (100 * H) .non) K):RL P nt (.o [.bs1 t 1 (.t s)] :: .call none d f [.t a,.t i,.t t] :: rest) L K:=by
 intro C ops idx hP hn hc a0 w Q hd hr hK
 obtain⟨i1,l1,o1,rfl,ho1,hit1,hl1⟩:=its_cons (it:=.op none (.bs1 t 1 (.t s))) (r:=.call none d f [.t a,.t i,.t t] :: flatS rest) (by simpa [flatS] using hc)
 obtain⟨i2,l2,o2,rfl,ho2,hit2,hl2⟩:=its_cons hl1
 obtain⟨hg1,hc1,_⟩:=itOf_op hit1
 have hgd1:=compGd_none hg1
 have hok1:=compO_ok (C:=C) (o:=o1) (here:=hereOf ops) (by rw[hP,hn];exact hc1) (stpL_ok hs)
 obtain⟨hin1,hnt,hd1,hdl1,ty,x,e,z,hop1,hx,hty,hse,_,_,hz⟩:=compO_bs1 hc1
 obtain⟨rfl,hsl⟩:=compOd_t hx
 subst hP hn
 rw[wpOps_cons]
 -- the new slice
 obtain⟨XL,β,I,rg,he,R,hsz,htm⟩:=hr
 have hrs:a0.eval (.tmp s)=v:=by
  have h1:=R.reg s
  have h2:er (XL (100 * s)).2=.sc v:=by have:=congrFun he (100 * s);simp only[erF] at this;rw[← hv,← this]
  have h3:(XL (100 * s)).2=.sc v:=by
   revert h2
   generalize (XL (100 * s)).2=u
   intro h2
   cases u<;>simp [er] at h2
   rw[h2]
  rw[h3] at h1
  simp only[RR] at h1
  show a0.tmps.getD s undef=v
  rw[htm s hsl,h1]
 have hvc:v.cells=#[v]:=cellsOf_oneCell h1v
 have hexec1:(execOp a0.eval o1).run C.P w=.ok (.value (.slice (some ⟨w.heap.size,0,none⟩) 1 1)) { w with heap:=w.heap.push (.cells #[v] e (0,0)) }:=by
  have:=bs1_exec (ev:=a0.eval) (w:=w) hop1 hty hse (by decide) (by decide) hz (by rw[hrs,hvc];rfl)
  rwa [hrs,hvc] at this
 have hK1:=wp_out (hok1 a0 w hd ⟨XL,β,I,rg,he,R,hsz,htm⟩ (fun a' w'=>a'.defers=[]∧RelT C (fnL L1) a'.tmps w') Q (fun a' w' q1 q2=>⟨q1,q2⟩)) hexec1
 refine wpOp_of ho1 hgd1 (wp_in hexec1 ?_)
 clear hok1 hexec1
 generalize hw1:({ w with heap:=w.heap.push (.cells #[v] e (0,0)) }:World)=w1 at hK1 ⊢
 have hvb:w1.heap[w.heap.size]?=some (.cells #[v] e (0,0)):=by rw[← hw1];simp
 have hput:(a0.put o1.dst (.slice (some ⟨w.heap.size,0,none⟩) 1 1)).tmps.getD t undef=.slice (some ⟨w.heap.size,0,none⟩) 1 1:=by
  simp[Act.put,hd1,Array.getD_eq_getD_getElem?,hsz,hdl1]
 generalize w.heap.size=vb at hvb hput hK1 ⊢
 generalize a0.put o1.dst (.slice (some ⟨vb,0,none⟩) 1 1)=a1 at hK1 hput ⊢
 clear hw1 htm hsz R he hrs
 obtain⟨hd',XL,β,I,rg,he,R,hsz,htm⟩:=hK1
 -- the call
 rw[wpOps_cons]
 obtain⟨h0,e1,e2,e3,xa,ts,ss,hop2,hxs,hcs⟩:=itOf_call hit2
 refine wpOp_of ho2 (compGd_none h0) ?_
 obtain⟨hxa,ha1,hi1,ht1'⟩:=argsOd3 hcs
 have exa:xa=#[.tmp a,.tmp i,.tmp t]:=by cases xa;simp only at hxa;rw[hxa]
 subst exa
 have hcH:=hnt
 obtain⟨XL2,rg2,eX2,R2,K2,e2H,e2r⟩:=takeO_ok R hnt (sz:=0) (x:=.tmp a) (c:=.t a) (by simp[compOd,ha1]) (by rw[he];exact takeCS_ok ha)
 have hX2:(XL2 (100 * H)).2=_:=rfl
 obtain⟨l,lcs,hXl,hlcs⟩:=er_sl (lv:=(XL2 (100 * H)).2) (by have:=congrFun eX2 (100 * H);simp only[erF] at this;have:=congrArg Prod.snd this;simp only at this;rw[this];exact hX)
 have hlc:=map_er_sc hlcs
 subst hlc
 have hit:a1.tmps.getD i undef=.int .i64 (k:Nat):=by
  have h1:=R.reg i
  have h2:er (XL (100 * i)).2=.sc (.int .i64 (k:Nat)):=by have:=congrFun he (100 * i);simp only[erF] at this;rw[← hi,← this]
  have h3:(XL (100 * i)).2=.sc (.int .i64 (k:Nat)):=by
   revert h2
   generalize (XL (100 * i)).2=u
   intro h2
   cases u<;>simp [er] at h2
   rw[h2]
  rw[h3] at h1
  simp only[RR] at h1
  rw[htm i hi1,h1]
 have hat:a1.tmps.getD a undef=rg2 H:=by rw[htm a ha1,e2H];rfl
 have hdl:d < 10000:=by unfold H at hnt;omega
 have hdH:d ≠ H:=by omega
 have hne:∀ l',l=some l'→0 < l'.cap→l'.b ≠ vb:=by
  rintro l' rfl hc0 hb
  have hkm:=(R2.key (100 * H)).mem
  rw[hXl] at hkm
  simp only[Mem] at hkm
  obtain⟨y,hy⟩:=(hkm.2.2.2 trivial).1 0 (by omega)
  rw[hb] at hy
  have ho0:l'.o=0:=by
   simp only[World.at,hvb] at hy
   by_cases h0:l'.o+0=0
   ·omega
   ·rw[Array.getElem?_eq_none (by simp;omega)] at hy;simp at hy
  have hrt:=R2.reg t
  have ht2:er (XL2 (100 * t)).2=.sl true () 1 1 [.sc v]:=by have:=congrFun eX2 (100 * t);simp only[erF] at this;have:=congrArg Prod.snd this;simp only at this;rw[this];exact ht1
  obtain⟨lt,lts,hXt,_⟩:=er_sl (lv:=(XL2 (100 * t)).2) ht2
  rw[hXt] at hrt
  simp only[RR] at hrt
  rw[e2r t (.inl (by omega)),← htm t ht1',hput] at hrt
  cases lt with
  | none =>
   simp only[CR] at hrt
   omega
  | some lt =>
   simp only[CR,Value.slice.injEq,Option.some.injEq,Addr.mk.injEq] at hrt
   refine R2.disj (100 * H) (100 * t) (by omega) vb 0 (.inl ?_) (.inl ?_)
   ·rw[hXl];simp only[fp];exact .inl ⟨hb.symm,by omega,by omega⟩
   ·rw[hXt];simp only[fp];exact .inl ⟨by omega,by omega,by omega⟩
 have hcall:=ins_calls LI rfl R2 hdl (by decide:H < 10000) hdH hXl hk hbig h1x h1v hvb hne
 have hexec:(execOp a1.eval o2).run C.P w1=.ok (.enter f #[rg2 H,.int .i64 (k:Nat),.slice (some ⟨vb,0,none⟩) 1 1]) w1:=by
  simp only[execOp,hop2,resolve,Deferred.ofValue]
  have e1:a1.eval (.tmp a)=rg2 H:=hat
  have e2:a1.eval (.tmp i)=.int .i64 (k:Nat):=hit
  have e3:a1.eval (.tmp t)=.slice (some ⟨vb,0,none⟩) 1 1:=hput
  have e4:a1.eval (.const (.func (.func f) #[] #[]))=.func (.func f) #[] #[]:=rfl
  simp only[Act.eval,Sem.run_bind,Sem.run_pure,Result.andThen_ok,invoke,Array.append_empty,Array.empty_append,hrun,List.map_toArray,List.map_cons,List.map_nil,hat,hit,hput]
 unfold Oper.wp
 rw[hexec,Oper.upon_enter]
 subst hf
 refine Calls.mono hcall fun e w' hq=>?_
 obtain⟨x,XL',rg',rfl,R',eX',hx,hF⟩:=hq
 refine h C ops l2 rfl rfl hl2 _ _ Q (by simp[Act.put,e1,hd']) ⟨XL',β,I,rg',?_,R',by simp[Act.put,e1,hsz],fun t' htl=>?_⟩ hK
 ·rw[eX',eX2,← fnL_set,← fnL_set,← fnL_set]
 ·simp only[Act.put,e1]
  by_cases e:t'=d
  ·subst e;simp[Array.getD_eq_getD_getElem?,hsz,e2];exact hx.symm
  ·rw[hF t' e (by omega),e2r t' (.inl (by omega)),← htm t' htl]
   simp[Array.getD_eq_getD_getElem?,Array.getElem?_setIfInBounds_ne (Ne.symm e)]
end
end Go.OT
