/- Part 8 of the proof: see its last file. -/
import Derived.Orders
import Derived.Below
import Derived.Laws.Entries
import Derived.Laws.Cells
import Derived.Laws.IdiomCopy
import Derived.Scope
import Derived.Calls
import Derived.Laws.Tables
import Derived.Laws.MakeOwn
import Derived.Laws.BytesString
import Derived.ArgAppend
import Derived.WalkSpells
import Derived.Lib.SlBytesConst
import Derived.Lib.ConvBytes
import Derived.Test.YtpdigppbokpdkaaProg
import Derived.KernelRfl
import Derived.IntWalk
import Derived.Lib.Strings
import Derived.Test.YtpdigppbokpdkaaBu07
set_option linter.unusedSimpArgs false
set_option linter.unusedVariables false
/-
  The functions' texts in compiled form (written by wip/tools/GenD.lean).
-/
namespace Go.OT
open Go.Proofs
/- lavabo/lavabolaw13.told -/
def c17_0 : Cd := (.seq (.reg [3, 4, 5, 7, 9, 10, 13, 15, 17, 69, 70, 71, 72, 73, 74, 75, 76, 77, 78, 79, 80, 81, 82, 83, 84, 85, 86, 87, 88, 89, 90, 91, 92, 93, 94, 95, 96, 97, 98, 99, 100, 101, 102, 103, 104, 105, 106, 107, 108, 109, 110, 111, 112, 113, 114, 115, 116, 117, 118, 119, 120, 121, 122, 123, 124, 125, 126, 127, 128, 129, 130, 131, 132, 133, 134, 135, 136, 137, 138, 139, 140, 141, 142, 143, 144, 145, 146, 147, 148, 149, 150, 151, 152, 153, 154, 155, 156, 157, 158] [.o [.faddr 69 0 (.t 3), .ld 70 1 false (.t 69), .bin 71 .eql (.t 70) (cI 0), .mov 72 (.t 71)], .g 72 true [.faddr 73 1 (.t 3), .ld 74 1 false (.t 73), .bin 75 .eql (.t 74) (cI 0)], .o [.pick 76 (.t 72) (.t 75) (cB false), .mov 77 (.t 76)], .g 77 true [.faddr 78 2 (.t 3), .ld 79 1 false (.t 78), .bin 80 .eql (.t 79) (cI 0)], .o [.pick 81 (.t 77) (.t 80) (cB false), .mov 82 (.t 81)], .g 82 true [.faddr 83 0 (.t 5), .ld 84 1 false (.t 83), .bin 85 .eql (.t 84) (cI 0)], .o [.pick 86 (.t 82) (.t 85) (cB false), .mov 87 (.t 86)], .g 87 true [.faddr 88 0 (.t 7), .ld 89 1 false (.t 88), .bin 90 .eql (.t 89) (cI 0)], .o [.pick 91 (.t 87) (.t 90) (cB false), .mov 92 (.t 91)], .g 92 true [.faddr 93 3 (.t 7), .ld 94 1 false (.t 93), .b2s 95 (.t 94), .bin 96 .eql (.t 95) (.c (.sc (.string ⟨#[0, 120, 121]⟩)))], .o [.pick 97 (.t 92) (.t 96) (cB false), .mov 98 (.t 97)], .g 98 true [.faddr 99 0 (.t 9), .ld 100 1 false (.t 99), .bin 101 .eql (.t 100) (cI 7)], .o [.pick 102 (.t 98) (.t 101) (cB false), .mov 103 (.t 102)], .g 103 true [.faddr 104 0 (.t 13), .ld 105 1 false (.t 104), .bin 106 .eql (.t 105) (cI 5)], .o [.pick 107 (.t 103) (.t 106) (cB false), .mov 108 (.t 107)], .g 108 true [.faddr 109 0 (.t 15), .ld 110 1 false (.t 109), .bin 111 .eql (.t 110) (cI 2)], .o [.pick 112 (.t 108) (.t 111) (cB false), .mov 113 (.t 112)], .g 113 true [.faddr 114 0 (.t 17), .ld 115 1 false (.t 114), .bin 116 .eql (.t 115) (cI 1)], .o [.pick 117 (.t 113) (.t 116) (cB false), .mov 118 (.t 117)], .g 118 true [.ld 119 3 true (.t 10)], .call (some (118, true)) 120 22 [(.t 119)], .o [.pick 121 (.t 118) (.t 120) (cB false), .mov 122 (.t 121)], .g 122 true [.ld 123 3 true (.t 4)], .call (some (122, true)) 124 29 [(.t 123), (cI 0)], .g 122 true [.bin 125 .eql (.t 124) (cI 1)], .o [.pick 126 (.t 122) (.t 125) (cB false), .mov 127 (.t 126)], .g 127 true [.ld 128 3 true (.t 10)], .call (some (127, true)) 129 29 [(.t 128), (cI 0)], .g 127 true [.bin 130 .eql (.t 129) (cI 0)], .o [.pick 131 (.t 127) (.t 130) (cB false), .mov 132 (.t 131)], .g 132 true [.ld 133 3 true (.t 10), .ld 134 3 true (.t 10)], .call (some (132, true)) 135 23 [(.t 133), (.t 134)], .o [.pick 136 (.t 132) (.t 135) (cB false), .mov 137 (.t 136)], .g 137 true [.ld 138 3 true (.t 4), .ld 139 3 true (.t 10)], .call (some (137, true)) 140 23 [(.t 138), (.t 139)], .g 137 true [.un 141 .not (.t 140)], .o [.pick 142 (.t 137) (.t 141) (cB false), .mov 143 (.t 142)], .call (some (143, true)) 144 18 [(cI 0), (cI 1)], .g 143 true [.fld 145 0 (.t 144), .len 146 (.t 145), .bin 147 .eql (.t 146) (cI 0)], .o [.pick 148 (.t 143) (.t 147) (cB false), .mov 149 (.t 148)], .g 149 true [.build 150 [(.sc (.slice none 0 0)), (.sc (.slice none 0 0)), (.sc (.slice none 0 0))] []], .call (some (149, true)) 151 22 [(.t 150)], .g 149 true [.un 152 .not (.t 151)], .o [.pick 153 (.t 149) (.t 152) (cB false), .mov 154 (.t 153)], .g 154 true [.ld 155 4 true (.t 3), .ld 156 4 true (.t 3)], .call (some (154, true)) 157 31 [(.t 155), (.t 156)], .o [.pick 158 (.t 154) (.t 157) (cB false), .asg 0 (.t 158)]]) .ret)
def c17_1 : Cd := (.seq (.reg [64, 65, 66, 63, 67, 68, 16] [.o [.ld 64 3 true (.t 10), .build 65 [(.sc (.int .i64 0)), (.sc (.int .i64 0)), (.sc (.int .i64 0)), (.sc (.int .i64 0)), (.sc (.int .i64 0)), (.sc (.slice none 0 0))] [(0, 1, (cI 9))]], .call none 66 19 [(.t 64), (cI 0), (.t 65)], .o [.mov 63 (.t 66), .ext 67 63 0, .ext 68 63 1, .alloc 16 [(.sl true () 1 0 []), (.sl true () 1 0 []), (.sl true () 1 0 [])], .alloc 17 [(.sc (.int .i64 0)), (.sc (.int .i64 0)), (.sc (.int .i64 0)), (.sl true () 1 0 [])], .st 3 (.t 16) (.t 67), .st 4 (.t 17) (.t 68)]]) c17_0)
def c17_2 : Cd := (.seq (.reg [58, 59, 60, 57, 61, 62, 14] [.o [.ld 58 3 true (.t 10), .build 59 [(.sc (.int .i64 0)), (.sc (.int .i64 0)), (.sc (.int .i64 0)), (.sc (.int .i64 0)), (.sc (.int .i64 0)), (.sc (.slice none 0 0))] [(0, 1, (cI 2)), (1, 1, (cI 1))]], .call none 60 19 [(.t 58), (cI 0), (.t 59)], .o [.mov 57 (.t 60), .ext 61 57 0, .ext 62 57 1, .alloc 14 [(.sl true () 1 0 []), (.sl true () 1 0 []), (.sl true () 1 0 [])], .alloc 15 [(.sc (.int .i64 0)), (.sc (.int .i64 0)), (.sc (.int .i64 0)), (.sl true () 1 0 [])], .st 3 (.t 14) (.t 61), .st 4 (.t 15) (.t 62)]]) c17_1)
def c17_3 : Cd := (.seq (.reg [52, 53, 54, 51, 55, 56, 12] [.o [.ld 52 3 true (.t 10), .build 53 [(.sc (.int .i64 0)), (.sc (.int .i64 0)), (.sc (.int .i64 0)), (.sc (.int .i64 0)), (.sc (.int .i64 0)), (.sc (.slice none 0 0))] [(0, 1, (cI 3))]], .call none 54 19 [(.t 52), (cI 0), (.t 53)], .o [.mov 51 (.t 54), .ext 55 51 0, .ext 56 51 1, .alloc 12 [(.sl true () 1 0 []), (.sl true () 1 0 []), (.sl true () 1 0 [])], .alloc 13 [(.sc (.int .i64 0)), (.sc (.int .i64 0)), (.sc (.int .i64 0)), (.sl true () 1 0 [])], .st 3 (.t 12) (.t 55), .st 4 (.t 13) (.t 56)]]) c17_2)
def c17_4 : Cd := (.seq (.reg [46, 47, 48, 45, 49, 50, 11] [.o [.ld 46 3 true (.t 4), .build 47 [(.sc (.int .i64 0)), (.sc (.int .i64 0)), (.sc (.int .i64 0)), (.sc (.int .i64 0)), (.sc (.int .i64 0)), (.sc (.slice none 0 0))] [(0, 1, (cI 5))]], .call none 48 19 [(.t 46), (cI 0), (.t 47)], .o [.mov 45 (.t 48), .ext 49 45 0, .ext 50 45 1, .alloc 10 [(.sl true () 1 0 []), (.sl true () 1 0 []), (.sl true () 1 0 [])], .alloc 11 [(.sc (.int .i64 0)), (.sc (.int .i64 0)), (.sc (.int .i64 0)), (.sl true () 1 0 [])], .st 3 (.t 10) (.t 49), .st 4 (.t 11) (.t 50)]]) c17_3)
def c17_5 : Cd := (.seq (.reg [40, 41, 42, 39, 43, 44, 8] [.o [.ld 40 3 true (.t 4), .build 41 [(.sc (.int .i64 0)), (.sc (.int .i64 0)), (.sc (.int .i64 0)), (.sc (.int .i64 0)), (.sc (.int .i64 0)), (.sc (.slice none 0 0))] [(0, 1, (cI 8))]], .call none 42 19 [(.t 40), (cI 0), (.t 41)], .o [.mov 39 (.t 42), .ext 43 39 0, .ext 44 39 1, .alloc 8 [(.sl true () 1 0 []), (.sl true () 1 0 []), (.sl true () 1 0 [])], .alloc 9 [(.sc (.int .i64 0)), (.sc (.int .i64 0)), (.sc (.int .i64 0)), (.sl true () 1 0 [])], .st 3 (.t 8) (.t 43), .st 4 (.t 9) (.t 44)]]) c17_4)
def c17_6 : Cd := (.seq (.reg [34, 35, 36, 33, 37, 38, 6] [.o [.ld 34 3 true (.t 4), .build 35 [(.sc (.int .i64 0)), (.sc (.int .i64 0)), (.sc (.int .i64 0)), (.sc (.int .i64 0)), (.sc (.int .i64 0)), (.sc (.slice none 0 0))] [(0, 1, (cI 3)), (3, 1, (cI 13)), (4, 1, (cI 3))]], .call none 36 19 [(.t 34), (cI 0), (.t 35)], .o [.mov 33 (.t 36), .ext 37 33 0, .ext 38 33 1, .alloc 6 [(.sl true () 1 0 []), (.sl true () 1 0 []), (.sl true () 1 0 [])], .alloc 7 [(.sc (.int .i64 0)), (.sc (.int .i64 0)), (.sc (.int .i64 0)), (.sl true () 1 0 [])], .st 3 (.t 6) (.t 37), .st 4 (.t 7) (.t 38)]]) c17_5)
def c17_7 : Cd := (.seq (.reg [2, 26, 27, 28, 29, 30, 25, 31, 32] [.o [.ld 26 3 true (.t 2), .bsn 27 [(.c (.sc (.int .u8 120))), (.c (.sc (.int .u8 121)))], .cvb 28 27, .build 29 [(.sc (.int .i64 0)), (.sc (.int .i64 0)), (.sc (.int .i64 0)), (.sc (.int .i64 0)), (.sc (.int .i64 0)), (.sc (.slice none 0 0))] [(0, 1, (cI 4)), (3, 1, (cI 14)), (5, 1, (.t 28))]], .call none 30 19 [(.t 26), (cI 0), (.t 29)], .o [.mov 25 (.t 30), .ext 31 25 0, .ext 32 25 1, .alloc 4 [(.sl true () 1 0 []), (.sl true () 1 0 []), (.sl true () 1 0 [])], .alloc 5 [(.sc (.int .i64 0)), (.sc (.int .i64 0)), (.sc (.int .i64 0)), (.sl true () 1 0 [])], .st 3 (.t 4) (.t 31), .st 4 (.t 5) (.t 32)]]) c17_6)
def c17_8 : Cd := (.seq (.reg [1, 20, 21, 22, 19, 23, 24] [.o [.ld 20 3 true (.t 1), .build 21 [(.sc (.int .i64 0)), (.sc (.int .i64 0)), (.sc (.int .i64 0)), (.sc (.int .i64 0)), (.sc (.int .i64 0)), (.sc (.slice none 0 0))] [(0, 1, (cI 1))]], .call none 22 19 [(.t 20), (cI 0), (.t 21)], .o [.mov 19 (.t 22), .ext 23 19 0, .ext 24 19 1, .alloc 2 [(.sl true () 1 0 []), (.sl true () 1 0 []), (.sl true () 1 0 [])], .alloc 3 [(.sc (.int .i64 0)), (.sc (.int .i64 0)), (.sc (.int .i64 0)), (.sl true () 1 0 [])], .st 3 (.t 2) (.t 23), .st 4 (.t 3) (.t 24)]]) c17_7)
def c17_9 : Cd := (.seq (.reg [18] [.call none 18 18 [(cI 2), (cI 1)], .o [.alloc 1 [(.sl true () 1 0 []), (.sl true () 1 0 []), (.sl true () 1 0 [])], .st 3 (.t 1) (.t 18)]]) c17_8)
def fi17 : FI := ⟨159, 0, [.t 0], (.seq (.reg [0] [.o [.asg 0 (cB false)]]) c17_9)⟩
theorem ok17 : fiOk Try.prog 17 fi17 := ⟨_, _, Try.func17, rfl, by kernel_rfl, by kernel_rfl, Try.call17⟩
/- lavabo/lavabolaw13.ModelOwn -/
def c5_0 : Cd := (.seq (.reg [0, 14, 15] [.call none 15 17 [], .o [.asg 2 (.t 15)]]) .ret)
def c5_1 : Cd := (.cond (.t 14) c5_0 .skip)
def c5_2 : Cd := (.seq (.reg [0, 3, 4, 7, 86] [.o [.asg 2 (cB false)]]) .ret)
def c5_3 : Cd := (.cond (.t 86) c5_2 .skip)
def c5_4 : Cd := (.seq (.reg [0, 4, 128] [.o [.asg 2 (cB false)]]) .ret)
def c5_5 : Cd := (.cond (.t 128) c5_4 .skip)
def c5_6 : Cd := (.seq (.reg [10, 11, 139, 140, 141, 142, 143, 144, 145, 146, 147] [.call none 139 17 [], .o [.mov 140 (.t 139)], .g 140 true [.faddr 141 3 (.t 10), .ld 142 1 false (.t 141), .b2s 143 (.t 142), .mov 144 (.t 11), .b2s 145 (.t 144), .bin 146 .eql (.t 143) (.t 145)], .o [.pick 147 (.t 140) (.t 146) (cB false), .asg 2 (.t 147)]]) .ret)
def c5_7 : Cd := (.seq (.reg [0, 136, 137, 138] [.o [.mov 136 (.t 11), .mov 137 (.t 0), .cpy 138 1 (.t 136) (.t 137)]]) c5_6)
def c5_8 : Cd := (.seq (.reg [135] [.o [.make 135 1 1 [(.sc (.int .u8 0))] (cI 16) (cI 16), .asg 11 (.t 135)]]) c5_7)
def c5_9 : Cd := (.seq (.reg [4, 128, 130, 131, 132, 129, 133, 134, 9] [.o [.ld 130 3 true (.t 4), .build 131 [(.sc (.int .i64 0)), (.sc (.int .i64 0)), (.sc (.int .i64 0)), (.sc (.int .i64 0)), (.sc (.int .i64 0)), (.sc (.slice none 0 0))] [(0, 1, (cI 3)), (4, 1, (cI 16))]], .call none 132 19 [(.t 130), (cI 0), (.t 131)], .o [.mov 129 (.t 132), .ext 133 129 0, .ext 134 129 1, .alloc 9 [(.sl true () 1 0 []), (.sl true () 1 0 []), (.sl true () 1 0 [])], .alloc 10 [(.sc (.int .i64 0)), (.sc (.int .i64 0)), (.sc (.int .i64 0)), (.sl true () 1 0 [])], .st 3 (.t 9) (.t 133), .st 4 (.t 10) (.t 134)]]) c5_8)
def c5_10 : Cd := (.seq (.seq (.reg [8, 115, 116, 117, 118, 119, 120, 121, 122, 123, 124, 125, 126, 127] [.o [.faddr 115 1 (.t 4), .ld 116 1 false (.t 115), .iaddr 117 1 (.t 116) (cI 0), .ld 118 1 false (.t 117), .b2s 119 (.t 118), .mov 120 (.t 8), .bin 121 .neq (.t 119) (.t 120), .mov 122 (.t 121)], .g 122 false [.faddr 123 0 (.t 4), .ld 124 1 false (.t 123), .iaddr 125 1 (.t 124) (cI 0), .ld 126 1 false (.t 125), .un 127 .not (.t 126)], .o [.pick 128 (.t 122) (cB true) (.t 127)]]) c5_5) c5_9)
def c5_11 : Cd := (.seq (.reg [3, 112, 113, 114] [.o [.faddr 112 0 (.t 3), .ld 113 1 false (.t 112), .iaddr 114 1 (.t 113) (cI 0), .st 1 (.t 114) (cB false)]]) c5_10)
def c5_12 : Cd := (.seq (.draw [[], [0], [1], [2], [], [4], [5], [6], [7], [8], [9], [3, 0, 1, 2, 3, 4, 5, 6, 7, 8, 9, 10], [11, 10, 0, 1, 2, 3, 4, 5, 6, 7, 8, 9, 10]] [100, 101, 102, 103, 104, 105, 106, 107, 108, 109, 110, 111] [.o [.faddr 100 1 (.t 3), .ld 101 1 false (.t 100), .iaddr 102 1 (.t 101) (cI 0), .ld 103 1 false (.t 102), .faddr 104 1 (.t 3), .ld 105 1 false (.t 104), .iaddr 106 1 (.t 105) (cI 0), .ld 107 1 false (.t 106), .iaddr 108 1 (.t 107) (cI 1), .ld 109 1 false (.t 108), .bin 110 .xor (.t 109) (.c (.sc (.int .u8 1))), .iaddr 111 1 (.t 103) (cI 1), .st 1 (.t 111) (.t 110)]]) c5_11)
def c5_13 : Cd := (.seq (.draw [[], [0], [], [2], [3], [4], [5], [1, 0, 1, 2, 3, 4, 5, 6], [7, 6, 0, 1, 2, 3, 4, 5, 6]] [7, 92, 93, 94, 95, 96, 97, 98, 99] [.o [.faddr 92 3 (.t 7), .ld 93 1 false (.t 92), .faddr 94 3 (.t 7), .ld 95 1 false (.t 94), .iaddr 96 1 (.t 95) (cI 0), .ld 97 1 false (.t 96), .bin 98 .xor (.t 97) (.c (.sc (.int .u8 1))), .iaddr 99 1 (.t 93) (cI 0), .st 1 (.t 99) (.t 98)]]) c5_12)
def c5_14 : Cd := (.seq (.reg [86, 87, 88, 89, 90, 91] [.o [.faddr 87 1 (.t 4), .ld 88 1 false (.t 87), .iaddr 89 1 (.t 88) (cI 0), .ld 90 1 false (.t 89), .b2s 91 (.t 90), .asg 8 (.t 91)]]) c5_13)
def c5_15 : Cd := (.seq (.seq (.reg [5, 36, 37, 38, 39, 40, 41, 42, 43, 44, 45, 46, 47, 48, 49, 50, 51, 52, 53, 54, 55, 56, 57, 58, 59, 60, 61, 62, 63, 64, 65, 66, 67, 68, 69, 70, 71, 72, 73, 74, 75, 76, 77, 78, 79, 80, 81, 82, 83, 84, 85] [.o [.faddr 36 0 (.t 5), .ld 37 1 false (.t 36), .bin 38 .neq (.t 37) (cI 0), .mov 39 (.t 38)], .g 39 false [.faddr 40 3 (.t 7), .ld 41 1 false (.t 40), .len 42 (.t 41), .bin 43 .neq (.t 42) (cI 16)], .o [.pick 44 (.t 39) (cB true) (.t 43), .mov 45 (.t 44)], .g 45 false [.faddr 46 1 (.t 4), .ld 47 1 false (.t 46), .len 48 (.t 47), .bin 49 .neq (.t 48) (cI 2)], .o [.pick 50 (.t 45) (cB true) (.t 49), .mov 51 (.t 50)], .g 51 false [.faddr 52 1 (.t 4), .ld 53 1 false (.t 52), .iaddr 54 1 (.t 53) (cI 0), .ld 55 1 false (.t 54), .len 56 (.t 55), .bin 57 .neq (.t 56) (cI 16)], .o [.pick 58 (.t 51) (cB true) (.t 57), .mov 59 (.t 58)], .g 59 false [.faddr 60 1 (.t 3), .ld 61 1 false (.t 60), .len 62 (.t 61), .bin 63 .neq (.t 62) (cI 2)], .o [.pick 64 (.t 59) (cB true) (.t 63), .mov 65 (.t 64)], .g 65 false [.faddr 66 1 (.t 3), .ld 67 1 false (.t 66), .iaddr 68 1 (.t 67) (cI 0), .ld 69 1 false (.t 68), .len 70 (.t 69), .bin 71 .neq (.t 70) (cI 16)], .o [.pick 72 (.t 65) (cB true) (.t 71), .mov 73 (.t 72)], .g 73 false [.faddr 74 2 (.t 4), .ld 75 1 false (.t 74), .len 76 (.t 75), .bin 77 .neq (.t 76) (cI 1)], .o [.pick 78 (.t 73) (cB true) (.t 77), .mov 79 (.t 78)], .g 79 false [.faddr 80 2 (.t 4), .ld 81 1 false (.t 80), .iaddr 82 1 (.t 81) (cI 0), .ld 83 1 false (.t 82), .len 84 (.t 83), .bin 85 .neq (.t 84) (cI 6)], .o [.pick 86 (.t 79) (cB true) (.t 85)]]) c5_3) c5_14)
def c5_16 : Cd := (.seq (.reg [31, 32, 33, 30, 34, 35, 6] [.o [.ld 31 3 true (.t 4), .build 32 [(.sc (.int .i64 0)), (.sc (.int .i64 0)), (.sc (.int .i64 0)), (.sc (.int .i64 0)), (.sc (.int .i64 0)), (.sc (.slice none 0 0))] [(0, 1, (cI 3)), (4, 1, (cI 16))]], .call none 33 19 [(.t 31), (cI 0), (.t 32)], .o [.mov 30 (.t 33), .ext 34 30 0, .ext 35 30 1, .alloc 6 [(.sl true () 1 0 []), (.sl true () 1 0 []), (.sl true () 1 0 [])], .alloc 7 [(.sc (.int .i64 0)), (.sc (.int .i64 0)), (.sc (.int .i64 0)), (.sl true () 1 0 [])], .st 3 (.t 6) (.t 34), .st 4 (.t 7) (.t 35)]]) c5_15)
def c5_17 : Cd := (.seq (.reg [24, 25, 26, 27, 23, 28, 29] [.o [.ld 24 3 true (.t 3), .mov 25 (.t 0), .build 26 [(.sc (.int .i64 0)), (.sc (.int .i64 0)), (.sc (.int .i64 0)), (.sc (.int .i64 0)), (.sc (.int .i64 0)), (.sc (.slice none 0 0))] [(0, 1, (cI 4)), (5, 1, (.t 25))]], .call none 27 19 [(.t 24), (cI 0), (.t 26)], .o [.mov 23 (.t 27), .ext 28 23 0, .ext 29 23 1, .alloc 4 [(.sl true () 1 0 []), (.sl true () 1 0 []), (.sl true () 1 0 [])], .alloc 5 [(.sc (.int .i64 0)), (.sc (.int .i64 0)), (.sc (.int .i64 0)), (.sl true () 1 0 [])], .st 3 (.t 4) (.t 28), .st 4 (.t 5) (.t 29)]]) c5_16)
def c5_18 : Cd := (.seq (.reg [18, 19, 20, 17, 21, 22] [.o [.ld 18 3 true (.t 3), .build 19 [(.sc (.int .i64 0)), (.sc (.int .i64 0)), (.sc (.int .i64 0)), (.sc (.int .i64 0)), (.sc (.int .i64 0)), (.sc (.slice none 0 0))] [(0, 1, (cI 1))]], .call none 20 19 [(.t 18), (cI 0), (.t 19)], .o [.mov 17 (.t 20), .ext 21 17 0, .ext 22 17 1, .st 3 (.t 3) (.t 21)]]) c5_17)
def c5_19 : Cd := (.seq (.reg [14, 16] [.call none 16 18 [(cI 2), (cI 1)], .o [.alloc 3 [(.sl true () 1 0 []), (.sl true () 1 0 []), (.sl true () 1 0 [])], .st 3 (.t 3) (.t 16)]]) c5_18)
def c5_20 : Cd := (.seq (.seq (.reg [12, 13] [.o [.mov 12 (.t 0), .len 13 (.t 12), .bin 14 .gtr (.t 13) (cI 16)]]) c5_1) c5_19)
def fi5 : FI := ⟨148, 1, [.t 2], (.seq (.reg [2] [.o [.asg 2 (cB false)]]) c5_20)⟩
theorem ok5 : fiOk Try.prog 5 fi5 := ⟨_, _, Try.func5, rfl, by kernel_rfl, by kernel_rfl, Try.call5⟩
/- lavabo/lavabolaw13.ModelReads -/
def c8_0 : Cd := (.seq (.reg [0, 1, 2, 3, 23, 24] [.call none 24 17 [], .o [.asg 8 (.t 24)]]) .ret)
def c8_1 : Cd := (.cond (.t 23) c8_0 .skip)
def c8_2 : Cd := (.seq (.draw [[], [0, 0], [1], [2, 1], [3, 1], [1, 4], [5, 1], [6], [7, 6], [8, 6], [6, 9], [10, 6], [11], [12, 11], [13, 11], [11], [11], [11], [11], [17, 18, 11], [15, 16, 19, 11], [20, 11], [14, 21, 11], [11, 22], [23, 11], [24], [25, 24], [26, 24], [24, 27], [28, 24], [29], [30, 29], [31, 29], [29, 32], [33, 29], [34], [35, 34], [36, 34], [34, 37], [38, 34], [39], [40, 39], [41, 39], [39], [43, 39], [42, 44, 39], [39, 45], [46, 39, 0, 1, 2, 3, 4, 5, 6, 7, 8, 9, 10, 11, 12, 13, 14, 15, 16, 17, 18, 19, 20, 21, 22, 23, 24, 25, 26, 27, 28, 29, 30, 31, 32, 33, 34, 35, 36, 37, 38, 39, 40, 41, 42, 43, 44, 45, 46]] [11, 12, 13, 15, 16, 17, 18, 20, 111, 112, 113, 114, 115, 116, 117, 118, 119, 120, 121, 122, 123, 124, 125, 126, 127, 128, 129, 130, 131, 132, 133, 134, 135, 136, 137, 138, 139, 140, 141, 142, 143, 144, 145, 146, 147, 148, 149, 150, 151, 152, 153, 154, 155, 156, 157] [.call none 111 17 [], .o [.mov 112 (.t 111)], .g 112 true [.faddr 113 0 (.t 11), .ld 114 1 false (.t 113), .bin 115 .eql (.t 114) (cI 0)], .o [.pick 116 (.t 112) (.t 115) (cB false), .mov 117 (.t 116)], .g 117 true [.faddr 118 0 (.t 15), .ld 119 1 false (.t 118), .bin 120 .eql (.t 119) (cI 0)], .o [.pick 121 (.t 117) (.t 120) (cB false), .mov 122 (.t 121)], .g 122 true [.faddr 123 3 (.t 15), .ld 124 1 false (.t 123), .b2s 125 (.t 124), .mov 126 (.t 16), .mov 127 (.t 12), .mov 128 (.t 12), .mov 129 (.t 13), .bin 130 .add (.t 128) (.t 129), .slice 131 1 (.t 126) (some (.t 127)) (some (.t 130)), .b2s 132 (.t 131), .bin 133 .eql (.t 125) (.t 132)], .o [.pick 134 (.t 122) (.t 133) (cB false), .mov 135 (.t 134)], .g 135 true [.faddr 136 0 (.t 17), .ld 137 1 false (.t 136), .bin 138 .eql (.t 137) (cI 0)], .o [.pick 139 (.t 135) (.t 138) (cB false), .mov 140 (.t 139)], .g 140 true [.faddr 141 0 (.t 18), .ld 142 1 false (.t 141), .bin 143 .eql (.t 142) (cI 0)], .o [.pick 144 (.t 140) (.t 143) (cB false), .mov 145 (.t 144)], .g 145 true [.faddr 146 1 (.t 18), .ld 147 1 false (.t 146), .bin 148 .eql (.t 147) (cI 0)], .o [.pick 149 (.t 145) (.t 148) (cB false), .mov 150 (.t 149)], .g 150 true [.faddr 151 3 (.t 20), .ld 152 1 false (.t 151), .b2s 153 (.t 152), .make 154 1 1 [(.sc (.int .u8 0))] (cI 16) (cI 16), .b2s 155 (.t 154), .bin 156 .eql (.t 153) (.t 155)], .o [.pick 157 (.t 150) (.t 156) (cB false), .asg 8 (.t 157)]]) .ret)
def c8_3 : Cd := (.seq (.reg [9, 106, 107, 108, 105, 109, 110, 19] [.o [.ld 106 3 true (.t 9), .build 107 [(.sc (.int .i64 0)), (.sc (.int .i64 0)), (.sc (.int .i64 0)), (.sc (.int .i64 0)), (.sc (.int .i64 0)), (.sc (.slice none 0 0))] [(0, 1, (cI 3)), (4, 1, (cI 16))]], .call none 108 19 [(.t 106), (cI 0), (.t 107)], .o [.mov 105 (.t 108), .ext 109 105 0, .ext 110 105 1, .alloc 19 [(.sl true () 1 0 []), (.sl true () 1 0 []), (.sl true () 1 0 [])], .alloc 20 [(.sc (.int .i64 0)), (.sc (.int .i64 0)), (.sc (.int .i64 0)), (.sl true () 1 0 [])], .st 3 (.t 19) (.t 109), .st 4 (.t 20) (.t 110)]]) c8_2)
def c8_4 : Cd := (.seq (.reg [100, 101, 102, 99, 103, 104] [.o [.ld 100 3 true (.t 9), .build 101 [(.sc (.int .i64 0)), (.sc (.int .i64 0)), (.sc (.int .i64 0)), (.sc (.int .i64 0)), (.sc (.int .i64 0)), (.sc (.slice none 0 0))] [(0, 1, (cI 1))]], .call none 102 19 [(.t 100), (cI 0), (.t 101)], .o [.mov 99 (.t 102), .ext 103 99 0, .ext 104 99 1, .alloc 18 [(.sc (.int .i64 0)), (.sc (.int .i64 0)), (.sc (.int .i64 0)), (.sl true () 1 0 [])], .st 3 (.t 9) (.t 103), .st 4 (.t 18) (.t 104)]]) c8_3)
def c8_5 : Cd := (.seq (.reg [94, 95, 96, 93, 97, 98] [.o [.ld 94 3 true (.t 9), .build 95 [(.sc (.int .i64 0)), (.sc (.int .i64 0)), (.sc (.int .i64 0)), (.sc (.int .i64 0)), (.sc (.int .i64 0)), (.sc (.slice none 0 0))] [(0, 1, (cI 8))]], .call none 96 19 [(.t 94), (cI 0), (.t 95)], .o [.mov 93 (.t 96), .ext 97 93 0, .ext 98 93 1, .alloc 17 [(.sc (.int .i64 0)), (.sc (.int .i64 0)), (.sc (.int .i64 0)), (.sl true () 1 0 [])], .st 3 (.t 9) (.t 97), .st 4 (.t 17) (.t 98)]]) c8_4)
def c8_6 : Cd := (.seq (.reg [88, 89, 90, 87, 91, 92] [.o [.ld 88 3 true (.t 9), .build 89 [(.sc (.int .i64 0)), (.sc (.int .i64 0)), (.sc (.int .i64 0)), (.sc (.int .i64 0)), (.sc (.int .i64 0)), (.sc (.slice none 0 0))] [(0, 1, (cI 5))]], .call none 90 19 [(.t 88), (cI 1), (.t 89)], .o [.mov 87 (.t 90), .ext 91 87 0, .ext 92 87 1, .st 3 (.t 9) (.t 91)]]) c8_5)
def c8_7 : Cd := (.seq (.reg [82, 83, 84, 81, 85, 86] [.o [.ld 82 3 true (.t 9), .build 83 [(.sc (.int .i64 0)), (.sc (.int .i64 0)), (.sc (.int .i64 0)), (.sc (.int .i64 0)), (.sc (.int .i64 0)), (.sc (.slice none 0 0))] [(0, 1, (cI 5))]], .call none 84 19 [(.t 82), (cI 0), (.t 83)], .o [.mov 81 (.t 84), .ext 85 81 0, .ext 86 81 1, .st 3 (.t 9) (.t 85)]]) c8_6)
def c8_8 : Cd := (.seq (.reg [1, 10, 76, 77, 78, 79, 80] [.o [.mov 76 (.t 16), .mov 77 (.t 10), .slice 78 1 (.t 76) (some (.t 77)) none, .mov 79 (.t 1), .cpy 80 1 (.t 78) (.t 79)]]) c8_7)
def c8_9 : Cd := (.seq (.reg [75] [.o [.make 75 1 1 [(.sc (.int .u8 0))] (cI 16) (cI 16), .asg 16 (.t 75)]]) c8_8)
def c8_10 : Cd := (.seq (.reg [68, 69, 70, 71, 72, 67, 73, 74, 14] [.o [.ld 68 3 true (.t 9), .mov 69 (.t 12), .mov 70 (.t 13), .build 71 [(.sc (.int .i64 0)), (.sc (.int .i64 0)), (.sc (.int .i64 0)), (.sc (.int .i64 0)), (.sc (.int .i64 0)), (.sc (.slice none 0 0))] [(0, 1, (cI 3)), (3, 1, (.t 69)), (4, 1, (.t 70))]], .call none 72 19 [(.t 68), (cI 1), (.t 71)], .o [.mov 67 (.t 72), .ext 73 67 0, .ext 74 67 1, .alloc 14 [(.sl true () 1 0 []), (.sl true () 1 0 []), (.sl true () 1 0 [])], .alloc 15 [(.sc (.int .i64 0)), (.sc (.int .i64 0)), (.sc (.int .i64 0)), (.sl true () 1 0 [])], .st 3 (.t 14) (.t 73), .st 4 (.t 15) (.t 74)]]) c8_9)
def c8_11 : Cd := (.seq (.reg [3, 59, 60, 61, 62, 63, 64, 65, 66] [.o [.mov 59 (.t 3), .conv 60 .u64 (.t 59), .mov 61 (.t 12), .bin 62 .sub (cI 16) (.t 61), .bin 63 .add (.t 62) (cI 1), .conv 64 .u64 (.t 63), .bin 65 .rem (.t 60) (.t 64), .conv 66 .i64 (.t 65), .asg 13 (.t 66)]]) c8_10)
def c8_12 : Cd := (.seq (.reg [2, 55, 56, 57, 58] [.o [.mov 55 (.t 2), .conv 56 .u64 (.t 55), .bin 57 .rem (.t 56) (.c (.sc (.int .u64 17))), .conv 58 .i64 (.t 57), .asg 12 (.t 58)]]) c8_11)
def c8_13 : Cd := (.seq (.reg [48, 49, 50, 51, 52, 47, 53, 54] [.o [.ld 48 3 true (.t 9), .mov 49 (.t 10), .mov 50 (.t 1), .build 51 [(.sc (.int .i64 0)), (.sc (.int .i64 0)), (.sc (.int .i64 0)), (.sc (.int .i64 0)), (.sc (.int .i64 0)), (.sc (.slice none 0 0))] [(0, 1, (cI 4)), (3, 1, (.t 49)), (5, 1, (.t 50))]], .call none 52 19 [(.t 48), (cI 0), (.t 51)], .o [.mov 47 (.t 52), .ext 53 47 0, .ext 54 47 1, .alloc 11 [(.sc (.int .i64 0)), (.sc (.int .i64 0)), (.sc (.int .i64 0)), (.sl true () 1 0 [])], .st 3 (.t 9) (.t 53), .st 4 (.t 11) (.t 54)]]) c8_12)
def c8_14 : Cd := (.seq (.reg [0, 38, 39, 40, 41, 42, 43, 44, 45, 46] [.o [.mov 38 (.t 0), .conv 39 .u64 (.t 38), .mov 40 (.t 1), .len 41 (.t 40), .bin 42 .sub (cI 16) (.t 41), .bin 43 .add (.t 42) (cI 1), .conv 44 .u64 (.t 43), .bin 45 .rem (.t 39) (.t 44), .conv 46 .i64 (.t 45), .asg 10 (.t 46)]]) c8_13)
def c8_15 : Cd := (.seq (.reg [33, 34, 35, 32, 36, 37] [.o [.ld 33 3 true (.t 9), .build 34 [(.sc (.int .i64 0)), (.sc (.int .i64 0)), (.sc (.int .i64 0)), (.sc (.int .i64 0)), (.sc (.int .i64 0)), (.sc (.slice none 0 0))] [(0, 1, (cI 2))]], .call none 35 19 [(.t 33), (cI 1), (.t 34)], .o [.mov 32 (.t 35), .ext 36 32 0, .ext 37 32 1, .st 3 (.t 9) (.t 36)]]) c8_14)
def c8_16 : Cd := (.seq (.reg [27, 28, 29, 26, 30, 31] [.o [.ld 27 3 true (.t 9), .build 28 [(.sc (.int .i64 0)), (.sc (.int .i64 0)), (.sc (.int .i64 0)), (.sc (.int .i64 0)), (.sc (.int .i64 0)), (.sc (.slice none 0 0))] [(0, 1, (cI 1))]], .call none 29 19 [(.t 27), (cI 0), (.t 28)], .o [.mov 26 (.t 29), .ext 30 26 0, .ext 31 26 1, .st 3 (.t 9) (.t 30)]]) c8_15)
def c8_17 : Cd := (.seq (.reg [23, 25] [.call none 25 18 [(cI 3), (cI 2)], .o [.alloc 9 [(.sl true () 1 0 []), (.sl true () 1 0 []), (.sl true () 1 0 [])], .st 3 (.t 9) (.t 25)]]) c8_16)
def c8_18 : Cd := (.seq (.seq (.reg [21, 22] [.o [.mov 21 (.t 1), .len 22 (.t 21), .bin 23 .gtr (.t 22) (cI 16)]]) c8_1) c8_17)
def fi8 : FI := ⟨158, 4, [.t 8], (.seq (.reg [8] [.o [.asg 8 (cB false)]]) c8_18)⟩
theorem ok8 : fiOk Try.prog 8 fi8 := ⟨_, _, Try.func8, rfl, by kernel_rfl, by kernel_rfl, Try.call8⟩
/- lavabo/lavabolaw13.ModelNews -/
def c10_0 : Cd := (.cond (.t 28) .skip (.exit 0))
def c10_1 : Cd := (.seq (.reg [1, 5, 6, 7, 8, 50] [.o [.asg 4 (cB false)]]) .ret)
def c10_2 : Cd := (.cond (.t 50) c10_1 .skip)
def c10_3 : Cd := (.seq (.reg [1, 5, 6, 7, 10, 59] [.o [.asg 4 (cB false)]]) .ret)
def c10_4 : Cd := (.cond (.t 59) c10_3 .skip)
def c10_5 : Cd := (.reg [10, 59, 60] [.o [.ld 60 3 true (.t 10), .st 3 (.t 6) (.t 60)]])
def c10_6 : Cd := (.seq (.seq (.reg [11, 57, 58] [.o [.faddr 57 0 (.t 11), .ld 58 1 false (.t 57), .bin 59 .neq (.t 58) (cI 0)]]) c10_4) c10_5)
def c10_7 : Cd := (.seq (.reg [8, 50, 52, 53, 54, 51, 55, 56] [.o [.ld 52 3 true (.t 8), .build 53 [(.sc (.int .i64 0)), (.sc (.int .i64 0)), (.sc (.int .i64 0)), (.sc (.int .i64 0)), (.sc (.int .i64 0)), (.sc (.slice none 0 0))] [(0, 1, (cI 5))]], .call none 54 19 [(.t 52), (cI 0), (.t 53)], .o [.mov 51 (.t 54), .ext 55 51 0, .ext 56 51 1, .alloc 10 [(.sl true () 1 0 []), (.sl true () 1 0 []), (.sl true () 1 0 [])], .alloc 11 [(.sc (.int .i64 0)), (.sc (.int .i64 0)), (.sc (.int .i64 0)), (.sl true () 1 0 [])], .st 3 (.t 10) (.t 55), .st 4 (.t 11) (.t 56)]]) c10_6)
def c10_8 : Cd := (.seq (.seq (.reg [9, 37, 38, 39, 40, 41, 42, 43, 44, 45, 46, 47, 48, 49] [.o [.faddr 37 0 (.t 9), .ld 38 1 false (.t 37), .bin 39 .neq (.t 38) (cI 0), .mov 40 (.t 39)], .g 40 false [.faddr 41 1 (.t 9), .ld 42 1 false (.t 41), .mov 43 (.t 7), .bin 44 .neq (.t 42) (.t 43)], .o [.pick 45 (.t 40) (cB true) (.t 44), .mov 46 (.t 45)], .g 46 false [.faddr 47 2 (.t 9), .ld 48 1 false (.t 47), .bin 49 .neq (.t 48) (cI 0)], .o [.pick 50 (.t 46) (cB true) (.t 49)]]) c10_2) c10_7)
def c10_9 : Cd := (.reg [29, 30] [.o [.mov 29 (.t 7), .bin 30 .add (.t 29) (cI 1), .asg 7 (.t 30)]])
def c10_10 : Cd := (.seq (.block 1 (.seq (.reg [28, 32, 33, 34, 31, 35, 36] [.o [.ld 32 3 true (.t 6), .build 33 [(.sc (.int .i64 0)), (.sc (.int .i64 0)), (.sc (.int .i64 0)), (.sc (.int .i64 0)), (.sc (.int .i64 0)), (.sc (.slice none 0 0))] [(0, 1, (cI 1))]], .call none 34 19 [(.t 32), (cI 0), (.t 33)], .o [.mov 31 (.t 34), .ext 35 31 0, .ext 36 31 1, .alloc 8 [(.sl true () 1 0 []), (.sl true () 1 0 []), (.sl true () 1 0 [])], .alloc 9 [(.sc (.int .i64 0)), (.sc (.int .i64 0)), (.sc (.int .i64 0)), (.sl true () 1 0 [])], .st 3 (.t 8) (.t 35), .st 4 (.t 9) (.t 36)]]) c10_8)) c10_9)
def c10_11 : Cd := (.seq (.seq (.reg [26, 27] [.o [.mov 26 (.t 7), .mov 27 (.t 5), .bin 28 .lss (.t 26) (.t 27)]]) c10_0) c10_10)
def c10_12 : Cd := (.block 0 (.loop c10_11))
def c10_13 : Cd := (.seq (.reg [13, 14, 16, 18, 86, 87, 88, 89, 90, 91, 92, 93, 94, 95, 96, 97, 98, 99, 100, 101, 102, 103, 104, 105, 106, 107] [.call none 86 17 [], .o [.mov 87 (.t 86)], .g 87 true [.faddr 88 0 (.t 13), .ld 89 1 false (.t 88), .bin 90 .eql (.t 89) (cI 3)], .o [.pick 91 (.t 87) (.t 90) (cB false), .mov 92 (.t 91)], .g 92 true [.faddr 93 0 (.t 16), .ld 94 1 false (.t 93), .bin 95 .eql (.t 94) (cI 0)], .o [.pick 96 (.t 92) (.t 95) (cB false), .mov 97 (.t 96)], .g 97 true [.faddr 98 0 (.t 18), .ld 99 1 false (.t 98), .bin 100 .eql (.t 99) (cI 0)], .o [.pick 101 (.t 97) (.t 100) (cB false), .mov 102 (.t 101)], .g 102 true [.faddr 103 1 (.t 18), .ld 104 1 false (.t 103), .mov 105 (.t 14), .bin 106 .eql (.t 104) (.t 105)], .o [.pick 107 (.t 102) (.t 106) (cB false), .asg 4 (.t 107)]]) .ret)
def c10_14 : Cd := (.seq (.reg [15, 81, 82, 83, 80, 84, 85, 17] [.o [.ld 81 3 true (.t 15), .build 82 [(.sc (.int .i64 0)), (.sc (.int .i64 0)), (.sc (.int .i64 0)), (.sc (.int .i64 0)), (.sc (.int .i64 0)), (.sc (.slice none 0 0))] [(0, 1, (cI 1))]], .call none 83 19 [(.t 81), (cI 0), (.t 82)], .o [.mov 80 (.t 83), .ext 84 80 0, .ext 85 80 1, .alloc 17 [(.sl true () 1 0 []), (.sl true () 1 0 []), (.sl true () 1 0 [])], .alloc 18 [(.sc (.int .i64 0)), (.sc (.int .i64 0)), (.sc (.int .i64 0)), (.sl true () 1 0 [])], .st 3 (.t 17) (.t 84), .st 4 (.t 18) (.t 85)]]) c10_13)
def c10_15 : Cd := (.seq (.reg [6, 74, 75, 76, 77, 73, 78, 79] [.o [.ld 74 3 true (.t 6), .mov 75 (.t 14), .build 76 [(.sc (.int .i64 0)), (.sc (.int .i64 0)), (.sc (.int .i64 0)), (.sc (.int .i64 0)), (.sc (.int .i64 0)), (.sc (.slice none 0 0))] [(0, 1, (cI 8)), (1, 1, (.t 75))]], .call none 77 19 [(.t 74), (cI 0), (.t 76)], .o [.mov 73 (.t 77), .ext 78 73 0, .ext 79 73 1, .alloc 15 [(.sl true () 1 0 []), (.sl true () 1 0 []), (.sl true () 1 0 [])], .alloc 16 [(.sc (.int .i64 0)), (.sc (.int .i64 0)), (.sc (.int .i64 0)), (.sl true () 1 0 [])], .st 3 (.t 15) (.t 78), .st 4 (.t 16) (.t 79)]]) c10_14)
def c10_16 : Cd := (.seq (.reg [1, 5, 67, 68, 69, 70, 71, 72] [.o [.mov 67 (.t 1), .conv 68 .u64 (.t 67), .mov 69 (.t 5), .conv 70 .u64 (.t 69), .bin 71 .rem (.t 68) (.t 70), .conv 72 .i64 (.t 71), .asg 14 (.t 72)]]) c10_15)
def c10_17 : Cd := (.seq (.reg [7, 26, 27, 28, 62, 63, 64, 61, 65, 66, 12] [.o [.ld 62 3 true (.t 6), .build 63 [(.sc (.int .i64 0)), (.sc (.int .i64 0)), (.sc (.int .i64 0)), (.sc (.int .i64 0)), (.sc (.int .i64 0)), (.sc (.slice none 0 0))] [(0, 1, (cI 1))]], .call none 64 19 [(.t 62), (cI 0), (.t 63)], .o [.mov 61 (.t 64), .ext 65 61 0, .ext 66 61 1, .alloc 12 [(.sl true () 1 0 []), (.sl true () 1 0 []), (.sl true () 1 0 [])], .alloc 13 [(.sc (.int .i64 0)), (.sc (.int .i64 0)), (.sc (.int .i64 0)), (.sl true () 1 0 [])], .st 3 (.t 12) (.t 65), .st 4 (.t 13) (.t 66)]]) c10_16)
def c10_18 : Cd := (.seq (.seq (.reg [] [.o [.asg 7 (cI 0)]]) c10_12) c10_17)
def c10_19 : Cd := (.seq (.reg [24, 25] [.o [.mov 24 (.t 5)], .call none 25 18 [(.t 24), (cI 1)], .o [.alloc 6 [(.sl true () 1 0 []), (.sl true () 1 0 []), (.sl true () 1 0 [])], .st 3 (.t 6) (.t 25)]]) c10_18)
def c10_20 : Cd := (.seq (.reg [0, 19, 20, 21, 22, 23] [.o [.mov 19 (.t 0), .conv 20 .u64 (.t 19), .bin 21 .rem (.t 20) (.c (.sc (.int .u64 20))), .conv 22 .i64 (.t 21), .bin 23 .add (cI 1) (.t 22), .asg 5 (.t 23)]]) c10_19)
def fi10 : FI := ⟨108, 2, [.t 4], (.seq (.reg [4] [.o [.asg 4 (cB false)]]) c10_20)⟩
theorem ok10 : fiOk Try.prog 10 fi10 := ⟨_, _, Try.func10, rfl, by kernel_rfl, by kernel_rfl, Try.call10⟩
/- lavabo/lavabolaw13.ModelPins -/
def c11_0 : Cd := (.cond (.t 37) .skip (.exit 0))
def c11_1 : Cd := (.seq (.reg [1, 5, 6, 7, 8, 57] [.o [.asg 4 (cB false)]]) .ret)
def c11_2 : Cd := (.cond (.t 57) c11_1 .skip)
def c11_3 : Cd := (.reg [8, 57, 58] [.o [.ld 58 3 true (.t 8), .st 3 (.t 6) (.t 58)]])
def c11_4 : Cd := (.seq (.seq (.reg [9, 48, 49, 50, 51, 52, 53, 54, 55, 56] [.o [.faddr 48 0 (.t 9), .ld 49 1 false (.t 48), .bin 50 .neq (.t 49) (cI 0), .mov 51 (.t 50)], .g 51 false [.faddr 52 2 (.t 9), .ld 53 1 false (.t 52), .mov 54 (.t 7), .bin 55 .quo (.t 54) (cI 2), .bin 56 .neq (.t 53) (.t 55)], .o [.pick 57 (.t 51) (cB true) (.t 56)]]) c11_2) c11_3)
def c11_5 : Cd := (.reg [38, 39] [.o [.mov 38 (.t 7), .bin 39 .add (.t 38) (cI 1), .asg 7 (.t 39)]])
def c11_6 : Cd := (.seq (.block 1 (.seq (.reg [37, 41, 42, 43, 44, 45, 40, 46, 47] [.o [.ld 41 3 true (.t 6), .mov 42 (.t 7), .bin 43 .rem (.t 42) (cI 2), .build 44 [(.sc (.int .i64 0)), (.sc (.int .i64 0)), (.sc (.int .i64 0)), (.sc (.int .i64 0)), (.sc (.int .i64 0)), (.sc (.slice none 0 0))] [(0, 1, (cI 2))]], .call none 45 19 [(.t 41), (.t 43), (.t 44)], .o [.mov 40 (.t 45), .ext 46 40 0, .ext 47 40 1, .alloc 8 [(.sl true () 1 0 []), (.sl true () 1 0 []), (.sl true () 1 0 [])], .alloc 9 [(.sc (.int .i64 0)), (.sc (.int .i64 0)), (.sc (.int .i64 0)), (.sl true () 1 0 [])], .st 3 (.t 8) (.t 46), .st 4 (.t 9) (.t 47)]]) c11_4)) c11_5)
def c11_7 : Cd := (.seq (.seq (.reg [35, 36] [.o [.mov 35 (.t 7), .mov 36 (.t 5), .bin 37 .lss (.t 35) (.t 36)]]) c11_0) c11_6)
def c11_8 : Cd := (.block 0 (.loop c11_7))
def c11_9 : Cd := (.cond (.t 73) .skip (.exit 2))
def c11_10 : Cd := (.seq (.reg [5, 6, 11, 12, 13, 14, 88] [.o [.asg 4 (cB false)]]) .ret)
def c11_11 : Cd := (.cond (.t 88) c11_10 .skip)
def c11_12 : Cd := (.reg [14, 88, 89] [.o [.ld 89 3 true (.t 14), .st 3 (.t 6) (.t 89)]])
def c11_13 : Cd := (.seq (.seq (.reg [15, 86, 87] [.o [.faddr 86 0 (.t 15), .ld 87 1 false (.t 86), .bin 88 .neq (.t 87) (cI 0)]]) c11_11) c11_12)
def c11_14 : Cd := (.reg [74, 75] [.o [.mov 74 (.t 13), .bin 75 .add (.t 74) (cI 1), .asg 13 (.t 75)]])
def c11_15 : Cd := (.seq (.block 3 (.seq (.reg [73, 77, 78, 79, 80, 81, 82, 83, 76, 84, 85] [.o [.ld 77 3 true (.t 6), .mov 78 (.t 13), .bin 79 .rem (.t 78) (cI 2), .mov 80 (.t 13), .bin 81 .quo (.t 80) (cI 2), .build 82 [(.sc (.int .i64 0)), (.sc (.int .i64 0)), (.sc (.int .i64 0)), (.sc (.int .i64 0)), (.sc (.int .i64 0)), (.sc (.slice none 0 0))] [(0, 1, (cI 5)), (2, 1, (.t 81))]], .call none 83 19 [(.t 77), (.t 79), (.t 82)], .o [.mov 76 (.t 83), .ext 84 76 0, .ext 85 76 1, .alloc 14 [(.sl true () 1 0 []), (.sl true () 1 0 []), (.sl true () 1 0 [])], .alloc 15 [(.sc (.int .i64 0)), (.sc (.int .i64 0)), (.sc (.int .i64 0)), (.sl true () 1 0 [])], .st 3 (.t 14) (.t 84), .st 4 (.t 15) (.t 85)]]) c11_13)) c11_14)
def c11_16 : Cd := (.seq (.seq (.reg [71, 72] [.o [.mov 71 (.t 13), .mov 72 (.t 12), .bin 73 .lss (.t 71) (.t 72)]]) c11_9) c11_15)
def c11_17 : Cd := (.block 2 (.loop c11_16))
def c11_18 : Cd := (.seq (.reg [5, 6, 11, 12, 17, 96, 97, 98, 99, 100, 101, 102, 103, 104, 105, 106, 107, 108, 109, 110, 111, 112, 113, 114, 115, 116, 117, 118, 119, 120, 121, 122, 123, 124, 125, 126, 127, 128, 129, 130, 131] [.call none 96 17 [], .o [.mov 97 (.t 96)], .g 97 true [.faddr 98 0 (.t 11), .ld 99 1 false (.t 98), .bin 100 .eql (.t 99) (cI 4), .mov 101 (.t 5), .bin 102 .gtr (.t 101) (cI 10), .beq 103 true (.t 100) (.t 102)], .o [.pick 104 (.t 97) (.t 103) (cB false), .mov 105 (.t 104)], .g 105 true [.ld 106 3 true (.t 6)], .call (some (105, true)) 107 29 [(.t 106), (cI 0)], .g 105 true [.mov 108 (.t 5), .mov 109 (.t 12), .bin 110 .sub (.t 108) (.t 109), .bin 111 .eql (.t 107) (.t 110)], .o [.pick 112 (.t 105) (.t 111) (cB false), .mov 113 (.t 112)], .g 113 true [.faddr 114 0 (.t 17), .ld 115 1 false (.t 114), .bin 116 .eql (.t 115) (cI 0), .mov 117 (.t 5), .mov 118 (.t 12), .bin 119 .eql (.t 117) (.t 118), .beq 120 true (.t 116) (.t 119)], .o [.pick 121 (.t 113) (.t 120) (cB false), .mov 122 (.t 121)], .g 122 true [.faddr 123 0 (.t 17), .ld 124 1 false (.t 123), .bin 125 .eql (.t 124) (cI 0), .mov 126 (.t 125)], .g 126 false [.faddr 127 0 (.t 17), .ld 128 1 false (.t 127), .bin 129 .eql (.t 128) (cI 7)], .g 122 true [.pick 130 (.t 126) (cB true) (.t 129)], .o [.pick 131 (.t 122) (.t 130) (cB false), .asg 4 (.t 131)]]) .ret)
def c11_19 : Cd := (.seq (.reg [13, 71, 72, 73, 91, 92, 93, 90, 94, 95, 16] [.o [.ld 91 3 true (.t 6), .build 92 [(.sc (.int .i64 0)), (.sc (.int .i64 0)), (.sc (.int .i64 0)), (.sc (.int .i64 0)), (.sc (.int .i64 0)), (.sc (.slice none 0 0))] [(0, 1, (cI 8))]], .call none 93 19 [(.t 91), (cI 1), (.t 92)], .o [.mov 90 (.t 93), .ext 94 90 0, .ext 95 90 1, .alloc 16 [(.sl true () 1 0 []), (.sl true () 1 0 []), (.sl true () 1 0 [])], .alloc 17 [(.sc (.int .i64 0)), (.sc (.int .i64 0)), (.sc (.int .i64 0)), (.sl true () 1 0 [])], .st 3 (.t 16) (.t 94), .st 4 (.t 17) (.t 95)]]) c11_18)
def c11_20 : Cd := (.seq (.seq (.reg [] [.o [.asg 13 (cI 0)]]) c11_17) c11_19)
def c11_21 : Cd := (.seq (.reg [1, 65, 66, 67, 68, 69, 70] [.o [.mov 65 (.t 5), .mov 66 (.t 1), .conv 67 .u64 (.t 66), .bin 68 .rem (.t 67) (.c (.sc (.int .u64 14))), .conv 69 .i64 (.t 68), .mx 70 false (.t 65) (.t 69), .asg 12 (.t 70)]]) c11_20)
def c11_22 : Cd := (.seq (.reg [7, 35, 36, 37, 60, 61, 62, 59, 63, 64, 10] [.o [.ld 60 3 true (.t 6), .build 61 [(.sc (.int .i64 0)), (.sc (.int .i64 0)), (.sc (.int .i64 0)), (.sc (.int .i64 0)), (.sc (.int .i64 0)), (.sc (.slice none 0 0))] [(0, 1, (cI 2))]], .call none 62 19 [(.t 60), (cI 0), (.t 61)], .o [.mov 59 (.t 62), .ext 63 59 0, .ext 64 59 1, .alloc 10 [(.sl true () 1 0 []), (.sl true () 1 0 []), (.sl true () 1 0 [])], .alloc 11 [(.sc (.int .i64 0)), (.sc (.int .i64 0)), (.sc (.int .i64 0)), (.sl true () 1 0 [])], .st 3 (.t 10) (.t 63), .st 4 (.t 11) (.t 64)]]) c11_21)
def c11_23 : Cd := (.seq (.seq (.reg [] [.o [.asg 7 (cI 0)]]) c11_8) c11_22)
def c11_24 : Cd := (.seq (.reg [30, 31, 32, 29, 33, 34] [.o [.ld 30 3 true (.t 6), .build 31 [(.sc (.int .i64 0)), (.sc (.int .i64 0)), (.sc (.int .i64 0)), (.sc (.int .i64 0)), (.sc (.int .i64 0)), (.sc (.slice none 0 0))] [(0, 1, (cI 5))]], .call none 32 19 [(.t 30), (cI 0), (.t 31)], .o [.mov 29 (.t 32), .ext 33 29 0, .ext 34 29 1, .st 3 (.t 6) (.t 33)]]) c11_23)
def c11_25 : Cd := (.seq (.reg [24, 25, 26, 23, 27, 28] [.o [.ld 24 3 true (.t 6), .build 25 [(.sc (.int .i64 0)), (.sc (.int .i64 0)), (.sc (.int .i64 0)), (.sc (.int .i64 0)), (.sc (.int .i64 0)), (.sc (.slice none 0 0))] [(0, 1, (cI 1))]], .call none 26 19 [(.t 24), (cI 0), (.t 25)], .o [.mov 23 (.t 26), .ext 27 23 0, .ext 28 23 1, .st 3 (.t 6) (.t 27)]]) c11_24)
def c11_26 : Cd := (.seq (.reg [22] [.call none 22 18 [(cI 2), (cI 2)], .o [.alloc 6 [(.sl true () 1 0 []), (.sl true () 1 0 []), (.sl true () 1 0 [])], .st 3 (.t 6) (.t 22)]]) c11_25)
def c11_27 : Cd := (.seq (.reg [0, 18, 19, 20, 21] [.o [.mov 18 (.t 0), .conv 19 .u64 (.t 18), .bin 20 .rem (.t 19) (.c (.sc (.int .u64 13))), .conv 21 .i64 (.t 20), .asg 5 (.t 21)]]) c11_26)
def fi11 : FI := ⟨132, 2, [.t 4], (.seq (.reg [4] [.o [.asg 4 (cB false)]]) c11_27)⟩
theorem ok11 : fiOk Try.prog 11 fi11 := ⟨_, _, Try.func11, rfl, by kernel_rfl, by kernel_rfl, Try.call11⟩
end Go.OT
set_option linter.unusedSimpArgs false
set_option linter.unusedVariables false
namespace Go.OT
open Go.Proofs

/-- A call of New; what it gives back is never written. -/
theorem RL.newC {nt : Nat} {L : SL} {K : SL → Prop} {rest : List Sg} {d : Nat} {cs : List COd} (p c : Int)
    (has : trArgs (fnL L) [] false cs = some [i64 p, i64 c])
    (h : RL Try.prog nt rest (setL L (100 * d) (encS false (newSt p c))) K) : RL Try.prog nt (.call none d 18 cs :: rest) L K := by
  refine RL.call0 false (new_fn p c) has ?_ (RL.freeze (100 * d) ?_)
  · simp [sideOk, ghsOk, roots, rootsL]
  · rw [frzL_setL, lend_encS]
    exact h

theorem newSt_sized (p c : Int) : Sized (newSt p c) := by
  unfold newSt
  split
  · exact ⟨by simp, by simp, by simp, by simp, by simp⟩
  · rename_i h
    simp only [newBad, Bool.or_eq_true, decide_eq_true_eq, not_or] at h
    exact ⟨by simp; omega, by simp; omega, by simp; omega, fun b hb => by rw [List.eq_of_mem_replicate hb]; simp, fun l hl => by rw [List.eq_of_mem_replicate hl]; simp⟩

theorem told_facts {s0 s1 s2 s3 s4 s5 s6 s7 s8 : St} {o1 o2 o3 o4 o5 o6 o7 o8 : Bool} {r1 r2 r3 r4 r5 r6 r7 r8 : Rs} (e0 : newSt 2 1 = s0) (e1 : DoB s0 0 ⟨1, 0, 0, 0, 0, []⟩ = (o1, s1, r1)) (e2 : DoB s1 0 ⟨4, 0, 0, 14, 0, [120, 121]⟩ = (o2, s2, r2))
    (e3 : DoB s2 0 ⟨3, 0, 0, 13, 3, []⟩ = (o3, s3, r3)) (e4 : DoB s2 0 ⟨8, 0, 0, 0, 0, []⟩ = (o4, s4, r4)) (e5 : DoB s2 0 ⟨5, 0, 0, 0, 0, []⟩ = (o5, s5, r5)) (e6 : DoB s5 0 ⟨3, 0, 0, 0, 0, []⟩ = (o6, s6, r6)) (e7 : DoB s5 0 ⟨2, 1, 0, 0, 0, []⟩ = (o7, s7, r7)) (e8 : DoB s5 0 ⟨9, 0, 0, 0, 0, []⟩ = (o8, s8, r8)) :
    r1 = ⟨0, 0, 0, []⟩ ∧ r2.Code = 0 ∧ r3 = ⟨0, 0, 0, [0, 120, 121]⟩ ∧ r4.Code = 7 ∧ r6.Code = 5 ∧ r7.Code = 2 ∧ r8.Code = 1 ∧ (May s5 = true ∧ Pins s2 0 = 1 ∧ Pins s5 0 = 0) ∧ Same s2 s5 = false ∧ True := by
  subst e0
  obtain rfl : s1 = (DoB (newSt 2 1) 0 ⟨1, 0, 0, 0, 0, []⟩).2.1 := by rw [e1]
  obtain rfl : r1 = (DoB (newSt 2 1) 0 ⟨1, 0, 0, 0, 0, []⟩).2.2 := by rw [e1]
  clear e1
  obtain rfl : s2 = _ := (congrArg (·.2.1) e2).symm
  obtain rfl : r2 = _ := (congrArg (·.2.2) e2).symm
  clear e2
  obtain rfl : r3 = _ := (congrArg (·.2.2) e3).symm
  clear e3
  obtain rfl : r4 = _ := (congrArg (·.2.2) e4).symm
  clear e4
  obtain rfl : s5 = _ := (congrArg (·.2.1) e5).symm
  clear e5
  obtain rfl : r6 = _ := (congrArg (·.2.2) e6).symm
  obtain rfl : r7 = _ := (congrArg (·.2.2) e7).symm
  obtain rfl : r8 = _ := (congrArg (·.2.2) e8).symm
  exact ⟨by kernel_rfl, by kernel_rfl, by kernel_rfl, by kernel_rfl, by kernel_rfl, by kernel_rfl, by kernel_rfl, ⟨by kernel_rfl, by kernel_rfl, by kernel_rfl⟩, by kernel_rfl, trivial⟩

set_option maxHeartbeats 4000000 in
set_option maxRecDepth 10000 in
theorem told_fn : FnC Try.prog 17 [] [] [] (bl true) := by
  refine FnC.go ok17 rfl ?_
  refine WL.sreg (by simp; rfl) (by simp; rfl) ?_
  refine WL.sregC (RL.newC 2 1 (by simp) ?_)
  have z0 := newSt_sized 2 1
  generalize e0 : newSt 2 1 = s0 at z0 ⊢
  refine RL.o (by simp; rfl) (RL.nil ⟨_, by simp; rfl, ?_⟩)
  refine WL.sregC (RL.o (by simp; rfl) (RL.nilA 21 5 1 (by simp; rfl) rfl rfl (RL.doC s0 z0 0 ⟨1, 0, 0, 0, 0, []⟩ (by simp) ?_)))
  have z1 := z0.doB 0 ⟨1, 0, 0, 0, 0, []⟩
  generalize e1 : DoB s0 0 ⟨1, 0, 0, 0, 0, []⟩ = d1 at z1 ⊢
  obtain ⟨o1, s1, r1⟩ := d1
  simp only at z1 ⊢
  refine RL.o (by simp; rfl) (RL.nil ⟨_, by simp; rfl, ?_⟩)
  refine WL.sregC (RL.o (by simp; rfl) (RL.freeze 2700 (RL.doC s1 z1 0 ⟨4, 0, 0, 14, 0, [120, 121]⟩ (by simp) ?_)))
  have z2 := z1.doB 0 ⟨4, 0, 0, 14, 0, [120, 121]⟩
  generalize e2 : DoB s1 0 ⟨4, 0, 0, 14, 0, [120, 121]⟩ = d2 at z2 ⊢
  obtain ⟨o2, s2, r2⟩ := d2
  simp only at z2 ⊢
  refine RL.o (by simp; rfl) (RL.nil ⟨_, by simp; rfl, ?_⟩)
  refine WL.sregC (RL.o (by simp; rfl) (RL.nilA 35 5 1 (by simp; rfl) rfl rfl (RL.doC s2 z2 0 ⟨3, 0, 0, 13, 3, []⟩ (by simp) ?_)))
  have z3 := z2.doB 0 ⟨3, 0, 0, 13, 3, []⟩
  generalize e3 : DoB s2 0 ⟨3, 0, 0, 13, 3, []⟩ = d3 at z3 ⊢
  obtain ⟨o3, s3, r3⟩ := d3
  simp only at z3 ⊢
  refine RL.o (by simp; rfl) (RL.nil ⟨_, by simp; rfl, ?_⟩)
  refine WL.sregC (RL.o (by simp; rfl) (RL.nilA 41 5 1 (by simp; rfl) rfl rfl (RL.doC s2 z2 0 ⟨8, 0, 0, 0, 0, []⟩ (by simp) ?_)))
  have z4 := z2.doB 0 ⟨8, 0, 0, 0, 0, []⟩
  generalize e4 : DoB s2 0 ⟨8, 0, 0, 0, 0, []⟩ = d4 at z4 ⊢
  obtain ⟨o4, s4, r4⟩ := d4
  simp only at z4 ⊢
  refine RL.o (by simp; rfl) (RL.nil ⟨_, by simp; rfl, ?_⟩)
  refine WL.sregC (RL.o (by simp; rfl) (RL.nilA 47 5 1 (by simp; rfl) rfl rfl (RL.doC s2 z2 0 ⟨5, 0, 0, 0, 0, []⟩ (by simp) ?_)))
  have z5 := z2.doB 0 ⟨5, 0, 0, 0, 0, []⟩
  generalize e5 : DoB s2 0 ⟨5, 0, 0, 0, 0, []⟩ = d5 at z5 ⊢
  obtain ⟨o5, s5, r5⟩ := d5
  simp only at z5 ⊢
  refine RL.o (by simp; rfl) (RL.nil ⟨_, by simp; rfl, ?_⟩)
  refine WL.sregC (RL.o (by simp; rfl) (RL.nilA 53 5 1 (by simp; rfl) rfl rfl (RL.doC s5 z5 0 ⟨3, 0, 0, 0, 0, []⟩ (by simp) ?_)))
  have z6 := z5.doB 0 ⟨3, 0, 0, 0, 0, []⟩
  generalize e6 : DoB s5 0 ⟨3, 0, 0, 0, 0, []⟩ = d6 at z6 ⊢
  obtain ⟨o6, s6, r6⟩ := d6
  simp only at z6 ⊢
  refine RL.o (by simp; rfl) (RL.nil ⟨_, by simp; rfl, ?_⟩)
  refine WL.sregC (RL.o (by simp; rfl) (RL.nilA 59 5 1 (by simp; rfl) rfl rfl (RL.doC s5 z5 0 ⟨2, 1, 0, 0, 0, []⟩ (by simp) ?_)))
  have z7 := z5.doB 0 ⟨2, 1, 0, 0, 0, []⟩
  generalize e7 : DoB s5 0 ⟨2, 1, 0, 0, 0, []⟩ = d7 at z7 ⊢
  obtain ⟨o7, s7, r7⟩ := d7
  simp only at z7 ⊢
  refine RL.o (by simp; rfl) (RL.nil ⟨_, by simp; rfl, ?_⟩)
  refine WL.sregC (RL.o (by simp; rfl) (RL.nilA 65 5 1 (by simp; rfl) rfl rfl (RL.doC s5 z5 0 ⟨9, 0, 0, 0, 0, []⟩ (by simp) ?_)))
  have z8 := z5.doB 0 ⟨9, 0, 0, 0, 0, []⟩
  generalize e8 : DoB s5 0 ⟨9, 0, 0, 0, 0, []⟩ = d8 at z8 ⊢
  obtain ⟨o8, s8, r8⟩ := d8
  simp only at z8 ⊢
  refine RL.o (by simp; rfl) (RL.nil ⟨_, by simp; rfl, ?_⟩)
  obtain ⟨f1, f2, f3, f4, f5, f6, f7, f8, f9, f10⟩ := told_facts e0 e1 e2 e3 e4 e5 e6 e7 e8
  clear e0 e1 e2 e3 e4 e5 e6 e7 e8
  refine WL.sregC (RL.o (by simp; rfl) ?_)
  refine RL.g (by simp [f1]; rfl) (RL.o (by simp; rfl) ?_)
  refine RL.g (by simp [f1]; rfl) (RL.o (by simp; rfl) ?_)
  refine RL.g (by simp [f2]; rfl) (RL.o (by simp; rfl) ?_)
  refine RL.g (by simp [f3]; rfl) (RL.o (by simp; rfl) ?_)
  have hb : ((b2s [0, 120, 121]).toList == [0, 120, 121]) = true := by kernel_rfl
  refine RL.g (by simp [f3, hb]; rfl) (RL.o (by simp; rfl) ?_)
  refine RL.g (by simp [f4]; rfl) (RL.o (by simp; rfl) ?_)
  refine RL.g (by simp [f5]; rfl) (RL.o (by simp; rfl) ?_)
  refine RL.g (by simp [f6]; rfl) (RL.o (by simp; rfl) ?_)
  refine RL.g (by simp [f7]; rfl) (RL.o (by simp; rfl) ?_)
  obtain ⟨f8, f11, f12⟩ := f8
  refine RL.fin [5, 7, 9, 13, 15, 17, 69, 70, 71, 72, 73, 74, 75, 76, 77, 78, 79, 80, 81, 82, 83, 84, 85, 86, 87, 88, 89, 90, 91, 92, 93, 94, 95, 96, 97, 98, 99, 100, 101, 102, 103, 104, 105, 106, 107, 108, 109, 110, 111, 112, 113, 114, 115, 116, 117] (by simp; rfl) ?_
  have hm5 := may_fn s5 z5
  rw [f8] at hm5
  refine RL.g (by simp; rfl) (RL.callY0 false (by simp) hm5 (by simp) (by simp) (RL.o (by simp; rfl) ?_))
  have hp2 := pins_fn s2 z2 0
  rw [f11] at hp2
  refine RL.g (by simp; rfl) (RL.callY0 false (by simp) hp2 (by simp) (by simp) (RL.g (by simp; rfl) (RL.o (by simp; rfl) ?_)))
  have hp5 := pins_fn s5 z5 0
  rw [f12] at hp5
  refine RL.g (by simp; rfl) (RL.callY0 false (by simp) hp5 (by simp) (by simp) (RL.g (by simp; rfl) (RL.o (by simp; rfl) ?_)))
  have hs5 := same_fn s5 s5 z5
  rw [show Same s5 s5 = true by simp [Same]] at hs5
  refine RL.g (by simp; rfl) (RL.callY0 false (by simp) hs5 (by simp) (by simp) (RL.o (by simp; rfl) ?_))
  refine RL.fin [118, 119, 120, 121, 122, 123, 124, 125, 126, 127, 128, 129, 130, 131, 132, 133, 134, 135, 136] (by simp; rfl) ?_
  have hs2 := same_fn s2 s5 z2
  rw [f9] at hs2
  refine RL.g (by simp; rfl) (RL.callY0 false (by simp) hs2 (by simp) (by simp) (RL.g (by simp; rfl) (RL.o (by simp; rfl) ?_)))
  have hn := new_fn 0 1
  rw [show newSt 0 1 = ⟨[], [], []⟩ by kernel_rfl] at hn
  refine RL.callY0 false (by simp) hn (by simp) (by simp) (RL.freeze 14400 (RL.g (by simp; rfl) (RL.o (by simp; rfl) (RL.g (by simp; rfl) ?_))))
  have hm0 := may_fn ⟨[], [], []⟩ ⟨by simp, by simp, by simp, by simp, by simp⟩
  rw [show May ⟨[], [], []⟩ = false by kernel_rfl] at hm0
  refine RL.nilA 150 0 1 (by simp; rfl) rfl rfl (RL.nilA 150 1 1 (by simp; rfl) rfl rfl (RL.nilA 150 2 1 (by simp; rfl) rfl rfl ?_))
  refine RL.callY0 false (by simp) hm0 (by simp) (by simp) (RL.g (by simp; rfl) (RL.o (by simp; rfl) (RL.g (by simp; rfl) ?_)))
  have hr1 := sameres_fn r1 r1
  rw [show SameRes r1 r1 = true by simp [SameRes]] at hr1
  refine RL.callY0 false (by simp) hr1 (by simp [f1]) (by simp) (RL.o (by simp; rfl) (RL.nil ⟨_, by simp; rfl, ?_⟩))
  refine WL.ret ⟨.inr rfl, ?_⟩
  simp [fi17]
end Go.OT
