/- Part 7 of the proof: see its last file. -/
import Derived.Test.YtlcemfnjhdcmoaaProg
import Derived.KernelRfl
import Derived.IntWalk
import Derived.Lib.Strings
import Derived.Test.YtlcemfnjhdcmoaaWs06
set_option linter.unusedSimpArgs false
set_option linter.unusedVariables false
set_option maxHeartbeats 64000000
namespace Go.OT
open Go.Proofs
def yol:Cd:=(.seq (.reg [0,1,19,20] [.o [.build 20 [(.sc (.slice none 0 0)),(.sc (.slice none 0 0)),(.sc (.slice none 0 0))] [],.st 3 (.t 4) (.t 20)]]) .ret)
def yom:Cd:=(.cond (.t 19) yol .skip)
def yon:Cd:=(.reg [33] [.o [.bin 33 .add (.t 25) (cI 1),.mov 25 (.t 33)]])
def yoo:Cd:=(.seq (.block 1 (.draw [[],[0],[],[2],[1,3],[0,1,2,3,4],[5,4,4,0,1,2,3,4]] [26,27,28,29,30,31,32] [.o [.faddr 27 1 (.t 5),.ld 28 1 false (.t 27),.make 29 1 1 [(.sc (.int .u8 0))] (cI 16) (cI 16),.bs1 30 1 (.t 29),.app 31 1 24 (.t 28) (.t 30),.faddr 32 1 (.t 5),.st 1 (.t 32) (.t 31)]])) yon)
def yop:Cd:=(.seq (.cond (.t 26) .skip (.exit 0)) yoo)
def yoq:Cd:=(.seq (.reg [] [.o [.bin 26 .lss (.t 25) (.t 24)]]) yop)
def yor:Cd:=(.block 0 (.loop yoq))
def yos:Cd:=(.reg [44] [.o [.bin 44 .add (.t 35) (cI 1),.mov 35 (.t 44)]])
def yot:Cd:=(.seq (.block 3 (.draw [[],[0],[],[2],[3],[1,4,3],[0,1,2,3,4,5],[6,5,5,0,1,2,3,4,5]] [36,37,38,39,40,41,42,43] [.o [.faddr 37 2 (.t 5),.ld 38 1 false (.t 37),.bs1 39 1 (cI (-1))],.call none 40 96 [(.t 39),(cI 6)],.o [.bs1 41 1 (.t 40),.app 42 1 24 (.t 38) (.t 41),.faddr 43 2 (.t 5),.st 1 (.t 43) (.t 42)]])) yos)
def you:Cd:=(.seq (.cond (.t 36) .skip (.exit 2)) yot)
def y5o:Cd:=(.seq (.reg [] [.o [.bin 36 .lss (.t 35) (.t 34)]]) you)
def y5p:Cd:=(.block 2 (.loop y5o))
def y5q:Cd:=(.seq (.reg [5,34,35,36,45] [.o [.ld 45 3 true (.t 5),.st 3 (.t 4) (.t 45)]]) .ret)
def y5r:Cd:=(.seq (.seq (.reg [1,24,25,26] [.o [.mov 34 (.t 1),.mov 35 (cI 0)]]) y5p) y5q)
def y5s:Cd:=(.seq (.seq (.reg [0] [.o [.mov 24 (.t 0),.mov 25 (cI 0)]]) yor) y5r)
def y5t:Cd:=(.seq (.reg [19,21,22,23] [.o [.mov 21 (.t 0),.make 22 1 1 [(.sc (.bool false))] (.t 21) (.t 21),.build 23 [(.sc (.slice none 0 0)),(.sc (.slice none 0 0)),(.sc (.slice none 0 0))] [(0,1,(.t 22))],.alloc 5 [(.sl true () 1 0 []),(.sl true () 1 0 []),(.sl true () 1 0 [])],.st 3 (.t 5) (.t 23)]]) y5s)
def y5u:Cd:=(.seq (.seq (.reg [6,7,8,9,10,11,12,13,14,15,16,17,18] [.o [.mov 6 (.t 0),.bin 7 .lss (.t 6) (cI 1),.mov 8 (.t 7)],.g 8 false [.mov 9 (.t 0),.bin 10 .gtr (.t 9) (cI 48)],.o [.pick 11 (.t 8) (cB true) (.t 10),.mov 12 (.t 11)],.g 12 false [.mov 13 (.t 1),.bin 14 .lss (.t 13) (cI 1)],.o [.pick 15 (.t 12) (cB true) (.t 14),.mov 16 (.t 15)],.g 16 false [.mov 17 (.t 1),.bin 18 .gtr (.t 17) (cI 6)],.o [.pick 19 (.t 16) (cB true) (.t 18)]]) yom) y5t)
def yov:FI:=⟨46,2,[.cell 4 3 true],(.seq (.reg [] [.o [.alloc 4 [(.sl true () 1 0 []),(.sl true () 1 0 []),(.sl true () 1 0 [])]]]) y5u)⟩
theorem yxc:z25 Try.prog 42 yov:=⟨_,_,Try.func42,rfl,by kernel_rfl,by kernel_rfl,Try.call42⟩
def y5v:Cd:=(.seq (.reg [1,3,5,23,24,25] [.o [.ld 24 3 true (.t 3),.build 25 [(.sc (.int .i64 0)),(.sc (.int .i64 0)),(.sc (.int .i64 0)),(.sc (.slice none 0 0))] [(0,1,(cI 1))],.st 3 (.t 6) (.t 24),.st 4 (.t 7) (.t 25)]]) .ret)
def yow:Cd:=(.cond (.t 23) y5v .skip)
def yox:Cd:=(.seq (.reg [3,8,9,33,34,35,36] [.o [.ld 34 3 true (.t 3),.mov 35 (.t 9),.build 36 [(.sc (.int .i64 0)),(.sc (.int .i64 0)),(.sc (.int .i64 0)),(.sc (.slice none 0 0))] [(0,1,(.t 35))],.st 3 (.t 6) (.t 34),.st 4 (.t 7) (.t 36)]]) .ret)
def yoy:Cd:=(.cond (.t 33) yox .skip)
def yoz:Cd:=(.seq (.reg [32] [.o [.mov 32 (.t 9),.bin 33 .neq (.t 32) (cI 0)]]) yoy)
def yp0:Cd:=(.seq (.reg [3,8,9,33,37,38,39,40] [.o [.ld 37 10 true (.t 8)],.call none 38 99 [(.t 37)],.o [.ext 39 38 0,.ext 40 38 1,.st 3 (.t 6) (.t 39),.st 4 (.t 7) (.t 40)]]) .ret)
def yp1:Cd:=(.seq (.seq (.reg [30,31] [.o [.ld 30 10 true (.t 8)],.call none 31 98 [(.t 30)],.o [.asg 9 (.t 31)]]) yoz) yp0)
def y5w:Cd:=(.seq (.reg [1,5,23,26,27,28,29] [.o [.ld 26 3 true (.t 3),.mov 27 (.t 1),.ld 28 6 true (.t 5),.build 29 [(.sc (.slice none 0 0)),(.sc (.slice none 0 0)),(.sc (.slice none 0 0)),(.sc (.int .i64 0)),(.sc (.int .i64 0)),(.sc (.int .i64 0)),(.sc (.int .i64 0)),(.sc (.int .i64 0)),(.sc (.int .i64 0)),(.sc (.slice none 0 0))] [(0,3,(.t 26)),(3,1,(.t 27)),(4,6,(.t 28))],.alloc 8 [(.sl true () 1 0 []),(.sl true () 1 0 []),(.sl true () 1 0 []),(.sc (.int .i64 0)),(.sc (.int .i64 0)),(.sc (.int .i64 0)),(.sc (.int .i64 0)),(.sc (.int .i64 0)),(.sc (.int .i64 0)),(.sl true () 1 0 [])],.st 10 (.t 8) (.t 29)]]) yp1)
def yp2:Cd:=(.seq (.seq (.reg [10,11,12,13,14,15,16,17,18,19,20,21,22] [.o [.ld 10 3 true (.t 3)],.call none 11 97 [(.t 10)],.o [.un 12 .not (.t 11),.mov 13 (.t 12)],.g 13 false [.mov 14 (.t 1),.bin 15 .lss (.t 14) (cI 0)],.o [.pick 16 (.t 13) (cB true) (.t 15),.mov 17 (.t 16)],.g 17 false [.mov 18 (.t 1),.faddr 19 2 (.t 3),.ld 20 1 false (.t 19),.len 21 (.t 20),.bin 22 .geq (.t 18) (.t 21)],.o [.pick 23 (.t 17) (cB true) (.t 22)]]) yow) y5w)
def zu9:FI:=⟨41,3,[.cell 6 3 true,.cell 7 4 true],(.seq (.reg [0,2] [.o [.box 3 (.t 0),.box 5 (.t 2),.alloc 6 [(.sl true () 1 0 []),(.sl true () 1 0 []),(.sl true () 1 0 [])],.alloc 7 [(.sc (.int .i64 0)),(.sc (.int .i64 0)),(.sc (.int .i64 0)),(.sl true () 1 0 [])]]]) yp2)⟩
theorem yxd:z25 Try.prog 44 zu9:=⟨_,_,Try.func44,rfl,by kernel_rfl,by kernel_rfl,Try.call44⟩
-- BAD 96 slices.Repeat[[]int,int] [0, 1, 0, 1]
def yp3:Cd:=(.reg [10] [.bad,.bad])
def yp4:Cd:=(.cond (.t 10) yp3 .skip)
def yp5:Cd:=(.reg [26] [.bad,.bad])
def yp6:Cd:=(.cond (.t 26) yp5 .skip)
def yp7:Cd:=(.cond (.t 37) .skip (.exit 0))
def yp8:Cd:=(.block 1 (.draw [[],[],[],[1,2],[],[],[4,5],[3,6],[0,7],[8,7,0,1,2,3,4,5,6,7,8]] [37,38,39,40,41,42,43,44,45,46] [.o [.mov 38 (.t 8),.mov 39 (.t 7),.mov 40 (.t 8),.slice 41 1 (.t 39) (some (.t 40)) none,.mov 42 (.t 7),.mov 43 (.t 8),.slice 44 1 (.t 42) none (some (.t 43)),.cpy 45 1 (.t 41) (.t 44),.bin 46 .add (.t 38) (.t 45),.asg 8 (.t 46)]]))
def yp9:Cd:=(.seq (.seq (.reg [34,35,36] [.o [.mov 34 (.t 8),.mov 35 (.t 7),.len 36 (.t 35),.bin 37 .lss (.t 34) (.t 36)]]) yp7) yp8)
def ypa:Cd:=(.seq (.reg [7,8,34,35,36,37,47] [.o [.mov 47 (.t 7),.asg 4 (.t 47)]]) .ret)
def ypb:Cd:=(.seq (.block 0 (.loop yp9)) ypa)
def ypc:Cd:=(.seq (.reg [0,31,32,33] [.o [.mov 31 (.t 7),.mov 32 (.t 0),.cpy 33 1 (.t 31) (.t 32),.asg 8 (.t 33)]]) ypb)
def y5x:Cd:=(.seq (.reg [6,26,28,29,30] [.o [.mov 28 (.t 6),.conv 29 .i64 (.t 28),.make 30 1 8 [(.sc (.int .i64 0))] (.t 29) (.t 29),.asg 7 (.t 30)]]) ypc)
def y5y:Cd:=(.seq (.seq (.reg [5,21,22,23,24,25] [.o [.mov 21 (.t 5),.bin 22 .gtr (.t 21) (.c (.sc (.int .u64 0))),.mov 23 (.t 22)],.g 23 false [.mov 24 (.t 6),.bin 25 .gtr (.t 24) (.c (.sc (.int .u64 9223372036854775807)))],.o [.pick 26 (.t 23) (cB true) (.t 25)]]) yp6) y5x)
def y5z:Cd:=(.seq (.reg [1,10,13,14,15,16,17,18,12,19,20] [.o [.mov 13 (.t 0),.len 14 (.t 13),.conv 15 .u64 (.t 14),.mov 16 (.t 1),.conv 17 .u64 (.t 16)],.call none 18 140 [(.t 15),(.t 17)],.o [.mov 12 (.t 18),.ext 19 12 0,.ext 20 12 1,.asg 5 (.t 19),.asg 6 (.t 20)]]) y5y)
def y60:Cd:=(.seq (.seq (.reg [9] [.o [.mov 9 (.t 1),.bin 10 .lss (.t 9) (cI 0)]]) yp4) y5z)
def ywl:FI:=⟨48,2,[.t 4],(.seq (.reg [4] [.o [.asg 4 (.c (.sl true () 1 0 []))]]) y60)⟩
theorem yxe:z25 Try.prog 96 ywl:=⟨_,_,Try.func96,rfl,by kernel_rfl,by kernel_rfl,Try.call96⟩
def ypd:Cd:=(.seq (.reg [1,35] [.o [.asg 2 (cB false)]]) .ret)
def ype:Cd:=(.cond (.t 35) ypd .skip)
def ypf:Cd:=(.seq (.reg [1,37,38,39,60] [.o [.asg 2 (cB false)]]) .ret)
def ypg:Cd:=(.cond (.t 60) ypf .skip)
def yph:Cd:=(.seq (.reg [5,6,44,45,46,47,48,49,50,51,52,53,54,55,56,57,58,59] [.o [.mov 44 (.t 6),.len 45 (.t 44),.bin 46 .neq (.t 45) (cI 16),.mov 47 (.t 46)],.g 47 false [.faddr 48 0 (.t 1),.ld 49 1 false (.t 48),.mov 50 (.t 5),.iaddr 51 1 (.t 49) (.t 50),.ld 52 1 false (.t 51),.un 53 .not (.t 52),.mov 54 (.t 53)],.g 54 true [.mov 55 (.t 6),.make 56 1 1 [(.sc (.int .u8 0))] (cI 16) (cI 16)],.call (some (54,true)) 57 102 [(.t 55),(.t 56)],.g 54 true [.un 58 .not (.t 57)],.g 47 false [.pick 59 (.t 54) (.t 58) (cB false)],.o [.pick 60 (.t 47) (cB true) (.t 59)]]) ypg)
def ypi:Cd:=(.reg [60,61] [.o [.bin 61 .add (.t 39) (cI 1),.mov 39 (.t 61)]])
def ypj:Cd:=(.seq (.block 1 (.seq (.reg [40,41,42,43] [.o [.mov 41 (.t 39),.iaddr 42 1 (.t 37) (.t 39),.ld 43 1 false (.t 42),.asg 5 (.t 41),.asg 6 (.t 43)]]) yph)) ypi)
def ypk:Cd:=(.seq (.cond (.t 40) .skip (.exit 0)) ypj)
def ypl:Cd:=(.seq (.reg [] [.o [.bin 40 .lss (.t 39) (.t 38)]]) ypk)
def ypm:Cd:=(.block 0 (.loop ypl))
def y61:Cd:=(.seq (.reg [1,63,64,65,76] [.o [.asg 2 (cB false)]]) .ret)
def y62:Cd:=(.cond (.t 76) y61 .skip)
def y63:Cd:=(.seq (.reg [8,69,70,71,72,73,74,75] [.o [.mov 69 (.t 8),.len 70 (.t 69),.bin 71 .neq (.t 70) (cI 6),.mov 72 (.t 71)],.g 72 false [.mov 73 (.t 8),.mkf 74 142 [(.t 1)]],.call (some (72,false)) 75 141 [(.t 73),(.t 74)],.o [.pick 76 (.t 72) (cB true) (.t 75)]]) y62)
def y64:Cd:=(.reg [76,77] [.o [.bin 77 .add (.t 65) (cI 1),.mov 65 (.t 77)]])
def y65:Cd:=(.seq (.block 3 (.seq (.reg [66,67,68] [.o [.iaddr 67 1 (.t 63) (.t 65),.ld 68 1 false (.t 67),.asg 8 (.t 68)]]) y63)) y64)
def y66:Cd:=(.seq (.cond (.t 66) .skip (.exit 2)) y65)
def y67:Cd:=(.seq (.reg [] [.o [.bin 66 .lss (.t 65) (.t 64)]]) y66)
def y68:Cd:=(.block 2 (.loop y67))
def y69:Cd:=(.seq (.reg [1,63,64,65,66] [.o [.asg 2 (cB true)]]) .ret)
def y6a:Cd:=(.seq (.seq (.reg [37,38,39,40,62] [.o [.faddr 62 2 (.t 1),.ld 63 1 false (.t 62),.len 64 (.t 63),.mov 65 (cI 0)]]) y68) y69)
def y6b:Cd:=(.seq (.seq (.reg [35,36] [.o [.faddr 36 1 (.t 1),.ld 37 1 false (.t 36),.len 38 (.t 37),.mov 39 (cI 0)]]) ypm) y6a)
def y6c:Cd:=(.seq (.seq (.reg [3,4,15,16,17,18,19,20,21,22,23,24,25,26,27,28,29,30,31,32,33,34] [.o [.mov 15 (.t 3),.bin 16 .lss (.t 15) (cI 1),.mov 17 (.t 16)],.g 17 false [.mov 18 (.t 3),.bin 19 .gtr (.t 18) (cI 48)],.o [.pick 20 (.t 17) (cB true) (.t 19),.mov 21 (.t 20)],.g 21 false [.faddr 22 1 (.t 1),.ld 23 1 false (.t 22),.len 24 (.t 23),.mov 25 (.t 3),.bin 26 .neq (.t 24) (.t 25)],.o [.pick 27 (.t 21) (cB true) (.t 26),.mov 28 (.t 27)],.g 28 false [.mov 29 (.t 4),.bin 30 .lss (.t 29) (cI 1)],.o [.pick 31 (.t 28) (cB true) (.t 30),.mov 32 (.t 31)],.g 32 false [.mov 33 (.t 4),.bin 34 .gtr (.t 33) (cI 6)],.o [.pick 35 (.t 32) (cB true) (.t 34)]]) ype) y6b)
def y6d:Cd:=(.seq (.draw [[],[0],[1],[],[3],[4],[2,0,1,2],[5,6,0,1,2,3,4,5,6]] [9,10,11,12,13,14] [.o [.faddr 9 0 (.t 1),.ld 10 1 false (.t 9),.len 11 (.t 10),.faddr 12 2 (.t 1),.ld 13 1 false (.t 12),.len 14 (.t 13),.asg 3 (.t 11),.asg 4 (.t 14)]]) y6c)
def zwn:FI:=⟨78,1,[.t 2],(.seq (.reg [0,2] [.o [.box 1 (.t 0),.asg 2 (cB false)]]) y6d)⟩
theorem yxf:z25 Try.prog 97 zwn:=⟨_,_,Try.func97,rfl,by kernel_rfl,by kernel_rfl,Try.call97⟩
def ypn:Cd:=(.seq (.reg [1,42] [.o [.asg 2 (cI 4)]]) .ret)
def ypo:Cd:=(.cond (.t 42) ypn .skip)
def ypp:Cd:=(.seq (.reg [47] [.o [.asg 2 (cI 3)]]) .ret)
def ypq:Cd:=(.cond (.t 47) ypp .skip)
def ypr:Cd:=(.seq (.reg [1,42,43,44,45,46] [.o [.faddr 43 0 (.t 1),.faddr 44 0 (.t 43),.ld 45 1 false (.t 44)],.call none 46 144 [(.t 45),(cB false)],.o [.un 47 .not (.t 46)]]) ypq)
def yps:Cd:=(.seq (.seq (.reg [3,4,5,38,39,41] [.o [.mov 41 (.t 3),.un 42 .not (.t 41)]]) ypo) ypr)
def ypt:Cd:=(.reg [51] [.o [.bin 51 .eql (.t 38) (cI 8),.asg 48 (.t 51)]])
def ypu:Cd:=(.cond (.t 48) .skip ypt)
def ypv:Cd:=(.seq (.reg [50] [.o [.bin 50 .eql (.t 38) (cI 6),.asg 48 (.t 50)]]) ypu)
def ypw:Cd:=(.cond (.t 48) .skip ypv)
def y6e:Cd:=(.seq (.reg [1,3,5,52] [.o [.asg 2 (cI 1)]]) .ret)
def y6f:Cd:=(.seq (.reg [1,3,55] [.o [.asg 2 (cI 2)]]) .ret)
def y6g:Cd:=(.seq (.reg [1,58] [.o [.asg 2 (cI 4)]]) .ret)
def y6h:Cd:=(.seq (.reg [67] [.o [.asg 2 (cI 7)]]) .ret)
def y6i:Cd:=(.cond (.t 67) y6h .skip)
def y6j:Cd:=(.seq (.reg [1,58,68,69,70,71,72,73,74,75,76,77,78,79,80] [.o [.faddr 68 4 (.t 1),.faddr 69 0 (.t 68),.ld 70 1 false (.t 69),.bin 71 .eql (.t 70) (cI 8),.mov 72 (.t 71)],.g 72 true [.faddr 73 0 (.t 1),.ld 74 3 true (.t 73),.faddr 75 4 (.t 1),.faddr 76 1 (.t 75),.ld 77 1 false (.t 76)],.call (some (72,true)) 78 145 [(.t 74),(.t 77)],.g 72 true [.bin 79 .gtr (.t 78) (cI 0)],.o [.pick 80 (.t 72) (.t 79) (cB false),.asg 67 (.t 80)]]) y6i)
def y6k:Cd:=(.cond (.t 58) y6g y6j)
def y6l:Cd:=(.seq (.reg [3,55,59,60,61,62,63,64,65,66] [.o [.faddr 59 4 (.t 1),.faddr 60 0 (.t 59),.ld 61 1 false (.t 60),.bin 62 .eql (.t 61) (cI 2),.mov 63 (.t 62)],.g 63 true [.mov 64 (.t 3),.un 65 .not (.t 64)],.o [.pick 66 (.t 63) (.t 65) (cB false),.asg 58 (.t 66)]]) y6k)
def y6m:Cd:=(.cond (.t 55) y6f y6l)
def y6n:Cd:=(.seq (.reg [5,52,56,57] [.o [.mov 56 (.t 5),.un 57 .not (.t 56),.asg 55 (.t 57)]]) y6m)
def y6o:Cd:=(.cond (.t 52) y6e y6n)
def y6p:Cd:=(.block 1 (.seq (.reg [4,38,48,53,54] [.o [.mov 53 (.t 4),.un 54 .not (.t 53),.asg 52 (.t 54)]]) y6o))
def y6q:Cd:=(.reg [84] [.o [.bin 84 .eql (.t 38) (cI 5),.asg 81 (.t 84)]])
def y6r:Cd:=(.cond (.t 81) .skip y6q)
def y6s:Cd:=(.seq (.reg [83] [.o [.bin 83 .eql (.t 38) (cI 4),.asg 81 (.t 83)]]) y6r)
def y6t:Cd:=(.cond (.t 81) .skip y6s)
def y6u:Cd:=(.reg [94,95,96,97,98] [.o [.faddr 95 4 (.t 1),.faddr 96 5 (.t 95),.ld 97 1 false (.t 96),.len 98 (.t 97),.asg 7 (.t 98)]])
def y6v:Cd:=(.cond (.t 94) y6u .skip)
def y6w:Cd:=(.seq (.reg [1,7,99] [.o [.asg 2 (cI 5)]]) .ret)
def y6x:Cd:=(.seq (.reg [119] [.o [.asg 2 (cI 6)]]) .ret)
def y6y:Cd:=(.cond (.t 119) y6x .skip)
def y6z:Cd:=(.seq (.reg [1,7,99,120,121,122,123,124,125,126,127,128,129,130,131,132,133,134,135,136,137,138,139,140,141,142,143,144,145,146,147] [.o [.faddr 120 4 (.t 1),.faddr 121 0 (.t 120),.ld 122 1 false (.t 121),.bin 123 .neq (.t 122) (cI 5),.mov 124 (.t 123)],.g 124 true [.faddr 125 4 (.t 1),.faddr 126 3 (.t 125),.ld 127 1 false (.t 126),.bin 128 .lss (.t 127) (cI 0),.mov 129 (.t 128)],.g 129 false [.mov 130 (.t 7),.bin 131 .lss (.t 130) (cI 0)],.g 124 true [.pick 132 (.t 129) (cB true) (.t 131),.mov 133 (.t 132)],.g 133 false [.faddr 134 4 (.t 1),.faddr 135 3 (.t 134),.ld 136 1 false (.t 135),.bin 137 .gtr (.t 136) (cI 16)],.g 124 true [.pick 138 (.t 133) (cB true) (.t 137),.mov 139 (.t 138)],.g 139 false [.mov 140 (.t 7),.faddr 141 4 (.t 1),.faddr 142 3 (.t 141),.ld 143 1 false (.t 142),.bin 144 .sub (cI 16) (.t 143),.bin 145 .gtr (.t 140) (.t 144)],.g 124 true [.pick 146 (.t 139) (cB true) (.t 145)],.o [.pick 147 (.t 124) (.t 146) (cB false),.asg 119 (.t 147)]]) y6y)
def y70:Cd:=(.cond (.t 99) y6w y6z)
def y71:Cd:=(.block 2 (.seq (.reg [6,94,100,101,102,103,104,105,106,107,108,109,110,111,112,113,114,115,116,117,118] [.o [.mov 100 (.t 6),.bin 101 .lss (.t 100) (cI 0),.mov 102 (.t 101)],.g 102 false [.mov 103 (.t 6),.bin 104 .geq (.t 103) (cI 6)],.o [.pick 105 (.t 102) (cB true) (.t 104),.mov 106 (.t 105)],.g 106 false [.faddr 107 0 (.t 1),.faddr 108 2 (.t 107),.ld 109 1 false (.t 108),.faddr 110 3 (.t 1),.ld 111 1 false (.t 110),.iaddr 112 1 (.t 109) (.t 111),.ld 113 1 false (.t 112),.mov 114 (.t 6),.iaddr 115 1 (.t 113) (.t 114),.ld 116 1 false (.t 115),.bin 117 .eql (.t 116) (cI (-1))],.o [.pick 118 (.t 106) (cB true) (.t 117),.asg 99 (.t 118)]]) y70))
def y72:Cd:=(.seq (.seq (.reg [91,92,93] [.o [.faddr 91 4 (.t 1),.faddr 92 0 (.t 91),.ld 93 1 false (.t 92),.bin 94 .eql (.t 93) (cI 4)]]) y6v) y71)
def y73:Cd:=(.seq (.draw [[],[0],[1],[],[3],[4],[2,0,1,2],[5,6,0,1,2,3,4,5,6]] [38,81,85,86,87,88,89,90] [.o [.faddr 85 4 (.t 1),.faddr 86 2 (.t 85),.ld 87 1 false (.t 86),.faddr 88 4 (.t 1),.faddr 89 4 (.t 88),.ld 90 1 false (.t 89),.asg 6 (.t 87),.asg 7 (.t 90)]]) y72)
def y74:Cd:=(.seq (.reg [148] [.o [.asg 2 (cI 1)]]) .ret)
def y75:Cd:=(.cond (.t 148) .skip y74)
def y76:Cd:=(.seq (.reg [1,38,81,149] [.o [.bin 149 .eql (.t 38) (cI 7),.asg 148 (.t 149)]]) y75)
def zjr:Cd:=(.cond (.t 81) y73 y76)
def y77:Cd:=(.seq (.seq (.reg [3,4,5,48,82] [.o [.bin 82 .eql (.t 38) (cI 3),.asg 81 (.t 82)]]) y6t) zjr)
def zjs:Cd:=(.cond (.t 48) y6p y77)
def y78:Cd:=(.seq (.seq (.reg [39,49] [.o [.bin 49 .eql (.t 38) (cI 2),.asg 48 (.t 49)]]) ypw) zjs)
def y79:Cd:=(.cond (.t 39) yps y78)
def y7a:Cd:=(.block 0 (.seq (.reg [40] [.o [.bin 40 .eql (.t 38) (cI 1),.asg 39 (.t 40)]]) y79))
def zg3:Cd:=(.seq (.reg [47,67,119,148] [.o [.asg 2 (cI 0)]]) .ret)
def zjt:Cd:=(.seq (.seq (.reg [36,37] [.o [.faddr 36 4 (.t 1),.faddr 37 0 (.t 36),.ld 38 1 false (.t 37)]]) y7a) zg3)
def y7b:Cd:=(.seq (.draw [[],[0],[1],[2],[3],[4],[5,4],[6,4],[4],[8,4],[9,4],[10,4],[7,11,4],[4,12],[],[14],[],[16],[17],[15,18,4],[13,19,0,1,2,3,4,5,6,7,8,9,10,11,12,13],[19,20,0,1,2,3,4,5,6,7,8,9,10,11,12,13,14,15,16,17,18,19,20]] [16,17,18,19,20,21,22,23,24,25,26,27,28,29,30,31,32,33,34,35] [.o [.faddr 16 4 (.t 1),.faddr 17 1 (.t 16),.ld 18 1 false (.t 17),.bin 19 .geq (.t 18) (cI 0),.mov 20 (.t 19)],.g 20 true [.faddr 21 4 (.t 1),.faddr 22 1 (.t 21),.ld 23 1 false (.t 22),.faddr 24 0 (.t 1),.faddr 25 0 (.t 24),.ld 26 1 false (.t 25),.len 27 (.t 26),.bin 28 .lss (.t 23) (.t 27)],.o [.pick 29 (.t 20) (.t 28) (cB false),.faddr 30 0 (.t 1),.ld 31 3 true (.t 30),.faddr 32 4 (.t 1),.faddr 33 1 (.t 32),.ld 34 1 false (.t 33)],.call none 35 143 [(.t 31),(.t 34)],.o [.asg 4 (.t 29),.asg 5 (.t 35)]]) zjt)
def y7c:Cd:=(.seq (.reg [8,9,10,11,12,13,14,15] [.o [.faddr 8 0 (.t 1),.faddr 9 2 (.t 8),.ld 10 1 false (.t 9),.faddr 11 3 (.t 1),.ld 12 1 false (.t 11),.iaddr 13 1 (.t 10) (.t 12),.ld 14 1 false (.t 13)],.call none 15 86 [(.t 14),(cI (-1))],.o [.asg 3 (.t 15)]]) y7b)
def z7v:FI:=⟨150,1,[.t 2],(.seq (.reg [0,2] [.o [.box 1 (.t 0),.asg 2 (cI 0)]]) y7c)⟩
theorem yxg:z25 Try.prog 98 z7v:=⟨_,_,Try.func98,rfl,by kernel_rfl,by kernel_rfl,Try.call98⟩
def ypx:Cd:=(.reg [6,34,35,36,37,38,39] [.o [.mov 34 (.t 6),.faddr 35 2 (.t 5),.ld 36 1 false (.t 35),.faddr 37 1 (.t 5),.ld 38 1 false (.t 37),.iaddr 39 1 (.t 34) (.t 36),.st 1 (.t 39) (.t 38)]])
def ypy:Cd:=(.seq (.reg [31,32,33] [.o [.mov 31 (.t 6)],.call none 32 134 [(.t 31),(cI (-1))],.o [.faddr 33 2 (.t 5),.st 1 (.t 33) (.t 32)]]) ypx)
def ypz:Cd:=(.seq (.reg [26,27,28,29,30] [.o [.faddr 26 0 (.t 4),.ld 27 1 false (.t 26),.faddr 28 1 (.t 5),.ld 29 1 false (.t 28),.iaddr 30 1 (.t 27) (.t 29),.st 1 (.t 30) (cB true)]]) ypy)
def zwo:Cd:=(.seq (.reg [1,19,20,22,23,24,25] [.o [.faddr 22 0 (.t 4),.ld 23 1 false (.t 22)],.call none 24 147 [(.t 23),(cB false)],.o [.faddr 25 1 (.t 5),.st 1 (.t 25) (.t 24)]]) ypz)
def yq0:Cd:=(.reg [6,49,50,51,52,53,54] [.o [.mov 49 (.t 6),.faddr 50 2 (.t 5),.ld 51 1 false (.t 50),.faddr 52 1 (.t 5),.ld 53 1 false (.t 52),.iaddr 54 1 (.t 49) (.t 51),.st 1 (.t 54) (.t 53)]])
def zwp:Cd:=(.seq (.draw [[],[0],[1],[],[3],[0,1,2],[5,2,4,0,1,2],[0,1,2,3,4,5,6],[7,4,6,0,1,2,3,4,5,6]] [1,19,40,42,43,44,45,46,47,48] [.o [.faddr 42 4 (.t 1),.faddr 43 1 (.t 42),.ld 44 1 false (.t 43),.mov 45 (.t 6)],.call none 46 134 [(.t 45),(cI (-1))],.o [.faddr 47 1 (.t 5),.st 1 (.t 47) (.t 44),.faddr 48 2 (.t 5),.st 1 (.t 48) (.t 46)]]) yq0)
def zwq:Cd:=(.draw [[],[0],[],[],[3],[4],[2,5],[6],[1,7],[8],[],[10],[11],[],[13],[14],[],[16],[17],[15,18],[9,12,19],[20],[0,1,2,3,4,5,6,7,8,9,10,11,12,13,14,15,16,17,18,19,20,21],[22,21,21,0,1,2,3,4,5,6,7,8,9,10,11,12,13,14,15,16,17,18,19,20,21]] [1,6,19,55,57,58,59,60,61,62,63,64,65,66,67,68,69,70,71,72,73,74,75,76,77,78,79] [.o [.faddr 57 1 (.t 4),.ld 58 1 false (.t 57),.mov 59 (.t 6),.faddr 60 4 (.t 1),.faddr 61 2 (.t 60),.ld 62 1 false (.t 61),.iaddr 63 1 (.t 59) (.t 62),.ld 64 1 false (.t 63),.iaddr 65 1 (.t 58) (.t 64),.ld 66 1 false (.t 65),.faddr 67 4 (.t 1),.faddr 68 3 (.t 67),.ld 69 1 false (.t 68),.faddr 70 4 (.t 1),.faddr 71 3 (.t 70),.ld 72 1 false (.t 71),.faddr 73 4 (.t 1),.faddr 74 4 (.t 73),.ld 75 1 false (.t 74),.bin 76 .add (.t 72) (.t 75),.slice 77 1 (.t 66) (some (.t 69)) (some (.t 76))],.call none 78 108 [(.t 77)],.o [.faddr 79 3 (.t 5),.st 1 (.t 79) (.t 78)]])
def zwr:Cd:=(.draw [[],[0],[],[],[3],[4],[2,5],[6],[1,7],[8],[],[10],[11],[9,12],[],[14],[15],[13,16]] [1,6,19,80,82,83,84,85,86,87,88,89,90,91,92,93,94,95,96,97,98,99] [.o [.faddr 82 1 (.t 4),.ld 83 1 false (.t 82),.mov 84 (.t 6),.faddr 85 4 (.t 1),.faddr 86 2 (.t 85),.ld 87 1 false (.t 86),.iaddr 88 1 (.t 84) (.t 87),.ld 89 1 false (.t 88),.iaddr 90 1 (.t 83) (.t 89),.ld 91 1 false (.t 90),.faddr 92 4 (.t 1),.faddr 93 3 (.t 92),.ld 94 1 false (.t 93),.slice 95 1 (.t 91) (some (.t 94)) none,.faddr 96 4 (.t 1),.faddr 97 5 (.t 96),.ld 98 1 false (.t 97),.cpy 99 1 (.t 95) (.t 98)]])
def zws:Cd:=(.reg [1,6,19,100,102,103,104,105,106] [.o [.mov 102 (.t 6),.faddr 103 4 (.t 1),.faddr 104 2 (.t 103),.ld 105 1 false (.t 104),.iaddr 106 1 (.t 102) (.t 105),.st 1 (.t 106) (cI (-1))]])
def zwt:Cd:=(.draw [[],[0],[],[2],[3],[],[5],[],[7],[8],[],[1,4,0,1,2,3,4],[11,0,1,2,3,4],[6,9,0,1,2,3,4,5,6,7,8,9,10,11,12],[13,10,12,0,1,2,3,4,5,6,7,8,9,10,11,12]] [1,107,109,110,111,112,113,114,115,116,117,118,119,120,121] [.o [.faddr 109 0 (.t 4),.ld 110 1 false (.t 109),.faddr 111 4 (.t 1),.faddr 112 1 (.t 111),.ld 113 1 false (.t 112),.faddr 114 1 (.t 4),.ld 115 1 false (.t 114),.faddr 116 4 (.t 1),.faddr 117 1 (.t 116),.ld 118 1 false (.t 117),.make 119 1 1 [(.sc (.int .u8 0))] (cI 16) (cI 16),.iaddr 120 1 (.t 110) (.t 113),.st 1 (.t 120) (cB false),.iaddr 121 1 (.t 115) (.t 118),.st 1 (.t 121) (.t 119)]])
def y7d:Cd:=(.cond (.t 107) zwt .skip)
def y7e:Cd:=(.seq (.reg [6,19,100,108] [.o [.bin 108 .eql (.t 19) (cI 8),.asg 107 (.t 108)]]) y7d)
def y7f:Cd:=(.cond (.t 100) zws y7e)
def y7g:Cd:=(.seq (.reg [80,101] [.o [.bin 101 .eql (.t 19) (cI 5),.asg 100 (.t 101)]]) y7f)
def y7h:Cd:=(.cond (.t 80) zwr y7g)
def y7i:Cd:=(.seq (.reg [55,81] [.o [.bin 81 .eql (.t 19) (cI 4),.asg 80 (.t 81)]]) y7h)
def y7j:Cd:=(.cond (.t 55) zwq y7i)
def y7k:Cd:=(.seq (.reg [40,56] [.o [.bin 56 .eql (.t 19) (cI 3),.asg 55 (.t 56)]]) y7j)
def y7l:Cd:=(.cond (.t 40) zwp y7k)
def y7m:Cd:=(.seq (.reg [20,41] [.o [.bin 41 .eql (.t 19) (cI 2),.asg 40 (.t 41)]]) y7l)
def y7n:Cd:=(.cond (.t 20) zwo y7m)
def z7w:Cd:=(.block 0 (.seq (.reg [21] [.o [.bin 21 .eql (.t 19) (cI 1),.asg 20 (.t 21)]]) y7n))
def zua:Cd:=(.seq (.draw [[],[],[0,0],[1,2,0,1,2]] [4,5,1,107,122,123] [.o [.ld 122 3 true (.t 4),.ld 123 4 true (.t 5),.st 3 (.t 2) (.t 122),.st 4 (.t 3) (.t 123)]]) .ret)
def y7o:Cd:=(.seq (.seq (.reg [17,18] [.o [.faddr 17 4 (.t 1),.faddr 18 0 (.t 17),.ld 19 1 false (.t 18)]]) z7w) zua)
def y7p:Cd:=(.seq (.reg [11,12,13,14,15,16] [.o [.faddr 11 2 (.t 4),.ld 12 1 false (.t 11),.faddr 13 3 (.t 1),.ld 14 1 false (.t 13),.iaddr 15 1 (.t 12) (.t 14),.ld 16 1 false (.t 15),.asg 6 (.t 16)]]) y7o)
def y7q:Cd:=(.seq (.reg [7,8,9,10] [.o [.faddr 7 0 (.t 1),.ld 8 3 true (.t 7)],.call none 9 146 [(.t 8)],.o [.build 10 [(.sc (.int .i64 0)),(.sc (.int .i64 0)),(.sc (.int .i64 0)),(.sc (.slice none 0 0))] [],.alloc 4 [(.sl true () 1 0 []),(.sl true () 1 0 []),(.sl true () 1 0 [])],.alloc 5 [(.sc (.int .i64 0)),(.sc (.int .i64 0)),(.sc (.int .i64 0)),(.sl true () 1 0 [])],.st 3 (.t 4) (.t 9),.st 4 (.t 5) (.t 10)]]) y7p)
def z9z:FI:=⟨124,1,[.cell 2 3 true,.cell 3 4 true],(.seq (.reg [0] [.o [.box 1 (.t 0),.alloc 2 [(.sl true () 1 0 []),(.sl true () 1 0 []),(.sl true () 1 0 [])],.alloc 3 [(.sc (.int .i64 0)),(.sc (.int .i64 0)),(.sc (.int .i64 0)),(.sl true () 1 0 [])]]]) y7q)⟩
theorem yxh:z25 Try.prog 99 z9z:=⟨_,_,Try.func99,rfl,by kernel_rfl,by kernel_rfl,Try.call99⟩
def y7r:Cd:=(.seq (.reg [0,1,5,6,7,8,9] [.o [.mov 5 (.t 0),.b2s 6 (.t 5),.mov 7 (.t 1),.b2s 8 (.t 7),.bin 9 .eql (.t 6) (.t 8),.asg 4 (.t 9)]]) .ret)
def y7s:FI:=⟨10,2,[.t 4],(.seq (.reg [4] [.o [.asg 4 (cB false)]]) y7r)⟩
theorem yq1:z25 Try.prog 102 y7s:=⟨_,_,Try.func102,rfl,by kernel_rfl,by kernel_rfl,Try.call102⟩
def y7t:Cd:=(.seq (.reg [0,4] [.o [.asg 2 (.c (.sl true () 1 0 []))]]) .ret)
def y7u:Cd:=(.cond (.t 4) y7t .skip)
def y7v:Cd:=(.seq (.reg [0,4,5,6,7] [.o [.bs0 5 1,.mov 6 (.t 0),.app 7 1 1 (.t 5) (.t 6),.asg 2 (.t 7)]]) .ret)
def y7w:Cd:=(.seq (.seq (.reg [3] [.o [.mov 3 (.t 0)],.nilq 4 true (.t 3)]) y7u) y7v)
def zwu:FI:=⟨8,1,[.t 2],(.seq (.reg [2] [.o [.asg 2 (.c (.sl true () 1 0 []))]]) y7w)⟩
theorem yq2:z25 Try.prog 108 zwu:=⟨_,_,Try.func108,rfl,by kernel_rfl,by kernel_rfl,Try.call108⟩
def y7x:Cd:=(.seq (.reg [6,7,18,19,20,21] [.o [.mov 18 (.t 6),.conv 19 .u64 (.t 18),.mov 20 (.t 7),.conv 21 .u64 (.t 20),.asg 4 (.t 19),.asg 5 (.t 21)]]) .ret)
def y7y:Cd:=(.seq (.reg [0,1,11,12,13,14,15,10,16,17] [.o [.mov 11 (.t 0),.conv 12 .u32 (.t 11),.mov 13 (.t 1),.conv 14 .u32 (.t 13)],.call none 15 165 [(.t 12),(.t 14)],.o [.mov 10 (.t 15),.ext 16 10 0,.ext 17 10 1,.asg 6 (.t 16),.asg 7 (.t 17)]]) y7x)
def y7z:Cd:=(.seq (.reg [8,9,28,29] [.o [.mov 28 (.t 8),.mov 29 (.t 9),.asg 4 (.t 28),.asg 5 (.t 29)]]) .ret)
def y80:Cd:=(.seq (.reg [0,1,23,24,25,22,26,27] [.o [.mov 23 (.t 0),.mov 24 (.t 1)],.call none 25 166 [(.t 23),(.t 24)],.o [.mov 22 (.t 25),.ext 26 22 0,.ext 27 22 1,.asg 8 (.t 26),.asg 9 (.t 27)]]) y7z)
def y81:Cd:=(.seq (.cond (cB false) y7y .skip) y80)
def y82:FI:=⟨30,2,[.t 4,.t 5],(.seq (.reg [4,5] [.o [.asg 4 (.c (.sc (.int .u64 0))),.asg 5 (.c (.sc (.int .u64 0)))]]) y81)⟩
theorem yq3:z25 Try.prog 140 y82:=⟨_,_,Try.func140,rfl,by kernel_rfl,by kernel_rfl,Try.call140⟩
def y83:Cd:=(.seq (.reg [0,1,5,6,7,8] [.o [.mov 5 (.t 0),.mov 6 (.t 1)],.call none 7 131 [(.t 5),(.t 6)],.o [.bin 8 .geq (.t 7) (cI 0),.asg 4 (.t 8)]]) .ret)
def y84:FI:=⟨9,2,[.t 4],(.seq (.reg [4] [.o [.asg 4 (cB false)]]) y83)⟩
theorem yq4:z25 Try.prog 141 y84:=⟨_,_,Try.func141,rfl,by kernel_rfl,by kernel_rfl,Try.call141⟩
def y85:Cd:=(.seq (.reg [0,1,4,5,6,7,8,9,10,11] [.o [.mov 4 (.t 0),.bin 5 .neq (.t 4) (cI (-1)),.mov 6 (.t 5)],.g 6 true [.ld 7 3 true (.t 1),.mov 8 (.t 0)],.call (some (6,true)) 9 143 [(.t 7),(.t 8)],.g 6 true [.un 10 .not (.t 9)],.o [.pick 11 (.t 6) (.t 10) (cB false),.asg 3 (.t 11)]]) .ret)
def zwv:FI:=⟨12,2,[.t 3],(.seq (.reg [3] [.o [.asg 3 (cB false)]]) y85)⟩
theorem yq5:z25 Try.prog 142 zwv:=⟨_,_,Try.func142,rfl,by kernel_rfl,by kernel_rfl,Try.call142⟩
def y86:Cd:=(.seq (.reg [1,2,5,6,7,8,9,10,11,12,13,14,15,16,17,18,19,20] [.o [.mov 5 (.t 1),.bin 6 .geq (.t 5) (cI 0),.mov 7 (.t 6)],.g 7 true [.mov 8 (.t 1),.faddr 9 0 (.t 2),.ld 10 1 false (.t 9),.len 11 (.t 10),.bin 12 .lss (.t 8) (.t 11)],.o [.pick 13 (.t 7) (.t 12) (cB false),.mov 14 (.t 13)],.g 14 true [.faddr 15 0 (.t 2),.ld 16 1 false (.t 15),.mov 17 (.t 1),.iaddr 18 1 (.t 16) (.t 17),.ld 19 1 false (.t 18)],.o [.pick 20 (.t 14) (.t 19) (cB false),.asg 4 (.t 20)]]) .ret)
def zsf:FI:=⟨21,2,[.t 4],(.seq (.reg [0,4] [.o [.box 2 (.t 0),.asg 4 (cB false)]]) y86)⟩
theorem yq6:z25 Try.prog 143 zsf:=⟨_,_,Try.func143,rfl,by kernel_rfl,by kernel_rfl,Try.call143⟩
def y87:Cd:=(.seq (.reg [0,1,5,6,7,8] [.o [.mov 5 (.t 0),.mov 6 (.t 1)],.call none 7 147 [(.t 5),(.t 6)],.o [.bin 8 .geq (.t 7) (cI 0),.asg 4 (.t 8)]]) .ret)
def y88:FI:=⟨9,2,[.t 4],(.seq (.reg [4] [.o [.asg 4 (cB false)]]) y87)⟩
theorem yq7:z25 Try.prog 144 y88:=⟨_,_,Try.func144,rfl,by kernel_rfl,by kernel_rfl,Try.call144⟩
def y89:Cd:=(.seq (.reg [1,2,11] [.o [.asg 4 (cI 0)]]) .ret)
def y8a:Cd:=(.cond (.t 11) y89 .skip)
def y8b:Cd:=(.cond (.t 27) (.exit 3) .skip)
def y8c:Cd:=(.reg [27,28,29] [.o [.mov 28 (.t 5),.bin 29 .add (.t 28) (cI 1),.asg 5 (.t 29)]])
def y8d:Cd:=(.seq (.seq (.reg [9,25,26] [.o [.mov 25 (.t 9),.mov 26 (.t 1),.bin 27 .neq (.t 25) (.t 26)]]) y8b) y8c)
def y8e:Cd:=(.reg [30] [.o [.bin 30 .add (.t 21) (cI 1),.mov 21 (.t 30)]])
def y8f:Cd:=(.seq (.block 3 (.seq (.reg [22,23,24] [.o [.iaddr 23 1 (.t 19) (.t 21),.ld 24 1 false (.t 23),.asg 9 (.t 24)]]) y8d)) y8e)
def y8g:Cd:=(.seq (.cond (.t 22) .skip (.exit 2)) y8f)
def y8h:Cd:=(.seq (.reg [] [.o [.bin 22 .lss (.t 21) (.t 20)]]) y8g)
def y8i:Cd:=(.block 2 (.loop y8h))
def zww:Cd:=(.seq (.reg [7] [.o [.mov 19 (.t 7),.len 20 (.t 19),.mov 21 (cI 0)]]) y8i)
def zwx:Cd:=(.scope (.seq (.label 0) zww))
def zwy:Cd:=(.reg [19,20,21,22,31] [.o [.bin 31 .add (.t 15) (cI 1),.mov 15 (.t 31)]])
def zwz:Cd:=(.seq (.block 1 (.seq (.reg [16,17,18] [.o [.iaddr 17 1 (.t 13) (.t 15),.ld 18 1 false (.t 17),.asg 7 (.t 18)]]) zwx)) zwy)
def zx0:Cd:=(.seq (.cond (.t 16) .skip (.exit 0)) zwz)
def zx1:Cd:=(.seq (.reg [] [.o [.bin 16 .lss (.t 15) (.t 14)]]) zx0)
def zx2:Cd:=(.block 0 (.loop zx1))
def zx3:Cd:=(.seq (.reg [1,5,13,14,15,16,32] [.o [.mov 32 (.t 5),.asg 4 (.t 32)]]) .ret)
def zx4:Cd:=(.seq (.seq (.reg [2,12] [.o [.faddr 12 2 (.t 2),.ld 13 1 false (.t 12),.len 14 (.t 13),.mov 15 (cI 0)]]) zx2) zx3)
def zx5:Cd:=(.seq (.reg [11] [.o [.asg 5 (cI 0)]]) zx4)
def zx6:Cd:=(.seq (.seq (.reg [10] [.o [.mov 10 (.t 1),.bin 11 .lss (.t 10) (cI 0)]]) y8a) zx5)
def zx7:FI:=⟨33,2,[.t 4],(.seq (.reg [0,4] [.o [.box 2 (.t 0),.asg 4 (cI 0)]]) zx6)⟩
theorem yq8:z25 Try.prog 145 zx7:=⟨_,_,Try.func145,rfl,by kernel_rfl,by kernel_rfl,Try.call145⟩
def y8j:Cd:=(.draw [[],[0],[],[2],[3],[1,4,3],[0,1,2,3,4,5],[6,5,5,0,1,2,3,4,5]] [5,19,20,21,22,23,24,25] [.o [.faddr 19 1 (.t 3),.ld 20 1 false (.t 19),.mov 21 (.t 5)],.call none 22 108 [(.t 21)],.o [.bs1 23 1 (.t 22),.app 24 1 24 (.t 20) (.t 23),.faddr 25 1 (.t 3),.st 1 (.t 25) (.t 24)]])
def y8k:Cd:=(.reg [26] [.o [.bin 26 .add (.t 15) (cI 1),.mov 15 (.t 26)]])
def y8l:Cd:=(.seq (.block 1 (.seq (.reg [16,17,18] [.o [.iaddr 17 1 (.t 13) (.t 15),.ld 18 1 false (.t 17),.asg 5 (.t 18)]]) y8j)) y8k)
def y8m:Cd:=(.seq (.cond (.t 16) .skip (.exit 0)) y8l)
def y8n:Cd:=(.seq (.reg [] [.o [.bin 16 .lss (.t 15) (.t 14)]]) y8m)
def y8o:Cd:=(.block 0 (.loop y8n))
def y8p:Cd:=(.draw [[],[0],[],[2],[3],[1,4,3],[0,1,2,3,4,5],[6,5,5,0,1,2,3,4,5]] [7,34,35,36,37,38,39,40] [.o [.faddr 34 2 (.t 3),.ld 35 1 false (.t 34),.mov 36 (.t 7)],.call none 37 130 [(.t 36)],.o [.bs1 38 1 (.t 37),.app 39 1 24 (.t 35) (.t 38),.faddr 40 2 (.t 3),.st 1 (.t 40) (.t 39)]])
def y8q:Cd:=(.reg [41] [.o [.bin 41 .add (.t 30) (cI 1),.mov 30 (.t 41)]])
def y8r:Cd:=(.seq (.block 3 (.seq (.reg [31,32,33] [.o [.iaddr 32 1 (.t 28) (.t 30),.ld 33 1 false (.t 32),.asg 7 (.t 33)]]) y8p)) y8q)
def y8s:Cd:=(.seq (.cond (.t 31) .skip (.exit 2)) y8r)
def zx8:Cd:=(.seq (.reg [] [.o [.bin 31 .lss (.t 30) (.t 29)]]) y8s)
def zx9:Cd:=(.block 2 (.loop zx8))
def zxa:Cd:=(.seq (.reg [3,28,29,30,31,42] [.o [.ld 42 3 true (.t 3),.st 3 (.t 2) (.t 42)]]) .ret)
def zxb:Cd:=(.seq (.seq (.reg [1,13,14,15,16,27] [.o [.faddr 27 2 (.t 1),.ld 28 1 false (.t 27),.len 29 (.t 28),.mov 30 (cI 0)]]) zx9) zxa)
def zxc:Cd:=(.seq (.seq (.reg [12] [.o [.faddr 12 1 (.t 1),.ld 13 1 false (.t 12),.len 14 (.t 13),.mov 15 (cI 0)]]) y8o) zxb)
def zxd:Cd:=(.seq (.reg [8,9,10,11] [.o [.faddr 8 0 (.t 1),.ld 9 1 false (.t 8)],.call none 10 167 [(.t 9)],.o [.build 11 [(.sc (.slice none 0 0)),(.sc (.slice none 0 0)),(.sc (.slice none 0 0))] [(0,1,(.t 10))],.alloc 3 [(.sl true () 1 0 []),(.sl true () 1 0 []),(.sl true () 1 0 [])],.st 3 (.t 3) (.t 11)]]) zxc)
def y8t:FI:=⟨43,1,[.cell 2 3 true],(.seq (.reg [0] [.o [.box 1 (.t 0),.alloc 2 [(.sl true () 1 0 []),(.sl true () 1 0 []),(.sl true () 1 0 [])]]]) zxd)⟩
theorem yq9:z25 Try.prog 146 y8t:=⟨_,_,Try.func146,rfl,by kernel_rfl,by kernel_rfl,Try.call146⟩
def y8u:Cd:=(.seq (.reg [0,1,7,8,5,16,17] [.o [.mov 17 (.t 5),.asg 4 (.t 17)]]) .ret)
def y8v:Cd:=(.cond (.t 16) y8u .skip)
def y8w:Cd:=(.seq (.reg [11,12,13,14,15] [.o [.mov 11 (.t 1),.mov 12 (.t 0),.mov 13 (.t 5),.iaddr 14 1 (.t 12) (.t 13),.ld 15 1 false (.t 14),.beq 16 true (.t 11) (.t 15)]]) y8v)
def y8x:Cd:=(.reg [5,16,18] [.o [.bin 18 .add (.t 8) (cI 1),.mov 8 (.t 18)]])
def y8y:Cd:=(.seq (.block 1 (.seq (.reg [9,10] [.o [.mov 10 (.t 8),.asg 5 (.t 10)]]) y8w)) y8x)
def y8z:Cd:=(.seq (.cond (.t 9) .skip (.exit 0)) y8y)
def y90:Cd:=(.seq (.reg [] [.o [.bin 9 .lss (.t 8) (.t 7)]]) y8z)
def y91:Cd:=(.block 0 (.loop y90))
def y92:Cd:=(.seq (.reg [0,1,7,8,9] [.o [.asg 4 (cI (-1))]]) .ret)
def y93:Cd:=(.seq (.seq (.reg [6] [.o [.mov 6 (.t 0),.len 7 (.t 6),.mov 8 (cI 0)]]) y91) y92)
def zxe:FI:=⟨19,2,[.t 4],(.seq (.reg [4] [.o [.asg 4 (cI 0)]]) y93)⟩
theorem yqa:z25 Try.prog 147 zxe:=⟨_,_,Try.func147,rfl,by kernel_rfl,by kernel_rfl,Try.call147⟩
def yqb:Cd:=(.seq (.reg [0,1,5,6,7,8] [.o [.mov 5 (.t 0),.mov 6 (.t 1)],.call none 7 134 [(.t 5),(.t 6)],.o [.bin 8 .geq (.t 7) (cI 0),.asg 4 (.t 8)]]) .ret)
def ywm:FI:=⟨9,2,[.t 4],(.seq (.reg [4] [.o [.asg 4 (cB false)]]) yqb)⟩
theorem yxi:z25 Try.prog 86 ywm:=⟨_,_,Try.func86,rfl,by kernel_rfl,by kernel_rfl,Try.call86⟩
def y94:Cd:=(.seq (.reg [0,4] [.o [.asg 2 (.c (.sl true () 1 0 []))]]) .ret)
def y95:Cd:=(.cond (.t 4) y94 .skip)
def y96:Cd:=(.seq (.reg [0,4,5,6,7] [.o [.bs0 5 1,.mov 6 (.t 0),.app 7 1 8 (.t 5) (.t 6),.asg 2 (.t 7)]]) .ret)
def y97:Cd:=(.seq (.seq (.reg [3] [.o [.mov 3 (.t 0)],.nilq 4 true (.t 3)]) y95) y96)
def zxf:FI:=⟨8,1,[.t 2],(.seq (.reg [2] [.o [.asg 2 (.c (.sl true () 1 0 []))]]) y97)⟩
theorem yqc:z25 Try.prog 130 zxf:=⟨_,_,Try.func130,rfl,by kernel_rfl,by kernel_rfl,Try.call130⟩
def y98:Cd:=(.seq (.reg [0,1,7,8,5,16,17] [.o [.mov 17 (.t 5),.asg 4 (.t 17)]]) .ret)
def y99:Cd:=(.cond (.t 16) y98 .skip)
def y9a:Cd:=(.seq (.reg [11,12,13,14,15] [.o [.mov 11 (.t 1),.mov 12 (.t 0),.mov 13 (.t 5),.iaddr 14 1 (.t 12) (.t 13),.ld 15 1 false (.t 14)],.clo none 16 11 [(.t 15)]]) y99)
def y9b:Cd:=(.reg [5,16,18] [.o [.bin 18 .add (.t 8) (cI 1),.mov 8 (.t 18)]])
def y9c:Cd:=(.seq (.block 1 (.seq (.reg [9,10] [.o [.mov 10 (.t 8),.asg 5 (.t 10)]]) y9a)) y9b)
def y9d:Cd:=(.seq (.cond (.t 9) .skip (.exit 0)) y9c)
def y9e:Cd:=(.seq (.reg [] [.o [.bin 9 .lss (.t 8) (.t 7)]]) y9d)
def y9f:Cd:=(.block 0 (.loop y9e))
def y9g:Cd:=(.seq (.reg [0,1,7,8,9] [.o [.asg 4 (cI (-1))]]) .ret)
def y9h:Cd:=(.seq (.seq (.reg [6] [.o [.mov 6 (.t 0),.len 7 (.t 6),.mov 8 (cI 0)]]) y9f) y9g)
def zxg:FI:=⟨19,2,[.t 4],(.seq (.reg [4] [.o [.asg 4 (cI 0)]]) y9h)⟩
theorem yqd:z25 Try.prog 131 zxg:=⟨_,_,Try.func131,rfl,by kernel_rfl,by kernel_rfl,Try.call131⟩
def y9i:Cd:=(.seq (.reg [0,1,7,8,5,16,17] [.o [.mov 17 (.t 5),.asg 4 (.t 17)]]) .ret)
def y9j:Cd:=(.cond (.t 16) y9i .skip)
def y9k:Cd:=(.seq (.reg [11,12,13,14,15] [.o [.mov 11 (.t 1),.mov 12 (.t 0),.mov 13 (.t 5),.iaddr 14 1 (.t 12) (.t 13),.ld 15 1 false (.t 14),.bin 16 .eql (.t 11) (.t 15)]]) y9j)
def y9l:Cd:=(.reg [5,16,18] [.o [.bin 18 .add (.t 8) (cI 1),.mov 8 (.t 18)]])
def y9m:Cd:=(.seq (.block 1 (.seq (.reg [9,10] [.o [.mov 10 (.t 8),.asg 5 (.t 10)]]) y9k)) y9l)
def y9n:Cd:=(.seq (.cond (.t 9) .skip (.exit 0)) y9m)
def y9o:Cd:=(.seq (.reg [] [.o [.bin 9 .lss (.t 8) (.t 7)]]) y9n)
def y9p:Cd:=(.block 0 (.loop y9o))
def y9q:Cd:=(.seq (.reg [0,1,7,8,9] [.o [.asg 4 (cI (-1))]]) .ret)
def y9r:Cd:=(.seq (.seq (.reg [6] [.o [.mov 6 (.t 0),.len 7 (.t 6),.mov 8 (cI 0)]]) y9p) y9q)
def zxh:FI:=⟨19,2,[.t 4],(.seq (.reg [4] [.o [.asg 4 (cI 0)]]) y9r)⟩
theorem yqe:z25 Try.prog 134 zxh:=⟨_,_,Try.func134,rfl,by kernel_rfl,by kernel_rfl,Try.call134⟩
def y9s:Cd:=(.seq (.reg [2,3,5,6,7,8,9,10,11,12,13,14,15,16,17,18,19,20,21,22,23,24,25,26,27,28,29,30] [.o [.faddr 5 0 (.t 2),.ld 6 1 false (.t 5),.faddr 7 0 (.t 3),.ld 8 1 false (.t 7),.bin 9 .eql (.t 6) (.t 8),.mov 10 (.t 9)],.g 10 true [.faddr 11 1 (.t 2),.ld 12 1 false (.t 11),.faddr 13 1 (.t 3),.ld 14 1 false (.t 13),.bin 15 .eql (.t 12) (.t 14)],.o [.pick 16 (.t 10) (.t 15) (cB false),.mov 17 (.t 16)],.g 17 true [.faddr 18 2 (.t 2),.ld 19 1 false (.t 18),.faddr 20 2 (.t 3),.ld 21 1 false (.t 20),.bin 22 .eql (.t 19) (.t 21)],.o [.pick 23 (.t 17) (.t 22) (cB false),.mov 24 (.t 23)],.g 24 true [.faddr 25 3 (.t 2),.ld 26 1 false (.t 25),.faddr 27 3 (.t 3),.ld 28 1 false (.t 27)],.call (some (24,true)) 29 102 [(.t 26),(.t 28)],.o [.pick 30 (.t 24) (.t 29) (cB false),.asg 4 (.t 30)]]) .ret)
def zom:FI:=⟨31,2,[.t 4],(.seq (.reg [0,1,4] [.o [.box 2 (.t 0),.box 3 (.t 1),.asg 4 (cB false)]]) y9s)⟩
theorem yqf:z25 Try.prog 136 zom:=⟨_,_,Try.func136,rfl,by kernel_rfl,by kernel_rfl,Try.call136⟩
def y9t:Cd:=(.seq (.reg [0,1,48,49,50] [.o [.mov 48 (.t 0),.mov 49 (.t 1),.bin 50 .mul (.t 48) (.t 49),.asg 5 (.t 50)]]) .ret)
def y9u:Cd:=(.seq (.reg [7,9,12,13,40,41,42,43,44,45,46,47] [.o [.mov 40 (.t 7),.mov 41 (.t 9),.bin 42 .mul (.t 40) (.t 41),.mov 43 (.t 13),.bin 44 .add (.t 42) (.t 43),.mov 45 (.t 12),.bin 46 .shr (.t 45) (.c (.sc (.int .u64 32))),.bin 47 .add (.t 44) (.t 46),.asg 4 (.t 47)]]) y9t)
def y9v:Cd:=(.seq (.reg [6,35,36,37,38,39] [.o [.mov 35 (.t 12),.mov 36 (.t 6),.mov 37 (.t 9),.bin 38 .mul (.t 36) (.t 37),.bin 39 .add (.t 35) (.t 38),.asg 12 (.t 39)]]) y9u)
def y9w:Cd:=(.seq (.reg [11,33,34] [.o [.mov 33 (.t 11),.bin 34 .shr (.t 33) (.c (.sc (.int .u64 32))),.asg 13 (.t 34)]]) y9v)
def y9x:Cd:=(.seq (.reg [31,32] [.o [.mov 31 (.t 11),.bin 32 .and (.t 31) (.c (.sc (.int .u64 4294967295))),.asg 12 (.t 32)]]) y9w)
def y9y:Cd:=(.seq (.reg [8,10,25,26,27,28,29,30] [.o [.mov 25 (.t 7),.mov 26 (.t 8),.bin 27 .mul (.t 25) (.t 26),.mov 28 (.t 10),.bin 29 .shr (.t 28) (.c (.sc (.int .u64 32))),.bin 30 .add (.t 27) (.t 29),.asg 11 (.t 30)]]) y9x)
def y9z:Cd:=(.seq (.reg [22,23,24] [.o [.mov 22 (.t 6),.mov 23 (.t 8),.bin 24 .mul (.t 22) (.t 23),.asg 10 (.t 24)]]) y9y)
def ya0:Cd:=(.seq (.reg [20,21] [.o [.mov 20 (.t 1),.bin 21 .shr (.t 20) (.c (.sc (.int .u64 32))),.asg 9 (.t 21)]]) y9z)
def ya1:Cd:=(.seq (.reg [18,19] [.o [.mov 18 (.t 1),.bin 19 .and (.t 18) (.c (.sc (.int .u64 4294967295))),.asg 8 (.t 19)]]) ya0)
def ya2:Cd:=(.seq (.reg [16,17] [.o [.mov 16 (.t 0),.bin 17 .shr (.t 16) (.c (.sc (.int .u64 32))),.asg 7 (.t 17)]]) ya1)
def zxi:Cd:=(.seq (.reg [14,15] [.o [.mov 14 (.t 0),.bin 15 .and (.t 14) (.c (.sc (.int .u64 4294967295))),.asg 6 (.t 15)]]) ya2)
def ya3:FI:=⟨51,2,[.t 4,.t 5],(.seq (.reg [4,5] [.o [.asg 4 (.c (.sc (.int .u64 0))),.asg 5 (.c (.sc (.int .u64 0)))]]) zxi)⟩
theorem yqg:z25 Try.prog 166 ya3:=⟨_,_,Try.func166,rfl,by kernel_rfl,by kernel_rfl,Try.call166⟩
def ya4:Cd:=(.seq (.reg [0,4] [.o [.asg 2 (.c (.sl true () 1 0 []))]]) .ret)
def ya5:Cd:=(.cond (.t 4) ya4 .skip)
def ya6:Cd:=(.seq (.reg [0,4,5,6,7] [.o [.bs0 5 1,.mov 6 (.t 0),.app 7 1 1 (.t 5) (.t 6),.asg 2 (.t 7)]]) .ret)
def ya7:Cd:=(.seq (.seq (.reg [3] [.o [.mov 3 (.t 0)],.nilq 4 true (.t 3)]) ya5) ya6)
def zxj:FI:=⟨8,1,[.t 2],(.seq (.reg [2] [.o [.asg 2 (.c (.sl true () 1 0 []))]]) ya7)⟩
theorem yqh:z25 Try.prog 167 zxj:=⟨_,_,Try.func167,rfl,by kernel_rfl,by kernel_rfl,Try.call167⟩
abbrev sB (o:Bool)(l:List Bool):AU:=.sl o () 1 l.length (l.map bl)
abbrev sI (o:Bool)(l:List Int):AU:=.sl o () 1 l.length (l.map i64)
abbrev sU (o:Bool)(l:List UInt8):AU:=.sl o () 1 l.length (l.map fun b=>u8 (b.toNat:Int))
def z0c (n:Nat):Prop:=n≤1000000000
theorem z01 {x:Int}(h:-9223372036854775808≤x)(h':x < 9223372036854775808):IntKind.wrap .i64 x=x:=IntWalk.i64_in x ⟨h,by omega⟩
theorem z0p {i n:Nat}(h:z0c n)(hi:i < n):IntKind.wrap .i64 ((i:Int)+1)=((i+1:Nat):Int):=by
 unfold z0c at h
 rw[z01 (by omega) (by omega)];simp
def ixF {α:Type}(p:α→Bool):List α→Nat→Int
 | [],_=>-1
 | x :: l,i=>if p x=true then (i:Int) else ixF p l (i+1)
theorem z6h {α:Type}(p:α→Bool)(l:List α)(i:Nat)(h:i < l.length):ixF p (l.drop i) i=if p l[i]=true then (i:Int) else ixF p (l.drop (i+1)) (i+1):=by
 rw[s6 h];rfl
theorem zbe {α:Type}(p:α→Bool)(l:List α)(i:Nat)(h:¬ i < l.length):ixF p (l.drop i) i=-1:=by
 rw[rx (by omega)];rfl
theorem zbf (l:List Int)(v:Int)(hl:z0c l.length):FnC Try.prog 134 [] [sI false l,i64 v] [] (i64 (ixF (· == v) l 0)):=by
 refine wc yqe rfl ?_
 refine WL.sreg (by simp;rfl) (by simp;rfl) ?_
 refine WL.seq (WL.sreg (by simp;rfl) (by simp;rfl) ?_)
 refine WL.block (we l.length (fun i=>[(0,0,sI false l),(100,0,i64 v),(700,0,i64 l.length),(800,0,i64 i)]) (fun i=>ixF (· == v) (l.drop i) i=ixF (· == v) l 0) rfl rfl fun i hi hinv=>?_)
 by_cases h:i < l.length
 ·refine WL.sreg (by simp[h];rfl) (by simp;rfl) ?_
  refine WL.seq (WL.cond (t:=true) (by simp) (fun _=>WL.skip ?_) (by simp))
  refine WL.seq (WL.block (WL.sreg (by simp;rfl) (by simp;rfl) ?_))
  refine WL.sreg (by simp[h];rfl) (by simp;rfl) ?_
  rw[z6h _ _ _ h] at hinv
  refine WL.cond (t:=v == l[i]) (by simp) (fun hv=>?_) (fun hv=>?_)
  ·have hv':l[i]=v:=by simp at hv;exact hv.symm
   rw[if_pos (by simp[hv'])] at hinv
   refine WL.sreg (by simp;rfl) (by simp;rfl) (WL.ret ⟨.inr rfl,?_⟩)
   simp[zxh,hinv]
  ·have hv':¬ l[i]=v:=fun e=>by simp[e] at hv
   refine WL.skip ?_
   refine WL.reg (RL.run (by simp[z0p hl h];rfl) ⟨_,by simp;rfl,?_⟩)
   refine⟨h,by simp,?_⟩
   rw[← hinv];simp[hv']
 ·refine WL.sreg (by simp[h];rfl) (by simp;rfl) ?_
  refine WL.seq (WL.cond (t:=false) (by simp) (by simp) (fun _=>WL.exit ?_))
  simp
  refine WL.sreg (by simp;rfl) (by simp;rfl) (WL.ret ⟨.inr rfl,?_⟩)
  rw[zbe _ _ _ h] at hinv
  simp[zxh,← hinv]
theorem zcv (l:List Bool)(v:Bool)(hl:z0c l.length):FnC Try.prog 147 [] [sB false l,bl v] [] (i64 (ixF (· == v) l 0)):=by
 refine wc yqa rfl ?_
 refine WL.sreg (by simp;rfl) (by simp;rfl) ?_
 refine WL.seq (WL.sreg (by simp;rfl) (by simp;rfl) ?_)
 refine WL.block (we l.length (fun i=>[(0,0,sB false l),(100,0,bl v),(700,0,i64 l.length),(800,0,i64 i)]) (fun i=>ixF (· == v) (l.drop i) i=ixF (· == v) l 0) rfl rfl fun i hi hinv=>?_)
 by_cases h:i < l.length
 ·refine WL.sreg (by simp[h];rfl) (by simp;rfl) ?_
  refine WL.seq (WL.cond (t:=true) (by simp) (fun _=>WL.skip ?_) (by simp))
  refine WL.seq (WL.block (WL.sreg (by simp;rfl) (by simp;rfl) ?_))
  refine WL.sreg (by simp[h];rfl) (by simp;rfl) ?_
  rw[z6h _ _ _ h] at hinv
  refine WL.cond (t:=v == l[i]) (by simp) (fun hv=>?_) (fun hv=>?_)
  ·have hv':l[i]=v:=by simp at hv;exact hv.symm
   rw[if_pos (by simp[hv'])] at hinv
   refine WL.sreg (by simp;rfl) (by simp;rfl) (WL.ret ⟨.inr rfl,?_⟩)
   simp[zxe,hinv]
  ·have hv':¬ l[i]=v:=fun e=>by simp[e] at hv
   refine WL.skip ?_
   refine WL.reg (RL.run (by simp[z0p hl h];rfl) ⟨_,by simp;rfl,?_⟩)
   refine⟨h,by simp,?_⟩
   rw[← hinv];simp[hv']
 ·refine WL.sreg (by simp[h];rfl) (by simp;rfl) ?_
  refine WL.seq (WL.cond (t:=false) (by simp) (by simp) (fun _=>WL.exit ?_))
  simp
  refine WL.sreg (by simp;rfl) (by simp;rfl) (WL.ret ⟨.inr rfl,?_⟩)
  rw[zbe _ _ _ h] at hinv
  simp[zxe,← hinv]
theorem zcw {α:Type}(p:α→Bool):∀ (l:List α) (i:Nat),(0≤ixF p l i) ↔ l.any p=true
 | [],i=>by simp[ixF]
 | x :: l,i=>by
  simp only[ixF,tx]
  split
  ·rename_i h;simp[h]
  ·rename_i h;simp[h,zcw p l (i+1)]
theorem zg4 (l:List Int)(v:Int)(hl:z0c l.length):FnC Try.prog 86 [] [sI false l,i64 v] [] (bl (l.any (· == v))):=by
 refine wc yxi rfl ?_
 refine WL.sreg (by simp;rfl) (by simp;rfl) ?_
 refine w7 (RL.o (by simp;rfl) (RL.call0 false (zbf l v hl) (by simp) (by simp) (RL.o (by simp;rfl) (RL.nil ⟨_,by simp;rfl,WL.ret ⟨.inr rfl,?_⟩⟩))))
 simp only[ywm,RetOk]
 refine⟨_,by simp;rfl,?_,by simp⟩
 simp
 rw[tw]
 simp[← zcw (· == v) l 0]
theorem ze1 (l:List Bool)(v:Bool)(hl:z0c l.length):FnC Try.prog 144 [] [sB false l,bl v] [] (bl (l.any (· == v))):=by
 refine wc yq7 rfl ?_
 refine WL.sreg (by simp;rfl) (by simp;rfl) ?_
 refine w7 (RL.o (by simp;rfl) (RL.call0 false (zcv l v hl) (by simp) (by simp) (RL.o (by simp;rfl) (RL.nil ⟨_,by simp;rfl,WL.ret ⟨.inr rfl,?_⟩⟩))))
 simp only[y88,RetOk]
 refine⟨_,by simp;rfl,?_,by simp⟩
 simp
 rw[tw]
 simp[← zcw (· == v) l 0]
theorem z0t:Try.prog.follows .mixedOrders=true:=by kernel_rfl
@[simp] theorem zub {α β:Type} (f:α→β) (l:List α):List.take l.length (l.map f)=l.map f:=pp (by simp)
theorem zg5:∀ l:List UInt8,u8L (l.map fun b=>u8 (b.toNat:Int))=some (l.map fun b=>(b.toNat:Int))
 | []=>rfl
 | b :: l=>by simp[u8L,zg5 l]
theorem zuc:∀ (l:List UInt8) (r:ByteArray),(((l.map fun b=>(b.toNat:Int)).foldl (fun r n=>r.push (UInt8.ofNat n.toNat)) r).data.toList=r.data.toList ++ l)
 | [],r=>by simp
 | b :: l,r=>by
  simp only[List.map_cons,so]
  rw[zuc l]
  simp[ByteArray.push]
def z3f (l:List UInt8):ByteArray:=⟨l.toArray⟩
theorem zg6 (l:List UInt8):b2s (l.map fun b=>(b.toNat:Int))=z3f l:=by
 have h:=zuc l ByteArray.empty
 have:(b2s (l.map fun b=>(b.toNat:Int))).data.toList=l:=by
  unfold b2s
  rw[h];rfl
 unfold z3f
 cases hb:b2s (l.map fun b=>(b.toNat:Int)) with
 | mk d =>
  rw[hb] at this
  simp only at this
  congr 1
  rw[← this]
attribute [simp] zg5 zg6
theorem z4u (l:List UInt8):(z3f l).toList=l:=by
 rw[Lib.toList_data];rfl
theorem z3g (a b:List UInt8):FnC Try.prog 102 [] [sU false a,sU false b] [] (bl (a == b)):=by
 refine wc yq1 rfl ?_
 refine WL.sreg (by simp;rfl) (by simp;rfl) ?_
 refine WL.sreg (by simp;rfl) (by simp;rfl) (WL.ret ⟨.inr rfl,?_⟩)
 simp[y7s,z4u]
theorem z5j (l:List UInt8)(hl:z0c l.length):FnC Try.prog 108 [] [sU false l] [] (sU true l):=by
 unfold z0c at hl
 refine wc yq2 rfl ?_
 refine WL.sreg (by simp;rfl) (by simp;rfl) ?_
 refine WL.seq (w7 (RL.o (by simp;rfl) (RL.nilq (n:=l.length) (by simp) fun b hb=>RL.nil ⟨_,by simp;rfl,?_⟩)))
 cases b with
 | true =>
  have h0:l=[]:=by
   cases l with
   | nil=>rfl
   | cons x l=>have:=hb (by simp);cases this
  subst h0
  refine WL.cond (t:=true) (by simp) (fun _=>?_) (by simp)
  refine WL.sreg (by simp;rfl) (by simp;rfl) (WL.ret ⟨.inr rfl,?_⟩)
  simp[zwu]
 | false =>
  refine WL.cond (t:=false) (by simp) (by simp) (fun _=>WL.skip ?_)
  have h1:l.length * 8≤140737488355328:=by omega
  have h2:l.length≤140737488355328:=by omega
  have h3:l.length≤maxLen:=by unfold maxLen;omega
  have h4:∀ x ∈ l,True:=fun _ _=>trivial
  refine WL.sreg (by simp[h1,h2,h3];rfl) (by simp;rfl) (WL.ret ⟨.inr rfl,?_⟩)
  simp[zwu]
theorem zli (l:List Bool)(hl:z0c l.length):FnC Try.prog 167 [] [sB false l] [] (sB true l):=by
 unfold z0c at hl
 refine wc yqh rfl ?_
 refine WL.sreg (by simp;rfl) (by simp;rfl) ?_
 refine WL.seq (w7 (RL.o (by simp;rfl) (RL.nilq (n:=l.length) (by simp) fun b hb=>RL.nil ⟨_,by simp;rfl,?_⟩)))
 cases b with
 | true =>
  have h0:l=[]:=by
   cases l with
   | nil=>rfl
   | cons x l=>have:=hb (by simp);cases this
  subst h0
  refine WL.cond (t:=true) (by simp) (fun _=>?_) (by simp)
  refine WL.sreg (by simp;rfl) (by simp;rfl) (WL.ret ⟨.inr rfl,?_⟩)
  simp[zxj]
 | false =>
  refine WL.cond (t:=false) (by simp) (by simp) (fun _=>WL.skip ?_)
  have h1:l.length * 8≤140737488355328:=by omega
  have h2:l.length≤140737488355328:=by omega
  have h3:l.length≤maxLen:=by unfold maxLen;omega
  have h4:∀ x ∈ l,True:=fun _ _=>trivial
  refine WL.sreg (by simp[h1,h2,h3];rfl) (by simp;rfl) (WL.ret ⟨.inr rfl,?_⟩)
  simp[zxj]
theorem zon (l:List Int)(hl:z0c l.length):FnC Try.prog 130 [] [sI false l] [] (sI true l):=by
 unfold z0c at hl
 refine wc yqc rfl ?_
 refine WL.sreg (by simp;rfl) (by simp;rfl) ?_
 refine WL.seq (w7 (RL.o (by simp;rfl) (RL.nilq (n:=l.length) (by simp) fun b hb=>RL.nil ⟨_,by simp;rfl,?_⟩)))
 cases b with
 | true =>
  have h0:l=[]:=by
   cases l with
   | nil=>rfl
   | cons x l=>have:=hb (by simp);cases this
  subst h0
  refine WL.cond (t:=true) (by simp) (fun _=>?_) (by simp)
  refine WL.sreg (by simp;rfl) (by simp;rfl) (WL.ret ⟨.inr rfl,?_⟩)
  simp[zxf]
 | false =>
  refine WL.cond (t:=false) (by simp) (by simp) (fun _=>WL.skip ?_)
  have h1:l.length * 8≤140737488355328:=by omega
  have h2:l.length≤140737488355328:=by omega
  have h3:l.length≤maxLen:=by unfold maxLen;omega
  have h4:∀ x ∈ l,True:=fun _ _=>trivial
  refine WL.sreg (by simp[h1,h2,h3];rfl) (by simp;rfl) (WL.ret ⟨.inr rfl,?_⟩)
  simp[zxf]
structure St where
 There:List Bool
 Body:List (List UInt8)
 Handles:List (List Int)
 deriving DecidableEq
abbrev sUU (o:Bool)(l:List (List UInt8)):AU:=.sl o () 1 l.length (l.map (sU o))
abbrev sII (o:Bool)(l:List (List Int)):AU:=.sl o () 1 l.length (l.map (sI o))
abbrev zcx (o:Bool)(s:St):List AU:=[sB o s.There,sUU o s.Body,sII o s.Handles]
abbrev z6l (o:Bool)(s:St):AU:=.agg (zcx o s)
structure Sized (s:St):Prop where
 t:s.There.length≤1000
 b:s.Body.length≤1000
 h:s.Handles.length≤1000
 bs:∀ b ∈ s.Body,b.length≤1000
 hs:∀ l ∈ s.Handles,l.length≤1000
def z2n (s:St)(p:Int):Bool:=decide (0≤p) && s.There.getD p.toNat false
theorem ze2 (s:St)(p:Int):FnC Try.prog 143 [] [z6l false s,i64 p] [] (bl (z2n s p)):=by
 refine wc yq6 rfl ?_
 refine WL.sreg (by simp;rfl) (by simp;rfl) ?_
 by_cases h0:0≤p
 ·obtain⟨i,rfl⟩:=pt h0
  by_cases h1:i < s.There.length
  ·refine WL.sreg (by simp[h1];rfl) (by simp;rfl) ?_
   refine WL.ret ⟨.inr rfl,?_⟩
   simp[zsf,z2n,h1]
  ·refine WL.sreg (by simp[h1];rfl) (by simp;rfl) ?_
   refine WL.ret ⟨.inr rfl,?_⟩
   simp[zsf,z2n,h1]
 ·refine WL.sreg (by simp[h0];rfl) (by simp;rfl) ?_
  refine WL.ret ⟨.inr rfl,?_⟩
  simp[zsf,z2n,h0]
def zud (s:St)(p:Int):Bool:=p != -1 && !z2n s p
theorem zxk (s:St)(p:Int):FnC Try.prog 142 [] [i64 p,.vptr () (zcx false s)] [] (bl (zud s p)):=by
 refine wc yq5 rfl ?_
 refine WL.sreg (by simp;rfl) (by simp;rfl) ?_
 by_cases h0:p=-1
 ·refine w7 (RL.o (by simp[h0];rfl) (RL.g (by simp;rfl) (RL.callN (by simp) (RL.g (by simp;rfl) (RL.o (by simp;rfl) (RL.nil ⟨_,by simp;rfl,WL.ret ⟨.inr rfl,?_⟩⟩))))))
  simp[zwv,zud,h0]
 ·have hb:(p != -1)=true:=by simp[h0]
  refine w7 (RL.o (by simp[hb];rfl) (RL.g (by simp;rfl) (RL.callY0 false (by simp) (ze2 s p) (by simp) (by simp) (RL.g (by simp;rfl) (RL.o (by simp;rfl) (RL.nil ⟨_,by simp;rfl,WL.ret ⟨.inr rfl,?_⟩⟩))))))
  simp[zwv,zud,h0]
theorem zoo (l:List Int)(f:Nat)(cs:List AU)(p:Int→Bool)(hl:z0c l.length)(hf:∀ x ∈ l,FnC Try.prog f [] [i64 x,.vptr () cs] [] (bl (p x))):FnC Try.prog 131 [] [sI false l,.clos f [.vptr () cs]] [] (i64 (ixF p l 0)):=by
 refine wc yqd rfl ?_
 refine WL.sreg (by simp;rfl) (by simp;rfl) ?_
 refine WL.seq (WL.sreg (by simp;rfl) (by simp;rfl) ?_)
 refine WL.block (we l.length (fun i=>[(0,0,sI false l),(100,0,.clos f [.vptr () cs]),(700,0,i64 l.length),(800,0,i64 i)]) (fun i=>ixF p (l.drop i) i=ixF p l 0) rfl rfl fun i hi hinv=>?_)
 by_cases h:i < l.length
 ·refine WL.sreg (by simp[h];rfl) (by simp;rfl) ?_
  refine WL.seq (WL.cond (t:=true) (by simp) (fun _=>WL.skip ?_) (by simp))
  refine WL.seq (WL.block (WL.sreg (by simp;rfl) (by simp;rfl) ?_))
  rw[z6h _ _ _ h] at hinv
  refine w7 (RL.o (by simp[h];rfl) (RL.clo0 (f:=f) (cps:=[.vptr () cs]) false (by simp) (hf l[i] (qb h)) (by simp) (by simp) (by simp) (RL.nil ⟨_,by simp;rfl,?_⟩)))
  refine WL.cond (t:=p l[i]) (by simp) (fun hv=>?_) (fun hv=>?_)
  ·rw[if_pos hv] at hinv
   refine WL.sreg (by simp;rfl) (by simp;rfl) (WL.ret ⟨.inr rfl,?_⟩)
   simp[zxg,hinv]
  ·rw[if_neg (by simp[hv])] at hinv
   refine WL.skip ?_
   refine WL.reg (RL.run (by simp[z0p hl h];rfl) ⟨_,by simp;rfl,?_⟩)
   exact⟨h,by simp,hinv⟩
 ·refine WL.sreg (by simp[h];rfl) (by simp;rfl) ?_
  refine WL.seq (WL.cond (t:=false) (by simp) (by simp) (fun _=>WL.exit ?_))
  simp
  refine WL.sreg (by simp;rfl) (by simp;rfl) (WL.ret ⟨.inr rfl,?_⟩)
  rw[zbe _ _ _ h] at hinv
  simp[zxg,← hinv]
theorem zg7 (l:List Int)(f:Nat)(cs:List AU)(p:Int→Bool)(hl:z0c l.length)(hf:∀ x ∈ l,FnC Try.prog f [] [i64 x,.vptr () cs] [] (bl (p x))):FnC Try.prog 141 [] [sI false l,.clos f [.vptr () cs]] [] (bl (l.any p)):=by
 refine wc yq4 rfl ?_
 refine WL.sreg (by simp;rfl) (by simp;rfl) ?_
 refine w7 (RL.o (by simp;rfl) (RL.call0 false (zoo l f cs p hl hf) (by simp) (by simp) (RL.o (by simp;rfl) (RL.nil ⟨_,by simp;rfl,WL.ret ⟨.inr rfl,?_⟩⟩))))
 simp only[y84,RetOk]
 refine⟨_,by simp;rfl,?_,by simp⟩
 simp
 rw[tw]
 simp[← zcw p l 0]
def zg8 (s:St)(i:Nat)(b:List UInt8):Bool:=decide (b.length=16) && (s.There.getD i false || b == List.replicate 16 0)
def z97 (s:St)(l:List Int):Bool:=decide (l.length=6) && !l.any (zud s)
def z3o (s:St):Nat→List (List UInt8)→Bool
 | _,[]=>true
 | i,b :: l=>zg8 s i b && z3o s (i+1) l
def May (s:St):Bool:=decide (1≤s.There.length) && decide (s.There.length≤48) && decide (s.Body.length=s.There.length) && decide (1≤s.Handles.length) && decide (s.Handles.length≤6) && z3o s 0 s.Body && s.Handles.all (z97 s)
theorem zcy (s:St)(hs:Sized s):FnC Try.prog 97 [] [z6l false s] [] (bl (May s)):=by
 refine wc yxf rfl ?_
 refine WL.sreg (by simp;rfl) (by simp;rfl) ?_
 refine p9 z0t (by simp[z0b,noH]) (by simp;exact⟨rfl,rfl⟩) (by kernel_rfl) (by simp;rfl) ?_
 let T:Int:=s.There.length
 let B:Int:=s.Body.length
 let N:Int:=s.Handles.length
 let c1:Bool:=decide (T < 1) || (decide (48 < T) || (B != T || (decide (N < 1) || decide (6 < N))))
 refine WL.seq (nc c1 [(100,0,.bptr 1 1 0),(101,0,sB false s.There),(102,0,sUU false s.Body),(103,0,sII false s.Handles),(199,1,.non),(3500,0,bl c1)] ?_ (by simp) (fun h=>?_) (fun h=>WL.skip ?_))
 ·by_cases h1:(s.There.length:Int) < 1
  ·simp[c1,T,B,N,h1]
  by_cases h2:48 < (s.There.length:Int)
  ·simp[c1,T,B,N,h1,h2]
  by_cases h3:((s.Body.length:Int) != (s.There.length:Int))=true
  ·simp[c1,T,B,N,h1,h2,h3]
  rw[Bool.not_eq_true] at h3
  by_cases h4:(s.Handles.length:Int) < 1
  ·simp[c1,T,B,N,h1,h2,h3,h4]
  simp[c1,T,B,N,h1,h2,h3,h4]
 ·refine WL.sreg (by simp;rfl) (by simp;rfl) (WL.ret ⟨.inr rfl,?_⟩)
  have:May s=false:=by
   simp only[c1,qp,decide_eq_true_eq,bne_iff_ne,T,B,N] at h
   rw[Bool.eq_false_iff]
   intro hm
   simp only[May,pm,decide_eq_true_eq] at hm
   omega
  simp[zwn,this]
 have hg:1≤s.There.length∧s.There.length≤48∧s.Body.length=s.There.length∧1≤s.Handles.length∧s.Handles.length≤6:=by
  simp only[c1,qx,decide_eq_false_iff_not,bne_eq_false_iff_eq,T,B,N] at h
  omega
 have hMay:May s=(z3o s 0 s.Body && s.Handles.all (z97 s)):=by
  simp[May,hg]
 simp only[wq]
 refine WL.seq (WL.sreg (by simp;rfl) (by simp;rfl) ?_)
 have hB:z0c s.Body.length:=by have:=hs.b;unfold z0c;omega
 refine WL.block (we s.Body.length (fun i=>[(100,0,.bptr 1 1 0),(101,0,sB false s.There),(102,0,sUU false s.Body),(103,0,sII false s.Handles),(199,1,.non),(3700,0,sUU false s.Body),(3800,0,i64 s.Body.length),(3900,0,i64 i)]) (fun i=>z3o s i (s.Body.drop i)=z3o s 0 s.Body) rfl rfl fun i hi hinv=>?_)
 by_cases h:i < s.Body.length
 ·refine WL.sreg (by simp[h];rfl) (by simp;rfl) ?_
  refine WL.seq (WL.cond (t:=true) (by simp) (fun _=>WL.skip ?_) (by simp))
  refine WL.seq (WL.block (WL.sreg (by simp[h];rfl) (by simp;rfl) ?_))
  have hTh:i < s.There.length:=by omega
  rw[s6 h] at hinv
  simp only[z3o,zg8,ph,pi hTh,ro] at hinv
  by_cases hl:((s.Body[i].length:Int) != 16)=true
  ·refine WL.seq (WL.reg (RL.o (by simp[hl];rfl) (RL.g (by simp;rfl) (RL.g (by simp;rfl) (RL.callN (by simp) (RL.g (by simp;rfl) (RL.g (by simp;rfl) (RL.o (by simp;rfl) (RL.nil ⟨_,by simp;rfl,?_⟩)))))))))
   refine WL.cond (t:=true) (by simp) (fun _=>?_) (by simp)
   refine WL.sreg (by simp;rfl) (by simp;rfl) (WL.ret ⟨.inr rfl,?_⟩)
   have h16:¬ s.Body[i].length=16:=by
    have:¬ (s.Body[i].length:Int)=16:=by simpa using hl
    omega
   simp[h16] at hinv
   simp[zwn,hMay,hinv]
  rw[Bool.not_eq_true] at hl
  have h16:s.Body[i].length=16:=by
   have:(s.Body[i].length:Int)=16:=by simpa using hl
   omega
  simp only[h16,decide_true,Bool.true_and] at hinv
  by_cases ht:s.There[i]=true
  ·refine WL.seq (WL.reg (RL.o (by simp[hl];rfl) (RL.g (by simp[hTh,ht];rfl) (RL.g (by simp;rfl) (RL.callN (by simp) (RL.g (by simp;rfl) (RL.g (by simp;rfl) (RL.o (by simp;rfl) (RL.nil ⟨_,by simp;rfl,?_⟩)))))))))
   refine WL.cond (t:=false) (by simp) (by simp) (fun _=>WL.skip ?_)
   refine WL.reg (RL.run (by simp[z0p hB h];rfl) ⟨_,by simp;rfl,?_⟩)
   refine⟨h,by simp,?_⟩
   rw[← hinv];simp[ht]
  ·have ht':s.There[i]=false:=by simpa using ht
   refine WL.seq (WL.reg (RL.o (by simp[hl];rfl) (RL.g (by simp[hTh,ht'];rfl) (RL.g (by simp;rfl) (RL.callY0 true (by simp) (z3g s.Body[i] (List.replicate 16 0)) (by simp[z8d]) (by simp) (RL.g (by simp;rfl) (RL.g (by simp;rfl) (RL.o (by simp;rfl) (RL.nil ⟨_,by simp;rfl,?_⟩)))))))))
   refine WL.cond (t:=!(s.Body[i] == List.replicate 16 0)) (by simp) (fun hb=>?_) (fun hb=>WL.skip ?_)
   ·refine WL.sreg (by simp;rfl) (by simp;rfl) (WL.ret ⟨.inr rfl,?_⟩)
    have hb':(s.Body[i] == List.replicate 16 0)=false:=by simpa using hb
    rw[ht',hb'] at hinv
    simp only[Bool.or_self,Bool.false_and] at hinv
    simp[zwn,hMay,hinv.symm]
   ·have hb':(s.Body[i] == List.replicate 16 0)=true:=by simpa using hb
    refine WL.reg (RL.run (by simp[z0p hB h];rfl) ⟨_,by simp;rfl,?_⟩)
    refine⟨h,by simp,?_⟩
    rw[← hinv,hb'];simp
 ·refine WL.sreg (by simp[h];rfl) (by simp;rfl) ?_
  refine WL.seq (WL.cond (t:=false) (by simp) (by simp) (fun _=>WL.exit ?_))
  have hi':i=s.Body.length:=by omega
  subst hi'
  rw[rx (pr _)] at hinv
  simp only[z3o] at hinv
  rw[← hinv] at hMay
  simp only[Bool.true_and] at hMay
  simp only[wx,n4,if_true,wq]
  refine WL.seq (WL.sreg (by simp;rfl) (by simp;rfl) ?_)
  have hH:z0c s.Handles.length:=by have:=hs.h;unfold z0c;omega
  refine WL.block (we s.Handles.length (fun i=>[(100,0,.bptr 1 1 0),(101,0,sB false s.There),(102,0,sUU false s.Body),(103,0,sII false s.Handles),(199,1,.non),(6300,0,sII false s.Handles),(6400,0,i64 s.Handles.length),(6500,0,i64 i)]) (fun i=>(s.Handles.drop i).all (z97 s)=s.Handles.all (z97 s)) rfl rfl fun i hi hinv=>?_)
  by_cases h:i < s.Handles.length
  ·refine WL.sreg (by simp[h];rfl) (by simp;rfl) ?_
   refine WL.seq (WL.cond (t:=true) (by simp) (fun _=>WL.skip ?_) (by simp))
   refine WL.seq (WL.block (WL.sreg (by simp[h];rfl) (by simp;rfl) ?_))
   rw[s6 h] at hinv
   simp only[List.all_cons,z97] at hinv
   by_cases hl:((s.Handles[i].length:Int) != 6)=true
   ·refine WL.seq (WL.reg (RL.o (by simp[hl];rfl) (RL.g (by simp;rfl) (RL.callN (by simp) (RL.o (by simp;rfl) (RL.nil ⟨_,by simp;rfl,?_⟩))))))
    refine WL.cond (t:=true) (by simp) (fun _=>?_) (by simp)
    refine WL.sreg (by simp;rfl) (by simp;rfl) (WL.ret ⟨.inr rfl,?_⟩)
    have h6:¬ s.Handles[i].length=6:=by
     have:¬ (s.Handles[i].length:Int)=6:=by simpa using hl
     omega
    simp only[h6,decide_false,Bool.false_and] at hinv
    simp[zwn,hMay,← hinv]
   ·rw[Bool.not_eq_true] at hl
    have h6:s.Handles[i].length=6:=by
     have:(s.Handles[i].length:Int)=6:=by simpa using hl
     omega
    simp only[h6,decide_true,Bool.true_and] at hinv
    have hsm:z0c s.Handles[i].length:=by unfold z0c;omega
    refine WL.seq (WL.reg (RL.o (by simp[hl];rfl) (RL.g (by simp;rfl) (RL.callY0 true (by simp) (zg7 s.Handles[i] 142 (zcx false s) (zud s) hsm fun x _=>zxk s x) (by simp) (by simp) (RL.o (by simp;rfl) (RL.nil ⟨_,by simp;rfl,?_⟩))))))
    refine WL.cond (t:=s.Handles[i].any (zud s)) (by simp) (fun hb=>?_) (fun hb=>WL.skip ?_)
    ·refine WL.sreg (by simp;rfl) (by simp;rfl) (WL.ret ⟨.inr rfl,?_⟩)
     rw[hb] at hinv
     simp only[Bool.not_true,Bool.false_and] at hinv
     simp[zwn,hMay,← hinv]
    ·refine WL.reg (RL.run (by simp[z0p hH h];rfl) ⟨_,by simp;rfl,?_⟩)
     refine⟨h,by simp,?_⟩
     rw[← hinv,hb];simp
  ·refine WL.sreg (by simp[h];rfl) (by simp;rfl) ?_
   refine WL.seq (WL.cond (t:=false) (by simp) (by simp) (fun _=>WL.exit ?_))
   have hi':i=s.Handles.length:=by omega
   subst hi'
   rw[rx (pr _)] at hinv
   simp only[List.all_nil] at hinv
   rw[← hinv] at hMay
   simp only[wx,n4,if_true,wq]
   refine WL.sreg (by simp;rfl) (by simp;rfl) (WL.ret ⟨.inr rfl,?_⟩)
   simp[zwn,hMay]
def cnt (p:Int)(l:List Int):Nat:=(l.filter (· == p)).length
def z4y (p:Int):List (List Int)→Nat
 | []=>0
 | l :: ls=>cnt p l+z4y p ls
def zlj (s:St)(p:Int):Int:=if p < 0 then 0 else (z4y p s.Handles:Nat)
theorem zcz (p:Int)(l:List (List Int)){i:Nat}(h:i < l.length):z4y p (l.take (i+1))=z4y p (l.take i)+cnt p l[i]:=by
 induction l generalizing i with
 | nil=>simp at h
 | cons a l ih =>
  cases i with
  | zero=>simp [z4y]
  | succ i =>
   simp only[sd] at h
   simp only[List.take_succ_cons,z4y,List.getElem_cons_succ,ih (by omega:i < l.length)]
   omega
theorem zju (p:Int)(l:List Int){i:Nat}(h:i < l.length):cnt p (l.take (i+1))=cnt p (l.take i)+if l[i]=p then 1 else 0:=by
 unfold cnt
 rw[r6 h,List.filter_append,qr]
 congr 1
 by_cases e:l[i]=p<;>simp [e]
theorem zop (p:Int)(l:List Int):cnt p l≤l.length:=List.length_filter_le _ _
theorem ze3 (p:Int):∀ (l:List (List Int)),(∀ x ∈ l,x.length≤1000)→z4y p l≤1000 * l.length
 | [],_=>by simp[z4y]
 | a :: l,h=>by
  have h1:=ze3 p l fun x hx=>h x (qd _ hx)
  have h2:=zop p a
  have h3:=h a rn
  simp only[z4y,sd]
  omega
theorem zxl (s:St)(hs:Sized s)(p:Int):FnC Try.prog 145 [] [z6l false s,i64 p] [] (i64 (zlj s p)):=by
 refine wc yq8 rfl ?_
 refine WL.sreg (by simp;rfl) (by simp;rfl) ?_
 by_cases hp:p < 0
 ·refine WL.seq (WL.sreg (by simp[hp];rfl) (by simp;rfl) (WL.cond (t:=true) (by simp) (fun _=>?_) (by simp)))
  refine WL.sreg (by simp;rfl) (by simp;rfl) (WL.ret ⟨.inr rfl,?_⟩)
  simp[zx7,zlj,hp]
 ·refine WL.seq (WL.sreg (by simp[hp];rfl) (by simp;rfl) (WL.cond (t:=false) (by simp) (by simp) (fun _=>WL.skip ?_)))
  refine WL.sreg (by simp;rfl) (by simp;rfl) ?_
  refine WL.seq (WL.sreg (by simp;rfl) (by simp;rfl) ?_)
  refine WL.block (we s.Handles.length (fun i=>[(100,0,i64 p),(500,0,i64 (z4y p (s.Handles.take i))),(1300,0,sII false s.Handles),(1400,0,i64 s.Handles.length),(1500,0,i64 i)]) (fun _=>True) (by simp[z4y]) trivial fun i hi _=>?_)
  have hS:z0c s.Handles.length:=by have:=hs.h;unfold z0c;omega
  by_cases h:i < s.Handles.length
  ·have hl:s.Handles[i].length≤1000:=hs.hs _ (qb h)
   have hSl:z0c s.Handles[i].length:=by unfold z0c;omega
   have hle:z4y p (s.Handles.take i)≤1000 * 1000:=by
    have h1:=ze3 p (s.Handles.take i) (fun l hl=>hs.hs l (t6 hl))
    have h2:=hs.h
    simp only[s7] at h1
    omega
   refine WL.sreg (by simp[h];rfl) (by simp;rfl) ?_
   refine WL.seq (WL.cond (t:=true) (by simp) (fun _=>WL.skip ?_) (by simp))
   refine WL.seq (WL.block (WL.sreg (by simp[h];rfl) (by simp;rfl) (WL.scope (WL.seq (WL.label ?_)))))
   refine WL.sreg (by simp;rfl) (by simp;rfl) ?_
   refine WL.block (we s.Handles[i].length (fun k=>[(100,0,i64 p),(500,0,i64 (z4y p (s.Handles.take i)+cnt p (s.Handles[i].take k):Nat)),(1300,0,sII false s.Handles),(1400,0,i64 s.Handles.length),(1500,0,i64 i),(1900,0,sI false s.Handles[i]),(2000,0,i64 s.Handles[i].length),(2100,0,i64 k)]) (fun _=>True) (by simp[cnt]) trivial fun k hk _=>?_)
   by_cases h':k < s.Handles[i].length
   ·have hc:cnt p (s.Handles[i].take k)≤1000:=by
     have:=zop p (s.Handles[i].take k)
     simp only[s7] at this
     omega
    have hS2:z0c 1000000000:=by unfold z0c;omega
    refine WL.sreg (by simp[h'];rfl) (by simp;rfl) ?_
    refine WL.seq (WL.cond (t:=true) (by simp) (fun _=>WL.skip ?_) (by simp))
    refine WL.seq (WL.block (WL.sreg (by simp[h'];rfl) (by simp;rfl) ?_))
    have hcs:=zju p s.Handles[i] h'
    by_cases e:s.Handles[i][k]=p
    ·have eb:(s.Handles[i][k] != p)=false:=by simp[e]
     rw[if_pos e] at hcs
     refine WL.seq (WL.sreg (by simp[eb];rfl) (by simp;rfl) (WL.cond (t:=false) (by simp) (by simp) fun _=>WL.skip ?_))
     have hw:IntKind.wrap .i64 ((z4y p (s.Handles.take i):Int)+(cnt p (s.Handles[i].take k):Int)+1)=(z4y p (s.Handles.take i):Int)+(cnt p (s.Handles[i].take k):Int)+1:=by
      simpa using z0p hS2 (show z4y p (s.Handles.take i)+cnt p (s.Handles[i].take k) < 1000000000 by omega)
     refine WL.reg (RL.run (by simp[hw];rfl) ⟨_,by simp;rfl,?_⟩)
     refine WL.reg (RL.run (by simp[z0p hSl h'];rfl) ⟨_,by simp;rfl,h',?_,trivial⟩)
     simp[hcs]
     omega
    ·have eb:(s.Handles[i][k] != p)=true:=by simp[e]
     rw[if_neg e] at hcs
     refine WL.seq (WL.sreg (by simp[eb];rfl) (by simp;rfl) (WL.cond (t:=true) (by simp) (fun _=>WL.exit ?_) (by simp)))
     refine WL.fin [27] (by simp;rfl) ?_
     refine WL.reg (RL.run (by simp[z0p hSl h'];rfl) ⟨_,by simp;rfl,h',?_,trivial⟩)
     simp[hcs]
   ·refine WL.sreg (by simp[h'];rfl) (by simp;rfl) ?_
    refine WL.seq (WL.cond (t:=false) (by simp) (by simp) fun _=>WL.exit ?_)
    refine WL.reg (RL.run (by simp[z0p hS h];rfl) ⟨_,by simp;rfl,h,?_,trivial⟩)
    have hk':k=s.Handles[i].length:=by omega
    subst hk'
    simp[zcz p s.Handles h]
  ·refine WL.sreg (by simp[h];rfl) (by simp;rfl) ?_
   refine WL.seq (WL.cond (t:=false) (by simp) (by simp) fun _=>WL.exit ?_)
   have hi':i=s.Handles.length:=by omega
   subst hi'
   refine WL.sreg (by simp;rfl) (by simp;rfl) (WL.ret ⟨.inr rfl,?_⟩)
   simp[zx7,zlj,hp]
structure Op where
 Kind:Int
 Page:Int
 Handle:Int
 Off:Int
 N:Int
 Data:List UInt8
 deriving DecidableEq
abbrev zsg (o:Bool)(q:Op):AU:=.agg [i64 q.Kind,i64 q.Page,i64 q.Handle,i64 q.Off,i64 q.N,sU o q.Data]
abbrev ya8 (o:Bool)(s:St)(c:Nat)(q:Op):List AU:=[sB o s.There,sUU o s.Body,sII o s.Handles,i64 c,i64 q.Kind,i64 q.Page,i64 q.Handle,i64 q.Off,i64 q.N,sU o q.Data]
abbrev ymq (o:Bool)(s:St)(c:Nat)(q:Op):AU:=.agg (ya8 o s c q)
def zev (l:List Int):Bool:=l.any (· == -1)
def z39 (s:St)(p:Int):Bool:=decide (0≤p) && decide (p < s.There.length)
def z5q (l:List Int)(h:Int):Bool:=decide (h < 0) || (decide (6≤h) || l.getD h.toNat 0 == -1)
def z3h (q:Op)(n:Int):Bool:=q.Kind != 5 && (decide (q.Off < 0) || (decide (n < 0) || (decide (16 < q.Off) || decide (16 - q.Off < n))))
def z06 (s:St)(l:List Int)(q:Op):Int :=
 if q.Kind=1 then (if zev l=false then 4 else if s.There.any (· == false)=false then 3 else 0)
 else if q.Kind=2∨q.Kind=6∨q.Kind=8 then
  (if z39 s q.Page=false then 1 else if z2n s q.Page=false then 2 else if q.Kind=2∧zev l=false then 4 else if q.Kind=8∧0 < zlj s q.Page then 7 else 0)
 else if q.Kind=3∨q.Kind=4∨q.Kind=5 then
  (if z5q l q.Handle=true then 5 else if z3h q (if q.Kind=4 then q.Data.length else q.N)=true then 6 else 0)
 else if q.Kind=7 then 0 else 1
def cdS (s:St)(c:Nat)(q:Op)(r p i:Bool):SL:=[(100,0,.bptr 1 1 0),(101,0,sB false s.There),(102,0,sUU false s.Body),(103,0,sII false s.Handles),(104,0,i64 c),(105,0,i64 q.Kind),(106,0,i64 q.Page),(107,0,i64 q.Handle),(108,0,i64 q.Off),(109,0,i64 q.N),(110,0,sU false q.Data),(199,1,.non),(300,0,bl r),(400,0,bl p),(500,0,bl i)]
abbrev cdQ (v:Int):Ex→SL→Prop:=fun e L=>(e=Ex.nrm∨e=Ex.ret)∧RetOk z7v.rs [] (i64 v) L
theorem zsh (s:St)(hs:Sized s)(c:Nat)(q:Op)(l:List Int)(p i:Bool)(hk:q.Kind=1):WL Try.prog z7v.nt zjt (cdS s c q (zev l) p i) (cdQ (z06 s l q)):=by
 have h1:z0c s.There.length:=by have:=hs.t;unfold z0c;omega
 refine WL.seq (WL.sreg (by simp[cdS];rfl) (by simp;rfl) ?_)
 refine WL.block (WL.sreg (by simp[hk];rfl) (by simp;rfl) ?_)
 refine WL.cond (t:=true) (by simp) (fun _=>?_) (by simp)
 refine WL.seq (WL.sreg (by simp;rfl) (by simp;rfl) (WL.cond (t:=!zev l) (by simp) (fun h=>?_) (fun h=>WL.skip ?_)))
 ·simp only[qm] at h
  refine WL.sreg (by simp;rfl) (by simp;rfl) (WL.ret ⟨.inr rfl,?_⟩)
  simp[z7v,z06,hk,h]
 ·simp only[tf] at h
  refine w7 (RL.o (by simp;rfl) (RL.call0 false (ze1 s.There false h1) (by simp) (by simp) (RL.o (by simp;rfl) (RL.nil ⟨_,by simp;rfl,?_⟩))))
  refine WL.cond (t:=!s.There.any (· == false)) (by simp) (fun h'=>?_) (fun h'=>WL.skip ?_)
  ·simp only[qm] at h'
   refine WL.sreg (by simp;rfl) (by simp;rfl) (WL.ret ⟨.inr rfl,?_⟩)
   simp[z7v,z06,hk,h]
   simpa using h'
  ·simp only[tf] at h'
   refine WL.sreg (by simp;rfl) (by simp;rfl) (WL.ret ⟨.inr rfl,?_⟩)
   simp[z7v,z06,hk,h]
   simpa using h'
def cdT (s:St)(c:Nat)(q:Op)(r p i b:Bool):SL:=[(100,0,.bptr 1 1 0),(101,0,sB false s.There),(102,0,sUU false s.Body),(103,0,sII false s.Handles),(104,0,i64 c),(105,0,i64 q.Kind),(106,0,i64 q.Page),(107,0,i64 q.Handle),(108,0,i64 q.Off),(109,0,i64 q.N),(110,0,sU false q.Data),(199,1,.non),(300,0,bl r),(400,0,bl p),(500,0,bl i),(3800,0,i64 q.Kind),(4800,0,bl b)]
theorem zlk (s:St)(c:Nat)(q:Op)(r p i:Bool)(v:Int)(h1:q.Kind ≠ 1)
  (h:WL Try.prog z7v.nt zjs (cdT s c q r p i (q.Kind == 2 || (q.Kind == 6 || q.Kind == 8))) (wj 0 (wg (fun L'=>WL Try.prog z7v.nt zg3 L' (cdQ v)) (cdQ v)))):WL Try.prog z7v.nt zjt (cdS s c q r p i) (cdQ v):=by
 have e1:(q.Kind == 1)=false:=by simp[h1]
 refine WL.seq (WL.sreg (by simp[cdS];rfl) (by simp;rfl) ?_)
 refine WL.block (WL.sreg (by simp;rfl) (by simp;rfl) ?_)
 refine WL.cond (t:=false) (by simp[e1]) (by simp) (fun _=>?_)
 refine ww _ ?_ h
 by_cases h2:q.Kind=2
 ·refine WL.sreg (by simp;rfl) (by simp;rfl) (WL.cond (t:=true) (by simp[h2]) (fun _=>WL.skip ⟨rfl,?_⟩) (by simp))
  simp[cdT,h2]
 have e2:(q.Kind == 2)=false:=by simp[h2]
 refine WL.sreg (by simp;rfl) (by simp;rfl) (WL.cond (t:=false) (by simp[e2]) (by simp) fun _=>?_)
 by_cases h6:q.Kind=6
 ·refine WL.sreg (by simp;rfl) (by simp;rfl) (WL.cond (t:=true) (by simp[h6]) (fun _=>WL.skip ⟨rfl,?_⟩) (by simp))
  simp[cdT,h6]
 have e6:(q.Kind == 6)=false:=by simp[h6]
 refine WL.sreg (by simp;rfl) (by simp;rfl) (WL.cond (t:=false) (by simp[e6]) (by simp) fun _=>?_)
 refine WL.reg (RL.run (by simp;rfl) ⟨_,by simp;rfl,rfl,?_⟩)
 simp[cdT,e2,e6]
theorem zoq (s:St)(hs:Sized s)(c:Nat)(q:Op)(l:List Int)(hk:q.Kind=2∨q.Kind=6∨q.Kind=8):WL Try.prog z7v.nt zjs (cdT s c q (zev l) (z39 s q.Page) (z2n s q.Page) true) (wj 0 (wg (fun L'=>WL Try.prog z7v.nt zg3 L' (cdQ (z06 s l q))) (cdQ (z06 s l q)))):=by
 have h1:q.Kind ≠ 1:=by omega
 refine WL.cond (t:=true) (by simp[cdT]) (fun _=>?_) (by simp)
 refine WL.block (WL.sreg (by simp[cdT];rfl) (by simp;rfl) ?_)
 refine WL.cond (t:=!z39 s q.Page) (by simp) (fun hp=>?_) (fun hp=>?_)
 ·simp only[qm] at hp
  refine WL.sreg (by simp;rfl) (by simp;rfl) (WL.ret ⟨.inr rfl,?_⟩)
  simp[z7v,z06,h1,hk,hp]
 simp only[tf] at hp
 refine WL.sreg (by simp;rfl) (by simp;rfl) ?_
 refine WL.cond (t:=!z2n s q.Page) (by simp) (fun ht=>?_) (fun ht=>?_)
 ·simp only[qm] at ht
  refine WL.sreg (by simp;rfl) (by simp;rfl) (WL.ret ⟨.inr rfl,?_⟩)
  simp[z7v,z06,h1,hk,hp,ht]
 simp only[tf] at ht
 refine ww [(100,0,.bptr 1 1 0),(101,0,sB false s.There),(102,0,sUU false s.Body),(103,0,sII false s.Handles),(104,0,i64 c),(105,0,i64 q.Kind),(106,0,i64 q.Page),(107,0,i64 q.Handle),(108,0,i64 q.Off),(109,0,i64 q.N),(110,0,sU false q.Data),(199,1,.non),(5800,0,bl (q.Kind == 2 && !zev l))] ?_ ?_
 ·by_cases h2:q.Kind=2
  ·refine WL.reg (RL.run (by simp[h2];rfl) ⟨_,by simp;rfl,rfl,?_⟩)
   simp[h2]
  ·have e2:(q.Kind == 2)=false:=by simp[h2]
   refine WL.reg (RL.run (by simp[e2];rfl) ⟨_,by simp;rfl,rfl,?_⟩)
   simp[e2]
 refine WL.cond (t:=q.Kind == 2 && !zev l) (by simp) (fun hr=>?_) (fun hr=>?_)
 ·simp only[pm,beq_iff_eq,qm] at hr
  refine WL.sreg (by simp;rfl) (by simp;rfl) (WL.ret ⟨.inr rfl,?_⟩)
  simp[z7v,z06,hp,ht,hr]
 have hr':¬ (q.Kind=2∧zev l=false):=by
  intro⟨a,b⟩
  simp[a,b] at hr
 by_cases h8:q.Kind=8
 ·refine w7 (RL.o (by simp[h8];rfl) (RL.g (by simp;rfl) (RL.callY0 false (by simp) (zxl s hs q.Page) (by simp) (by simp) (RL.g (by simp;rfl) (RL.o (by simp;rfl) (RL.nil ⟨_,by simp;rfl,?_⟩))))))
  refine WL.cond (t:=decide (0 < zlj s q.Page)) (by simp) (fun hq=>?_) (fun hq=>WL.skip ?_)
  ·simp only[decide_eq_true_eq] at hq
   refine WL.sreg (by simp;rfl) (by simp;rfl) (WL.ret ⟨.inr rfl,?_⟩)
   simp[z7v,z06,hp,ht,h8,hq]
  ·simp only[decide_eq_false_iff_not] at hq
   refine WL.sreg (by simp;rfl) (by simp;rfl) (WL.ret ⟨.inr rfl,?_⟩)
   simp[z7v,z06,hp,ht,h8,hq]
 ·have e8:(q.Kind == 8)=false:=by simp[h8]
  refine w7 (RL.o (by simp[e8];rfl) (RL.g (by simp;rfl) (RL.callN (by simp) (RL.g (by simp;rfl) (RL.o (by simp;rfl) (RL.nil ⟨_,by simp;rfl,?_⟩))))))
  refine WL.cond (t:=false) (by simp) (by simp) (fun _=>WL.skip ?_)
  refine WL.sreg (by simp;rfl) (by simp;rfl) (WL.ret ⟨.inr rfl,?_⟩)
  simp[z7v,z06,h1,hk,hp,ht,hr',h8]
  intro a b
  exact absurd hk (by omega)
def cdU (s:St)(c:Nat)(q:Op):SL:=[(100,0,.bptr 1 1 0),(101,0,sB false s.There),(102,0,sUU false s.Body),(103,0,sII false s.Handles),(104,0,i64 c),(105,0,i64 q.Kind),(106,0,i64 q.Page),(107,0,i64 q.Handle),(108,0,i64 q.Off),(109,0,i64 q.N),(110,0,sU false q.Data),(199,1,.non)]
theorem zi9 (s:St)(c:Nat)(q:Op)(r p i:Bool)(v:Int)(Q:Ex→SL→Prop)
  (h:WL Try.prog z7v.nt zjr (cdU s c q ++ [(3800,0,i64 q.Kind),(8100,0,bl (q.Kind == 3 || (q.Kind == 4 || q.Kind == 5)))]) Q):WL Try.prog z7v.nt zjs (cdT s c q r p i false) Q:=by
 refine WL.cond (t:=false) (by simp[cdT]) (by simp) (fun _=>?_)
 refine ww _ ?_ h
 by_cases h2:q.Kind=3
 ·refine WL.sreg (by simp[cdT];rfl) (by simp;rfl) (WL.cond (t:=true) (by simp[h2]) (fun _=>WL.skip ⟨rfl,?_⟩) (by simp))
  simp[cdU,h2]
 have e2:(q.Kind == 3)=false:=by simp[h2]
 refine WL.sreg (by simp[cdT];rfl) (by simp;rfl) (WL.cond (t:=false) (by simp[e2]) (by simp) fun _=>?_)
 by_cases h6:q.Kind=4
 ·refine WL.sreg (by simp;rfl) (by simp;rfl) (WL.cond (t:=true) (by simp[h6]) (fun _=>WL.skip ⟨rfl,?_⟩) (by simp))
  simp[cdU,h6]
 have e6:(q.Kind == 4)=false:=by simp[h6]
 refine WL.sreg (by simp;rfl) (by simp;rfl) (WL.cond (t:=false) (by simp[e6]) (by simp) fun _=>?_)
 refine WL.reg (RL.run (by simp;rfl) ⟨_,by simp;rfl,rfl,?_⟩)
 simp[cdU,e2,e6]
theorem zor (s:St)(c:Nat)(q:Op)(l:List Int)(hk:¬ (q.Kind=1∨q.Kind=2∨q.Kind=6∨q.Kind=8∨q.Kind=3∨q.Kind=4∨q.Kind=5)):WL Try.prog z7v.nt zjr (cdU s c q ++ [(3800,0,i64 q.Kind),(8100,0,bl false)]) (wj 0 (wg (fun L'=>WL Try.prog z7v.nt zg3 L' (cdQ (z06 s l q))) (cdQ (z06 s l q)))):=by
 refine WL.cond (t:=false) (by simp[cdU]) (by simp) (fun _=>?_)
 refine WL.sreg (by simp[cdU];rfl) (by simp;rfl) (WL.cond (t:=q.Kind == 7) (by simp) (fun h=>WL.skip ?_) (fun h=>?_))
 ·refine WL.sreg (by simp;rfl) (by simp;rfl) (WL.ret ⟨.inr rfl,?_⟩)
  simp only[beq_iff_eq] at h
  simp[z7v,z06,h]
 ·refine WL.sreg (by simp;rfl) (by simp;rfl) (WL.ret ⟨.inr rfl,?_⟩)
  simp only[beq_eq_false_iff_ne] at h
  simp only[not_or] at hk
  simp[z7v,z06,h,hk]
theorem zos (s:St)(c:Nat)(hc:c < s.Handles.length)(h6:s.Handles[c].length=6)(q:Op)(hk:q.Kind=3∨q.Kind=4∨q.Kind=5):WL Try.prog z7v.nt zjr (cdU s c q ++ [(3800,0,i64 q.Kind),(8100,0,bl true)]) (wj 0 (wg (fun L'=>WL Try.prog z7v.nt zg3 L' (cdQ (z06 s s.Handles[c] q))) (cdQ (z06 s s.Handles[c] q)))):=by
 refine WL.cond (t:=true) (by simp[cdU]) (fun _=>?_) (by simp)
 refine WL.seq (WL.draw z0t (by simp[z0b,noH,cdU]) (DL.o (by simp[cdU];exact⟨rfl,rfl⟩) (DL.nil ⟨by kernel_rfl,_,by simp;rfl,?_⟩)))
 generalize hn:(if q.Kind=4 then (q.Data.length:Int) else q.N)=n
 have h1:¬ q.Kind=1:=by omega
 have h2:¬ (q.Kind=2∨q.Kind=6∨q.Kind=8):=by omega
 refine ww (cdU s c q ++ [(600,0,i64 q.Handle),(700,0,i64 n)]) ?_ ?_
 ·refine WL.sreg (by simp;rfl) (by simp;rfl) (WL.cond (t:=q.Kind == 4) (by simp) (fun h=>?_) (fun h=>?_))
  ·simp only[beq_iff_eq] at h
   rw[if_pos h] at hn
   refine WL.reg (RL.run (by simp;rfl) ⟨_,by simp;rfl,rfl,?_⟩)
   simp[cdU,hn]
  ·simp only[beq_eq_false_iff_ne] at h
   rw[if_neg h] at hn
   refine WL.fin [94] (by simp;rfl) (WL.skip ⟨rfl,?_⟩)
   simp[cdU,hn]
 refine WL.block (ww (cdU s c q ++ [(700,0,i64 n),(9900,0,bl (z5q s.Handles[c] q.Handle))]) ?_ ?_)
 ·by_cases g1:q.Handle < 0
  ·refine WL.reg (RL.run (by simp[cdU,g1];rfl) ⟨_,by simp;rfl,rfl,?_⟩)
   simp[cdU,z5q,g1]
  by_cases g2:6≤q.Handle
  ·refine WL.reg (RL.run (by simp[cdU,g1,g2];rfl) ⟨_,by simp;rfl,rfl,?_⟩)
   simp[cdU,z5q,g2]
  obtain⟨k,hk'⟩:=pt (a:=q.Handle) (by omega)
  have hk6:k < s.Handles[c].length:=by omega
  have g2':¬ 6≤k:=by omega
  have g1k:¬ (k:Int) < 0:=by omega
  have g2k:¬ (6:Int)≤k:=by omega
  refine WL.reg (RL.run (by simp[cdU,hk',g1k,g2k,g2',hc,hk6];rfl) ⟨_,by simp;rfl,rfl,?_⟩)
  simp[cdU,z5q,hk',g1k,g2k,g2',hk6]
 refine WL.cond (t:=z5q s.Handles[c] q.Handle) (by simp[cdU]) (fun hb=>?_) (fun hb=>?_)
 ·refine WL.sreg (by simp[cdU];rfl) (by simp;rfl) (WL.ret ⟨.inr rfl,?_⟩)
  simp[z7v,z06,h1,h2,hk,hb]
 refine ww [(11900,0,bl (z3h q n))] ?_ ?_
 ·by_cases e5:q.Kind=5
  ·refine WL.reg (RL.run (by simp[cdU,e5];rfl) ⟨_,by simp;rfl,rfl,?_⟩)
   simp[z3h,e5]
  have e5':(q.Kind != 5)=true:=by simp[e5]
  by_cases g1:q.Off < 0
  ·refine WL.reg (RL.run (by simp[cdU,e5',g1];rfl) ⟨_,by simp;rfl,rfl,?_⟩)
   simp[z3h,e5',g1]
  by_cases g2:n < 0
  ·refine WL.reg (RL.run (by simp[cdU,e5',g1,g2];rfl) ⟨_,by simp;rfl,rfl,?_⟩)
   simp[z3h,e5',g1,g2]
  by_cases g3:16 < q.Off
  ·refine WL.reg (RL.run (by simp[cdU,e5',g1,g2,g3];rfl) ⟨_,by simp;rfl,rfl,?_⟩)
   simp[z3h,e5',g1,g2,g3]
  have hw:IntKind.wrap .i64 (16 - q.Off)=16 - q.Off:=by
   have:=z01 (x:=16 - q.Off) (by omega) (by omega)
   exact this
  refine WL.reg (RL.run (by simp[cdU,e5',g1,g2,g3,hw];rfl) ⟨_,by simp;rfl,rfl,?_⟩)
  simp[z3h,e5',g1,g2,g3]
 refine WL.cond (t:=z3h q n) (by simp) (fun hb'=>?_) (fun hb'=>WL.skip ?_)
 ·refine WL.sreg (by simp;rfl) (by simp;rfl) (WL.ret ⟨.inr rfl,?_⟩)
  simp[z7v,z06,h1,h2,hk,hb,hn,hb']
 ·refine WL.sreg (by simp;rfl) (by simp;rfl) (WL.ret ⟨.inr rfl,?_⟩)
  simp[z7v,z06,h1,h2,hk,hb,hn,hb']
theorem zot (s:St)(hs:Sized s)(c:Nat)(hc:c < s.Handles.length)(h6:s.Handles[c].length=6)(q:Op):FnC Try.prog 98 [] [ymq false s c q] [] (i64 (z06 s s.Handles[c] q)):=by
 refine wc yxg rfl ?_
 refine WL.sreg (by simp;rfl) (by simp;rfl) ?_
 have h2:z0c s.Handles[c].length:=by unfold z0c;omega
 refine w7 (RL.o (by simp[hc];rfl) (RL.call0 false (zg4 s.Handles[c] (-1) h2) (by simp) (by simp) (RL.o (by simp;rfl) (RL.nil ⟨_,by simp;rfl,?_⟩))))
 have key:WL Try.prog z7v.nt zjt (cdS s c q (zev s.Handles[c]) (z39 s q.Page) (z2n s q.Page)) (cdQ (z06 s s.Handles[c] q)):=by
  by_cases k1:q.Kind=1
  ·exact zsh s hs c q _ _ _ k1
  refine zlk s c q _ _ _ _ k1 ?_
  by_cases k2:q.Kind=2∨q.Kind=6∨q.Kind=8
  ·have e:(q.Kind == 2 || (q.Kind == 6 || q.Kind == 8))=true:=by simpa using k2
   rw[e]
   exact zoq s hs c q _ k2
  ·have e:(q.Kind == 2 || (q.Kind == 6 || q.Kind == 8))=false:=by simpa using k2
   rw[e]
   refine zi9 s c q _ _ _ (z06 s s.Handles[c] q) _ ?_
   by_cases k3:q.Kind=3∨q.Kind=4∨q.Kind=5
   ·have e:(q.Kind == 3 || (q.Kind == 4 || q.Kind == 5))=true:=by simpa using k3
    rw[e]
    exact zos s c hc h6 q k3
   ·have e:(q.Kind == 3 || (q.Kind == 4 || q.Kind == 5))=false:=by simpa using k3
    rw[e]
    exact zor s c q _ (by omega)
 by_cases h0:0≤q.Page
 ·refine WL.seq (WL.draw z0t (by simp[z0b,noH]) (DL.o (by simp[h0];exact⟨rfl,rfl⟩) (DL.g (by simp;exact⟨rfl,rfl⟩) (DL.o (by simp;exact⟨rfl,rfl⟩) (DL.call0 false (ze2 s q.Page) (by simp) (by simp) (DL.o (by simp;exact⟨rfl,rfl⟩) (DL.nil ⟨by kernel_rfl,_,by simp;rfl,?_⟩)))))))
  rw[show z39 s q.Page=decide (q.Page < s.There.length) by simp[z39,h0]] at key
  exact key
 ·refine WL.seq (WL.draw z0t (by simp[z0b,noH]) (DL.o (by simp[h0];exact⟨rfl,rfl⟩) (DL.g (by simp;exact⟨rfl,rfl⟩) (DL.o (by simp;exact⟨rfl,rfl⟩) (DL.call0 false (ze2 s q.Page) (by simp) (by simp) (DL.o (by simp;exact⟨rfl,rfl⟩) (DL.nil ⟨by kernel_rfl,_,by simp;rfl,?_⟩)))))))
  rw[show z39 s q.Page=false by simp[z39,h0]] at key
  exact key
theorem z6q {α:Type}{l:List α}{i:Nat}(h:i < l.length):l.take (i+1)=l.take i ++ [l[i]]:=r6 h
theorem zg9 {α:Type}{f:α→AU}{l:List α}{i:Nat}(h:i < l.length):List.take (i+1) (List.take i (List.take i (l.map f)) ++ [f l[i]])=(l.take (i+1)).map f:=by
 rw[List.take_take,Nat.min_self,pp (by simp;omega),z6q h,sj,List.map_take]
 rfl
theorem ya9 (s:St)(hs:Sized s):FnC Try.prog 146 [] [z6l false s] [] (z6l true s):=by
 have h1:z0c s.There.length:=by have:=hs.t;unfold z0c;omega
 have h2:z0c s.Body.length:=by have:=hs.b;unfold z0c;omega
 have h3:z0c s.Handles.length:=by have:=hs.h;unfold z0c;omega
 refine wc yq9 rfl ?_
 refine WL.sreg (by simp;rfl) (by simp;rfl) ?_
 refine w7 (RL.o (by simp;rfl) (RL.call0 false (zli s.There h1) (by simp) (by simp) (RL.o (by simp;rfl) (RL.nil ⟨_,by simp;rfl,?_⟩))))
 refine WL.nil1 302 true 1 (by simp) (WL.nil1 303 true 1 (by simp) ?_)
 refine WL.seq (WL.sreg (by simp;rfl) (by simp;rfl) ?_)
 refine WL.block (we s.Body.length (fun i=>[(100,0,.bptr 1 1 0),(101,0,sB false s.There),(102,0,sUU false s.Body),(103,0,sII false s.Handles),(199,1,.non),(200,0,.bptr 2 1 0),(201,0,.sl true () 1 0 []),(202,0,.sl true () 1 0 []),(203,0,.sl true () 1 0 []),(299,1,.non),(300,0,.bptr 3 1 0),(301,0,sB true s.There),(302,0,sUU true (s.Body.take i)),(303,0,.sl true () 1 0 []),(399,1,.non),(1300,0,sUU false s.Body),(1400,0,i64 s.Body.length),(1500,0,i64 i)]) (fun _=>True) rfl trivial fun i hi _=>?_)
 by_cases h:i < s.Body.length
 ·have hb1:z0c (s.Body[i]).length:=by have:=hs.bs _ (qb h);unfold z0c;omega
  have hn:=hs.b
  have hm1:(i+1) * 24≤140737488355328:=by omega
  have hm2:i+1≤maxLen:=by unfold maxLen;omega
  refine WL.sreg (by simp[h];rfl) (by simp;rfl) ?_
  refine WL.seq (WL.cond (t:=true) (by simp) (fun _=>WL.skip ?_) (by simp))
  refine WL.seq (WL.block (WL.sreg (by simp[h];rfl) (by simp;rfl) ?_))
  refine WL.draw z0t (by simp[z0b,noH]) (DL.o (by simp[hi];exact⟨rfl,rfl⟩) ?_)
  refine DL.call0 false (z5j s.Body[i] hb1) (by simp) (by simp) ?_
  refine DL.o (by simp[hm1,hm2];exact⟨rfl,rfl⟩) ?_
  refine DL.nil ⟨by kernel_rfl,_,by simp;rfl,?_⟩
  refine WL.reg (RL.run (by simp[z0p h2 h];rfl) ⟨_,by simp;rfl,h,?_,trivial⟩)
  have hg:=zg9 (f:=sU true) h
  simp[hg,ti h]
 ·refine WL.sreg (by simp[h];rfl) (by simp;rfl) ?_
  refine WL.seq (WL.cond (t:=false) (by simp) (by simp) fun _=>WL.exit ?_)
  have hi':i=s.Body.length:=by omega
  subst hi'
  refine WL.seq (WL.sreg (by simp;rfl) (by simp;rfl) ?_)
  refine WL.block (we s.Handles.length (fun i=>[(200,0,.bptr 2 1 0),(201,0,.sl true () 1 0 []),(202,0,.sl true () 1 0 []),(203,0,.sl true () 1 0 []),(299,1,.non),(300,0,.bptr 3 1 0),(301,0,sB true s.There),(302,0,sUU true s.Body),(303,0,sII true (s.Handles.take i)),(399,1,.non),(2800,0,sII false s.Handles),(2900,0,i64 s.Handles.length),(3000,0,i64 i)]) (fun _=>True) (by simp) trivial fun i hi _=>?_)
  by_cases h:i < s.Handles.length
  ·have hb1:z0c (s.Handles[i]).length:=by have:=hs.hs _ (qb h);unfold z0c;omega
   have hn:=hs.h
   have hm1:(i+1) * 24≤140737488355328:=by omega
   have hm2:i+1≤maxLen:=by unfold maxLen;omega
   refine WL.sreg (by simp[h];rfl) (by simp;rfl) ?_
   refine WL.seq (WL.cond (t:=true) (by simp) (fun _=>WL.skip ?_) (by simp))
   refine WL.seq (WL.block (WL.sreg (by simp[h];rfl) (by simp;rfl) ?_))
   refine WL.draw z0t (by simp[z0b,noH]) (DL.o (by simp[hi];exact⟨rfl,rfl⟩) ?_)
   refine DL.call0 false (zon s.Handles[i] hb1) (by simp) (by simp) ?_
   refine DL.o (by simp[hm1,hm2];exact⟨rfl,rfl⟩) ?_
   refine DL.nil ⟨by kernel_rfl,_,by simp;rfl,?_⟩
   refine WL.reg (RL.run (by simp[z0p h3 h];rfl) ⟨_,by simp;rfl,h,?_,trivial⟩)
   have hg:=zg9 (f:=sI true) h
   simp[hg,ti h]
  ·refine WL.sreg (by simp[h];rfl) (by simp;rfl) ?_
   refine WL.seq (WL.cond (t:=false) (by simp) (by simp) fun _=>WL.exit ?_)
   have hi':i=s.Handles.length:=by omega
   subst hi'
   refine WL.sreg (by simp;rfl) (by simp;rfl) ?_
   refine WL.ret ⟨.inr rfl,?_⟩
   simp[y8t]
structure Rs where
 Code:Int
 Page:Int
 Handle:Int
 Data:List UInt8
 deriving DecidableEq
abbrev zby (o:Bool)(r:Rs):AU:=.agg [i64 r.Code,i64 r.Page,i64 r.Handle,sU o r.Data]
def z1z (a b:Rs):Bool:=a.Code == b.Code && (a.Page == b.Page && (a.Handle == b.Handle && a.Data == b.Data))
theorem z45 (a b:Rs):FnC Try.prog 136 [] [zby false a,zby false b] [] (bl (z1z a b)):=by
 refine wc yqf rfl ?_
 refine WL.sreg (by simp;rfl) (by simp;rfl) ?_
 cases e1:a.Code == b.Code with
 | false =>
  refine w7 (RL.o (by simp[e1];rfl) (RL.g (by simp;rfl) (RL.o (by simp;rfl) (RL.g (by simp;rfl) (RL.o (by simp;rfl) (RL.g (by simp;rfl) (RL.callN (by simp) (RL.o (by simp;rfl) (RL.nil ⟨_,by simp;rfl,WL.ret ⟨.inr rfl,?_⟩⟩)))))))))
  simp[zom,z1z,e1]
 | true =>
  cases e2:a.Page == b.Page with
  | false =>
   refine w7 (RL.o (by simp[e1];rfl) (RL.g (by simp[e2];rfl) (RL.o (by simp;rfl) (RL.g (by simp;rfl) (RL.o (by simp;rfl) (RL.g (by simp;rfl) (RL.callN (by simp) (RL.o (by simp;rfl) (RL.nil ⟨_,by simp;rfl,WL.ret ⟨.inr rfl,?_⟩⟩)))))))))
   simp[zom,z1z,e1,e2]
  | true =>
   cases e3:a.Handle == b.Handle with
   | false =>
    refine w7 (RL.o (by simp[e1];rfl) (RL.g (by simp[e2];rfl) (RL.o (by simp;rfl) (RL.g (by simp[e3];rfl) (RL.o (by simp;rfl) (RL.g (by simp;rfl) (RL.callN (by simp) (RL.o (by simp;rfl) (RL.nil ⟨_,by simp;rfl,WL.ret ⟨.inr rfl,?_⟩⟩)))))))))
    simp[zom,z1z,e1,e2,e3]
   | true =>
    refine w7 (RL.o (by simp[e1];rfl) (RL.g (by simp[e2];rfl) (RL.o (by simp;rfl) (RL.g (by simp[e3];rfl) (RL.o (by simp;rfl) (RL.g (by simp;rfl) (RL.callY0 false (by simp) (z3g a.Data b.Data) (by simp) (by simp) (RL.o (by simp;rfl) (RL.nil ⟨_,by simp;rfl,WL.ret ⟨.inr rfl,?_⟩⟩)))))))))
    simp[zom,z1z,e1,e2,e3]
theorem zou (o:Bool)(l:List Int)(k:Nat)(v:Int):(sI o (l.set k v):AU)=.sl o () 1 l.length ((l.map i64).set k (.sc (.int .i64 v))):=by
 simp[sI,sq]
theorem zga:∀ l:List UInt8,z1v (l.map fun b=>u8 (b.toNat:Int))=true
 | []=>rfl
 | _ :: l=>zga l
theorem yqi (l:List UInt8)(a b:Nat):∀ x ∈ List.take a (List.drop b (l.map fun b=>u8 (b.toNat:Int))),zjc x=true:=by
 intro x hx
 obtain⟨y,_,rfl⟩:=sg.1 (List.mem_of_mem_drop (t6 hx))
 rfl
theorem yaa (l:List UInt8)(a b:Nat):(∀ x ∈ List.take a (List.drop b (l.map fun b=>u8 (b.toNat:Int))),zjc x=true) ↔ True:=⟨fun _=>trivial,fun _=>yqi l a b⟩
theorem yqj (n:Int):zjc (u8 n)=true:=rfl
abbrev b1 (s:St)(c:Nat)(q:Op):SL:=[(100,0,.bptr 1 1 0),(101,0,sB false s.There),(102,0,sUU false s.Body),(103,0,sII false s.Handles),(104,0,i64 c),(105,0,i64 q.Kind),(106,0,i64 q.Page),(107,0,i64 q.Handle),(108,0,i64 q.Off),(109,0,i64 q.N),(110,0,sU false q.Data),(199,1,.non)]
abbrev b23:SL:=[(200,0,.bptr 2 1 0),(201,0,.sl true () 1 0 []),(202,0,.sl true () 1 0 []),(203,0,.sl true () 1 0 []),(299,1,.non),(300,0,.bptr 3 1 0),(301,0,i64 0),(302,0,i64 0),(303,0,i64 0),(304,0,.sl true () 1 0 []),(399,1,.non)]
abbrev b4 (t b h:AU):SL:=[(400,0,.bptr 4 1 0),(401,0,t),(402,0,b),(403,0,h),(499,1,.non)]
abbrev b5 (p h:Int)(d:AU):SL:=[(500,0,.bptr 5 1 0),(501,0,i64 0),(502,0,i64 p),(503,0,i64 h),(504,0,d),(599,1,.non)]
abbrev zgb:AU:=.sc (.slice none 0 0)
abbrev zxm (s:St)(c:Nat)(n:Nat)(q:Op):SL:=b1 s c q ++ (b23 ++ (b4 (sB true s.There) (sUU true s.Body) (sII true s.Handles) ++ (b5 0 0 zgb ++ [(600,0,.view 403 0 [c] 0 n)])))
abbrev dIn (s:St)(c:Nat)(n:Nat)(q:Op)(k:Nat):SL:=zxm s c n q ++ [(1900,0,i64 q.Kind),(k,0,bl true)]
abbrev zsi (t b h:AU)(p k:Int)(d:AU):SL:=b23 ++ (b4 t b h ++ b5 p k d)
abbrev z4n (L':SL):Ex→SL→Prop:=fun e L=>e=Ex.nrm∧L=L'
theorem yab (s:St)(hs:Sized s)(c:Nat)(hc:c < s.Handles.length)(q:Op)(i k:Nat)(hi:i < s.There.length)(hix:ixF (· == false) s.There 0=i)(hk:k < s.Handles[c].length)(hkx:ixF (· == -1) s.Handles[c] 0=k) :
  WL Try.prog z9z.nt zwo (dIn s c s.Handles[c].length q 2000) (z4n (zsi (sB true (s.There.set i true)) (sUU true s.Body) (sII true (s.Handles.set c (s.Handles[c].set k i))) i k zgb)):=by
 have h1:z0c s.There.length:=by have:=hs.t;unfold z0c;omega
 have h2:z0c s.Handles[c].length:=by have:=hs.hs _ (qb hc);unfold z0c;omega
 have e1:=zcv s.There false h1
 have e2:=zbf s.Handles[c] (-1) h2
 rw[hix] at e1
 rw[hkx] at e2
 refine w7 (RL.o (by simp;rfl) (RL.call0 true e1 (by simp) (by simp) (RL.o (by simp;rfl) (RL.nil ⟨_,by simp;rfl,?_⟩))))
 refine WL.sreg (by simp[hi,qs hi];rfl) (by simp;rfl) ?_
 refine w7 (RL.o (by simp[hc];rfl) (RL.call0 true e2 (by simp[hc]) (by simp) (RL.o (by simp;rfl) (RL.nil ⟨_,by simp;rfl,?_⟩))))
 refine WL.reg (RL.run (by simp[hc,hk,qs hk];rfl) ⟨_,by simp;rfl,rfl,?_⟩)
 simp[sq]
 rw[zou]
theorem zsj (s:St)(hs:Sized s)(c:Nat)(hc:c < s.Handles.length)(q:Op)(k:Nat)(hk:k < s.Handles[c].length)(hkx:ixF (· == -1) s.Handles[c] 0=k) :
  WL Try.prog z9z.nt zwp (dIn s c s.Handles[c].length q 4000) (z4n (zsi (sB true s.There) (sUU true s.Body) (sII true (s.Handles.set c (s.Handles[c].set k q.Page))) q.Page k zgb)):=by
 have h2:z0c s.Handles[c].length:=by have:=hs.hs _ (qb hc);unfold z0c;omega
 have e2:=zbf s.Handles[c] (-1) h2
 rw[hkx] at e2
 refine WL.seq (WL.draw z0t (by simp[z0b,noH]) (DL.o (by simp[hc];exact⟨rfl,rfl⟩) (DL.call0 true e2 (by simp[hc]) (by simp) (DL.o (by simp;exact⟨rfl,rfl⟩) (DL.nil ⟨by kernel_rfl,_,by simp;rfl,?_⟩)))))
 refine WL.reg (RL.run (by simp[hc,hk,qs hk];rfl) ⟨_,by simp;rfl,rfl,?_⟩)
 simp[sq]
 rw[zou]
theorem zsk (s:St)(c:Nat)(hc:c < s.Handles.length)(q:Op)(k:Nat)(hk:k < s.Handles[c].length)(hq:q.Handle=k) :
  WL Try.prog z9z.nt zws (dIn s c s.Handles[c].length q 10000) (z4n (zsi (sB true s.There) (sUU true s.Body) (sII true (s.Handles.set c (s.Handles[c].set k (-1)))) 0 0 zgb)):=by
 refine WL.reg (RL.run (by simp[hc,hk,hq,qs hk];rfl) ⟨_,by simp;rfl,rfl,?_⟩)
 simp[sq]
 rw[zou]
theorem zxn (s:St)(hs:Sized s)(c:Nat)(hc:c < s.Handles.length)(q:Op)(k:Nat)(hk:k < s.Handles[c].length)(hq:q.Handle=k)(m:Nat)(hm:s.Handles[c][k]=m)(hmb:m < s.Body.length)(o n:Nat)(ho:q.Off=o)(hn:q.N=n)(hon:o+n≤16)(h16:s.Body[m].length=16) :
  WL Try.prog z9z.nt zwq (dIn s c s.Handles[c].length q 5500) (z4n (zsi (sB true s.There) (sUU true s.Body) (sII true s.Handles) 0 0 (sU true ((s.Body[m].drop o).take n)))):=by
 have h2:z0c ((s.Body[m].drop o).take n).length:=by simp only[s7,td];unfold z0c;omega
 have e2:=z5j ((s.Body[m].drop o).take n) h2
 obtain⟨e,he⟩:∃ e,e=o+n:=⟨_,rfl⟩
 have hw:IntKind.wrap .i64 ((o:Int)+(n:Int))=(e:Int):=by rw[z01 (by omega) (by omega)];omega
 have f1:o≤e:=by omega
 have f2:e≤16:=by omega
 have f3:e - o=n:=by omega
 refine WL.draw z0t (by simp[z0b,noH]) (DL.o (by simp[hc,hk,hq,hm,hmb,ho,hn,h16,hw,f1,f2,f3,qs hk,qs hmb];exact⟨rfl,rfl⟩) ?_)
 have f4:min n (16 - o)=n:=by omega
 refine DL.call0 true e2 (by simp[-List.map_take,-List.map_drop,← List.map_take,← List.map_drop,hc,hmb,h16,f4]) (by simp[-List.map_take,-List.map_drop,zga]) ?_
 refine DL.o (by simp;exact⟨rfl,rfl⟩) (DL.nil ⟨by kernel_rfl,_,by simp;rfl,rfl,?_⟩)
 simp[h16,f4,List.take_take]
def zia (b:List UInt8)(k:Nat)(d:List UInt8):List UInt8:=b.take k ++ d ++ b.drop (k+d.length)
theorem zxo {b:List UInt8}{o:Nat}{d:List UInt8}(h:b.length=16)(hd:o+d.length≤16):(sU true (zia b o d):AU)=.sl true () 1 16 (z38 (b.map fun b=>u8 (b.toNat:Int)) o (d.map fun b=>u8 (b.toNat:Int))):=by
 have:(zia b o d).length=16:=by simp only[zia,qr,s7,td];omega
 show (AV.sl true () 1 (zia b o d).length ((zia b o d).map _):AU)=_
 rw[this]
 simp only[zia,z38,sj,List.map_take,List.map_drop,r5]
theorem zsl (s:St)(hs:Sized s)(c:Nat)(hc:c < s.Handles.length)(q:Op)(k:Nat)(hk:k < s.Handles[c].length)(hq:q.Handle=k)(m:Nat)(hm:s.Handles[c][k]=m)(hmb:m < s.Body.length)(o:Nat)(ho:q.Off=o)(hon:o+q.Data.length≤16)(h16:s.Body[m].length=16) :
  WL Try.prog z9z.nt zwr (dIn s c s.Handles[c].length q 8000) (z4n (zsi (sB true s.There) (sUU true (s.Body.set m (zia s.Body[m] o q.Data))) (sII true s.Handles) 0 0 zgb)):=by
 have f1:o≤16:=by omega
 have f4:min q.Data.length (16 - o)=q.Data.length:=by omega
 refine WL.draw z0t (by simp[z0b,noH]) (DL.o (by simp[-zjc,yaa,yqj,hon,f4,hc,hk,hq,hm,hmb,ho,h16,f1,qs hk,qs hmb];exact⟨rfl,rfl⟩) (DL.nil ⟨by kernel_rfl,_,by simp;rfl,rfl,?_⟩))
 simp[sq]
 rw[zxo h16 hon]
theorem zov (s:St)(c:Nat)(n:Nat)(q:Op)(m:Nat)(hq:q.Page=m)(ht:m < s.There.length)(hb:m < s.Body.length) :
  WL Try.prog z9z.nt zwt (b1 s c q ++ (b23 ++ (b4 (sB true s.There) (sUU true s.Body) (sII true s.Handles) ++ (b5 0 0 zgb ++ [(10700,0,bl true)])))) (z4n (zsi (sB true (s.There.set m false)) (sUU true (s.Body.set m (List.replicate 16 0))) (sII true s.Handles) 0 0 zgb)):=by
 refine WL.draw z0t (by simp[z0b,noH]) (DL.o (by simp[hq,ht,hb,z8d,qs ht,qs hb];exact⟨rfl,rfl⟩) (DL.nil ⟨by kernel_rfl,_,by simp;rfl,rfl,?_⟩))
 simp[sq]
 rfl
theorem zue (T:List Bool)(B:List (List UInt8))(Hs:List (List Int))(p k:Int)(d:List UInt8):WL Try.prog z9z.nt zua (zsi (sB true T) (sUU true B) (sII true Hs) p k (sU true d)) fun e L=>(e=Ex.nrm∨e=Ex.ret)∧RetOk z9z.rs [] (.tuple [z6l true ⟨T,B,Hs⟩,zby true ⟨0,p,k,d⟩]) L:=by
 refine WL.seq (WL.draw z0t (by simp[z0b,noH]) (DL.o (by simp;exact⟨rfl,rfl⟩) (DL.nil ⟨by kernel_rfl,_,by simp;rfl,?_⟩)))
 refine WL.ret ⟨.inr rfl,?_⟩
 simp[z9z]
theorem zgc (s:St)(hs:Sized s)(c:Nat)(hc:c < s.Handles.length)(q:Op)(T:List Bool)(B:List (List UInt8))(Hs:List (List Int))(p k:Int)(d:List UInt8)(dt:AU)(hd:dt=sU true d∨(dt=zgb∧d=[]))
  (h:WL Try.prog z9z.nt z7w (zxm s c s.Handles[c].length q ++ [(1900,0,i64 q.Kind)]) (z4n (zsi (sB true T) (sUU true B) (sII true Hs) p k dt))):FnC Try.prog 99 [] [ymq false s c q] [] (.tuple [z6l true ⟨T,B,Hs⟩,zby true ⟨0,p,k,d⟩]):=by
 refine wc yxh rfl ?_
 refine WL.sreg (by simp;rfl) (by simp;rfl) ?_
 refine w7 (RL.o (by simp;rfl) (RL.call0 false (ya9 s hs) (by simp) (by simp) (RL.o (by simp;rfl) (RL.nil ⟨_,by simp;rfl,?_⟩))))
 refine WL.sreg (by simp[hc,qs hc];rfl) (by simp;rfl) ?_
 refine WL.seq (WL.sreg (by simp;rfl) (by simp;rfl) ?_)
 refine WL.mono h fun e L ⟨h1,h2⟩=>?_
 subst h1 h2
 rcases hd with rfl | ⟨rfl,rfl⟩
 ·exact zue T B Hs p k d
 ·refine WL.nil1 504 true 1 (by simp) ?_
  exact zue T B Hs p k []
abbrev dGo (s:St)(c:Nat)(n:Nat)(q:Op):SL:=zxm s c n q ++ [(1900,0,i64 q.Kind)]
theorem z8q {cc:Cd}{L L':SL}{P:Program}{nt i:Nat}(h:WL P nt cc L (z4n L')):WL P nt cc L (wj i (z4n L')) :=
 h.mono fun e L1 ⟨h1,h2⟩=>by subst h1;exact⟨rfl,h2⟩
theorem yxj (s:St)(c n:Nat)(q:Op)(L':SL)(hk:q.Kind=1)(h:WL Try.prog z9z.nt zwo (dIn s c n q 2000) (z4n L')):WL Try.prog z9z.nt z7w (dGo s c n q) (z4n L'):=by
 obtain⟨K,P,hd,o,nn,d⟩:=q
 cases hk
 refine WL.block (WL.sreg (by first | (simp;done) | (simp;rfl)) (by first | (simp;done) | (simp;rfl)) (WL.cond (t:=true) (by simp) (fun _=>z8q h) (by simp)))
theorem yxk (s:St)(c n:Nat)(q:Op)(L':SL)(hk:q.Kind=2)(h:WL Try.prog z9z.nt zwp (dIn s c n q 4000) (z4n L')):WL Try.prog z9z.nt z7w (dGo s c n q) (z4n L'):=by
 obtain⟨K,P,hd,o,nn,d⟩:=q
 cases hk
 refine WL.block (WL.sreg (by first | (simp;done) | (simp;rfl)) (by first | (simp;done) | (simp;rfl)) (WL.cond (t:=false) (by simp) (by simp) fun _=>?_))
 refine WL.sreg (by first | (simp;done) | (simp;rfl)) (by first | (simp;done) | (simp;rfl)) (WL.cond (t:=true) (by simp) (fun _=>z8q h) (by simp))
theorem yxl (s:St)(c n:Nat)(q:Op)(L':SL)(hk:q.Kind=3)(h:WL Try.prog z9z.nt zwq (dIn s c n q 5500) (z4n L')):WL Try.prog z9z.nt z7w (dGo s c n q) (z4n L'):=by
 obtain⟨K,P,hd,o,nn,d⟩:=q
 cases hk
 refine WL.block (WL.sreg (by first | (simp;done) | (simp;rfl)) (by first | (simp;done) | (simp;rfl)) (WL.cond (t:=false) (by simp) (by simp) fun _=>?_))
 refine WL.sreg (by first | (simp;done) | (simp;rfl)) (by first | (simp;done) | (simp;rfl)) (WL.cond (t:=false) (by simp) (by simp) fun _=>?_)
 refine WL.sreg (by first | (simp;done) | (simp;rfl)) (by first | (simp;done) | (simp;rfl)) (WL.cond (t:=true) (by simp) (fun _=>z8q h) (by simp))
theorem yxm (s:St)(c n:Nat)(q:Op)(L':SL)(hk:q.Kind=4)(h:WL Try.prog z9z.nt zwr (dIn s c n q 8000) (z4n L')):WL Try.prog z9z.nt z7w (dGo s c n q) (z4n L'):=by
 obtain⟨K,P,hd,o,nn,d⟩:=q
 cases hk
 refine WL.block (WL.sreg (by first | (simp;done) | (simp;rfl)) (by first | (simp;done) | (simp;rfl)) (WL.cond (t:=false) (by simp) (by simp) fun _=>?_))
 refine WL.sreg (by first | (simp;done) | (simp;rfl)) (by first | (simp;done) | (simp;rfl)) (WL.cond (t:=false) (by simp) (by simp) fun _=>?_)
 refine WL.sreg (by first | (simp;done) | (simp;rfl)) (by first | (simp;done) | (simp;rfl)) (WL.cond (t:=false) (by simp) (by simp) fun _=>?_)
 refine WL.sreg (by first | (simp;done) | (simp;rfl)) (by first | (simp;done) | (simp;rfl)) (WL.cond (t:=true) (by simp) (fun _=>z8q h) (by simp))
theorem yxn (s:St)(c n:Nat)(q:Op)(L':SL)(hk:q.Kind=5)(h:WL Try.prog z9z.nt zws (dIn s c n q 10000) (z4n L')):WL Try.prog z9z.nt z7w (dGo s c n q) (z4n L'):=by
 obtain⟨K,P,hd,o,nn,d⟩:=q
 cases hk
 refine WL.block (WL.sreg (by first | (simp;done) | (simp;rfl)) (by first | (simp;done) | (simp;rfl)) (WL.cond (t:=false) (by simp) (by simp) fun _=>?_))
 refine WL.sreg (by first | (simp;done) | (simp;rfl)) (by first | (simp;done) | (simp;rfl)) (WL.cond (t:=false) (by simp) (by simp) fun _=>?_)
 refine WL.sreg (by first | (simp;done) | (simp;rfl)) (by first | (simp;done) | (simp;rfl)) (WL.cond (t:=false) (by simp) (by simp) fun _=>?_)
 refine WL.sreg (by first | (simp;done) | (simp;rfl)) (by first | (simp;done) | (simp;rfl)) (WL.cond (t:=false) (by simp) (by simp) fun _=>?_)
 refine WL.sreg (by first | (simp;done) | (simp;rfl)) (by first | (simp;done) | (simp;rfl)) (WL.cond (t:=true) (by simp) (fun _=>z8q h) (by simp))
theorem yxo (s:St)(c n:Nat)(q:Op)(L':SL)(hk:q.Kind=8)(h:WL Try.prog z9z.nt zwt (b1 s c q ++ (b23 ++ (b4 (sB true s.There) (sUU true s.Body) (sII true s.Handles) ++ (b5 0 0 zgb ++ [(10700,0,bl true)])))) (z4n L')):WL Try.prog z9z.nt z7w (dGo s c n q) (z4n L'):=by
 obtain⟨K,P,hd,o,nn,d⟩:=q
 cases hk
 refine WL.block (WL.sreg (by first | (simp;done) | (simp;rfl)) (by first | (simp;done) | (simp;rfl)) (WL.cond (t:=false) (by simp) (by simp) fun _=>?_))
 refine WL.sreg (by first | (simp;done) | (simp;rfl)) (by first | (simp;done) | (simp;rfl)) (WL.cond (t:=false) (by simp) (by simp) fun _=>?_)
 refine WL.sreg (by first | (simp;done) | (simp;rfl)) (by first | (simp;done) | (simp;rfl)) (WL.cond (t:=false) (by simp) (by simp) fun _=>?_)
 refine WL.sreg (by first | (simp;done) | (simp;rfl)) (by first | (simp;done) | (simp;rfl)) (WL.cond (t:=false) (by simp) (by simp) fun _=>?_)
 refine WL.sreg (by first | (simp;done) | (simp;rfl)) (by first | (simp;done) | (simp;rfl)) (WL.cond (t:=false) (by simp) (by simp) fun _=>?_)
 refine WL.sreg (by first | (simp;done) | (simp;rfl)) (by first | (simp;done) | (simp;rfl)) (WL.cond (t:=true) (by simp) (fun _=>z8q h) (by simp))
theorem ywn (s:St)(c n:Nat)(q:Op)(hk:¬ (q.Kind=1∨q.Kind=2∨q.Kind=3∨q.Kind=4∨q.Kind=5∨q.Kind=8)):WL Try.prog z9z.nt z7w (dGo s c n q) (z4n (zsi (sB true s.There) (sUU true s.Body) (sII true s.Handles) 0 0 zgb)):=by
 have e1:(q.Kind == 1)=false:=by simp;omega
 have e2:(q.Kind == 2)=false:=by simp;omega
 have e3:(q.Kind == 3)=false:=by simp;omega
 have e4:(q.Kind == 4)=false:=by simp;omega
 have e5:(q.Kind == 5)=false:=by simp;omega
 have e8:(q.Kind == 8)=false:=by simp;omega
 refine WL.block (WL.sreg (by first | (simp;done) | (simp;rfl)) (by first | (simp;done) | (simp;rfl)) (WL.cond (t:=false) (by simp[e1]) (by simp) fun _=>?_))
 refine WL.sreg (by first | (simp;done) | (simp;rfl)) (by first | (simp;done) | (simp;rfl)) (WL.cond (t:=false) (by simp[e2]) (by simp) fun _=>?_)
 refine WL.sreg (by first | (simp;done) | (simp;rfl)) (by first | (simp;done) | (simp;rfl)) (WL.cond (t:=false) (by simp[e3]) (by simp) fun _=>?_)
 refine WL.sreg (by first | (simp;done) | (simp;rfl)) (by first | (simp;done) | (simp;rfl)) (WL.cond (t:=false) (by simp[e4]) (by simp) fun _=>?_)
 refine WL.sreg (by first | (simp;done) | (simp;rfl)) (by first | (simp;done) | (simp;rfl)) (WL.cond (t:=false) (by simp[e5]) (by simp) fun _=>?_)
 refine WL.sreg (by first | (simp;done) | (simp;rfl)) (by first | (simp;done) | (simp;rfl)) (WL.cond (t:=false) (by simp[e8]) (by simp) fun _=>?_)
 refine WL.fin [1,107] (by first | (simp;done) | (simp;rfl)) (WL.skip ⟨rfl,?_⟩)
 simp
def rsE (e:Int):Rs:=⟨e,0,0,[]⟩
def z29 (s:St)(cl:Int):Bool:=!May s || (decide (cl < 0) || decide ((s.Handles.length:Int)≤cl))
abbrev DQ (v:AU):Ex→SL→Prop:=fun e L=>(e=Ex.nrm∨e=Ex.ret)∧RetOk zu9.rs [] v L
abbrev RQ (v:AU):Ex→SL→Prop:=fun e L=>e=Ex.ret∧RetOk zu9.rs [] v L
abbrev zxp (s:St)(cl:Int)(q:Op):SL:=[(100,0,i64 cl),(300,0,.bptr 3 1 0),(301,0,sB false s.There),(302,0,sUU false s.Body),(303,0,sII false s.Handles),(399,1,.non),(500,0,.bptr 5 1 0),(501,0,i64 q.Kind),(502,0,i64 q.Page),(503,0,i64 q.Handle),(504,0,i64 q.Off),(505,0,i64 q.N),(506,0,sU false q.Data),(599,1,.non)]
abbrev yqk:SL:=[(600,0,.bptr 6 1 0),(601,0,.sl true () 1 0 []),(602,0,.sl true () 1 0 []),(603,0,.sl true () 1 0 []),(699,1,.non),(700,0,.bptr 7 1 0),(701,0,i64 0),(702,0,i64 0),(703,0,i64 0),(704,0,.sl true () 1 0 []),(799,1,.non)]
theorem zib (s:St)(hs:Sized s)(cl:Int)(q:Op)(v:AU)(h1:z29 s cl=true→WL Try.prog zu9.nt y5v (zxp s cl q ++ (yqk ++ [(2300,0,bl true)])) (RQ v))
  (h2:z29 s cl=false→WL Try.prog zu9.nt y5w (zxp s cl q ++ (yqk ++ [(2300,0,bl false)])) (DQ v)):FnC Try.prog 44 [] [z6l false s,i64 cl,zsg false q] [] v:=by
 refine wc yxd rfl ?_
 refine WL.sreg (by simp;rfl) (by simp;rfl) ?_
 refine WL.seq (ww (zxp s cl q ++ (yqk ++ [(2300,0,bl (z29 s cl))])) ?_ ?_)
 ·by_cases hm:May s=true
  ·by_cases g1:cl < 0
   ·refine WL.reg (RL.o (by simp;rfl) (RL.call0 false (zcy s hs) (by simp) (by simp) (RL.o (by simp[hm];rfl) (RL.g (by simp;rfl) (RL.o (by simp[g1];rfl) (RL.g (by simp;rfl) (RL.o (by simp;rfl) (RL.nil ⟨_,by simp;rfl,rfl,?_⟩))))))))
    simp[z29,hm,g1]
   ·refine WL.reg (RL.o (by simp;rfl) (RL.call0 false (zcy s hs) (by simp) (by simp) (RL.o (by simp[hm];rfl) (RL.g (by simp;rfl) (RL.o (by simp[g1];rfl) (RL.g (by simp;rfl) (RL.o (by simp;rfl) (RL.nil ⟨_,by simp;rfl,rfl,?_⟩))))))))
    simp[z29,hm,g1]
  ·have hm':May s=false:=by simpa using hm
   refine WL.reg (RL.o (by simp;rfl) (RL.call0 false (zcy s hs) (by simp) (by simp) (RL.o (by simp[hm'];rfl) (RL.g (by simp;rfl) (RL.o (by simp;rfl) (RL.g (by simp;rfl) (RL.o (by simp;rfl) (RL.nil ⟨_,by simp;rfl,rfl,?_⟩))))))))
   simp[z29,hm']
 ·cases hb:z29 s cl with
  | true =>
   refine WL.cond (t:=true) (by simp) (fun _=>?_) (by simp)
   exact (h1 hb).mono fun e L ⟨h,h'⟩=>by subst h;exact⟨.inr rfl,h'⟩
  | false =>
   refine WL.cond (t:=false) (by simp) (by simp) (fun _=>WL.skip ?_)
   exact h2 hb
theorem zxq (s:St)(hs:Sized s)(cl:Int)(q:Op)(hn:z29 s cl=true):FnC Try.prog 44 [] [z6l false s,i64 cl,zsg false q] [] (.tuple [z6l false s,zby true (rsE 1)]):=by
 refine zib s hs cl q _ (fun _=>?_) (fun h=>by rw[hn] at h;cases h)
 refine WL.sreg (by simp;rfl) (by simp;rfl) ?_
 refine WL.nil1 704 true 1 (by simp) (WL.ret ⟨rfl,?_⟩)
 simp[zu9,rsE]
theorem zxr (s:St)(hs:Sized s)(c:Nat)(hc:c < s.Handles.length)(h6:s.Handles[c].length=6)(q:Op)(hn:z29 s c=false)(he:z06 s s.Handles[c] q ≠ 0):FnC Try.prog 44 [] [z6l false s,i64 c,zsg false q] [] (.tuple [z6l false s,zby true (rsE (z06 s s.Handles[c] q))]):=by
 refine zib s hs c q _ (fun h=>by rw[hn] at h;cases h) (fun _=>?_)
 refine WL.sreg (by simp;rfl) (by simp;rfl) ?_
 refine WL.seq (w7 (RL.o (by simp;rfl) (RL.call0 false (zot s hs c hc h6 q) (by simp) (by simp) (RL.o (by simp;rfl) (RL.nil ⟨_,by simp;rfl,?_⟩)))))
 have hb:(z06 s s.Handles[c] q != 0)=true:=by simp[he]
 refine WL.sreg (by simp;rfl) (by simp;rfl) (WL.cond (t:=true) (by simp[hb]) (fun _=>?_) (by simp))
 refine WL.sreg (by simp;rfl) (by simp;rfl) ?_
 refine WL.nil1 704 true 1 (by simp) (WL.ret ⟨.inr rfl,?_⟩)
 simp[zu9,rsE]
theorem yql (s:St)(hs:Sized s)(c:Nat)(hc:c < s.Handles.length)(h6:s.Handles[c].length=6)(q:Op)(hn:z29 s c=false)(he:z06 s s.Handles[c] q=0)(s':St)(r:Rs)(hd:FnC Try.prog 99 [] [ymq false s c q] [] (.tuple [z6l true s',zby true r])):FnC Try.prog 44 [] [z6l false s,i64 c,zsg false q] [] (.tuple [z6l true s',zby true r]):=by
 refine zib s hs c q _ (fun h=>by rw[hn] at h;cases h) (fun _=>?_)
 refine WL.sreg (by simp;rfl) (by simp;rfl) ?_
 have e35:=zot s hs c hc h6 q
 rw[he] at e35
 refine WL.seq (w7 (RL.o (by simp;rfl) (RL.call0 false e35 (by simp) (by simp) (RL.o (by simp;rfl) (RL.nil ⟨_,by simp;rfl,?_⟩)))))
 refine WL.sreg (by simp;rfl) (by simp;rfl) (WL.cond (t:=false) (by simp) (by simp) (fun _=>WL.skip ?_))
 refine w7 (RL.o (by simp;rfl) (RL.call0 false hd (by simp) (by simp) (RL.o (by simp;rfl) (RL.nil ⟨_,by simp;rfl,?_⟩))))
 refine WL.ret ⟨.inr rfl,?_⟩
 simp[zu9]
structure OkSt (s:St):Prop where
 n1:1≤s.There.length
 n2:s.There.length≤48
 bn:s.Body.length=s.There.length
 h1:1≤s.Handles.length
 h2:s.Handles.length≤6
 b16:∀ b ∈ s.Body,b.length=16
 zero:∀ (i:Nat) (hi:i < s.Body.length),s.There.getD i false=false→s.Body[i]=List.replicate 16 0
 l6:∀ l ∈ s.Handles,l.length=6
 hp:∀ l ∈ s.Handles,∀ p ∈ l,p=-1∨z2n s p=true
theorem OkSt.sized {s:St}(h:OkSt s):Sized s :=
 ⟨by have:=h.n2;omega,by have:=h.n2;have:=h.bn;omega,by have:=h.h2;omega,fun b hb=>by rw[h.b16 b hb];omega,fun l hl=>by rw[h.l6 l hl];omega⟩
theorem z98 (s:St):∀ (l:List (List UInt8)) (i:Nat),z3o s i l=true ↔ ∀ (j:Nat) (hj:j < l.length),zg8 s (i+j) l[j]=true
 | [],i=>by simp[z3o]
 | b :: l,i=>by
  simp only[z3o,pm,z98 s l (i+1)]
  constructor
  ·intro⟨h1,h2⟩ j hj
   cases j with
   | zero=>exact h1
   | succ j =>
    have:=h2 j (by simpa using hj)
    simpa [show i+1+j=i+(j+1) by omega] using this
  ·intro h
   refine⟨h 0 (by simp),fun j hj=>?_⟩
   have:=h (j+1) (by simpa using hj)
   simpa [show i+1+j=i+(j+1) by omega] using this
theorem zbg (s:St):May s=true ↔ OkSt s:=by
 simp only[May,pm,decide_eq_true_eq,z98,qe]
 constructor
 ·intro⟨⟨⟨⟨⟨⟨a,b⟩,c⟩,d⟩,e⟩,f⟩,g⟩
  have f':∀ (j:Nat) (hj:j < s.Body.length),s.Body[j].length=16∧(s.There.getD j false=false→s.Body[j]=List.replicate 16 0):=fun j hj=>by
   have:=f j hj
   simp only[zg8,sy,pm,decide_eq_true_eq,qp,beq_iff_eq] at this
   exact⟨this.1,fun h=>this.2.elim (fun h'=>by rw[h] at h';cases h') id⟩
  refine⟨a,b,c,d,e,fun x hx=>?_,fun i hi h=>(f' i hi).2 h,fun l hl=>?_,fun l hl p hp=>?_⟩
  ·obtain⟨j,hj,rfl⟩:=List.mem_iff_getElem.1 hx
   exact (f' j hj).1
  ·have:=g l hl
   simp only[z97,pm,decide_eq_true_eq] at this
   exact this.1
  ·have:=g l hl
   simp only[z97,pm,qm,List.any_eq_false] at this
   have:=this.2 p hp
   simp only[zud,pm,bne_iff_ne,qm,not_and,Bool.not_eq_false] at this
   by_cases e:p=-1
   ·exact .inl e
   ·exact .inr (this e)
 ·intro h
  refine⟨⟨⟨⟨⟨⟨h.n1,h.n2⟩,h.bn⟩,h.h1⟩,h.h2⟩,fun j hj=>?_⟩,fun l hl=>?_⟩
  ·simp only[zg8,sy,pm,decide_eq_true_eq,qp,beq_iff_eq]
   refine⟨h.b16 _ (qb hj),?_⟩
   cases e:s.There.getD j false with
   | true=>exact .inl rfl
   | false=>exact .inr (h.zero j hj e)
  ·simp only[z97,pm,decide_eq_true_eq,qm,List.any_eq_false]
   refine⟨h.l6 l hl,fun p hp=>?_⟩
   simp only[zud,pm,bne_iff_ne,qm,not_and,Bool.not_eq_false]
   intro e
   exact (h.hp l hl p hp).resolve_left e
theorem zjv {α:Type}(p:α→Bool):∀ (l:List α) (n:Nat),l.any p=true→∃ i,∃ h:i < l.length,ixF p l n=((n+i:Nat):Int)∧p l[i]=true
 | [],n,h=>by simp at h
 | x :: l,n,h=>by
  simp only[ixF]
  by_cases e:p x=true
  ·exact⟨0,by simp,by simp[e],e⟩
  ·have h':l.any p=true:=by simpa [e] using h
   obtain⟨i,hi,h1,h2⟩:=zjv p l (n+1) h'
   refine⟨i+1,by simpa using hi,?_,by simpa using h2⟩
   rw[if_neg e,h1]
   congr 1
   omega
def ix {α:Type}(p:α→Bool)(l:List α):Nat:=(ixF p l 0).toNat
theorem z62 {α:Type}{p:α→Bool}{l:List α}(h:l.any p=true):∃ hi:ix p l < l.length,ixF p l 0=(ix p l:Int)∧p l[ix p l]=true:=by
 obtain⟨i,hi,h1,h2⟩:=zjv p l 0 h
 rw[sy] at h1
 have e:ix p l=i:=by simp[ix,h1]
 subst e
 exact⟨hi,h1,h2⟩
def z4m (s:St)(c:Nat)(q:Op):St × Rs :=
 let l:=s.Handles.getD c []
 if q.Kind=1 then (⟨s.There.set (ix (· == false) s.There) true,s.Body,s.Handles.set c (l.set (ix (· == -1) l) (ix (· == false) s.There:Nat))⟩,⟨0,(ix (· == false) s.There:Nat),(ix (· == -1) l:Nat),[]⟩)
 else if q.Kind=2 then (⟨s.There,s.Body,s.Handles.set c (l.set (ix (· == -1) l) q.Page)⟩,⟨0,q.Page,(ix (· == -1) l:Nat),[]⟩)
 else if q.Kind=3 then (s,⟨0,0,0,((s.Body.getD (l.getD q.Handle.toNat 0).toNat []).drop q.Off.toNat).take q.N.toNat⟩)
 else if q.Kind=4 then (⟨s.There,s.Body.set (l.getD q.Handle.toNat 0).toNat (zia (s.Body.getD (l.getD q.Handle.toNat 0).toNat []) q.Off.toNat q.Data),s.Handles⟩,⟨0,0,0,[]⟩)
 else if q.Kind=5 then (⟨s.There,s.Body,s.Handles.set c (l.set q.Handle.toNat (-1))⟩,⟨0,0,0,[]⟩)
 else if q.Kind=8 then (⟨s.There.set q.Page.toNat false,s.Body.set q.Page.toNat (List.replicate 16 0),s.Handles⟩,⟨0,0,0,[]⟩)
 else (s,⟨0,0,0,[]⟩)
theorem zxs (s:St)(hok:OkSt s)(c:Nat)(hc:c < s.Handles.length)(q:Op)(h0:z06 s s.Handles[c] q=0):FnC Try.prog 99 [] [ymq false s c q] [] (.tuple [z6l true (z4m s c q).1,zby true (z4m s c q).2]):=by
 have hs:=hok.sized
 have hl:s.Handles.getD c []=s.Handles[c]:=by simp[hc]
 have h6:s.Handles[c].length=6:=hok.l6 _ (qb hc)
 by_cases k1:q.Kind=1
 ·have hr:zev s.Handles[c]=true:=by
   simp only[z06,k1,if_true] at h0
   split at h0
   ·cases h0
   ·rename_i h;simpa using h
  have hf:s.There.any (· == false)=true:=by
   simp only[z06,k1,if_true,hr] at h0
   split at h0
   ·rename_i h;cases h
   ·split at h0
    ·cases h0
    ·rename_i h;simpa using h
  obtain⟨i1,i2,i3⟩:=z62 hf
  obtain⟨j1,j2,j3⟩:=z62 hr
  have:=zgc s hs c hc q _ _ _ _ _ [] zgb (.inr ⟨rfl,rfl⟩) (yxj s c _ q _ k1 (yab s hs c hc q _ _ i1 i2 j1 j2))
  simpa only [z4m,k1,if_true,hl] using this
 by_cases k2:q.Kind=2∨q.Kind=6∨q.Kind=8
 ·have hpg:z39 s q.Page=true∧z2n s q.Page=true∧¬ (q.Kind=2∧zev s.Handles[c]=false):=by
   rw[z06,if_neg k1,if_pos k2] at h0
   split at h0
   ·cases h0
   rename_i a1
   split at h0
   ·cases h0
   rename_i a2
   split at h0
   ·cases h0
   rename_i a3
   exact⟨by simpa using a1,by simpa using a2,a3⟩
  obtain⟨p1,p2,p3⟩:=hpg
  by_cases e2:q.Kind=2
  ·have hr:zev s.Handles[c]=true:=by
    cases e:zev s.Handles[c] with
    | true=>rfl
    | false=>exact absurd ⟨e2,e⟩ p3
   obtain⟨j1,j2,j3⟩:=z62 hr
   have:=zgc s hs c hc q _ _ _ _ _ [] zgb (.inr ⟨rfl,rfl⟩) (yxk s c _ q _ e2 (zsj s hs c hc q _ j1 j2))
   simpa [z4m,e2,hc] using this
  by_cases e8:q.Kind=8
  ·simp only[z39,pm,decide_eq_true_eq] at p1
   obtain⟨m,hm⟩:=pt p1.1
   have hm1:m < s.There.length:=by omega
   have hm2:m < s.Body.length:=by rw[hok.bn];exact hm1
   have:=zgc s hs c hc q _ _ _ _ _ [] zgb (.inr ⟨rfl,rfl⟩) (yxo s c s.Handles[c].length q _ e8 (zov s c 0 q m hm hm1 hm2))
   simpa [z4m,e8,hm] using this
  ·have:=zgc s hs c hc q _ _ _ _ _ [] zgb (.inr ⟨rfl,rfl⟩) (ywn s c s.Handles[c].length q (by omega))
   have k:¬ q.Kind=3∧¬ q.Kind=4∧¬ q.Kind=5:=by omega
   simpa [z4m,k1,e2,e8,k] using this
 by_cases k3:q.Kind=3∨q.Kind=4∨q.Kind=5
 ·have hh:z5q s.Handles[c] q.Handle=false∧z3h q (if q.Kind=4 then q.Data.length else q.N)=false:=by
   rw[z06,if_neg k1,if_neg k2,if_pos k3] at h0
   generalize (if q.Kind=4 then (q.Data.length:Int) else q.N)=nn at h0 ⊢
   split at h0
   ·cases h0
   rename_i a1
   split at h0
   ·cases h0
   rename_i a2
   exact⟨by simpa using a1,by simpa using a2⟩
  obtain⟨p1,p2⟩:=hh
  simp only[z5q,qx,decide_eq_false_iff_not,beq_eq_false_iff_ne] at p1
  obtain⟨k,hk⟩:=pt (a:=q.Handle) (by omega)
  have hk6:k < s.Handles[c].length:=by omega
  have hne:s.Handles[c][k] ≠ -1:=by
   have:=p1.2.2
   simpa [hk,hk6] using this
  have hth:=(hok.hp _ (qb hc) _ (qb hk6)).resolve_left hne
  simp only[z2n,pm,decide_eq_true_eq] at hth
  obtain⟨m,hm⟩:=pt hth.1
  have hmt:m < s.There.length:=by
   have:=hth.2
   rw[hm] at this
   by_cases h:m < s.There.length
   ·exact h
   ·simp[h] at this
  have hmb:m < s.Body.length:=by rw[hok.bn];exact hmt
  have h16:=hok.b16 _ (qb hmb)
  by_cases e5:q.Kind=5
  ·have:=zgc s hs c hc q _ _ _ _ _ [] zgb (.inr ⟨rfl,rfl⟩) (yxn s c _ q _ e5 (zsk s c hc q k hk6 hk))
   simpa [z4m,e5,hc,hk] using this
  simp only[z3h,bne_iff_ne,ne_eq,e5,not_false_eq_true,Bool.and_eq_false_iff,qx,decide_eq_false_iff_not] at p2
  have p2:=p2.resolve_left (by simp[e5])
  obtain⟨o,ho⟩:=pt (a:=q.Off) (by omega)
  by_cases e4:q.Kind=4
  ·rw[if_pos e4] at p2
   have:=zgc s hs c hc q _ _ _ _ _ [] zgb (.inr ⟨rfl,rfl⟩) (yxm s c _ q _ e4 (zsl s hs c hc q k hk6 hk m hm hmb o ho (by omega) h16))
   simpa [z4m,e4,hc,hk,hk6,hm,hmb,ho] using this
  ·have e3:q.Kind=3:=by omega
   rw[if_neg e4] at p2
   obtain⟨n,hn⟩:=pt (a:=q.N) (by omega)
   have:=zgc s hs c hc q _ _ _ _ _ ((s.Body[m].drop o).take n) _ (.inl rfl) (yxl s c _ q _ e3 (zxn s hs c hc q k hk6 hk m hm hmb o n ho hn (by omega) h16))
   simpa [z4m,e3,hc,hk,hk6,hm,hmb,ho,hn] using this
 ·have:=zgc s hs c hc q _ _ _ _ _ [] zgb (.inr ⟨rfl,rfl⟩) (ywn s c s.Handles[c].length q (by omega))
  have k:¬ q.Kind=1∧¬ q.Kind=2∧¬ q.Kind=3∧¬ q.Kind=4∧¬ q.Kind=5∧¬ q.Kind=8:=by omega
  simpa [z4m,k] using this
def DoB (s:St)(cl:Int)(q:Op):Bool × St × Rs :=
 if z29 s cl=true then (false,s,rsE 1)
 else if z06 s (s.Handles.getD cl.toNat []) q=0 then (true,z4m s cl.toNat q)
 else (false,s,rsE (z06 s (s.Handles.getD cl.toNat []) q))
theorem yqm (s:St)(hs:Sized s)(cl:Int)(q:Op):FnC Try.prog 44 [] [z6l false s,i64 cl,zsg false q] [] (.tuple [z6l (DoB s cl q).1 (DoB s cl q).2.1,zby true (DoB s cl q).2.2]):=by
 by_cases hn:z29 s cl=true
 ·have:=zxq s hs cl q hn
  simpa only [DoB,if_pos hn] using this
 have hn':z29 s cl=false:=by simpa using hn
 simp only[z29,qx,tf,decide_eq_false_iff_not] at hn'
 obtain⟨c,rfl⟩:=pt (a:=cl) (by omega)
 have hc:c < s.Handles.length:=by omega
 have hok:=(zbg s).1 hn'.1
 have h6:=hok.l6 _ (qb hc)
 have hl:s.Handles.getD c []=s.Handles[c]:=by simp[hc]
 have hn2:z29 s (c:Int)=false:=by simpa using hn
 by_cases h0:z06 s s.Handles[c] q=0
 ·have:=yql s hs c hc h6 q hn2 h0 _ _ (zxs s hok c hc q h0)
  simp only[DoB,if_neg hn,t9,hl,if_pos h0]
  exact this
 ·have:=zxr s hs c hc h6 q hn2 h0
  simp only[DoB,if_neg hn,t9,hl,if_neg h0]
  exact this
theorem zc7 {s:St}{i:Nat}{p:Int}{b:List (List UInt8)}{l:List (List Int)}(h:z2n s p=true):z2n ⟨s.There.set i true,b,l⟩ p=true:=by
 simp only[z2n,pm,decide_eq_true_eq] at h ⊢
 refine⟨h.1,?_⟩
 have hlt:p.toNat < s.There.length:=by
  by_cases e:p.toNat < s.There.length
  ·exact e
  ·simp[e] at h
 by_cases e:i=p.toNat
 ·subst e;simp[hlt]
 ·have h2:=h.2
  simp only[ph] at h2 ⊢
  rw[sf e];exact h2
theorem zsm {p:Int}{l:List Int}(h:cnt p l=0):∀ x ∈ l,x ≠ p:=by
 intro x hx e
 subst e
 unfold cnt at h
 have:x ∈ l.filter (· == x):=by simp[hx]
 rw[List.length_eq_zero_iff.1 h] at this
 simp at this
theorem zd0 {p:Int}:∀ {ls:List (List Int)},z4y p ls=0→∀ l ∈ ls,∀ x ∈ l,x ≠ p
 | [],_,l,hl=>by simp at hl
 | a :: ls,h,l,hl=>by
  simp only[z4y] at h
  rcases qj.1 hl with rfl | hl
  ·exact zsm (by omega)
  ·exact zd0 (by omega) l hl
theorem zic {b:List UInt8}{k:Nat}{d:List UInt8}(h:k+d.length≤b.length):(zia b k d).length=b.length:=by
 simp only[zia,qr,s7,td];omega
theorem zll {s:St}(h:OkSt s){c:Nat}(hc:c < s.Handles.length){q:Op}(h0:z06 s s.Handles[c] q=0) :
  (q.Kind=1∧∃ i k:Nat,∃ hi:i < s.There.length,∃ hk:k < 6,s.There[i]=false∧s.Handles[c].getD k 0=-1∧ix (· == false) s.There=i∧ix (· == -1) s.Handles[c]=k∧z4m s c q=(⟨s.There.set i true,s.Body,s.Handles.set c (s.Handles[c].set k (i:Nat))⟩,⟨0,(i:Nat),(k:Nat),[]⟩)) ∨
  (q.Kind=2∧∃ k:Nat,∃ hk:k < 6,z2n s q.Page=true∧s.Handles[c].getD k 0=-1∧ix (· == -1) s.Handles[c]=k∧z4m s c q=(⟨s.There,s.Body,s.Handles.set c (s.Handles[c].set k q.Page)⟩,⟨0,q.Page,(k:Nat),[]⟩)) ∨
  (q.Kind=3∧∃ k m o n:Nat,∃ hk:k < 6,∃ hm:m < s.Body.length,q.Handle=k∧s.Handles[c].getD k 0=(m:Nat)∧s.There.getD m false=true∧q.Off=(o:Nat)∧q.N=(n:Nat)∧o+n≤16∧z4m s c q=(s,⟨0,0,0,(s.Body[m].drop o).take n⟩)) ∨
  (q.Kind=4∧∃ k m o:Nat,∃ hk:k < 6,∃ hm:m < s.Body.length,q.Handle=k∧s.Handles[c].getD k 0=(m:Nat)∧s.There.getD m false=true∧q.Off=(o:Nat)∧o+q.Data.length≤16∧z4m s c q=(⟨s.There,s.Body.set m (zia s.Body[m] o q.Data),s.Handles⟩,⟨0,0,0,[]⟩)) ∨
  (q.Kind=5∧∃ k m:Nat,∃ hk:k < 6,q.Handle=k∧s.Handles[c].getD k 0=(m:Nat)∧s.There.getD m false=true∧z4m s c q=(⟨s.There,s.Body,s.Handles.set c (s.Handles[c].set k (-1))⟩,⟨0,0,0,[]⟩)) ∨
  (q.Kind=8∧∃ m:Nat,∃ hm:m < s.There.length,q.Page=m∧s.There[m]=true∧z4y m s.Handles=0∧z4m s c q=(⟨s.There.set m false,s.Body.set m (List.replicate 16 0),s.Handles⟩,⟨0,0,0,[]⟩)) ∨
  ((q.Kind=6∧z2n s q.Page=true∨q.Kind=7)∧z4m s c q=(s,⟨0,0,0,[]⟩)):=by
 have h6:s.Handles[c].length=6:=h.l6 _ (qb hc)
 by_cases k1:q.Kind=1
 ·left
  have hr:zev s.Handles[c]=true:=by
   simp only[z06,k1,if_true] at h0
   split at h0
   ·cases h0
   ·rename_i h;simpa using h
  have hf:s.There.any (· == false)=true:=by
   simp only[z06,k1,if_true,hr] at h0
   split at h0
   ·rename_i h;cases h
   ·split at h0
    ·cases h0
    ·rename_i h;simpa using h
  obtain⟨i1,i2,i3⟩:=z62 hf
  obtain⟨j1,j2,j3⟩:=z62 hr
  refine⟨k1,_,_,i1,by omega,by simpa using i3,?_,rfl,rfl,by simp[z4m,k1,hc]⟩
  simpa [j1] using j3
 right
 by_cases k2:q.Kind=2∨q.Kind=6∨q.Kind=8
 ·rw[z06,if_neg k1,if_pos k2] at h0
  split at h0
  ·cases h0
  rename_i a1
  split at h0
  ·cases h0
  rename_i a2
  split at h0
  ·cases h0
  rename_i a3
  split at h0
  ·cases h0
  rename_i a4
  have hth:z2n s q.Page=true:=by simpa using a2
  by_cases e2:q.Kind=2
  ·left
   have hr:zev s.Handles[c]=true:=by
    cases e:zev s.Handles[c] with
    | true=>rfl
    | false=>exact absurd ⟨e2,e⟩ a3
   obtain⟨j1,j2,j3⟩:=z62 hr
   exact⟨e2,_,by omega,hth,by simpa [j1] using j3,rfl,by simp[z4m,e2,hc]⟩
  by_cases e8:q.Kind=8
  ·right;right;right;right;left
   simp only[z2n,pm,decide_eq_true_eq] at hth
   obtain⟨m,hm⟩:=pt hth.1
   have hm1:m < s.There.length:=by
    have:=hth.2
    rw[hm] at this
    by_cases e:m < s.There.length
    ·exact e
    ·simp[e] at this
   refine⟨e8,m,hm1,hm,by simpa [hm,hm1] using hth.2,?_,by simp[z4m,e8,hm]⟩
   have:¬ (0 < zlj s q.Page):=fun hp=>a4 ⟨e8,hp⟩
   rw[hm] at this
   simp only[zlj] at this
   rw[if_neg (by omega)] at this
   omega
  ·right;right;right;right;right
   have k:¬ q.Kind=3∧¬ q.Kind=4∧¬ q.Kind=5:=by omega
   exact⟨.inl ⟨by omega,hth⟩,by simp[z4m,k1,e2,e8,k]⟩
 by_cases k3:q.Kind=3∨q.Kind=4∨q.Kind=5
 ·rw[z06,if_neg k1,if_neg k2,if_pos k3] at h0
  generalize hnn:(if q.Kind=4 then (q.Data.length:Int) else q.N)=nn at h0
  split at h0
  ·cases h0
  rename_i p1
  split at h0
  ·cases h0
  rename_i p2
  have p1:z5q s.Handles[c] q.Handle=false:=by simpa using p1
  have p2:z3h q nn=false:=by simpa using p2
  simp only[z5q,qx,decide_eq_false_iff_not,beq_eq_false_iff_ne] at p1
  obtain⟨k,hk⟩:=pt (a:=q.Handle) (by omega)
  have hk6:k < s.Handles[c].length:=by omega
  have hne:s.Handles[c][k] ≠ -1:=by
   have:=p1.2.2
   simpa [hk,hk6] using this
  have hth:=(h.hp _ (qb hc) _ (qb hk6)).resolve_left hne
  simp only[z2n,pm,decide_eq_true_eq] at hth
  obtain⟨m,hm⟩:=pt hth.1
  have hmt:m < s.There.length:=by
   have:=hth.2
   rw[hm] at this
   by_cases h:m < s.There.length
   ·exact h
   ·simp[h] at this
  have htm:s.There.getD m false=true:=by have:=hth.2;rw[hm] at this;exact this
  have hg:s.Handles[c].getD k 0=(m:Nat):=by simp[hk6,hm]
  have hmb:m < s.Body.length:=by rw[h.bn];exact hmt
  by_cases e5:q.Kind=5
  ·right;right;right;left
   exact⟨e5,k,m,by omega,hk,hg,htm,by simp[z4m,e5,hc,hk]⟩
  simp only[z3h,bne_iff_ne,ne_eq,e5,not_false_eq_true,Bool.and_eq_false_iff,qx,decide_eq_false_iff_not] at p2
  have p2:=p2.resolve_left (by simp[e5])
  obtain⟨o,ho⟩:=pt (a:=q.Off) (by omega)
  by_cases e4:q.Kind=4
  ·rw[if_pos e4] at hnn
   right;right;left
   exact⟨e4,k,m,o,by omega,hmb,hk,hg,htm,ho,by omega,by simp[z4m,e4,hc,hk,hk6,hm,hmb,ho]⟩
  ·have e3:q.Kind=3:=by omega
   rw[if_neg e4] at hnn
   obtain⟨n,hn⟩:=pt (a:=q.N) (by omega)
   right;left
   exact⟨e3,k,m,o,n,by omega,hmb,hk,hg,htm,ho,hn,by omega,by simp[z4m,e3,hc,hk,hk6,hm,hmb,ho,hn]⟩
 ·right;right;right;right;right
  have k7:q.Kind=7:=by
   rw[z06,if_neg k1,if_neg k2,if_neg k3] at h0
   by_cases e:q.Kind=7
   ·exact e
   ·rw[if_neg e] at h0;cases h0
  exact⟨.inr k7,by simp[z4m,k7]⟩
theorem OkSt.step {s:St}(h:OkSt s){c:Nat}(hc:c < s.Handles.length){q:Op}(h0:z06 s s.Handles[c] q=0):OkSt (z4m s c q).1:=by
 have h6:s.Handles[c].length=6:=h.l6 _ (qb hc)
 have hset:∀ (k:Nat) (v:Int) (P:Int→Prop),(∀ l ∈ s.Handles,∀ p ∈ l,P p)→P v→∀ l ∈ s.Handles.set c (s.Handles[c].set k v),∀ p ∈ l,P p:=by
  intro k v P h1 h2 l hl p hp
  rcases si hl with hl | rfl
  ·exact h1 l hl p hp
  ·rcases si hp with hp | rfl
   ·exact h1 _ (qb hc) p hp
   ·exact h2
 have hlen:∀ (k:Nat) (v:Int),∀ l ∈ s.Handles.set c (s.Handles[c].set k v),l.length=6:=by
  intro k v l hl
  rcases si hl with hl | rfl
  ·exact h.l6 l hl
  ·simp[h6]
 rcases zll h hc h0 with ⟨_,i,k,hi,hk,h1,_,_,_,e⟩ | ⟨_,k,hk,ht,_,_,e⟩ | ⟨_,k,m,o,n,hk,hm,_,_,_,_,_,_,e⟩ | ⟨_,k,m,o,hk,hm,_,_,ht,_,ho,e⟩ | ⟨_,k,m,hk,_,_,_,e⟩ | ⟨_,m,hm,_,ht,hp,e⟩ | ⟨_,e⟩<;>rw [e]
 ·refine⟨by simpa using h.n1,by simpa using h.n2,by simpa using h.bn,by simpa using h.h1,by simpa using h.h2,h.b16,fun j hj hf=>?_,hlen _ _,?_⟩
  ·refine h.zero j hj ?_
   simp only[ph] at hf ⊢
   by_cases e:i=j
   ·subst e;simp[hi] at hf
   ·rwa [sf e] at hf
  ·refine hset _ _ _ (fun l hl p hp=>(h.hp l hl p hp).imp id zc7) (.inr ?_)
   simp[z2n,hi]
 ·exact⟨h.n1,h.n2,h.bn,by simpa using h.h1,by simpa using h.h2,h.b16,h.zero,hlen _ _,hset _ _ _ h.hp (.inr ht)⟩
 ·exact h
 ·have h16:=h.b16 _ (qb hm)
  have hov:(zia s.Body[m] o q.Data).length=16:=by rw[zic (by omega),h16]
  refine⟨h.n1,h.n2,by simpa using h.bn,h.h1,h.h2,fun b hb=>?_,fun j hj hf=>?_,h.l6,h.hp⟩
  ·rcases si hb with hb | rfl
   ·exact h.b16 b hb
   ·exact hov
  ·simp only[List.length_set] at hj
   have hne:m ≠ j:=by rintro rfl;simp only at hf;rw[ht] at hf;cases hf
   simp only[List.getElem_set_ne hne]
   exact h.zero j hj hf
 ·exact⟨h.n1,h.n2,h.bn,by simpa using h.h1,by simpa using h.h2,h.b16,h.zero,hlen _ _,hset _ _ _ h.hp (.inl rfl)⟩
 ·refine⟨by simpa using h.n1,by simpa using h.n2,by simpa using h.bn,h.h1,h.h2,fun b hb=>?_,fun j hj hf=>?_,h.l6,fun l hl p hpl=>?_⟩
  ·rcases si hb with hb | rfl
   ·exact h.b16 b hb
   ·simp
  ·simp only[List.length_set] at hj
   by_cases e:m=j
   ·subst e;simp
   ·simp only[List.getElem_set_ne e]
    refine h.zero j hj ?_
    simp only[ph] at hf ⊢
    rwa [sf e] at hf
  ·rcases h.hp l hl p hpl with h1 | h1
   ·exact .inl h1
   ·right
    have hne:=zd0 hp l hl p hpl
    simp only[z2n,pm,decide_eq_true_eq] at h1 ⊢
    refine⟨h1.1,?_⟩
    have:m ≠ p.toNat:=by omega
    simp only[ph] at h1 ⊢
    rw[sf this]
    exact h1.2
 ·exact h
theorem OkSt.doB {s:St}(h:OkSt s)(cl:Int)(q:Op):OkSt (DoB s cl q).2.1:=by
 unfold DoB
 by_cases hn:z29 s cl=true
 ·rw[if_pos hn];exact h
 rw[if_neg hn]
 have hn':z29 s cl=false:=by simpa using hn
 simp only[z29,qx,tf,decide_eq_false_iff_not] at hn'
 obtain⟨c,rfl⟩:=pt (a:=cl) (by omega)
 have hc:c < s.Handles.length:=by omega
 have hl:s.Handles.getD (c:Int).toNat []=s.Handles[c]:=by simp[hc]
 rw[hl]
 by_cases h0:z06 s s.Handles[c] q=0
 ·rw[if_pos h0]
  exact h.step hc h0
 ·rw[if_neg h0];exact h
theorem Sized.doB {s:St}(h:Sized s)(cl:Int)(q:Op):Sized (DoB s cl q).2.1:=by
 cases hm:May s with
 | true=>exact (((zbg s).1 hm).doB cl q).sized
 | false =>
  have:z29 s cl=true:=by simp[z29,hm]
  simp only[DoB,this,if_true]
  exact h
@[simp] theorem zgd (b:Bool) (s:St):z1p (z6l b s)=z6l false s:=by
 simp[z1p,Function.comp_def]
@[simp] theorem zow (b:Bool) (r:Rs):z1p (zby b r)=zby false r:=by
 simp[z1p]
theorem zge (k:Nat)(v u:AU):∀ L:SL,z9h (z0l L k v) k u=z0l L k u
 | []=>by simp[z0l,z9h]
 | (k',e) :: L=>by
  simp only[z0l]
  by_cases h:k=k'
  ·subst h;simp[z9h]
  ·simp only[h,if_false,z9h,zge k v u L]
theorem ze4 (L:SL)(k:Nat)(v:AU):(fnL (z0l L k v) k).2=v:=by rw[← z07,wa]
theorem zsn (a b:AU):z1p (.tuple [a,b])=.tuple [z1p a,z1p b]:=by simp only[z1p,z0x]
theorem zgf (L:SL)(k:Nat)(v:AU):y4e (z0l L k v) k=z0l L k (z1p v):=by
 unfold y4e
 rw[zge,ze4]
theorem nr {nt:Nat}{L:SL}{K:SL→Prop}{rest:List Sg}{d:Nat}{cs:List COd}(s:St)(hs:Sized s)(cl:Int)(q:Op)
  (has:z13 (fnL L) [] false cs=some [z6l false s,i64 cl,zsg false q])
  (h:RL Try.prog nt rest (z0l L (100 * d) (.tuple [z6l false (DoB s cl q).2.1,zby false (DoB s cl q).2.2])) K):RL Try.prog nt (.call none d 44 cs :: rest) L K:=by
 refine RL.call0 false (yqm s hs cl q) has ?_ (RL.freeze (100 * d) ?_)
 ·simp[z1d,z6j,roots,z1a]
 ·rw[zgf]
  have:z1p (.tuple [z6l (DoB s cl q).1 (DoB s cl q).2.1,zby true (DoB s cl q).2.2])=.tuple [z6l false (DoB s cl q).2.1,zby false (DoB s cl q).2.2]:=by
   rw[zsn,zgd,zow]
  rw[this]
  exact h
theorem ta3:TyA Try.prog 3 Int (fun n=>i64 n) (fun n=>(Lit.int .i64 n).wf=true):=TyA.int Try.underlying3 (Ty.int Try.underlying3)
theorem yxp:Ty Try.prog 40 (List UInt8) (fun l=>[sU false l]) (fun l=>l.length≤9223372036854775807) :=
 (Ty.slice (s:=1) Try.underlying40 (by kernel_rfl) (by decide) (fun _=>rfl) (Ty.u8 Try.underlying5)).map id (fun l=>by rw[zaw];rfl) (fun l h=>h.1)
def yqn:Cd:=(.reg [46,47,48,49,50] [.o [.faddr 47 5 (.t 7),.ld 48 1 false (.t 47),.slice 49 1 (.t 48) none (some (cI 8)),.faddr 50 5 (.t 7),.st 1 (.t 50) (.t 49)]])
def yqo:Cd:=(.cond (.t 46) yqn .skip)
def yqp:Cd:=(.seq (.draw [[],[0],[1],[],[3],[2,4],[5],[],[6,7],[8,0,1,2,3,4,5,6,7,8]] [2,3,7,46,51,52,53,54,55,56,57,58,59] [.o [.faddr 51 0 (.t 3),.ld 52 1 false (.t 51),.conv 53 .u64 (.t 52),.mov 54 (.t 2),.conv 55 .u64 (.t 54),.bin 56 .rem (.t 53) (.t 55),.conv 57 .i64 (.t 56),.ld 58 6 true (.t 7),.build 59 [(.sc (.int .i64 0)),(.sc (.int .i64 0)),(.sc (.int .i64 0)),(.sc (.int .i64 0)),(.sc (.int .i64 0)),(.sc (.int .i64 0)),(.sc (.slice none 0 0))] [(0,1,(.t 57)),(1,6,(.t 58))],.st 7 (.t 6) (.t 59)]]) .ret)
def yqq:Cd:=(.seq (.seq (.reg [43,44,45] [.o [.faddr 43 5 (.t 7),.ld 44 1 false (.t 43),.len 45 (.t 44),.bin 46 .gtr (.t 45) (cI 8)]]) yqo) yqp)
def yqr:Cd:=(.seq (.reg [31,32,33,34,35,36,37,38,39,40,41,42] [.o [.faddr 31 3 (.t 7),.ld 32 1 false (.t 31),.conv 33 .u64 (.t 32),.bin 34 .rem (.t 33) (.c (.sc (.int .u64 8))),.conv 35 .i64 (.t 34),.faddr 36 4 (.t 7),.ld 37 1 false (.t 36),.conv 38 .u64 (.t 37),.bin 39 .rem (.t 38) (.c (.sc (.int .u64 9))),.conv 40 .i64 (.t 39),.faddr 41 3 (.t 7),.st 1 (.t 41) (.t 35),.faddr 42 4 (.t 7),.st 1 (.t 42) (.t 40)]]) yqq)
def yqs:Cd:=(.seq (.draw [[],[0],[1],[],[3],[2,4],[5],[],[7],[8],[9],[10],[0,1,2,3,4,5,6,7,8],[12,6,0,1,2,3,4,5,6,7,8],[0,1,2,3,4,5,6,7,8,9,10,11,12,13],[14,11,13,0,1,2,3,4,5,6,7,8,9,10,11,12,13]] [1,17,18,19,20,21,22,23,24,25,26,27,28,29,30] [.o [.faddr 17 1 (.t 7),.ld 18 1 false (.t 17),.conv 19 .u64 (.t 18),.mov 20 (.t 1),.conv 21 .u64 (.t 20),.bin 22 .rem (.t 19) (.t 21),.conv 23 .i64 (.t 22),.faddr 24 2 (.t 7),.ld 25 1 false (.t 24),.conv 26 .u64 (.t 25),.bin 27 .rem (.t 26) (.c (.sc (.int .u64 3))),.conv 28 .i64 (.t 27),.faddr 29 1 (.t 7),.st 1 (.t 29) (.t 23),.faddr 30 2 (.t 7),.st 1 (.t 30) (.t 28)]]) yqr)
def yqt:Cd:=(.seq (.reg [10,11,12,13,14,15,16] [.o [.faddr 10 0 (.t 7),.ld 11 1 false (.t 10),.conv 12 .u64 (.t 11),.bin 13 .rem (.t 12) (.c (.sc (.int .u64 8))),.conv 14 .i64 (.t 13),.bin 15 .add (cI 1) (.t 14),.faddr 16 0 (.t 7),.st 1 (.t 16) (.t 15)]]) yqs)
def yqu:Cd:=(.seq (.reg [8,9] [.o [.faddr 8 1 (.t 3),.ld 9 6 true (.t 8),.alloc 7 [(.sc (.int .i64 0)),(.sc (.int .i64 0)),(.sc (.int .i64 0)),(.sc (.int .i64 0)),(.sc (.int .i64 0)),(.sl true () 1 0 [])],.st 6 (.t 7) (.t 9)]]) yqt)
def yqv:FI:=⟨60,3,[.cell 6 7 true],(.seq (.reg [0] [.o [.box 3 (.t 0),.alloc 6 [(.sc (.int .i64 0)),(.sc (.int .i64 0)),(.sc (.int .i64 0)),(.sc (.int .i64 0)),(.sc (.int .i64 0)),(.sc (.int .i64 0)),(.sl true () 1 0 [])]]]) yqu)⟩
theorem yxq:z25 Try.prog 43 yqv:=⟨_,_,Try.func43,rfl,by kernel_rfl,by kernel_rfl,Try.call43⟩
def zxt:Cd:=(.seq (.reg [1,3,5,26,27] [.call none 27 123 [(cI 1)],.o [.st 4 (.t 6) (.t 27)]]) .ret)
def yqw:Cd:=(.cond (.t 26) zxt .skip)
def yqx:Cd:=(.seq (.reg [1,3,5,7,51,52] [.call none 52 123 [(cI 1)],.o [.st 4 (.t 6) (.t 52)]]) .ret)
def yqy:Cd:=(.cond (.t 51) yqx .skip)
def yqz:Cd:=(.seq (.reg [1,3,5,7,58,59] [.call none 59 123 [(cI 2)],.o [.st 4 (.t 6) (.t 59)]]) .ret)
def yr0:Cd:=(.cond (.t 58) yqz .skip)
def yr1:Cd:=(.seq (.reg [51,53,54,55,56,57] [.o [.faddr 53 0 (.t 3),.ld 54 1 false (.t 53),.mov 55 (.t 7),.iaddr 56 1 (.t 54) (.t 55),.ld 57 1 false (.t 56),.un 58 .not (.t 57)]]) yr0)
def yr2:Cd:=(.seq (.seq (.reg [42,43,44,45,46,47,48,49,50] [.o [.mov 43 (.t 7),.bin 44 .lss (.t 43) (cI 0),.mov 45 (.t 44)],.g 45 false [.mov 46 (.t 7),.faddr 47 0 (.t 3),.ld 48 1 false (.t 47),.len 49 (.t 48),.bin 50 .geq (.t 46) (.t 49)],.o [.pick 51 (.t 45) (cB true) (.t 50)]]) yqy) yr1)
def yac:Cd:=(.cond (.t 42) yr2 .skip)
def yr3:Cd:=(.seq (.reg [1,3,5,7,79,80] [.call none 80 123 [(cI 5)],.o [.st 4 (.t 6) (.t 80)]]) .ret)
def yad:Cd:=(.cond (.t 79) yr3 .skip)
def yae:Cd:=(.seq (.reg [78] [.o [.mov 78 (.t 7),.bin 79 .lss (.t 78) (cI 0)]]) yad)
def yaf:Cd:=(.seq (.reg [72,73,74,75,76,77] [.o [.ld 73 3 true (.t 3),.mov 74 (.t 1),.faddr 75 2 (.t 5),.ld 76 1 false (.t 75)],.call none 77 124 [(.t 73),(.t 74),(.t 76)],.o [.asg 7 (.t 77)]]) yae)
def zuf:Cd:=(.cond (.t 72) yaf .skip)
def yag:Cd:=(.seq (.reg [1,3,88,89] [.call none 89 123 [(cI 4)],.o [.st 4 (.t 6) (.t 89)]]) .ret)
def yah:Cd:=(.cond (.t 88) yag .skip)
def yai:Cd:=(.cond (.t 101) .skip (.exit 1))
def yaj:Cd:=(.block 2 (.reg [101,102,103] [.o [.mov 102 (.t 7),.bin 103 .add (.t 102) (cI 1),.asg 7 (.t 103)]]))
def yak:Cd:=(.seq (.seq (.reg [90,91,92,93,94,95,96,97,98,99,100] [.o [.mov 90 (.t 7),.faddr 91 0 (.t 3),.ld 92 1 false (.t 91),.len 93 (.t 92),.bin 94 .lss (.t 90) (.t 93),.mov 95 (.t 94)],.g 95 true [.faddr 96 0 (.t 3),.ld 97 1 false (.t 96),.mov 98 (.t 7),.iaddr 99 1 (.t 97) (.t 98),.ld 100 1 false (.t 99)],.o [.pick 101 (.t 95) (.t 100) (cB false)]]) yai) yaj)
def yal:Cd:=(.seq (.reg [1,3,7,108,109] [.call none 109 123 [(cI 3)],.o [.st 4 (.t 6) (.t 109)]]) .ret)
def yam:Cd:=(.cond (.t 108) yal .skip)
def yan:Cd:=(.seq (.reg [1,3,7,119,120,121,122,123,124] [.o [.mov 119 (.t 7),.ld 120 3 true (.t 3),.mov 121 (.t 1),.mov 122 (.t 7)],.call none 123 126 [(.t 120),(.t 121),(.t 122)],.o [.build 124 [(.sc (.int .i64 0)),(.sc (.int .i64 0)),(.sc (.int .i64 0)),(.sc (.slice none 0 0))] [(1,1,(.t 119)),(2,1,(.t 123))],.st 4 (.t 6) (.t 124)]]) .ret)
def zjw:Cd:=(.seq (.draw [[],[0],[],[],[3],[],[],[1,2,0,1,2,6],[7,6,0,1,2,6],[4,5,0,1,2,3,4,5,6,7,8],[9,6,8,0,1,2,3,4,5,6,7,8]] [108,110,111,112,113,114,115,116,117,118] [.o [.faddr 110 0 (.t 3),.ld 111 1 false (.t 110),.mov 112 (.t 7),.faddr 113 1 (.t 3),.ld 114 1 false (.t 113),.mov 115 (.t 7)],.call none 116 122 [],.o [.iaddr 117 1 (.t 111) (.t 112),.st 1 (.t 117) (cB true),.iaddr 118 1 (.t 114) (.t 115),.st 1 (.t 118) (.t 116)]]) yan)
def yao:Cd:=(.seq (.seq (.reg [90,91,92,93,94,95,96,97,98,99,100,101,104,105,106,107] [.o [.mov 104 (.t 7),.faddr 105 0 (.t 3),.ld 106 1 false (.t 105),.len 107 (.t 106),.bin 108 .eql (.t 104) (.t 107)]]) yam) zjw)
def yap:Cd:=(.seq (.block 1 (.loop yak)) yao)
def yaq:Cd:=(.seq (.reg [88] [.o [.asg 7 (cI 0)]]) yap)
def yar:Cd:=(.seq (.seq (.reg [5,7,82,83,85,86,87] [.o [.ld 85 3 true (.t 3),.mov 86 (.t 1)],.call none 87 125 [(.t 85),(.t 86)],.o [.un 88 .not (.t 87)]]) yah) yaq)
def yas:Cd:=(.seq (.reg [1,3,7,130,131] [.call none 131 123 [(cI 4)],.o [.st 4 (.t 6) (.t 131)]]) .ret)
def yat:Cd:=(.cond (.t 130) yas .skip)
def yau:Cd:=(.seq (.reg [1,3,7,130,132,133,134,135,136,137] [.o [.mov 132 (.t 7),.ld 133 3 true (.t 3),.mov 134 (.t 1),.mov 135 (.t 7)],.call none 136 126 [(.t 133),(.t 134),(.t 135)],.o [.build 137 [(.sc (.int .i64 0)),(.sc (.int .i64 0)),(.sc (.int .i64 0)),(.sc (.slice none 0 0))] [(1,1,(.t 132)),(2,1,(.t 136))],.st 4 (.t 6) (.t 137)]]) .ret)
def yav:Cd:=(.seq (.seq (.reg [5,82,125,127,128,129] [.o [.ld 127 3 true (.t 3),.mov 128 (.t 1)],.call none 129 125 [(.t 127),(.t 128)],.o [.un 130 .not (.t 129)]]) yat) yau)
def yaw:Cd:=(.seq (.reg [3,5,7,160,161] [.call none 161 123 [(cI 6)],.o [.st 4 (.t 6) (.t 161)]]) .ret)
def yax:Cd:=(.cond (.t 160) yaw .skip)
def yay:Cd:=(.seq (.draw [[],[0],[],[1,2],[3],[],[5],[],[7],[],[9],[8,10],[4,6,11],[12],[13],[14,0,1,2,3,4,5,6,7,8,9,10,11,12,13,14]] [3,5,7,160,162,163,164,165,166,167,168,169,170,171,172,173,174,175,176] [.o [.faddr 162 1 (.t 3),.ld 163 1 false (.t 162),.mov 164 (.t 7),.iaddr 165 1 (.t 163) (.t 164),.ld 166 1 false (.t 165),.faddr 167 3 (.t 5),.ld 168 1 false (.t 167),.faddr 169 3 (.t 5),.ld 170 1 false (.t 169),.faddr 171 4 (.t 5),.ld 172 1 false (.t 171),.bin 173 .add (.t 170) (.t 172),.ssl 174 (.t 166) (some (.t 168)) (some (.t 173)),.s2b 175 (.t 174),.build 176 [(.sc (.int .i64 0)),(.sc (.int .i64 0)),(.sc (.int .i64 0)),(.sc (.slice none 0 0))] [(3,1,(.t 175))],.st 4 (.t 6) (.t 176)]]) .ret)
def yaz:Cd:=(.seq (.seq (.reg [1,82,138,140,141,142,143,144,145,146,147,148,149,150,151,152,153,154,155,156,157,158,159] [.o [.faddr 140 3 (.t 5),.ld 141 1 false (.t 140),.bin 142 .lss (.t 141) (cI 0),.mov 143 (.t 142)],.g 143 false [.faddr 144 4 (.t 5),.ld 145 1 false (.t 144),.bin 146 .lss (.t 145) (cI 0)],.o [.pick 147 (.t 143) (cB true) (.t 146),.mov 148 (.t 147)],.g 148 false [.faddr 149 3 (.t 5),.ld 150 1 false (.t 149),.bin 151 .gtr (.t 150) (cI 16)],.o [.pick 152 (.t 148) (cB true) (.t 151),.mov 153 (.t 152)],.g 153 false [.faddr 154 4 (.t 5),.ld 155 1 false (.t 154),.faddr 156 3 (.t 5),.ld 157 1 false (.t 156),.bin 158 .sub (cI 16) (.t 157),.bin 159 .gtr (.t 155) (.t 158)],.o [.pick 160 (.t 153) (cB true) (.t 159)]]) yax) yay)
def yb0:Cd:=(.seq (.reg [3,5,7,195,196] [.call none 196 123 [(cI 6)],.o [.st 4 (.t 6) (.t 196)]]) .ret)
def yb1:Cd:=(.cond (.t 195) yb0 .skip)
def yb2:Cd:=(.draw [[],[0],[],[],[3],[],[4,5],[6],[],[8],[7,9],[],[11],[12],[10,13],[],[15],[],[16,17],[18],[],[20],[],[22],[23],[21,24],[19,25],[14,26],[1,2,0,1,2,3,4,5,6,7,8,9,10,11,12,13,14,15,16,17,18,19,20,21,22,23,24,25,26,27],[28,27,0,1,2,3,4,5,6,7,8,9,10,11,12,13,14,15,16,17,18,19,20,21,22,23,24,25,26,27]] [3,5,7,195,197,198,199,200,201,202,203,204,205,206,207,208,209,210,211,212,213,214,215,216,217,218,219,220,221,222,223,224,225] [.o [.faddr 197 1 (.t 3),.ld 198 1 false (.t 197),.mov 199 (.t 7),.faddr 200 1 (.t 3),.ld 201 1 false (.t 200),.mov 202 (.t 7),.iaddr 203 1 (.t 201) (.t 202),.ld 204 1 false (.t 203),.faddr 205 3 (.t 5),.ld 206 1 false (.t 205),.ssl 207 (.t 204) none (some (.t 206)),.faddr 208 5 (.t 5),.ld 209 1 false (.t 208),.b2s 210 (.t 209),.bin 211 .add (.t 207) (.t 210),.faddr 212 1 (.t 3),.ld 213 1 false (.t 212),.mov 214 (.t 7),.iaddr 215 1 (.t 213) (.t 214),.ld 216 1 false (.t 215),.faddr 217 3 (.t 5),.ld 218 1 false (.t 217),.faddr 219 5 (.t 5),.ld 220 1 false (.t 219),.len 221 (.t 220),.bin 222 .add (.t 218) (.t 221),.ssl 223 (.t 216) (some (.t 222)) none,.bin 224 .add (.t 211) (.t 223),.iaddr 225 1 (.t 198) (.t 199),.st 1 (.t 225) (.t 224)]])
def yb3:Cd:=(.seq (.seq (.reg [1,82,177,179,180,181,182,183,184,185,186,187,188,189,190,191,192,193,194] [.o [.faddr 179 3 (.t 5),.ld 180 1 false (.t 179),.bin 181 .lss (.t 180) (cI 0),.mov 182 (.t 181)],.g 182 false [.faddr 183 3 (.t 5),.ld 184 1 false (.t 183),.bin 185 .gtr (.t 184) (cI 16)],.o [.pick 186 (.t 182) (cB true) (.t 185),.mov 187 (.t 186)],.g 187 false [.faddr 188 5 (.t 5),.ld 189 1 false (.t 188),.len 190 (.t 189),.faddr 191 3 (.t 5),.ld 192 1 false (.t 191),.bin 193 .sub (cI 16) (.t 192),.bin 194 .gtr (.t 190) (.t 193)],.o [.pick 195 (.t 187) (cB true) (.t 194)]]) yb1) yb2)
def yb4:Cd:=(.draw [[],[0],[],[1,2],[3],[],[5],[4,6,0,1,2,3,4,5,6],[7,0,1,2,3,4,5,6]] [1,3,5,7,82,226,228,229,230,231,232,233,234,235] [.o [.faddr 228 2 (.t 3),.ld 229 1 false (.t 228),.mov 230 (.t 1),.iaddr 231 1 (.t 229) (.t 230),.ld 232 1 false (.t 231),.faddr 233 2 (.t 5),.ld 234 1 false (.t 233),.iaddr 235 1 (.t 232) (.t 234),.st 1 (.t 235) (cI (-1))]])
def yb5:Cd:=(.seq (.reg [3,7,241,242] [.call none 242 123 [(cI 7)],.o [.st 4 (.t 6) (.t 242)]]) .ret)
def yb6:Cd:=(.cond (.t 241) yb5 .skip)
def yb7:Cd:=(.draw [[],[0],[],[],[3],[],[],[1,2,0,1,2,6],[7,6,0,1,2,6],[4,5,0,1,2,3,4,5,6,7,8],[9,6,8,0,1,2,3,4,5,6,7,8]] [3,7,241,243,244,245,246,247,248,249,250,251] [.o [.faddr 243 0 (.t 3),.ld 244 1 false (.t 243),.mov 245 (.t 7),.faddr 246 1 (.t 3),.ld 247 1 false (.t 246),.mov 248 (.t 7)],.call none 249 122 [],.o [.iaddr 250 1 (.t 244) (.t 245),.st 1 (.t 250) (cB false),.iaddr 251 1 (.t 247) (.t 248),.st 1 (.t 251) (.t 249)]])
def yb8:Cd:=(.seq (.seq (.reg [236,238,239,240] [.o [.ld 238 3 true (.t 3),.mov 239 (.t 7)],.call none 240 127 [(.t 238),(.t 239)],.o [.bin 241 .gtr (.t 240) (cI 0)]]) yb6) yb7)
def yb9:Cd:=(.cond (.t 236) yb8 .skip)
def yba:Cd:=(.seq (.reg [1,5,82,226,237] [.o [.bin 237 .eql (.t 82) (cI 8),.asg 236 (.t 237)]]) yb9)
def ybb:Cd:=(.cond (.t 226) yb4 yba)
def ybc:Cd:=(.seq (.reg [177,227] [.o [.bin 227 .eql (.t 82) (cI 5),.asg 226 (.t 227)]]) ybb)
def ybd:Cd:=(.cond (.t 177) yb3 ybc)
def ybe:Cd:=(.seq (.reg [138,178] [.o [.bin 178 .eql (.t 82) (cI 4),.asg 177 (.t 178)]]) ybd)
def ybf:Cd:=(.cond (.t 138) yaz ybe)
def ybg:Cd:=(.seq (.reg [125,139] [.o [.bin 139 .eql (.t 82) (cI 3),.asg 138 (.t 139)]]) ybf)
def ybh:Cd:=(.cond (.t 125) yav ybg)
def ybi:Cd:=(.seq (.reg [83,126] [.o [.bin 126 .eql (.t 82) (cI 2),.asg 125 (.t 126)]]) ybh)
def ybj:Cd:=(.cond (.t 83) yar ybi)
def ybk:Cd:=(.block 0 (.seq (.reg [84] [.o [.bin 84 .eql (.t 82) (cI 1),.asg 83 (.t 84)]]) ybj))
def ybl:Cd:=(.seq (.reg [3,7,236,252] [.o [.build 252 [(.sc (.int .i64 0)),(.sc (.int .i64 0)),(.sc (.int .i64 0)),(.sc (.slice none 0 0))] [],.st 4 (.t 6) (.t 252)]]) .ret)
def zd1:Cd:=(.seq (.seq (.reg [79,72,81] [.o [.faddr 81 0 (.t 5),.ld 82 1 false (.t 81)]]) ybk) ybl)
def zd2:Cd:=(.seq (.seq (.reg [58,42,60,61,62,63,64,65,66,67,68,69,70,71] [.o [.faddr 60 0 (.t 5),.ld 61 1 false (.t 60),.bin 62 .eql (.t 61) (cI 3),.mov 63 (.t 62)],.g 63 false [.faddr 64 0 (.t 5),.ld 65 1 false (.t 64),.bin 66 .eql (.t 65) (cI 4)],.o [.pick 67 (.t 63) (cB true) (.t 66),.mov 68 (.t 67)],.g 68 false [.faddr 69 0 (.t 5),.ld 70 1 false (.t 69),.bin 71 .eql (.t 70) (cI 5)],.o [.pick 72 (.t 68) (cB true) (.t 71)]]) zuf) zd1)
def ybm:Cd:=(.seq (.seq (.reg [30,31,32,33,34,35,36,37,38,39,40,41] [.o [.faddr 30 0 (.t 5),.ld 31 1 false (.t 30),.bin 32 .eql (.t 31) (cI 2),.mov 33 (.t 32)],.g 33 false [.faddr 34 0 (.t 5),.ld 35 1 false (.t 34),.bin 36 .eql (.t 35) (cI 6)],.o [.pick 37 (.t 33) (cB true) (.t 36),.mov 38 (.t 37)],.g 38 false [.faddr 39 0 (.t 5),.ld 40 1 false (.t 39),.bin 41 .eql (.t 40) (cI 8)],.o [.pick 42 (.t 38) (cB true) (.t 41)]]) yac) zd2)
def zbh:Cd:=(.seq (.reg [26,28,29] [.o [.faddr 28 1 (.t 5),.ld 29 1 false (.t 28),.asg 7 (.t 29)]]) ybm)
def ybn:Cd:=(.seq (.seq (.reg [8,9,10,11,12,13,14,15,16,17,18,19,20,21,22,23,24,25] [.o [.mov 8 (.t 1),.bin 9 .lss (.t 8) (cI 0),.mov 10 (.t 9)],.g 10 false [.mov 11 (.t 1),.faddr 12 2 (.t 3),.ld 13 1 false (.t 12),.len 14 (.t 13),.bin 15 .geq (.t 11) (.t 14)],.o [.pick 16 (.t 10) (cB true) (.t 15),.mov 17 (.t 16)],.g 17 false [.faddr 18 0 (.t 5),.ld 19 1 false (.t 18),.bin 20 .lss (.t 19) (cI 1)],.o [.pick 21 (.t 17) (cB true) (.t 20),.mov 22 (.t 21)],.g 22 false [.faddr 23 0 (.t 5),.ld 24 1 false (.t 23),.bin 25 .gtr (.t 24) (cI 8)],.o [.pick 26 (.t 22) (cB true) (.t 25)]]) yqw) zbh)
def z41:FI:=⟨253,3,[.cell 6 4 true],(.seq (.reg [0,2] [.o [.box 3 (.t 0),.box 5 (.t 2),.alloc 6 [(.sc (.int .i64 0)),(.sc (.int .i64 0)),(.sc (.int .i64 0)),(.sl true () 1 0 [])]]]) ybn)⟩
theorem yxr:z25 Try.prog 77 z41:=⟨_,_,Try.func77,rfl,by kernel_rfl,by kernel_rfl,Try.call77⟩
def yr4:Cd:=(.seq (.reg [0,1,5,21,22] [.o [.ld 22 3 true (.t 5),.st 3 (.t 4) (.t 22)]]) .ret)
def yr5:Cd:=(.cond (.t 21) yr4 .skip)
def yr6:Cd:=(.cond (.t 25) .skip (.exit 0))
def yr7:Cd:=(.reg [26,27] [.o [.mov 26 (.t 6),.bin 27 .add (.t 26) (cI 1),.asg 6 (.t 27)]])
def yr8:Cd:=(.seq (.block 1 (.draw [[],[0],[],[1,2],[],[4],[3],[6],[5,7,6],[0,1,2,3,4,5],[9,3,8,0,1,2,3,4,5],[0,1,2,3,4,5,6,7,8,9,10],[11,8,10,0,1,2,3,4,5,6,7,8,9,10]] [25,28,29,30,31,32,33,34,35,36,37,38] [.o [.faddr 28 0 (.t 5),.ld 29 1 false (.t 28),.bs1 30 1 (cB false),.app 31 1 1 (.t 29) (.t 30),.faddr 32 1 (.t 5),.ld 33 1 false (.t 32)],.call none 34 122 [],.o [.bs1 35 1 (.t 34),.app 36 1 16 (.t 33) (.t 35),.faddr 37 0 (.t 5),.st 1 (.t 37) (.t 31),.faddr 38 1 (.t 5),.st 1 (.t 38) (.t 36)]])) yr7)
def yr9:Cd:=(.seq (.seq (.reg [23,24] [.o [.mov 23 (.t 6),.mov 24 (.t 0),.bin 25 .lss (.t 23) (.t 24)]]) yr6) yr8)
def yra:Cd:=(.block 0 (.loop yr9))
def yrb:Cd:=(.cond (.t 41) .skip (.exit 2))
def yrc:Cd:=(.reg [42,43] [.o [.mov 42 (.t 7),.bin 43 .add (.t 42) (cI 1),.asg 7 (.t 43)]])
def yrd:Cd:=(.seq (.block 3 (.reg [41,44,45,46,47,48,49] [.o [.faddr 44 2 (.t 5),.ld 45 1 false (.t 44),.bsn 46 [(cI (-1)),(cI (-1)),(cI (-1)),(cI (-1)),(cI (-1)),(cI (-1))],.bs1 47 1 (.t 46),.app 48 1 24 (.t 45) (.t 47),.faddr 49 2 (.t 5),.st 1 (.t 49) (.t 48)]])) yrc)
def ybo:Cd:=(.seq (.seq (.reg [39,40] [.o [.mov 39 (.t 7),.mov 40 (.t 1),.bin 41 .lss (.t 39) (.t 40)]]) yrb) yrd)
def ybp:Cd:=(.block 2 (.loop ybo))
def ybq:Cd:=(.seq (.reg [1,5,7,39,40,41,50] [.o [.ld 50 3 true (.t 5),.st 3 (.t 4) (.t 50)]]) .ret)
def ybr:Cd:=(.seq (.seq (.reg [0,6,23,24,25] [.o [.asg 7 (cI 0)]]) ybp) ybq)
def ybs:Cd:=(.seq (.seq (.reg [21] [.o [.asg 6 (cI 0)]]) yra) ybr)
def ybt:Cd:=(.seq (.seq (.reg [8,9,10,11,12,13,14,15,16,17,18,19,20] [.o [.mov 8 (.t 0),.bin 9 .lss (.t 8) (cI 1),.mov 10 (.t 9)],.g 10 false [.mov 11 (.t 0),.bin 12 .gtr (.t 11) (cI 48)],.o [.pick 13 (.t 10) (cB true) (.t 12),.mov 14 (.t 13)],.g 14 false [.mov 15 (.t 1),.bin 16 .lss (.t 15) (cI 1)],.o [.pick 17 (.t 14) (cB true) (.t 16),.mov 18 (.t 17)],.g 18 false [.mov 19 (.t 1),.bin 20 .gtr (.t 19) (cI 6)],.o [.pick 21 (.t 18) (cB true) (.t 20)]]) yr5) ybs)
def ybu:Cd:=(.seq (.reg [] [.o [.alloc 5 [(.sl true () 1 0 []),(.sl true () 1 0 []),(.sl true () 1 0 [])]]]) ybt)
def yre:FI:=⟨51,2,[.cell 4 3 true],(.seq (.reg [] [.o [.alloc 4 [(.sl true () 1 0 []),(.sl true () 1 0 []),(.sl true () 1 0 [])]]]) ybu)⟩
theorem yxs:z25 Try.prog 76 yre:=⟨_,_,Try.func76,rfl,by kernel_rfl,by kernel_rfl,Try.call76⟩
def ybv:Cd:=(.seq (.reg [1,2] [.o [.make 1 1 1 [(.sc (.int .u8 0))] (cI 16) (cI 16),.b2s 2 (.t 1),.asg 0 (.t 2)]]) .ret)
def ybw:FI:=⟨3,0,[.t 0],(.seq (.reg [0] [.o [.asg 0 (.c (.sc (.string ⟨#[]⟩)))]]) ybv)⟩
theorem yrf:z25 Try.prog 122 ybw:=⟨_,_,Try.func122,rfl,by kernel_rfl,by kernel_rfl,Try.call122⟩
def ybx:Cd:=(.seq (.reg [0,3,4] [.o [.mov 3 (.t 0),.build 4 [(.sc (.int .i64 0)),(.sc (.int .i64 0)),(.sc (.int .i64 0)),(.sc (.slice none 0 0))] [(0,1,(.t 3))],.st 4 (.t 2) (.t 4)]]) .ret)
def yby:FI:=⟨5,1,[.cell 2 4 true],(.seq (.reg [] [.o [.alloc 2 [(.sc (.int .i64 0)),(.sc (.int .i64 0)),(.sc (.int .i64 0)),(.sl true () 1 0 [])]]]) ybx)⟩
theorem yrg:z25 Try.prog 123 yby:=⟨_,_,Try.func123,rfl,by kernel_rfl,by kernel_rfl,Try.call123⟩
def ybz:Cd:=(.seq (.reg [1,2,3,29] [.o [.asg 6 (cI (-1))]]) .ret)
def yc0:Cd:=(.cond (.t 29) ybz .skip)
def yc1:Cd:=(.seq (.reg [1,2,3,29,30,31,32,33,34,35,36,37] [.o [.faddr 30 2 (.t 3),.ld 31 1 false (.t 30),.mov 32 (.t 1),.iaddr 33 1 (.t 31) (.t 32),.ld 34 1 false (.t 33),.mov 35 (.t 2),.iaddr 36 1 (.t 34) (.t 35),.ld 37 1 false (.t 36),.asg 6 (.t 37)]]) .ret)
def yc2:Cd:=(.seq (.seq (.reg [7,8,9,10,11,12,13,14,15,16,17,18,19,20,21,22,23,24,25,26,27,28] [.o [.mov 7 (.t 1),.bin 8 .lss (.t 7) (cI 0),.mov 9 (.t 8)],.g 9 false [.mov 10 (.t 1),.faddr 11 2 (.t 3),.ld 12 1 false (.t 11),.len 13 (.t 12),.bin 14 .geq (.t 10) (.t 13)],.o [.pick 15 (.t 9) (cB true) (.t 14),.mov 16 (.t 15)],.g 16 false [.mov 17 (.t 2),.bin 18 .lss (.t 17) (cI 0)],.o [.pick 19 (.t 16) (cB true) (.t 18),.mov 20 (.t 19)],.g 20 false [.mov 21 (.t 2),.faddr 22 2 (.t 3),.ld 23 1 false (.t 22),.mov 24 (.t 1),.iaddr 25 1 (.t 23) (.t 24),.ld 26 1 false (.t 25),.len 27 (.t 26),.bin 28 .geq (.t 21) (.t 27)],.o [.pick 29 (.t 20) (cB true) (.t 28)]]) yc0) yc1)
def zlm:FI:=⟨38,3,[.t 6],(.seq (.reg [0,6] [.o [.box 3 (.t 0),.asg 6 (cI 0)]]) yc2)⟩
theorem yrh:z25 Try.prog 124 zlm:=⟨_,_,Try.func124,rfl,by kernel_rfl,by kernel_rfl,Try.call124⟩
def yc3:Cd:=(.cond (.t 13) .skip (.exit 0))
def yc4:Cd:=(.seq (.reg [1,2,5,24] [.o [.asg 4 (cB true)]]) .ret)
def yc5:Cd:=(.cond (.t 24) yc4 .skip)
def yc6:Cd:=(.reg [24,14,15] [.o [.mov 14 (.t 5),.bin 15 .add (.t 14) (cI 1),.asg 5 (.t 15)]])
def yc7:Cd:=(.seq (.block 1 (.seq (.reg [13,16,17,18,19,20,21,22,23] [.o [.faddr 16 2 (.t 2),.ld 17 1 false (.t 16),.mov 18 (.t 1),.iaddr 19 1 (.t 17) (.t 18),.ld 20 1 false (.t 19),.mov 21 (.t 5),.iaddr 22 1 (.t 20) (.t 21),.ld 23 1 false (.t 22),.bin 24 .lss (.t 23) (cI 0)]]) yc5)) yc6)
def yc8:Cd:=(.seq (.seq (.reg [6,7,8,9,10,11,12] [.o [.mov 6 (.t 5),.faddr 7 2 (.t 2),.ld 8 1 false (.t 7),.mov 9 (.t 1),.iaddr 10 1 (.t 8) (.t 9),.ld 11 1 false (.t 10),.len 12 (.t 11),.bin 13 .lss (.t 6) (.t 12)]]) yc3) yc7)
def yc9:Cd:=(.block 0 (.loop yc8))
def yca:Cd:=(.seq (.reg [1,2,5,6,7,8,9,10,11,12,13] [.o [.asg 4 (cB false)]]) .ret)
def ycb:Cd:=(.seq (.seq (.reg [] [.o [.asg 5 (cI 0)]]) yc9) yca)
def zxu:FI:=⟨25,2,[.t 4],(.seq (.reg [0,4] [.o [.box 2 (.t 0),.asg 4 (cB false)]]) ycb)⟩
theorem yri:z25 Try.prog 125 zxu:=⟨_,_,Try.func125,rfl,by kernel_rfl,by kernel_rfl,Try.call125⟩
def ycc:Cd:=(.cond (.t 15) .skip (.exit 0))
def ycd:Cd:=(.seq (.reg [7,35] [.o [.mov 35 (.t 7),.asg 6 (.t 35)]]) .ret)
def yce:Cd:=(.seq (.reg [1,2,3,26,27,28,29,30,31,32,33,34] [.o [.faddr 27 2 (.t 3),.ld 28 1 false (.t 27),.mov 29 (.t 1),.iaddr 30 1 (.t 28) (.t 29),.ld 31 1 false (.t 30),.mov 32 (.t 7),.mov 33 (.t 2),.iaddr 34 1 (.t 31) (.t 32),.st 1 (.t 34) (.t 33)]]) ycd)
def ycf:Cd:=(.cond (.t 26) yce .skip)
def ycg:Cd:=(.reg [26,16,17] [.o [.mov 16 (.t 7),.bin 17 .add (.t 16) (cI 1),.asg 7 (.t 17)]])
def ych:Cd:=(.seq (.block 1 (.seq (.reg [15,18,19,20,21,22,23,24,25] [.o [.faddr 18 2 (.t 3),.ld 19 1 false (.t 18),.mov 20 (.t 1),.iaddr 21 1 (.t 19) (.t 20),.ld 22 1 false (.t 21),.mov 23 (.t 7),.iaddr 24 1 (.t 22) (.t 23),.ld 25 1 false (.t 24),.bin 26 .lss (.t 25) (cI 0)]]) ycf)) ycg)
def yci:Cd:=(.seq (.seq (.reg [8,9,10,11,12,13,14] [.o [.mov 8 (.t 7),.faddr 9 2 (.t 3),.ld 10 1 false (.t 9),.mov 11 (.t 1),.iaddr 12 1 (.t 10) (.t 11),.ld 13 1 false (.t 12),.len 14 (.t 13),.bin 15 .lss (.t 8) (.t 14)]]) ycc) ych)
def ycj:Cd:=(.block 0 (.loop yci))
def yck:Cd:=(.seq (.reg [1,2,3,7,8,9,10,11,12,13,14,15] [.o [.asg 6 (cI (-1))]]) .ret)
def ycl:Cd:=(.seq (.seq (.reg [] [.o [.asg 7 (cI 0)]]) ycj) yck)
def ycm:FI:=⟨36,3,[.t 6],(.seq (.reg [0,6] [.o [.box 3 (.t 0),.asg 6 (cI 0)]]) ycl)⟩
theorem yrj:z25 Try.prog 126 ycm:=⟨_,_,Try.func126,rfl,by kernel_rfl,by kernel_rfl,Try.call126⟩
def ycn:Cd:=(.cond (.t 12) .skip (.exit 0))
def yco:Cd:=(.cond (.t 22) .skip (.exit 2))
def ycp:Cd:=(.reg [38,39,40] [.o [.mov 39 (.t 5),.bin 40 .add (.t 39) (cI 1),.asg 5 (.t 40)]])
def ycq:Cd:=(.cond (.t 38) ycp .skip)
def ycr:Cd:=(.reg [38,23,24] [.o [.mov 23 (.t 7),.bin 24 .add (.t 23) (cI 1),.asg 7 (.t 24)]])
def ycs:Cd:=(.seq (.block 3 (.seq (.reg [22,25,26,27,28,29,30,31,32,33,34,35,36,37] [.o [.faddr 25 2 (.t 2),.ld 26 1 false (.t 25),.mov 27 (.t 6),.iaddr 28 1 (.t 26) (.t 27),.ld 29 1 false (.t 28),.mov 30 (.t 7),.iaddr 31 1 (.t 29) (.t 30),.ld 32 1 false (.t 31),.mov 33 (.t 1),.bin 34 .eql (.t 32) (.t 33),.mov 35 (.t 34)],.g 35 true [.mov 36 (.t 1),.bin 37 .geq (.t 36) (cI 0)],.o [.pick 38 (.t 35) (.t 37) (cB false)]]) ycq)) ycr)
def yct:Cd:=(.seq (.seq (.reg [15,16,17,18,19,20,21] [.o [.mov 15 (.t 7),.faddr 16 2 (.t 2),.ld 17 1 false (.t 16),.mov 18 (.t 6),.iaddr 19 1 (.t 17) (.t 18),.ld 20 1 false (.t 19),.len 21 (.t 20),.bin 22 .lss (.t 15) (.t 21)]]) yco) ycs)
def ycu:Cd:=(.block 2 (.loop yct))
def ycv:Cd:=(.reg [7,15,16,17,18,19,20,21,22,13,14] [.o [.mov 13 (.t 6),.bin 14 .add (.t 13) (cI 1),.asg 6 (.t 14)]])
def ycw:Cd:=(.seq (.block 1 (.seq (.reg [12] [.o [.asg 7 (cI 0)]]) ycu)) ycv)
def zxv:Cd:=(.seq (.seq (.reg [8,9,10,11] [.o [.mov 8 (.t 6),.faddr 9 2 (.t 2),.ld 10 1 false (.t 9),.len 11 (.t 10),.bin 12 .lss (.t 8) (.t 11)]]) ycn) ycw)
def zxw:Cd:=(.block 0 (.loop zxv))
def zxx:Cd:=(.seq (.reg [1,2,5,6,8,9,10,11,12,41] [.o [.mov 41 (.t 5),.asg 4 (.t 41)]]) .ret)
def zxy:Cd:=(.seq (.seq (.reg [] [.o [.asg 6 (cI 0)]]) zxw) zxx)
def zxz:Cd:=(.seq (.reg [] [.o [.asg 5 (cI 0)]]) zxy)
def ycx:FI:=⟨42,2,[.t 4],(.seq (.reg [0,4] [.o [.box 2 (.t 0),.asg 4 (cI 0)]]) zxz)⟩
theorem yrk:z25 Try.prog 127 ycx:=⟨_,_,Try.func127,rfl,by kernel_rfl,by kernel_rfl,Try.call127⟩
theorem wu1:IntKind.wrap .u64 1=1:=rfl
theorem wu6:IntKind.wrap .u64 6=6:=rfl
theorem wi6:IntKind.wrap .i64 6=6:=rfl
abbrev u64 (n:Int):AU:=.sc (.int .u64 n)
theorem zso:FnC Try.prog 166 [] [u64 1,u64 6] [] (.tuple [u64 0,u64 6]):=by
 refine wc yqg rfl ?_
 refine WL.sreg (by simp;rfl) (by simp;rfl) ?_
 refine WL.sreg (by simp;rfl) (by simp;rfl) ?_
 refine WL.sreg (by simp;rfl) (by simp;rfl) ?_
 refine WL.sreg (by simp;rfl) (by simp;rfl) ?_
 refine WL.sreg (by simp;rfl) (by simp;rfl) ?_
 refine WL.sreg (by simp;rfl) (by simp;rfl) ?_
 refine WL.sreg (by simp;rfl) (by simp;rfl) ?_
 refine WL.sreg (by simp;rfl) (by simp;rfl) ?_
 refine WL.sreg (by simp;rfl) (by simp;rfl) ?_
 refine WL.sreg (by simp;rfl) (by simp;rfl) ?_
 refine WL.sreg (by simp;rfl) (by simp;rfl) ?_
 refine WL.sreg (by simp;rfl) (by simp;rfl) ?_
 refine WL.ret ⟨.inr rfl,?_⟩
 simp[ya3]
 exact⟨by kernel_rfl,by kernel_rfl⟩
theorem ycy:FnC Try.prog 140 [] [u64 1,u64 6] [] (.tuple [u64 0,u64 6]):=by
 refine wc yq3 rfl ?_
 refine WL.sreg (by simp;rfl) (by simp;rfl) ?_
 refine WL.seq (WL.cond (t:=false) (by simp) (by simp) fun _=>WL.skip ?_)
 refine w7 (RL.o (by simp;rfl) (RL.call0 false zso (by simp) (by simp) (RL.o (by simp;rfl) (RL.nil ⟨_,by simp;rfl,?_⟩))))
 refine WL.sreg (by simp;rfl) (by simp;rfl) ?_
 refine WL.ret ⟨.inr rfl,?_⟩
 simp[y82]
theorem ws1 (a b:Int)(h:IntKind.wrap .i64 (a+b)=a+b):IntKind.wrap .i64 (a+b)=a+b:=h
def zug:Nat→SL
 | 0=>[(700,0,sI true [-1,0,0,0,0,0]),(800,0,i64 1)]
 | 1=>[(700,0,sI true [-1,-1,0,0,0,0]),(800,0,i64 2)]
 | 2=>[(700,0,sI true [-1,-1,-1,-1,0,0]),(800,0,i64 4)]
 | _=>[(700,0,sI true [-1,-1,-1,-1,-1,-1]),(800,0,i64 6)]
theorem zox:FnC Try.prog 96 [] [sI false [-1],i64 6] [] (sI true [-1,-1,-1,-1,-1,-1]):=by
 refine wc yxe rfl ?_
 refine WL.sreg (by simp[wu1,wu6,wi6];rfl) (by simp[wu1,wu6,wi6];rfl) ?_
 refine WL.seq (WL.sreg (by simp[wu1,wu6,wi6];rfl) (by simp[wu1,wu6,wi6];rfl) ?_)
 refine WL.cond (t:=false) (by simp) (by simp) fun _=>WL.skip ?_
 refine w7 (RL.o (by simp[wu1,wu6,wi6];rfl) (RL.call0 false ycy (by simp[wu1,wu6]) (by simp) (RL.o (by simp[wu1,wu6,wi6];rfl) (RL.nil ⟨_,by simp;rfl,?_⟩))))
 refine WL.seq (w7 (RL.o (by simp[wu1,wu6,wi6];rfl) (RL.g (by simp[wu1,wu6,wi6];rfl) (RL.o (by simp[wu1,wu6,wi6];rfl) (RL.nil ⟨_,by simp;rfl,?_⟩)))))
 refine WL.cond (t:=false) (by simp) (by simp) fun _=>WL.skip ?_
 refine WL.sreg (by simp[wu1,wu6,wi6];rfl) (by simp[wu1,wu6,wi6];rfl) ?_
 refine WL.sreg (by simp[z8d];rfl) (by simp;rfl) ?_
 refine WL.seq (WL.block (we 3 zug (fun _=>True) rfl trivial fun i hi _=>?_))
 match i,hi with
 | 0,_ =>
  refine WL.seq (WL.sreg (by simp[zug];rfl) (by simp;rfl) ?_)
  refine WL.cond (t:=true) (by simp) (fun _=>WL.skip ?_) (by simp)
  refine WL.block (WL.draw z0t (by simp[z0b,noH]) (DL.o (by simp[ws1 1 1 rfl];exact⟨rfl,rfl⟩) (DL.nil ⟨by kernel_rfl,_,by simp;rfl,by omega,?_,trivial⟩)))
  simp[zug]
  exact⟨rfl,rfl⟩
 | 1,_ =>
  refine WL.seq (WL.sreg (by simp[zug];rfl) (by simp;rfl) ?_)
  refine WL.cond (t:=true) (by simp) (fun _=>WL.skip ?_) (by simp)
  refine WL.block (WL.draw z0t (by simp[z0b,noH]) (DL.o (by simp[ws1 2 2 rfl];exact⟨rfl,rfl⟩) (DL.nil ⟨by kernel_rfl,_,by simp;rfl,by omega,?_,trivial⟩)))
  simp[zug]
  exact⟨rfl,rfl⟩
 | 2,_ =>
  refine WL.seq (WL.sreg (by simp[zug];rfl) (by simp;rfl) ?_)
  refine WL.cond (t:=true) (by simp) (fun _=>WL.skip ?_) (by simp)
  refine WL.block (WL.draw z0t (by simp[z0b,noH]) (DL.o (by simp[ws1 4 2 rfl];exact⟨rfl,rfl⟩) (DL.nil ⟨by kernel_rfl,_,by simp;rfl,by omega,?_,trivial⟩)))
  simp[zug]
  exact⟨rfl,rfl⟩
 | 3,_ =>
  refine WL.seq (WL.sreg (by simp[zug];rfl) (by simp;rfl) ?_)
  refine WL.cond (t:=false) (by simp) (by simp) fun _=>WL.exit ?_
  refine w7 (RL.o (by simp;rfl) (RL.own 4 (by decide) (by simp;rfl) (RL.nil ⟨_,by simp;rfl,?_⟩)))
  refine WL.ret ⟨.inr rfl,?_⟩
  simp[ywl]
def z0v (p c:Int):Bool:=decide (p < 1) || (decide (48 < p) || (decide (c < 1) || decide (6 < c)))
def z1c (p c:Int):St:=if z0v p c=true then ⟨[],[],[]⟩ else ⟨List.replicate p.toNat false,List.replicate p.toNat (List.replicate 16 0),List.replicate c.toNat [-1,-1,-1,-1,-1,-1]⟩
theorem z4z {α:Type}(n:Nat)(x:α):List.replicate n x ++ [x]=List.replicate (n+1) x:=by
 rw[← List.replicate_append_replicate (m:=1)]<;>rfl
def nwA (n m i:Nat)(cs:List AU):SL:=[(100,0,i64 m),(400,0,.bptr 4 1 0),(401,0,.sl true () 1 0 []),(402,0,.sl true () 1 0 []),(403,0,.sl true () 1 0 []),(499,1,.non),(500,0,.bptr 5 1 0),(501,0,.sl true () 1 n (List.replicate n (bl false))),(502,0,.sl true () 1 i cs),(503,0,.sl true () 1 0 []),(599,1,.non),(2400,0,i64 n),(2500,0,i64 i)]
def nwB (n m j:Nat)(cs:List AU):SL:=[(400,0,.bptr 4 1 0),(401,0,.sl true () 1 0 []),(402,0,.sl true () 1 0 []),(403,0,.sl true () 1 0 []),(499,1,.non),(500,0,.bptr 5 1 0),(501,0,.sl true () 1 n (List.replicate n (bl false))),(502,0,.sl true () 1 n (List.replicate n (sU true (List.replicate 16 0)))),(503,0,.sl true () 1 j cs),(599,1,.non),(3400,0,i64 m),(3500,0,i64 j)]
theorem zjx (x:AU)(i:Nat):List.take (i+1) (List.replicate i x ++ [x])=List.replicate (i+1) x:=by
 rw[z4z,pp (by simp)]
theorem zjy (x:AU):∀ n,z8d [x] n=List.replicate n x
 | 0=>rfl
 | n+1=>by rw[z8d,zjy x n];rfl
theorem zoy (x:AU)(n:Nat):List.take n (z8d [x] n)=List.replicate n x:=by
 rw[zjy,pp (by simp)]
theorem ycz (p c:Int):FnC Try.prog 42 [] [i64 p,i64 c] [] (z6l true (z1c p c)):=by
 refine wc yxc rfl ?_
 refine WL.sreg (by simp;rfl) (by simp;rfl) ?_
 refine WL.seq (nc (z0v p c) [(0,0,i64 p),(100,0,i64 c),(400,0,.bptr 4 1 0),(401,0,.sl true () 1 0 []),(402,0,.sl true () 1 0 []),(403,0,.sl true () 1 0 []),(499,1,.non),(1900,0,bl (z0v p c))] ?_ (by simp) (fun h=>?_) (fun h=>WL.skip ?_))
 ·by_cases h1:p < 1
  ·simp[z0v,h1]
  by_cases h2:48 < p
  ·simp[z0v,h1,h2]
  by_cases h3:c < 1
  ·simp[z0v,h1,h2,h3]
  by_cases h4:6 < c
  ·simp[z0v,h1,h2,h3,h4]
  ·simp[z0v,h1,h2,h3,h4]
 ·refine WL.sreg (by simp;rfl) (by simp;rfl) ?_
  refine WL.nil1 401 true 1 (by simp) (WL.nil1 402 true 1 (by simp) (WL.nil1 403 true 1 (by simp) (WL.ret ⟨.inr rfl,?_⟩)))
  simp[yov,z1c,h]
 simp only[z0v,qx,decide_eq_false_iff_not] at h
 obtain⟨n,rfl⟩:=pt (a:=p) (by omega)
 obtain⟨m,rfl⟩:=pt (a:=c) (by omega)
 have hn:n≤48:=by omega
 have hm:m≤6:=by omega
 have hst:z1c n m=⟨List.replicate n false,List.replicate n (List.replicate 16 0),List.replicate m [-1,-1,-1,-1,-1,-1]⟩:=by
  unfold z1c
  rw[if_neg]
  ·rfl
  ·simp only[z0v,qp,decide_eq_true_eq];omega
 rw[hst]
 have hb1:n≤281474976710656:=by omega
 have hb2:(n:Int)≤9223372036854775807:=by omega
 refine WL.sreg (by simp[hb1,hb2];rfl) (by simp;rfl) ?_
 refine WL.nil1 502 true 1 (by simp) (WL.nil1 503 true 1 (by simp) ?_)
 refine WL.seq (WL.sreg (by simp;rfl) (by simp;rfl) ?_)
 refine WL.block (we n (fun i=>nwA n m i (List.replicate i (sU true (List.replicate 16 0)))) (fun _=>True) (by simp[zoy,nwA]) trivial fun i hi _=>?_)
 by_cases h:i < n
 ·refine WL.sreg (by simp[h,nwA];rfl) (by simp;rfl) ?_
  refine WL.seq (WL.cond (t:=true) (by simp) (fun _=>WL.skip ?_) (by simp))
  have hm1:(i+1) * 24≤140737488355328:=by omega
  have hm2:i+1≤maxLen:=by unfold maxLen;omega
  refine WL.seq (WL.block (WL.draw z0t (by simp[z0b,noH]) (DL.o (by simp[hm1,hm2,z8d];exact⟨rfl,rfl⟩) (DL.nil ⟨by kernel_rfl,_,by simp;rfl,?_⟩))))
  have hs:z0c n:=by unfold z0c;omega
  refine WL.reg (RL.run (by simp[z0p hs h];rfl) ⟨_,by simp;rfl,h,?_,trivial⟩)
  exact congrArg (nwA n m (i+1)) (zjx (sU true (List.replicate 16 0)) i)
 ·refine WL.sreg (by simp[h,nwA];rfl) (by simp;rfl) ?_
  refine WL.seq (WL.cond (t:=false) (by simp) (by simp) fun _=>WL.exit ?_)
  obtain rfl:i=n:=by omega
  refine WL.seq (WL.sreg (by simp[nwA];rfl) (by simp;rfl) ?_)
  refine WL.block (we m (fun j=>nwB i m j (List.replicate j (sI true [-1,-1,-1,-1,-1,-1]))) (fun _=>True) (by simp[nwB]) trivial fun j hj _=>?_)
  by_cases h:j < m
  ·have hs:z0c m:=by unfold z0c;omega
   refine WL.sreg (by simp[h,nwB];rfl) (by simp;rfl) ?_
   refine WL.seq (WL.cond (t:=true) (by simp) (fun _=>WL.skip ?_) (by simp))
   have hm1:(j+1) * 24≤140737488355328:=by omega
   have hm2:j+1≤maxLen:=by unfold maxLen;omega
   refine WL.seq (WL.block (WL.draw z0t (by simp[z0b,noH]) (DL.o (by simp;exact⟨rfl,rfl⟩) ?_)))
   refine DL.call0 true zox (by simp) (by simp) ?_
   refine DL.o (by simp[hm1,hm2];exact⟨rfl,rfl⟩) ?_
   refine DL.nil ⟨by kernel_rfl,_,by simp;rfl,?_⟩
   refine WL.reg (RL.run (by simp[z0p hs h];rfl) ⟨_,by simp;rfl,h,?_,trivial⟩)
   exact congrArg (nwB i m (j+1)) (zjx (sI true [-1,-1,-1,-1,-1,-1]) j)
  ·refine WL.sreg (by simp[h,nwB];rfl) (by simp;rfl) ?_
   refine WL.seq (WL.cond (t:=false) (by simp) (by simp) fun _=>WL.exit ?_)
   obtain rfl:j=m:=by omega
   refine WL.sreg (by simp;rfl) (by simp;rfl) ?_
   refine WL.ret ⟨.inr rfl,?_⟩
   simp[yov]
theorem n8 {nt:Nat}{L:SL}{K:SL→Prop}{rest:List Sg}{d:Nat}{cs:List COd}(p c:Int)
  (has:z13 (fnL L) [] false cs=some [i64 p,i64 c])
  (h:RL Try.prog nt rest (z0l L (100 * d) (z6l false (z1c p c))) K):RL Try.prog nt (.call none d 42 cs :: rest) L K:=by
 refine RL.call0 false (ycz p c) has ?_ (RL.freeze (100 * d) ?_)
 ·simp[z1d,z6j,roots,z1a]
 ·rw[zgf,zgd]
  exact h
theorem z73 (p c:Int):Sized (z1c p c):=by
 unfold z1c
 split
 ·exact⟨by simp,by simp,by simp,by simp,by simp⟩
 ·rename_i h
  simp only[z0v,qp,decide_eq_true_eq,not_or] at h
  exact⟨by simp;omega,by simp;omega,by simp;omega,fun b hb=>by rw[t5 hb];simp,fun l hl=>by rw[t5 hl];simp⟩
theorem yxt (n:Int)(m:Nat)(h0:0 < m)(h:m≤1000000000):∃ k:Nat,k < m∧IntKind.wrap .i64 ((IntKind.wrap .u64 n).tmod (m:Int))=(k:Int):=by
 have hw:0≤IntKind.wrap .u64 n:=by rw[IntKind.wrap_u64];omega
 have h1:=Int.tmod_nonneg (m:Int) hw
 have h2:=Int.tmod_lt_of_pos (IntKind.wrap .u64 n) (show (0:Int) < (m:Int) by omega)
 refine⟨((IntKind.wrap .u64 n).tmod (m:Int)).toNat,by omega,?_⟩
 rw[z01 (by omega) (by omega)]
 omega
def z16:List UInt8:=List.replicate 16 0
def sw (w:List UInt8)(c1 c2:Int):St:=⟨[true,false,false],[w,z16,z16],[[c1,-1,-1,-1,-1,-1],[c2,-1,-1,-1,-1,-1]]⟩
abbrev str (w:List UInt8):AU:=.sc (.string (z3f w))
abbrev sS (o:Bool)(l:List (List UInt8)):AU:=.sl o () 1 l.length (l.map str)
abbrev yd0 (o:Bool)(s:St):List AU:=[sB o s.There,sS o s.Body,sII o s.Handles]
abbrev ymr (o:Bool)(s:St):AU:=.agg (yd0 o s)
theorem yd1:z8d [.sc (.int .u8 0)] 16=z16.map (fun b=>u8 (b.toNat:Int)):=rfl
theorem yrl:List.take 16 (z16.map (fun b=>u8 (b.toNat:Int)))=z16.map (fun b=>u8 (b.toNat:Int)):=rfl
theorem yd2:z16.length=16:=rfl
theorem ze5:FnC Try.prog 122 [] [] [] (str z16):=by
 refine wc yrf rfl ?_
 refine WL.sreg (by simp;rfl) (by simp;rfl) ?_
 refine WL.sreg (by simp[yd1,yrl,yd2];rfl) (by simp;rfl) ?_
 refine WL.ret ⟨.inr rfl,?_⟩
 simp[ybw]
theorem z2o (n:Int):FnC Try.prog 123 [] [i64 n] [] (zby true (rsE n)):=by
 refine wc yrg rfl ?_
 refine WL.sreg (by simp;rfl) (by simp;rfl) ?_
 refine WL.sreg (by simp;rfl) (by simp;rfl) ?_
 refine WL.nil1 204 true 1 (by simp) (WL.ret ⟨.inr rfl,?_⟩)
 simp[yby,rsE]
theorem zoz {a b:List UInt8}:((z3f a).toList == (z3f b).toList)=(a == b):=by rw[z4u,z4u]
def z8r (l:List Int):Bool:=l.any fun p=>decide (p < 0)
theorem zp0 (s:St)(c:Nat)(hc:c < s.Handles.length)(hs:z0c s.Handles[c].length):FnC Try.prog 125 [] [ymr false s,i64 c] [] (bl (z8r s.Handles[c])):=by
 refine wc yri rfl ?_
 refine WL.sreg (by simp;rfl) (by simp;rfl) ?_
 refine WL.seq (WL.sreg (by simp;rfl) (by simp;rfl) ?_)
 refine WL.block (we s.Handles[c].length (fun i=>[(100,0,i64 c),(200,0,.bptr 2 1 0),(201,0,sB false s.There),(202,0,sS false s.Body),(203,0,sII false s.Handles),(299,1,.non),(500,0,i64 i)]) (fun i=>∀ j (hj:j < s.Handles[c].length),j < i→0≤s.Handles[c][j]) rfl (fun j _ h=>absurd h (ra _)) fun i hi hp=>?_)
 by_cases h:i < s.Handles[c].length
 ·refine WL.seq (WL.sreg (by simp[hc,h];rfl) (by simp;rfl) ?_)
  refine WL.cond (t:=true) (by simp) (fun _=>WL.skip ?_) (by simp)
  refine WL.seq (WL.block (WL.sreg (by simp[hc,h];rfl) (by simp;rfl) ?_))
  by_cases hf:s.Handles[c][i] < 0
  ·refine WL.cond (t:=true) (by simp[hf]) (fun _=>?_) (by simp)
   refine WL.sreg (by simp;rfl) (by simp;rfl) ?_
   refine WL.ret ⟨.inr rfl,?_⟩
   have:z8r s.Handles[c]=true:=List.any_eq_true.2 ⟨_,qb h,by simpa using hf⟩
   simp[zxu,this]
  ·refine WL.cond (t:=false) (by simp;omega) (by simp) fun _=>WL.skip ?_
   refine WL.reg (RL.run (by simp[z0p hs h];rfl) ⟨_,by simp;rfl,h,?_,fun j hj hji=>?_⟩)
   ·simp
   ·by_cases e:j=i
    ·subst e;omega
    ·exact hp j hj (by omega)
 ·refine WL.seq (WL.sreg (by simp[hc,h];rfl) (by simp;rfl) ?_)
  refine WL.cond (t:=false) (by simp) (by simp) fun _=>WL.exit ?_
  refine WL.sreg (by simp;rfl) (by simp;rfl) ?_
  refine WL.ret ⟨.inr rfl,?_⟩
  have:z8r s.Handles[c]=false:=by
   simp only[z8r,List.any_eq_false,decide_eq_true_eq,Int.not_lt]
   intro x hx
   obtain⟨j,hj,rfl⟩:=List.mem_iff_getElem.1 hx
   exact hp j hj (by omega)
  simp[zxu,this]
structure Cl where
 Client:Int
 op:Op
abbrev z0g (o:Bool)(c:Cl):List AU:=[i64 c.Client,i64 c.op.Kind,i64 c.op.Page,i64 c.op.Handle,i64 c.op.Off,i64 c.op.N,sU o c.op.Data]
abbrev yd3 (o:Bool)(c:Cl):AU:=.agg (z0g o c)
def um (x m:Int):Nat:=(IntKind.wrap .i64 ((IntKind.wrap .u64 x).tmod m)).toNat
theorem z50 (x:Int)(m:Nat)(h0:0 < m)(h:m≤1000000000):um x m < m∧IntKind.wrap .i64 ((IntKind.wrap .u64 x).tmod (m:Int))=(um x m:Int):=by
 obtain⟨k,hk,e⟩:=yxt x m h0 h
 have:um x m=k:=by simp[um,e]
 rw[this]
 exact⟨hk,e⟩
def z7x (c:Cl)(p k:Nat):Cl:=⟨(um c.Client k:Int),⟨1+(um c.op.Kind 8:Int),(um c.op.Page p:Int),(um c.op.Handle 3:Int),(um c.op.Off 8:Int),(um c.op.N 9:Int),c.op.Data.take 8⟩⟩
theorem zy0 (c:Cl)(p k:Nat)(hp:0 < p)(hp':p≤1000)(hk:0 < k)(hk':k≤1000)(hd:c.op.Data.length≤1000):FnC Try.prog 43 [] [yd3 false c,i64 p,i64 k] [] (yd3 false (z7x c p k)):=by
 have u1:=z50 c.op.Kind 8 (by decide) (by decide)
 have u2:=z50 c.op.Page p hp (by omega)
 have u3:=z50 c.op.Handle 3 (by decide) (by decide)
 have u4:=z50 c.op.Off 8 (by decide) (by decide)
 have u5:=z50 c.op.N 9 (by decide) (by decide)
 have u6:=z50 c.Client k hk (by omega)
 rw[show ((8:Nat):Int)=8 from rfl] at u1 u4
 rw[show ((3:Nat):Int)=3 from rfl] at u3
 rw[show ((9:Nat):Int)=9 from rfl] at u5
 have w1:IntKind.wrap .i64 (1+(um c.op.Kind 8:Int))=1+(um c.op.Kind 8:Int):=z01 (by omega) (by omega)
 have wp:IntKind.wrap .u64 (p:Int)=(p:Int):=IntWalk.u64_in _ ⟨by omega,by omega⟩
 have wk:IntKind.wrap .u64 (k:Int)=(k:Int):=IntWalk.u64_in _ ⟨by omega,by omega⟩
 have p0:p ≠ 0:=by omega
 have k0:k ≠ 0:=by omega
 refine wc yxq rfl ?_
 refine WL.sreg (by simp;rfl) (by simp;rfl) ?_
 refine WL.sreg (by simp;rfl) (by simp;rfl) ?_
 refine WL.sreg (by simp[u1.2,w1];rfl) (by simp;rfl) ?_
 refine WL.seq (WL.draw z0t (by simp[z0b,noH]) (DL.o (by simp[u2.2,u3.2,wp,p0];exact⟨rfl,rfl⟩) (DL.nil ⟨by kernel_rfl,_,by simp;rfl,?_⟩)))
 refine WL.sreg (by simp[u4.2,u5.2];rfl) (by simp;rfl) ?_
 refine WL.seq (WL.sreg (by simp;rfl) (by simp;rfl) ?_)
 by_cases h8:8 < c.op.Data.length
 ·have h8':(8:Int) < c.op.Data.length:=by omega
  have h8n:8≤c.op.Data.length:=by omega
  refine WL.cond (t:=true) (by simp[h8']) (fun _=>?_) (by simp)
  refine WL.reg (RL.run (by simp[h8n];rfl) ⟨_,by simp;rfl,?_⟩)
  refine WL.seq (WL.draw z0t (by simp[z0b,noH]) (DL.o (by simp[u6.2,wk,k0];exact⟨rfl,rfl⟩) (DL.nil ⟨by kernel_rfl,_,by simp;rfl,?_⟩)))
  refine WL.ret ⟨.inr rfl,?_⟩
  have e8:min 8 c.op.Data.length=8:=by omega
  simp[yqv,z7x,e8]
 ·have h8':¬ (8:Int) < c.op.Data.length:=by omega
  refine WL.cond (t:=false) (by simp[h8']) (by simp) (fun _=>WL.skip ?_)
  refine WL.seq (WL.draw z0t (by simp[z0b,noH]) (DL.o (by simp[u6.2,wk,k0];exact⟨rfl,rfl⟩) (DL.nil ⟨by kernel_rfl,_,by simp;rfl,?_⟩)))
  refine WL.ret ⟨.inr rfl,?_⟩
  have e8:c.op.Data.take 8=c.op.Data:=pp (by omega)
  simp[yqv,z7x,e8]
theorem ty3:Ty Try.prog 3 Int (fun n=>[i64 n]) (fun n=>(Lit.int .i64 n).wf=true):=Ty.int Try.underlying3
theorem yxu:Ty Try.prog 42 Op (fun q=>[i64 q.Kind,i64 q.Page,i64 q.Handle,i64 q.Off,i64 q.N,sU false q.Data]) (fun q=>q.Data.length≤9223372036854775807) :=
 (Ty.struct Try.underlying42 (by kernel_rfl) (TyF.cons rfl (by kernel_rfl) ty3 (TyF.cons rfl (by kernel_rfl) ty3 (TyF.cons rfl (by kernel_rfl) ty3 (TyF.cons rfl (by kernel_rfl) ty3 (TyF.cons rfl (by kernel_rfl) ty3 (TyF.cons rfl (by kernel_rfl) yxp (TyF.nil (off:=6))))))))).map
  (fun p=>⟨p.1,p.2.1,p.2.2.1,p.2.2.2.1,p.2.2.2.2.1,p.2.2.2.2.2.1⟩) (fun p=>rfl) (fun p h=>h.2.2.2.2.2.1)
theorem yxv:Ty Try.prog 70 Cl (fun c=>z0g false c) (fun c=>c.op.Data.length≤9223372036854775807) :=
 (Ty.struct Try.underlying70 (by kernel_rfl) (TyF.cons rfl (by kernel_rfl) ty3 (TyF.cons rfl (by kernel_rfl) yxu (TyF.nil (off:=7))))).map
  (fun p=>⟨p.1,p.2.1⟩) (fun p=>rfl) (fun p h=>h.2.1)
theorem ywo:TyA Try.prog 68 (List Cl) (fun l=>.sl false () 7 l.length (l.flatMap (z0g false))) (fun l=>l.length≤9223372036854775807∧∀ c ∈ l,c.op.Data.length≤9223372036854775807) :=
 TyA.slice Try.underlying68 (Ty.slice (s:=7) Try.underlying68 (by kernel_rfl) (by decide) (fun _=>rfl) yxv)
end Go.OT
