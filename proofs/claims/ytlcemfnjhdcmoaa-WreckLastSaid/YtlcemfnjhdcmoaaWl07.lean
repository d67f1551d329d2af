/- Part 7 of the proof: see its last file. -/
import Derived.Orders
import Derived.Below
import Derived.Laws.Entries
import Derived.Laws.Cells
import Derived.Laws.IdiomCopy
import Derived.Scope
import Derived.Calls
import Derived.Laws.Tables
import Derived.Laws.MakeOwn
import Derived.Laws.BytesString
import Derived.ArgAppend
import Derived.WalkSpells
import Derived.Lib.SlBytesConst
import Derived.Lib.ConvBytes
import Derived.WalkKit
import Derived.ProofKit
import Derived.OpenShut
import Derived.ShutString
import Derived.ChangeOld
import Derived.Lib.SmallJoins
import Derived.Test.YtlcemfnjhdcmoaaProg
import Derived.KernelRfl
import Derived.IntWalk
import Derived.Lib.Strings
import Derived.Test.YtlcemfnjhdcmoaaWl06
set_option linter.unusedSimpArgs false
set_option linter.unusedVariables false
namespace Go.OT
open Go.Proofs
def yo3:Cd:=(.seq (.reg [0,1,19,20] [.o [.build 20 [(.sc (.slice none 0 0)),(.sc (.slice none 0 0)),(.sc (.slice none 0 0))] [],.st 3 (.t 4) (.t 20)]]) .ret)
def yo4:Cd:=(.cond (.t 19) yo3 .skip)
def yo5:Cd:=(.reg [33] [.o [.bin 33 .add (.t 25) (cI 1),.mov 25 (.t 33)]])
def yo6:Cd:=(.seq (.block 1 (.draw [[],[0],[],[2],[1,3],[0,1,2,3,4],[5,4,4,0,1,2,3,4]] [26,27,28,29,30,31,32] [.o [.faddr 27 1 (.t 5),.ld 28 1 false (.t 27),.make 29 1 1 [(.sc (.int .u8 0))] (cI 16) (cI 16),.bs1 30 1 (.t 29),.app 31 1 24 (.t 28) (.t 30),.faddr 32 1 (.t 5),.st 1 (.t 32) (.t 31)]])) yo5)
def yo7:Cd:=(.seq (.cond (.t 26) .skip (.exit 0)) yo6)
def yo8:Cd:=(.seq (.reg [] [.o [.bin 26 .lss (.t 25) (.t 24)]]) yo7)
def yo9:Cd:=(.block 0 (.loop yo8))
def yoa:Cd:=(.reg [44] [.o [.bin 44 .add (.t 35) (cI 1),.mov 35 (.t 44)]])
def yob:Cd:=(.seq (.block 3 (.draw [[],[0],[],[2],[3],[1,4,3],[0,1,2,3,4,5],[6,5,5,0,1,2,3,4,5]] [36,37,38,39,40,41,42,43] [.o [.faddr 37 2 (.t 5),.ld 38 1 false (.t 37),.bs1 39 1 (cI (-1))],.call none 40 96 [(.t 39),(cI 6)],.o [.bs1 41 1 (.t 40),.app 42 1 24 (.t 38) (.t 41),.faddr 43 2 (.t 5),.st 1 (.t 43) (.t 42)]])) yoa)
def yoc:Cd:=(.seq (.cond (.t 36) .skip (.exit 2)) yob)
def y55:Cd:=(.seq (.reg [] [.o [.bin 36 .lss (.t 35) (.t 34)]]) yoc)
def y56:Cd:=(.block 2 (.loop y55))
def y57:Cd:=(.seq (.reg [5,34,35,36,45] [.o [.ld 45 3 true (.t 5),.st 3 (.t 4) (.t 45)]]) .ret)
def y58:Cd:=(.seq (.seq (.reg [1,24,25,26] [.o [.mov 34 (.t 1),.mov 35 (cI 0)]]) y56) y57)
def y59:Cd:=(.seq (.seq (.reg [0] [.o [.mov 24 (.t 0),.mov 25 (cI 0)]]) yo9) y58)
def y5a:Cd:=(.seq (.reg [19,21,22,23] [.o [.mov 21 (.t 0),.make 22 1 1 [(.sc (.bool false))] (.t 21) (.t 21),.build 23 [(.sc (.slice none 0 0)),(.sc (.slice none 0 0)),(.sc (.slice none 0 0))] [(0,1,(.t 22))],.alloc 5 [(.sl true () 1 0 []),(.sl true () 1 0 []),(.sl true () 1 0 [])],.st 3 (.t 5) (.t 23)]]) y59)
def y5b:Cd:=(.seq (.seq (.reg [6,7,8,9,10,11,12,13,14,15,16,17,18] [.o [.mov 6 (.t 0),.bin 7 .lss (.t 6) (cI 1),.mov 8 (.t 7)],.g 8 false [.mov 9 (.t 0),.bin 10 .gtr (.t 9) (cI 48)],.o [.pick 11 (.t 8) (cB true) (.t 10),.mov 12 (.t 11)],.g 12 false [.mov 13 (.t 1),.bin 14 .lss (.t 13) (cI 1)],.o [.pick 15 (.t 12) (cB true) (.t 14),.mov 16 (.t 15)],.g 16 false [.mov 17 (.t 1),.bin 18 .gtr (.t 17) (cI 6)],.o [.pick 19 (.t 16) (cB true) (.t 18)]]) yo4) y5a)
def yod:FI:=⟨46,2,[.cell 4 3 true],(.seq (.reg [] [.o [.alloc 4 [(.sl true () 1 0 []),(.sl true () 1 0 []),(.sl true () 1 0 [])]]]) y5b)⟩
theorem yy5:z1v Try.prog 42 yod:=⟨_,_,Try.func42,rfl,by kernel_rfl,by kernel_rfl,Try.call42⟩
def y5c:Cd:=(.seq (.reg [1,3,5,23,24,25] [.o [.ld 24 3 true (.t 3),.build 25 [(.sc (.int .i64 0)),(.sc (.int .i64 0)),(.sc (.int .i64 0)),(.sc (.slice none 0 0))] [(0,1,(cI 1))],.st 3 (.t 6) (.t 24),.st 4 (.t 7) (.t 25)]]) .ret)
def yoe:Cd:=(.cond (.t 23) y5c .skip)
def yof:Cd:=(.seq (.reg [3,8,9,33,34,35,36] [.o [.ld 34 3 true (.t 3),.mov 35 (.t 9),.build 36 [(.sc (.int .i64 0)),(.sc (.int .i64 0)),(.sc (.int .i64 0)),(.sc (.slice none 0 0))] [(0,1,(.t 35))],.st 3 (.t 6) (.t 34),.st 4 (.t 7) (.t 36)]]) .ret)
def yog:Cd:=(.cond (.t 33) yof .skip)
def yoh:Cd:=(.seq (.reg [32] [.o [.mov 32 (.t 9),.bin 33 .neq (.t 32) (cI 0)]]) yog)
def yoi:Cd:=(.seq (.reg [3,8,9,33,37,38,39,40] [.o [.ld 37 10 true (.t 8)],.call none 38 99 [(.t 37)],.o [.ext 39 38 0,.ext 40 38 1,.st 3 (.t 6) (.t 39),.st 4 (.t 7) (.t 40)]]) .ret)
def yoj:Cd:=(.seq (.seq (.reg [30,31] [.o [.ld 30 10 true (.t 8)],.call none 31 98 [(.t 30)],.o [.asg 9 (.t 31)]]) yoh) yoi)
def y5d:Cd:=(.seq (.reg [1,5,23,26,27,28,29] [.o [.ld 26 3 true (.t 3),.mov 27 (.t 1),.ld 28 6 true (.t 5),.build 29 [(.sc (.slice none 0 0)),(.sc (.slice none 0 0)),(.sc (.slice none 0 0)),(.sc (.int .i64 0)),(.sc (.int .i64 0)),(.sc (.int .i64 0)),(.sc (.int .i64 0)),(.sc (.int .i64 0)),(.sc (.int .i64 0)),(.sc (.slice none 0 0))] [(0,3,(.t 26)),(3,1,(.t 27)),(4,6,(.t 28))],.alloc 8 [(.sl true () 1 0 []),(.sl true () 1 0 []),(.sl true () 1 0 []),(.sc (.int .i64 0)),(.sc (.int .i64 0)),(.sc (.int .i64 0)),(.sc (.int .i64 0)),(.sc (.int .i64 0)),(.sc (.int .i64 0)),(.sl true () 1 0 [])],.st 10 (.t 8) (.t 29)]]) yoj)
def yok:Cd:=(.seq (.seq (.reg [10,11,12,13,14,15,16,17,18,19,20,21,22] [.o [.ld 10 3 true (.t 3)],.call none 11 97 [(.t 10)],.o [.un 12 .not (.t 11),.mov 13 (.t 12)],.g 13 false [.mov 14 (.t 1),.bin 15 .lss (.t 14) (cI 0)],.o [.pick 16 (.t 13) (cB true) (.t 15),.mov 17 (.t 16)],.g 17 false [.mov 18 (.t 1),.faddr 19 2 (.t 3),.ld 20 1 false (.t 19),.len 21 (.t 20),.bin 22 .geq (.t 18) (.t 21)],.o [.pick 23 (.t 17) (cB true) (.t 22)]]) yoe) y5d)
def zu4:FI:=⟨41,3,[.cell 6 3 true,.cell 7 4 true],(.seq (.reg [0,2] [.o [.box 3 (.t 0),.box 5 (.t 2),.alloc 6 [(.sl true () 1 0 []),(.sl true () 1 0 []),(.sl true () 1 0 [])],.alloc 7 [(.sc (.int .i64 0)),(.sc (.int .i64 0)),(.sc (.int .i64 0)),(.sl true () 1 0 [])]]]) yok)⟩
theorem yy6:z1v Try.prog 44 zu4:=⟨_,_,Try.func44,rfl,by kernel_rfl,by kernel_rfl,Try.call44⟩
-- BAD 96 slices.Repeat[[]int,int] [0, 1, 0, 1]
def yol:Cd:=(.reg [10] [.bad,.bad])
def yom:Cd:=(.cond (.t 10) yol .skip)
def yon:Cd:=(.reg [26] [.bad,.bad])
def yoo:Cd:=(.cond (.t 26) yon .skip)
def yop:Cd:=(.cond (.t 37) .skip (.exit 0))
def yoq:Cd:=(.block 1 (.draw [[],[],[],[1,2],[],[],[4,5],[3,6],[0,7],[8,7,0,1,2,3,4,5,6,7,8]] [37,38,39,40,41,42,43,44,45,46] [.o [.mov 38 (.t 8),.mov 39 (.t 7),.mov 40 (.t 8),.slice 41 1 (.t 39) (some (.t 40)) none,.mov 42 (.t 7),.mov 43 (.t 8),.slice 44 1 (.t 42) none (some (.t 43)),.cpy 45 1 (.t 41) (.t 44),.bin 46 .add (.t 38) (.t 45),.asg 8 (.t 46)]]))
def yor:Cd:=(.seq (.seq (.reg [34,35,36] [.o [.mov 34 (.t 8),.mov 35 (.t 7),.len 36 (.t 35),.bin 37 .lss (.t 34) (.t 36)]]) yop) yoq)
def yos:Cd:=(.seq (.reg [7,8,34,35,36,37,47] [.o [.mov 47 (.t 7),.asg 4 (.t 47)]]) .ret)
def yot:Cd:=(.seq (.block 0 (.loop yor)) yos)
def you:Cd:=(.seq (.reg [0,31,32,33] [.o [.mov 31 (.t 7),.mov 32 (.t 0),.cpy 33 1 (.t 31) (.t 32),.asg 8 (.t 33)]]) yot)
def y5e:Cd:=(.seq (.reg [6,26,28,29,30] [.o [.mov 28 (.t 6),.conv 29 .i64 (.t 28),.make 30 1 8 [(.sc (.int .i64 0))] (.t 29) (.t 29),.asg 7 (.t 30)]]) you)
def y5f:Cd:=(.seq (.seq (.reg [5,21,22,23,24,25] [.o [.mov 21 (.t 5),.bin 22 .gtr (.t 21) (.c (.sc (.int .u64 0))),.mov 23 (.t 22)],.g 23 false [.mov 24 (.t 6),.bin 25 .gtr (.t 24) (.c (.sc (.int .u64 9223372036854775807)))],.o [.pick 26 (.t 23) (cB true) (.t 25)]]) yoo) y5e)
def y5g:Cd:=(.seq (.reg [1,10,13,14,15,16,17,18,12,19,20] [.o [.mov 13 (.t 0),.len 14 (.t 13),.conv 15 .u64 (.t 14),.mov 16 (.t 1),.conv 17 .u64 (.t 16)],.call none 18 140 [(.t 15),(.t 17)],.o [.mov 12 (.t 18),.ext 19 12 0,.ext 20 12 1,.asg 5 (.t 19),.asg 6 (.t 20)]]) y5f)
def y5h:Cd:=(.seq (.seq (.reg [9] [.o [.mov 9 (.t 1),.bin 10 .lss (.t 9) (cI 0)]]) yom) y5g)
def yxg:FI:=⟨48,2,[.t 4],(.seq (.reg [4] [.o [.asg 4 (.c (.sl true () 1 0 []))]]) y5h)⟩
theorem yy7:z1v Try.prog 96 yxg:=⟨_,_,Try.func96,rfl,by kernel_rfl,by kernel_rfl,Try.call96⟩
def yov:Cd:=(.seq (.reg [1,35] [.o [.asg 2 (cB false)]]) .ret)
def yow:Cd:=(.cond (.t 35) yov .skip)
def yox:Cd:=(.seq (.reg [1,37,38,39,60] [.o [.asg 2 (cB false)]]) .ret)
def yoy:Cd:=(.cond (.t 60) yox .skip)
def yoz:Cd:=(.seq (.reg [5,6,44,45,46,47,48,49,50,51,52,53,54,55,56,57,58,59] [.o [.mov 44 (.t 6),.len 45 (.t 44),.bin 46 .neq (.t 45) (cI 16),.mov 47 (.t 46)],.g 47 false [.faddr 48 0 (.t 1),.ld 49 1 false (.t 48),.mov 50 (.t 5),.iaddr 51 1 (.t 49) (.t 50),.ld 52 1 false (.t 51),.un 53 .not (.t 52),.mov 54 (.t 53)],.g 54 true [.mov 55 (.t 6),.make 56 1 1 [(.sc (.int .u8 0))] (cI 16) (cI 16)],.call (some (54,true)) 57 102 [(.t 55),(.t 56)],.g 54 true [.un 58 .not (.t 57)],.g 47 false [.pick 59 (.t 54) (.t 58) (cB false)],.o [.pick 60 (.t 47) (cB true) (.t 59)]]) yoy)
def yp0:Cd:=(.reg [60,61] [.o [.bin 61 .add (.t 39) (cI 1),.mov 39 (.t 61)]])
def yp1:Cd:=(.seq (.block 1 (.seq (.reg [40,41,42,43] [.o [.mov 41 (.t 39),.iaddr 42 1 (.t 37) (.t 39),.ld 43 1 false (.t 42),.asg 5 (.t 41),.asg 6 (.t 43)]]) yoz)) yp0)
def yp2:Cd:=(.seq (.cond (.t 40) .skip (.exit 0)) yp1)
def yp3:Cd:=(.seq (.reg [] [.o [.bin 40 .lss (.t 39) (.t 38)]]) yp2)
def yp4:Cd:=(.block 0 (.loop yp3))
def y5i:Cd:=(.seq (.reg [1,63,64,65,76] [.o [.asg 2 (cB false)]]) .ret)
def y5j:Cd:=(.cond (.t 76) y5i .skip)
def y5k:Cd:=(.seq (.reg [8,69,70,71,72,73,74,75] [.o [.mov 69 (.t 8),.len 70 (.t 69),.bin 71 .neq (.t 70) (cI 6),.mov 72 (.t 71)],.g 72 false [.mov 73 (.t 8),.mkf 74 142 [(.t 1)]],.call (some (72,false)) 75 141 [(.t 73),(.t 74)],.o [.pick 76 (.t 72) (cB true) (.t 75)]]) y5j)
def y5l:Cd:=(.reg [76,77] [.o [.bin 77 .add (.t 65) (cI 1),.mov 65 (.t 77)]])
def y5m:Cd:=(.seq (.block 3 (.seq (.reg [66,67,68] [.o [.iaddr 67 1 (.t 63) (.t 65),.ld 68 1 false (.t 67),.asg 8 (.t 68)]]) y5k)) y5l)
def y5n:Cd:=(.seq (.cond (.t 66) .skip (.exit 2)) y5m)
def y5o:Cd:=(.seq (.reg [] [.o [.bin 66 .lss (.t 65) (.t 64)]]) y5n)
def y5p:Cd:=(.block 2 (.loop y5o))
def y5q:Cd:=(.seq (.reg [1,63,64,65,66] [.o [.asg 2 (cB true)]]) .ret)
def y5r:Cd:=(.seq (.seq (.reg [37,38,39,40,62] [.o [.faddr 62 2 (.t 1),.ld 63 1 false (.t 62),.len 64 (.t 63),.mov 65 (cI 0)]]) y5p) y5q)
def y5s:Cd:=(.seq (.seq (.reg [35,36] [.o [.faddr 36 1 (.t 1),.ld 37 1 false (.t 36),.len 38 (.t 37),.mov 39 (cI 0)]]) yp4) y5r)
def y5t:Cd:=(.seq (.seq (.reg [3,4,15,16,17,18,19,20,21,22,23,24,25,26,27,28,29,30,31,32,33,34] [.o [.mov 15 (.t 3),.bin 16 .lss (.t 15) (cI 1),.mov 17 (.t 16)],.g 17 false [.mov 18 (.t 3),.bin 19 .gtr (.t 18) (cI 48)],.o [.pick 20 (.t 17) (cB true) (.t 19),.mov 21 (.t 20)],.g 21 false [.faddr 22 1 (.t 1),.ld 23 1 false (.t 22),.len 24 (.t 23),.mov 25 (.t 3),.bin 26 .neq (.t 24) (.t 25)],.o [.pick 27 (.t 21) (cB true) (.t 26),.mov 28 (.t 27)],.g 28 false [.mov 29 (.t 4),.bin 30 .lss (.t 29) (cI 1)],.o [.pick 31 (.t 28) (cB true) (.t 30),.mov 32 (.t 31)],.g 32 false [.mov 33 (.t 4),.bin 34 .gtr (.t 33) (cI 6)],.o [.pick 35 (.t 32) (cB true) (.t 34)]]) yow) y5s)
def y5u:Cd:=(.seq (.draw [[],[0],[1],[],[3],[4],[2,0,1,2],[5,6,0,1,2,3,4,5,6]] [9,10,11,12,13,14] [.o [.faddr 9 0 (.t 1),.ld 10 1 false (.t 9),.len 11 (.t 10),.faddr 12 2 (.t 1),.ld 13 1 false (.t 12),.len 14 (.t 13),.asg 3 (.t 11),.asg 4 (.t 14)]]) y5t)
def zwi:FI:=⟨78,1,[.t 2],(.seq (.reg [0,2] [.o [.box 1 (.t 0),.asg 2 (cB false)]]) y5u)⟩
theorem yy8:z1v Try.prog 97 zwi:=⟨_,_,Try.func97,rfl,by kernel_rfl,by kernel_rfl,Try.call97⟩
def yp5:Cd:=(.seq (.reg [1,42] [.o [.asg 2 (cI 4)]]) .ret)
def yp6:Cd:=(.cond (.t 42) yp5 .skip)
def yp7:Cd:=(.seq (.reg [47] [.o [.asg 2 (cI 3)]]) .ret)
def yp8:Cd:=(.cond (.t 47) yp7 .skip)
def yp9:Cd:=(.seq (.reg [1,42,43,44,45,46] [.o [.faddr 43 0 (.t 1),.faddr 44 0 (.t 43),.ld 45 1 false (.t 44)],.call none 46 144 [(.t 45),(cB false)],.o [.un 47 .not (.t 46)]]) yp8)
def ypa:Cd:=(.seq (.seq (.reg [3,4,5,38,39,41] [.o [.mov 41 (.t 3),.un 42 .not (.t 41)]]) yp6) yp9)
def ypb:Cd:=(.reg [51] [.o [.bin 51 .eql (.t 38) (cI 8),.asg 48 (.t 51)]])
def ypc:Cd:=(.cond (.t 48) .skip ypb)
def ypd:Cd:=(.seq (.reg [50] [.o [.bin 50 .eql (.t 38) (cI 6),.asg 48 (.t 50)]]) ypc)
def ype:Cd:=(.cond (.t 48) .skip ypd)
def y5v:Cd:=(.seq (.reg [1,3,5,52] [.o [.asg 2 (cI 1)]]) .ret)
def y5w:Cd:=(.seq (.reg [1,3,55] [.o [.asg 2 (cI 2)]]) .ret)
def y5x:Cd:=(.seq (.reg [1,58] [.o [.asg 2 (cI 4)]]) .ret)
def y5y:Cd:=(.seq (.reg [67] [.o [.asg 2 (cI 7)]]) .ret)
def y5z:Cd:=(.cond (.t 67) y5y .skip)
def y60:Cd:=(.seq (.reg [1,58,68,69,70,71,72,73,74,75,76,77,78,79,80] [.o [.faddr 68 4 (.t 1),.faddr 69 0 (.t 68),.ld 70 1 false (.t 69),.bin 71 .eql (.t 70) (cI 8),.mov 72 (.t 71)],.g 72 true [.faddr 73 0 (.t 1),.ld 74 3 true (.t 73),.faddr 75 4 (.t 1),.faddr 76 1 (.t 75),.ld 77 1 false (.t 76)],.call (some (72,true)) 78 145 [(.t 74),(.t 77)],.g 72 true [.bin 79 .gtr (.t 78) (cI 0)],.o [.pick 80 (.t 72) (.t 79) (cB false),.asg 67 (.t 80)]]) y5z)
def y61:Cd:=(.cond (.t 58) y5x y60)
def y62:Cd:=(.seq (.reg [3,55,59,60,61,62,63,64,65,66] [.o [.faddr 59 4 (.t 1),.faddr 60 0 (.t 59),.ld 61 1 false (.t 60),.bin 62 .eql (.t 61) (cI 2),.mov 63 (.t 62)],.g 63 true [.mov 64 (.t 3),.un 65 .not (.t 64)],.o [.pick 66 (.t 63) (.t 65) (cB false),.asg 58 (.t 66)]]) y61)
def y63:Cd:=(.cond (.t 55) y5w y62)
def y64:Cd:=(.seq (.reg [5,52,56,57] [.o [.mov 56 (.t 5),.un 57 .not (.t 56),.asg 55 (.t 57)]]) y63)
def y65:Cd:=(.cond (.t 52) y5v y64)
def y66:Cd:=(.block 1 (.seq (.reg [4,38,48,53,54] [.o [.mov 53 (.t 4),.un 54 .not (.t 53),.asg 52 (.t 54)]]) y65))
def y67:Cd:=(.reg [84] [.o [.bin 84 .eql (.t 38) (cI 5),.asg 81 (.t 84)]])
def y68:Cd:=(.cond (.t 81) .skip y67)
def y69:Cd:=(.seq (.reg [83] [.o [.bin 83 .eql (.t 38) (cI 4),.asg 81 (.t 83)]]) y68)
def y6a:Cd:=(.cond (.t 81) .skip y69)
def y6b:Cd:=(.reg [94,95,96,97,98] [.o [.faddr 95 4 (.t 1),.faddr 96 5 (.t 95),.ld 97 1 false (.t 96),.len 98 (.t 97),.asg 7 (.t 98)]])
def y6c:Cd:=(.cond (.t 94) y6b .skip)
def y6d:Cd:=(.seq (.reg [1,7,99] [.o [.asg 2 (cI 5)]]) .ret)
def y6e:Cd:=(.seq (.reg [119] [.o [.asg 2 (cI 6)]]) .ret)
def y6f:Cd:=(.cond (.t 119) y6e .skip)
def y6g:Cd:=(.seq (.reg [1,7,99,120,121,122,123,124,125,126,127,128,129,130,131,132,133,134,135,136,137,138,139,140,141,142,143,144,145,146,147] [.o [.faddr 120 4 (.t 1),.faddr 121 0 (.t 120),.ld 122 1 false (.t 121),.bin 123 .neq (.t 122) (cI 5),.mov 124 (.t 123)],.g 124 true [.faddr 125 4 (.t 1),.faddr 126 3 (.t 125),.ld 127 1 false (.t 126),.bin 128 .lss (.t 127) (cI 0),.mov 129 (.t 128)],.g 129 false [.mov 130 (.t 7),.bin 131 .lss (.t 130) (cI 0)],.g 124 true [.pick 132 (.t 129) (cB true) (.t 131),.mov 133 (.t 132)],.g 133 false [.faddr 134 4 (.t 1),.faddr 135 3 (.t 134),.ld 136 1 false (.t 135),.bin 137 .gtr (.t 136) (cI 16)],.g 124 true [.pick 138 (.t 133) (cB true) (.t 137),.mov 139 (.t 138)],.g 139 false [.mov 140 (.t 7),.faddr 141 4 (.t 1),.faddr 142 3 (.t 141),.ld 143 1 false (.t 142),.bin 144 .sub (cI 16) (.t 143),.bin 145 .gtr (.t 140) (.t 144)],.g 124 true [.pick 146 (.t 139) (cB true) (.t 145)],.o [.pick 147 (.t 124) (.t 146) (cB false),.asg 119 (.t 147)]]) y6f)
def y6h:Cd:=(.cond (.t 99) y6d y6g)
def y6i:Cd:=(.block 2 (.seq (.reg [6,94,100,101,102,103,104,105,106,107,108,109,110,111,112,113,114,115,116,117,118] [.o [.mov 100 (.t 6),.bin 101 .lss (.t 100) (cI 0),.mov 102 (.t 101)],.g 102 false [.mov 103 (.t 6),.bin 104 .geq (.t 103) (cI 6)],.o [.pick 105 (.t 102) (cB true) (.t 104),.mov 106 (.t 105)],.g 106 false [.faddr 107 0 (.t 1),.faddr 108 2 (.t 107),.ld 109 1 false (.t 108),.faddr 110 3 (.t 1),.ld 111 1 false (.t 110),.iaddr 112 1 (.t 109) (.t 111),.ld 113 1 false (.t 112),.mov 114 (.t 6),.iaddr 115 1 (.t 113) (.t 114),.ld 116 1 false (.t 115),.bin 117 .eql (.t 116) (cI (-1))],.o [.pick 118 (.t 106) (cB true) (.t 117),.asg 99 (.t 118)]]) y6h))
def y6j:Cd:=(.seq (.seq (.reg [91,92,93] [.o [.faddr 91 4 (.t 1),.faddr 92 0 (.t 91),.ld 93 1 false (.t 92),.bin 94 .eql (.t 93) (cI 4)]]) y6c) y6i)
def y6k:Cd:=(.seq (.draw [[],[0],[1],[],[3],[4],[2,0,1,2],[5,6,0,1,2,3,4,5,6]] [38,81,85,86,87,88,89,90] [.o [.faddr 85 4 (.t 1),.faddr 86 2 (.t 85),.ld 87 1 false (.t 86),.faddr 88 4 (.t 1),.faddr 89 4 (.t 88),.ld 90 1 false (.t 89),.asg 6 (.t 87),.asg 7 (.t 90)]]) y6j)
def y6l:Cd:=(.seq (.reg [148] [.o [.asg 2 (cI 1)]]) .ret)
def y6m:Cd:=(.cond (.t 148) .skip y6l)
def y6n:Cd:=(.seq (.reg [1,38,81,149] [.o [.bin 149 .eql (.t 38) (cI 7),.asg 148 (.t 149)]]) y6m)
def zjk:Cd:=(.cond (.t 81) y6k y6n)
def y6o:Cd:=(.seq (.seq (.reg [3,4,5,48,82] [.o [.bin 82 .eql (.t 38) (cI 3),.asg 81 (.t 82)]]) y6a) zjk)
def zjl:Cd:=(.cond (.t 48) y66 y6o)
def y6p:Cd:=(.seq (.seq (.reg [39,49] [.o [.bin 49 .eql (.t 38) (cI 2),.asg 48 (.t 49)]]) ype) zjl)
def y6q:Cd:=(.cond (.t 39) ypa y6p)
def y6r:Cd:=(.block 0 (.seq (.reg [40] [.o [.bin 40 .eql (.t 38) (cI 1),.asg 39 (.t 40)]]) y6q))
def zfy:Cd:=(.seq (.reg [47,67,119,148] [.o [.asg 2 (cI 0)]]) .ret)
def zjm:Cd:=(.seq (.seq (.reg [36,37] [.o [.faddr 36 4 (.t 1),.faddr 37 0 (.t 36),.ld 38 1 false (.t 37)]]) y6r) zfy)
def y6s:Cd:=(.seq (.draw [[],[0],[1],[2],[3],[4],[5,4],[6,4],[4],[8,4],[9,4],[10,4],[7,11,4],[4,12],[],[14],[],[16],[17],[15,18,4],[13,19,0,1,2,3,4,5,6,7,8,9,10,11,12,13],[19,20,0,1,2,3,4,5,6,7,8,9,10,11,12,13,14,15,16,17,18,19,20]] [16,17,18,19,20,21,22,23,24,25,26,27,28,29,30,31,32,33,34,35] [.o [.faddr 16 4 (.t 1),.faddr 17 1 (.t 16),.ld 18 1 false (.t 17),.bin 19 .geq (.t 18) (cI 0),.mov 20 (.t 19)],.g 20 true [.faddr 21 4 (.t 1),.faddr 22 1 (.t 21),.ld 23 1 false (.t 22),.faddr 24 0 (.t 1),.faddr 25 0 (.t 24),.ld 26 1 false (.t 25),.len 27 (.t 26),.bin 28 .lss (.t 23) (.t 27)],.o [.pick 29 (.t 20) (.t 28) (cB false),.faddr 30 0 (.t 1),.ld 31 3 true (.t 30),.faddr 32 4 (.t 1),.faddr 33 1 (.t 32),.ld 34 1 false (.t 33)],.call none 35 143 [(.t 31),(.t 34)],.o [.asg 4 (.t 29),.asg 5 (.t 35)]]) zjm)
def y6t:Cd:=(.seq (.reg [8,9,10,11,12,13,14,15] [.o [.faddr 8 0 (.t 1),.faddr 9 2 (.t 8),.ld 10 1 false (.t 9),.faddr 11 3 (.t 1),.ld 12 1 false (.t 11),.iaddr 13 1 (.t 10) (.t 12),.ld 14 1 false (.t 13)],.call none 15 86 [(.t 14),(cI (-1))],.o [.asg 3 (.t 15)]]) y6s)
def z82:FI:=⟨150,1,[.t 2],(.seq (.reg [0,2] [.o [.box 1 (.t 0),.asg 2 (cI 0)]]) y6t)⟩
theorem yy9:z1v Try.prog 98 z82:=⟨_,_,Try.func98,rfl,by kernel_rfl,by kernel_rfl,Try.call98⟩
def ypf:Cd:=(.reg [6,34,35,36,37,38,39] [.o [.mov 34 (.t 6),.faddr 35 2 (.t 5),.ld 36 1 false (.t 35),.faddr 37 1 (.t 5),.ld 38 1 false (.t 37),.iaddr 39 1 (.t 34) (.t 36),.st 1 (.t 39) (.t 38)]])
def ypg:Cd:=(.seq (.reg [31,32,33] [.o [.mov 31 (.t 6)],.call none 32 134 [(.t 31),(cI (-1))],.o [.faddr 33 2 (.t 5),.st 1 (.t 33) (.t 32)]]) ypf)
def yph:Cd:=(.seq (.reg [26,27,28,29,30] [.o [.faddr 26 0 (.t 4),.ld 27 1 false (.t 26),.faddr 28 1 (.t 5),.ld 29 1 false (.t 28),.iaddr 30 1 (.t 27) (.t 29),.st 1 (.t 30) (cB true)]]) ypg)
def zwj:Cd:=(.seq (.reg [1,19,20,22,23,24,25] [.o [.faddr 22 0 (.t 4),.ld 23 1 false (.t 22)],.call none 24 147 [(.t 23),(cB false)],.o [.faddr 25 1 (.t 5),.st 1 (.t 25) (.t 24)]]) yph)
def ypi:Cd:=(.reg [6,49,50,51,52,53,54] [.o [.mov 49 (.t 6),.faddr 50 2 (.t 5),.ld 51 1 false (.t 50),.faddr 52 1 (.t 5),.ld 53 1 false (.t 52),.iaddr 54 1 (.t 49) (.t 51),.st 1 (.t 54) (.t 53)]])
def zwk:Cd:=(.seq (.draw [[],[0],[1],[],[3],[0,1,2],[5,2,4,0,1,2],[0,1,2,3,4,5,6],[7,4,6,0,1,2,3,4,5,6]] [1,19,40,42,43,44,45,46,47,48] [.o [.faddr 42 4 (.t 1),.faddr 43 1 (.t 42),.ld 44 1 false (.t 43),.mov 45 (.t 6)],.call none 46 134 [(.t 45),(cI (-1))],.o [.faddr 47 1 (.t 5),.st 1 (.t 47) (.t 44),.faddr 48 2 (.t 5),.st 1 (.t 48) (.t 46)]]) ypi)
def zwl:Cd:=(.draw [[],[0],[],[],[3],[4],[2,5],[6],[1,7],[8],[],[10],[11],[],[13],[14],[],[16],[17],[15,18],[9,12,19],[20],[0,1,2,3,4,5,6,7,8,9,10,11,12,13,14,15,16,17,18,19,20,21],[22,21,21,0,1,2,3,4,5,6,7,8,9,10,11,12,13,14,15,16,17,18,19,20,21]] [1,6,19,55,57,58,59,60,61,62,63,64,65,66,67,68,69,70,71,72,73,74,75,76,77,78,79] [.o [.faddr 57 1 (.t 4),.ld 58 1 false (.t 57),.mov 59 (.t 6),.faddr 60 4 (.t 1),.faddr 61 2 (.t 60),.ld 62 1 false (.t 61),.iaddr 63 1 (.t 59) (.t 62),.ld 64 1 false (.t 63),.iaddr 65 1 (.t 58) (.t 64),.ld 66 1 false (.t 65),.faddr 67 4 (.t 1),.faddr 68 3 (.t 67),.ld 69 1 false (.t 68),.faddr 70 4 (.t 1),.faddr 71 3 (.t 70),.ld 72 1 false (.t 71),.faddr 73 4 (.t 1),.faddr 74 4 (.t 73),.ld 75 1 false (.t 74),.bin 76 .add (.t 72) (.t 75),.slice 77 1 (.t 66) (some (.t 69)) (some (.t 76))],.call none 78 108 [(.t 77)],.o [.faddr 79 3 (.t 5),.st 1 (.t 79) (.t 78)]])
def zwm:Cd:=(.draw [[],[0],[],[],[3],[4],[2,5],[6],[1,7],[8],[],[10],[11],[9,12],[],[14],[15],[13,16]] [1,6,19,80,82,83,84,85,86,87,88,89,90,91,92,93,94,95,96,97,98,99] [.o [.faddr 82 1 (.t 4),.ld 83 1 false (.t 82),.mov 84 (.t 6),.faddr 85 4 (.t 1),.faddr 86 2 (.t 85),.ld 87 1 false (.t 86),.iaddr 88 1 (.t 84) (.t 87),.ld 89 1 false (.t 88),.iaddr 90 1 (.t 83) (.t 89),.ld 91 1 false (.t 90),.faddr 92 4 (.t 1),.faddr 93 3 (.t 92),.ld 94 1 false (.t 93),.slice 95 1 (.t 91) (some (.t 94)) none,.faddr 96 4 (.t 1),.faddr 97 5 (.t 96),.ld 98 1 false (.t 97),.cpy 99 1 (.t 95) (.t 98)]])
def zwn:Cd:=(.reg [1,6,19,100,102,103,104,105,106] [.o [.mov 102 (.t 6),.faddr 103 4 (.t 1),.faddr 104 2 (.t 103),.ld 105 1 false (.t 104),.iaddr 106 1 (.t 102) (.t 105),.st 1 (.t 106) (cI (-1))]])
def zwo:Cd:=(.draw [[],[0],[],[2],[3],[],[5],[],[7],[8],[],[1,4,0,1,2,3,4],[11,0,1,2,3,4],[6,9,0,1,2,3,4,5,6,7,8,9,10,11,12],[13,10,12,0,1,2,3,4,5,6,7,8,9,10,11,12]] [1,107,109,110,111,112,113,114,115,116,117,118,119,120,121] [.o [.faddr 109 0 (.t 4),.ld 110 1 false (.t 109),.faddr 111 4 (.t 1),.faddr 112 1 (.t 111),.ld 113 1 false (.t 112),.faddr 114 1 (.t 4),.ld 115 1 false (.t 114),.faddr 116 4 (.t 1),.faddr 117 1 (.t 116),.ld 118 1 false (.t 117),.make 119 1 1 [(.sc (.int .u8 0))] (cI 16) (cI 16),.iaddr 120 1 (.t 110) (.t 113),.st 1 (.t 120) (cB false),.iaddr 121 1 (.t 115) (.t 118),.st 1 (.t 121) (.t 119)]])
def y6u:Cd:=(.cond (.t 107) zwo .skip)
def y6v:Cd:=(.seq (.reg [6,19,100,108] [.o [.bin 108 .eql (.t 19) (cI 8),.asg 107 (.t 108)]]) y6u)
def y6w:Cd:=(.cond (.t 100) zwn y6v)
def y6x:Cd:=(.seq (.reg [80,101] [.o [.bin 101 .eql (.t 19) (cI 5),.asg 100 (.t 101)]]) y6w)
def y6y:Cd:=(.cond (.t 80) zwm y6x)
def y6z:Cd:=(.seq (.reg [55,81] [.o [.bin 81 .eql (.t 19) (cI 4),.asg 80 (.t 81)]]) y6y)
def y70:Cd:=(.cond (.t 55) zwl y6z)
def y71:Cd:=(.seq (.reg [40,56] [.o [.bin 56 .eql (.t 19) (cI 3),.asg 55 (.t 56)]]) y70)
def y72:Cd:=(.cond (.t 40) zwk y71)
def y73:Cd:=(.seq (.reg [20,41] [.o [.bin 41 .eql (.t 19) (cI 2),.asg 40 (.t 41)]]) y72)
def y74:Cd:=(.cond (.t 20) zwj y73)
def z83:Cd:=(.block 0 (.seq (.reg [21] [.o [.bin 21 .eql (.t 19) (cI 1),.asg 20 (.t 21)]]) y74))
def zu5:Cd:=(.seq (.draw [[],[],[0,0],[1,2,0,1,2]] [4,5,1,107,122,123] [.o [.ld 122 3 true (.t 4),.ld 123 4 true (.t 5),.st 3 (.t 2) (.t 122),.st 4 (.t 3) (.t 123)]]) .ret)
def y75:Cd:=(.seq (.seq (.reg [17,18] [.o [.faddr 17 4 (.t 1),.faddr 18 0 (.t 17),.ld 19 1 false (.t 18)]]) z83) zu5)
def y76:Cd:=(.seq (.reg [11,12,13,14,15,16] [.o [.faddr 11 2 (.t 4),.ld 12 1 false (.t 11),.faddr 13 3 (.t 1),.ld 14 1 false (.t 13),.iaddr 15 1 (.t 12) (.t 14),.ld 16 1 false (.t 15),.asg 6 (.t 16)]]) y75)
def y77:Cd:=(.seq (.reg [7,8,9,10] [.o [.faddr 7 0 (.t 1),.ld 8 3 true (.t 7)],.call none 9 146 [(.t 8)],.o [.build 10 [(.sc (.int .i64 0)),(.sc (.int .i64 0)),(.sc (.int .i64 0)),(.sc (.slice none 0 0))] [],.alloc 4 [(.sl true () 1 0 []),(.sl true () 1 0 []),(.sl true () 1 0 [])],.alloc 5 [(.sc (.int .i64 0)),(.sc (.int .i64 0)),(.sc (.int .i64 0)),(.sl true () 1 0 [])],.st 3 (.t 4) (.t 9),.st 4 (.t 5) (.t 10)]]) y76)
def za1:FI:=⟨124,1,[.cell 2 3 true,.cell 3 4 true],(.seq (.reg [0] [.o [.box 1 (.t 0),.alloc 2 [(.sl true () 1 0 []),(.sl true () 1 0 []),(.sl true () 1 0 [])],.alloc 3 [(.sc (.int .i64 0)),(.sc (.int .i64 0)),(.sc (.int .i64 0)),(.sl true () 1 0 [])]]]) y77)⟩
theorem yya:z1v Try.prog 99 za1:=⟨_,_,Try.func99,rfl,by kernel_rfl,by kernel_rfl,Try.call99⟩
def y78:Cd:=(.seq (.reg [0,1,5,6,7,8,9] [.o [.mov 5 (.t 0),.b2s 6 (.t 5),.mov 7 (.t 1),.b2s 8 (.t 7),.bin 9 .eql (.t 6) (.t 8),.asg 4 (.t 9)]]) .ret)
def y79:FI:=⟨10,2,[.t 4],(.seq (.reg [4] [.o [.asg 4 (cB false)]]) y78)⟩
theorem ypj:z1v Try.prog 102 y79:=⟨_,_,Try.func102,rfl,by kernel_rfl,by kernel_rfl,Try.call102⟩
def y7a:Cd:=(.seq (.reg [0,4] [.o [.asg 2 (.c (.sl true () 1 0 []))]]) .ret)
def y7b:Cd:=(.cond (.t 4) y7a .skip)
def y7c:Cd:=(.seq (.reg [0,4,5,6,7] [.o [.bs0 5 1,.mov 6 (.t 0),.app 7 1 1 (.t 5) (.t 6),.asg 2 (.t 7)]]) .ret)
def y7d:Cd:=(.seq (.seq (.reg [3] [.o [.mov 3 (.t 0)],.nilq 4 true (.t 3)]) y7b) y7c)
def zwp:FI:=⟨8,1,[.t 2],(.seq (.reg [2] [.o [.asg 2 (.c (.sl true () 1 0 []))]]) y7d)⟩
theorem ypk:z1v Try.prog 108 zwp:=⟨_,_,Try.func108,rfl,by kernel_rfl,by kernel_rfl,Try.call108⟩
def y7e:Cd:=(.seq (.reg [6,7,18,19,20,21] [.o [.mov 18 (.t 6),.conv 19 .u64 (.t 18),.mov 20 (.t 7),.conv 21 .u64 (.t 20),.asg 4 (.t 19),.asg 5 (.t 21)]]) .ret)
def y7f:Cd:=(.seq (.reg [0,1,11,12,13,14,15,10,16,17] [.o [.mov 11 (.t 0),.conv 12 .u32 (.t 11),.mov 13 (.t 1),.conv 14 .u32 (.t 13)],.call none 15 165 [(.t 12),(.t 14)],.o [.mov 10 (.t 15),.ext 16 10 0,.ext 17 10 1,.asg 6 (.t 16),.asg 7 (.t 17)]]) y7e)
def y7g:Cd:=(.seq (.reg [8,9,28,29] [.o [.mov 28 (.t 8),.mov 29 (.t 9),.asg 4 (.t 28),.asg 5 (.t 29)]]) .ret)
def y7h:Cd:=(.seq (.reg [0,1,23,24,25,22,26,27] [.o [.mov 23 (.t 0),.mov 24 (.t 1)],.call none 25 166 [(.t 23),(.t 24)],.o [.mov 22 (.t 25),.ext 26 22 0,.ext 27 22 1,.asg 8 (.t 26),.asg 9 (.t 27)]]) y7g)
def y7i:Cd:=(.seq (.cond (cB false) y7f .skip) y7h)
def y7j:FI:=⟨30,2,[.t 4,.t 5],(.seq (.reg [4,5] [.o [.asg 4 (.c (.sc (.int .u64 0))),.asg 5 (.c (.sc (.int .u64 0)))]]) y7i)⟩
theorem ypl:z1v Try.prog 140 y7j:=⟨_,_,Try.func140,rfl,by kernel_rfl,by kernel_rfl,Try.call140⟩
def y7k:Cd:=(.seq (.reg [0,1,5,6,7,8] [.o [.mov 5 (.t 0),.mov 6 (.t 1)],.call none 7 131 [(.t 5),(.t 6)],.o [.bin 8 .geq (.t 7) (cI 0),.asg 4 (.t 8)]]) .ret)
def y7l:FI:=⟨9,2,[.t 4],(.seq (.reg [4] [.o [.asg 4 (cB false)]]) y7k)⟩
theorem ypm:z1v Try.prog 141 y7l:=⟨_,_,Try.func141,rfl,by kernel_rfl,by kernel_rfl,Try.call141⟩
def y7m:Cd:=(.seq (.reg [0,1,4,5,6,7,8,9,10,11] [.o [.mov 4 (.t 0),.bin 5 .neq (.t 4) (cI (-1)),.mov 6 (.t 5)],.g 6 true [.ld 7 3 true (.t 1),.mov 8 (.t 0)],.call (some (6,true)) 9 143 [(.t 7),(.t 8)],.g 6 true [.un 10 .not (.t 9)],.o [.pick 11 (.t 6) (.t 10) (cB false),.asg 3 (.t 11)]]) .ret)
def zwq:FI:=⟨12,2,[.t 3],(.seq (.reg [3] [.o [.asg 3 (cB false)]]) y7m)⟩
theorem ypn:z1v Try.prog 142 zwq:=⟨_,_,Try.func142,rfl,by kernel_rfl,by kernel_rfl,Try.call142⟩
def y7n:Cd:=(.seq (.reg [1,2,5,6,7,8,9,10,11,12,13,14,15,16,17,18,19,20] [.o [.mov 5 (.t 1),.bin 6 .geq (.t 5) (cI 0),.mov 7 (.t 6)],.g 7 true [.mov 8 (.t 1),.faddr 9 0 (.t 2),.ld 10 1 false (.t 9),.len 11 (.t 10),.bin 12 .lss (.t 8) (.t 11)],.o [.pick 13 (.t 7) (.t 12) (cB false),.mov 14 (.t 13)],.g 14 true [.faddr 15 0 (.t 2),.ld 16 1 false (.t 15),.mov 17 (.t 1),.iaddr 18 1 (.t 16) (.t 17),.ld 19 1 false (.t 18)],.o [.pick 20 (.t 14) (.t 19) (cB false),.asg 4 (.t 20)]]) .ret)
def zsb:FI:=⟨21,2,[.t 4],(.seq (.reg [0,4] [.o [.box 2 (.t 0),.asg 4 (cB false)]]) y7n)⟩
theorem ypo:z1v Try.prog 143 zsb:=⟨_,_,Try.func143,rfl,by kernel_rfl,by kernel_rfl,Try.call143⟩
def y7o:Cd:=(.seq (.reg [0,1,5,6,7,8] [.o [.mov 5 (.t 0),.mov 6 (.t 1)],.call none 7 147 [(.t 5),(.t 6)],.o [.bin 8 .geq (.t 7) (cI 0),.asg 4 (.t 8)]]) .ret)
def y7p:FI:=⟨9,2,[.t 4],(.seq (.reg [4] [.o [.asg 4 (cB false)]]) y7o)⟩
theorem ypp:z1v Try.prog 144 y7p:=⟨_,_,Try.func144,rfl,by kernel_rfl,by kernel_rfl,Try.call144⟩
def y7q:Cd:=(.seq (.reg [1,2,11] [.o [.asg 4 (cI 0)]]) .ret)
def y7r:Cd:=(.cond (.t 11) y7q .skip)
def y7s:Cd:=(.cond (.t 27) (.exit 3) .skip)
def y7t:Cd:=(.reg [27,28,29] [.o [.mov 28 (.t 5),.bin 29 .add (.t 28) (cI 1),.asg 5 (.t 29)]])
def y7u:Cd:=(.seq (.seq (.reg [9,25,26] [.o [.mov 25 (.t 9),.mov 26 (.t 1),.bin 27 .neq (.t 25) (.t 26)]]) y7s) y7t)
def y7v:Cd:=(.reg [30] [.o [.bin 30 .add (.t 21) (cI 1),.mov 21 (.t 30)]])
def y7w:Cd:=(.seq (.block 3 (.seq (.reg [22,23,24] [.o [.iaddr 23 1 (.t 19) (.t 21),.ld 24 1 false (.t 23),.asg 9 (.t 24)]]) y7u)) y7v)
def y7x:Cd:=(.seq (.cond (.t 22) .skip (.exit 2)) y7w)
def y7y:Cd:=(.seq (.reg [] [.o [.bin 22 .lss (.t 21) (.t 20)]]) y7x)
def y7z:Cd:=(.block 2 (.loop y7y))
def zwr:Cd:=(.seq (.reg [7] [.o [.mov 19 (.t 7),.len 20 (.t 19),.mov 21 (cI 0)]]) y7z)
def zws:Cd:=(.scope (.seq (.label 0) zwr))
def zwt:Cd:=(.reg [19,20,21,22,31] [.o [.bin 31 .add (.t 15) (cI 1),.mov 15 (.t 31)]])
def zwu:Cd:=(.seq (.block 1 (.seq (.reg [16,17,18] [.o [.iaddr 17 1 (.t 13) (.t 15),.ld 18 1 false (.t 17),.asg 7 (.t 18)]]) zws)) zwt)
def zwv:Cd:=(.seq (.cond (.t 16) .skip (.exit 0)) zwu)
def zww:Cd:=(.seq (.reg [] [.o [.bin 16 .lss (.t 15) (.t 14)]]) zwv)
def zwx:Cd:=(.block 0 (.loop zww))
def zwy:Cd:=(.seq (.reg [1,5,13,14,15,16,32] [.o [.mov 32 (.t 5),.asg 4 (.t 32)]]) .ret)
def zwz:Cd:=(.seq (.seq (.reg [2,12] [.o [.faddr 12 2 (.t 2),.ld 13 1 false (.t 12),.len 14 (.t 13),.mov 15 (cI 0)]]) zwx) zwy)
def zx0:Cd:=(.seq (.reg [11] [.o [.asg 5 (cI 0)]]) zwz)
def zx1:Cd:=(.seq (.seq (.reg [10] [.o [.mov 10 (.t 1),.bin 11 .lss (.t 10) (cI 0)]]) y7r) zx0)
def zx2:FI:=⟨33,2,[.t 4],(.seq (.reg [0,4] [.o [.box 2 (.t 0),.asg 4 (cI 0)]]) zx1)⟩
theorem ypq:z1v Try.prog 145 zx2:=⟨_,_,Try.func145,rfl,by kernel_rfl,by kernel_rfl,Try.call145⟩
def y80:Cd:=(.draw [[],[0],[],[2],[3],[1,4,3],[0,1,2,3,4,5],[6,5,5,0,1,2,3,4,5]] [5,19,20,21,22,23,24,25] [.o [.faddr 19 1 (.t 3),.ld 20 1 false (.t 19),.mov 21 (.t 5)],.call none 22 108 [(.t 21)],.o [.bs1 23 1 (.t 22),.app 24 1 24 (.t 20) (.t 23),.faddr 25 1 (.t 3),.st 1 (.t 25) (.t 24)]])
def y81:Cd:=(.reg [26] [.o [.bin 26 .add (.t 15) (cI 1),.mov 15 (.t 26)]])
def y82:Cd:=(.seq (.block 1 (.seq (.reg [16,17,18] [.o [.iaddr 17 1 (.t 13) (.t 15),.ld 18 1 false (.t 17),.asg 5 (.t 18)]]) y80)) y81)
def y83:Cd:=(.seq (.cond (.t 16) .skip (.exit 0)) y82)
def y84:Cd:=(.seq (.reg [] [.o [.bin 16 .lss (.t 15) (.t 14)]]) y83)
def y85:Cd:=(.block 0 (.loop y84))
def y86:Cd:=(.draw [[],[0],[],[2],[3],[1,4,3],[0,1,2,3,4,5],[6,5,5,0,1,2,3,4,5]] [7,34,35,36,37,38,39,40] [.o [.faddr 34 2 (.t 3),.ld 35 1 false (.t 34),.mov 36 (.t 7)],.call none 37 130 [(.t 36)],.o [.bs1 38 1 (.t 37),.app 39 1 24 (.t 35) (.t 38),.faddr 40 2 (.t 3),.st 1 (.t 40) (.t 39)]])
def y87:Cd:=(.reg [41] [.o [.bin 41 .add (.t 30) (cI 1),.mov 30 (.t 41)]])
def y88:Cd:=(.seq (.block 3 (.seq (.reg [31,32,33] [.o [.iaddr 32 1 (.t 28) (.t 30),.ld 33 1 false (.t 32),.asg 7 (.t 33)]]) y86)) y87)
def y89:Cd:=(.seq (.cond (.t 31) .skip (.exit 2)) y88)
def zx3:Cd:=(.seq (.reg [] [.o [.bin 31 .lss (.t 30) (.t 29)]]) y89)
def zx4:Cd:=(.block 2 (.loop zx3))
def zx5:Cd:=(.seq (.reg [3,28,29,30,31,42] [.o [.ld 42 3 true (.t 3),.st 3 (.t 2) (.t 42)]]) .ret)
def zx6:Cd:=(.seq (.seq (.reg [1,13,14,15,16,27] [.o [.faddr 27 2 (.t 1),.ld 28 1 false (.t 27),.len 29 (.t 28),.mov 30 (cI 0)]]) zx4) zx5)
def zx7:Cd:=(.seq (.seq (.reg [12] [.o [.faddr 12 1 (.t 1),.ld 13 1 false (.t 12),.len 14 (.t 13),.mov 15 (cI 0)]]) y85) zx6)
def zx8:Cd:=(.seq (.reg [8,9,10,11] [.o [.faddr 8 0 (.t 1),.ld 9 1 false (.t 8)],.call none 10 167 [(.t 9)],.o [.build 11 [(.sc (.slice none 0 0)),(.sc (.slice none 0 0)),(.sc (.slice none 0 0))] [(0,1,(.t 10))],.alloc 3 [(.sl true () 1 0 []),(.sl true () 1 0 []),(.sl true () 1 0 [])],.st 3 (.t 3) (.t 11)]]) zx7)
def y8a:FI:=⟨43,1,[.cell 2 3 true],(.seq (.reg [0] [.o [.box 1 (.t 0),.alloc 2 [(.sl true () 1 0 []),(.sl true () 1 0 []),(.sl true () 1 0 [])]]]) zx8)⟩
theorem ypr:z1v Try.prog 146 y8a:=⟨_,_,Try.func146,rfl,by kernel_rfl,by kernel_rfl,Try.call146⟩
def y8b:Cd:=(.seq (.reg [0,1,7,8,5,16,17] [.o [.mov 17 (.t 5),.asg 4 (.t 17)]]) .ret)
def y8c:Cd:=(.cond (.t 16) y8b .skip)
def y8d:Cd:=(.seq (.reg [11,12,13,14,15] [.o [.mov 11 (.t 1),.mov 12 (.t 0),.mov 13 (.t 5),.iaddr 14 1 (.t 12) (.t 13),.ld 15 1 false (.t 14),.beq 16 true (.t 11) (.t 15)]]) y8c)
def y8e:Cd:=(.reg [5,16,18] [.o [.bin 18 .add (.t 8) (cI 1),.mov 8 (.t 18)]])
def y8f:Cd:=(.seq (.block 1 (.seq (.reg [9,10] [.o [.mov 10 (.t 8),.asg 5 (.t 10)]]) y8d)) y8e)
def y8g:Cd:=(.seq (.cond (.t 9) .skip (.exit 0)) y8f)
def y8h:Cd:=(.seq (.reg [] [.o [.bin 9 .lss (.t 8) (.t 7)]]) y8g)
def y8i:Cd:=(.block 0 (.loop y8h))
def y8j:Cd:=(.seq (.reg [0,1,7,8,9] [.o [.asg 4 (cI (-1))]]) .ret)
def y8k:Cd:=(.seq (.seq (.reg [6] [.o [.mov 6 (.t 0),.len 7 (.t 6),.mov 8 (cI 0)]]) y8i) y8j)
def zx9:FI:=⟨19,2,[.t 4],(.seq (.reg [4] [.o [.asg 4 (cI 0)]]) y8k)⟩
theorem yps:z1v Try.prog 147 zx9:=⟨_,_,Try.func147,rfl,by kernel_rfl,by kernel_rfl,Try.call147⟩
def ypt:Cd:=(.seq (.reg [0,1,5,6,7,8] [.o [.mov 5 (.t 0),.mov 6 (.t 1)],.call none 7 134 [(.t 5),(.t 6)],.o [.bin 8 .geq (.t 7) (cI 0),.asg 4 (.t 8)]]) .ret)
def yxh:FI:=⟨9,2,[.t 4],(.seq (.reg [4] [.o [.asg 4 (cB false)]]) ypt)⟩
theorem yyb:z1v Try.prog 86 yxh:=⟨_,_,Try.func86,rfl,by kernel_rfl,by kernel_rfl,Try.call86⟩
def y8l:Cd:=(.seq (.reg [0,4] [.o [.asg 2 (.c (.sl true () 1 0 []))]]) .ret)
def y8m:Cd:=(.cond (.t 4) y8l .skip)
def y8n:Cd:=(.seq (.reg [0,4,5,6,7] [.o [.bs0 5 1,.mov 6 (.t 0),.app 7 1 8 (.t 5) (.t 6),.asg 2 (.t 7)]]) .ret)
def y8o:Cd:=(.seq (.seq (.reg [3] [.o [.mov 3 (.t 0)],.nilq 4 true (.t 3)]) y8m) y8n)
def zxa:FI:=⟨8,1,[.t 2],(.seq (.reg [2] [.o [.asg 2 (.c (.sl true () 1 0 []))]]) y8o)⟩
theorem ypu:z1v Try.prog 130 zxa:=⟨_,_,Try.func130,rfl,by kernel_rfl,by kernel_rfl,Try.call130⟩
def y8p:Cd:=(.seq (.reg [0,1,7,8,5,16,17] [.o [.mov 17 (.t 5),.asg 4 (.t 17)]]) .ret)
def y8q:Cd:=(.cond (.t 16) y8p .skip)
def y8r:Cd:=(.seq (.reg [11,12,13,14,15] [.o [.mov 11 (.t 1),.mov 12 (.t 0),.mov 13 (.t 5),.iaddr 14 1 (.t 12) (.t 13),.ld 15 1 false (.t 14)],.clo none 16 11 [(.t 15)]]) y8q)
def y8s:Cd:=(.reg [5,16,18] [.o [.bin 18 .add (.t 8) (cI 1),.mov 8 (.t 18)]])
def y8t:Cd:=(.seq (.block 1 (.seq (.reg [9,10] [.o [.mov 10 (.t 8),.asg 5 (.t 10)]]) y8r)) y8s)
def y8u:Cd:=(.seq (.cond (.t 9) .skip (.exit 0)) y8t)
def y8v:Cd:=(.seq (.reg [] [.o [.bin 9 .lss (.t 8) (.t 7)]]) y8u)
def y8w:Cd:=(.block 0 (.loop y8v))
def y8x:Cd:=(.seq (.reg [0,1,7,8,9] [.o [.asg 4 (cI (-1))]]) .ret)
def y8y:Cd:=(.seq (.seq (.reg [6] [.o [.mov 6 (.t 0),.len 7 (.t 6),.mov 8 (cI 0)]]) y8w) y8x)
def zxb:FI:=⟨19,2,[.t 4],(.seq (.reg [4] [.o [.asg 4 (cI 0)]]) y8y)⟩
theorem ypv:z1v Try.prog 131 zxb:=⟨_,_,Try.func131,rfl,by kernel_rfl,by kernel_rfl,Try.call131⟩
def y8z:Cd:=(.seq (.reg [0,1,7,8,5,16,17] [.o [.mov 17 (.t 5),.asg 4 (.t 17)]]) .ret)
def y90:Cd:=(.cond (.t 16) y8z .skip)
def y91:Cd:=(.seq (.reg [11,12,13,14,15] [.o [.mov 11 (.t 1),.mov 12 (.t 0),.mov 13 (.t 5),.iaddr 14 1 (.t 12) (.t 13),.ld 15 1 false (.t 14),.bin 16 .eql (.t 11) (.t 15)]]) y90)
def y92:Cd:=(.reg [5,16,18] [.o [.bin 18 .add (.t 8) (cI 1),.mov 8 (.t 18)]])
def y93:Cd:=(.seq (.block 1 (.seq (.reg [9,10] [.o [.mov 10 (.t 8),.asg 5 (.t 10)]]) y91)) y92)
def y94:Cd:=(.seq (.cond (.t 9) .skip (.exit 0)) y93)
def y95:Cd:=(.seq (.reg [] [.o [.bin 9 .lss (.t 8) (.t 7)]]) y94)
def y96:Cd:=(.block 0 (.loop y95))
def y97:Cd:=(.seq (.reg [0,1,7,8,9] [.o [.asg 4 (cI (-1))]]) .ret)
def y98:Cd:=(.seq (.seq (.reg [6] [.o [.mov 6 (.t 0),.len 7 (.t 6),.mov 8 (cI 0)]]) y96) y97)
def zxc:FI:=⟨19,2,[.t 4],(.seq (.reg [4] [.o [.asg 4 (cI 0)]]) y98)⟩
theorem ypw:z1v Try.prog 134 zxc:=⟨_,_,Try.func134,rfl,by kernel_rfl,by kernel_rfl,Try.call134⟩
def y99:Cd:=(.seq (.reg [2,3,5,6,7,8,9,10,11,12,13,14,15,16,17,18,19,20,21,22,23,24,25,26,27,28,29,30] [.o [.faddr 5 0 (.t 2),.ld 6 1 false (.t 5),.faddr 7 0 (.t 3),.ld 8 1 false (.t 7),.bin 9 .eql (.t 6) (.t 8),.mov 10 (.t 9)],.g 10 true [.faddr 11 1 (.t 2),.ld 12 1 false (.t 11),.faddr 13 1 (.t 3),.ld 14 1 false (.t 13),.bin 15 .eql (.t 12) (.t 14)],.o [.pick 16 (.t 10) (.t 15) (cB false),.mov 17 (.t 16)],.g 17 true [.faddr 18 2 (.t 2),.ld 19 1 false (.t 18),.faddr 20 2 (.t 3),.ld 21 1 false (.t 20),.bin 22 .eql (.t 19) (.t 21)],.o [.pick 23 (.t 17) (.t 22) (cB false),.mov 24 (.t 23)],.g 24 true [.faddr 25 3 (.t 2),.ld 26 1 false (.t 25),.faddr 27 3 (.t 3),.ld 28 1 false (.t 27)],.call (some (24,true)) 29 102 [(.t 26),(.t 28)],.o [.pick 30 (.t 24) (.t 29) (cB false),.asg 4 (.t 30)]]) .ret)
def zoa:FI:=⟨31,2,[.t 4],(.seq (.reg [0,1,4] [.o [.box 2 (.t 0),.box 3 (.t 1),.asg 4 (cB false)]]) y99)⟩
theorem ypx:z1v Try.prog 136 zoa:=⟨_,_,Try.func136,rfl,by kernel_rfl,by kernel_rfl,Try.call136⟩
def y9a:Cd:=(.seq (.reg [0,1,48,49,50] [.o [.mov 48 (.t 0),.mov 49 (.t 1),.bin 50 .mul (.t 48) (.t 49),.asg 5 (.t 50)]]) .ret)
def y9b:Cd:=(.seq (.reg [7,9,12,13,40,41,42,43,44,45,46,47] [.o [.mov 40 (.t 7),.mov 41 (.t 9),.bin 42 .mul (.t 40) (.t 41),.mov 43 (.t 13),.bin 44 .add (.t 42) (.t 43),.mov 45 (.t 12),.bin 46 .shr (.t 45) (.c (.sc (.int .u64 32))),.bin 47 .add (.t 44) (.t 46),.asg 4 (.t 47)]]) y9a)
def y9c:Cd:=(.seq (.reg [6,35,36,37,38,39] [.o [.mov 35 (.t 12),.mov 36 (.t 6),.mov 37 (.t 9),.bin 38 .mul (.t 36) (.t 37),.bin 39 .add (.t 35) (.t 38),.asg 12 (.t 39)]]) y9b)
def y9d:Cd:=(.seq (.reg [11,33,34] [.o [.mov 33 (.t 11),.bin 34 .shr (.t 33) (.c (.sc (.int .u64 32))),.asg 13 (.t 34)]]) y9c)
def y9e:Cd:=(.seq (.reg [31,32] [.o [.mov 31 (.t 11),.bin 32 .and (.t 31) (.c (.sc (.int .u64 4294967295))),.asg 12 (.t 32)]]) y9d)
def y9f:Cd:=(.seq (.reg [8,10,25,26,27,28,29,30] [.o [.mov 25 (.t 7),.mov 26 (.t 8),.bin 27 .mul (.t 25) (.t 26),.mov 28 (.t 10),.bin 29 .shr (.t 28) (.c (.sc (.int .u64 32))),.bin 30 .add (.t 27) (.t 29),.asg 11 (.t 30)]]) y9e)
def y9g:Cd:=(.seq (.reg [22,23,24] [.o [.mov 22 (.t 6),.mov 23 (.t 8),.bin 24 .mul (.t 22) (.t 23),.asg 10 (.t 24)]]) y9f)
def y9h:Cd:=(.seq (.reg [20,21] [.o [.mov 20 (.t 1),.bin 21 .shr (.t 20) (.c (.sc (.int .u64 32))),.asg 9 (.t 21)]]) y9g)
def y9i:Cd:=(.seq (.reg [18,19] [.o [.mov 18 (.t 1),.bin 19 .and (.t 18) (.c (.sc (.int .u64 4294967295))),.asg 8 (.t 19)]]) y9h)
def y9j:Cd:=(.seq (.reg [16,17] [.o [.mov 16 (.t 0),.bin 17 .shr (.t 16) (.c (.sc (.int .u64 32))),.asg 7 (.t 17)]]) y9i)
def zxd:Cd:=(.seq (.reg [14,15] [.o [.mov 14 (.t 0),.bin 15 .and (.t 14) (.c (.sc (.int .u64 4294967295))),.asg 6 (.t 15)]]) y9j)
def y9k:FI:=⟨51,2,[.t 4,.t 5],(.seq (.reg [4,5] [.o [.asg 4 (.c (.sc (.int .u64 0))),.asg 5 (.c (.sc (.int .u64 0)))]]) zxd)⟩
theorem ypy:z1v Try.prog 166 y9k:=⟨_,_,Try.func166,rfl,by kernel_rfl,by kernel_rfl,Try.call166⟩
def y9l:Cd:=(.seq (.reg [0,4] [.o [.asg 2 (.c (.sl true () 1 0 []))]]) .ret)
def y9m:Cd:=(.cond (.t 4) y9l .skip)
def y9n:Cd:=(.seq (.reg [0,4,5,6,7] [.o [.bs0 5 1,.mov 6 (.t 0),.app 7 1 1 (.t 5) (.t 6),.asg 2 (.t 7)]]) .ret)
def y9o:Cd:=(.seq (.seq (.reg [3] [.o [.mov 3 (.t 0)],.nilq 4 true (.t 3)]) y9m) y9n)
def zxe:FI:=⟨8,1,[.t 2],(.seq (.reg [2] [.o [.asg 2 (.c (.sl true () 1 0 []))]]) y9o)⟩
theorem ypz:z1v Try.prog 167 zxe:=⟨_,_,Try.func167,rfl,by kernel_rfl,by kernel_rfl,Try.call167⟩
end Go.OT
namespace Go.OT
open Go.Proofs
abbrev sB (o:Bool)(l:List Bool):AU:=.sl o () 1 l.length (l.map bl)
abbrev sI (o:Bool)(l:List Int):AU:=.sl o () 1 l.length (l.map i64)
abbrev sU (o:Bool)(l:List UInt8):AU:=.sl o () 1 l.length (l.map fun b=>u8 (b.toNat:Int))
def z0c (n:Nat):Prop:=n≤1000000000
theorem z01 {x:Int}(h:-9223372036854775808≤x)(h':x < 9223372036854775808):IntKind.wrap .i64 x=x:=IntWalk.i64_in x ⟨h,by omega⟩
theorem z0n {i n:Nat}(h:z0c n)(hi:i < n):IntKind.wrap .i64 ((i:Int)+1)=((i+1:Nat):Int):=by
 unfold z0c at h
 rw[z01 (by omega) (by omega)];simp
def ixF {α:Type}(p:α→Bool):List α→Nat→Int
 | [],_=>-1
 | x :: l,i=>if p x=true then (i:Int) else ixF p l (i+1)
theorem z6h {α:Type}(p:α→Bool)(l:List α)(i:Nat)(h:i < l.length):ixF p (l.drop i) i=if p l[i]=true then (i:Int) else ixF p (l.drop (i+1)) (i+1):=by
 rw[List.drop_eq_getElem_cons h];rfl
theorem zbd {α:Type}(p:α→Bool)(l:List α)(i:Nat)(h:¬ i < l.length):ixF p (l.drop i) i=-1:=by
 rw[List.drop_of_length_le (by omega)];rfl
set_option maxHeartbeats 4000000 in
theorem zbe (l:List Int)(v:Int)(hl:z0c l.length):FnC Try.prog 134 [] [sI false l,i64 v] [] (i64 (ixF (· == v) l 0)):=by
 refine FnC.go ypw rfl ?_
 refine WL.sreg (by simp;rfl) (by simp;rfl) ?_
 refine WL.seq (WL.sreg (by simp;rfl) (by simp;rfl) ?_)
 refine WL.block (WL.count l.length (fun i=>[(0,0,sI false l),(100,0,i64 v),(700,0,i64 l.length),(800,0,i64 i)]) (fun i=>ixF (· == v) (l.drop i) i=ixF (· == v) l 0) rfl rfl fun i hi hinv=>?_)
 by_cases h:i < l.length
 ·refine WL.sreg (by simp[h];rfl) (by simp;rfl) ?_
  refine WL.seq (WL.cond (t:=true) (by simp) (fun _=>WL.skip ?_) (by simp))
  refine WL.seq (WL.block (WL.sreg (by simp;rfl) (by simp;rfl) ?_))
  refine WL.sreg (by simp[h];rfl) (by simp;rfl) ?_
  rw[z6h _ _ _ h] at hinv
  refine WL.cond (t:=v == l[i]) (by simp) (fun hv=>?_) (fun hv=>?_)
  ·have hv':l[i]=v:=by simp at hv;exact hv.symm
   rw[if_pos (by simp[hv'])] at hinv
   refine WL.sreg (by simp;rfl) (by simp;rfl) (WL.ret ⟨.inr rfl,?_⟩)
   simp[zxc,hinv]
  ·have hv':¬ l[i]=v:=fun e=>by simp[e] at hv
   refine WL.skip ?_
   refine WL.reg (RL.run (by simp[z0n hl h];rfl) ⟨_,by simp;rfl,?_⟩)
   refine⟨h,by simp,?_⟩
   rw[← hinv];simp[hv']
 ·refine WL.sreg (by simp[h];rfl) (by simp;rfl) ?_
  refine WL.seq (WL.cond (t:=false) (by simp) (by simp) (fun _=>WL.exit ?_))
  simp
  refine WL.sreg (by simp;rfl) (by simp;rfl) (WL.ret ⟨.inr rfl,?_⟩)
  rw[zbd _ _ _ h] at hinv
  simp[zxc,← hinv]
set_option maxHeartbeats 4000000 in
theorem zcv (l:List Bool)(v:Bool)(hl:z0c l.length):FnC Try.prog 147 [] [sB false l,bl v] [] (i64 (ixF (· == v) l 0)):=by
 refine FnC.go yps rfl ?_
 refine WL.sreg (by simp;rfl) (by simp;rfl) ?_
 refine WL.seq (WL.sreg (by simp;rfl) (by simp;rfl) ?_)
 refine WL.block (WL.count l.length (fun i=>[(0,0,sB false l),(100,0,bl v),(700,0,i64 l.length),(800,0,i64 i)]) (fun i=>ixF (· == v) (l.drop i) i=ixF (· == v) l 0) rfl rfl fun i hi hinv=>?_)
 by_cases h:i < l.length
 ·refine WL.sreg (by simp[h];rfl) (by simp;rfl) ?_
  refine WL.seq (WL.cond (t:=true) (by simp) (fun _=>WL.skip ?_) (by simp))
  refine WL.seq (WL.block (WL.sreg (by simp;rfl) (by simp;rfl) ?_))
  refine WL.sreg (by simp[h];rfl) (by simp;rfl) ?_
  rw[z6h _ _ _ h] at hinv
  refine WL.cond (t:=v == l[i]) (by simp) (fun hv=>?_) (fun hv=>?_)
  ·have hv':l[i]=v:=by simp at hv;exact hv.symm
   rw[if_pos (by simp[hv'])] at hinv
   refine WL.sreg (by simp;rfl) (by simp;rfl) (WL.ret ⟨.inr rfl,?_⟩)
   simp[zx9,hinv]
  ·have hv':¬ l[i]=v:=fun e=>by simp[e] at hv
   refine WL.skip ?_
   refine WL.reg (RL.run (by simp[z0n hl h];rfl) ⟨_,by simp;rfl,?_⟩)
   refine⟨h,by simp,?_⟩
   rw[← hinv];simp[hv']
 ·refine WL.sreg (by simp[h];rfl) (by simp;rfl) ?_
  refine WL.seq (WL.cond (t:=false) (by simp) (by simp) (fun _=>WL.exit ?_))
  simp
  refine WL.sreg (by simp;rfl) (by simp;rfl) (WL.ret ⟨.inr rfl,?_⟩)
  rw[zbd _ _ _ h] at hinv
  simp[zx9,← hinv]
theorem zcw {α:Type}(p:α→Bool):∀ (l:List α) (i:Nat),(0≤ixF p l i) ↔ l.any p=true
 | [],i=>by simp[ixF]
 | x :: l,i=>by
  simp only[ixF,List.any_cons]
  split
  ·rename_i h;simp[h]
  ·rename_i h;simp[h,zcw p l (i+1)]
set_option maxHeartbeats 4000000 in
theorem zfz (l:List Int)(v:Int)(hl:z0c l.length):FnC Try.prog 86 [] [sI false l,i64 v] [] (bl (l.any (· == v))):=by
 refine FnC.go yyb rfl ?_
 refine WL.sreg (by simp;rfl) (by simp;rfl) ?_
 refine WL.sregC (RL.o (by simp;rfl) (RL.call0 false (zbe l v hl) (by simp) (by simp) (RL.o (by simp;rfl) (RL.nil ⟨_,by simp;rfl,WL.ret ⟨.inr rfl,?_⟩⟩))))
 simp only[yxh,RetOk]
 refine⟨_,by simp;rfl,?_,by simp⟩
 simp
 rw[Bool.eq_iff_iff]
 simp[← zcw (· == v) l 0]
set_option maxHeartbeats 4000000 in
theorem zdx (l:List Bool)(v:Bool)(hl:z0c l.length):FnC Try.prog 144 [] [sB false l,bl v] [] (bl (l.any (· == v))):=by
 refine FnC.go ypp rfl ?_
 refine WL.sreg (by simp;rfl) (by simp;rfl) ?_
 refine WL.sregC (RL.o (by simp;rfl) (RL.call0 false (zcv l v hl) (by simp) (by simp) (RL.o (by simp;rfl) (RL.nil ⟨_,by simp;rfl,WL.ret ⟨.inr rfl,?_⟩⟩))))
 simp only[y7p,RetOk]
 refine⟨_,by simp;rfl,?_,by simp⟩
 simp
 rw[Bool.eq_iff_iff]
 simp[← zcw (· == v) l 0]
theorem z0t:Try.prog.follows .mixedOrders=true:=by kernel_rfl
end Go.OT
namespace Go.OT
open Go.Proofs
@[simp] theorem zu6 {α β:Type} (f:α→β) (l:List α):List.take l.length (l.map f)=l.map f:=List.take_of_length_le (by simp)
theorem zg0:∀ l:List UInt8,u8L (l.map fun b=>u8 (b.toNat:Int))=some (l.map fun b=>(b.toNat:Int))
 | []=>rfl
 | b :: l=>by simp[u8L,zg0 l]
theorem zu7:∀ (l:List UInt8) (r:ByteArray),(((l.map fun b=>(b.toNat:Int)).foldl (fun r n=>r.push (UInt8.ofNat n.toNat)) r).data.toList=r.data.toList ++ l)
 | [],r=>by simp
 | b :: l,r=>by
  simp only[List.map_cons,List.foldl_cons]
  rw[zu7 l]
  simp[ByteArray.push]
def z3g (l:List UInt8):ByteArray:=⟨l.toArray⟩
theorem zg1 (l:List UInt8):b2s (l.map fun b=>(b.toNat:Int))=z3g l:=by
 have h:=zu7 l ByteArray.empty
 have:(b2s (l.map fun b=>(b.toNat:Int))).data.toList=l:=by
  unfold b2s
  rw[h];rfl
 unfold z3g
 cases hb:b2s (l.map fun b=>(b.toNat:Int)) with
 | mk d =>
  rw[hb] at this
  simp only at this
  congr 1
  rw[← this]
attribute [simp] zg0 zg1
theorem z4r (l:List UInt8):(z3g l).toList=l:=by
 rw[Lib.toList_data];rfl
set_option maxHeartbeats 4000000 in
theorem z3h (a b:List UInt8):FnC Try.prog 102 [] [sU false a,sU false b] [] (bl (a == b)):=by
 refine FnC.go ypj rfl ?_
 refine WL.sreg (by simp;rfl) (by simp;rfl) ?_
 refine WL.sreg (by simp;rfl) (by simp;rfl) (WL.ret ⟨.inr rfl,?_⟩)
 simp[y79,z4r]
set_option maxHeartbeats 4000000 in
theorem z5i (l:List UInt8)(hl:z0c l.length):FnC Try.prog 108 [] [sU false l] [] (sU true l):=by
 unfold z0c at hl
 refine FnC.go ypk rfl ?_
 refine WL.sreg (by simp;rfl) (by simp;rfl) ?_
 refine WL.seq (WL.sregC (RL.o (by simp;rfl) (RL.nilq (n:=l.length) (by simp) fun b hb=>RL.nil ⟨_,by simp;rfl,?_⟩)))
 cases b with
 | true =>
  have h0:l=[]:=by
   cases l with
   | nil=>rfl
   | cons x l=>have:=hb (by simp);cases this
  subst h0
  refine WL.cond (t:=true) (by simp) (fun _=>?_) (by simp)
  refine WL.sreg (by simp;rfl) (by simp;rfl) (WL.ret ⟨.inr rfl,?_⟩)
  simp[zwp]
 | false =>
  refine WL.cond (t:=false) (by simp) (by simp) (fun _=>WL.skip ?_)
  have h1:l.length * 8≤140737488355328:=by omega
  have h2:l.length≤140737488355328:=by omega
  have h3:l.length≤maxLen:=by unfold maxLen;omega
  have h4:∀ x ∈ l,True:=fun _ _=>trivial
  refine WL.sreg (by simp[h1,h2,h3];rfl) (by simp;rfl) (WL.ret ⟨.inr rfl,?_⟩)
  simp[zwp]
set_option maxHeartbeats 4000000 in
theorem zl2 (l:List Bool)(hl:z0c l.length):FnC Try.prog 167 [] [sB false l] [] (sB true l):=by
 unfold z0c at hl
 refine FnC.go ypz rfl ?_
 refine WL.sreg (by simp;rfl) (by simp;rfl) ?_
 refine WL.seq (WL.sregC (RL.o (by simp;rfl) (RL.nilq (n:=l.length) (by simp) fun b hb=>RL.nil ⟨_,by simp;rfl,?_⟩)))
 cases b with
 | true =>
  have h0:l=[]:=by
   cases l with
   | nil=>rfl
   | cons x l=>have:=hb (by simp);cases this
  subst h0
  refine WL.cond (t:=true) (by simp) (fun _=>?_) (by simp)
  refine WL.sreg (by simp;rfl) (by simp;rfl) (WL.ret ⟨.inr rfl,?_⟩)
  simp[zxe]
 | false =>
  refine WL.cond (t:=false) (by simp) (by simp) (fun _=>WL.skip ?_)
  have h1:l.length * 8≤140737488355328:=by omega
  have h2:l.length≤140737488355328:=by omega
  have h3:l.length≤maxLen:=by unfold maxLen;omega
  have h4:∀ x ∈ l,True:=fun _ _=>trivial
  refine WL.sreg (by simp[h1,h2,h3];rfl) (by simp;rfl) (WL.ret ⟨.inr rfl,?_⟩)
  simp[zxe]
set_option maxHeartbeats 4000000 in
theorem zob (l:List Int)(hl:z0c l.length):FnC Try.prog 130 [] [sI false l] [] (sI true l):=by
 unfold z0c at hl
 refine FnC.go ypu rfl ?_
 refine WL.sreg (by simp;rfl) (by simp;rfl) ?_
 refine WL.seq (WL.sregC (RL.o (by simp;rfl) (RL.nilq (n:=l.length) (by simp) fun b hb=>RL.nil ⟨_,by simp;rfl,?_⟩)))
 cases b with
 | true =>
  have h0:l=[]:=by
   cases l with
   | nil=>rfl
   | cons x l=>have:=hb (by simp);cases this
  subst h0
  refine WL.cond (t:=true) (by simp) (fun _=>?_) (by simp)
  refine WL.sreg (by simp;rfl) (by simp;rfl) (WL.ret ⟨.inr rfl,?_⟩)
  simp[zxa]
 | false =>
  refine WL.cond (t:=false) (by simp) (by simp) (fun _=>WL.skip ?_)
  have h1:l.length * 8≤140737488355328:=by omega
  have h2:l.length≤140737488355328:=by omega
  have h3:l.length≤maxLen:=by unfold maxLen;omega
  have h4:∀ x ∈ l,True:=fun _ _=>trivial
  refine WL.sreg (by simp[h1,h2,h3];rfl) (by simp;rfl) (WL.ret ⟨.inr rfl,?_⟩)
  simp[zxa]
end Go.OT
namespace Go.OT
open Go.Proofs
structure St where
 There:List Bool
 Body:List (List UInt8)
 Handles:List (List Int)
 deriving DecidableEq
abbrev sUU (o:Bool)(l:List (List UInt8)):AU:=.sl o () 1 l.length (l.map (sU o))
abbrev sII (o:Bool)(l:List (List Int)):AU:=.sl o () 1 l.length (l.map (sI o))
abbrev zcx (o:Bool)(s:St):List AU:=[sB o s.There,sUU o s.Body,sII o s.Handles]
abbrev z6m (o:Bool)(s:St):AU:=.agg (zcx o s)
structure Sized (s:St):Prop where
 t:s.There.length≤1000
 b:s.Body.length≤1000
 h:s.Handles.length≤1000
 bs:∀ b ∈ s.Body,b.length≤1000
 hs:∀ l ∈ s.Handles,l.length≤1000
def z2k (s:St)(p:Int):Bool:=decide (0≤p) && s.There.getD p.toNat false
set_option maxHeartbeats 4000000 in
theorem zdy (s:St)(p:Int):FnC Try.prog 143 [] [z6m false s,i64 p] [] (bl (z2k s p)):=by
 refine FnC.go ypo rfl ?_
 refine WL.sreg (by simp;rfl) (by simp;rfl) ?_
 by_cases h0:0≤p
 ·obtain⟨i,rfl⟩:=Int.eq_ofNat_of_zero_le h0
  by_cases h1:i < s.There.length
  ·refine WL.sreg (by simp[h1];rfl) (by simp;rfl) ?_
   refine WL.ret ⟨.inr rfl,?_⟩
   simp[zsb,z2k,h1]
  ·refine WL.sreg (by simp[h1];rfl) (by simp;rfl) ?_
   refine WL.ret ⟨.inr rfl,?_⟩
   simp[zsb,z2k,h1]
 ·refine WL.sreg (by simp[h0];rfl) (by simp;rfl) ?_
  refine WL.ret ⟨.inr rfl,?_⟩
  simp[zsb,z2k,h0]
def zu8 (s:St)(p:Int):Bool:=p != -1 && !z2k s p
set_option maxHeartbeats 4000000 in
theorem zxf (s:St)(p:Int):FnC Try.prog 142 [] [i64 p,.vptr () (zcx false s)] [] (bl (zu8 s p)):=by
 refine FnC.go ypn rfl ?_
 refine WL.sreg (by simp;rfl) (by simp;rfl) ?_
 by_cases h0:p=-1
 ·refine WL.sregC (RL.o (by simp[h0];rfl) (RL.g (by simp;rfl) (RL.callN (by simp) (RL.g (by simp;rfl) (RL.o (by simp;rfl) (RL.nil ⟨_,by simp;rfl,WL.ret ⟨.inr rfl,?_⟩⟩))))))
  simp[zwq,zu8,h0]
 ·have hb:(p != -1)=true:=by simp[h0]
  refine WL.sregC (RL.o (by simp[hb];rfl) (RL.g (by simp;rfl) (RL.callY0 false (by simp) (zdy s p) (by simp) (by simp) (RL.g (by simp;rfl) (RL.o (by simp;rfl) (RL.nil ⟨_,by simp;rfl,WL.ret ⟨.inr rfl,?_⟩⟩))))))
  simp[zwq,zu8,h0]
set_option maxHeartbeats 4000000 in
theorem zoc (l:List Int)(f:Nat)(cs:List AU)(p:Int→Bool)(hl:z0c l.length)(hf:∀ x ∈ l,FnC Try.prog f [] [i64 x,.vptr () cs] [] (bl (p x))):FnC Try.prog 131 [] [sI false l,.clos f [.vptr () cs]] [] (i64 (ixF p l 0)):=by
 refine FnC.go ypv rfl ?_
 refine WL.sreg (by simp;rfl) (by simp;rfl) ?_
 refine WL.seq (WL.sreg (by simp;rfl) (by simp;rfl) ?_)
 refine WL.block (WL.count l.length (fun i=>[(0,0,sI false l),(100,0,.clos f [.vptr () cs]),(700,0,i64 l.length),(800,0,i64 i)]) (fun i=>ixF p (l.drop i) i=ixF p l 0) rfl rfl fun i hi hinv=>?_)
 by_cases h:i < l.length
 ·refine WL.sreg (by simp[h];rfl) (by simp;rfl) ?_
  refine WL.seq (WL.cond (t:=true) (by simp) (fun _=>WL.skip ?_) (by simp))
  refine WL.seq (WL.block (WL.sreg (by simp;rfl) (by simp;rfl) ?_))
  rw[z6h _ _ _ h] at hinv
  refine WL.sregC (RL.o (by simp[h];rfl) (RL.clo0 (f:=f) (cps:=[.vptr () cs]) false (by simp) (hf l[i] (List.getElem_mem h)) (by simp) (by simp) (by simp) (RL.nil ⟨_,by simp;rfl,?_⟩)))
  refine WL.cond (t:=p l[i]) (by simp) (fun hv=>?_) (fun hv=>?_)
  ·rw[if_pos hv] at hinv
   refine WL.sreg (by simp;rfl) (by simp;rfl) (WL.ret ⟨.inr rfl,?_⟩)
   simp[zxb,hinv]
  ·rw[if_neg (by simp[hv])] at hinv
   refine WL.skip ?_
   refine WL.reg (RL.run (by simp[z0n hl h];rfl) ⟨_,by simp;rfl,?_⟩)
   exact⟨h,by simp,hinv⟩
 ·refine WL.sreg (by simp[h];rfl) (by simp;rfl) ?_
  refine WL.seq (WL.cond (t:=false) (by simp) (by simp) (fun _=>WL.exit ?_))
  simp
  refine WL.sreg (by simp;rfl) (by simp;rfl) (WL.ret ⟨.inr rfl,?_⟩)
  rw[zbd _ _ _ h] at hinv
  simp[zxb,← hinv]
set_option maxHeartbeats 4000000 in
theorem zg2 (l:List Int)(f:Nat)(cs:List AU)(p:Int→Bool)(hl:z0c l.length)(hf:∀ x ∈ l,FnC Try.prog f [] [i64 x,.vptr () cs] [] (bl (p x))):FnC Try.prog 141 [] [sI false l,.clos f [.vptr () cs]] [] (bl (l.any p)):=by
 refine FnC.go ypm rfl ?_
 refine WL.sreg (by simp;rfl) (by simp;rfl) ?_
 refine WL.sregC (RL.o (by simp;rfl) (RL.call0 false (zoc l f cs p hl hf) (by simp) (by simp) (RL.o (by simp;rfl) (RL.nil ⟨_,by simp;rfl,WL.ret ⟨.inr rfl,?_⟩⟩))))
 simp only[y7l,RetOk]
 refine⟨_,by simp;rfl,?_,by simp⟩
 simp
 rw[Bool.eq_iff_iff]
 simp[← zcw p l 0]
def zg3 (s:St)(i:Nat)(b:List UInt8):Bool:=decide (b.length=16) && (s.There.getD i false || b == List.replicate 16 0)
def z9b (s:St)(l:List Int):Bool:=decide (l.length=6) && !l.any (zu8 s)
def z3n (s:St):Nat→List (List UInt8)→Bool
 | _,[]=>true
 | i,b :: l=>zg3 s i b && z3n s (i+1) l
def May (s:St):Bool:=decide (1≤s.There.length) && decide (s.There.length≤48) && decide (s.Body.length=s.There.length) && decide (1≤s.Handles.length) && decide (s.Handles.length≤6) && z3n s 0 s.Body && s.Handles.all (z9b s)
set_option maxHeartbeats 4000000 in
theorem zcy (s:St)(hs:Sized s):FnC Try.prog 97 [] [z6m false s] [] (bl (May s)):=by
 refine FnC.go yy8 rfl ?_
 refine WL.sreg (by simp;rfl) (by simp;rfl) ?_
 refine WL.sdraw z0t (by simp[z09,noH]) (by simp;exact⟨rfl,rfl⟩) (by kernel_rfl) (by simp;rfl) ?_
 let T:Int:=s.There.length
 let B:Int:=s.Body.length
 let N:Int:=s.Handles.length
 let c1:Bool:=decide (T < 1) || (decide (48 < T) || (B != T || (decide (N < 1) || decide (6 < N))))
 refine WL.seq (WL.ifEq c1 [(100,0,.bptr 1 1 0),(101,0,sB false s.There),(102,0,sUU false s.Body),(103,0,sII false s.Handles),(199,1,.non),(3500,0,bl c1)] ?_ (by simp) (fun h=>?_) (fun h=>WL.skip ?_))
 ·by_cases h1:(s.There.length:Int) < 1
  ·simp[c1,T,B,N,h1]
  by_cases h2:48 < (s.There.length:Int)
  ·simp[c1,T,B,N,h1,h2]
  by_cases h3:((s.Body.length:Int) != (s.There.length:Int))=true
  ·simp[c1,T,B,N,h1,h2,h3]
  rw[Bool.not_eq_true] at h3
  by_cases h4:(s.Handles.length:Int) < 1
  ·simp[c1,T,B,N,h1,h2,h3,h4]
  simp[c1,T,B,N,h1,h2,h3,h4]
 ·refine WL.sreg (by simp;rfl) (by simp;rfl) (WL.ret ⟨.inr rfl,?_⟩)
  have:May s=false:=by
   simp only[c1,Bool.or_eq_true,decide_eq_true_eq,bne_iff_ne,T,B,N] at h
   rw[Bool.eq_false_iff]
   intro hm
   simp only[May,Bool.and_eq_true,decide_eq_true_eq] at hm
   omega
  simp[zwi,this]
 have hg:1≤s.There.length∧s.There.length≤48∧s.Body.length=s.There.length∧1≤s.Handles.length∧s.Handles.length≤6:=by
  simp only[c1,Bool.or_eq_false_iff,decide_eq_false_iff_not,bne_eq_false_iff_eq,T,B,N] at h
  omega
 have hMay:May s=(z3n s 0 s.Body && s.Handles.all (z9b s)):=by
  simp[May,hg]
 simp only[Ex.thenL_nrm]
 refine WL.seq (WL.sreg (by simp;rfl) (by simp;rfl) ?_)
 have hB:z0c s.Body.length:=by have:=hs.b;unfold z0c;omega
 refine WL.block (WL.count s.Body.length (fun i=>[(100,0,.bptr 1 1 0),(101,0,sB false s.There),(102,0,sUU false s.Body),(103,0,sII false s.Handles),(199,1,.non),(3700,0,sUU false s.Body),(3800,0,i64 s.Body.length),(3900,0,i64 i)]) (fun i=>z3n s i (s.Body.drop i)=z3n s 0 s.Body) rfl rfl fun i hi hinv=>?_)
 by_cases h:i < s.Body.length
 ·refine WL.sreg (by simp[h];rfl) (by simp;rfl) ?_
  refine WL.seq (WL.cond (t:=true) (by simp) (fun _=>WL.skip ?_) (by simp))
  refine WL.seq (WL.block (WL.sreg (by simp[h];rfl) (by simp;rfl) ?_))
  have hTh:i < s.There.length:=by omega
  rw[List.drop_eq_getElem_cons h] at hinv
  simp only[z3n,zg3,List.getD_eq_getElem?_getD,List.getElem?_eq_getElem hTh,Option.getD_some] at hinv
  by_cases hl:((s.Body[i].length:Int) != 16)=true
  ·refine WL.seq (WL.reg (RL.o (by simp[hl];rfl) (RL.g (by simp;rfl) (RL.g (by simp;rfl) (RL.callN (by simp) (RL.g (by simp;rfl) (RL.g (by simp;rfl) (RL.o (by simp;rfl) (RL.nil ⟨_,by simp;rfl,?_⟩)))))))))
   refine WL.cond (t:=true) (by simp) (fun _=>?_) (by simp)
   refine WL.sreg (by simp;rfl) (by simp;rfl) (WL.ret ⟨.inr rfl,?_⟩)
   have h16:¬ s.Body[i].length=16:=by
    have:¬ (s.Body[i].length:Int)=16:=by simpa using hl
    omega
   simp[h16] at hinv
   simp[zwi,hMay,hinv]
  rw[Bool.not_eq_true] at hl
  have h16:s.Body[i].length=16:=by
   have:(s.Body[i].length:Int)=16:=by simpa using hl
   omega
  simp only[h16,decide_true,Bool.true_and] at hinv
  by_cases ht:s.There[i]=true
  ·refine WL.seq (WL.reg (RL.o (by simp[hl];rfl) (RL.g (by simp[hTh,ht];rfl) (RL.g (by simp;rfl) (RL.callN (by simp) (RL.g (by simp;rfl) (RL.g (by simp;rfl) (RL.o (by simp;rfl) (RL.nil ⟨_,by simp;rfl,?_⟩)))))))))
   refine WL.cond (t:=false) (by simp) (by simp) (fun _=>WL.skip ?_)
   refine WL.reg (RL.run (by simp[z0n hB h];rfl) ⟨_,by simp;rfl,?_⟩)
   refine⟨h,by simp,?_⟩
   rw[← hinv];simp[ht]
  ·have ht':s.There[i]=false:=by simpa using ht
   refine WL.seq (WL.reg (RL.o (by simp[hl];rfl) (RL.g (by simp[hTh,ht'];rfl) (RL.g (by simp;rfl) (RL.callY0 true (by simp) (z3h s.Body[i] (List.replicate 16 0)) (by simp[z8i]) (by simp) (RL.g (by simp;rfl) (RL.g (by simp;rfl) (RL.o (by simp;rfl) (RL.nil ⟨_,by simp;rfl,?_⟩)))))))))
   refine WL.cond (t:=!(s.Body[i] == List.replicate 16 0)) (by simp) (fun hb=>?_) (fun hb=>WL.skip ?_)
   ·refine WL.sreg (by simp;rfl) (by simp;rfl) (WL.ret ⟨.inr rfl,?_⟩)
    have hb':(s.Body[i] == List.replicate 16 0)=false:=by simpa using hb
    rw[ht',hb'] at hinv
    simp only[Bool.or_self,Bool.false_and] at hinv
    simp[zwi,hMay,hinv.symm]
   ·have hb':(s.Body[i] == List.replicate 16 0)=true:=by simpa using hb
    refine WL.reg (RL.run (by simp[z0n hB h];rfl) ⟨_,by simp;rfl,?_⟩)
    refine⟨h,by simp,?_⟩
    rw[← hinv,hb'];simp
 ·refine WL.sreg (by simp[h];rfl) (by simp;rfl) ?_
  refine WL.seq (WL.cond (t:=false) (by simp) (by simp) (fun _=>WL.exit ?_))
  have hi':i=s.Body.length:=by omega
  subst hi'
  rw[List.drop_of_length_le (Nat.le_refl _)] at hinv
  simp only[z3n] at hinv
  rw[← hinv] at hMay
  simp only[Bool.true_and] at hMay
  simp only[Ex.thenL_ext,Ex.blkL_ext,if_true,Ex.thenL_nrm]
  refine WL.seq (WL.sreg (by simp;rfl) (by simp;rfl) ?_)
  have hH:z0c s.Handles.length:=by have:=hs.h;unfold z0c;omega
  refine WL.block (WL.count s.Handles.length (fun i=>[(100,0,.bptr 1 1 0),(101,0,sB false s.There),(102,0,sUU false s.Body),(103,0,sII false s.Handles),(199,1,.non),(6300,0,sII false s.Handles),(6400,0,i64 s.Handles.length),(6500,0,i64 i)]) (fun i=>(s.Handles.drop i).all (z9b s)=s.Handles.all (z9b s)) rfl rfl fun i hi hinv=>?_)
  by_cases h:i < s.Handles.length
  ·refine WL.sreg (by simp[h];rfl) (by simp;rfl) ?_
   refine WL.seq (WL.cond (t:=true) (by simp) (fun _=>WL.skip ?_) (by simp))
   refine WL.seq (WL.block (WL.sreg (by simp[h];rfl) (by simp;rfl) ?_))
   rw[List.drop_eq_getElem_cons h] at hinv
   simp only[List.all_cons,z9b] at hinv
   by_cases hl:((s.Handles[i].length:Int) != 6)=true
   ·refine WL.seq (WL.reg (RL.o (by simp[hl];rfl) (RL.g (by simp;rfl) (RL.callN (by simp) (RL.o (by simp;rfl) (RL.nil ⟨_,by simp;rfl,?_⟩))))))
    refine WL.cond (t:=true) (by simp) (fun _=>?_) (by simp)
    refine WL.sreg (by simp;rfl) (by simp;rfl) (WL.ret ⟨.inr rfl,?_⟩)
    have h6:¬ s.Handles[i].length=6:=by
     have:¬ (s.Handles[i].length:Int)=6:=by simpa using hl
     omega
    simp only[h6,decide_false,Bool.false_and] at hinv
    simp[zwi,hMay,← hinv]
   ·rw[Bool.not_eq_true] at hl
    have h6:s.Handles[i].length=6:=by
     have:(s.Handles[i].length:Int)=6:=by simpa using hl
     omega
    simp only[h6,decide_true,Bool.true_and] at hinv
    have hsm:z0c s.Handles[i].length:=by unfold z0c;omega
    refine WL.seq (WL.reg (RL.o (by simp[hl];rfl) (RL.g (by simp;rfl) (RL.callY0 true (by simp) (zg2 s.Handles[i] 142 (zcx false s) (zu8 s) hsm fun x _=>zxf s x) (by simp) (by simp) (RL.o (by simp;rfl) (RL.nil ⟨_,by simp;rfl,?_⟩))))))
    refine WL.cond (t:=s.Handles[i].any (zu8 s)) (by simp) (fun hb=>?_) (fun hb=>WL.skip ?_)
    ·refine WL.sreg (by simp;rfl) (by simp;rfl) (WL.ret ⟨.inr rfl,?_⟩)
     rw[hb] at hinv
     simp only[Bool.not_true,Bool.false_and] at hinv
     simp[zwi,hMay,← hinv]
    ·refine WL.reg (RL.run (by simp[z0n hH h];rfl) ⟨_,by simp;rfl,?_⟩)
     refine⟨h,by simp,?_⟩
     rw[← hinv,hb];simp
  ·refine WL.sreg (by simp[h];rfl) (by simp;rfl) ?_
   refine WL.seq (WL.cond (t:=false) (by simp) (by simp) (fun _=>WL.exit ?_))
   have hi':i=s.Handles.length:=by omega
   subst hi'
   rw[List.drop_of_length_le (Nat.le_refl _)] at hinv
   simp only[List.all_nil] at hinv
   rw[← hinv] at hMay
   simp only[Ex.thenL_ext,Ex.blkL_ext,if_true,Ex.thenL_nrm]
   refine WL.sreg (by simp;rfl) (by simp;rfl) (WL.ret ⟨.inr rfl,?_⟩)
   simp[zwi,hMay]
end Go.OT
namespace Go.OT
open Go.Proofs
def cnt (p:Int)(l:List Int):Nat:=(l.filter (· == p)).length
def z4x (p:Int):List (List Int)→Nat
 | []=>0
 | l :: ls=>cnt p l+z4x p ls
def zl3 (s:St)(p:Int):Int:=if p < 0 then 0 else (z4x p s.Handles:Nat)
theorem zcz (p:Int)(l:List (List Int)){i:Nat}(h:i < l.length):z4x p (l.take (i+1))=z4x p (l.take i)+cnt p l[i]:=by
 induction l generalizing i with
 | nil=>simp at h
 | cons a l ih =>
  cases i with
  | zero=>simp [z4x]
  | succ i =>
   simp only[List.length_cons] at h
   simp only[List.take_succ_cons,z4x,List.getElem_cons_succ,ih (by omega:i < l.length)]
   omega
theorem zjn (p:Int)(l:List Int){i:Nat}(h:i < l.length):cnt p (l.take (i+1))=cnt p (l.take i)+if l[i]=p then 1 else 0:=by
 unfold cnt
 rw[List.take_succ_eq_append_getElem h,List.filter_append,List.length_append]
 congr 1
 by_cases e:l[i]=p<;>simp [e]
theorem zod (p:Int)(l:List Int):cnt p l≤l.length:=List.length_filter_le _ _
theorem zdz (p:Int):∀ (l:List (List Int)),(∀ x ∈ l,x.length≤1000)→z4x p l≤1000 * l.length
 | [],_=>by simp[z4x]
 | a :: l,h=>by
  have h1:=zdz p l fun x hx=>h x (List.mem_cons_of_mem _ hx)
  have h2:=zod p a
  have h3:=h a List.mem_cons_self
  simp only[z4x,List.length_cons]
  omega
set_option maxHeartbeats 4000000 in
theorem zxg (s:St)(hs:Sized s)(p:Int):FnC Try.prog 145 [] [z6m false s,i64 p] [] (i64 (zl3 s p)):=by
 refine FnC.go ypq rfl ?_
 refine WL.sreg (by simp;rfl) (by simp;rfl) ?_
 by_cases hp:p < 0
 ·refine WL.seq (WL.sreg (by simp[hp];rfl) (by simp;rfl) (WL.cond (t:=true) (by simp) (fun _=>?_) (by simp)))
  refine WL.sreg (by simp;rfl) (by simp;rfl) (WL.ret ⟨.inr rfl,?_⟩)
  simp[zx2,zl3,hp]
 ·refine WL.seq (WL.sreg (by simp[hp];rfl) (by simp;rfl) (WL.cond (t:=false) (by simp) (by simp) (fun _=>WL.skip ?_)))
  refine WL.sreg (by simp;rfl) (by simp;rfl) ?_
  refine WL.seq (WL.sreg (by simp;rfl) (by simp;rfl) ?_)
  refine WL.block (WL.count s.Handles.length (fun i=>[(100,0,i64 p),(500,0,i64 (z4x p (s.Handles.take i))),(1300,0,sII false s.Handles),(1400,0,i64 s.Handles.length),(1500,0,i64 i)]) (fun _=>True) (by simp[z4x]) trivial fun i hi _=>?_)
  have hS:z0c s.Handles.length:=by have:=hs.h;unfold z0c;omega
  by_cases h:i < s.Handles.length
  ·have hl:s.Handles[i].length≤1000:=hs.hs _ (List.getElem_mem h)
   have hSl:z0c s.Handles[i].length:=by unfold z0c;omega
   have hle:z4x p (s.Handles.take i)≤1000 * 1000:=by
    have h1:=zdz p (s.Handles.take i) (fun l hl=>hs.hs l (List.mem_of_mem_take hl))
    have h2:=hs.h
    simp only[List.length_take] at h1
    omega
   refine WL.sreg (by simp[h];rfl) (by simp;rfl) ?_
   refine WL.seq (WL.cond (t:=true) (by simp) (fun _=>WL.skip ?_) (by simp))
   refine WL.seq (WL.block (WL.sreg (by simp[h];rfl) (by simp;rfl) (WL.scope (WL.seq (WL.label ?_)))))
   refine WL.sreg (by simp;rfl) (by simp;rfl) ?_
   refine WL.block (WL.count s.Handles[i].length (fun k=>[(100,0,i64 p),(500,0,i64 (z4x p (s.Handles.take i)+cnt p (s.Handles[i].take k):Nat)),(1300,0,sII false s.Handles),(1400,0,i64 s.Handles.length),(1500,0,i64 i),(1900,0,sI false s.Handles[i]),(2000,0,i64 s.Handles[i].length),(2100,0,i64 k)]) (fun _=>True) (by simp[cnt]) trivial fun k hk _=>?_)
   by_cases h':k < s.Handles[i].length
   ·have hc:cnt p (s.Handles[i].take k)≤1000:=by
     have:=zod p (s.Handles[i].take k)
     simp only[List.length_take] at this
     omega
    have hS2:z0c 1000000000:=by unfold z0c;omega
    refine WL.sreg (by simp[h'];rfl) (by simp;rfl) ?_
    refine WL.seq (WL.cond (t:=true) (by simp) (fun _=>WL.skip ?_) (by simp))
    refine WL.seq (WL.block (WL.sreg (by simp[h'];rfl) (by simp;rfl) ?_))
    have hcs:=zjn p s.Handles[i] h'
    by_cases e:s.Handles[i][k]=p
    ·have eb:(s.Handles[i][k] != p)=false:=by simp[e]
     rw[if_pos e] at hcs
     refine WL.seq (WL.sreg (by simp[eb];rfl) (by simp;rfl) (WL.cond (t:=false) (by simp) (by simp) fun _=>WL.skip ?_))
     have hw:IntKind.wrap .i64 ((z4x p (s.Handles.take i):Int)+(cnt p (s.Handles[i].take k):Int)+1)=(z4x p (s.Handles.take i):Int)+(cnt p (s.Handles[i].take k):Int)+1:=by
      simpa using z0n hS2 (show z4x p (s.Handles.take i)+cnt p (s.Handles[i].take k) < 1000000000 by omega)
     refine WL.reg (RL.run (by simp[hw];rfl) ⟨_,by simp;rfl,?_⟩)
     refine WL.reg (RL.run (by simp[z0n hSl h'];rfl) ⟨_,by simp;rfl,h',?_,trivial⟩)
     simp[hcs]
     omega
    ·have eb:(s.Handles[i][k] != p)=true:=by simp[e]
     rw[if_neg e] at hcs
     refine WL.seq (WL.sreg (by simp[eb];rfl) (by simp;rfl) (WL.cond (t:=true) (by simp) (fun _=>WL.exit ?_) (by simp)))
     refine WL.fin [27] (by simp;rfl) ?_
     refine WL.reg (RL.run (by simp[z0n hSl h'];rfl) ⟨_,by simp;rfl,h',?_,trivial⟩)
     simp[hcs]
   ·refine WL.sreg (by simp[h'];rfl) (by simp;rfl) ?_
    refine WL.seq (WL.cond (t:=false) (by simp) (by simp) fun _=>WL.exit ?_)
    refine WL.reg (RL.run (by simp[z0n hS h];rfl) ⟨_,by simp;rfl,h,?_,trivial⟩)
    have hk':k=s.Handles[i].length:=by omega
    subst hk'
    simp[zcz p s.Handles h]
  ·refine WL.sreg (by simp[h];rfl) (by simp;rfl) ?_
   refine WL.seq (WL.cond (t:=false) (by simp) (by simp) fun _=>WL.exit ?_)
   have hi':i=s.Handles.length:=by omega
   subst hi'
   refine WL.sreg (by simp;rfl) (by simp;rfl) (WL.ret ⟨.inr rfl,?_⟩)
   simp[zx2,zl3,hp]
end Go.OT
namespace Go.OT
open Go.Proofs
structure Op where
 Kind:Int
 Page:Int
 Handle:Int
 Off:Int
 N:Int
 Data:List UInt8
 deriving DecidableEq
abbrev zqz (o:Bool)(q:Op):AU:=.agg [i64 q.Kind,i64 q.Page,i64 q.Handle,i64 q.Off,i64 q.N,sU o q.Data]
abbrev y9p (o:Bool)(s:St)(c:Nat)(q:Op):List AU:=[sB o s.There,sUU o s.Body,sII o s.Handles,i64 c,i64 q.Kind,i64 q.Page,i64 q.Handle,i64 q.Off,i64 q.N,sU o q.Data]
abbrev ymb (o:Bool)(s:St)(c:Nat)(q:Op):AU:=.agg (y9p o s c q)
def zen (l:List Int):Bool:=l.any (· == -1)
def z39 (s:St)(p:Int):Bool:=decide (0≤p) && decide (p < s.There.length)
def z5p (l:List Int)(h:Int):Bool:=decide (h < 0) || (decide (6≤h) || l.getD h.toNat 0 == -1)
def z3i (q:Op)(n:Int):Bool:=q.Kind != 5 && (decide (q.Off < 0) || (decide (n < 0) || (decide (16 < q.Off) || decide (16 - q.Off < n))))
def z06 (s:St)(l:List Int)(q:Op):Int :=
 if q.Kind=1 then (if zen l=false then 4 else if s.There.any (· == false)=false then 3 else 0)
 else if q.Kind=2∨q.Kind=6∨q.Kind=8 then
  (if z39 s q.Page=false then 1 else if z2k s q.Page=false then 2 else if q.Kind=2∧zen l=false then 4 else if q.Kind=8∧0 < zl3 s q.Page then 7 else 0)
 else if q.Kind=3∨q.Kind=4∨q.Kind=5 then
  (if z5p l q.Handle=true then 5 else if z3i q (if q.Kind=4 then q.Data.length else q.N)=true then 6 else 0)
 else if q.Kind=7 then 0 else 1
def cdS (s:St)(c:Nat)(q:Op)(r p i:Bool):SL:=[(100,0,.bptr 1 1 0),(101,0,sB false s.There),(102,0,sUU false s.Body),(103,0,sII false s.Handles),(104,0,i64 c),(105,0,i64 q.Kind),(106,0,i64 q.Page),(107,0,i64 q.Handle),(108,0,i64 q.Off),(109,0,i64 q.N),(110,0,sU false q.Data),(199,1,.non),(300,0,bl r),(400,0,bl p),(500,0,bl i)]
abbrev cdQ (v:Int):Ex→SL→Prop:=fun e L=>(e=Ex.nrm∨e=Ex.ret)∧RetOk z82.rs [] (i64 v) L
set_option maxHeartbeats 4000000 in
theorem zsc (s:St)(hs:Sized s)(c:Nat)(q:Op)(l:List Int)(p i:Bool)(hk:q.Kind=1):WL Try.prog z82.nt zjm (cdS s c q (zen l) p i) (cdQ (z06 s l q)):=by
 have h1:z0c s.There.length:=by have:=hs.t;unfold z0c;omega
 refine WL.seq (WL.sreg (by simp[cdS];rfl) (by simp;rfl) ?_)
 refine WL.block (WL.sreg (by simp[hk];rfl) (by simp;rfl) ?_)
 refine WL.cond (t:=true) (by simp) (fun _=>?_) (by simp)
 refine WL.seq (WL.sreg (by simp;rfl) (by simp;rfl) (WL.cond (t:=!zen l) (by simp) (fun h=>?_) (fun h=>WL.skip ?_)))
 ·simp only[Bool.not_eq_true'] at h
  refine WL.sreg (by simp;rfl) (by simp;rfl) (WL.ret ⟨.inr rfl,?_⟩)
  simp[z82,z06,hk,h]
 ·simp only[Bool.not_eq_false'] at h
  refine WL.sregC (RL.o (by simp;rfl) (RL.call0 false (zdx s.There false h1) (by simp) (by simp) (RL.o (by simp;rfl) (RL.nil ⟨_,by simp;rfl,?_⟩))))
  refine WL.cond (t:=!s.There.any (· == false)) (by simp) (fun h'=>?_) (fun h'=>WL.skip ?_)
  ·simp only[Bool.not_eq_true'] at h'
   refine WL.sreg (by simp;rfl) (by simp;rfl) (WL.ret ⟨.inr rfl,?_⟩)
   simp[z82,z06,hk,h]
   simpa using h'
  ·simp only[Bool.not_eq_false'] at h'
   refine WL.sreg (by simp;rfl) (by simp;rfl) (WL.ret ⟨.inr rfl,?_⟩)
   simp[z82,z06,hk,h]
   simpa using h'
def cdT (s:St)(c:Nat)(q:Op)(r p i b:Bool):SL:=[(100,0,.bptr 1 1 0),(101,0,sB false s.There),(102,0,sUU false s.Body),(103,0,sII false s.Handles),(104,0,i64 c),(105,0,i64 q.Kind),(106,0,i64 q.Page),(107,0,i64 q.Handle),(108,0,i64 q.Off),(109,0,i64 q.N),(110,0,sU false q.Data),(199,1,.non),(300,0,bl r),(400,0,bl p),(500,0,bl i),(3800,0,i64 q.Kind),(4800,0,bl b)]
set_option maxHeartbeats 4000000 in
theorem zl4 (s:St)(c:Nat)(q:Op)(r p i:Bool)(v:Int)(h1:q.Kind ≠ 1)
  (h:WL Try.prog z82.nt zjl (cdT s c q r p i (q.Kind == 2 || (q.Kind == 6 || q.Kind == 8))) (Ex.blkL 0 (Ex.thenL (fun L'=>WL Try.prog z82.nt zfy L' (cdQ v)) (cdQ v)))):WL Try.prog z82.nt zjm (cdS s c q r p i) (cdQ v):=by
 have e1:(q.Kind == 1)=false:=by simp[h1]
 refine WL.seq (WL.sreg (by simp[cdS];rfl) (by simp;rfl) ?_)
 refine WL.block (WL.sreg (by simp;rfl) (by simp;rfl) ?_)
 refine WL.cond (t:=false) (by simp[e1]) (by simp) (fun _=>?_)
 refine WL.join _ ?_ h
 by_cases h2:q.Kind=2
 ·refine WL.sreg (by simp;rfl) (by simp;rfl) (WL.cond (t:=true) (by simp[h2]) (fun _=>WL.skip ⟨rfl,?_⟩) (by simp))
  simp[cdT,h2]
 have e2:(q.Kind == 2)=false:=by simp[h2]
 refine WL.sreg (by simp;rfl) (by simp;rfl) (WL.cond (t:=false) (by simp[e2]) (by simp) fun _=>?_)
 by_cases h6:q.Kind=6
 ·refine WL.sreg (by simp;rfl) (by simp;rfl) (WL.cond (t:=true) (by simp[h6]) (fun _=>WL.skip ⟨rfl,?_⟩) (by simp))
  simp[cdT,h6]
 have e6:(q.Kind == 6)=false:=by simp[h6]
 refine WL.sreg (by simp;rfl) (by simp;rfl) (WL.cond (t:=false) (by simp[e6]) (by simp) fun _=>?_)
 refine WL.reg (RL.run (by simp;rfl) ⟨_,by simp;rfl,rfl,?_⟩)
 simp[cdT,e2,e6]
set_option maxHeartbeats 4000000 in
theorem zoe (s:St)(hs:Sized s)(c:Nat)(q:Op)(l:List Int)(hk:q.Kind=2∨q.Kind=6∨q.Kind=8):WL Try.prog z82.nt zjl (cdT s c q (zen l) (z39 s q.Page) (z2k s q.Page) true) (Ex.blkL 0 (Ex.thenL (fun L'=>WL Try.prog z82.nt zfy L' (cdQ (z06 s l q))) (cdQ (z06 s l q)))):=by
 have h1:q.Kind ≠ 1:=by omega
 refine WL.cond (t:=true) (by simp[cdT]) (fun _=>?_) (by simp)
 refine WL.block (WL.sreg (by simp[cdT];rfl) (by simp;rfl) ?_)
 refine WL.cond (t:=!z39 s q.Page) (by simp) (fun hp=>?_) (fun hp=>?_)
 ·simp only[Bool.not_eq_true'] at hp
  refine WL.sreg (by simp;rfl) (by simp;rfl) (WL.ret ⟨.inr rfl,?_⟩)
  simp[z82,z06,h1,hk,hp]
 simp only[Bool.not_eq_false'] at hp
 refine WL.sreg (by simp;rfl) (by simp;rfl) ?_
 refine WL.cond (t:=!z2k s q.Page) (by simp) (fun ht=>?_) (fun ht=>?_)
 ·simp only[Bool.not_eq_true'] at ht
  refine WL.sreg (by simp;rfl) (by simp;rfl) (WL.ret ⟨.inr rfl,?_⟩)
  simp[z82,z06,h1,hk,hp,ht]
 simp only[Bool.not_eq_false'] at ht
 refine WL.join [(100,0,.bptr 1 1 0),(101,0,sB false s.There),(102,0,sUU false s.Body),(103,0,sII false s.Handles),(104,0,i64 c),(105,0,i64 q.Kind),(106,0,i64 q.Page),(107,0,i64 q.Handle),(108,0,i64 q.Off),(109,0,i64 q.N),(110,0,sU false q.Data),(199,1,.non),(5800,0,bl (q.Kind == 2 && !zen l))] ?_ ?_
 ·by_cases h2:q.Kind=2
  ·refine WL.reg (RL.run (by simp[h2];rfl) ⟨_,by simp;rfl,rfl,?_⟩)
   simp[h2]
  ·have e2:(q.Kind == 2)=false:=by simp[h2]
   refine WL.reg (RL.run (by simp[e2];rfl) ⟨_,by simp;rfl,rfl,?_⟩)
   simp[e2]
 refine WL.cond (t:=q.Kind == 2 && !zen l) (by simp) (fun hr=>?_) (fun hr=>?_)
 ·simp only[Bool.and_eq_true,beq_iff_eq,Bool.not_eq_true'] at hr
  refine WL.sreg (by simp;rfl) (by simp;rfl) (WL.ret ⟨.inr rfl,?_⟩)
  simp[z82,z06,hp,ht,hr]
 have hr':¬ (q.Kind=2∧zen l=false):=by
  intro⟨a,b⟩
  simp[a,b] at hr
 by_cases h8:q.Kind=8
 ·refine WL.sregC (RL.o (by simp[h8];rfl) (RL.g (by simp;rfl) (RL.callY0 false (by simp) (zxg s hs q.Page) (by simp) (by simp) (RL.g (by simp;rfl) (RL.o (by simp;rfl) (RL.nil ⟨_,by simp;rfl,?_⟩))))))
  refine WL.cond (t:=decide (0 < zl3 s q.Page)) (by simp) (fun hq=>?_) (fun hq=>WL.skip ?_)
  ·simp only[decide_eq_true_eq] at hq
   refine WL.sreg (by simp;rfl) (by simp;rfl) (WL.ret ⟨.inr rfl,?_⟩)
   simp[z82,z06,hp,ht,h8,hq]
  ·simp only[decide_eq_false_iff_not] at hq
   refine WL.sreg (by simp;rfl) (by simp;rfl) (WL.ret ⟨.inr rfl,?_⟩)
   simp[z82,z06,hp,ht,h8,hq]
 ·have e8:(q.Kind == 8)=false:=by simp[h8]
  refine WL.sregC (RL.o (by simp[e8];rfl) (RL.g (by simp;rfl) (RL.callN (by simp) (RL.g (by simp;rfl) (RL.o (by simp;rfl) (RL.nil ⟨_,by simp;rfl,?_⟩))))))
  refine WL.cond (t:=false) (by simp) (by simp) (fun _=>WL.skip ?_)
  refine WL.sreg (by simp;rfl) (by simp;rfl) (WL.ret ⟨.inr rfl,?_⟩)
  simp[z82,z06,h1,hk,hp,ht,hr',h8]
  intro a b
  exact absurd hk (by omega)
def cdU (s:St)(c:Nat)(q:Op):SL:=[(100,0,.bptr 1 1 0),(101,0,sB false s.There),(102,0,sUU false s.Body),(103,0,sII false s.Handles),(104,0,i64 c),(105,0,i64 q.Kind),(106,0,i64 q.Page),(107,0,i64 q.Handle),(108,0,i64 q.Off),(109,0,i64 q.N),(110,0,sU false q.Data),(199,1,.non)]
set_option maxHeartbeats 4000000 in
theorem zi0 (s:St)(c:Nat)(q:Op)(r p i:Bool)(v:Int)(Q:Ex→SL→Prop)
  (h:WL Try.prog z82.nt zjk (cdU s c q ++ [(3800,0,i64 q.Kind),(8100,0,bl (q.Kind == 3 || (q.Kind == 4 || q.Kind == 5)))]) Q):WL Try.prog z82.nt zjl (cdT s c q r p i false) Q:=by
 refine WL.cond (t:=false) (by simp[cdT]) (by simp) (fun _=>?_)
 refine WL.join _ ?_ h
 by_cases h2:q.Kind=3
 ·refine WL.sreg (by simp[cdT];rfl) (by simp;rfl) (WL.cond (t:=true) (by simp[h2]) (fun _=>WL.skip ⟨rfl,?_⟩) (by simp))
  simp[cdU,h2]
 have e2:(q.Kind == 3)=false:=by simp[h2]
 refine WL.sreg (by simp[cdT];rfl) (by simp;rfl) (WL.cond (t:=false) (by simp[e2]) (by simp) fun _=>?_)
 by_cases h6:q.Kind=4
 ·refine WL.sreg (by simp;rfl) (by simp;rfl) (WL.cond (t:=true) (by simp[h6]) (fun _=>WL.skip ⟨rfl,?_⟩) (by simp))
  simp[cdU,h6]
 have e6:(q.Kind == 4)=false:=by simp[h6]
 refine WL.sreg (by simp;rfl) (by simp;rfl) (WL.cond (t:=false) (by simp[e6]) (by simp) fun _=>?_)
 refine WL.reg (RL.run (by simp;rfl) ⟨_,by simp;rfl,rfl,?_⟩)
 simp[cdU,e2,e6]
set_option maxHeartbeats 4000000 in
theorem zof (s:St)(c:Nat)(q:Op)(l:List Int)(hk:¬ (q.Kind=1∨q.Kind=2∨q.Kind=6∨q.Kind=8∨q.Kind=3∨q.Kind=4∨q.Kind=5)):WL Try.prog z82.nt zjk (cdU s c q ++ [(3800,0,i64 q.Kind),(8100,0,bl false)]) (Ex.blkL 0 (Ex.thenL (fun L'=>WL Try.prog z82.nt zfy L' (cdQ (z06 s l q))) (cdQ (z06 s l q)))):=by
 refine WL.cond (t:=false) (by simp[cdU]) (by simp) (fun _=>?_)
 refine WL.sreg (by simp[cdU];rfl) (by simp;rfl) (WL.cond (t:=q.Kind == 7) (by simp) (fun h=>WL.skip ?_) (fun h=>?_))
 ·refine WL.sreg (by simp;rfl) (by simp;rfl) (WL.ret ⟨.inr rfl,?_⟩)
  simp only[beq_iff_eq] at h
  simp[z82,z06,h]
 ·refine WL.sreg (by simp;rfl) (by simp;rfl) (WL.ret ⟨.inr rfl,?_⟩)
  simp only[beq_eq_false_iff_ne] at h
  simp only[not_or] at hk
  simp[z82,z06,h,hk]
set_option maxHeartbeats 4000000 in
theorem zog (s:St)(c:Nat)(hc:c < s.Handles.length)(h6:s.Handles[c].length=6)(q:Op)(hk:q.Kind=3∨q.Kind=4∨q.Kind=5):WL Try.prog z82.nt zjk (cdU s c q ++ [(3800,0,i64 q.Kind),(8100,0,bl true)]) (Ex.blkL 0 (Ex.thenL (fun L'=>WL Try.prog z82.nt zfy L' (cdQ (z06 s s.Handles[c] q))) (cdQ (z06 s s.Handles[c] q)))):=by
 refine WL.cond (t:=true) (by simp[cdU]) (fun _=>?_) (by simp)
 refine WL.seq (WL.draw z0t (by simp[z09,noH,cdU]) (DL.o (by simp[cdU];exact⟨rfl,rfl⟩) (DL.nil ⟨by kernel_rfl,_,by simp;rfl,?_⟩)))
 generalize hn:(if q.Kind=4 then (q.Data.length:Int) else q.N)=n
 have h1:¬ q.Kind=1:=by omega
 have h2:¬ (q.Kind=2∨q.Kind=6∨q.Kind=8):=by omega
 refine WL.join (cdU s c q ++ [(600,0,i64 q.Handle),(700,0,i64 n)]) ?_ ?_
 ·refine WL.sreg (by simp;rfl) (by simp;rfl) (WL.cond (t:=q.Kind == 4) (by simp) (fun h=>?_) (fun h=>?_))
  ·simp only[beq_iff_eq] at h
   rw[if_pos h] at hn
   refine WL.reg (RL.run (by simp;rfl) ⟨_,by simp;rfl,rfl,?_⟩)
   simp[cdU,hn]
  ·simp only[beq_eq_false_iff_ne] at h
   rw[if_neg h] at hn
   refine WL.fin [94] (by simp;rfl) (WL.skip ⟨rfl,?_⟩)
   simp[cdU,hn]
 refine WL.block (WL.join (cdU s c q ++ [(700,0,i64 n),(9900,0,bl (z5p s.Handles[c] q.Handle))]) ?_ ?_)
 ·by_cases g1:q.Handle < 0
  ·refine WL.reg (RL.run (by simp[cdU,g1];rfl) ⟨_,by simp;rfl,rfl,?_⟩)
   simp[cdU,z5p,g1]
  by_cases g2:6≤q.Handle
  ·refine WL.reg (RL.run (by simp[cdU,g1,g2];rfl) ⟨_,by simp;rfl,rfl,?_⟩)
   simp[cdU,z5p,g2]
  obtain⟨k,hk'⟩:=Int.eq_ofNat_of_zero_le (a:=q.Handle) (by omega)
  have hk6:k < s.Handles[c].length:=by omega
  have g2':¬ 6≤k:=by omega
  have g1k:¬ (k:Int) < 0:=by omega
  have g2k:¬ (6:Int)≤k:=by omega
  refine WL.reg (RL.run (by simp[cdU,hk',g1k,g2k,g2',hc,hk6];rfl) ⟨_,by simp;rfl,rfl,?_⟩)
  simp[cdU,z5p,hk',g1k,g2k,g2',hk6]
 refine WL.cond (t:=z5p s.Handles[c] q.Handle) (by simp[cdU]) (fun hb=>?_) (fun hb=>?_)
 ·refine WL.sreg (by simp[cdU];rfl) (by simp;rfl) (WL.ret ⟨.inr rfl,?_⟩)
  simp[z82,z06,h1,h2,hk,hb]
 refine WL.join [(11900,0,bl (z3i q n))] ?_ ?_
 ·by_cases e5:q.Kind=5
  ·refine WL.reg (RL.run (by simp[cdU,e5];rfl) ⟨_,by simp;rfl,rfl,?_⟩)
   simp[z3i,e5]
  have e5':(q.Kind != 5)=true:=by simp[e5]
  by_cases g1:q.Off < 0
  ·refine WL.reg (RL.run (by simp[cdU,e5',g1];rfl) ⟨_,by simp;rfl,rfl,?_⟩)
   simp[z3i,e5',g1]
  by_cases g2:n < 0
  ·refine WL.reg (RL.run (by simp[cdU,e5',g1,g2];rfl) ⟨_,by simp;rfl,rfl,?_⟩)
   simp[z3i,e5',g1,g2]
  by_cases g3:16 < q.Off
  ·refine WL.reg (RL.run (by simp[cdU,e5',g1,g2,g3];rfl) ⟨_,by simp;rfl,rfl,?_⟩)
   simp[z3i,e5',g1,g2,g3]
  have hw:IntKind.wrap .i64 (16 - q.Off)=16 - q.Off:=by
   have:=z01 (x:=16 - q.Off) (by omega) (by omega)
   exact this
  refine WL.reg (RL.run (by simp[cdU,e5',g1,g2,g3,hw];rfl) ⟨_,by simp;rfl,rfl,?_⟩)
  simp[z3i,e5',g1,g2,g3]
 refine WL.cond (t:=z3i q n) (by simp) (fun hb'=>?_) (fun hb'=>WL.skip ?_)
 ·refine WL.sreg (by simp;rfl) (by simp;rfl) (WL.ret ⟨.inr rfl,?_⟩)
  simp[z82,z06,h1,h2,hk,hb,hn,hb']
 ·refine WL.sreg (by simp;rfl) (by simp;rfl) (WL.ret ⟨.inr rfl,?_⟩)
  simp[z82,z06,h1,h2,hk,hb,hn,hb']
set_option maxHeartbeats 4000000 in
theorem zoh (s:St)(hs:Sized s)(c:Nat)(hc:c < s.Handles.length)(h6:s.Handles[c].length=6)(q:Op):FnC Try.prog 98 [] [ymb false s c q] [] (i64 (z06 s s.Handles[c] q)):=by
 refine FnC.go yy9 rfl ?_
 refine WL.sreg (by simp;rfl) (by simp;rfl) ?_
 have h2:z0c s.Handles[c].length:=by unfold z0c;omega
 refine WL.sregC (RL.o (by simp[hc];rfl) (RL.call0 false (zfz s.Handles[c] (-1) h2) (by simp) (by simp) (RL.o (by simp;rfl) (RL.nil ⟨_,by simp;rfl,?_⟩))))
 have key:WL Try.prog z82.nt zjm (cdS s c q (zen s.Handles[c]) (z39 s q.Page) (z2k s q.Page)) (cdQ (z06 s s.Handles[c] q)):=by
  by_cases k1:q.Kind=1
  ·exact zsc s hs c q _ _ _ k1
  refine zl4 s c q _ _ _ _ k1 ?_
  by_cases k2:q.Kind=2∨q.Kind=6∨q.Kind=8
  ·have e:(q.Kind == 2 || (q.Kind == 6 || q.Kind == 8))=true:=by simpa using k2
   rw[e]
   exact zoe s hs c q _ k2
  ·have e:(q.Kind == 2 || (q.Kind == 6 || q.Kind == 8))=false:=by simpa using k2
   rw[e]
   refine zi0 s c q _ _ _ (z06 s s.Handles[c] q) _ ?_
   by_cases k3:q.Kind=3∨q.Kind=4∨q.Kind=5
   ·have e:(q.Kind == 3 || (q.Kind == 4 || q.Kind == 5))=true:=by simpa using k3
    rw[e]
    exact zog s c hc h6 q k3
   ·have e:(q.Kind == 3 || (q.Kind == 4 || q.Kind == 5))=false:=by simpa using k3
    rw[e]
    exact zof s c q _ (by omega)
 by_cases h0:0≤q.Page
 ·refine WL.seq (WL.draw z0t (by simp[z09,noH]) (DL.o (by simp[h0];exact⟨rfl,rfl⟩) (DL.g (by simp;exact⟨rfl,rfl⟩) (DL.o (by simp;exact⟨rfl,rfl⟩) (DL.call0 false (zdy s q.Page) (by simp) (by simp) (DL.o (by simp;exact⟨rfl,rfl⟩) (DL.nil ⟨by kernel_rfl,_,by simp;rfl,?_⟩)))))))
  rw[show z39 s q.Page=decide (q.Page < s.There.length) by simp[z39,h0]] at key
  exact key
 ·refine WL.seq (WL.draw z0t (by simp[z09,noH]) (DL.o (by simp[h0];exact⟨rfl,rfl⟩) (DL.g (by simp;exact⟨rfl,rfl⟩) (DL.o (by simp;exact⟨rfl,rfl⟩) (DL.call0 false (zdy s q.Page) (by simp) (by simp) (DL.o (by simp;exact⟨rfl,rfl⟩) (DL.nil ⟨by kernel_rfl,_,by simp;rfl,?_⟩)))))))
  rw[show z39 s q.Page=false by simp[z39,h0]] at key
  exact key
end Go.OT
namespace Go.OT
open Go.Proofs
theorem z6s {α:Type}{l:List α}{i:Nat}(h:i < l.length):l.take (i+1)=l.take i ++ [l[i]]:=List.take_succ_eq_append_getElem h
theorem zg4 {α:Type}{f:α→AU}{l:List α}{i:Nat}(h:i < l.length):List.take (i+1) (List.take i (List.take i (l.map f)) ++ [f l[i]])=(l.take (i+1)).map f:=by
 rw[List.take_take,Nat.min_self,List.take_of_length_le (by simp;omega),z6s h,List.map_append,List.map_take]
 rfl
set_option maxHeartbeats 1000000 in
theorem y9q (s:St)(hs:Sized s):FnC Try.prog 146 [] [z6m false s] [] (z6m true s):=by
 have h1:z0c s.There.length:=by have:=hs.t;unfold z0c;omega
 have h2:z0c s.Body.length:=by have:=hs.b;unfold z0c;omega
 have h3:z0c s.Handles.length:=by have:=hs.h;unfold z0c;omega
 refine FnC.go ypr rfl ?_
 refine WL.sreg (by simp;rfl) (by simp;rfl) ?_
 refine WL.sregC (RL.o (by simp;rfl) (RL.call0 false (zl2 s.There h1) (by simp) (by simp) (RL.o (by simp;rfl) (RL.nil ⟨_,by simp;rfl,?_⟩))))
 refine WL.nil1 302 true 1 (by simp) (WL.nil1 303 true 1 (by simp) ?_)
 refine WL.seq (WL.sreg (by simp;rfl) (by simp;rfl) ?_)
 refine WL.block (WL.count s.Body.length (fun i=>[(100,0,.bptr 1 1 0),(101,0,sB false s.There),(102,0,sUU false s.Body),(103,0,sII false s.Handles),(199,1,.non),(200,0,.bptr 2 1 0),(201,0,.sl true () 1 0 []),(202,0,.sl true () 1 0 []),(203,0,.sl true () 1 0 []),(299,1,.non),(300,0,.bptr 3 1 0),(301,0,sB true s.There),(302,0,sUU true (s.Body.take i)),(303,0,.sl true () 1 0 []),(399,1,.non),(1300,0,sUU false s.Body),(1400,0,i64 s.Body.length),(1500,0,i64 i)]) (fun _=>True) rfl trivial fun i hi _=>?_)
 by_cases h:i < s.Body.length
 ·have hb1:z0c (s.Body[i]).length:=by have:=hs.bs _ (List.getElem_mem h);unfold z0c;omega
  have hn:=hs.b
  have hm1:(i+1) * 24≤140737488355328:=by omega
  have hm2:i+1≤maxLen:=by unfold maxLen;omega
  refine WL.sreg (by simp[h];rfl) (by simp;rfl) ?_
  refine WL.seq (WL.cond (t:=true) (by simp) (fun _=>WL.skip ?_) (by simp))
  refine WL.seq (WL.block (WL.sreg (by simp[h];rfl) (by simp;rfl) ?_))
  refine WL.draw z0t (by simp[z09,noH]) (DL.o (by simp[hi];exact⟨rfl,rfl⟩) ?_)
  refine DL.call0 false (z5i s.Body[i] hb1) (by simp) (by simp) ?_
  refine DL.o (by simp[hm1,hm2];exact⟨rfl,rfl⟩) ?_
  refine DL.nil ⟨by kernel_rfl,_,by simp;rfl,?_⟩
  refine WL.reg (RL.run (by simp[z0n h2 h];rfl) ⟨_,by simp;rfl,h,?_,trivial⟩)
  have hg:=zg4 (f:=sU true) h
  simp[hg,Nat.min_eq_left h]
 ·refine WL.sreg (by simp[h];rfl) (by simp;rfl) ?_
  refine WL.seq (WL.cond (t:=false) (by simp) (by simp) fun _=>WL.exit ?_)
  have hi':i=s.Body.length:=by omega
  subst hi'
  refine WL.seq (WL.sreg (by simp;rfl) (by simp;rfl) ?_)
  refine WL.block (WL.count s.Handles.length (fun i=>[(200,0,.bptr 2 1 0),(201,0,.sl true () 1 0 []),(202,0,.sl true () 1 0 []),(203,0,.sl true () 1 0 []),(299,1,.non),(300,0,.bptr 3 1 0),(301,0,sB true s.There),(302,0,sUU true s.Body),(303,0,sII true (s.Handles.take i)),(399,1,.non),(2800,0,sII false s.Handles),(2900,0,i64 s.Handles.length),(3000,0,i64 i)]) (fun _=>True) (by simp) trivial fun i hi _=>?_)
  by_cases h:i < s.Handles.length
  ·have hb1:z0c (s.Handles[i]).length:=by have:=hs.hs _ (List.getElem_mem h);unfold z0c;omega
   have hn:=hs.h
   have hm1:(i+1) * 24≤140737488355328:=by omega
   have hm2:i+1≤maxLen:=by unfold maxLen;omega
   refine WL.sreg (by simp[h];rfl) (by simp;rfl) ?_
   refine WL.seq (WL.cond (t:=true) (by simp) (fun _=>WL.skip ?_) (by simp))
   refine WL.seq (WL.block (WL.sreg (by simp[h];rfl) (by simp;rfl) ?_))
   refine WL.draw z0t (by simp[z09,noH]) (DL.o (by simp[hi];exact⟨rfl,rfl⟩) ?_)
   refine DL.call0 false (zob s.Handles[i] hb1) (by simp) (by simp) ?_
   refine DL.o (by simp[hm1,hm2];exact⟨rfl,rfl⟩) ?_
   refine DL.nil ⟨by kernel_rfl,_,by simp;rfl,?_⟩
   refine WL.reg (RL.run (by simp[z0n h3 h];rfl) ⟨_,by simp;rfl,h,?_,trivial⟩)
   have hg:=zg4 (f:=sI true) h
   simp[hg,Nat.min_eq_left h]
  ·refine WL.sreg (by simp[h];rfl) (by simp;rfl) ?_
   refine WL.seq (WL.cond (t:=false) (by simp) (by simp) fun _=>WL.exit ?_)
   have hi':i=s.Handles.length:=by omega
   subst hi'
   refine WL.sreg (by simp;rfl) (by simp;rfl) ?_
   refine WL.ret ⟨.inr rfl,?_⟩
   simp[y8a]
end Go.OT
namespace Go.OT
open Go.Proofs
structure Rs where
 Code:Int
 Page:Int
 Handle:Int
 Data:List UInt8
 deriving DecidableEq
abbrev za2 (o:Bool)(r:Rs):AU:=.agg [i64 r.Code,i64 r.Page,i64 r.Handle,sU o r.Data]
def z1b (a b:Rs):Bool:=a.Code == b.Code && (a.Page == b.Page && (a.Handle == b.Handle && a.Data == b.Data))
set_option maxHeartbeats 4000000 in
theorem z41 (a b:Rs):FnC Try.prog 136 [] [za2 false a,za2 false b] [] (bl (z1b a b)):=by
 refine FnC.go ypx rfl ?_
 refine WL.sreg (by simp;rfl) (by simp;rfl) ?_
 cases e1:a.Code == b.Code with
 | false =>
  refine WL.sregC (RL.o (by simp[e1];rfl) (RL.g (by simp;rfl) (RL.o (by simp;rfl) (RL.g (by simp;rfl) (RL.o (by simp;rfl) (RL.g (by simp;rfl) (RL.callN (by simp) (RL.o (by simp;rfl) (RL.nil ⟨_,by simp;rfl,WL.ret ⟨.inr rfl,?_⟩⟩)))))))))
  simp[zoa,z1b,e1]
 | true =>
  cases e2:a.Page == b.Page with
  | false =>
   refine WL.sregC (RL.o (by simp[e1];rfl) (RL.g (by simp[e2];rfl) (RL.o (by simp;rfl) (RL.g (by simp;rfl) (RL.o (by simp;rfl) (RL.g (by simp;rfl) (RL.callN (by simp) (RL.o (by simp;rfl) (RL.nil ⟨_,by simp;rfl,WL.ret ⟨.inr rfl,?_⟩⟩)))))))))
   simp[zoa,z1b,e1,e2]
  | true =>
   cases e3:a.Handle == b.Handle with
   | false =>
    refine WL.sregC (RL.o (by simp[e1];rfl) (RL.g (by simp[e2];rfl) (RL.o (by simp;rfl) (RL.g (by simp[e3];rfl) (RL.o (by simp;rfl) (RL.g (by simp;rfl) (RL.callN (by simp) (RL.o (by simp;rfl) (RL.nil ⟨_,by simp;rfl,WL.ret ⟨.inr rfl,?_⟩⟩)))))))))
    simp[zoa,z1b,e1,e2,e3]
   | true =>
    refine WL.sregC (RL.o (by simp[e1];rfl) (RL.g (by simp[e2];rfl) (RL.o (by simp;rfl) (RL.g (by simp[e3];rfl) (RL.o (by simp;rfl) (RL.g (by simp;rfl) (RL.callY0 false (by simp) (z3h a.Data b.Data) (by simp) (by simp) (RL.o (by simp;rfl) (RL.nil ⟨_,by simp;rfl,WL.ret ⟨.inr rfl,?_⟩⟩)))))))))
    simp[zoa,z1b,e1,e2,e3]
end Go.OT
namespace Go.OT
open Go.Proofs
theorem zoi (o:Bool)(l:List Int)(k:Nat)(v:Int):(sI o (l.set k v):AU)=.sl o () 1 l.length ((l.map i64).set k (.sc (.int .i64 v))):=by
 simp[sI,List.map_set]
theorem zg5:∀ l:List UInt8,z1y (l.map fun b=>u8 (b.toNat:Int))=true
 | []=>rfl
 | _ :: l=>zg5 l
theorem yq0 (l:List UInt8)(a b:Nat):∀ x ∈ List.take a (List.drop b (l.map fun b=>u8 (b.toNat:Int))),zj5 x=true:=by
 intro x hx
 obtain⟨y,_,rfl⟩:=List.mem_map.1 (List.mem_of_mem_drop (List.mem_of_mem_take hx))
 rfl
theorem y9r (l:List UInt8)(a b:Nat):(∀ x ∈ List.take a (List.drop b (l.map fun b=>u8 (b.toNat:Int))),zj5 x=true) ↔ True:=⟨fun _=>trivial,fun _=>yq0 l a b⟩
theorem yq1 (n:Int):zj5 (u8 n)=true:=rfl
abbrev b1 (s:St)(c:Nat)(q:Op):SL:=[(100,0,.bptr 1 1 0),(101,0,sB false s.There),(102,0,sUU false s.Body),(103,0,sII false s.Handles),(104,0,i64 c),(105,0,i64 q.Kind),(106,0,i64 q.Page),(107,0,i64 q.Handle),(108,0,i64 q.Off),(109,0,i64 q.N),(110,0,sU false q.Data),(199,1,.non)]
abbrev b23:SL:=[(200,0,.bptr 2 1 0),(201,0,.sl true () 1 0 []),(202,0,.sl true () 1 0 []),(203,0,.sl true () 1 0 []),(299,1,.non),(300,0,.bptr 3 1 0),(301,0,i64 0),(302,0,i64 0),(303,0,i64 0),(304,0,.sl true () 1 0 []),(399,1,.non)]
abbrev b4 (t b h:AU):SL:=[(400,0,.bptr 4 1 0),(401,0,t),(402,0,b),(403,0,h),(499,1,.non)]
abbrev b5 (p h:Int)(d:AU):SL:=[(500,0,.bptr 5 1 0),(501,0,i64 0),(502,0,i64 p),(503,0,i64 h),(504,0,d),(599,1,.non)]
abbrev zg6:AU:=.sc (.slice none 0 0)
abbrev zxh (s:St)(c:Nat)(n:Nat)(q:Op):SL:=b1 s c q ++ (b23 ++ (b4 (sB true s.There) (sUU true s.Body) (sII true s.Handles) ++ (b5 0 0 zg6 ++ [(600,0,.view 403 0 [c] 0 n)])))
abbrev dIn (s:St)(c:Nat)(n:Nat)(q:Op)(k:Nat):SL:=zxh s c n q ++ [(1900,0,i64 q.Kind),(k,0,bl true)]
abbrev zsd (t b h:AU)(p k:Int)(d:AU):SL:=b23 ++ (b4 t b h ++ b5 p k d)
abbrev z4i (L':SL):Ex→SL→Prop:=fun e L=>e=Ex.nrm∧L=L'
set_option maxHeartbeats 4000000 in
theorem y9s (s:St)(hs:Sized s)(c:Nat)(hc:c < s.Handles.length)(q:Op)(i k:Nat)(hi:i < s.There.length)(hix:ixF (· == false) s.There 0=i)(hk:k < s.Handles[c].length)(hkx:ixF (· == -1) s.Handles[c] 0=k) :
  WL Try.prog za1.nt zwj (dIn s c s.Handles[c].length q 2000) (z4i (zsd (sB true (s.There.set i true)) (sUU true s.Body) (sII true (s.Handles.set c (s.Handles[c].set k i))) i k zg6)):=by
 have h1:z0c s.There.length:=by have:=hs.t;unfold z0c;omega
 have h2:z0c s.Handles[c].length:=by have:=hs.hs _ (List.getElem_mem hc);unfold z0c;omega
 have e1:=zcv s.There false h1
 have e2:=zbe s.Handles[c] (-1) h2
 rw[hix] at e1
 rw[hkx] at e2
 refine WL.sregC (RL.o (by simp;rfl) (RL.call0 true e1 (by simp) (by simp) (RL.o (by simp;rfl) (RL.nil ⟨_,by simp;rfl,?_⟩))))
 refine WL.sreg (by simp[hi,Nat.succ_le_of_lt hi];rfl) (by simp;rfl) ?_
 refine WL.sregC (RL.o (by simp[hc];rfl) (RL.call0 true e2 (by simp[hc]) (by simp) (RL.o (by simp;rfl) (RL.nil ⟨_,by simp;rfl,?_⟩))))
 refine WL.reg (RL.run (by simp[hc,hk,Nat.succ_le_of_lt hk];rfl) ⟨_,by simp;rfl,rfl,?_⟩)
 simp[List.map_set]
 rw[zoi]
set_option maxHeartbeats 4000000 in
theorem zse (s:St)(hs:Sized s)(c:Nat)(hc:c < s.Handles.length)(q:Op)(k:Nat)(hk:k < s.Handles[c].length)(hkx:ixF (· == -1) s.Handles[c] 0=k) :
  WL Try.prog za1.nt zwk (dIn s c s.Handles[c].length q 4000) (z4i (zsd (sB true s.There) (sUU true s.Body) (sII true (s.Handles.set c (s.Handles[c].set k q.Page))) q.Page k zg6)):=by
 have h2:z0c s.Handles[c].length:=by have:=hs.hs _ (List.getElem_mem hc);unfold z0c;omega
 have e2:=zbe s.Handles[c] (-1) h2
 rw[hkx] at e2
 refine WL.seq (WL.draw z0t (by simp[z09,noH]) (DL.o (by simp[hc];exact⟨rfl,rfl⟩) (DL.call0 true e2 (by simp[hc]) (by simp) (DL.o (by simp;exact⟨rfl,rfl⟩) (DL.nil ⟨by kernel_rfl,_,by simp;rfl,?_⟩)))))
 refine WL.reg (RL.run (by simp[hc,hk,Nat.succ_le_of_lt hk];rfl) ⟨_,by simp;rfl,rfl,?_⟩)
 simp[List.map_set]
 rw[zoi]
set_option maxHeartbeats 4000000 in
theorem zsf (s:St)(c:Nat)(hc:c < s.Handles.length)(q:Op)(k:Nat)(hk:k < s.Handles[c].length)(hq:q.Handle=k) :
  WL Try.prog za1.nt zwn (dIn s c s.Handles[c].length q 10000) (z4i (zsd (sB true s.There) (sUU true s.Body) (sII true (s.Handles.set c (s.Handles[c].set k (-1)))) 0 0 zg6)):=by
 refine WL.reg (RL.run (by simp[hc,hk,hq,Nat.succ_le_of_lt hk];rfl) ⟨_,by simp;rfl,rfl,?_⟩)
 simp[List.map_set]
 rw[zoi]
set_option maxHeartbeats 4000000 in
theorem zxi (s:St)(hs:Sized s)(c:Nat)(hc:c < s.Handles.length)(q:Op)(k:Nat)(hk:k < s.Handles[c].length)(hq:q.Handle=k)(m:Nat)(hm:s.Handles[c][k]=m)(hmb:m < s.Body.length)(o n:Nat)(ho:q.Off=o)(hn:q.N=n)(hon:o+n≤16)(h16:s.Body[m].length=16) :
  WL Try.prog za1.nt zwl (dIn s c s.Handles[c].length q 5500) (z4i (zsd (sB true s.There) (sUU true s.Body) (sII true s.Handles) 0 0 (sU true ((s.Body[m].drop o).take n)))):=by
 have h2:z0c ((s.Body[m].drop o).take n).length:=by simp only[List.length_take,List.length_drop];unfold z0c;omega
 have e2:=z5i ((s.Body[m].drop o).take n) h2
 obtain⟨e,he⟩:∃ e,e=o+n:=⟨_,rfl⟩
 have hw:IntKind.wrap .i64 ((o:Int)+(n:Int))=(e:Int):=by rw[z01 (by omega) (by omega)];omega
 have f1:o≤e:=by omega
 have f2:e≤16:=by omega
 have f3:e - o=n:=by omega
 refine WL.draw z0t (by simp[z09,noH]) (DL.o (by simp[hc,hk,hq,hm,hmb,ho,hn,h16,hw,f1,f2,f3,Nat.succ_le_of_lt hk,Nat.succ_le_of_lt hmb];exact⟨rfl,rfl⟩) ?_)
 have f4:min n (16 - o)=n:=by omega
 refine DL.call0 true e2 (by simp[-List.map_take,-List.map_drop,← List.map_take,← List.map_drop,hc,hmb,h16,f4]) (by simp[-List.map_take,-List.map_drop,zg5]) ?_
 refine DL.o (by simp;exact⟨rfl,rfl⟩) (DL.nil ⟨by kernel_rfl,_,by simp;rfl,rfl,?_⟩)
 simp[h16,f4,List.take_take]
def zi1 (b:List UInt8)(k:Nat)(d:List UInt8):List UInt8:=b.take k ++ d ++ b.drop (k+d.length)
theorem zxj {b:List UInt8}{o:Nat}{d:List UInt8}(h:b.length=16)(hd:o+d.length≤16):(sU true (zi1 b o d):AU)=.sl true () 1 16 (z38 (b.map fun b=>u8 (b.toNat:Int)) o (d.map fun b=>u8 (b.toNat:Int))):=by
 have:(zi1 b o d).length=16:=by simp only[zi1,List.length_append,List.length_take,List.length_drop];omega
 show (AV.sl true () 1 (zi1 b o d).length ((zi1 b o d).map _):AU)=_
 rw[this]
 simp only[zi1,z38,List.map_append,List.map_take,List.map_drop,List.length_map]
set_option maxHeartbeats 4000000 in
theorem zsg (s:St)(hs:Sized s)(c:Nat)(hc:c < s.Handles.length)(q:Op)(k:Nat)(hk:k < s.Handles[c].length)(hq:q.Handle=k)(m:Nat)(hm:s.Handles[c][k]=m)(hmb:m < s.Body.length)(o:Nat)(ho:q.Off=o)(hon:o+q.Data.length≤16)(h16:s.Body[m].length=16) :
  WL Try.prog za1.nt zwm (dIn s c s.Handles[c].length q 8000) (z4i (zsd (sB true s.There) (sUU true (s.Body.set m (zi1 s.Body[m] o q.Data))) (sII true s.Handles) 0 0 zg6)):=by
 have f1:o≤16:=by omega
 have f4:min q.Data.length (16 - o)=q.Data.length:=by omega
 refine WL.draw z0t (by simp[z09,noH]) (DL.o (by simp[-zj5,y9r,yq1,hon,f4,hc,hk,hq,hm,hmb,ho,h16,f1,Nat.succ_le_of_lt hk,Nat.succ_le_of_lt hmb];exact⟨rfl,rfl⟩) (DL.nil ⟨by kernel_rfl,_,by simp;rfl,rfl,?_⟩))
 simp[List.map_set]
 rw[zxj h16 hon]
set_option maxHeartbeats 4000000 in
theorem zoj (s:St)(c:Nat)(n:Nat)(q:Op)(m:Nat)(hq:q.Page=m)(ht:m < s.There.length)(hb:m < s.Body.length) :
  WL Try.prog za1.nt zwo (b1 s c q ++ (b23 ++ (b4 (sB true s.There) (sUU true s.Body) (sII true s.Handles) ++ (b5 0 0 zg6 ++ [(10700,0,bl true)])))) (z4i (zsd (sB true (s.There.set m false)) (sUU true (s.Body.set m (List.replicate 16 0))) (sII true s.Handles) 0 0 zg6)):=by
 refine WL.draw z0t (by simp[z09,noH]) (DL.o (by simp[hq,ht,hb,z8i,Nat.succ_le_of_lt ht,Nat.succ_le_of_lt hb];exact⟨rfl,rfl⟩) (DL.nil ⟨by kernel_rfl,_,by simp;rfl,rfl,?_⟩))
 simp[List.map_set]
 rfl
set_option maxHeartbeats 4000000 in
theorem zu9 (T:List Bool)(B:List (List UInt8))(Hs:List (List Int))(p k:Int)(d:List UInt8):WL Try.prog za1.nt zu5 (zsd (sB true T) (sUU true B) (sII true Hs) p k (sU true d)) fun e L=>(e=Ex.nrm∨e=Ex.ret)∧RetOk za1.rs [] (.tuple [z6m true ⟨T,B,Hs⟩,za2 true ⟨0,p,k,d⟩]) L:=by
 refine WL.seq (WL.draw z0t (by simp[z09,noH]) (DL.o (by simp;exact⟨rfl,rfl⟩) (DL.nil ⟨by kernel_rfl,_,by simp;rfl,?_⟩)))
 refine WL.ret ⟨.inr rfl,?_⟩
 simp[za1]
set_option maxHeartbeats 4000000 in
theorem zg7 (s:St)(hs:Sized s)(c:Nat)(hc:c < s.Handles.length)(q:Op)(T:List Bool)(B:List (List UInt8))(Hs:List (List Int))(p k:Int)(d:List UInt8)(dt:AU)(hd:dt=sU true d∨(dt=zg6∧d=[]))
  (h:WL Try.prog za1.nt z83 (zxh s c s.Handles[c].length q ++ [(1900,0,i64 q.Kind)]) (z4i (zsd (sB true T) (sUU true B) (sII true Hs) p k dt))):FnC Try.prog 99 [] [ymb false s c q] [] (.tuple [z6m true ⟨T,B,Hs⟩,za2 true ⟨0,p,k,d⟩]):=by
 refine FnC.go yya rfl ?_
 refine WL.sreg (by simp;rfl) (by simp;rfl) ?_
 refine WL.sregC (RL.o (by simp;rfl) (RL.call0 false (y9q s hs) (by simp) (by simp) (RL.o (by simp;rfl) (RL.nil ⟨_,by simp;rfl,?_⟩))))
 refine WL.sreg (by simp[hc,Nat.succ_le_of_lt hc];rfl) (by simp;rfl) ?_
 refine WL.seq (WL.sreg (by simp;rfl) (by simp;rfl) ?_)
 refine WL.mono h fun e L ⟨h1,h2⟩=>?_
 subst h1 h2
 rcases hd with rfl | ⟨rfl,rfl⟩
 ·exact zu9 T B Hs p k d
 ·refine WL.nil1 504 true 1 (by simp) ?_
  exact zu9 T B Hs p k []
end Go.OT
namespace Go.OT
open Go.Proofs
abbrev dGo (s:St)(c:Nat)(n:Nat)(q:Op):SL:=zxh s c n q ++ [(1900,0,i64 q.Kind)]
theorem z8v {cc:Cd}{L L':SL}{P:Program}{nt i:Nat}(h:WL P nt cc L (z4i L')):WL P nt cc L (Ex.blkL i (z4i L')) :=
 h.mono fun e L1 ⟨h1,h2⟩=>by subst h1;exact⟨rfl,h2⟩
set_option maxHeartbeats 4000000 in
theorem yyc (s:St)(c n:Nat)(q:Op)(L':SL)(hk:q.Kind=1)(h:WL Try.prog za1.nt zwj (dIn s c n q 2000) (z4i L')):WL Try.prog za1.nt z83 (dGo s c n q) (z4i L'):=by
 obtain⟨K,P,hd,o,nn,d⟩:=q
 cases hk
 refine WL.block (WL.sreg (by first | (simp;done) | (simp;rfl)) (by first | (simp;done) | (simp;rfl)) (WL.cond (t:=true) (by simp) (fun _=>z8v h) (by simp)))
set_option maxHeartbeats 4000000 in
theorem yyd (s:St)(c n:Nat)(q:Op)(L':SL)(hk:q.Kind=2)(h:WL Try.prog za1.nt zwk (dIn s c n q 4000) (z4i L')):WL Try.prog za1.nt z83 (dGo s c n q) (z4i L'):=by
 obtain⟨K,P,hd,o,nn,d⟩:=q
 cases hk
 refine WL.block (WL.sreg (by first | (simp;done) | (simp;rfl)) (by first | (simp;done) | (simp;rfl)) (WL.cond (t:=false) (by simp) (by simp) fun _=>?_))
 refine WL.sreg (by first | (simp;done) | (simp;rfl)) (by first | (simp;done) | (simp;rfl)) (WL.cond (t:=true) (by simp) (fun _=>z8v h) (by simp))
set_option maxHeartbeats 4000000 in
theorem yye (s:St)(c n:Nat)(q:Op)(L':SL)(hk:q.Kind=3)(h:WL Try.prog za1.nt zwl (dIn s c n q 5500) (z4i L')):WL Try.prog za1.nt z83 (dGo s c n q) (z4i L'):=by
 obtain⟨K,P,hd,o,nn,d⟩:=q
 cases hk
 refine WL.block (WL.sreg (by first | (simp;done) | (simp;rfl)) (by first | (simp;done) | (simp;rfl)) (WL.cond (t:=false) (by simp) (by simp) fun _=>?_))
 refine WL.sreg (by first | (simp;done) | (simp;rfl)) (by first | (simp;done) | (simp;rfl)) (WL.cond (t:=false) (by simp) (by simp) fun _=>?_)
 refine WL.sreg (by first | (simp;done) | (simp;rfl)) (by first | (simp;done) | (simp;rfl)) (WL.cond (t:=true) (by simp) (fun _=>z8v h) (by simp))
set_option maxHeartbeats 4000000 in
theorem yyf (s:St)(c n:Nat)(q:Op)(L':SL)(hk:q.Kind=4)(h:WL Try.prog za1.nt zwm (dIn s c n q 8000) (z4i L')):WL Try.prog za1.nt z83 (dGo s c n q) (z4i L'):=by
 obtain⟨K,P,hd,o,nn,d⟩:=q
 cases hk
 refine WL.block (WL.sreg (by first | (simp;done) | (simp;rfl)) (by first | (simp;done) | (simp;rfl)) (WL.cond (t:=false) (by simp) (by simp) fun _=>?_))
 refine WL.sreg (by first | (simp;done) | (simp;rfl)) (by first | (simp;done) | (simp;rfl)) (WL.cond (t:=false) (by simp) (by simp) fun _=>?_)
 refine WL.sreg (by first | (simp;done) | (simp;rfl)) (by first | (simp;done) | (simp;rfl)) (WL.cond (t:=false) (by simp) (by simp) fun _=>?_)
 refine WL.sreg (by first | (simp;done) | (simp;rfl)) (by first | (simp;done) | (simp;rfl)) (WL.cond (t:=true) (by simp) (fun _=>z8v h) (by simp))
set_option maxHeartbeats 4000000 in
theorem yyg (s:St)(c n:Nat)(q:Op)(L':SL)(hk:q.Kind=5)(h:WL Try.prog za1.nt zwn (dIn s c n q 10000) (z4i L')):WL Try.prog za1.nt z83 (dGo s c n q) (z4i L'):=by
 obtain⟨K,P,hd,o,nn,d⟩:=q
 cases hk
 refine WL.block (WL.sreg (by first | (simp;done) | (simp;rfl)) (by first | (simp;done) | (simp;rfl)) (WL.cond (t:=false) (by simp) (by simp) fun _=>?_))
 refine WL.sreg (by first | (simp;done) | (simp;rfl)) (by first | (simp;done) | (simp;rfl)) (WL.cond (t:=false) (by simp) (by simp) fun _=>?_)
 refine WL.sreg (by first | (simp;done) | (simp;rfl)) (by first | (simp;done) | (simp;rfl)) (WL.cond (t:=false) (by simp) (by simp) fun _=>?_)
 refine WL.sreg (by first | (simp;done) | (simp;rfl)) (by first | (simp;done) | (simp;rfl)) (WL.cond (t:=false) (by simp) (by simp) fun _=>?_)
 refine WL.sreg (by first | (simp;done) | (simp;rfl)) (by first | (simp;done) | (simp;rfl)) (WL.cond (t:=true) (by simp) (fun _=>z8v h) (by simp))
set_option maxHeartbeats 4000000 in
theorem yyh (s:St)(c n:Nat)(q:Op)(L':SL)(hk:q.Kind=8)(h:WL Try.prog za1.nt zwo (b1 s c q ++ (b23 ++ (b4 (sB true s.There) (sUU true s.Body) (sII true s.Handles) ++ (b5 0 0 zg6 ++ [(10700,0,bl true)])))) (z4i L')):WL Try.prog za1.nt z83 (dGo s c n q) (z4i L'):=by
 obtain⟨K,P,hd,o,nn,d⟩:=q
 cases hk
 refine WL.block (WL.sreg (by first | (simp;done) | (simp;rfl)) (by first | (simp;done) | (simp;rfl)) (WL.cond (t:=false) (by simp) (by simp) fun _=>?_))
 refine WL.sreg (by first | (simp;done) | (simp;rfl)) (by first | (simp;done) | (simp;rfl)) (WL.cond (t:=false) (by simp) (by simp) fun _=>?_)
 refine WL.sreg (by first | (simp;done) | (simp;rfl)) (by first | (simp;done) | (simp;rfl)) (WL.cond (t:=false) (by simp) (by simp) fun _=>?_)
 refine WL.sreg (by first | (simp;done) | (simp;rfl)) (by first | (simp;done) | (simp;rfl)) (WL.cond (t:=false) (by simp) (by simp) fun _=>?_)
 refine WL.sreg (by first | (simp;done) | (simp;rfl)) (by first | (simp;done) | (simp;rfl)) (WL.cond (t:=false) (by simp) (by simp) fun _=>?_)
 refine WL.sreg (by first | (simp;done) | (simp;rfl)) (by first | (simp;done) | (simp;rfl)) (WL.cond (t:=true) (by simp) (fun _=>z8v h) (by simp))
set_option maxHeartbeats 4000000 in
theorem yxi (s:St)(c n:Nat)(q:Op)(hk:¬ (q.Kind=1∨q.Kind=2∨q.Kind=3∨q.Kind=4∨q.Kind=5∨q.Kind=8)):WL Try.prog za1.nt z83 (dGo s c n q) (z4i (zsd (sB true s.There) (sUU true s.Body) (sII true s.Handles) 0 0 zg6)):=by
 have e1:(q.Kind == 1)=false:=by simp;omega
 have e2:(q.Kind == 2)=false:=by simp;omega
 have e3:(q.Kind == 3)=false:=by simp;omega
 have e4:(q.Kind == 4)=false:=by simp;omega
 have e5:(q.Kind == 5)=false:=by simp;omega
 have e8:(q.Kind == 8)=false:=by simp;omega
 refine WL.block (WL.sreg (by first | (simp;done) | (simp;rfl)) (by first | (simp;done) | (simp;rfl)) (WL.cond (t:=false) (by simp[e1]) (by simp) fun _=>?_))
 refine WL.sreg (by first | (simp;done) | (simp;rfl)) (by first | (simp;done) | (simp;rfl)) (WL.cond (t:=false) (by simp[e2]) (by simp) fun _=>?_)
 refine WL.sreg (by first | (simp;done) | (simp;rfl)) (by first | (simp;done) | (simp;rfl)) (WL.cond (t:=false) (by simp[e3]) (by simp) fun _=>?_)
 refine WL.sreg (by first | (simp;done) | (simp;rfl)) (by first | (simp;done) | (simp;rfl)) (WL.cond (t:=false) (by simp[e4]) (by simp) fun _=>?_)
 refine WL.sreg (by first | (simp;done) | (simp;rfl)) (by first | (simp;done) | (simp;rfl)) (WL.cond (t:=false) (by simp[e5]) (by simp) fun _=>?_)
 refine WL.sreg (by first | (simp;done) | (simp;rfl)) (by first | (simp;done) | (simp;rfl)) (WL.cond (t:=false) (by simp[e8]) (by simp) fun _=>?_)
 refine WL.fin [1,107] (by first | (simp;done) | (simp;rfl)) (WL.skip ⟨rfl,?_⟩)
 simp
end Go.OT
namespace Go.OT
open Go.Proofs
def rsE (e:Int):Rs:=⟨e,0,0,[]⟩
def z29 (s:St)(cl:Int):Bool:=!May s || (decide (cl < 0) || decide ((s.Handles.length:Int)≤cl))
abbrev DQ (v:AU):Ex→SL→Prop:=fun e L=>(e=Ex.nrm∨e=Ex.ret)∧RetOk zu4.rs [] v L
abbrev RQ (v:AU):Ex→SL→Prop:=fun e L=>e=Ex.ret∧RetOk zu4.rs [] v L
abbrev zxk (s:St)(cl:Int)(q:Op):SL:=[(100,0,i64 cl),(300,0,.bptr 3 1 0),(301,0,sB false s.There),(302,0,sUU false s.Body),(303,0,sII false s.Handles),(399,1,.non),(500,0,.bptr 5 1 0),(501,0,i64 q.Kind),(502,0,i64 q.Page),(503,0,i64 q.Handle),(504,0,i64 q.Off),(505,0,i64 q.N),(506,0,sU false q.Data),(599,1,.non)]
abbrev yq2:SL:=[(600,0,.bptr 6 1 0),(601,0,.sl true () 1 0 []),(602,0,.sl true () 1 0 []),(603,0,.sl true () 1 0 []),(699,1,.non),(700,0,.bptr 7 1 0),(701,0,i64 0),(702,0,i64 0),(703,0,i64 0),(704,0,.sl true () 1 0 []),(799,1,.non)]
set_option maxHeartbeats 4000000 in
theorem zi2 (s:St)(hs:Sized s)(cl:Int)(q:Op)(v:AU)(h1:z29 s cl=true→WL Try.prog zu4.nt y5c (zxk s cl q ++ (yq2 ++ [(2300,0,bl true)])) (RQ v))
  (h2:z29 s cl=false→WL Try.prog zu4.nt y5d (zxk s cl q ++ (yq2 ++ [(2300,0,bl false)])) (DQ v)):FnC Try.prog 44 [] [z6m false s,i64 cl,zqz false q] [] v:=by
 refine FnC.go yy6 rfl ?_
 refine WL.sreg (by simp;rfl) (by simp;rfl) ?_
 refine WL.seq (WL.join (zxk s cl q ++ (yq2 ++ [(2300,0,bl (z29 s cl))])) ?_ ?_)
 ·by_cases hm:May s=true
  ·by_cases g1:cl < 0
   ·refine WL.reg (RL.o (by simp;rfl) (RL.call0 false (zcy s hs) (by simp) (by simp) (RL.o (by simp[hm];rfl) (RL.g (by simp;rfl) (RL.o (by simp[g1];rfl) (RL.g (by simp;rfl) (RL.o (by simp;rfl) (RL.nil ⟨_,by simp;rfl,rfl,?_⟩))))))))
    simp[z29,hm,g1]
   ·refine WL.reg (RL.o (by simp;rfl) (RL.call0 false (zcy s hs) (by simp) (by simp) (RL.o (by simp[hm];rfl) (RL.g (by simp;rfl) (RL.o (by simp[g1];rfl) (RL.g (by simp;rfl) (RL.o (by simp;rfl) (RL.nil ⟨_,by simp;rfl,rfl,?_⟩))))))))
    simp[z29,hm,g1]
  ·have hm':May s=false:=by simpa using hm
   refine WL.reg (RL.o (by simp;rfl) (RL.call0 false (zcy s hs) (by simp) (by simp) (RL.o (by simp[hm'];rfl) (RL.g (by simp;rfl) (RL.o (by simp;rfl) (RL.g (by simp;rfl) (RL.o (by simp;rfl) (RL.nil ⟨_,by simp;rfl,rfl,?_⟩))))))))
   simp[z29,hm']
 ·cases hb:z29 s cl with
  | true =>
   refine WL.cond (t:=true) (by simp) (fun _=>?_) (by simp)
   exact (h1 hb).mono fun e L ⟨h,h'⟩=>by subst h;exact⟨.inr rfl,h'⟩
  | false =>
   refine WL.cond (t:=false) (by simp) (by simp) (fun _=>WL.skip ?_)
   exact h2 hb
set_option maxHeartbeats 4000000 in
theorem zxl (s:St)(hs:Sized s)(cl:Int)(q:Op)(hn:z29 s cl=true):FnC Try.prog 44 [] [z6m false s,i64 cl,zqz false q] [] (.tuple [z6m false s,za2 true (rsE 1)]):=by
 refine zi2 s hs cl q _ (fun _=>?_) (fun h=>by rw[hn] at h;cases h)
 refine WL.sreg (by simp;rfl) (by simp;rfl) ?_
 refine WL.nil1 704 true 1 (by simp) (WL.ret ⟨rfl,?_⟩)
 simp[zu4,rsE]
set_option maxHeartbeats 4000000 in
theorem zxm (s:St)(hs:Sized s)(c:Nat)(hc:c < s.Handles.length)(h6:s.Handles[c].length=6)(q:Op)(hn:z29 s c=false)(he:z06 s s.Handles[c] q ≠ 0):FnC Try.prog 44 [] [z6m false s,i64 c,zqz false q] [] (.tuple [z6m false s,za2 true (rsE (z06 s s.Handles[c] q))]):=by
 refine zi2 s hs c q _ (fun h=>by rw[hn] at h;cases h) (fun _=>?_)
 refine WL.sreg (by simp;rfl) (by simp;rfl) ?_
 refine WL.seq (WL.sregC (RL.o (by simp;rfl) (RL.call0 false (zoh s hs c hc h6 q) (by simp) (by simp) (RL.o (by simp;rfl) (RL.nil ⟨_,by simp;rfl,?_⟩)))))
 have hb:(z06 s s.Handles[c] q != 0)=true:=by simp[he]
 refine WL.sreg (by simp;rfl) (by simp;rfl) (WL.cond (t:=true) (by simp[hb]) (fun _=>?_) (by simp))
 refine WL.sreg (by simp;rfl) (by simp;rfl) ?_
 refine WL.nil1 704 true 1 (by simp) (WL.ret ⟨.inr rfl,?_⟩)
 simp[zu4,rsE]
set_option maxHeartbeats 4000000 in
theorem yq3 (s:St)(hs:Sized s)(c:Nat)(hc:c < s.Handles.length)(h6:s.Handles[c].length=6)(q:Op)(hn:z29 s c=false)(he:z06 s s.Handles[c] q=0)(s':St)(r:Rs)(hd:FnC Try.prog 99 [] [ymb false s c q] [] (.tuple [z6m true s',za2 true r])):FnC Try.prog 44 [] [z6m false s,i64 c,zqz false q] [] (.tuple [z6m true s',za2 true r]):=by
 refine zi2 s hs c q _ (fun h=>by rw[hn] at h;cases h) (fun _=>?_)
 refine WL.sreg (by simp;rfl) (by simp;rfl) ?_
 have e35:=zoh s hs c hc h6 q
 rw[he] at e35
 refine WL.seq (WL.sregC (RL.o (by simp;rfl) (RL.call0 false e35 (by simp) (by simp) (RL.o (by simp;rfl) (RL.nil ⟨_,by simp;rfl,?_⟩)))))
 refine WL.sreg (by simp;rfl) (by simp;rfl) (WL.cond (t:=false) (by simp) (by simp) (fun _=>WL.skip ?_))
 refine WL.sregC (RL.o (by simp;rfl) (RL.call0 false hd (by simp) (by simp) (RL.o (by simp;rfl) (RL.nil ⟨_,by simp;rfl,?_⟩))))
 refine WL.ret ⟨.inr rfl,?_⟩
 simp[zu4]
end Go.OT
namespace Go.OT
open Go.Proofs
structure OkSt (s:St):Prop where
 n1:1≤s.There.length
 n2:s.There.length≤48
 bn:s.Body.length=s.There.length
 h1:1≤s.Handles.length
 h2:s.Handles.length≤6
 b16:∀ b ∈ s.Body,b.length=16
 zero:∀ (i:Nat) (hi:i < s.Body.length),s.There.getD i false=false→s.Body[i]=List.replicate 16 0
 l6:∀ l ∈ s.Handles,l.length=6
 hp:∀ l ∈ s.Handles,∀ p ∈ l,p=-1∨z2k s p=true
theorem OkSt.sized {s:St}(h:OkSt s):Sized s :=
 ⟨by have:=h.n2;omega,by have:=h.n2;have:=h.bn;omega,by have:=h.h2;omega,fun b hb=>by rw[h.b16 b hb];omega,fun l hl=>by rw[h.l6 l hl];omega⟩
theorem z9c (s:St):∀ (l:List (List UInt8)) (i:Nat),z3n s i l=true ↔ ∀ (j:Nat) (hj:j < l.length),zg3 s (i+j) l[j]=true
 | [],i=>by simp[z3n]
 | b :: l,i=>by
  simp only[z3n,Bool.and_eq_true,z9c s l (i+1)]
  constructor
  ·intro⟨h1,h2⟩ j hj
   cases j with
   | zero=>exact h1
   | succ j =>
    have:=h2 j (by simpa using hj)
    simpa [show i+1+j=i+(j+1) by omega] using this
  ·intro h
   refine⟨h 0 (by simp),fun j hj=>?_⟩
   have:=h (j+1) (by simpa using hj)
   simpa [show i+1+j=i+(j+1) by omega] using this
theorem zbf (s:St):May s=true ↔ OkSt s:=by
 simp only[May,Bool.and_eq_true,decide_eq_true_eq,z9c,List.all_eq_true]
 constructor
 ·intro⟨⟨⟨⟨⟨⟨a,b⟩,c⟩,d⟩,e⟩,f⟩,g⟩
  have f':∀ (j:Nat) (hj:j < s.Body.length),s.Body[j].length=16∧(s.There.getD j false=false→s.Body[j]=List.replicate 16 0):=fun j hj=>by
   have:=f j hj
   simp only[zg3,Nat.zero_add,Bool.and_eq_true,decide_eq_true_eq,Bool.or_eq_true,beq_iff_eq] at this
   exact⟨this.1,fun h=>this.2.elim (fun h'=>by rw[h] at h';cases h') id⟩
  refine⟨a,b,c,d,e,fun x hx=>?_,fun i hi h=>(f' i hi).2 h,fun l hl=>?_,fun l hl p hp=>?_⟩
  ·obtain⟨j,hj,rfl⟩:=List.mem_iff_getElem.1 hx
   exact (f' j hj).1
  ·have:=g l hl
   simp only[z9b,Bool.and_eq_true,decide_eq_true_eq] at this
   exact this.1
  ·have:=g l hl
   simp only[z9b,Bool.and_eq_true,Bool.not_eq_true',List.any_eq_false] at this
   have:=this.2 p hp
   simp only[zu8,Bool.and_eq_true,bne_iff_ne,Bool.not_eq_true',not_and,Bool.not_eq_false] at this
   by_cases e:p=-1
   ·exact .inl e
   ·exact .inr (this e)
 ·intro h
  refine⟨⟨⟨⟨⟨⟨h.n1,h.n2⟩,h.bn⟩,h.h1⟩,h.h2⟩,fun j hj=>?_⟩,fun l hl=>?_⟩
  ·simp only[zg3,Nat.zero_add,Bool.and_eq_true,decide_eq_true_eq,Bool.or_eq_true,beq_iff_eq]
   refine⟨h.b16 _ (List.getElem_mem hj),?_⟩
   cases e:s.There.getD j false with
   | true=>exact .inl rfl
   | false=>exact .inr (h.zero j hj e)
  ·simp only[z9b,Bool.and_eq_true,decide_eq_true_eq,Bool.not_eq_true',List.any_eq_false]
   refine⟨h.l6 l hl,fun p hp=>?_⟩
   simp only[zu8,Bool.and_eq_true,bne_iff_ne,Bool.not_eq_true',not_and,Bool.not_eq_false]
   intro e
   exact (h.hp l hl p hp).resolve_left e
end Go.OT
namespace Go.OT
open Go.Proofs
theorem zjo {α:Type}(p:α→Bool):∀ (l:List α) (n:Nat),l.any p=true→∃ i,∃ h:i < l.length,ixF p l n=((n+i:Nat):Int)∧p l[i]=true
 | [],n,h=>by simp at h
 | x :: l,n,h=>by
  simp only[ixF]
  by_cases e:p x=true
  ·exact⟨0,by simp,by simp[e],e⟩
  ·have h':l.any p=true:=by simpa [e] using h
   obtain⟨i,hi,h1,h2⟩:=zjo p l (n+1) h'
   refine⟨i+1,by simpa using hi,?_,by simpa using h2⟩
   rw[if_neg e,h1]
   congr 1
   omega
def ix {α:Type}(p:α→Bool)(l:List α):Nat:=(ixF p l 0).toNat
theorem z61 {α:Type}{p:α→Bool}{l:List α}(h:l.any p=true):∃ hi:ix p l < l.length,ixF p l 0=(ix p l:Int)∧p l[ix p l]=true:=by
 obtain⟨i,hi,h1,h2⟩:=zjo p l 0 h
 rw[Nat.zero_add] at h1
 have e:ix p l=i:=by simp[ix,h1]
 subst e
 exact⟨hi,h1,h2⟩
def z4j (s:St)(c:Nat)(q:Op):St × Rs :=
 let l:=s.Handles.getD c []
 if q.Kind=1 then (⟨s.There.set (ix (· == false) s.There) true,s.Body,s.Handles.set c (l.set (ix (· == -1) l) (ix (· == false) s.There:Nat))⟩,⟨0,(ix (· == false) s.There:Nat),(ix (· == -1) l:Nat),[]⟩)
 else if q.Kind=2 then (⟨s.There,s.Body,s.Handles.set c (l.set (ix (· == -1) l) q.Page)⟩,⟨0,q.Page,(ix (· == -1) l:Nat),[]⟩)
 else if q.Kind=3 then (s,⟨0,0,0,((s.Body.getD (l.getD q.Handle.toNat 0).toNat []).drop q.Off.toNat).take q.N.toNat⟩)
 else if q.Kind=4 then (⟨s.There,s.Body.set (l.getD q.Handle.toNat 0).toNat (zi1 (s.Body.getD (l.getD q.Handle.toNat 0).toNat []) q.Off.toNat q.Data),s.Handles⟩,⟨0,0,0,[]⟩)
 else if q.Kind=5 then (⟨s.There,s.Body,s.Handles.set c (l.set q.Handle.toNat (-1))⟩,⟨0,0,0,[]⟩)
 else if q.Kind=8 then (⟨s.There.set q.Page.toNat false,s.Body.set q.Page.toNat (List.replicate 16 0),s.Handles⟩,⟨0,0,0,[]⟩)
 else (s,⟨0,0,0,[]⟩)
theorem zxn (s:St)(hok:OkSt s)(c:Nat)(hc:c < s.Handles.length)(q:Op)(h0:z06 s s.Handles[c] q=0):FnC Try.prog 99 [] [ymb false s c q] [] (.tuple [z6m true (z4j s c q).1,za2 true (z4j s c q).2]):=by
 have hs:=hok.sized
 have hl:s.Handles.getD c []=s.Handles[c]:=by simp[hc]
 have h6:s.Handles[c].length=6:=hok.l6 _ (List.getElem_mem hc)
 by_cases k1:q.Kind=1
 ·have hr:zen s.Handles[c]=true:=by
   simp only[z06,k1,if_true] at h0
   split at h0
   ·cases h0
   ·rename_i h;simpa using h
  have hf:s.There.any (· == false)=true:=by
   simp only[z06,k1,if_true,hr] at h0
   split at h0
   ·rename_i h;cases h
   ·split at h0
    ·cases h0
    ·rename_i h;simpa using h
  obtain⟨i1,i2,i3⟩:=z61 hf
  obtain⟨j1,j2,j3⟩:=z61 hr
  have:=zg7 s hs c hc q _ _ _ _ _ [] zg6 (.inr ⟨rfl,rfl⟩) (yyc s c _ q _ k1 (y9s s hs c hc q _ _ i1 i2 j1 j2))
  simpa only [z4j,k1,if_true,hl] using this
 by_cases k2:q.Kind=2∨q.Kind=6∨q.Kind=8
 ·have hpg:z39 s q.Page=true∧z2k s q.Page=true∧¬ (q.Kind=2∧zen s.Handles[c]=false):=by
   rw[z06,if_neg k1,if_pos k2] at h0
   split at h0
   ·cases h0
   rename_i a1
   split at h0
   ·cases h0
   rename_i a2
   split at h0
   ·cases h0
   rename_i a3
   exact⟨by simpa using a1,by simpa using a2,a3⟩
  obtain⟨p1,p2,p3⟩:=hpg
  by_cases e2:q.Kind=2
  ·have hr:zen s.Handles[c]=true:=by
    cases e:zen s.Handles[c] with
    | true=>rfl
    | false=>exact absurd ⟨e2,e⟩ p3
   obtain⟨j1,j2,j3⟩:=z61 hr
   have:=zg7 s hs c hc q _ _ _ _ _ [] zg6 (.inr ⟨rfl,rfl⟩) (yyd s c _ q _ e2 (zse s hs c hc q _ j1 j2))
   simpa [z4j,e2,hc] using this
  by_cases e8:q.Kind=8
  ·simp only[z39,Bool.and_eq_true,decide_eq_true_eq] at p1
   obtain⟨m,hm⟩:=Int.eq_ofNat_of_zero_le p1.1
   have hm1:m < s.There.length:=by omega
   have hm2:m < s.Body.length:=by rw[hok.bn];exact hm1
   have:=zg7 s hs c hc q _ _ _ _ _ [] zg6 (.inr ⟨rfl,rfl⟩) (yyh s c s.Handles[c].length q _ e8 (zoj s c 0 q m hm hm1 hm2))
   simpa [z4j,e8,hm] using this
  ·have:=zg7 s hs c hc q _ _ _ _ _ [] zg6 (.inr ⟨rfl,rfl⟩) (yxi s c s.Handles[c].length q (by omega))
   have k:¬ q.Kind=3∧¬ q.Kind=4∧¬ q.Kind=5:=by omega
   simpa [z4j,k1,e2,e8,k] using this
 by_cases k3:q.Kind=3∨q.Kind=4∨q.Kind=5
 ·have hh:z5p s.Handles[c] q.Handle=false∧z3i q (if q.Kind=4 then q.Data.length else q.N)=false:=by
   rw[z06,if_neg k1,if_neg k2,if_pos k3] at h0
   generalize (if q.Kind=4 then (q.Data.length:Int) else q.N)=nn at h0 ⊢
   split at h0
   ·cases h0
   rename_i a1
   split at h0
   ·cases h0
   rename_i a2
   exact⟨by simpa using a1,by simpa using a2⟩
  obtain⟨p1,p2⟩:=hh
  simp only[z5p,Bool.or_eq_false_iff,decide_eq_false_iff_not,beq_eq_false_iff_ne] at p1
  obtain⟨k,hk⟩:=Int.eq_ofNat_of_zero_le (a:=q.Handle) (by omega)
  have hk6:k < s.Handles[c].length:=by omega
  have hne:s.Handles[c][k] ≠ -1:=by
   have:=p1.2.2
   simpa [hk,hk6] using this
  have hth:=(hok.hp _ (List.getElem_mem hc) _ (List.getElem_mem hk6)).resolve_left hne
  simp only[z2k,Bool.and_eq_true,decide_eq_true_eq] at hth
  obtain⟨m,hm⟩:=Int.eq_ofNat_of_zero_le hth.1
  have hmt:m < s.There.length:=by
   have:=hth.2
   rw[hm] at this
   by_cases h:m < s.There.length
   ·exact h
   ·simp[h] at this
  have hmb:m < s.Body.length:=by rw[hok.bn];exact hmt
  have h16:=hok.b16 _ (List.getElem_mem hmb)
  by_cases e5:q.Kind=5
  ·have:=zg7 s hs c hc q _ _ _ _ _ [] zg6 (.inr ⟨rfl,rfl⟩) (yyg s c _ q _ e5 (zsf s c hc q k hk6 hk))
   simpa [z4j,e5,hc,hk] using this
  simp only[z3i,bne_iff_ne,ne_eq,e5,not_false_eq_true,Bool.and_eq_false_iff,Bool.or_eq_false_iff,decide_eq_false_iff_not] at p2
  have p2:=p2.resolve_left (by simp[e5])
  obtain⟨o,ho⟩:=Int.eq_ofNat_of_zero_le (a:=q.Off) (by omega)
  by_cases e4:q.Kind=4
  ·rw[if_pos e4] at p2
   have:=zg7 s hs c hc q _ _ _ _ _ [] zg6 (.inr ⟨rfl,rfl⟩) (yyf s c _ q _ e4 (zsg s hs c hc q k hk6 hk m hm hmb o ho (by omega) h16))
   simpa [z4j,e4,hc,hk,hk6,hm,hmb,ho] using this
  ·have e3:q.Kind=3:=by omega
   rw[if_neg e4] at p2
   obtain⟨n,hn⟩:=Int.eq_ofNat_of_zero_le (a:=q.N) (by omega)
   have:=zg7 s hs c hc q _ _ _ _ _ ((s.Body[m].drop o).take n) _ (.inl rfl) (yye s c _ q _ e3 (zxi s hs c hc q k hk6 hk m hm hmb o n ho hn (by omega) h16))
   simpa [z4j,e3,hc,hk,hk6,hm,hmb,ho,hn] using this
 ·have:=zg7 s hs c hc q _ _ _ _ _ [] zg6 (.inr ⟨rfl,rfl⟩) (yxi s c s.Handles[c].length q (by omega))
  have k:¬ q.Kind=1∧¬ q.Kind=2∧¬ q.Kind=3∧¬ q.Kind=4∧¬ q.Kind=5∧¬ q.Kind=8:=by omega
  simpa [z4j,k] using this
def DoB (s:St)(cl:Int)(q:Op):Bool × St × Rs :=
 if z29 s cl=true then (false,s,rsE 1)
 else if z06 s (s.Handles.getD cl.toNat []) q=0 then (true,z4j s cl.toNat q)
 else (false,s,rsE (z06 s (s.Handles.getD cl.toNat []) q))
theorem yq4 (s:St)(hs:Sized s)(cl:Int)(q:Op):FnC Try.prog 44 [] [z6m false s,i64 cl,zqz false q] [] (.tuple [z6m (DoB s cl q).1 (DoB s cl q).2.1,za2 true (DoB s cl q).2.2]):=by
 by_cases hn:z29 s cl=true
 ·have:=zxl s hs cl q hn
  simpa only [DoB,if_pos hn] using this
 have hn':z29 s cl=false:=by simpa using hn
 simp only[z29,Bool.or_eq_false_iff,Bool.not_eq_false',decide_eq_false_iff_not] at hn'
 obtain⟨c,rfl⟩:=Int.eq_ofNat_of_zero_le (a:=cl) (by omega)
 have hc:c < s.Handles.length:=by omega
 have hok:=(zbf s).1 hn'.1
 have h6:=hok.l6 _ (List.getElem_mem hc)
 have hl:s.Handles.getD c []=s.Handles[c]:=by simp[hc]
 have hn2:z29 s (c:Int)=false:=by simpa using hn
 by_cases h0:z06 s s.Handles[c] q=0
 ·have:=yq3 s hs c hc h6 q hn2 h0 _ _ (zxn s hok c hc q h0)
  simp only[DoB,if_neg hn,Int.toNat_natCast,hl,if_pos h0]
  exact this
 ·have:=zxm s hs c hc h6 q hn2 h0
  simp only[DoB,if_neg hn,Int.toNat_natCast,hl,if_neg h0]
  exact this
end Go.OT
namespace Go.OT
open Go.Proofs
theorem zc7 {s:St}{i:Nat}{p:Int}{b:List (List UInt8)}{l:List (List Int)}(h:z2k s p=true):z2k ⟨s.There.set i true,b,l⟩ p=true:=by
 simp only[z2k,Bool.and_eq_true,decide_eq_true_eq] at h ⊢
 refine⟨h.1,?_⟩
 have hlt:p.toNat < s.There.length:=by
  by_cases e:p.toNat < s.There.length
  ·exact e
  ·simp[e] at h
 by_cases e:i=p.toNat
 ·subst e;simp[hlt]
 ·have h2:=h.2
  simp only[List.getD_eq_getElem?_getD] at h2 ⊢
  rw[List.getElem?_set_ne e];exact h2
theorem zsh {p:Int}{l:List Int}(h:cnt p l=0):∀ x ∈ l,x ≠ p:=by
 intro x hx e
 subst e
 unfold cnt at h
 have:x ∈ l.filter (· == x):=by simp[hx]
 rw[List.length_eq_zero_iff.1 h] at this
 simp at this
theorem zd0 {p:Int}:∀ {ls:List (List Int)},z4x p ls=0→∀ l ∈ ls,∀ x ∈ l,x ≠ p
 | [],_,l,hl=>by simp at hl
 | a :: ls,h,l,hl=>by
  simp only[z4x] at h
  rcases List.mem_cons.1 hl with rfl | hl
  ·exact zsh (by omega)
  ·exact zd0 (by omega) l hl
theorem zi3 {b:List UInt8}{k:Nat}{d:List UInt8}(h:k+d.length≤b.length):(zi1 b k d).length=b.length:=by
 simp only[zi1,List.length_append,List.length_take,List.length_drop];omega
theorem zl5 {s:St}(h:OkSt s){c:Nat}(hc:c < s.Handles.length){q:Op}(h0:z06 s s.Handles[c] q=0) :
  (q.Kind=1∧∃ i k:Nat,∃ hi:i < s.There.length,∃ hk:k < 6,s.There[i]=false∧s.Handles[c].getD k 0=-1∧ix (· == false) s.There=i∧ix (· == -1) s.Handles[c]=k∧z4j s c q=(⟨s.There.set i true,s.Body,s.Handles.set c (s.Handles[c].set k (i:Nat))⟩,⟨0,(i:Nat),(k:Nat),[]⟩)) ∨
  (q.Kind=2∧∃ k:Nat,∃ hk:k < 6,z2k s q.Page=true∧s.Handles[c].getD k 0=-1∧ix (· == -1) s.Handles[c]=k∧z4j s c q=(⟨s.There,s.Body,s.Handles.set c (s.Handles[c].set k q.Page)⟩,⟨0,q.Page,(k:Nat),[]⟩)) ∨
  (q.Kind=3∧∃ k m o n:Nat,∃ hk:k < 6,∃ hm:m < s.Body.length,q.Handle=k∧s.Handles[c].getD k 0=(m:Nat)∧s.There.getD m false=true∧q.Off=(o:Nat)∧q.N=(n:Nat)∧o+n≤16∧z4j s c q=(s,⟨0,0,0,(s.Body[m].drop o).take n⟩)) ∨
  (q.Kind=4∧∃ k m o:Nat,∃ hk:k < 6,∃ hm:m < s.Body.length,q.Handle=k∧s.Handles[c].getD k 0=(m:Nat)∧s.There.getD m false=true∧q.Off=(o:Nat)∧o+q.Data.length≤16∧z4j s c q=(⟨s.There,s.Body.set m (zi1 s.Body[m] o q.Data),s.Handles⟩,⟨0,0,0,[]⟩)) ∨
  (q.Kind=5∧∃ k m:Nat,∃ hk:k < 6,q.Handle=k∧s.Handles[c].getD k 0=(m:Nat)∧s.There.getD m false=true∧z4j s c q=(⟨s.There,s.Body,s.Handles.set c (s.Handles[c].set k (-1))⟩,⟨0,0,0,[]⟩)) ∨
  (q.Kind=8∧∃ m:Nat,∃ hm:m < s.There.length,q.Page=m∧s.There[m]=true∧z4x m s.Handles=0∧z4j s c q=(⟨s.There.set m false,s.Body.set m (List.replicate 16 0),s.Handles⟩,⟨0,0,0,[]⟩)) ∨
  ((q.Kind=6∧z2k s q.Page=true∨q.Kind=7)∧z4j s c q=(s,⟨0,0,0,[]⟩)):=by
 have h6:s.Handles[c].length=6:=h.l6 _ (List.getElem_mem hc)
 by_cases k1:q.Kind=1
 ·left
  have hr:zen s.Handles[c]=true:=by
   simp only[z06,k1,if_true] at h0
   split at h0
   ·cases h0
   ·rename_i h;simpa using h
  have hf:s.There.any (· == false)=true:=by
   simp only[z06,k1,if_true,hr] at h0
   split at h0
   ·rename_i h;cases h
   ·split at h0
    ·cases h0
    ·rename_i h;simpa using h
  obtain⟨i1,i2,i3⟩:=z61 hf
  obtain⟨j1,j2,j3⟩:=z61 hr
  refine⟨k1,_,_,i1,by omega,by simpa using i3,?_,rfl,rfl,by simp[z4j,k1,hc]⟩
  simpa [j1] using j3
 right
 by_cases k2:q.Kind=2∨q.Kind=6∨q.Kind=8
 ·rw[z06,if_neg k1,if_pos k2] at h0
  split at h0
  ·cases h0
  rename_i a1
  split at h0
  ·cases h0
  rename_i a2
  split at h0
  ·cases h0
  rename_i a3
  split at h0
  ·cases h0
  rename_i a4
  have hth:z2k s q.Page=true:=by simpa using a2
  by_cases e2:q.Kind=2
  ·left
   have hr:zen s.Handles[c]=true:=by
    cases e:zen s.Handles[c] with
    | true=>rfl
    | false=>exact absurd ⟨e2,e⟩ a3
   obtain⟨j1,j2,j3⟩:=z61 hr
   exact⟨e2,_,by omega,hth,by simpa [j1] using j3,rfl,by simp[z4j,e2,hc]⟩
  by_cases e8:q.Kind=8
  ·right;right;right;right;left
   simp only[z2k,Bool.and_eq_true,decide_eq_true_eq] at hth
   obtain⟨m,hm⟩:=Int.eq_ofNat_of_zero_le hth.1
   have hm1:m < s.There.length:=by
    have:=hth.2
    rw[hm] at this
    by_cases e:m < s.There.length
    ·exact e
    ·simp[e] at this
   refine⟨e8,m,hm1,hm,by simpa [hm,hm1] using hth.2,?_,by simp[z4j,e8,hm]⟩
   have:¬ (0 < zl3 s q.Page):=fun hp=>a4 ⟨e8,hp⟩
   rw[hm] at this
   simp only[zl3] at this
   rw[if_neg (by omega)] at this
   omega
  ·right;right;right;right;right
   have k:¬ q.Kind=3∧¬ q.Kind=4∧¬ q.Kind=5:=by omega
   exact⟨.inl ⟨by omega,hth⟩,by simp[z4j,k1,e2,e8,k]⟩
 by_cases k3:q.Kind=3∨q.Kind=4∨q.Kind=5
 ·rw[z06,if_neg k1,if_neg k2,if_pos k3] at h0
  generalize hnn:(if q.Kind=4 then (q.Data.length:Int) else q.N)=nn at h0
  split at h0
  ·cases h0
  rename_i p1
  split at h0
  ·cases h0
  rename_i p2
  have p1:z5p s.Handles[c] q.Handle=false:=by simpa using p1
  have p2:z3i q nn=false:=by simpa using p2
  simp only[z5p,Bool.or_eq_false_iff,decide_eq_false_iff_not,beq_eq_false_iff_ne] at p1
  obtain⟨k,hk⟩:=Int.eq_ofNat_of_zero_le (a:=q.Handle) (by omega)
  have hk6:k < s.Handles[c].length:=by omega
  have hne:s.Handles[c][k] ≠ -1:=by
   have:=p1.2.2
   simpa [hk,hk6] using this
  have hth:=(h.hp _ (List.getElem_mem hc) _ (List.getElem_mem hk6)).resolve_left hne
  simp only[z2k,Bool.and_eq_true,decide_eq_true_eq] at hth
  obtain⟨m,hm⟩:=Int.eq_ofNat_of_zero_le hth.1
  have hmt:m < s.There.length:=by
   have:=hth.2
   rw[hm] at this
   by_cases h:m < s.There.length
   ·exact h
   ·simp[h] at this
  have htm:s.There.getD m false=true:=by have:=hth.2;rw[hm] at this;exact this
  have hg:s.Handles[c].getD k 0=(m:Nat):=by simp[hk6,hm]
  have hmb:m < s.Body.length:=by rw[h.bn];exact hmt
  by_cases e5:q.Kind=5
  ·right;right;right;left
   exact⟨e5,k,m,by omega,hk,hg,htm,by simp[z4j,e5,hc,hk]⟩
  simp only[z3i,bne_iff_ne,ne_eq,e5,not_false_eq_true,Bool.and_eq_false_iff,Bool.or_eq_false_iff,decide_eq_false_iff_not] at p2
  have p2:=p2.resolve_left (by simp[e5])
  obtain⟨o,ho⟩:=Int.eq_ofNat_of_zero_le (a:=q.Off) (by omega)
  by_cases e4:q.Kind=4
  ·rw[if_pos e4] at hnn
   right;right;left
   exact⟨e4,k,m,o,by omega,hmb,hk,hg,htm,ho,by omega,by simp[z4j,e4,hc,hk,hk6,hm,hmb,ho]⟩
  ·have e3:q.Kind=3:=by omega
   rw[if_neg e4] at hnn
   obtain⟨n,hn⟩:=Int.eq_ofNat_of_zero_le (a:=q.N) (by omega)
   right;left
   exact⟨e3,k,m,o,n,by omega,hmb,hk,hg,htm,ho,hn,by omega,by simp[z4j,e3,hc,hk,hk6,hm,hmb,ho,hn]⟩
 ·right;right;right;right;right
  have k7:q.Kind=7:=by
   rw[z06,if_neg k1,if_neg k2,if_neg k3] at h0
   by_cases e:q.Kind=7
   ·exact e
   ·rw[if_neg e] at h0;cases h0
  exact⟨.inr k7,by simp[z4j,k7]⟩
theorem OkSt.step {s:St}(h:OkSt s){c:Nat}(hc:c < s.Handles.length){q:Op}(h0:z06 s s.Handles[c] q=0):OkSt (z4j s c q).1:=by
 have h6:s.Handles[c].length=6:=h.l6 _ (List.getElem_mem hc)
 have hset:∀ (k:Nat) (v:Int) (P:Int→Prop),(∀ l ∈ s.Handles,∀ p ∈ l,P p)→P v→∀ l ∈ s.Handles.set c (s.Handles[c].set k v),∀ p ∈ l,P p:=by
  intro k v P h1 h2 l hl p hp
  rcases List.mem_or_eq_of_mem_set hl with hl | rfl
  ·exact h1 l hl p hp
  ·rcases List.mem_or_eq_of_mem_set hp with hp | rfl
   ·exact h1 _ (List.getElem_mem hc) p hp
   ·exact h2
 have hlen:∀ (k:Nat) (v:Int),∀ l ∈ s.Handles.set c (s.Handles[c].set k v),l.length=6:=by
  intro k v l hl
  rcases List.mem_or_eq_of_mem_set hl with hl | rfl
  ·exact h.l6 l hl
  ·simp[h6]
 rcases zl5 h hc h0 with ⟨_,i,k,hi,hk,h1,_,_,_,e⟩ | ⟨_,k,hk,ht,_,_,e⟩ | ⟨_,k,m,o,n,hk,hm,_,_,_,_,_,_,e⟩ | ⟨_,k,m,o,hk,hm,_,_,ht,_,ho,e⟩ | ⟨_,k,m,hk,_,_,_,e⟩ | ⟨_,m,hm,_,ht,hp,e⟩ | ⟨_,e⟩<;>rw [e]
 ·refine⟨by simpa using h.n1,by simpa using h.n2,by simpa using h.bn,by simpa using h.h1,by simpa using h.h2,h.b16,fun j hj hf=>?_,hlen _ _,?_⟩
  ·refine h.zero j hj ?_
   simp only[List.getD_eq_getElem?_getD] at hf ⊢
   by_cases e:i=j
   ·subst e;simp[hi] at hf
   ·rwa [List.getElem?_set_ne e] at hf
  ·refine hset _ _ _ (fun l hl p hp=>(h.hp l hl p hp).imp id zc7) (.inr ?_)
   simp[z2k,hi]
 ·exact⟨h.n1,h.n2,h.bn,by simpa using h.h1,by simpa using h.h2,h.b16,h.zero,hlen _ _,hset _ _ _ h.hp (.inr ht)⟩
 ·exact h
 ·have h16:=h.b16 _ (List.getElem_mem hm)
  have hov:(zi1 s.Body[m] o q.Data).length=16:=by rw[zi3 (by omega),h16]
  refine⟨h.n1,h.n2,by simpa using h.bn,h.h1,h.h2,fun b hb=>?_,fun j hj hf=>?_,h.l6,h.hp⟩
  ·rcases List.mem_or_eq_of_mem_set hb with hb | rfl
   ·exact h.b16 b hb
   ·exact hov
  ·simp only[List.length_set] at hj
   have hne:m ≠ j:=by rintro rfl;simp only at hf;rw[ht] at hf;cases hf
   simp only[List.getElem_set_ne hne]
   exact h.zero j hj hf
 ·exact⟨h.n1,h.n2,h.bn,by simpa using h.h1,by simpa using h.h2,h.b16,h.zero,hlen _ _,hset _ _ _ h.hp (.inl rfl)⟩
 ·refine⟨by simpa using h.n1,by simpa using h.n2,by simpa using h.bn,h.h1,h.h2,fun b hb=>?_,fun j hj hf=>?_,h.l6,fun l hl p hpl=>?_⟩
  ·rcases List.mem_or_eq_of_mem_set hb with hb | rfl
   ·exact h.b16 b hb
   ·simp
  ·simp only[List.length_set] at hj
   by_cases e:m=j
   ·subst e;simp
   ·simp only[List.getElem_set_ne e]
    refine h.zero j hj ?_
    simp only[List.getD_eq_getElem?_getD] at hf ⊢
    rwa [List.getElem?_set_ne e] at hf
  ·rcases h.hp l hl p hpl with h1 | h1
   ·exact .inl h1
   ·right
    have hne:=zd0 hp l hl p hpl
    simp only[z2k,Bool.and_eq_true,decide_eq_true_eq] at h1 ⊢
    refine⟨h1.1,?_⟩
    have:m ≠ p.toNat:=by omega
    simp only[List.getD_eq_getElem?_getD] at h1 ⊢
    rw[List.getElem?_set_ne this]
    exact h1.2
 ·exact h
theorem OkSt.doB {s:St}(h:OkSt s)(cl:Int)(q:Op):OkSt (DoB s cl q).2.1:=by
 unfold DoB
 by_cases hn:z29 s cl=true
 ·rw[if_pos hn];exact h
 rw[if_neg hn]
 have hn':z29 s cl=false:=by simpa using hn
 simp only[z29,Bool.or_eq_false_iff,Bool.not_eq_false',decide_eq_false_iff_not] at hn'
 obtain⟨c,rfl⟩:=Int.eq_ofNat_of_zero_le (a:=cl) (by omega)
 have hc:c < s.Handles.length:=by omega
 have hl:s.Handles.getD (c:Int).toNat []=s.Handles[c]:=by simp[hc]
 rw[hl]
 by_cases h0:z06 s s.Handles[c] q=0
 ·rw[if_pos h0]
  exact h.step hc h0
 ·rw[if_neg h0];exact h
theorem Sized.doB {s:St}(h:Sized s)(cl:Int)(q:Op):Sized (DoB s cl q).2.1:=by
 cases hm:May s with
 | true=>exact (((zbf s).1 hm).doB cl q).sized
 | false =>
  have:z29 s cl=true:=by simp[z29,hm]
  simp only[DoB,this,if_true]
  exact h
@[simp] theorem zg8 (b:Bool) (s:St):z1r (z6m b s)=z6m false s:=by
 simp[z1r,Function.comp_def]
@[simp] theorem zok (b:Bool) (r:Rs):z1r (za2 b r)=za2 false r:=by
 simp[z1r]
theorem zg9 (k:Nat)(v u:AU):∀ L:SL,z9k (z0j L k v) k u=z0j L k u
 | []=>by simp[z0j,z9k]
 | (k',e) :: L=>by
  simp only[z0j]
  by_cases h:k=k'
  ·subst h;simp[z9k]
  ·simp only[h,if_false,z9k,zg9 k v u L]
theorem ze0 (L:SL)(k:Nat)(v:AU):(fnL (z0j L k v) k).2=v:=by rw[← z07,XF.set_self]
theorem zsi (a b:AU):z1r (.tuple [a,b])=.tuple [z1r a,z1r b]:=by simp only[z1r,z18]
theorem zga (L:SL)(k:Nat)(v:AU):y3v (z0j L k v) k=z0j L k (z1r v):=by
 unfold y3v
 rw[zg9,ze0]
theorem RL.doC {nt:Nat}{L:SL}{K:SL→Prop}{rest:List Sg}{d:Nat}{cs:List COd}(s:St)(hs:Sized s)(cl:Int)(q:Op)
  (has:z15 (fnL L) [] false cs=some [z6m false s,i64 cl,zqz false q])
  (h:RL Try.prog nt rest (z0j L (100 * d) (.tuple [z6m false (DoB s cl q).2.1,za2 false (DoB s cl q).2.2])) K):RL Try.prog nt (.call none d 44 cs :: rest) L K:=by
 refine RL.call0 false (yq4 s hs cl q) has ?_ (RL.freeze (100 * d) ?_)
 ·simp[z1a,z6l,roots,z1g]
 ·rw[zga]
  have:z1r (.tuple [z6m (DoB s cl q).1 (DoB s cl q).2.1,za2 true (DoB s cl q).2.2])=.tuple [z6m false (DoB s cl q).2.1,za2 false (DoB s cl q).2.2]:=by
   rw[zsi,zg8,zok]
  rw[this]
  exact h
end Go.OT
namespace Go.OT
open Go.Proofs
theorem yyi:Ty Try.prog 40 (List UInt8) (fun l=>[sU false l]) (fun l=>l.length≤9223372036854775807) :=
 (Ty.slice (s:=1) Try.underlying40 (by kernel_rfl) (by decide) (fun _=>rfl) (Ty.u8 Try.underlying5)).map id (fun l=>by rw[z72];rfl) (fun l h=>h.1)
end Go.OT
namespace Go.OT
open Go.Proofs
def yq5:Cd:=(.reg [46,47,48,49,50] [.o [.faddr 47 5 (.t 7),.ld 48 1 false (.t 47),.slice 49 1 (.t 48) none (some (cI 8)),.faddr 50 5 (.t 7),.st 1 (.t 50) (.t 49)]])
def yq6:Cd:=(.cond (.t 46) yq5 .skip)
def yq7:Cd:=(.seq (.draw [[],[0],[1],[],[3],[2,4],[5],[],[6,7],[8,0,1,2,3,4,5,6,7,8]] [2,3,7,46,51,52,53,54,55,56,57,58,59] [.o [.faddr 51 0 (.t 3),.ld 52 1 false (.t 51),.conv 53 .u64 (.t 52),.mov 54 (.t 2),.conv 55 .u64 (.t 54),.bin 56 .rem (.t 53) (.t 55),.conv 57 .i64 (.t 56),.ld 58 6 true (.t 7),.build 59 [(.sc (.int .i64 0)),(.sc (.int .i64 0)),(.sc (.int .i64 0)),(.sc (.int .i64 0)),(.sc (.int .i64 0)),(.sc (.int .i64 0)),(.sc (.slice none 0 0))] [(0,1,(.t 57)),(1,6,(.t 58))],.st 7 (.t 6) (.t 59)]]) .ret)
def yq8:Cd:=(.seq (.seq (.reg [43,44,45] [.o [.faddr 43 5 (.t 7),.ld 44 1 false (.t 43),.len 45 (.t 44),.bin 46 .gtr (.t 45) (cI 8)]]) yq6) yq7)
def yq9:Cd:=(.seq (.reg [31,32,33,34,35,36,37,38,39,40,41,42] [.o [.faddr 31 3 (.t 7),.ld 32 1 false (.t 31),.conv 33 .u64 (.t 32),.bin 34 .rem (.t 33) (.c (.sc (.int .u64 8))),.conv 35 .i64 (.t 34),.faddr 36 4 (.t 7),.ld 37 1 false (.t 36),.conv 38 .u64 (.t 37),.bin 39 .rem (.t 38) (.c (.sc (.int .u64 9))),.conv 40 .i64 (.t 39),.faddr 41 3 (.t 7),.st 1 (.t 41) (.t 35),.faddr 42 4 (.t 7),.st 1 (.t 42) (.t 40)]]) yq8)
def yqa:Cd:=(.seq (.draw [[],[0],[1],[],[3],[2,4],[5],[],[7],[8],[9],[10],[0,1,2,3,4,5,6,7,8],[12,6,0,1,2,3,4,5,6,7,8],[0,1,2,3,4,5,6,7,8,9,10,11,12,13],[14,11,13,0,1,2,3,4,5,6,7,8,9,10,11,12,13]] [1,17,18,19,20,21,22,23,24,25,26,27,28,29,30] [.o [.faddr 17 1 (.t 7),.ld 18 1 false (.t 17),.conv 19 .u64 (.t 18),.mov 20 (.t 1),.conv 21 .u64 (.t 20),.bin 22 .rem (.t 19) (.t 21),.conv 23 .i64 (.t 22),.faddr 24 2 (.t 7),.ld 25 1 false (.t 24),.conv 26 .u64 (.t 25),.bin 27 .rem (.t 26) (.c (.sc (.int .u64 3))),.conv 28 .i64 (.t 27),.faddr 29 1 (.t 7),.st 1 (.t 29) (.t 23),.faddr 30 2 (.t 7),.st 1 (.t 30) (.t 28)]]) yq9)
def yqb:Cd:=(.seq (.reg [10,11,12,13,14,15,16] [.o [.faddr 10 0 (.t 7),.ld 11 1 false (.t 10),.conv 12 .u64 (.t 11),.bin 13 .rem (.t 12) (.c (.sc (.int .u64 8))),.conv 14 .i64 (.t 13),.bin 15 .add (cI 1) (.t 14),.faddr 16 0 (.t 7),.st 1 (.t 16) (.t 15)]]) yqa)
def yqc:Cd:=(.seq (.reg [8,9] [.o [.faddr 8 1 (.t 3),.ld 9 6 true (.t 8),.alloc 7 [(.sc (.int .i64 0)),(.sc (.int .i64 0)),(.sc (.int .i64 0)),(.sc (.int .i64 0)),(.sc (.int .i64 0)),(.sl true () 1 0 [])],.st 6 (.t 7) (.t 9)]]) yqb)
def yqd:FI:=⟨60,3,[.cell 6 7 true],(.seq (.reg [0] [.o [.box 3 (.t 0),.alloc 6 [(.sc (.int .i64 0)),(.sc (.int .i64 0)),(.sc (.int .i64 0)),(.sc (.int .i64 0)),(.sc (.int .i64 0)),(.sc (.int .i64 0)),(.sl true () 1 0 [])]]]) yqc)⟩
theorem yyj:z1v Try.prog 43 yqd:=⟨_,_,Try.func43,rfl,by kernel_rfl,by kernel_rfl,Try.call43⟩
def zxo:Cd:=(.seq (.reg [1,3,5,26,27] [.call none 27 123 [(cI 1)],.o [.st 4 (.t 6) (.t 27)]]) .ret)
def yqe:Cd:=(.cond (.t 26) zxo .skip)
def yqf:Cd:=(.seq (.reg [1,3,5,7,51,52] [.call none 52 123 [(cI 1)],.o [.st 4 (.t 6) (.t 52)]]) .ret)
def yqg:Cd:=(.cond (.t 51) yqf .skip)
def yqh:Cd:=(.seq (.reg [1,3,5,7,58,59] [.call none 59 123 [(cI 2)],.o [.st 4 (.t 6) (.t 59)]]) .ret)
def yqi:Cd:=(.cond (.t 58) yqh .skip)
def yqj:Cd:=(.seq (.reg [51,53,54,55,56,57] [.o [.faddr 53 0 (.t 3),.ld 54 1 false (.t 53),.mov 55 (.t 7),.iaddr 56 1 (.t 54) (.t 55),.ld 57 1 false (.t 56),.un 58 .not (.t 57)]]) yqi)
def yqk:Cd:=(.seq (.seq (.reg [42,43,44,45,46,47,48,49,50] [.o [.mov 43 (.t 7),.bin 44 .lss (.t 43) (cI 0),.mov 45 (.t 44)],.g 45 false [.mov 46 (.t 7),.faddr 47 0 (.t 3),.ld 48 1 false (.t 47),.len 49 (.t 48),.bin 50 .geq (.t 46) (.t 49)],.o [.pick 51 (.t 45) (cB true) (.t 50)]]) yqg) yqj)
def y9t:Cd:=(.cond (.t 42) yqk .skip)
def yql:Cd:=(.seq (.reg [1,3,5,7,79,80] [.call none 80 123 [(cI 5)],.o [.st 4 (.t 6) (.t 80)]]) .ret)
def y9u:Cd:=(.cond (.t 79) yql .skip)
def y9v:Cd:=(.seq (.reg [78] [.o [.mov 78 (.t 7),.bin 79 .lss (.t 78) (cI 0)]]) y9u)
def y9w:Cd:=(.seq (.reg [72,73,74,75,76,77] [.o [.ld 73 3 true (.t 3),.mov 74 (.t 1),.faddr 75 2 (.t 5),.ld 76 1 false (.t 75)],.call none 77 124 [(.t 73),(.t 74),(.t 76)],.o [.asg 7 (.t 77)]]) y9v)
def zua:Cd:=(.cond (.t 72) y9w .skip)
def y9x:Cd:=(.seq (.reg [1,3,88,89] [.call none 89 123 [(cI 4)],.o [.st 4 (.t 6) (.t 89)]]) .ret)
def y9y:Cd:=(.cond (.t 88) y9x .skip)
def y9z:Cd:=(.cond (.t 101) .skip (.exit 1))
def ya0:Cd:=(.block 2 (.reg [101,102,103] [.o [.mov 102 (.t 7),.bin 103 .add (.t 102) (cI 1),.asg 7 (.t 103)]]))
def ya1:Cd:=(.seq (.seq (.reg [90,91,92,93,94,95,96,97,98,99,100] [.o [.mov 90 (.t 7),.faddr 91 0 (.t 3),.ld 92 1 false (.t 91),.len 93 (.t 92),.bin 94 .lss (.t 90) (.t 93),.mov 95 (.t 94)],.g 95 true [.faddr 96 0 (.t 3),.ld 97 1 false (.t 96),.mov 98 (.t 7),.iaddr 99 1 (.t 97) (.t 98),.ld 100 1 false (.t 99)],.o [.pick 101 (.t 95) (.t 100) (cB false)]]) y9z) ya0)
def ya2:Cd:=(.seq (.reg [1,3,7,108,109] [.call none 109 123 [(cI 3)],.o [.st 4 (.t 6) (.t 109)]]) .ret)
def ya3:Cd:=(.cond (.t 108) ya2 .skip)
def ya4:Cd:=(.seq (.reg [1,3,7,119,120,121,122,123,124] [.o [.mov 119 (.t 7),.ld 120 3 true (.t 3),.mov 121 (.t 1),.mov 122 (.t 7)],.call none 123 126 [(.t 120),(.t 121),(.t 122)],.o [.build 124 [(.sc (.int .i64 0)),(.sc (.int .i64 0)),(.sc (.int .i64 0)),(.sc (.slice none 0 0))] [(1,1,(.t 119)),(2,1,(.t 123))],.st 4 (.t 6) (.t 124)]]) .ret)
def zjp:Cd:=(.seq (.draw [[],[0],[],[],[3],[],[],[1,2,0,1,2,6],[7,6,0,1,2,6],[4,5,0,1,2,3,4,5,6,7,8],[9,6,8,0,1,2,3,4,5,6,7,8]] [108,110,111,112,113,114,115,116,117,118] [.o [.faddr 110 0 (.t 3),.ld 111 1 false (.t 110),.mov 112 (.t 7),.faddr 113 1 (.t 3),.ld 114 1 false (.t 113),.mov 115 (.t 7)],.call none 116 122 [],.o [.iaddr 117 1 (.t 111) (.t 112),.st 1 (.t 117) (cB true),.iaddr 118 1 (.t 114) (.t 115),.st 1 (.t 118) (.t 116)]]) ya4)
def ya5:Cd:=(.seq (.seq (.reg [90,91,92,93,94,95,96,97,98,99,100,101,104,105,106,107] [.o [.mov 104 (.t 7),.faddr 105 0 (.t 3),.ld 106 1 false (.t 105),.len 107 (.t 106),.bin 108 .eql (.t 104) (.t 107)]]) ya3) zjp)
def ya6:Cd:=(.seq (.block 1 (.loop ya1)) ya5)
def ya7:Cd:=(.seq (.reg [88] [.o [.asg 7 (cI 0)]]) ya6)
def ya8:Cd:=(.seq (.seq (.reg [5,7,82,83,85,86,87] [.o [.ld 85 3 true (.t 3),.mov 86 (.t 1)],.call none 87 125 [(.t 85),(.t 86)],.o [.un 88 .not (.t 87)]]) y9y) ya7)
def ya9:Cd:=(.seq (.reg [1,3,7,130,131] [.call none 131 123 [(cI 4)],.o [.st 4 (.t 6) (.t 131)]]) .ret)
def yaa:Cd:=(.cond (.t 130) ya9 .skip)
def yab:Cd:=(.seq (.reg [1,3,7,130,132,133,134,135,136,137] [.o [.mov 132 (.t 7),.ld 133 3 true (.t 3),.mov 134 (.t 1),.mov 135 (.t 7)],.call none 136 126 [(.t 133),(.t 134),(.t 135)],.o [.build 137 [(.sc (.int .i64 0)),(.sc (.int .i64 0)),(.sc (.int .i64 0)),(.sc (.slice none 0 0))] [(1,1,(.t 132)),(2,1,(.t 136))],.st 4 (.t 6) (.t 137)]]) .ret)
def yac:Cd:=(.seq (.seq (.reg [5,82,125,127,128,129] [.o [.ld 127 3 true (.t 3),.mov 128 (.t 1)],.call none 129 125 [(.t 127),(.t 128)],.o [.un 130 .not (.t 129)]]) yaa) yab)
def yad:Cd:=(.seq (.reg [3,5,7,160,161] [.call none 161 123 [(cI 6)],.o [.st 4 (.t 6) (.t 161)]]) .ret)
def yae:Cd:=(.cond (.t 160) yad .skip)
def yaf:Cd:=(.seq (.draw [[],[0],[],[1,2],[3],[],[5],[],[7],[],[9],[8,10],[4,6,11],[12],[13],[14,0,1,2,3,4,5,6,7,8,9,10,11,12,13,14]] [3,5,7,160,162,163,164,165,166,167,168,169,170,171,172,173,174,175,176] [.o [.faddr 162 1 (.t 3),.ld 163 1 false (.t 162),.mov 164 (.t 7),.iaddr 165 1 (.t 163) (.t 164),.ld 166 1 false (.t 165),.faddr 167 3 (.t 5),.ld 168 1 false (.t 167),.faddr 169 3 (.t 5),.ld 170 1 false (.t 169),.faddr 171 4 (.t 5),.ld 172 1 false (.t 171),.bin 173 .add (.t 170) (.t 172),.ssl 174 (.t 166) (some (.t 168)) (some (.t 173)),.s2b 175 (.t 174),.build 176 [(.sc (.int .i64 0)),(.sc (.int .i64 0)),(.sc (.int .i64 0)),(.sc (.slice none 0 0))] [(3,1,(.t 175))],.st 4 (.t 6) (.t 176)]]) .ret)
def yag:Cd:=(.seq (.seq (.reg [1,82,138,140,141,142,143,144,145,146,147,148,149,150,151,152,153,154,155,156,157,158,159] [.o [.faddr 140 3 (.t 5),.ld 141 1 false (.t 140),.bin 142 .lss (.t 141) (cI 0),.mov 143 (.t 142)],.g 143 false [.faddr 144 4 (.t 5),.ld 145 1 false (.t 144),.bin 146 .lss (.t 145) (cI 0)],.o [.pick 147 (.t 143) (cB true) (.t 146),.mov 148 (.t 147)],.g 148 false [.faddr 149 3 (.t 5),.ld 150 1 false (.t 149),.bin 151 .gtr (.t 150) (cI 16)],.o [.pick 152 (.t 148) (cB true) (.t 151),.mov 153 (.t 152)],.g 153 false [.faddr 154 4 (.t 5),.ld 155 1 false (.t 154),.faddr 156 3 (.t 5),.ld 157 1 false (.t 156),.bin 158 .sub (cI 16) (.t 157),.bin 159 .gtr (.t 155) (.t 158)],.o [.pick 160 (.t 153) (cB true) (.t 159)]]) yae) yaf)
def yah:Cd:=(.seq (.reg [3,5,7,195,196] [.call none 196 123 [(cI 6)],.o [.st 4 (.t 6) (.t 196)]]) .ret)
def yai:Cd:=(.cond (.t 195) yah .skip)
def yaj:Cd:=(.draw [[],[0],[],[],[3],[],[4,5],[6],[],[8],[7,9],[],[11],[12],[10,13],[],[15],[],[16,17],[18],[],[20],[],[22],[23],[21,24],[19,25],[14,26],[1,2,0,1,2,3,4,5,6,7,8,9,10,11,12,13,14,15,16,17,18,19,20,21,22,23,24,25,26,27],[28,27,0,1,2,3,4,5,6,7,8,9,10,11,12,13,14,15,16,17,18,19,20,21,22,23,24,25,26,27]] [3,5,7,195,197,198,199,200,201,202,203,204,205,206,207,208,209,210,211,212,213,214,215,216,217,218,219,220,221,222,223,224,225] [.o [.faddr 197 1 (.t 3),.ld 198 1 false (.t 197),.mov 199 (.t 7),.faddr 200 1 (.t 3),.ld 201 1 false (.t 200),.mov 202 (.t 7),.iaddr 203 1 (.t 201) (.t 202),.ld 204 1 false (.t 203),.faddr 205 3 (.t 5),.ld 206 1 false (.t 205),.ssl 207 (.t 204) none (some (.t 206)),.faddr 208 5 (.t 5),.ld 209 1 false (.t 208),.b2s 210 (.t 209),.bin 211 .add (.t 207) (.t 210),.faddr 212 1 (.t 3),.ld 213 1 false (.t 212),.mov 214 (.t 7),.iaddr 215 1 (.t 213) (.t 214),.ld 216 1 false (.t 215),.faddr 217 3 (.t 5),.ld 218 1 false (.t 217),.faddr 219 5 (.t 5),.ld 220 1 false (.t 219),.len 221 (.t 220),.bin 222 .add (.t 218) (.t 221),.ssl 223 (.t 216) (some (.t 222)) none,.bin 224 .add (.t 211) (.t 223),.iaddr 225 1 (.t 198) (.t 199),.st 1 (.t 225) (.t 224)]])
def yak:Cd:=(.seq (.seq (.reg [1,82,177,179,180,181,182,183,184,185,186,187,188,189,190,191,192,193,194] [.o [.faddr 179 3 (.t 5),.ld 180 1 false (.t 179),.bin 181 .lss (.t 180) (cI 0),.mov 182 (.t 181)],.g 182 false [.faddr 183 3 (.t 5),.ld 184 1 false (.t 183),.bin 185 .gtr (.t 184) (cI 16)],.o [.pick 186 (.t 182) (cB true) (.t 185),.mov 187 (.t 186)],.g 187 false [.faddr 188 5 (.t 5),.ld 189 1 false (.t 188),.len 190 (.t 189),.faddr 191 3 (.t 5),.ld 192 1 false (.t 191),.bin 193 .sub (cI 16) (.t 192),.bin 194 .gtr (.t 190) (.t 193)],.o [.pick 195 (.t 187) (cB true) (.t 194)]]) yai) yaj)
def yal:Cd:=(.draw [[],[0],[],[1,2],[3],[],[5],[4,6,0,1,2,3,4,5,6],[7,0,1,2,3,4,5,6]] [1,3,5,7,82,226,228,229,230,231,232,233,234,235] [.o [.faddr 228 2 (.t 3),.ld 229 1 false (.t 228),.mov 230 (.t 1),.iaddr 231 1 (.t 229) (.t 230),.ld 232 1 false (.t 231),.faddr 233 2 (.t 5),.ld 234 1 false (.t 233),.iaddr 235 1 (.t 232) (.t 234),.st 1 (.t 235) (cI (-1))]])
def yam:Cd:=(.seq (.reg [3,7,241,242] [.call none 242 123 [(cI 7)],.o [.st 4 (.t 6) (.t 242)]]) .ret)
def yan:Cd:=(.cond (.t 241) yam .skip)
def yao:Cd:=(.draw [[],[0],[],[],[3],[],[],[1,2,0,1,2,6],[7,6,0,1,2,6],[4,5,0,1,2,3,4,5,6,7,8],[9,6,8,0,1,2,3,4,5,6,7,8]] [3,7,241,243,244,245,246,247,248,249,250,251] [.o [.faddr 243 0 (.t 3),.ld 244 1 false (.t 243),.mov 245 (.t 7),.faddr 246 1 (.t 3),.ld 247 1 false (.t 246),.mov 248 (.t 7)],.call none 249 122 [],.o [.iaddr 250 1 (.t 244) (.t 245),.st 1 (.t 250) (cB false),.iaddr 251 1 (.t 247) (.t 248),.st 1 (.t 251) (.t 249)]])
def yap:Cd:=(.seq (.seq (.reg [236,238,239,240] [.o [.ld 238 3 true (.t 3),.mov 239 (.t 7)],.call none 240 127 [(.t 238),(.t 239)],.o [.bin 241 .gtr (.t 240) (cI 0)]]) yan) yao)
def yaq:Cd:=(.cond (.t 236) yap .skip)
def yar:Cd:=(.seq (.reg [1,5,82,226,237] [.o [.bin 237 .eql (.t 82) (cI 8),.asg 236 (.t 237)]]) yaq)
def yas:Cd:=(.cond (.t 226) yal yar)
def yat:Cd:=(.seq (.reg [177,227] [.o [.bin 227 .eql (.t 82) (cI 5),.asg 226 (.t 227)]]) yas)
def yau:Cd:=(.cond (.t 177) yak yat)
def yav:Cd:=(.seq (.reg [138,178] [.o [.bin 178 .eql (.t 82) (cI 4),.asg 177 (.t 178)]]) yau)
def yaw:Cd:=(.cond (.t 138) yag yav)
def yax:Cd:=(.seq (.reg [125,139] [.o [.bin 139 .eql (.t 82) (cI 3),.asg 138 (.t 139)]]) yaw)
def yay:Cd:=(.cond (.t 125) yac yax)
def yaz:Cd:=(.seq (.reg [83,126] [.o [.bin 126 .eql (.t 82) (cI 2),.asg 125 (.t 126)]]) yay)
def yb0:Cd:=(.cond (.t 83) ya8 yaz)
def yb1:Cd:=(.block 0 (.seq (.reg [84] [.o [.bin 84 .eql (.t 82) (cI 1),.asg 83 (.t 84)]]) yb0))
def yb2:Cd:=(.seq (.reg [3,7,236,252] [.o [.build 252 [(.sc (.int .i64 0)),(.sc (.int .i64 0)),(.sc (.int .i64 0)),(.sc (.slice none 0 0))] [],.st 4 (.t 6) (.t 252)]]) .ret)
def zd1:Cd:=(.seq (.seq (.reg [79,72,81] [.o [.faddr 81 0 (.t 5),.ld 82 1 false (.t 81)]]) yb1) yb2)
def zd2:Cd:=(.seq (.seq (.reg [58,42,60,61,62,63,64,65,66,67,68,69,70,71] [.o [.faddr 60 0 (.t 5),.ld 61 1 false (.t 60),.bin 62 .eql (.t 61) (cI 3),.mov 63 (.t 62)],.g 63 false [.faddr 64 0 (.t 5),.ld 65 1 false (.t 64),.bin 66 .eql (.t 65) (cI 4)],.o [.pick 67 (.t 63) (cB true) (.t 66),.mov 68 (.t 67)],.g 68 false [.faddr 69 0 (.t 5),.ld 70 1 false (.t 69),.bin 71 .eql (.t 70) (cI 5)],.o [.pick 72 (.t 68) (cB true) (.t 71)]]) zua) zd1)
def yb3:Cd:=(.seq (.seq (.reg [30,31,32,33,34,35,36,37,38,39,40,41] [.o [.faddr 30 0 (.t 5),.ld 31 1 false (.t 30),.bin 32 .eql (.t 31) (cI 2),.mov 33 (.t 32)],.g 33 false [.faddr 34 0 (.t 5),.ld 35 1 false (.t 34),.bin 36 .eql (.t 35) (cI 6)],.o [.pick 37 (.t 33) (cB true) (.t 36),.mov 38 (.t 37)],.g 38 false [.faddr 39 0 (.t 5),.ld 40 1 false (.t 39),.bin 41 .eql (.t 40) (cI 8)],.o [.pick 42 (.t 38) (cB true) (.t 41)]]) y9t) zd2)
def zbg:Cd:=(.seq (.reg [26,28,29] [.o [.faddr 28 1 (.t 5),.ld 29 1 false (.t 28),.asg 7 (.t 29)]]) yb3)
def yb4:Cd:=(.seq (.seq (.reg [8,9,10,11,12,13,14,15,16,17,18,19,20,21,22,23,24,25] [.o [.mov 8 (.t 1),.bin 9 .lss (.t 8) (cI 0),.mov 10 (.t 9)],.g 10 false [.mov 11 (.t 1),.faddr 12 2 (.t 3),.ld 13 1 false (.t 12),.len 14 (.t 13),.bin 15 .geq (.t 11) (.t 14)],.o [.pick 16 (.t 10) (cB true) (.t 15),.mov 17 (.t 16)],.g 17 false [.faddr 18 0 (.t 5),.ld 19 1 false (.t 18),.bin 20 .lss (.t 19) (cI 1)],.o [.pick 21 (.t 17) (cB true) (.t 20),.mov 22 (.t 21)],.g 22 false [.faddr 23 0 (.t 5),.ld 24 1 false (.t 23),.bin 25 .gtr (.t 24) (cI 8)],.o [.pick 26 (.t 22) (cB true) (.t 25)]]) yqe) zbg)
def z3y:FI:=⟨253,3,[.cell 6 4 true],(.seq (.reg [0,2] [.o [.box 3 (.t 0),.box 5 (.t 2),.alloc 6 [(.sc (.int .i64 0)),(.sc (.int .i64 0)),(.sc (.int .i64 0)),(.sl true () 1 0 [])]]]) yb4)⟩
theorem yyk:z1v Try.prog 77 z3y:=⟨_,_,Try.func77,rfl,by kernel_rfl,by kernel_rfl,Try.call77⟩
def yqm:Cd:=(.seq (.reg [0,1,5,21,22] [.o [.ld 22 3 true (.t 5),.st 3 (.t 4) (.t 22)]]) .ret)
def yqn:Cd:=(.cond (.t 21) yqm .skip)
def yqo:Cd:=(.cond (.t 25) .skip (.exit 0))
def yqp:Cd:=(.reg [26,27] [.o [.mov 26 (.t 6),.bin 27 .add (.t 26) (cI 1),.asg 6 (.t 27)]])
def yqq:Cd:=(.seq (.block 1 (.draw [[],[0],[],[1,2],[],[4],[3],[6],[5,7,6],[0,1,2,3,4,5],[9,3,8,0,1,2,3,4,5],[0,1,2,3,4,5,6,7,8,9,10],[11,8,10,0,1,2,3,4,5,6,7,8,9,10]] [25,28,29,30,31,32,33,34,35,36,37,38] [.o [.faddr 28 0 (.t 5),.ld 29 1 false (.t 28),.bs1 30 1 (cB false),.app 31 1 1 (.t 29) (.t 30),.faddr 32 1 (.t 5),.ld 33 1 false (.t 32)],.call none 34 122 [],.o [.bs1 35 1 (.t 34),.app 36 1 16 (.t 33) (.t 35),.faddr 37 0 (.t 5),.st 1 (.t 37) (.t 31),.faddr 38 1 (.t 5),.st 1 (.t 38) (.t 36)]])) yqp)
def yqr:Cd:=(.seq (.seq (.reg [23,24] [.o [.mov 23 (.t 6),.mov 24 (.t 0),.bin 25 .lss (.t 23) (.t 24)]]) yqo) yqq)
def yqs:Cd:=(.block 0 (.loop yqr))
def yqt:Cd:=(.cond (.t 41) .skip (.exit 2))
def yqu:Cd:=(.reg [42,43] [.o [.mov 42 (.t 7),.bin 43 .add (.t 42) (cI 1),.asg 7 (.t 43)]])
def yqv:Cd:=(.seq (.block 3 (.reg [41,44,45,46,47,48,49] [.o [.faddr 44 2 (.t 5),.ld 45 1 false (.t 44),.bsn 46 [(cI (-1)),(cI (-1)),(cI (-1)),(cI (-1)),(cI (-1)),(cI (-1))],.bs1 47 1 (.t 46),.app 48 1 24 (.t 45) (.t 47),.faddr 49 2 (.t 5),.st 1 (.t 49) (.t 48)]])) yqu)
def yb5:Cd:=(.seq (.seq (.reg [39,40] [.o [.mov 39 (.t 7),.mov 40 (.t 1),.bin 41 .lss (.t 39) (.t 40)]]) yqt) yqv)
def yb6:Cd:=(.block 2 (.loop yb5))
def yb7:Cd:=(.seq (.reg [1,5,7,39,40,41,50] [.o [.ld 50 3 true (.t 5),.st 3 (.t 4) (.t 50)]]) .ret)
def yb8:Cd:=(.seq (.seq (.reg [0,6,23,24,25] [.o [.asg 7 (cI 0)]]) yb6) yb7)
def yb9:Cd:=(.seq (.seq (.reg [21] [.o [.asg 6 (cI 0)]]) yqs) yb8)
def yba:Cd:=(.seq (.seq (.reg [8,9,10,11,12,13,14,15,16,17,18,19,20] [.o [.mov 8 (.t 0),.bin 9 .lss (.t 8) (cI 1),.mov 10 (.t 9)],.g 10 false [.mov 11 (.t 0),.bin 12 .gtr (.t 11) (cI 48)],.o [.pick 13 (.t 10) (cB true) (.t 12),.mov 14 (.t 13)],.g 14 false [.mov 15 (.t 1),.bin 16 .lss (.t 15) (cI 1)],.o [.pick 17 (.t 14) (cB true) (.t 16),.mov 18 (.t 17)],.g 18 false [.mov 19 (.t 1),.bin 20 .gtr (.t 19) (cI 6)],.o [.pick 21 (.t 18) (cB true) (.t 20)]]) yqn) yb9)
def ybb:Cd:=(.seq (.reg [] [.o [.alloc 5 [(.sl true () 1 0 []),(.sl true () 1 0 []),(.sl true () 1 0 [])]]]) yba)
def yqw:FI:=⟨51,2,[.cell 4 3 true],(.seq (.reg [] [.o [.alloc 4 [(.sl true () 1 0 []),(.sl true () 1 0 []),(.sl true () 1 0 [])]]]) ybb)⟩
theorem yyl:z1v Try.prog 76 yqw:=⟨_,_,Try.func76,rfl,by kernel_rfl,by kernel_rfl,Try.call76⟩
def ybc:Cd:=(.seq (.reg [2,3,5,6,7,8,9,10,11,12,13,14,15,16,17,18,19,20,21,22,23,24,25,26,27,28,29,30,31,32] [.o [.faddr 5 0 (.t 2),.ld 6 1 false (.t 5),.faddr 7 0 (.t 3),.ld 8 1 false (.t 7),.bin 9 .eql (.t 6) (.t 8),.mov 10 (.t 9)],.g 10 true [.faddr 11 1 (.t 2),.ld 12 1 false (.t 11),.faddr 13 1 (.t 3),.ld 14 1 false (.t 13),.bin 15 .eql (.t 12) (.t 14)],.o [.pick 16 (.t 10) (.t 15) (cB false),.mov 17 (.t 16)],.g 17 true [.faddr 18 2 (.t 2),.ld 19 1 false (.t 18),.faddr 20 2 (.t 3),.ld 21 1 false (.t 20),.bin 22 .eql (.t 19) (.t 21)],.o [.pick 23 (.t 17) (.t 22) (cB false),.mov 24 (.t 23)],.g 24 true [.faddr 25 3 (.t 2),.ld 26 1 false (.t 25),.b2s 27 (.t 26),.faddr 28 3 (.t 3),.ld 29 1 false (.t 28),.b2s 30 (.t 29),.bin 31 .eql (.t 27) (.t 30)],.o [.pick 32 (.t 24) (.t 31) (cB false),.asg 4 (.t 32)]]) .ret)
def zol:FI:=⟨33,2,[.t 4],(.seq (.reg [0,1,4] [.o [.box 2 (.t 0),.box 3 (.t 1),.asg 4 (cB false)]]) ybc)⟩
theorem yqx:z1v Try.prog 137 zol:=⟨_,_,Try.func137,rfl,by kernel_rfl,by kernel_rfl,Try.call137⟩
def ybd:Cd:=(.seq (.reg [1,2] [.o [.make 1 1 1 [(.sc (.int .u8 0))] (cI 16) (cI 16),.b2s 2 (.t 1),.asg 0 (.t 2)]]) .ret)
def ybe:FI:=⟨3,0,[.t 0],(.seq (.reg [0] [.o [.asg 0 (.c (.sc (.string ⟨#[]⟩)))]]) ybd)⟩
theorem yqy:z1v Try.prog 122 ybe:=⟨_,_,Try.func122,rfl,by kernel_rfl,by kernel_rfl,Try.call122⟩
def ybf:Cd:=(.seq (.reg [0,3,4] [.o [.mov 3 (.t 0),.build 4 [(.sc (.int .i64 0)),(.sc (.int .i64 0)),(.sc (.int .i64 0)),(.sc (.slice none 0 0))] [(0,1,(.t 3))],.st 4 (.t 2) (.t 4)]]) .ret)
def ybg:FI:=⟨5,1,[.cell 2 4 true],(.seq (.reg [] [.o [.alloc 2 [(.sc (.int .i64 0)),(.sc (.int .i64 0)),(.sc (.int .i64 0)),(.sl true () 1 0 [])]]]) ybf)⟩
theorem yqz:z1v Try.prog 123 ybg:=⟨_,_,Try.func123,rfl,by kernel_rfl,by kernel_rfl,Try.call123⟩
def ybh:Cd:=(.seq (.reg [1,2,3,29] [.o [.asg 6 (cI (-1))]]) .ret)
def ybi:Cd:=(.cond (.t 29) ybh .skip)
def ybj:Cd:=(.seq (.reg [1,2,3,29,30,31,32,33,34,35,36,37] [.o [.faddr 30 2 (.t 3),.ld 31 1 false (.t 30),.mov 32 (.t 1),.iaddr 33 1 (.t 31) (.t 32),.ld 34 1 false (.t 33),.mov 35 (.t 2),.iaddr 36 1 (.t 34) (.t 35),.ld 37 1 false (.t 36),.asg 6 (.t 37)]]) .ret)
def ybk:Cd:=(.seq (.seq (.reg [7,8,9,10,11,12,13,14,15,16,17,18,19,20,21,22,23,24,25,26,27,28] [.o [.mov 7 (.t 1),.bin 8 .lss (.t 7) (cI 0),.mov 9 (.t 8)],.g 9 false [.mov 10 (.t 1),.faddr 11 2 (.t 3),.ld 12 1 false (.t 11),.len 13 (.t 12),.bin 14 .geq (.t 10) (.t 13)],.o [.pick 15 (.t 9) (cB true) (.t 14),.mov 16 (.t 15)],.g 16 false [.mov 17 (.t 2),.bin 18 .lss (.t 17) (cI 0)],.o [.pick 19 (.t 16) (cB true) (.t 18),.mov 20 (.t 19)],.g 20 false [.mov 21 (.t 2),.faddr 22 2 (.t 3),.ld 23 1 false (.t 22),.mov 24 (.t 1),.iaddr 25 1 (.t 23) (.t 24),.ld 26 1 false (.t 25),.len 27 (.t 26),.bin 28 .geq (.t 21) (.t 27)],.o [.pick 29 (.t 20) (cB true) (.t 28)]]) ybi) ybj)
def zl6:FI:=⟨38,3,[.t 6],(.seq (.reg [0,6] [.o [.box 3 (.t 0),.asg 6 (cI 0)]]) ybk)⟩
theorem yr0:z1v Try.prog 124 zl6:=⟨_,_,Try.func124,rfl,by kernel_rfl,by kernel_rfl,Try.call124⟩
def ybl:Cd:=(.cond (.t 13) .skip (.exit 0))
def ybm:Cd:=(.seq (.reg [1,2,5,24] [.o [.asg 4 (cB true)]]) .ret)
def ybn:Cd:=(.cond (.t 24) ybm .skip)
def ybo:Cd:=(.reg [24,14,15] [.o [.mov 14 (.t 5),.bin 15 .add (.t 14) (cI 1),.asg 5 (.t 15)]])
def ybp:Cd:=(.seq (.block 1 (.seq (.reg [13,16,17,18,19,20,21,22,23] [.o [.faddr 16 2 (.t 2),.ld 17 1 false (.t 16),.mov 18 (.t 1),.iaddr 19 1 (.t 17) (.t 18),.ld 20 1 false (.t 19),.mov 21 (.t 5),.iaddr 22 1 (.t 20) (.t 21),.ld 23 1 false (.t 22),.bin 24 .lss (.t 23) (cI 0)]]) ybn)) ybo)
def ybq:Cd:=(.seq (.seq (.reg [6,7,8,9,10,11,12] [.o [.mov 6 (.t 5),.faddr 7 2 (.t 2),.ld 8 1 false (.t 7),.mov 9 (.t 1),.iaddr 10 1 (.t 8) (.t 9),.ld 11 1 false (.t 10),.len 12 (.t 11),.bin 13 .lss (.t 6) (.t 12)]]) ybl) ybp)
def ybr:Cd:=(.block 0 (.loop ybq))
def ybs:Cd:=(.seq (.reg [1,2,5,6,7,8,9,10,11,12,13] [.o [.asg 4 (cB false)]]) .ret)
def ybt:Cd:=(.seq (.seq (.reg [] [.o [.asg 5 (cI 0)]]) ybr) ybs)
def zxp:FI:=⟨25,2,[.t 4],(.seq (.reg [0,4] [.o [.box 2 (.t 0),.asg 4 (cB false)]]) ybt)⟩
theorem yr1:z1v Try.prog 125 zxp:=⟨_,_,Try.func125,rfl,by kernel_rfl,by kernel_rfl,Try.call125⟩
def ybu:Cd:=(.cond (.t 15) .skip (.exit 0))
def ybv:Cd:=(.seq (.reg [7,35] [.o [.mov 35 (.t 7),.asg 6 (.t 35)]]) .ret)
def ybw:Cd:=(.seq (.reg [1,2,3,26,27,28,29,30,31,32,33,34] [.o [.faddr 27 2 (.t 3),.ld 28 1 false (.t 27),.mov 29 (.t 1),.iaddr 30 1 (.t 28) (.t 29),.ld 31 1 false (.t 30),.mov 32 (.t 7),.mov 33 (.t 2),.iaddr 34 1 (.t 31) (.t 32),.st 1 (.t 34) (.t 33)]]) ybv)
def ybx:Cd:=(.cond (.t 26) ybw .skip)
def yby:Cd:=(.reg [26,16,17] [.o [.mov 16 (.t 7),.bin 17 .add (.t 16) (cI 1),.asg 7 (.t 17)]])
def ybz:Cd:=(.seq (.block 1 (.seq (.reg [15,18,19,20,21,22,23,24,25] [.o [.faddr 18 2 (.t 3),.ld 19 1 false (.t 18),.mov 20 (.t 1),.iaddr 21 1 (.t 19) (.t 20),.ld 22 1 false (.t 21),.mov 23 (.t 7),.iaddr 24 1 (.t 22) (.t 23),.ld 25 1 false (.t 24),.bin 26 .lss (.t 25) (cI 0)]]) ybx)) yby)
def yc0:Cd:=(.seq (.seq (.reg [8,9,10,11,12,13,14] [.o [.mov 8 (.t 7),.faddr 9 2 (.t 3),.ld 10 1 false (.t 9),.mov 11 (.t 1),.iaddr 12 1 (.t 10) (.t 11),.ld 13 1 false (.t 12),.len 14 (.t 13),.bin 15 .lss (.t 8) (.t 14)]]) ybu) ybz)
def yc1:Cd:=(.block 0 (.loop yc0))
def yc2:Cd:=(.seq (.reg [1,2,3,7,8,9,10,11,12,13,14,15] [.o [.asg 6 (cI (-1))]]) .ret)
def yc3:Cd:=(.seq (.seq (.reg [] [.o [.asg 7 (cI 0)]]) yc1) yc2)
def yc4:FI:=⟨36,3,[.t 6],(.seq (.reg [0,6] [.o [.box 3 (.t 0),.asg 6 (cI 0)]]) yc3)⟩
theorem yr2:z1v Try.prog 126 yc4:=⟨_,_,Try.func126,rfl,by kernel_rfl,by kernel_rfl,Try.call126⟩
def yc5:Cd:=(.cond (.t 12) .skip (.exit 0))
def yc6:Cd:=(.cond (.t 22) .skip (.exit 2))
def yc7:Cd:=(.reg [38,39,40] [.o [.mov 39 (.t 5),.bin 40 .add (.t 39) (cI 1),.asg 5 (.t 40)]])
def yc8:Cd:=(.cond (.t 38) yc7 .skip)
def yc9:Cd:=(.reg [38,23,24] [.o [.mov 23 (.t 7),.bin 24 .add (.t 23) (cI 1),.asg 7 (.t 24)]])
def yca:Cd:=(.seq (.block 3 (.seq (.reg [22,25,26,27,28,29,30,31,32,33,34,35,36,37] [.o [.faddr 25 2 (.t 2),.ld 26 1 false (.t 25),.mov 27 (.t 6),.iaddr 28 1 (.t 26) (.t 27),.ld 29 1 false (.t 28),.mov 30 (.t 7),.iaddr 31 1 (.t 29) (.t 30),.ld 32 1 false (.t 31),.mov 33 (.t 1),.bin 34 .eql (.t 32) (.t 33),.mov 35 (.t 34)],.g 35 true [.mov 36 (.t 1),.bin 37 .geq (.t 36) (cI 0)],.o [.pick 38 (.t 35) (.t 37) (cB false)]]) yc8)) yc9)
def ycb:Cd:=(.seq (.seq (.reg [15,16,17,18,19,20,21] [.o [.mov 15 (.t 7),.faddr 16 2 (.t 2),.ld 17 1 false (.t 16),.mov 18 (.t 6),.iaddr 19 1 (.t 17) (.t 18),.ld 20 1 false (.t 19),.len 21 (.t 20),.bin 22 .lss (.t 15) (.t 21)]]) yc6) yca)
def ycc:Cd:=(.block 2 (.loop ycb))
def ycd:Cd:=(.reg [7,15,16,17,18,19,20,21,22,13,14] [.o [.mov 13 (.t 6),.bin 14 .add (.t 13) (cI 1),.asg 6 (.t 14)]])
def yce:Cd:=(.seq (.block 1 (.seq (.reg [12] [.o [.asg 7 (cI 0)]]) ycc)) ycd)
def zxq:Cd:=(.seq (.seq (.reg [8,9,10,11] [.o [.mov 8 (.t 6),.faddr 9 2 (.t 2),.ld 10 1 false (.t 9),.len 11 (.t 10),.bin 12 .lss (.t 8) (.t 11)]]) yc5) yce)
def zxr:Cd:=(.block 0 (.loop zxq))
def zxs:Cd:=(.seq (.reg [1,2,5,6,8,9,10,11,12,41] [.o [.mov 41 (.t 5),.asg 4 (.t 41)]]) .ret)
def zxt:Cd:=(.seq (.seq (.reg [] [.o [.asg 6 (cI 0)]]) zxr) zxs)
def zxu:Cd:=(.seq (.reg [] [.o [.asg 5 (cI 0)]]) zxt)
def ycf:FI:=⟨42,2,[.t 4],(.seq (.reg [0,4] [.o [.box 2 (.t 0),.asg 4 (cI 0)]]) zxu)⟩
theorem yr3:z1v Try.prog 127 ycf:=⟨_,_,Try.func127,rfl,by kernel_rfl,by kernel_rfl,Try.call127⟩
end Go.OT
namespace Go.OT
open Go.Proofs
theorem wu1:IntKind.wrap .u64 1=1:=rfl
theorem wu6:IntKind.wrap .u64 6=6:=rfl
theorem wi6:IntKind.wrap .i64 6=6:=rfl
abbrev u64 (n:Int):AU:=.sc (.int .u64 n)
set_option maxHeartbeats 4000000 in
theorem zsj:FnC Try.prog 166 [] [u64 1,u64 6] [] (.tuple [u64 0,u64 6]):=by
 refine FnC.go ypy rfl ?_
 refine WL.sreg (by simp;rfl) (by simp;rfl) ?_
 refine WL.sreg (by simp;rfl) (by simp;rfl) ?_
 refine WL.sreg (by simp;rfl) (by simp;rfl) ?_
 refine WL.sreg (by simp;rfl) (by simp;rfl) ?_
 refine WL.sreg (by simp;rfl) (by simp;rfl) ?_
 refine WL.sreg (by simp;rfl) (by simp;rfl) ?_
 refine WL.sreg (by simp;rfl) (by simp;rfl) ?_
 refine WL.sreg (by simp;rfl) (by simp;rfl) ?_
 refine WL.sreg (by simp;rfl) (by simp;rfl) ?_
 refine WL.sreg (by simp;rfl) (by simp;rfl) ?_
 refine WL.sreg (by simp;rfl) (by simp;rfl) ?_
 refine WL.sreg (by simp;rfl) (by simp;rfl) ?_
 refine WL.ret ⟨.inr rfl,?_⟩
 simp[y9k]
 exact⟨by kernel_rfl,by kernel_rfl⟩
set_option maxHeartbeats 4000000 in
theorem ycg:FnC Try.prog 140 [] [u64 1,u64 6] [] (.tuple [u64 0,u64 6]):=by
 refine FnC.go ypl rfl ?_
 refine WL.sreg (by simp;rfl) (by simp;rfl) ?_
 refine WL.seq (WL.cond (t:=false) (by simp) (by simp) fun _=>WL.skip ?_)
 refine WL.sregC (RL.o (by simp;rfl) (RL.call0 false zsj (by simp) (by simp) (RL.o (by simp;rfl) (RL.nil ⟨_,by simp;rfl,?_⟩))))
 refine WL.sreg (by simp;rfl) (by simp;rfl) ?_
 refine WL.ret ⟨.inr rfl,?_⟩
 simp[y7j]
theorem ws1 (a b:Int)(h:IntKind.wrap .i64 (a+b)=a+b):IntKind.wrap .i64 (a+b)=a+b:=h
def zub:Nat→SL
 | 0=>[(700,0,sI true [-1,0,0,0,0,0]),(800,0,i64 1)]
 | 1=>[(700,0,sI true [-1,-1,0,0,0,0]),(800,0,i64 2)]
 | 2=>[(700,0,sI true [-1,-1,-1,-1,0,0]),(800,0,i64 4)]
 | _=>[(700,0,sI true [-1,-1,-1,-1,-1,-1]),(800,0,i64 6)]
set_option maxHeartbeats 4000000 in
theorem zom:FnC Try.prog 96 [] [sI false [-1],i64 6] [] (sI true [-1,-1,-1,-1,-1,-1]):=by
 refine FnC.go yy7 rfl ?_
 refine WL.sreg (by simp[wu1,wu6,wi6];rfl) (by simp[wu1,wu6,wi6];rfl) ?_
 refine WL.seq (WL.sreg (by simp[wu1,wu6,wi6];rfl) (by simp[wu1,wu6,wi6];rfl) ?_)
 refine WL.cond (t:=false) (by simp) (by simp) fun _=>WL.skip ?_
 refine WL.sregC (RL.o (by simp[wu1,wu6,wi6];rfl) (RL.call0 false ycg (by simp[wu1,wu6]) (by simp) (RL.o (by simp[wu1,wu6,wi6];rfl) (RL.nil ⟨_,by simp;rfl,?_⟩))))
 refine WL.seq (WL.sregC (RL.o (by simp[wu1,wu6,wi6];rfl) (RL.g (by simp[wu1,wu6,wi6];rfl) (RL.o (by simp[wu1,wu6,wi6];rfl) (RL.nil ⟨_,by simp;rfl,?_⟩)))))
 refine WL.cond (t:=false) (by simp) (by simp) fun _=>WL.skip ?_
 refine WL.sreg (by simp[wu1,wu6,wi6];rfl) (by simp[wu1,wu6,wi6];rfl) ?_
 refine WL.sreg (by simp[z8i];rfl) (by simp;rfl) ?_
 refine WL.seq (WL.block (WL.count 3 zub (fun _=>True) rfl trivial fun i hi _=>?_))
 match i,hi with
 | 0,_ =>
  refine WL.seq (WL.sreg (by simp[zub];rfl) (by simp;rfl) ?_)
  refine WL.cond (t:=true) (by simp) (fun _=>WL.skip ?_) (by simp)
  refine WL.block (WL.draw z0t (by simp[z09,noH]) (DL.o (by simp[ws1 1 1 rfl];exact⟨rfl,rfl⟩) (DL.nil ⟨by kernel_rfl,_,by simp;rfl,by omega,?_,trivial⟩)))
  simp[zub]
  exact⟨rfl,rfl⟩
 | 1,_ =>
  refine WL.seq (WL.sreg (by simp[zub];rfl) (by simp;rfl) ?_)
  refine WL.cond (t:=true) (by simp) (fun _=>WL.skip ?_) (by simp)
  refine WL.block (WL.draw z0t (by simp[z09,noH]) (DL.o (by simp[ws1 2 2 rfl];exact⟨rfl,rfl⟩) (DL.nil ⟨by kernel_rfl,_,by simp;rfl,by omega,?_,trivial⟩)))
  simp[zub]
  exact⟨rfl,rfl⟩
 | 2,_ =>
  refine WL.seq (WL.sreg (by simp[zub];rfl) (by simp;rfl) ?_)
  refine WL.cond (t:=true) (by simp) (fun _=>WL.skip ?_) (by simp)
  refine WL.block (WL.draw z0t (by simp[z09,noH]) (DL.o (by simp[ws1 4 2 rfl];exact⟨rfl,rfl⟩) (DL.nil ⟨by kernel_rfl,_,by simp;rfl,by omega,?_,trivial⟩)))
  simp[zub]
  exact⟨rfl,rfl⟩
 | 3,_ =>
  refine WL.seq (WL.sreg (by simp[zub];rfl) (by simp;rfl) ?_)
  refine WL.cond (t:=false) (by simp) (by simp) fun _=>WL.exit ?_
  refine WL.sregC (RL.o (by simp;rfl) (RL.own 4 (by decide) (by simp;rfl) (RL.nil ⟨_,by simp;rfl,?_⟩)))
  refine WL.ret ⟨.inr rfl,?_⟩
  simp[yxg]
end Go.OT
namespace Go.OT
open Go.Proofs
def z0q (p c:Int):Bool:=decide (p < 1) || (decide (48 < p) || (decide (c < 1) || decide (6 < c)))
def z0p (p c:Int):St:=if z0q p c=true then ⟨[],[],[]⟩ else ⟨List.replicate p.toNat false,List.replicate p.toNat (List.replicate 16 0),List.replicate c.toNat [-1,-1,-1,-1,-1,-1]⟩
theorem z4y {α:Type}(n:Nat)(x:α):List.replicate n x ++ [x]=List.replicate (n+1) x:=by
 rw[← List.replicate_append_replicate (m:=1)]<;>rfl
def nwA (n m i:Nat)(cs:List AU):SL:=[(100,0,i64 m),(400,0,.bptr 4 1 0),(401,0,.sl true () 1 0 []),(402,0,.sl true () 1 0 []),(403,0,.sl true () 1 0 []),(499,1,.non),(500,0,.bptr 5 1 0),(501,0,.sl true () 1 n (List.replicate n (bl false))),(502,0,.sl true () 1 i cs),(503,0,.sl true () 1 0 []),(599,1,.non),(2400,0,i64 n),(2500,0,i64 i)]
def nwB (n m j:Nat)(cs:List AU):SL:=[(400,0,.bptr 4 1 0),(401,0,.sl true () 1 0 []),(402,0,.sl true () 1 0 []),(403,0,.sl true () 1 0 []),(499,1,.non),(500,0,.bptr 5 1 0),(501,0,.sl true () 1 n (List.replicate n (bl false))),(502,0,.sl true () 1 n (List.replicate n (sU true (List.replicate 16 0)))),(503,0,.sl true () 1 j cs),(599,1,.non),(3400,0,i64 m),(3500,0,i64 j)]
theorem zjq (x:AU)(i:Nat):List.take (i+1) (List.replicate i x ++ [x])=List.replicate (i+1) x:=by
 rw[z4y,List.take_of_length_le (by simp)]
theorem zjr (x:AU):∀ n,z8i [x] n=List.replicate n x
 | 0=>rfl
 | n+1=>by rw[z8i,zjr x n];rfl
theorem zon (x:AU)(n:Nat):List.take n (z8i [x] n)=List.replicate n x:=by
 rw[zjr,List.take_of_length_le (by simp)]
set_option maxHeartbeats 4000000 in
theorem ych (p c:Int):FnC Try.prog 42 [] [i64 p,i64 c] [] (z6m true (z0p p c)):=by
 refine FnC.go yy5 rfl ?_
 refine WL.sreg (by simp;rfl) (by simp;rfl) ?_
 refine WL.seq (WL.ifEq (z0q p c) [(0,0,i64 p),(100,0,i64 c),(400,0,.bptr 4 1 0),(401,0,.sl true () 1 0 []),(402,0,.sl true () 1 0 []),(403,0,.sl true () 1 0 []),(499,1,.non),(1900,0,bl (z0q p c))] ?_ (by simp) (fun h=>?_) (fun h=>WL.skip ?_))
 ·by_cases h1:p < 1
  ·simp[z0q,h1]
  by_cases h2:48 < p
  ·simp[z0q,h1,h2]
  by_cases h3:c < 1
  ·simp[z0q,h1,h2,h3]
  by_cases h4:6 < c
  ·simp[z0q,h1,h2,h3,h4]
  ·simp[z0q,h1,h2,h3,h4]
 ·refine WL.sreg (by simp;rfl) (by simp;rfl) ?_
  refine WL.nil1 401 true 1 (by simp) (WL.nil1 402 true 1 (by simp) (WL.nil1 403 true 1 (by simp) (WL.ret ⟨.inr rfl,?_⟩)))
  simp[yod,z0p,h]
 simp only[z0q,Bool.or_eq_false_iff,decide_eq_false_iff_not] at h
 obtain⟨n,rfl⟩:=Int.eq_ofNat_of_zero_le (a:=p) (by omega)
 obtain⟨m,rfl⟩:=Int.eq_ofNat_of_zero_le (a:=c) (by omega)
 have hn:n≤48:=by omega
 have hm:m≤6:=by omega
 have hst:z0p n m=⟨List.replicate n false,List.replicate n (List.replicate 16 0),List.replicate m [-1,-1,-1,-1,-1,-1]⟩:=by
  unfold z0p
  rw[if_neg]
  ·rfl
  ·simp only[z0q,Bool.or_eq_true,decide_eq_true_eq];omega
 rw[hst]
 have hb1:n≤281474976710656:=by omega
 have hb2:(n:Int)≤9223372036854775807:=by omega
 refine WL.sreg (by simp[hb1,hb2];rfl) (by simp;rfl) ?_
 refine WL.nil1 502 true 1 (by simp) (WL.nil1 503 true 1 (by simp) ?_)
 refine WL.seq (WL.sreg (by simp;rfl) (by simp;rfl) ?_)
 refine WL.block (WL.count n (fun i=>nwA n m i (List.replicate i (sU true (List.replicate 16 0)))) (fun _=>True) (by simp[zon,nwA]) trivial fun i hi _=>?_)
 by_cases h:i < n
 ·refine WL.sreg (by simp[h,nwA];rfl) (by simp;rfl) ?_
  refine WL.seq (WL.cond (t:=true) (by simp) (fun _=>WL.skip ?_) (by simp))
  have hm1:(i+1) * 24≤140737488355328:=by omega
  have hm2:i+1≤maxLen:=by unfold maxLen;omega
  refine WL.seq (WL.block (WL.draw z0t (by simp[z09,noH]) (DL.o (by simp[hm1,hm2,z8i];exact⟨rfl,rfl⟩) (DL.nil ⟨by kernel_rfl,_,by simp;rfl,?_⟩))))
  have hs:z0c n:=by unfold z0c;omega
  refine WL.reg (RL.run (by simp[z0n hs h];rfl) ⟨_,by simp;rfl,h,?_,trivial⟩)
  exact congrArg (nwA n m (i+1)) (zjq (sU true (List.replicate 16 0)) i)
 ·refine WL.sreg (by simp[h,nwA];rfl) (by simp;rfl) ?_
  refine WL.seq (WL.cond (t:=false) (by simp) (by simp) fun _=>WL.exit ?_)
  obtain rfl:i=n:=by omega
  refine WL.seq (WL.sreg (by simp[nwA];rfl) (by simp;rfl) ?_)
  refine WL.block (WL.count m (fun j=>nwB i m j (List.replicate j (sI true [-1,-1,-1,-1,-1,-1]))) (fun _=>True) (by simp[nwB]) trivial fun j hj _=>?_)
  by_cases h:j < m
  ·have hs:z0c m:=by unfold z0c;omega
   refine WL.sreg (by simp[h,nwB];rfl) (by simp;rfl) ?_
   refine WL.seq (WL.cond (t:=true) (by simp) (fun _=>WL.skip ?_) (by simp))
   have hm1:(j+1) * 24≤140737488355328:=by omega
   have hm2:j+1≤maxLen:=by unfold maxLen;omega
   refine WL.seq (WL.block (WL.draw z0t (by simp[z09,noH]) (DL.o (by simp;exact⟨rfl,rfl⟩) ?_)))
   refine DL.call0 true zom (by simp) (by simp) ?_
   refine DL.o (by simp[hm1,hm2];exact⟨rfl,rfl⟩) ?_
   refine DL.nil ⟨by kernel_rfl,_,by simp;rfl,?_⟩
   refine WL.reg (RL.run (by simp[z0n hs h];rfl) ⟨_,by simp;rfl,h,?_,trivial⟩)
   exact congrArg (nwB i m (j+1)) (zjq (sI true [-1,-1,-1,-1,-1,-1]) j)
  ·refine WL.sreg (by simp[h,nwB];rfl) (by simp;rfl) ?_
   refine WL.seq (WL.cond (t:=false) (by simp) (by simp) fun _=>WL.exit ?_)
   obtain rfl:j=m:=by omega
   refine WL.sreg (by simp;rfl) (by simp;rfl) ?_
   refine WL.ret ⟨.inr rfl,?_⟩
   simp[yod]
end Go.OT
namespace Go.OT
open Go.Proofs
theorem RL.newC {nt:Nat}{L:SL}{K:SL→Prop}{rest:List Sg}{d:Nat}{cs:List COd}(p c:Int)
  (has:z15 (fnL L) [] false cs=some [i64 p,i64 c])
  (h:RL Try.prog nt rest (z0j L (100 * d) (z6m false (z0p p c))) K):RL Try.prog nt (.call none d 42 cs :: rest) L K:=by
 refine RL.call0 false (ych p c) has ?_ (RL.freeze (100 * d) ?_)
 ·simp[z1a,z6l,roots,z1g]
 ·rw[zga,zg8]
  exact h
theorem z78 (p c:Int):Sized (z0p p c):=by
 unfold z0p
 split
 ·exact⟨by simp,by simp,by simp,by simp,by simp⟩
 ·rename_i h
  simp only[z0q,Bool.or_eq_true,decide_eq_true_eq,not_or] at h
  exact⟨by simp;omega,by simp;omega,by simp;omega,fun b hb=>by rw[List.eq_of_mem_replicate hb];simp,fun l hl=>by rw[List.eq_of_mem_replicate hl];simp⟩
end Go.OT
namespace Go.OT
open Go.Proofs
end Go.OT
namespace Go.OT
open Go.Proofs
theorem yym (n:Int)(m:Nat)(h0:0 < m)(h:m≤1000000000):∃ k:Nat,k < m∧IntKind.wrap .i64 ((IntKind.wrap .u64 n).tmod (m:Int))=(k:Int):=by
 have hw:0≤IntKind.wrap .u64 n:=by rw[IntKind.wrap_u64];omega
 have h1:=Int.tmod_nonneg (m:Int) hw
 have h2:=Int.tmod_lt_of_pos (IntKind.wrap .u64 n) (show (0:Int) < (m:Int) by omega)
 refine⟨((IntKind.wrap .u64 n).tmod (m:Int)).toNat,by omega,?_⟩
 rw[z01 (by omega) (by omega)]
 omega
end Go.OT
namespace Go.OT
open Go.Proofs
def z16:List UInt8:=List.replicate 16 0
def sw (w:List UInt8)(c1 c2:Int):St:=⟨[true,false,false],[w,z16,z16],[[c1,-1,-1,-1,-1,-1],[c2,-1,-1,-1,-1,-1]]⟩
end Go.OT
namespace Go.OT
open Go.Proofs
end Go.OT
namespace Go.OT
open Go.Proofs
abbrev str (w:List UInt8):AU:=.sc (.string (z3g w))
abbrev sS (o:Bool)(l:List (List UInt8)):AU:=.sl o () 1 l.length (l.map str)
abbrev yci (o:Bool)(s:St):List AU:=[sB o s.There,sS o s.Body,sII o s.Handles]
abbrev ycj (o:Bool)(s:St):AU:=.agg (yci o s)
theorem yck:z8i [.sc (.int .u8 0)] 16=z16.map (fun b=>u8 (b.toNat:Int)):=rfl
theorem yr4:List.take 16 (z16.map (fun b=>u8 (b.toNat:Int)))=z16.map (fun b=>u8 (b.toNat:Int)):=rfl
theorem ycl:z16.length=16:=rfl
theorem ze1:FnC Try.prog 122 [] [] [] (str z16):=by
 refine FnC.go yqy rfl ?_
 refine WL.sreg (by simp;rfl) (by simp;rfl) ?_
 refine WL.sreg (by simp[yck,yr4,ycl];rfl) (by simp;rfl) ?_
 refine WL.ret ⟨.inr rfl,?_⟩
 simp[ybe]
theorem z2l (n:Int):FnC Try.prog 123 [] [i64 n] [] (za2 true (rsE n)):=by
 refine FnC.go yqz rfl ?_
 refine WL.sreg (by simp;rfl) (by simp;rfl) ?_
 refine WL.sreg (by simp;rfl) (by simp;rfl) ?_
 refine WL.nil1 204 true 1 (by simp) (WL.ret ⟨.inr rfl,?_⟩)
 simp[ybg,rsE]
theorem zoo {a b:List UInt8}:((z3g a).toList == (z3g b).toList)=(a == b):=by rw[z4r,z4r]
set_option maxHeartbeats 1000000 in
theorem zop (a b:Rs):FnC Try.prog 137 [] [za2 false a,za2 false b] [] (bl (z1b a b)):=by
 refine FnC.go yqx rfl ?_
 refine WL.sreg (by simp;rfl) (by simp;rfl) ?_
 cases h1:(a.Code == b.Code) with
 | false =>
  refine WL.sreg (by simp[h1];rfl) (by simp;rfl) ?_
  refine WL.ret ⟨.inr rfl,?_⟩
  simp[zol,z1b,h1]
 | true =>
 cases h2:(a.Page == b.Page) with
 | false =>
  refine WL.sreg (by simp[h1,h2];rfl) (by simp;rfl) ?_
  refine WL.ret ⟨.inr rfl,?_⟩
  simp[zol,z1b,h1,h2]
 | true =>
 cases h3:(a.Handle == b.Handle) with
 | false =>
  refine WL.sreg (by simp[h1,h2,h3];rfl) (by simp;rfl) ?_
  refine WL.ret ⟨.inr rfl,?_⟩
  simp[zol,z1b,h1,h2,h3]
 | true =>
  refine WL.sreg (by simp[h1,h2,h3,zoo];rfl) (by simp;rfl) ?_
  refine WL.ret ⟨.inr rfl,?_⟩
  simp[zol,z1b,h1,h2,h3]
def z8w (l:List Int):Bool:=l.any fun p=>decide (p < 0)
set_option maxHeartbeats 1000000 in
theorem zoq (s:St)(c:Nat)(hc:c < s.Handles.length)(hs:z0c s.Handles[c].length):FnC Try.prog 125 [] [ycj false s,i64 c] [] (bl (z8w s.Handles[c])):=by
 refine FnC.go yr1 rfl ?_
 refine WL.sreg (by simp;rfl) (by simp;rfl) ?_
 refine WL.seq (WL.sreg (by simp;rfl) (by simp;rfl) ?_)
 refine WL.block (WL.count s.Handles[c].length (fun i=>[(100,0,i64 c),(200,0,.bptr 2 1 0),(201,0,sB false s.There),(202,0,sS false s.Body),(203,0,sII false s.Handles),(299,1,.non),(500,0,i64 i)]) (fun i=>∀ j (hj:j < s.Handles[c].length),j < i→0≤s.Handles[c][j]) rfl (fun j _ h=>absurd h (Nat.not_lt_zero _)) fun i hi hp=>?_)
 by_cases h:i < s.Handles[c].length
 ·refine WL.seq (WL.sreg (by simp[hc,h];rfl) (by simp;rfl) ?_)
  refine WL.cond (t:=true) (by simp) (fun _=>WL.skip ?_) (by simp)
  refine WL.seq (WL.block (WL.sreg (by simp[hc,h];rfl) (by simp;rfl) ?_))
  by_cases hf:s.Handles[c][i] < 0
  ·refine WL.cond (t:=true) (by simp[hf]) (fun _=>?_) (by simp)
   refine WL.sreg (by simp;rfl) (by simp;rfl) ?_
   refine WL.ret ⟨.inr rfl,?_⟩
   have:z8w s.Handles[c]=true:=List.any_eq_true.2 ⟨_,List.getElem_mem h,by simpa using hf⟩
   simp[zxp,this]
  ·refine WL.cond (t:=false) (by simp;omega) (by simp) fun _=>WL.skip ?_
   refine WL.reg (RL.run (by simp[z0n hs h];rfl) ⟨_,by simp;rfl,h,?_,fun j hj hji=>?_⟩)
   ·simp
   ·by_cases e:j=i
    ·subst e;omega
    ·exact hp j hj (by omega)
 ·refine WL.seq (WL.sreg (by simp[hc,h];rfl) (by simp;rfl) ?_)
  refine WL.cond (t:=false) (by simp) (by simp) fun _=>WL.exit ?_
  refine WL.sreg (by simp;rfl) (by simp;rfl) ?_
  refine WL.ret ⟨.inr rfl,?_⟩
  have:z8w s.Handles[c]=false:=by
   simp only[z8w,List.any_eq_false,decide_eq_true_eq,Int.not_lt]
   intro x hx
   obtain⟨j,hj,rfl⟩:=List.mem_iff_getElem.1 hx
   exact hp j hj (by omega)
  simp[zxp,this]
end Go.OT
namespace Go.OT
open Go.Proofs
structure Cl where
 Client:Int
 op:Op
abbrev z62 (o:Bool)(c:Cl):List AU:=[i64 c.Client,i64 c.op.Kind,i64 c.op.Page,i64 c.op.Handle,i64 c.op.Off,i64 c.op.N,sU o c.op.Data]
abbrev ycm (o:Bool)(c:Cl):AU:=.agg (z62 o c)
def um (x m:Int):Nat:=(IntKind.wrap .i64 ((IntKind.wrap .u64 x).tmod m)).toNat
theorem z79 (x:Int)(m:Nat)(h0:0 < m)(h:m≤1000000000):um x m < m∧IntKind.wrap .i64 ((IntKind.wrap .u64 x).tmod (m:Int))=(um x m:Int):=by
 obtain⟨k,hk,e⟩:=yym x m h0 h
 have:um x m=k:=by simp[um,e]
 rw[this]
 exact⟨hk,e⟩
def ze2 (c:Cl)(p k:Nat):Cl:=⟨(um c.Client k:Int),⟨1+(um c.op.Kind 8:Int),(um c.op.Page p:Int),(um c.op.Handle 3:Int),(um c.op.Off 8:Int),(um c.op.N 9:Int),c.op.Data.take 8⟩⟩
set_option maxHeartbeats 4000000 in
theorem zxv (c:Cl)(p k:Nat)(hp:0 < p)(hp':p≤1000)(hk:0 < k)(hk':k≤1000)(hd:c.op.Data.length≤1000):FnC Try.prog 43 [] [ycm false c,i64 p,i64 k] [] (ycm false (ze2 c p k)):=by
 have u1:=z79 c.op.Kind 8 (by decide) (by decide)
 have u2:=z79 c.op.Page p hp (by omega)
 have u3:=z79 c.op.Handle 3 (by decide) (by decide)
 have u4:=z79 c.op.Off 8 (by decide) (by decide)
 have u5:=z79 c.op.N 9 (by decide) (by decide)
 have u6:=z79 c.Client k hk (by omega)
 rw[show ((8:Nat):Int)=8 from rfl] at u1 u4
 rw[show ((3:Nat):Int)=3 from rfl] at u3
 rw[show ((9:Nat):Int)=9 from rfl] at u5
 have w1:IntKind.wrap .i64 (1+(um c.op.Kind 8:Int))=1+(um c.op.Kind 8:Int):=z01 (by omega) (by omega)
 have wp:IntKind.wrap .u64 (p:Int)=(p:Int):=IntWalk.u64_in _ ⟨by omega,by omega⟩
 have wk:IntKind.wrap .u64 (k:Int)=(k:Int):=IntWalk.u64_in _ ⟨by omega,by omega⟩
 have p0:p ≠ 0:=by omega
 have k0:k ≠ 0:=by omega
 refine FnC.go yyj rfl ?_
 refine WL.sreg (by simp;rfl) (by simp;rfl) ?_
 refine WL.sreg (by simp;rfl) (by simp;rfl) ?_
 refine WL.sreg (by simp[u1.2,w1];rfl) (by simp;rfl) ?_
 refine WL.seq (WL.draw z0t (by simp[z09,noH]) (DL.o (by simp[u2.2,u3.2,wp,p0];exact⟨rfl,rfl⟩) (DL.nil ⟨by kernel_rfl,_,by simp;rfl,?_⟩)))
 refine WL.sreg (by simp[u4.2,u5.2];rfl) (by simp;rfl) ?_
 refine WL.seq (WL.sreg (by simp;rfl) (by simp;rfl) ?_)
 by_cases h8:8 < c.op.Data.length
 ·have h8':(8:Int) < c.op.Data.length:=by omega
  have h8n:8≤c.op.Data.length:=by omega
  refine WL.cond (t:=true) (by simp[h8']) (fun _=>?_) (by simp)
  refine WL.reg (RL.run (by simp[h8n];rfl) ⟨_,by simp;rfl,?_⟩)
  refine WL.seq (WL.draw z0t (by simp[z09,noH]) (DL.o (by simp[u6.2,wk,k0];exact⟨rfl,rfl⟩) (DL.nil ⟨by kernel_rfl,_,by simp;rfl,?_⟩)))
  refine WL.ret ⟨.inr rfl,?_⟩
  have e8:min 8 c.op.Data.length=8:=by omega
  simp[yqd,ze2,e8]
 ·have h8':¬ (8:Int) < c.op.Data.length:=by omega
  refine WL.cond (t:=false) (by simp[h8']) (by simp) (fun _=>WL.skip ?_)
  refine WL.seq (WL.draw z0t (by simp[z09,noH]) (DL.o (by simp[u6.2,wk,k0];exact⟨rfl,rfl⟩) (DL.nil ⟨by kernel_rfl,_,by simp;rfl,?_⟩)))
  refine WL.ret ⟨.inr rfl,?_⟩
  have e8:c.op.Data.take 8=c.op.Data:=List.take_of_length_le (by omega)
  simp[yqd,ze2,e8]
end Go.OT
namespace Go.OT
open Go.Proofs
theorem ty3:Ty Try.prog 3 Int (fun n=>[i64 n]) (fun n=>(Lit.int .i64 n).wf=true):=Ty.int Try.underlying3
theorem yyn:Ty Try.prog 42 Op (fun q=>[i64 q.Kind,i64 q.Page,i64 q.Handle,i64 q.Off,i64 q.N,sU false q.Data]) (fun q=>q.Data.length≤9223372036854775807) :=
 (Ty.struct Try.underlying42 (by kernel_rfl) (TyF.cons rfl (by kernel_rfl) ty3 (TyF.cons rfl (by kernel_rfl) ty3 (TyF.cons rfl (by kernel_rfl) ty3 (TyF.cons rfl (by kernel_rfl) ty3 (TyF.cons rfl (by kernel_rfl) ty3 (TyF.cons rfl (by kernel_rfl) yyi (TyF.nil (off:=6))))))))).map
  (fun p=>⟨p.1,p.2.1,p.2.2.1,p.2.2.2.1,p.2.2.2.2.1,p.2.2.2.2.2.1⟩) (fun p=>rfl) (fun p h=>h.2.2.2.2.2.1)
theorem yyo:Ty Try.prog 70 Cl (fun c=>z62 false c) (fun c=>c.op.Data.length≤9223372036854775807) :=
 (Ty.struct Try.underlying70 (by kernel_rfl) (TyF.cons rfl (by kernel_rfl) ty3 (TyF.cons rfl (by kernel_rfl) yyn (TyF.nil (off:=7))))).map
  (fun p=>⟨p.1,p.2.1⟩) (fun p=>rfl) (fun p h=>h.2.1)
theorem yyp:TyA Try.prog 68 (List Cl) (fun l=>.sl false () 7 l.length (l.flatMap (z62 false))) (fun l=>l.length≤9223372036854775807∧∀ c ∈ l,c.op.Data.length≤9223372036854775807) :=
 TyA.slice Try.underlying68 (Ty.slice (s:=7) Try.underlying68 (by kernel_rfl) (by decide) (fun _=>rfl) yyo)
end Go.OT
