/- Part 8 of the proof: see its last file. -/
import Derived.Test.YtlcemfnjhdcmoaaWs07
set_option linter.unusedSimpArgs false
set_option linter.unusedVariables false
set_option maxHeartbeats 64000000
namespace Go.OT
open Go.Proofs
def yrm:Cd:=(.seq (.reg [0,1,2,7,8,9,10] [.o [.mov 7 (.t 0),.mov 8 (.t 1),.mov 9 (.t 2)],.call none 10 88 [(.t 7),(.t 8),(.t 9),(.c (.sc .nilFunc))],.o [.asg 6 (.t 10)]]) .ret)
def ywp:FI:=⟨11,3,[.t 6],(.seq (.reg [6] [.o [.asg 6 (cI 0)]]) yrm)⟩
theorem yxw:z25 Try.prog 28 ywp:=⟨_,_,Try.func28,rfl,by kernel_rfl,by kernel_rfl,Try.call28⟩
def yrn:Cd:=(.seq (.reg [8,17,18] [.o [.build 18 [(.sc (.slice none 0 0)),(.sc (.slice none 0 0)),(.sc (.slice none 0 0))] [],.st 3 (.t 6) (.t 18),.asg 7 (cB false)]]) .ret)
def yro:Cd:=(.cond (.t 17) yrn .skip)
def yrp:Cd:=(.seq (.reg [8,17,19] [.o [.ld 19 3 true (.t 8),.st 3 (.t 6) (.t 19),.asg 7 (cB true)]]) .ret)
def yrq:Cd:=(.seq (.seq (.reg [0,1,2,12,13,14,15,16] [.o [.mov 12 (.t 0),.mov 13 (.t 1),.mov 14 (.t 2),.mkf 15 89 [(.t 8)]],.call none 16 88 [(.t 12),(.t 13),(.t 14),(.t 15)],.o [.bin 17 .neq (.t 16) (cI 0)]]) yro) yrp)
def yrr:Cd:=(.seq (.reg [9,10,11] [.o [.mov 9 (.t 1),.mov 10 (.t 2)],.call none 11 42 [(.t 9),(.t 10)],.o [.alloc 8 [(.sl true () 1 0 []),(.sl true () 1 0 []),(.sl true () 1 0 [])],.st 3 (.t 8) (.t 11)]]) yrq)
def yrs:FI:=⟨20,3,[.cell 6 3 true,.t 7],(.seq (.reg [7] [.o [.alloc 6 [(.sl true () 1 0 []),(.sl true () 1 0 []),(.sl true () 1 0 [])],.asg 7 (cB false)]]) yrr)⟩
theorem yxx:z25 Try.prog 30 yrs:=⟨_,_,Try.func30,rfl,by kernel_rfl,by kernel_rfl,Try.call30⟩
def yrt:Cd:=(.reg [4,15,16,17,18,19] [.o [.mov 16 (.t 3),.mov 17 (.t 4),.bs1 18 1 (.t 17),.app 19 1 8 (.t 16) (.t 18),.asg 3 (.t 19)]])
def yru:Cd:=(.cond (.t 15) yrt .skip)
def yrv:Cd:=(.seq (.reg [5,13,14] [.o [.faddr 13 12 (.t 5),.ld 14 1 false (.t 13),.bin 15 .gtr (.t 14) (cI 0)]]) yru)
def yrw:Cd:=(.reg [4,15,20] [.o [.bin 20 .add (.t 8) (cI 1),.mov 8 (.t 20)]])
def yrx:Cd:=(.seq (.block 1 (.seq (.reg [9,10,11,12] [.o [.mov 10 (.t 8),.iaddr 11 14 (.t 6) (.t 8),.ld 12 14 true (.t 11),.alloc 5 [(.sc (.int .i64 0)),(.sc (.int .i64 0)),(.sc (.int .i64 0)),(.sc (.int .i64 0)),(.sc (.int .i64 0)),(.sc (.int .i64 0)),(.sl true () 1 0 []),(.sc (.int .i64 0)),(.sc (.int .i64 0)),(.sc (.int .i64 0)),(.sl true () 1 0 []),(.sc (.int .i64 0)),(.sc (.int .i64 0)),(.sc (.int .i64 0))],.asg 4 (.t 10),.st 14 (.t 5) (.t 12)]]) yrv)) yrw)
def yry:Cd:=(.seq (.cond (.t 9) .skip (.exit 0)) yrx)
def yrz:Cd:=(.seq (.reg [] [.o [.bin 9 .lss (.t 8) (.t 7)]]) yry)
def ys0:Cd:=(.block 0 (.loop yrz))
def ys1:Cd:=(.seq (.reg [3,24] [.o [.mov 24 (.t 3),.asg 2 (.t 24)]]) .ret)
def ys2:Cd:=(.seq (.reg [1,6,7,8,9,21,22,23] [.o [.mov 21 (.t 3),.mkf 22 92 [(.t 1)]],.call none 23 91 [(.t 21),(.t 22)]]) ys1)
def yd4:Cd:=(.seq (.seq (.reg [] [.o [.ld 6 1 false (.t 1),.len 7 (.t 6),.mov 8 (cI 0)]]) ys0) ys2)
def yd5:Cd:=(.seq (.reg [] [.o [.asg 3 (.c (.sl true () 1 0 []))]]) yd4)
def ywq:FI:=⟨25,1,[.t 2],(.seq (.reg [0,2] [.o [.box 1 (.t 0),.asg 2 (.c (.sl true () 1 0 []))]]) yd5)⟩
theorem yxy:z25 Try.prog 33 ywq:=⟨_,_,Try.func33,rfl,by kernel_rfl,by kernel_rfl,Try.call33⟩
def ys3:Cd:=(.cond (.t 10) .skip (.exit 0))
def ys4:Cd:=(.cond (.t 18) (.exit 1) .skip)
def ys5:Cd:=(.cond (.t 39) .skip (.exit 2))
def ys6:Cd:=(.block 3 (.reg [39,40,41] [.o [.mov 40 (.t 5),.bin 41 .sub (.t 40) (cI 1),.asg 5 (.t 41)]]))
def ys7:Cd:=(.seq (.seq (.draw [[],[0],[1],[2],[2],[2],[5,2],[4,6,2],[7,2],[3,8,2],[9,2],[10,2],[2],[2],[12,13,2],[14,2],[15,2],[11,16,2],[2,17]] [21,22,23,24,25,26,27,28,29,30,31,32,33,34,35,36,37,38] [.o [.mov 21 (.t 5),.bin 22 .gtr (.t 21) (cI 0),.mov 23 (.t 22)],.g 23 true [.mov 24 (.t 0),.mov 25 (.t 3),.mov 26 (.t 5),.bin 27 .sub (.t 26) (cI 1),.iaddr 28 1 (.t 25) (.t 27),.ld 29 1 false (.t 28),.iaddr 30 14 (.t 24) (.t 29),.faddr 31 12 (.t 30),.ld 32 1 false (.t 31),.mov 33 (.t 0),.mov 34 (.t 4),.iaddr 35 14 (.t 33) (.t 34),.faddr 36 12 (.t 35),.ld 37 1 false (.t 36),.bin 38 .gtr (.t 32) (.t 37)],.o [.pick 39 (.t 23) (.t 38) (cB false)]]) ys5) ys6)
def ys8:Cd:=(.draw [[],[],[1],[0,2],[],[],[4,5],[3,6,3],[7,7,0,1,2,3,4,5,6,7]] [5,6,47,48,49,50,51,52,53,54] [.o [.mov 47 (.t 6),.mov 48 (.t 4),.bs1 49 1 (.t 48),.app 50 1 8 (.t 47) (.t 49),.mov 51 (.t 3),.mov 52 (.t 5),.slice 53 1 (.t 51) (some (.t 52)) none,.app 54 1 8 (.t 50) (.t 53),.asg 3 (.t 54)]])
def yd6:Cd:=(.seq (.reg [42,43,44,45,46] [.o [.bs0 42 1,.mov 43 (.t 3),.mov 44 (.t 5),.slice 45 1 (.t 43) none (some (.t 44)),.app 46 1 8 (.t 42) (.t 45),.asg 6 (.t 46)]]) ys8)
def ys9:Cd:=(.seq (.block 2 (.loop ys7)) yd6)
def yd7:Cd:=(.seq (.reg [18,19,20] [.o [.mov 19 (.t 3),.len 20 (.t 19),.asg 5 (.t 20)]]) ys9)
def ysa:Cd:=(.reg [11,12] [.o [.mov 11 (.t 4),.bin 12 .add (.t 11) (cI 1),.asg 4 (.t 12)]])
def yd8:Cd:=(.seq (.block 1 (.seq (.seq (.reg [10,13,14,15,16,17] [.o [.mov 13 (.t 0),.mov 14 (.t 4),.iaddr 15 14 (.t 13) (.t 14),.faddr 16 12 (.t 15),.ld 17 1 false (.t 16),.bin 18 .leq (.t 17) (cI 0)]]) ys4) yd7)) ysa)
def yd9:Cd:=(.seq (.seq (.reg [7,8,9] [.o [.mov 7 (.t 4),.mov 8 (.t 0),.len 9 (.t 8),.bin 10 .lss (.t 7) (.t 9)]]) ys3) yd8)
def yda:Cd:=(.block 0 (.loop yd9))
def ydb:Cd:=(.seq (.reg [0,3,4,7,8,9,10,55] [.o [.mov 55 (.t 3),.asg 2 (.t 55)]]) .ret)
def ydc:Cd:=(.seq (.seq (.reg [] [.o [.asg 4 (cI 0)]]) yda) ydb)
def ydd:Cd:=(.seq (.reg [] [.o [.asg 3 (.c (.sl true () 1 0 []))]]) ydc)
def yms:FI:=⟨56,1,[.t 2],(.seq (.reg [2] [.o [.asg 2 (.c (.sl true () 1 0 []))]]) ydd)⟩
theorem yxz:z25 Try.prog 34 yms:=⟨_,_,Try.func34,rfl,by kernel_rfl,by kernel_rfl,Try.call34⟩
def ysb:Cd:=(.seq (.reg [2,5,6,8,9,10,11,12,13,14,15] [.o [.faddr 8 0 (.t 2),.ld 9 1 false (.t 8),.bin 10 .eql (.t 9) (cI 1),.mov 11 (.t 10)],.g 11 false [.faddr 12 0 (.t 2),.ld 13 1 false (.t 12),.bin 14 .eql (.t 13) (cI 2)],.o [.pick 15 (.t 11) (cB true) (.t 14),.asg 4 (.t 15)]]) .ret)
def ysc:Cd:=(.seq (.reg [2,5,16,18,19,20,21,22,23,24,25,26,27,28,29,30,31,32,33,34,35] [.o [.faddr 18 0 (.t 2),.ld 19 1 false (.t 18),.bin 20 .eql (.t 19) (cI 1),.mov 21 (.t 20)],.g 21 false [.faddr 22 0 (.t 2),.ld 23 1 false (.t 22),.bin 24 .eql (.t 23) (cI 2)],.o [.pick 25 (.t 21) (cB true) (.t 24),.mov 26 (.t 25)],.g 26 false [.faddr 27 0 (.t 2),.ld 28 1 false (.t 27),.bin 29 .eql (.t 28) (cI 6)],.o [.pick 30 (.t 26) (cB true) (.t 29),.mov 31 (.t 30)],.g 31 false [.faddr 32 0 (.t 2),.ld 33 1 false (.t 32),.bin 34 .eql (.t 33) (cI 7)],.o [.pick 35 (.t 31) (cB true) (.t 34),.asg 4 (.t 35)]]) .ret)
def ysd:Cd:=(.seq (.reg [2,36,38,39,40] [.o [.faddr 38 0 (.t 2),.ld 39 1 false (.t 38),.bin 40 .eql (.t 39) (cI 2),.asg 4 (.t 40)]]) .ret)
def yse:Cd:=(.cond (.t 36) ysd .skip)
def ysf:Cd:=(.seq (.reg [5,16,37] [.o [.bin 37 .eql (.t 5) (cI 10),.asg 36 (.t 37)]]) yse)
def ysg:Cd:=(.cond (.t 16) ysc ysf)
def ysh:Cd:=(.seq (.reg [6,17] [.o [.bin 17 .eql (.t 5) (cI 9),.asg 16 (.t 17)]]) ysg)
def ysi:Cd:=(.cond (.t 6) ysb ysh)
def ysj:Cd:=(.block 0 (.seq (.reg [7] [.o [.bin 7 .eql (.t 5) (cI 8),.asg 6 (.t 7)]]) ysi))
def ysk:Cd:=(.seq (.reg [2,36] [.o [.asg 4 (cB false)]]) .ret)
def yde:Cd:=(.seq (.seq (.reg [1] [.o [.mov 5 (.t 1)]]) ysj) ysk)
def zsp:FI:=⟨41,2,[.t 4],(.seq (.reg [0,4] [.o [.box 2 (.t 0),.asg 4 (cB false)]]) yde)⟩
theorem yy0:z25 Try.prog 37 zsp:=⟨_,_,Try.func37,rfl,by kernel_rfl,by kernel_rfl,Try.call37⟩
def ysl:Cd:=(.cond (.t 18) .skip (.exit 0))
def ysm:Cd:=(.reg [29,30,31,32,33] [.o [.mov 30 (.t 1),.mov 31 (.t 9),.iaddr 32 1 (.t 30) (.t 31),.ld 33 1 false (.t 32),.asg 11 (.t 33)]])
def ysn:Cd:=(.cond (.t 29) ysm .skip)
def yso:Cd:=(.reg [46,47,48,49] [.o [.mov 46 (.t 7),.faddr 47 0 (.t 10),.ld 48 1 false (.t 47),.iaddr 49 1 (.t 46) (.t 48),.st 1 (.t 49) (cI (-1))]])
def ysp:Cd:=(.seq (.reg [12,40,41,42,43,44,45] [.o [.ld 41 3 true (.t 5),.mov 42 (.t 6),.mov 43 (.t 12),.mov 44 (.t 8)],.call none 45 95 [(.t 41),(.t 42),(.t 43),(.t 44),(cB true)],.o [.asg 8 (.t 45)]]) yso)
def ysq:Cd:=(.cond (.t 40) ysp .skip)
def ysr:Cd:=(.seq (.reg [39] [.o [.mov 39 (.t 12),.bin 40 .geq (.t 39) (cI 0)]]) ysq)
def yss:Cd:=(.reg [10,83,84,85,86,87] [.o [.mov 84 (.t 7),.faddr 85 0 (.t 10),.ld 86 1 false (.t 85),.iaddr 87 1 (.t 84) (.t 86),.st 1 (.t 87) (cI (-1))]])
def yst:Cd:=(.cond (.t 83) yss .skip)
def ysu:Cd:=(.seq (.reg [11,81,82] [.o [.mov 81 (.t 11),.bin 82 .and (.t 81) (cI 2),.bin 83 .eql (.t 82) (cI 2)]]) yst)
def ydf:Cd:=(.seq (.reg [70,71,72,73,74,75,76,77,78,79,80] [.o [.ld 71 3 true (.t 5),.mov 72 (.t 6),.mov 73 (.t 6),.len 74 (.t 73),.bin 75 .sub (.t 74) (cI 1),.mov 76 (.t 8),.mov 77 (.t 11),.bin 78 .and (.t 77) (cI 2),.bin 79 .eql (.t 78) (cI 2)],.call none 80 95 [(.t 71),(.t 72),(.t 75),(.t 76),(.t 79)],.o [.asg 8 (.t 80)]]) ysu)
def ydg:Cd:=(.cond (.t 70) ydf .skip)
def zp1:Cd:=(.seq (.reg [68,69] [.o [.mov 68 (.t 11),.bin 69 .and (.t 68) (cI 1),.bin 70 .eql (.t 69) (cI 1)]]) ydg)
def ydh:Cd:=(.seq (.reg [61,62,63,64,65,66,67] [.o [.mov 61 (.t 7),.faddr 62 0 (.t 10),.ld 63 1 false (.t 62),.mov 64 (.t 6),.len 65 (.t 64),.bin 66 .sub (.t 65) (cI 1),.iaddr 67 1 (.t 61) (.t 63),.st 1 (.t 67) (.t 66)]]) zp1)
def ydi:Cd:=(.seq (.reg [52,53,54,55,56,57,58,59,60] [.o [.mov 52 (.t 6),.faddr 53 0 (.t 10),.ld 54 1 false (.t 53),.faddr 55 1 (.t 10),.ld 56 6 true (.t 55),.mov 57 (.t 8),.build 58 [(.sc (.int .i64 0)),(.sc (.int .i64 0)),(.sc (.int .i64 0)),(.sc (.int .i64 0)),(.sc (.int .i64 0)),(.sc (.int .i64 0)),(.sc (.slice none 0 0)),(.sc (.int .i64 0)),(.sc (.int .i64 0)),(.sc (.int .i64 0)),(.sc (.slice none 0 0)),(.sc (.int .i64 0)),(.sc (.int .i64 0)),(.sc (.int .i64 0))] [(0,1,(.t 54)),(1,6,(.t 56)),(11,1,(.t 57))],.bs1 59 14 (.t 58),.app 60 14 144 (.t 52) (.t 59),.asg 6 (.t 60)]]) ydh)
def zp2:Cd:=(.seq (.reg [12,40,50,51] [.o [.mov 50 (.t 8),.bin 51 .add (.t 50) (cI 1),.asg 8 (.t 51)]]) ydi)
def zp3:Cd:=(.seq (.seq (.reg [29,34,35,36,37,38] [.o [.mov 34 (.t 7),.faddr 35 0 (.t 10),.ld 36 1 false (.t 35),.iaddr 37 1 (.t 34) (.t 36),.ld 38 1 false (.t 37),.asg 12 (.t 38)]]) ysr) zp2)
def ydj:Cd:=(.seq (.seq (.reg [26,27,28] [.o [.mov 26 (.t 9),.mov 27 (.t 1),.len 28 (.t 27),.bin 29 .lss (.t 26) (.t 28)]]) ysn) zp3)
def ydk:Cd:=(.seq (.reg [] [.o [.asg 11 (cI 0)]]) ydj)
def zuh:Cd:=(.reg [10,83,11,70,19,20] [.o [.mov 19 (.t 9),.bin 20 .add (.t 19) (cI 1),.asg 9 (.t 20)]])
def ydl:Cd:=(.seq (.block 1 (.seq (.reg [18,21,22,23,24,25] [.o [.mov 21 (.t 0),.mov 22 (.t 9),.iaddr 23 7 (.t 21) (.t 22),.ld 24 7 true (.t 23)],.call none 25 43 [(.t 24),(cI 5),(cI 3)],.o [.alloc 10 [(.sc (.int .i64 0)),(.sc (.int .i64 0)),(.sc (.int .i64 0)),(.sc (.int .i64 0)),(.sc (.int .i64 0)),(.sc (.int .i64 0)),(.sl true () 1 0 [])],.st 7 (.t 10) (.t 25)]]) ydk)) zuh)
def ydm:Cd:=(.seq (.seq (.reg [15,16,17] [.o [.mov 15 (.t 9),.mov 16 (.t 0),.len 17 (.t 16),.bin 18 .lss (.t 15) (.t 17)]]) ysl) ydl)
def ydn:Cd:=(.block 0 (.loop ydm))
def ydo:Cd:=(.seq (.reg [0,1,5,6,7,8,9,15,16,17,18,88] [.o [.mov 88 (.t 6),.asg 4 (.t 88)]]) .ret)
def ydp:Cd:=(.seq (.seq (.reg [] [.o [.asg 9 (cI 0)]]) ydn) ydo)
def ydq:Cd:=(.seq (.reg [] [.o [.asg 8 (cI 0)]]) ydp)
def ydr:Cd:=(.seq (.reg [14] [.o [.bsn 14 [(cI (-1)),(cI (-1)),(cI (-1))],.asg 7 (.t 14)]]) ydq)
def yds:Cd:=(.seq (.reg [] [.o [.asg 6 (.c (.sl true () 14 0 []))]]) ydr)
def ydt:Cd:=(.seq (.reg [13] [.call none 13 76 [(cI 5),(cI 3)],.o [.alloc 5 [(.sl true () 1 0 []),(.sl true () 1 0 []),(.sl true () 1 0 [])],.st 3 (.t 5) (.t 13)]]) yds)
def zsq:FI:=⟨89,2,[.t 4],(.seq (.reg [4] [.o [.asg 4 (.c (.sl true () 14 0 []))]]) ydt)⟩
theorem yy1:z25 Try.prog 39 zsq:=⟨_,_,Try.func39,rfl,by kernel_rfl,by kernel_rfl,Try.call39⟩
def ysv:Cd:=(.cond (.t 17) .skip (.exit 0))
def ysw:Cd:=(.draw [[],[],[],[1,2],[3],[],[0,4,0,1,2,3,4,5],[6,0,1,2,3,4,5],[7,5,0,1,2,3,4,5]] [7,46,47,48,49,50,51,52,53,54] [.o [.mov 47 (.t 3),.mov 48 (.t 5),.mov 49 (.t 6),.iaddr 50 1 (.t 48) (.t 49),.ld 51 1 false (.t 50),.ld 52 4 true (.t 7),.iaddr 53 14 (.t 47) (.t 51),.faddr 54 7 (.t 53),.st 4 (.t 54) (.t 52)]])
def ysx:Cd:=(.cond (.t 46) ysw .skip)
def ysy:Cd:=(.seq (.reg [38,39,40,41,42,43,44,45] [.o [.mov 38 (.t 3),.mov 39 (.t 5),.mov 40 (.t 6),.iaddr 41 1 (.t 39) (.t 40),.ld 42 1 false (.t 41),.iaddr 43 14 (.t 38) (.t 42),.faddr 44 13 (.t 43),.ld 45 1 false (.t 44),.bin 46 .gtr (.t 45) (cI 0)]]) ysx)
def ysz:Cd:=(.reg [7,46,18,19] [.o [.mov 18 (.t 6),.bin 19 .add (.t 18) (cI 1),.asg 6 (.t 19)]])
def yt0:Cd:=(.seq (.block 1 (.seq (.draw [[],[],[],[],[2,3],[4],[1,5],[6],[7],[],[],[],[10,11],[12],[9,13],[14],[15],[0,8,16],[],[18,17,17,0,1,2,3,4,5,6,7,8,9,10,11,12,13,14,15,16,17,18]] [17,20,21,22,23,24,25,26,27,28,29,30,31,32,33,34,35,36,37] [.o [.ld 20 3 true (.t 4),.mov 21 (.t 3),.mov 22 (.t 5),.mov 23 (.t 6),.iaddr 24 1 (.t 22) (.t 23),.ld 25 1 false (.t 24),.iaddr 26 14 (.t 21) (.t 25),.faddr 27 0 (.t 26),.ld 28 1 false (.t 27),.mov 29 (.t 3),.mov 30 (.t 5),.mov 31 (.t 6),.iaddr 32 1 (.t 30) (.t 31),.ld 33 1 false (.t 32),.iaddr 34 14 (.t 29) (.t 33),.faddr 35 1 (.t 34),.ld 36 6 true (.t 35)],.call none 37 77 [(.t 20),(.t 28),(.t 36)],.o [.alloc 7 [(.sc (.int .i64 0)),(.sc (.int .i64 0)),(.sc (.int .i64 0)),(.sl true () 1 0 [])],.st 4 (.t 7) (.t 37)]]) ysy)) ysz)
def yt1:Cd:=(.seq (.seq (.reg [14,15,16] [.o [.mov 14 (.t 6),.mov 15 (.t 5),.len 16 (.t 15),.bin 17 .lss (.t 14) (.t 16)]]) ysv) yt0)
def yt2:Cd:=(.block 0 (.loop yt1))
def yt3:Cd:=(.seq (.reg [3,4,5,6,14,15,16,17,55] [.o [.mov 55 (.t 3),.asg 2 (.t 55)]]) .ret)
def yt4:Cd:=(.seq (.seq (.reg [] [.o [.asg 6 (cI 0)]]) yt2) yt3)
def ydu:Cd:=(.seq (.reg [12,13] [.o [.mov 12 (.t 3)],.call none 13 34 [(.t 12)],.o [.asg 5 (.t 13)]]) yt4)
def ydv:Cd:=(.seq (.reg [11] [.call none 11 76 [(cI 5),(cI 3)],.o [.alloc 4 [(.sl true () 1 0 []),(.sl true () 1 0 []),(.sl true () 1 0 [])],.st 3 (.t 4) (.t 11)]]) ydu)
def ydw:Cd:=(.seq (.reg [0,8,9,10] [.o [.bs0 8 14,.mov 9 (.t 0),.app 10 14 144 (.t 8) (.t 9),.asg 3 (.t 10)]]) ydv)
def ywr:FI:=⟨56,1,[.t 2],(.seq (.reg [2] [.o [.asg 2 (.c (.sl true () 14 0 []))]]) ydw)⟩
theorem yy2:z25 Try.prog 40 ywr:=⟨_,_,Try.func40,rfl,by kernel_rfl,by kernel_rfl,Try.call40⟩
def yt5:Cd:=(.seq (.reg [0,1,5,6,7,8] [.o [.mov 5 (.t 0),.mov 6 (.t 1)],.call none 7 39 [(.t 5),(.t 6)],.call none 8 40 [(.t 7)],.o [.asg 4 (.t 8)]]) .ret)
def yws:FI:=⟨9,2,[.t 4],(.seq (.reg [4] [.o [.asg 4 (.c (.sl true () 14 0 []))]]) yt5)⟩
theorem yy3:z25 Try.prog 41 yws:=⟨_,_,Try.func41,rfl,by kernel_rfl,by kernel_rfl,Try.call41⟩
def yt6:Cd:=(.seq (.reg [0,2,3,9,21] [.o [.asg 8 (cI (-1))]]) .ret)
def yt7:Cd:=(.cond (.t 21) yt6 .skip)
def yt8:Cd:=(.seq (.reg [0,2,3,9,23,24,10,31,32,33] [.o [.mov 32 (.t 10),.bin 33 .add (.t 32) (cI 1),.asg 8 (.t 33)]]) .ret)
def yt9:Cd:=(.cond (.t 31) yt8 .skip)
def yta:Cd:=(.seq (.reg [27,28,29,30] [.o [.mov 27 (.t 0),.mov 28 (.t 10),.mov 29 (.t 2)],.call none 30 135 [(.t 27),(.t 28),(.t 29)],.o [.un 31 .not (.t 30)]]) yt9)
def ytb:Cd:=(.reg [10,31,34] [.o [.bin 34 .add (.t 24) (cI 1),.mov 24 (.t 34)]])
def ytc:Cd:=(.seq (.block 1 (.seq (.reg [25,26] [.o [.mov 26 (.t 24),.asg 10 (.t 26)]]) yta)) ytb)
def ytd:Cd:=(.seq (.cond (.t 25) .skip (.exit 0)) ytc)
def yte:Cd:=(.seq (.reg [] [.o [.bin 25 .lss (.t 24) (.t 23)]]) ytd)
def ytf:Cd:=(.block 0 (.loop yte))
def ydx:Cd:=(.reg [13,14,55,65] [.o [.ld 65 3 true (.t 14),.st 3 (.t 9) (.t 65)]])
def ydy:Cd:=(.seq (.reg [0,3,9,36,37,38,12,66,84,85] [.o [.mov 84 (.t 12),.bin 85 .add (.t 84) (cI 1),.asg 8 (.t 85)]]) .ret)
def ydz:Cd:=(.cond (.t 66) ydy .skip)
def ye0:Cd:=(.seq (.reg [13,14,55,67,68,69,70,71,72,73,74,75,76,77,78,79,80,81,82,83] [.o [.faddr 67 1 (.t 13),.ld 68 6 true (.t 67),.faddr 69 7 (.t 13),.faddr 70 0 (.t 69),.ld 71 1 false (.t 70)],.call none 72 37 [(.t 68),(.t 71)],.o [.un 73 .not (.t 72),.mov 74 (.t 73)],.g 74 false [.faddr 75 7 (.t 13),.ld 76 4 true (.t 75),.faddr 77 7 (.t 13),.faddr 78 0 (.t 77),.ld 79 1 false (.t 78),.build 80 [(.sc (.int .i64 0)),(.sc (.int .i64 0)),(.sc (.int .i64 0)),(.sc (.slice none 0 0))] [(0,1,(.t 79))]],.call (some (74,false)) 81 136 [(.t 76),(.t 80)],.g 74 false [.un 82 .not (.t 81)],.o [.pick 83 (.t 74) (cB true) (.t 82),.asg 66 (.t 83)]]) ydz)
def ye1:Cd:=(.cond (.t 55) ydx ye0)
def ye2:Cd:=(.cond (.t 87) (.exit 3) .skip)
def ye3:Cd:=(.reg [12,87,88,89,90,91] [.o [.mov 88 (.t 3),.mov 89 (.t 12),.ld 90 3 true (.t 9)],.clo none 91 88 [(.t 89),(.t 90)]])
def zd3:Cd:=(.seq (.seq (.reg [66,86] [.o [.mov 86 (.t 3),.funq 87 true (.t 86)]]) ye2) ye3)
def ye4:Cd:=(.seq (.block 4 (.seq (.reg [15,56,57,58,59,60,61,62,63,64] [.o [.faddr 56 13 (.t 13),.ld 57 1 false (.t 56),.bin 58 .eql (.t 57) (cI 0),.mov 59 (.t 58)],.g 59 false [.ld 60 4 true (.t 15),.faddr 61 7 (.t 13),.ld 62 4 true (.t 61)],.call (some (59,false)) 63 136 [(.t 60),(.t 62)],.o [.pick 64 (.t 59) (cB true) (.t 63),.asg 55 (.t 64)]]) ye1)) zd3)
def ye5:Cd:=(.seq (.reg [47,48,49,50,51,52,46,53,54] [.o [.ld 47 3 true (.t 9),.faddr 48 0 (.t 13),.ld 49 1 false (.t 48),.faddr 50 1 (.t 13),.ld 51 6 true (.t 50)],.call none 52 44 [(.t 47),(.t 49),(.t 51)],.o [.mov 46 (.t 52),.ext 53 46 0,.ext 54 46 1,.alloc 14 [(.sl true () 1 0 []),(.sl true () 1 0 []),(.sl true () 1 0 [])],.alloc 15 [(.sc (.int .i64 0)),(.sc (.int .i64 0)),(.sc (.int .i64 0)),(.sl true () 1 0 [])],.st 3 (.t 14) (.t 53),.st 4 (.t 15) (.t 54)]]) ye4)
def ye6:Cd:=(.seq (.reg [42,43,44,45] [.o [.mov 42 (.t 0),.mov 43 (.t 12),.iaddr 44 14 (.t 42) (.t 43),.ld 45 14 true (.t 44),.alloc 13 [(.sc (.int .i64 0)),(.sc (.int .i64 0)),(.sc (.int .i64 0)),(.sc (.int .i64 0)),(.sc (.int .i64 0)),(.sc (.int .i64 0)),(.sl true () 1 0 []),(.sc (.int .i64 0)),(.sc (.int .i64 0)),(.sc (.int .i64 0)),(.sl true () 1 0 []),(.sc (.int .i64 0)),(.sc (.int .i64 0)),(.sc (.int .i64 0))],.st 14 (.t 13) (.t 45)]]) ye5)
def zjz:Cd:=(.reg [92] [.o [.bin 92 .add (.t 38) (cI 1),.mov 38 (.t 92)]])
def ye7:Cd:=(.seq (.block 3 (.seq (.reg [39,40,41] [.o [.iaddr 40 1 (.t 36) (.t 38),.ld 41 1 false (.t 40),.asg 12 (.t 41)]]) ye6)) zjz)
def ye8:Cd:=(.seq (.cond (.t 39) .skip (.exit 2)) ye7)
def ye9:Cd:=(.seq (.reg [] [.o [.bin 39 .lss (.t 38) (.t 37)]]) ye8)
def yea:Cd:=(.block 2 (.loop ye9))
def yeb:Cd:=(.seq (.reg [0,3,9,36,37,38,39] [.o [.asg 8 (cI 0)]]) .ret)
def zk0:Cd:=(.seq (.seq (.reg [2,23,24,25,35] [.o [.mov 35 (.t 0)],.call none 36 33 [(.t 35)],.o [.len 37 (.t 36),.mov 38 (cI 0)]]) yea) yeb)
def yec:Cd:=(.seq (.label 0) zk0)
def yed:Cd:=(.seq (.seq (.reg [21,22] [.o [.mov 22 (.t 0),.len 23 (.t 22),.mov 24 (cI 0)]]) ytf) yec)
def yee:Cd:=(.seq (.seq (.reg [19,20] [.o [.ld 19 3 true (.t 9)],.call none 20 97 [(.t 19)],.o [.un 21 .not (.t 20)]]) yt7) yed)
def yef:Cd:=(.scope (.seq (.reg [1,16,17,18] [.o [.mov 16 (.t 1),.mov 17 (.t 2)],.call none 18 42 [(.t 16),(.t 17)],.o [.alloc 9 [(.sl true () 1 0 []),(.sl true () 1 0 []),(.sl true () 1 0 [])],.st 3 (.t 9) (.t 18)]]) yee))
def z8e:FI:=⟨93,4,[.t 8],(.seq (.reg [8] [.o [.asg 8 (cI 0)]]) yef)⟩
theorem ytg:z25 Try.prog 88 z8e:=⟨_,_,Try.func88,rfl,by kernel_rfl,by kernel_rfl,Try.call88⟩
def yth:Cd:=(.reg [2,4,5] [.o [.ld 5 3 true (.t 4),.st 3 (.t 2) (.t 5)]])
def ywt:FI:=⟨6,3,[],(.seq (.reg [0,1] [.o [.box 4 (.t 1)]]) yth)⟩
theorem yy4:z25 Try.prog 89 ywt:=⟨_,_,Try.func89,rfl,by kernel_rfl,by kernel_rfl,Try.call89⟩
def ywu:FI:=⟨9,2,[],(.reg [0,1,4,5,6,7,8] [.o [.mov 4 (.t 0),.mov 5 (.t 0),.len 6 (.t 5),.mov 7 (.t 1)],.call none 8 138 [(.t 4),(.t 6),(.t 7)]])⟩
theorem yy5:z25 Try.prog 91 ywu:=⟨_,_,Try.func91,rfl,by kernel_rfl,by kernel_rfl,Try.call91⟩
def yti:Cd:=(.seq (.draw [[],[],[0,1],[2],[3],[],[],[5,6],[7],[8],[4,9],[10,10,0,1,2,3,4,5,6,7,8,9,10]] [0,1,2,6,7,8,9,10,11,12,13,14,15,16] [.o [.ld 6 1 false (.t 2),.mov 7 (.t 0),.iaddr 8 14 (.t 6) (.t 7),.faddr 9 12 (.t 8),.ld 10 1 false (.t 9),.ld 11 1 false (.t 2),.mov 12 (.t 1),.iaddr 13 14 (.t 11) (.t 12),.faddr 14 12 (.t 13),.ld 15 1 false (.t 14)],.call none 16 93 [(.t 10),(.t 15)],.o [.asg 5 (.t 16)]]) .ret)
def ywv:FI:=⟨17,3,[.t 5],(.seq (.reg [5] [.o [.asg 5 (cI 0)]]) yti)⟩
theorem yy6:z25 Try.prog 92 ywv:=⟨_,_,Try.func92,rfl,by kernel_rfl,by kernel_rfl,Try.call92⟩
def ytj:Cd:=(.seq (.reg [12] [.o [.asg 4 (cI 0)]]) .ret)
def ytk:Cd:=(.cond (.t 12) ytj .skip)
def ytl:Cd:=(.seq (.reg [12] [.o [.asg 4 (cI (-1))]]) .ret)
def ytm:Cd:=(.seq (.seq (.reg [0,1,6,11] [.o [.mov 12 (.t 6)]]) ytk) ytl)
def ytn:Cd:=(.cond (.t 11) ytm .skip)
def yto:Cd:=(.seq (.reg [0,1,13] [.o [.asg 4 (cI 1)]]) .ret)
def ytp:Cd:=(.cond (.t 13) yto .skip)
def ytq:Cd:=(.seq (.reg [0,1,16] [.o [.asg 4 (cI (-1))]]) .ret)
def ytr:Cd:=(.cond (.t 16) ytq .skip)
def yts:Cd:=(.seq (.reg [19] [.o [.asg 4 (cI 1)]]) .ret)
def yeg:Cd:=(.cond (.t 19) yts .skip)
def yeh:Cd:=(.seq (.reg [19] [.o [.asg 4 (cI 0)]]) .ret)
def yei:Cd:=(.seq (.seq (.reg [0,1,16,17,18] [.o [.mov 17 (.t 0),.mov 18 (.t 1),.bin 19 .gtr (.t 17) (.t 18)]]) yeg) yeh)
def yej:Cd:=(.seq (.seq (.reg [13,14,15] [.o [.mov 14 (.t 0),.mov 15 (.t 1),.bin 16 .lss (.t 14) (.t 15)]]) ytr) yei)
def yek:Cd:=(.seq (.seq (.reg [6,11] [.o [.mov 13 (.t 6)]]) ytp) yej)
def yel:Cd:=(.seq (.seq (.reg [5] [.o [.mov 11 (.t 5)]]) ytn) yek)
def yem:Cd:=(.seq (.reg [9,10] [.o [.mov 9 (.t 1)],.call none 10 139 [(.t 9)],.o [.asg 6 (.t 10)]]) yel)
def yen:Cd:=(.seq (.reg [7,8] [.o [.mov 7 (.t 0)],.call none 8 139 [(.t 7)],.o [.asg 5 (.t 8)]]) yem)
def ymt:FI:=⟨20,2,[.t 4],(.seq (.reg [4] [.o [.asg 4 (cI 0)]]) yen)⟩
theorem yy7:z25 Try.prog 93 ymt:=⟨_,_,Try.func93,rfl,by kernel_rfl,by kernel_rfl,Try.call93⟩
def ytt:Cd:=(.seq (.reg [1,2,3,4,5,18,19] [.o [.mov 19 (.t 3),.asg 10 (.t 19)]]) .ret)
def ytu:Cd:=(.cond (.t 18) ytt .skip)
def ytv:Cd:=(.draw [[],[],[],[],[],[3,4],[5],[6],[],[],[8,9],[10],[11],[2,7,12],[0,1,0,1,2,3,4,5,6,7,8,9,10,11,12,13],[14,0,1,2,3,4,5,6,7,8,9,10,11,12,13],[15,13,13,0,1,2,3,4,5,6,7,8,9,10,11,12,13]] [5,33,34,35,36,37,38,39,40,41,42,43,44,45,46,47,48] [.o [.mov 33 (.t 1),.mov 34 (.t 2),.ld 35 3 true (.t 5),.mov 36 (.t 1),.mov 37 (.t 2),.iaddr 38 14 (.t 36) (.t 37),.faddr 39 0 (.t 38),.ld 40 1 false (.t 39),.mov 41 (.t 1),.mov 42 (.t 2),.iaddr 43 14 (.t 41) (.t 42),.faddr 44 1 (.t 43),.ld 45 6 true (.t 44)],.call none 46 77 [(.t 35),(.t 40),(.t 45)],.o [.iaddr 47 14 (.t 33) (.t 34),.faddr 48 7 (.t 47),.st 4 (.t 48) (.t 46)]])
def ytw:Cd:=(.seq (.reg [28,29,30,31,32] [.o [.mov 28 (.t 1),.mov 29 (.t 2),.mov 30 (.t 3),.iaddr 31 14 (.t 28) (.t 29),.faddr 32 12 (.t 31),.st 1 (.t 32) (.t 30)]]) ytv)
def yeo:Cd:=(.seq (.reg [25,26,27] [.o [.mov 26 (.t 3),.bin 27 .add (.t 26) (cI 1),.asg 3 (.t 27)]]) ytw)
def ytx:Cd:=(.cond (.t 25) yeo .skip)
def yty:Cd:=(.reg [1,2,52,53,54,55,56] [.o [.mov 52 (.t 1),.mov 53 (.t 2),.mov 54 (.t 3),.iaddr 55 14 (.t 52) (.t 53),.faddr 56 13 (.t 55),.st 1 (.t 56) (.t 54)]])
def ytz:Cd:=(.seq (.reg [49,50,51] [.o [.mov 50 (.t 3),.bin 51 .add (.t 50) (cI 1),.asg 3 (.t 51)]]) yty)
def yu0:Cd:=(.reg [1,2,49,57,58,59,60,61] [.o [.mov 57 (.t 1),.mov 58 (.t 2),.build 59 [(.sc (.int .i64 0)),(.sc (.int .i64 0)),(.sc (.int .i64 0)),(.sc (.slice none 0 0))] [],.iaddr 60 14 (.t 57) (.t 58),.faddr 61 7 (.t 60),.st 4 (.t 61) (.t 59)]])
def yep:Cd:=(.cond (.t 49) ytz yu0)
def zui:Cd:=(.seq (.reg [3,62] [.o [.mov 62 (.t 3),.asg 10 (.t 62)]]) .ret)
def zuj:Cd:=(.seq (.seq (.reg [4,5,25] [.o [.mov 49 (.t 4)]]) yep) zui)
def yeq:Cd:=(.seq (.seq (.reg [18,20,21,22,23,24] [.o [.mov 20 (.t 1),.mov 21 (.t 2),.iaddr 22 14 (.t 20) (.t 21),.faddr 23 12 (.t 22),.ld 24 1 false (.t 23),.bin 25 .eql (.t 24) (cI 0)]]) ytx) zuj)
def yer:Cd:=(.seq (.seq (.reg [11,12,13,14,15,16,17] [.o [.mov 11 (.t 2),.bin 12 .lss (.t 11) (cI 0),.mov 13 (.t 12)],.g 13 false [.mov 14 (.t 2),.mov 15 (.t 1),.len 16 (.t 15),.bin 17 .geq (.t 14) (.t 16)],.o [.pick 18 (.t 13) (cB true) (.t 17)]]) ytu) yeq)
def zuk:FI:=⟨63,5,[.t 10],(.seq (.reg [0,10] [.o [.box 5 (.t 0),.asg 10 (cI 0)]]) yer)⟩
theorem yy8:z25 Try.prog 95 zuk:=⟨_,_,Try.func95,rfl,by kernel_rfl,by kernel_rfl,Try.call95⟩
def yet:Cd:=(.seq (.reg [0,1,7,14] [.o [.asg 6 (cB false)]]) .ret)
def yeu:Cd:=(.seq (.reg [0,1,7,49] [.o [.asg 6 (cB false)]]) .ret)
def yev:Cd:=(.seq (.reg [0,1,7,67] [.o [.asg 6 (cB false)]]) .ret)
def yew:Cd:=(.cond (.t 67) yev .skip)
def yex:Cd:=(.seq (.reg [49,68,69,70,71,72,73,74,75,76,77,78,79,80,81,82] [.o [.faddr 68 13 (.t 7),.ld 69 1 false (.t 68),.bin 70 .eql (.t 69) (cI 0),.mov 71 (.t 70)],.g 71 true [.faddr 72 12 (.t 7),.ld 73 1 false (.t 72),.bin 74 .neq (.t 73) (cI 0)],.o [.pick 75 (.t 71) (.t 74) (cB false),.mov 76 (.t 75)],.g 76 true [.faddr 77 12 (.t 7),.ld 78 1 false (.t 77),.faddr 79 11 (.t 7),.ld 80 1 false (.t 79),.bin 81 .lss (.t 78) (.t 80)],.o [.pick 82 (.t 76) (.t 81) (cB false),.asg 67 (.t 82)]]) yew)
def yey:Cd:=(.cond (.t 49) yeu yex)
def zp4:Cd:=(.seq (.reg [14,50,51,52,53,54,55,56,57,58,59,60,61,62,63,64,65,66] [.o [.faddr 50 13 (.t 7),.ld 51 1 false (.t 50),.bin 52 .gtr (.t 51) (cI 0),.mov 53 (.t 52)],.g 53 true [.faddr 54 12 (.t 7),.ld 55 1 false (.t 54),.faddr 56 11 (.t 7),.ld 57 1 false (.t 56),.bin 58 .lss (.t 55) (.t 57),.mov 59 (.t 58)],.g 59 false [.faddr 60 12 (.t 7),.ld 61 1 false (.t 60),.faddr 62 13 (.t 7),.ld 63 1 false (.t 62),.bin 64 .gtr (.t 61) (.t 63)],.g 53 true [.pick 65 (.t 59) (cB true) (.t 64)],.o [.pick 66 (.t 53) (.t 65) (cB false),.asg 49 (.t 66)]]) yey)
def yez:Cd:=(.cond (.t 14) yet zp4)
def yf0:Cd:=(.cond (.t 95) (.exit 2) .skip)
def zul:Cd:=(.seq (.reg [7,85,86,87,105] [.o [.asg 6 (cB false)]]) .ret)
def zy1:Cd:=(.cond (.t 105) zul .skip)
def zy2:Cd:=(.seq (.reg [9,95,96,97,98,99,100,101,102,103,104] [.o [.faddr 96 13 (.t 9),.ld 97 1 false (.t 96),.bin 98 .lss (.t 97) (cI 1),.mov 99 (.t 98)],.g 99 false [.faddr 100 13 (.t 9),.ld 101 1 false (.t 100),.faddr 102 11 (.t 7),.ld 103 1 false (.t 102),.bin 104 .geq (.t 101) (.t 103)],.o [.pick 105 (.t 99) (cB true) (.t 104)]]) zy1)
def zy3:Cd:=(.seq (.seq (.reg [91,92,93,94] [.o [.faddr 91 0 (.t 9),.ld 92 1 false (.t 91),.faddr 93 0 (.t 7),.ld 94 1 false (.t 93),.bin 95 .neq (.t 92) (.t 94)]]) yf0) zy2)
def zp5:Cd:=(.reg [105,106] [.o [.bin 106 .add (.t 87) (cI 1),.mov 87 (.t 106)]])
def zy4:Cd:=(.seq (.block 2 (.seq (.reg [88,89,90] [.o [.iaddr 89 14 (.t 85) (.t 87),.ld 90 14 true (.t 89),.alloc 9 [(.sc (.int .i64 0)),(.sc (.int .i64 0)),(.sc (.int .i64 0)),(.sc (.int .i64 0)),(.sc (.int .i64 0)),(.sc (.int .i64 0)),(.sl true () 1 0 []),(.sc (.int .i64 0)),(.sc (.int .i64 0)),(.sc (.int .i64 0)),(.sl true () 1 0 []),(.sc (.int .i64 0)),(.sc (.int .i64 0)),(.sc (.int .i64 0))],.st 14 (.t 9) (.t 90)]]) zy3)) zp5)
def zy5:Cd:=(.seq (.cond (.t 88) .skip (.exit 1)) zy4)
def zy6:Cd:=(.seq (.reg [] [.o [.bin 88 .lss (.t 87) (.t 86)]]) zy5)
def zy7:Cd:=(.block 1 (.loop zy6))
def zp6:Cd:=(.seq (.reg [7,85,86,87,88] [.o [.asg 6 (cB true)]]) .ret)
def zy8:Cd:=(.seq (.seq (.reg [0,1,67,83,84] [.o [.mov 83 (.t 0),.mov 84 (.t 1),.slice 85 14 (.t 83) none (some (.t 84)),.len 86 (.t 85),.mov 87 (cI 0)]]) zy7) zp6)
def zbi:Cd:=(.seq (.label 0) zy8)
def zy9:Cd:=(.seq (.block 0 (.seq (.draw [[],[0],[1],[2],[3],[4,3],[3],[5,6,3],[3,7],[8,3],[9],[10,9],[11,9],[9,12],[13,9],[14],[15,14],[16,14,14],[17],[18,17],[17],[17],[21,17],[20,22,17],[23,17],[24,17],[19,25,17],[17,26,14],[14,27],[28,17],[29],[30,29],[31,29],[29,32],[33,29]] [2,15,16,17,18,19,20,21,22,23,24,25,26,27,28,29,30,31,32,33,34,35,36,37,38,39,40,41,42,43,44,45,46,47,48] [.o [.faddr 15 0 (.t 7),.ld 16 1 false (.t 15),.bin 17 .lss (.t 16) (cI 0),.mov 18 (.t 17)],.g 18 false [.faddr 19 0 (.t 7),.ld 20 1 false (.t 19),.mov 21 (.t 2),.bin 22 .geq (.t 20) (.t 21)],.o [.pick 23 (.t 18) (cB true) (.t 22),.mov 24 (.t 23)],.g 24 false [.faddr 25 11 (.t 7),.ld 26 1 false (.t 25),.bin 27 .lss (.t 26) (cI 1)],.o [.pick 28 (.t 24) (cB true) (.t 27),.mov 29 (.t 28)],.g 29 false [.mov 30 (.t 1),.bin 31 .gtr (.t 30) (cI 0),.mov 32 (.t 31)],.g 32 true [.faddr 33 11 (.t 7),.ld 34 1 false (.t 33),.mov 35 (.t 0),.mov 36 (.t 1),.bin 37 .sub (.t 36) (cI 1),.iaddr 38 14 (.t 35) (.t 37),.faddr 39 11 (.t 38),.ld 40 1 false (.t 39),.bin 41 .lss (.t 34) (.t 40)],.g 29 false [.pick 42 (.t 32) (.t 41) (cB false)],.o [.pick 43 (.t 29) (cB true) (.t 42),.mov 44 (.t 43)],.g 44 false [.faddr 45 13 (.t 7),.ld 46 1 false (.t 45),.bin 47 .lss (.t 46) (cI 0)],.o [.pick 48 (.t 44) (cB true) (.t 47),.asg 14 (.t 48)]]) yez)) zbi)
def zya:Cd:=(.scope (.seq (.reg [10,11,12,13] [.o [.mov 10 (.t 0),.mov 11 (.t 1),.iaddr 12 14 (.t 10) (.t 11),.ld 13 14 true (.t 12),.alloc 7 [(.sc (.int .i64 0)),(.sc (.int .i64 0)),(.sc (.int .i64 0)),(.sc (.int .i64 0)),(.sc (.int .i64 0)),(.sc (.int .i64 0)),(.sl true () 1 0 []),(.sc (.int .i64 0)),(.sc (.int .i64 0)),(.sc (.int .i64 0)),(.sl true () 1 0 []),(.sc (.int .i64 0)),(.sc (.int .i64 0)),(.sc (.int .i64 0))],.st 14 (.t 7) (.t 13)]]) zy9))
def z4o:FI:=⟨107,3,[.t 6],(.seq (.reg [6] [.o [.asg 6 (cB false)]]) zya)⟩
theorem yu1:z25 Try.prog 135 z4o:=⟨_,_,Try.func135,rfl,by kernel_rfl,by kernel_rfl,Try.call135⟩
def yf1:Cd:=(.cond (.t 13) .skip (.exit 0))
def yf2:Cd:=(.reg [20,21,22] [.o [.mov 20 (.t 8),.mov 21 (.t 6),.bin 22 .add (.t 20) (.t 21),.asg 8 (.t 22)]])
def yf3:Cd:=(.seq (.reg [19] [.o [.mov 19 (.t 8),.asg 7 (.t 19)]]) yf2)
def yf4:Cd:=(.block 1 (.seq (.reg [7,13,14,15,16,17,18] [.o [.mov 14 (.t 0),.mov 15 (.t 7),.mov 16 (.t 8),.mov 17 (.t 2)],.call none 18 163 [(.t 14),(.t 15),(.t 16),(.t 17)]]) yf3))
def yf5:Cd:=(.seq (.seq (.reg [11,12] [.o [.mov 11 (.t 8),.mov 12 (.t 1),.bin 13 .leq (.t 11) (.t 12)]]) yf1) yf4)
def yf6:Cd:=(.cond (.t 30) .skip (.exit 2))
def yf7:Cd:=(.cond (.t 35) .skip (.exit 4))
def yf8:Cd:=(.reg [45,46,47,48] [.o [.mov 45 (.t 8),.mov 46 (.t 6),.bin 47 .mul (cI 2) (.t 46),.bin 48 .add (.t 45) (.t 47),.asg 8 (.t 48)]])
def yf9:Cd:=(.seq (.reg [44] [.o [.mov 44 (.t 8),.asg 7 (.t 44)]]) yf8)
def yfa:Cd:=(.block 5 (.seq (.reg [7,35,36,37,38,39,40,41,42,43] [.o [.mov 36 (.t 0),.mov 37 (.t 7),.mov 38 (.t 7),.mov 39 (.t 6),.bin 40 .add (.t 38) (.t 39),.mov 41 (.t 8),.mov 42 (.t 2)],.call none 43 164 [(.t 36),(.t 37),(.t 40),(.t 41),(.t 42)]]) yf9))
def zyb:Cd:=(.seq (.seq (.reg [33,34] [.o [.mov 33 (.t 8),.mov 34 (.t 1),.bin 35 .leq (.t 33) (.t 34)]]) yf7) yfa)
def zyc:Cd:=(.reg [7,9,54,55,56,57,58,59,60] [.o [.mov 55 (.t 0),.mov 56 (.t 7),.mov 57 (.t 9),.mov 58 (.t 1),.mov 59 (.t 2)],.call none 60 164 [(.t 55),(.t 56),(.t 57),(.t 58),(.t 59)]])
def zyd:Cd:=(.cond (.t 54) zyc .skip)
def zye:Cd:=(.seq (.reg [52,53] [.o [.mov 52 (.t 9),.mov 53 (.t 1),.bin 54 .lss (.t 52) (.t 53)]]) zyd)
def zyf:Cd:=(.reg [7,9,54,61,62] [.o [.mov 61 (.t 6),.bin 62 .mul (.t 61) (cI 2),.asg 6 (.t 62)]])
def zyg:Cd:=(.seq (.seq (.reg [8,33,34,35,49,50,51] [.o [.mov 49 (.t 7),.mov 50 (.t 6),.bin 51 .add (.t 49) (.t 50),.asg 9 (.t 51)]]) zye) zyf)
def zyh:Cd:=(.seq (.block 4 (.loop zyb)) zyg)
def zyi:Cd:=(.block 3 (.seq (.reg [30,31,32] [.o [.mov 31 (.t 6),.bin 32 .mul (cI 2) (.t 31),.asg 7 (cI 0),.asg 8 (.t 32)]]) zyh))
def zyj:Cd:=(.seq (.seq (.reg [28,29] [.o [.mov 28 (.t 6),.mov 29 (.t 1),.bin 30 .lss (.t 28) (.t 29)]]) yf6) zyi)
def zp7:Cd:=(.block 2 (.loop zyj))
def zyk:Cd:=(.seq (.reg [8,7,11,12,13,23,24,25,26,27] [.o [.mov 23 (.t 0),.mov 24 (.t 7),.mov 25 (.t 1),.mov 26 (.t 2)],.call none 27 163 [(.t 23),(.t 24),(.t 25),(.t 26)]]) zp7)
def zyl:Cd:=(.seq (.block 0 (.loop yf5)) zyk)
def zym:Cd:=(.seq (.reg [10] [.o [.mov 10 (.t 6),.asg 7 (cI 0),.asg 8 (.t 10)]]) zyl)
def zsr:FI:=⟨63,3,[],(.seq (.reg [] [.o [.asg 6 (cI 20)]]) zym)⟩
theorem yu2:z25 Try.prog 138 zsr:=⟨_,_,Try.func138,rfl,by kernel_rfl,by kernel_rfl,Try.call138⟩
def yfb:Cd:=(.seq (.reg [0,3,4,5] [.o [.mov 3 (.t 0),.mov 4 (.t 0),.bin 5 .neq (.t 3) (.t 4),.asg 2 (.t 5)]]) .ret)
def yfc:FI:=⟨6,1,[.t 2],(.seq (.reg [2] [.o [.asg 2 (cB false)]]) yfb)⟩
theorem yu3:z25 Try.prog 139 yfc:=⟨_,_,Try.func139,rfl,by kernel_rfl,by kernel_rfl,Try.call139⟩
def yfd:Cd:=(.cond (.t 14) .skip (.exit 0))
def yfe:Cd:=(.cond (.t 34) .skip (.exit 2))
def yff:Cd:=(.reg [35,36] [.o [.mov 35 (.t 9),.bin 36 .sub (.t 35) (cI 1),.asg 9 (.t 36)]])
def yfg:Cd:=(.seq (.block 3 (.draw [[],[],[],[],[3],[],[],[6],[5,7],[8],[],[],[10,11],[12],[0,1,0,1,5,6,7,8,9,13],[14,9,0,1,5,6,7,8,9,13],[2,4,0,1,2,3,4,5,6,7,8,9,10,11,12,13,14,15],[16,13,15,0,1,2,3,4,5,6,7,8,9,10,11,12,13,14,15]] [34,37,38,39,40,41,42,43,44,45,46,47,48,49,50,51,52] [.o [.mov 37 (.t 0),.mov 38 (.t 9),.mov 39 (.t 0),.mov 40 (.t 9),.bin 41 .sub (.t 40) (cI 1),.mov 42 (.t 0),.mov 43 (.t 9),.bin 44 .sub (.t 43) (cI 1),.iaddr 45 1 (.t 42) (.t 44),.ld 46 1 false (.t 45),.mov 47 (.t 0),.mov 48 (.t 9),.iaddr 49 1 (.t 47) (.t 48),.ld 50 1 false (.t 49),.iaddr 51 1 (.t 37) (.t 38),.st 1 (.t 51) (.t 46),.iaddr 52 1 (.t 39) (.t 41),.st 1 (.t 52) (.t 50)]])) yff)
def yfh:Cd:=(.seq (.seq (.draw [[],[],[0,1],[2],[3],[3],[3],[5,6,3],[7,3],[3],[3],[10,3],[9,11,3],[12,3],[4,8,13,3,3],[14,3],[3,15]] [18,19,20,21,22,23,24,25,26,27,28,29,30,31,32,33] [.o [.mov 18 (.t 9),.mov 19 (.t 1),.bin 20 .gtr (.t 18) (.t 19),.mov 21 (.t 20)],.g 21 true [.mov 22 (.t 3),.mov 23 (.t 0),.mov 24 (.t 9),.iaddr 25 1 (.t 23) (.t 24),.ld 26 1 false (.t 25),.mov 27 (.t 0),.mov 28 (.t 9),.bin 29 .sub (.t 28) (cI 1),.iaddr 30 1 (.t 27) (.t 29),.ld 31 1 false (.t 30)],.clo (some (21,true)) 32 22 [(.t 26),(.t 31)],.g 21 true [.bin 33 .lss (.t 32) (cI 0)],.o [.pick 34 (.t 21) (.t 33) (cB false)]]) yfe) yfg)
def yfi:Cd:=(.block 2 (.loop yfh))
def zum:Cd:=(.reg [9,15,16] [.o [.mov 15 (.t 8),.bin 16 .add (.t 15) (cI 1),.asg 8 (.t 16)]])
def yfj:Cd:=(.seq (.block 1 (.seq (.reg [14,17] [.o [.mov 17 (.t 8),.asg 9 (.t 17)]]) yfi)) zum)
def yfk:Cd:=(.seq (.seq (.reg [12,13] [.o [.mov 12 (.t 8),.mov 13 (.t 2),.bin 14 .lss (.t 12) (.t 13)]]) yfd) yfj)
def yfl:Cd:=(.block 0 (.loop yfk))
def zp8:FI:=⟨53,4,[],(.seq (.reg [10,11] [.o [.mov 10 (.t 1),.bin 11 .add (.t 10) (cI 1),.asg 8 (.t 11)]]) yfl)⟩
theorem yu4:z25 Try.prog 163 zp8:=⟨_,_,Try.func163,rfl,by kernel_rfl,by kernel_rfl,Try.call163⟩
def yfm:Cd:=(.cond (.t 33) .skip (.exit 0))
def yfn:Cd:=(.reg [12,50,51,52] [.o [.mov 51 (.t 12),.bin 52 .add (.t 51) (cI 1),.asg 10 (.t 52)]])
def yfo:Cd:=(.reg [12,50,53] [.o [.mov 53 (.t 12),.asg 11 (.t 53)]])
def yfp:Cd:=(.cond (.t 50) yfn yfo)
def yfq:Cd:=(.seq (.draw [[],[],[],[1,2],[3],[],[],[5,6],[7],[0,4,8],[9]] [40,41,42,43,44,45,46,47,48,49] [.o [.mov 40 (.t 4),.mov 41 (.t 0),.mov 42 (.t 12),.iaddr 43 1 (.t 41) (.t 42),.ld 44 1 false (.t 43),.mov 45 (.t 0),.mov 46 (.t 1),.iaddr 47 1 (.t 45) (.t 46),.ld 48 1 false (.t 47)],.clo none 49 40 [(.t 44),(.t 48)],.o [.bin 50 .lss (.t 49) (cI 0)]]) yfp)
def yfr:Cd:=(.block 1 (.seq (.reg [33,34,35,36,37,38,39] [.o [.mov 34 (.t 10),.mov 35 (.t 11),.bin 36 .add (.t 34) (.t 35),.conv 37 .u64 (.t 36),.bin 38 .shr (.t 37) (.c (.sc (.int .u64 1))),.conv 39 .i64 (.t 38),.asg 12 (.t 39)]]) yfq))
def yfs:Cd:=(.seq (.seq (.reg [31,32] [.o [.mov 31 (.t 10),.mov 32 (.t 11),.bin 33 .lss (.t 31) (.t 32)]]) yfm) yfr)
def yft:Cd:=(.cond (.t 58) .skip (.exit 2))
def yfu:Cd:=(.reg [59,60] [.o [.mov 59 (.t 13),.bin 60 .add (.t 59) (cI 1),.asg 13 (.t 60)]])
def yfv:Cd:=(.seq (.block 3 (.draw [[],[],[],[],[3],[],[],[6],[5,7],[8],[],[],[10,11],[12],[0,1,0,1,5,6,7,8,9,13],[14,9,0,1,5,6,7,8,9,13],[2,4,0,1,2,3,4,5,6,7,8,9,10,11,12,13,14,15],[16,13,15,0,1,2,3,4,5,6,7,8,9,10,11,12,13,14,15]] [58,61,62,63,64,65,66,67,68,69,70,71,72,73,74,75,76] [.o [.mov 61 (.t 0),.mov 62 (.t 13),.mov 63 (.t 0),.mov 64 (.t 13),.bin 65 .add (.t 64) (cI 1),.mov 66 (.t 0),.mov 67 (.t 13),.bin 68 .add (.t 67) (cI 1),.iaddr 69 1 (.t 66) (.t 68),.ld 70 1 false (.t 69),.mov 71 (.t 0),.mov 72 (.t 13),.iaddr 73 1 (.t 71) (.t 72),.ld 74 1 false (.t 73),.iaddr 75 1 (.t 61) (.t 62),.st 1 (.t 75) (.t 70),.iaddr 76 1 (.t 63) (.t 65),.st 1 (.t 76) (.t 74)]])) yfu)
def zyn:Cd:=(.seq (.seq (.reg [55,56,57] [.o [.mov 55 (.t 13),.mov 56 (.t 10),.bin 57 .sub (.t 56) (cI 1),.bin 58 .lss (.t 55) (.t 57)]]) yft) yfv)
def zyo:Cd:=(.block 2 (.loop zyn))
def zyp:Cd:=(.seq (.seq (.reg [1,4,11,31,32,33,54] [.o [.mov 54 (.t 1),.asg 13 (.t 54)]]) zyo) .ret)
def zyq:Cd:=(.seq (.block 0 (.loop yfs)) zyp)
def zyr:Cd:=(.seq (.reg [3,30] [.o [.mov 30 (.t 3),.asg 11 (.t 30)]]) zyq)
def zp9:Cd:=(.seq (.reg [2,28,29] [.o [.mov 29 (.t 2),.asg 10 (.t 29)]]) zyr)
def zys:Cd:=(.cond (.t 28) zp9 .skip)
def zyt:Cd:=(.cond (.t 85) .skip (.exit 4))
def zyu:Cd:=(.reg [16,103,104,105] [.o [.mov 104 (.t 16),.bin 105 .add (.t 104) (cI 1),.asg 14 (.t 105)]])
def zyv:Cd:=(.reg [16,103,106] [.o [.mov 106 (.t 16),.asg 15 (.t 106)]])
def zyw:Cd:=(.cond (.t 103) zyu zyv)
def zyx:Cd:=(.seq (.draw [[],[],[],[1,2],[3],[],[],[5,6],[7],[0,4,8],[9],[10]] [92,93,94,95,96,97,98,99,100,101,102] [.o [.mov 92 (.t 4),.mov 93 (.t 0),.mov 94 (.t 2),.iaddr 95 1 (.t 93) (.t 94),.ld 96 1 false (.t 95),.mov 97 (.t 0),.mov 98 (.t 16),.iaddr 99 1 (.t 97) (.t 98),.ld 100 1 false (.t 99)],.clo none 101 92 [(.t 96),(.t 100)],.o [.bin 102 .lss (.t 101) (cI 0),.un 103 .not (.t 102)]]) zyw)
def zyy:Cd:=(.block 5 (.seq (.reg [85,86,87,88,89,90,91] [.o [.mov 86 (.t 14),.mov 87 (.t 15),.bin 88 .add (.t 86) (.t 87),.conv 89 .u64 (.t 88),.bin 90 .shr (.t 89) (.c (.sc (.int .u64 1))),.conv 91 .i64 (.t 90),.asg 16 (.t 91)]]) zyx))
def zyz:Cd:=(.seq (.seq (.reg [83,84] [.o [.mov 83 (.t 14),.mov 84 (.t 15),.bin 85 .lss (.t 83) (.t 84)]]) zyt) zyy)
def zz0:Cd:=(.cond (.t 110) .skip (.exit 6))
def zz1:Cd:=(.reg [111,112] [.o [.mov 111 (.t 17),.bin 112 .sub (.t 111) (cI 1),.asg 17 (.t 112)]])
def zz2:Cd:=(.seq (.block 7 (.draw [[],[],[],[],[3],[],[],[6],[5,7],[8],[],[],[10,11],[12],[0,1,0,1,5,6,7,8,9,13],[14,9,0,1,5,6,7,8,9,13],[2,4,0,1,2,3,4,5,6,7,8,9,10,11,12,13,14,15],[16,13,15,0,1,2,3,4,5,6,7,8,9,10,11,12,13,14,15]] [110,113,114,115,116,117,118,119,120,121,122,123,124,125,126,127,128] [.o [.mov 113 (.t 0),.mov 114 (.t 17),.mov 115 (.t 0),.mov 116 (.t 17),.bin 117 .sub (.t 116) (cI 1),.mov 118 (.t 0),.mov 119 (.t 17),.bin 120 .sub (.t 119) (cI 1),.iaddr 121 1 (.t 118) (.t 120),.ld 122 1 false (.t 121),.mov 123 (.t 0),.mov 124 (.t 17),.iaddr 125 1 (.t 123) (.t 124),.ld 126 1 false (.t 125),.iaddr 127 1 (.t 113) (.t 114),.st 1 (.t 127) (.t 122),.iaddr 128 1 (.t 115) (.t 117),.st 1 (.t 128) (.t 126)]])) zz1)
def zz3:Cd:=(.seq (.seq (.reg [108,109] [.o [.mov 108 (.t 17),.mov 109 (.t 14),.bin 110 .gtr (.t 108) (.t 109)]]) zz0) zz2)
def zz4:Cd:=(.block 6 (.loop zz3))
def zz5:Cd:=(.seq (.seq (.reg [2,4,15,83,84,85,107] [.o [.mov 107 (.t 2),.asg 17 (.t 107)]]) zz4) .ret)
def zz6:Cd:=(.seq (.block 4 (.loop zyz)) zz5)
def zz7:Cd:=(.seq (.reg [82] [.o [.mov 82 (.t 2),.asg 15 (.t 82)]]) zz6)
def zpa:Cd:=(.seq (.reg [1,3,80,81] [.o [.mov 81 (.t 1),.asg 14 (.t 81)]]) zz7)
def zz8:Cd:=(.cond (.t 80) zpa .skip)
def zz9:Cd:=(.reg [144] [.o [.mov 144 (.t 18),.asg 21 (.t 144)]])
def zza:Cd:=(.seq (.reg [140,141,142,143] [.o [.mov 141 (.t 19),.mov 142 (.t 3),.bin 143 .sub (.t 141) (.t 142),.asg 20 (.t 143)]]) zz9)
def zzb:Cd:=(.reg [146] [.o [.mov 146 (.t 2),.asg 21 (.t 146)]])
def zzc:Cd:=(.seq (.reg [140,145] [.o [.mov 145 (.t 1),.asg 20 (.t 145)]]) zzb)
def zzd:Cd:=(.cond (.t 140) zza zzc)
def zze:Cd:=(.cond (.t 151) .skip (.exit 8))
def zzf:Cd:=(.reg [23,171,172,173] [.o [.mov 172 (.t 23),.bin 173 .add (.t 172) (cI 1),.asg 20 (.t 173)]])
def zzg:Cd:=(.reg [23,171,174] [.o [.mov 174 (.t 23),.asg 21 (.t 174)]])
def zzh:Cd:=(.cond (.t 171) zzf zzg)
def zzi:Cd:=(.seq (.draw [[],[],[],[],[2,3],[1,4],[5],[],[],[7,8],[9],[0,6,10],[11],[12]] [158,159,160,161,162,163,164,165,166,167,168,169,170] [.o [.mov 158 (.t 4),.mov 159 (.t 0),.mov 160 (.t 22),.mov 161 (.t 23),.bin 162 .sub (.t 160) (.t 161),.iaddr 163 1 (.t 159) (.t 162),.ld 164 1 false (.t 163),.mov 165 (.t 0),.mov 166 (.t 23),.iaddr 167 1 (.t 165) (.t 166),.ld 168 1 false (.t 167)],.clo none 169 158 [(.t 164),(.t 168)],.o [.bin 170 .lss (.t 169) (cI 0),.un 171 .not (.t 170)]]) zzh)
def zzj:Cd:=(.block 9 (.seq (.reg [151,152,153,154,155,156,157] [.o [.mov 152 (.t 20),.mov 153 (.t 21),.bin 154 .add (.t 152) (.t 153),.conv 155 .u64 (.t 154),.bin 156 .shr (.t 155) (.c (.sc (.int .u64 1))),.conv 157 .i64 (.t 156),.asg 23 (.t 157)]]) zzi))
def zzk:Cd:=(.seq (.seq (.reg [149,150] [.o [.mov 149 (.t 20),.mov 150 (.t 21),.bin 151 .lss (.t 149) (.t 150)]]) zze) zzj)
def zzl:Cd:=(.reg [2,185,186,187,188,189,190,191] [.o [.mov 186 (.t 0),.mov 187 (.t 20),.mov 188 (.t 2),.mov 189 (.t 24),.mov 190 (.t 4)],.call none 191 174 [(.t 186),(.t 187),(.t 188),(.t 189),(.t 190)]])
def zzm:Cd:=(.cond (.t 185) zzl .skip)
def zzn:Cd:=(.reg [1,20,199,200,201,202,203,204,205] [.o [.mov 200 (.t 0),.mov 201 (.t 1),.mov 202 (.t 20),.mov 203 (.t 18),.mov 204 (.t 4)],.call none 205 164 [(.t 200),(.t 201),(.t 202),(.t 203),(.t 204)]])
def zzo:Cd:=(.cond (.t 199) zzn .skip)
def zzp:Cd:=(.reg [0,3,4,18,24,213,214,215,216,217,218,219] [.o [.mov 214 (.t 0),.mov 215 (.t 18),.mov 216 (.t 24),.mov 217 (.t 3),.mov 218 (.t 4)],.call none 219 164 [(.t 214),(.t 215),(.t 216),(.t 217),(.t 218)]])
def zzq:Cd:=(.cond (.t 213) zzp .skip)
def zzr:Cd:=(.seq (.reg [1,20,199,206,207,208,209,210,211,212] [.o [.mov 206 (.t 18),.mov 207 (.t 24),.bin 208 .lss (.t 206) (.t 207),.mov 209 (.t 208)],.g 209 true [.mov 210 (.t 24),.mov 211 (.t 3),.bin 212 .lss (.t 210) (.t 211)],.o [.pick 213 (.t 209) (.t 212) (cB false)]]) zzq)
def zzs:Cd:=(.seq (.seq (.reg [2,185,192,193,194,195,196,197,198] [.o [.mov 192 (.t 1),.mov 193 (.t 20),.bin 194 .lss (.t 192) (.t 193),.mov 195 (.t 194)],.g 195 true [.mov 196 (.t 20),.mov 197 (.t 18),.bin 198 .lss (.t 196) (.t 197)],.o [.pick 199 (.t 195) (.t 198) (cB false)]]) zzo) zzr)
def zzt:Cd:=(.seq (.seq (.reg [178,179,180,181,182,183,184] [.o [.mov 178 (.t 20),.mov 179 (.t 2),.bin 180 .lss (.t 178) (.t 179),.mov 181 (.t 180)],.g 181 true [.mov 182 (.t 2),.mov 183 (.t 24),.bin 184 .lss (.t 182) (.t 183)],.o [.pick 185 (.t 181) (.t 184) (cB false)]]) zzm) zzs)
def zpb:Cd:=(.seq (.reg [19,21,22,149,150,151,175,176,177] [.o [.mov 175 (.t 19),.mov 176 (.t 20),.bin 177 .sub (.t 175) (.t 176),.asg 24 (.t 177)]]) zzt)
def zzu:Cd:=(.seq (.block 8 (.loop zzk)) zpb)
def zpc:Cd:=(.seq (.reg [147,148] [.o [.mov 147 (.t 19),.bin 148 .sub (.t 147) (cI 1),.asg 22 (.t 148)]]) zzu)
def zzv:Cd:=(.seq (.seq (.reg [138,139] [.o [.mov 138 (.t 2),.mov 139 (.t 18),.bin 140 .gtr (.t 138) (.t 139)]]) zzd) zpc)
def zzw:Cd:=(.seq (.reg [20,21] [.o [.asg 20 (cI 0),.asg 21 (cI 0)]]) zzv)
def zzx:Cd:=(.seq (.reg [135,136,137] [.o [.mov 135 (.t 18),.mov 136 (.t 2),.bin 137 .add (.t 135) (.t 136),.asg 19 (.t 137)]]) zzw)
def zzy:Cd:=(.seq (.reg [80,129,130,131,132,133,134] [.o [.mov 129 (.t 1),.mov 130 (.t 3),.bin 131 .add (.t 129) (.t 130),.conv 132 .u64 (.t 131),.bin 133 .shr (.t 132) (.c (.sc (.int .u64 1))),.conv 134 .i64 (.t 133),.asg 18 (.t 134)]]) zzx)
def zzz:Cd:=(.seq (.seq (.reg [28,77,78,79] [.o [.mov 77 (.t 3),.mov 78 (.t 2),.bin 79 .sub (.t 77) (.t 78),.bin 80 .eql (.t 79) (cI 1)]]) zz8) zzy)
def z9l:FI:=⟨220,5,[],(.seq (.seq (.reg [25,26,27] [.o [.mov 25 (.t 2),.mov 26 (.t 1),.bin 27 .sub (.t 25) (.t 26),.bin 28 .eql (.t 27) (cI 1)]]) zys) zzz)⟩
theorem yu5:z25 Try.prog 164 z9l:=⟨_,_,Try.func164,rfl,by kernel_rfl,by kernel_rfl,Try.call164⟩
def yfw:Cd:=(.cond (.t 20) .skip (.exit 0))
def yfx:Cd:=(.reg [32,33,34] [.o [.mov 32 (.t 10),.mov 33 (.t 11),.bin 34 .sub (.t 32) (.t 33),.asg 10 (.t 34)]])
def yfy:Cd:=(.seq (.reg [23,24,25,26,27,28,29,30,31] [.o [.mov 24 (.t 0),.mov 25 (.t 2),.mov 26 (.t 10),.bin 27 .sub (.t 25) (.t 26),.mov 28 (.t 2),.mov 29 (.t 11),.mov 30 (.t 4)],.call none 31 187 [(.t 24),(.t 27),(.t 28),(.t 29),(.t 30)]]) yfx)
def yfz:Cd:=(.reg [47,48,49] [.o [.mov 47 (.t 11),.mov 48 (.t 10),.bin 49 .sub (.t 47) (.t 48),.asg 11 (.t 49)]])
def yg0:Cd:=(.seq (.reg [23,35,36,37,38,39,40,41,42,43,44,45,46] [.o [.mov 35 (.t 0),.mov 36 (.t 2),.mov 37 (.t 10),.bin 38 .sub (.t 36) (.t 37),.mov 39 (.t 2),.mov 40 (.t 11),.bin 41 .add (.t 39) (.t 40),.mov 42 (.t 10),.bin 43 .sub (.t 41) (.t 42),.mov 44 (.t 10),.mov 45 (.t 4)],.call none 46 187 [(.t 35),(.t 38),(.t 43),(.t 44),(.t 45)]]) yfz)
def yg1:Cd:=(.cond (.t 23) yfy yg0)
def yg2:Cd:=(.block 1 (.seq (.reg [20,21,22] [.o [.mov 21 (.t 10),.mov 22 (.t 11),.bin 23 .gtr (.t 21) (.t 22)]]) yg1))
def yg3:Cd:=(.seq (.seq (.reg [18,19] [.o [.mov 18 (.t 10),.mov 19 (.t 11),.bin 20 .neq (.t 18) (.t 19)]]) yfw) yg2)
def yg4:Cd:=(.reg [0,2,4,10,11,18,19,20,50,51,52,53,54,55,56,57] [.o [.mov 50 (.t 0),.mov 51 (.t 2),.mov 52 (.t 10),.bin 53 .sub (.t 51) (.t 52),.mov 54 (.t 2),.mov 55 (.t 10),.mov 56 (.t 4)],.call none 57 187 [(.t 50),(.t 53),(.t 54),(.t 55),(.t 56)]])
def yg5:Cd:=(.seq (.block 0 (.loop yg3)) yg4)
def y00:Cd:=(.seq (.reg [3,15,16,17] [.o [.mov 15 (.t 3),.mov 16 (.t 2),.bin 17 .sub (.t 15) (.t 16),.asg 11 (.t 17)]]) yg5)
def yg6:FI:=⟨58,5,[],(.seq (.reg [1,12,13,14] [.o [.mov 12 (.t 2),.mov 13 (.t 1),.bin 14 .sub (.t 12) (.t 13),.asg 10 (.t 14)]]) y00)⟩
theorem yu6:z25 Try.prog 174 yg6:=⟨_,_,Try.func174,rfl,by kernel_rfl,by kernel_rfl,Try.call174⟩
def yg7:Cd:=(.cond (.t 13) .skip (.exit 0))
def yg8:Cd:=(.reg [14,15] [.o [.mov 14 (.t 10),.bin 15 .add (.t 14) (cI 1),.asg 10 (.t 15)]])
def yg9:Cd:=(.seq (.block 1 (.draw [[],[],[],[1,2],[],[],[],[5,6],[],[],[],[9,10],[8,11],[12],[],[],[],[15,16],[14,17],[18],[0,3,0,1,2,3,8,9,10,11,12,13,19],[20,13,0,1,2,3,8,9,10,11,12,13,19],[4,7,0,1,2,3,4,5,6,7,8,9,10,11,12,13,14,15,16,17,18,19,20,21],[22,19,21,0,1,2,3,4,5,6,7,8,9,10,11,12,13,14,15,16,17,18,19,20,21]] [13,16,17,18,19,20,21,22,23,24,25,26,27,28,29,30,31,32,33,34,35,36,37] [.o [.mov 16 (.t 0),.mov 17 (.t 1),.mov 18 (.t 10),.bin 19 .add (.t 17) (.t 18),.mov 20 (.t 0),.mov 21 (.t 2),.mov 22 (.t 10),.bin 23 .add (.t 21) (.t 22),.mov 24 (.t 0),.mov 25 (.t 2),.mov 26 (.t 10),.bin 27 .add (.t 25) (.t 26),.iaddr 28 1 (.t 24) (.t 27),.ld 29 1 false (.t 28),.mov 30 (.t 0),.mov 31 (.t 1),.mov 32 (.t 10),.bin 33 .add (.t 31) (.t 32),.iaddr 34 1 (.t 30) (.t 33),.ld 35 1 false (.t 34),.iaddr 36 1 (.t 16) (.t 19),.st 1 (.t 36) (.t 29),.iaddr 37 1 (.t 20) (.t 23),.st 1 (.t 37) (.t 35)]])) yg8)
def yga:Cd:=(.seq (.seq (.reg [11,12] [.o [.mov 11 (.t 10),.mov 12 (.t 3),.bin 13 .lss (.t 11) (.t 12)]]) yg7) yg9)
def ygb:Cd:=(.block 0 (.loop yga))
def ygc:FI:=⟨38,5,[],(.seq (.reg [4] [.o [.asg 10 (cI 0)]]) ygb)⟩
theorem yu7:z25 Try.prog 187 ygc:=⟨_,_,Try.func187,rfl,by kernel_rfl,by kernel_rfl,Try.call187⟩
def lexLt (key:Int→Int)(x y:Int):Prop:=key x < key y∨(key x=key y∧x < y)
theorem lexLt.trans {key:Int→Int}{x y z:Int}(h:lexLt key x y)(h':lexLt key y z):lexLt key x z:=by
 unfold lexLt at *;omega
theorem lexLt.asymm {key:Int→Int}{x y:Int}(h:lexLt key x y)(h':lexLt key y x):False:=by
 unfold lexLt at *;omega
def seg (f:Nat→Int)(a n:Nat):List Int:=(List.range n).map fun k=>f (a+k)
theorem ze6 (f:Nat→Int)(a n:Nat):(seg f a n).length=n:=by simp[seg]
theorem zbj (f:Nat→Int)(a m n:Nat):seg f a (m+n)=seg f a m ++ seg f (a+m) n:=by
 simp only[seg,List.range_add,sj,rr]
 congr 1
 apply rc
 intro k _
 simp[qq]
theorem z58 {f g:Nat→Int}{a b n:Nat}(h:∀ k,k < n→f (a+k)=g (b+k)):seg f a n=seg g b n:=by
 unfold seg
 exact rc fun k hk=>h k (ql.1 hk)
theorem ze7 {f:Nat→Int}{a n:Nat}{x:Int}:x ∈ seg f a n ↔ ∃ k,k < n∧f (a+k)=x:=by
 simp[seg]
def SortedF (key:Int→Int)(f:Nat→Int)(a b:Nat):Prop:=∀ i j,a≤i→i < j→j < b→lexLt key (f i) (f j)
structure SM (key:Int→Int) (f:Nat→Int) (a b:Nat) (f':Nat→Int):Prop where
 out:∀ k,k < a∨b≤k→f' k=f k
 perm:(seg f' a (b - a)).Perm (seg f a (b - a))
 sorted:SortedF key f' a b
structure Rot (f:Nat→Int) (s m e:Nat) (f':Nat→Int):Prop where
 out:∀ k,k < s∨e≤k→f' k=f k
 fst:∀ k,k < e - m→f' (s+k)=f (m+k)
 snd:∀ k,k < m - s→f' (s+(e - m)+k)=f (s+k)
theorem Rot.none (f:Nat→Int)(s m e:Nat)(h:s=m∨m=e):Rot f s m e f:=by
 rcases h with rfl | rfl
 ·exact⟨fun _ _=>rfl,fun _ _=>rfl,fun k hk=>by omega⟩
 ·exact⟨fun _ _=>rfl,fun k hk=>by omega,fun k _=>by simp⟩
theorem SM.mem {key:Int→Int}{f f':Nat→Int}{a b i:Nat}(h:SM key f a b f')(h1:a≤i)(h2:i < b):∃ k,a≤k∧k < b∧f' i=f k:=by
 have:f' i ∈ seg f' a (b - a):=ze7.2 ⟨i - a,by omega,by rw[show a+(i - a)=i by omega]⟩
 obtain⟨k,hk,e⟩:=ze7.1 (h.perm.subset this)
 exact⟨a+k,by omega,by omega,e.symm⟩
theorem Rot.perm {f f':Nat→Int}{s m e:Nat}(h:Rot f s m e f')(h1:s≤m)(h2:m≤e):(seg f' s (e - s)).Perm (seg f s (e - s)):=by
 have e1:seg f' s (e - s)=seg f m (e - m) ++ seg f s (m - s):=by
  rw[show e - s=(e - m)+(m - s) by omega,zbj]
  rw[z58 (f:=f') (g:=f) (a:=s) (b:=m) (h.fst),z58 (f:=f') (g:=f) (a:=s+(e - m)) (b:=s) (h.snd)]
 have e2:seg f s (e - s)=seg f s (m - s) ++ seg f m (e - m):=by
  rw[show e - s=(m - s)+(e - m) by omega,zbj,show s+(m - s)=m by omega]
 rw[e1,e2]
 exact List.perm_append_comm
theorem z7y {f f':Nat→Int}{a b s e:Nat}(h1:a≤s)(h2:s≤e)(h3:e≤b)(ho:∀ k,k < s∨e≤k→f' k=f k)(hp:(seg f' s (e - s)).Perm (seg f s (e - s))):(seg f' a (b - a)).Perm (seg f a (b - a)):=by
 have split:∀ g:Nat→Int,seg g a (b - a)=seg g a (s - a) ++ (seg g s (e - s) ++ seg g e (b - e)):=fun g=>by
  rw[show b - a=(s - a)+((e - s)+(b - e)) by omega,zbj,zbj,show a+(s - a)=s by omega,show s+(e - s)=e by omega]
 rw[split,split]
 have q1:seg f' a (s - a)=seg f a (s - a):=z58 fun k hk=>ho _ (by omega)
 have q2:seg f' e (b - e)=seg f e (b - e):=z58 fun k hk=>ho _ (by omega)
 rw[q1,q2]
 exact (hp.append_right _).append_left _
theorem zk1 {key:Int→Int}{f f1 f2 f3:Nat→Int}{a s m e b mid:Nat}(h1:a≤s)(h2:s≤m)(h3:m≤e)(h4:e≤b)(hmid:mid=s+(e - m))
  (hR:Rot f s m e f1) (hA:SM key f1 a mid f2) (hB:SM key f2 mid b f3)
  (hL:SortedF key f a m) (hRt:SortedF key f m b)
  (c1:∀ i j,a≤i→i < s→e≤j→j < b→lexLt key (f i) (f j)) (c2:∀ i j,m≤j→j < e→s≤i→i < m→lexLt key (f j) (f i)):SM key f a b f3:=by
 have hm1:s≤mid:=by omega
 have hm2:mid≤e:=by omega
 refine⟨fun k hk=>?_,?_,fun i j hi hij hj=>?_⟩
 ·rw[hB.out k (by omega),hA.out k (by omega),hR.out k (by omega)]
 ·have p1:=z7y (a:=a) (b:=b) h1 (by omega) h4 hR.out (hR.perm h2 h3)
  have p2:(seg f2 a (b - a)).Perm (seg f1 a (b - a)):=z7y (s:=a) (e:=mid) (by omega) (by omega) (by omega) hA.out hA.perm
  have p3:(seg f3 a (b - a)).Perm (seg f2 a (b - a)):=z7y (s:=mid) (e:=b) (by omega) (by omega) (by omega) hB.out hB.perm
  exact p3.trans (p2.trans p1)
 ·by_cases hjm:j < mid
  ·rw[hB.out i (by omega),hB.out j (by omega)]
   exact hA.sorted i j hi hij hjm
  ·by_cases him:mid≤i
   ·exact hB.sorted i j him hij hj
   ·rw[hB.out i (by omega)]
    obtain⟨u,hu1,hu2,eu⟩:=hA.mem hi (by omega:i < mid)
    obtain⟨v,hv1,hv2,ev⟩:=hB.mem (by omega:mid≤j) hj
    rw[eu,ev,hA.out v (by omega)]
    have fu:(u < s∧f1 u=f u)∨(s≤u∧f1 u=f (m+(u - s))):=by
     by_cases hus:u < s
     ·exact .inl ⟨hus,hR.out u (by omega)⟩
     ·exact .inr ⟨by omega,by have:=hR.fst (u - s) (by omega);rwa [show s+(u - s)=u by omega] at this⟩
    have fv:(v < e∧f1 v=f (s+(v - mid)))∨(e≤v∧f1 v=f v):=by
     by_cases hve:v < e
     ·exact .inl ⟨hve,by have:=hR.snd (v - mid) (by omega);rwa [show s+(e - m)+(v - mid)=v by omega] at this⟩
     ·exact .inr ⟨by omega,hR.out v (by omega)⟩
    rcases fu with ⟨q1,q2⟩ | ⟨q1,q2⟩<;>rcases fv with ⟨r1,r2⟩ | ⟨r1,r2⟩<;>rw [q2,r2]
    ·exact hL _ _ (by omega) (by omega) (by omega)
    ·exact c1 _ _ (by omega) q1 r1 hv2
    ·exact c2 _ _ (by omega) (by omega) (by omega) (by omega)
    ·exact hRt _ _ (by omega) (by omega) hv2
theorem wo {key:Int→Int}{f:Nat→Int}{a b:Nat}(h:SortedF key f a b):SM key f a b f:=⟨fun _ _=>rfl,List.Perm.refl _,h⟩
theorem SM.trans {key:Int→Int}{f f1 f2:Nat→Int}{a b:Nat}(ho:∀ k,k < a∨b≤k→f1 k=f k)(hp:(seg f1 a (b - a)).Perm (seg f a (b - a)))(h:SM key f1 a b f2):SM key f a b f2 :=
 ⟨fun k hk=>(h.out k hk).trans (ho k hk),h.perm.trans hp,h.sorted⟩
theorem z5k {r:Int→Int→Prop}(anti:∀ x y,r x y→r y x→False):∀ {l1 l2:List Int},l1.Perm l2→l1.Pairwise r→l2.Pairwise r→l1=l2
 | [],l2,h,_,_=>(List.nil_perm.1 h).symm
 | a :: t,[],h,_,_=>by simpa using h.length_eq
 | a :: t,b :: u,h,h1,h2=>by
  have hab:a=b:=by
   have m1:a ∈ b :: u:=h.subset (by simp)
   have m2:b ∈ a :: t:=h.symm.subset (by simp)
   rcases qj.1 m1 with e | m1
   ·exact e
   ·rcases qj.1 m2 with e | m2
    ·exact e.symm
    ·exact (anti _ _ ((se.1 h1).1 b m2) ((se.1 h2).1 a m1)).elim
  subst hab
  rw[z5k anti (List.Perm.cons_inv h) (se.1 h1).2 (se.1 h2).2]
def zh9 (key:Int→Int)(x:Int):List Int→List Int
 | []=>[x]
 | y :: r=>if key x < key y then x :: y :: r else y :: zh9 key x r
def za0 (key:Int→Int)(l:List Int):List Int:=l.foldl (fun acc x=>zh9 key x acc) []
theorem z7z (key:Int→Int)(x:Int):∀ l,(zh9 key x l).Perm (x :: l)
 | []=>List.Perm.refl _
 | y :: r=>by
  simp only[zh9]
  split
  ·exact List.Perm.refl _
  ·exact ((z7z key x r).cons y).trans (List.Perm.swap x y r)
theorem zbk (key:Int→Int)(x:Int):∀ {l:List Int},l.Pairwise (lexLt key)→(∀ y ∈ l,y < x)→(zh9 key x l).Pairwise (lexLt key)
 | [],_,_=>by simp[zh9]
 | y :: r,h,hx=>by
  simp only[zh9]
  have hp:=se.1 h
  split
  ·rename_i hk
   refine se.2 ⟨fun z hz=>?_,h⟩
   rcases qj.1 hz with rfl | hz
   ·exact .inl hk
   ·exact lexLt.trans (.inl hk) (hp.1 z hz)
  ·rename_i hk
   refine se.2 ⟨fun z hz=>?_,zbk key x hp.2 fun z hz=>hx z (qd _ hz)⟩
   rcases qj.1 ((z7z key x r).subset hz) with rfl | hz
   ·have:=hx y (by simp)
    unfold lexLt;omega
   ·exact hp.1 z hz
theorem zpd (key:Int→Int):∀ (l acc:List Int),acc.Pairwise (lexLt key)→l.Pairwise (· < ·)→(∀ y ∈ acc,∀ x ∈ l,y < x) →
  (l.foldl (fun acc x=>zh9 key x acc) acc).Perm (acc ++ l)∧(l.foldl (fun acc x=>zh9 key x acc) acc).Pairwise (lexLt key)
 | [],acc,h,_,_=>by simpa using h
 | x :: l,acc,h,hl,hx=>by
  have hp:=se.1 hl
  have h1:=zbk key x h fun y hy=>hx y hy x (by simp)
  have:=zpd key l (zh9 key x acc) h1 hp.2 (fun y hy z hz=>by
   rcases qj.1 ((z7z key x acc).subset hy) with rfl | hy
   ·exact hp.1 z hz
   ·exact hx y hy z (qd _ hz))
  refine⟨this.1.trans ?_,this.2⟩
  refine ((z7z key x acc).append_right l).trans ?_
  rw[rj]
  exact List.perm_middle.symm
theorem z4f (key:Int→Int){l:List Int}(hl:l.Pairwise (· < ·)):(za0 key l).Perm l∧(za0 key l).Pairwise (lexLt key):=by
 have:=zpd key l [] List.Pairwise.nil hl (by simp)
 simpa [za0] using this
theorem zid (key:Int→Int){l m:List Int}(hl:l.Pairwise (· < ·))(hp:m.Perm l)(hs:m.Pairwise (lexLt key)):m=za0 key l :=
 z5k (fun _ _ h h'=>h.asymm h') (hp.trans (z4f key hl).1.symm) hs (z4f key hl).2
theorem zpe (key:Int→Int)(l:List Int)(x:Int):za0 key (l ++ [x])=zh9 key x (za0 key l):=by simp[za0]
abbrev tF (f:Nat→Int)(n:Nat):List AU:=(List.range n).map fun k=>i64 (f k)
abbrev rF (f:Nat→Int)(n:Nat):AU:=.sl true () 1 n (tF f n)
def zmi (f:Nat→Int)(k:Nat)(v:Int):Nat→Int:=fun j=>if j=k then v else f j
theorem ygd (f:Nat→Int)(n k:Nat)(v:Int):(tF f n).set k (i64 v)=tF (zmi f k v) n:=by
 apply List.ext_getElem
 ·simp
 ·intro i h1 h2
  simp only[List.getElem_set,List.getElem_map,List.getElem_range,zmi]
  by_cases h:k=i
  ·subst h;simp
  ·rw[if_neg h,if_neg (fun e=>h e.symm)]
theorem ze8 (f:Nat→Int)(n k:Nat)(v:Int):(tF f n).set k (.sc (.int .i64 v))=tF (zmi f k v) n:=ygd f n k v
def swF (f:Nat→Int)(a b i:Nat):Nat→Int:=fun k=>if a≤k∧k < a+i then f (b+(k - a)) else if b≤k∧k < b+i then f (a+(k - b)) else f k
theorem zss (f:Nat→Int)(a b:Nat):swF f a b 0=f:=by
 funext k;unfold swF;rw[if_neg (by omega),if_neg (by omega)]
theorem zst (f:Nat→Int){a b i n:Nat}(h:a+n≤b)(hi:i < n):zmi (zmi (swF f a b i) (a+i) (swF f a b i (b+i))) (b+i) (swF f a b i (a+i))=swF f a b (i+1):=by
 funext k
 simp only[zmi,swF]
 repeat' split
 all_goals first | rfl | (exfalso;omega) | (congr 1;omega)
abbrev swS (f:Nat→Int)(N a b n i:Nat)(cl:AU):SL:=[(0,0,.view 1000000 0 [] 0 N),(100,0,i64 a),(200,0,i64 b),(300,0,i64 n),(1000,0,i64 i),(1000000,0,rF (swF f a b i) N)]
theorem zie (f:Nat→Int)(N a b n:Nat)(hN:z0c N)(h1:a+n≤b)(h2:b+n≤N)(g:Nat)(cs:List AU) :
  FnC Try.prog 187 [.nod (rF f N)] [.view 1000000 0 [] 0 N,i64 a,i64 b,i64 n,.clos g [.vptr () cs]] [.nod (rF (swF f a b n) N)] (.tuple []):=by
 unfold z0c at hN
 refine wc yu7 rfl ?_
 refine WL.sreg (by simp;rfl) (by simp;rfl) ?_
 refine WL.block (we n (fun i=>swS f N a b n i (.clos g [.vptr () cs])) (fun _=>True) (by simp[zss]) trivial fun i hi _=>?_)
 by_cases hlt:i < n
 ·obtain⟨p,hp⟩:∃ p,p=a+i:=⟨_,rfl⟩
  obtain⟨q,hq⟩:∃ q,q=b+i:=⟨_,rfl⟩
  have w1:IntKind.wrap .i64 ((a:Int)+(i:Int))=(p:Int):=by rw[z01 (by omega) (by omega)];omega
  have w2:IntKind.wrap .i64 ((b:Int)+(i:Int))=(q:Int):=by rw[z01 (by omega) (by omega)];omega
  have w3:IntKind.wrap .i64 ((i:Int)+1)=((i+1:Nat):Int):=by rw[z01 (by omega) (by omega)];omega
  have l1:p < N:=by omega
  have l2:q < N:=by omega
  have l1':p+1≤N:=by omega
  have l2':q+1≤N:=by omega
  have this:=zst f h1 hlt
  rw[← hp,← hq] at this
  refine WL.seq (WL.sreg (by simp[hlt];rfl) (by simp;rfl) ?_)
  refine WL.cond (t:=true) (by simp[hlt]) (fun _=>WL.skip ?_) (by simp)
  refine WL.seq (WL.block (WL.draw z0t (by simp[z0b,noH]) (DL.o (by simp[w1,w2,l1,l2,l1',l2',ze8];exact⟨rfl,rfl⟩) (DL.nil ⟨by kernel_rfl,_,by simp;rfl,?_⟩))))
  refine WL.reg (RL.run (by simp[w3];rfl) ⟨_,by simp;rfl,hlt,?_,trivial⟩)
  simp[this]
 ·refine WL.seq (WL.sreg (by simp[hlt];rfl) (by simp;rfl) ?_)
  refine WL.cond (t:=false) (by simp[hlt]) (by simp) fun _=>WL.exit ?_
  obtain rfl:i=n:=by omega
  refine⟨.inl rfl,?_⟩
  simp[ygc]
theorem z00 {α β:Type}{x:Option α}{f:α→Option β}{y:β}(h:x.bind f=some y):∃ a,x=some a∧f a=some y:=pf.1 h
theorem z0h {α β:Type}{x:Option α}{f:α→β}{y:β}(h:x.map f=some y):∃ a,x=some a∧f a=y:=pg.1 h
theorem zgg {P:Program}{nt:Nat}{o:Oper}{c:Call}{d n:Nat}(h:z5g P nt o c=some (.mov d (.t n))):False:=by
 unfold z5g at h
 obtain⟨d',_,h⟩:=z00 h
 split at h
 ·obtain⟨c,_,h⟩:=z00 h
  split at h<;>cases h
 ·obtain⟨c,_,h⟩:=z00 h
  obtain⟨b,_,h⟩:=z0h h
  cases h
 ·obtain⟨c,_,h⟩:=z00 h
  obtain⟨b,_,h⟩:=z0h h
  cases h
 ·obtain⟨c,_,h⟩:=z00 h
  obtain⟨b,_,h⟩:=z00 h
  split at h
  ·split at h
   ·obtain⟨i,_,h⟩:=z00 h
    obtain⟨z,_,h⟩:=z00 h
    split at h<;>cases h
   ·cases h
  ·cases h
 ·obtain⟨c,_,h⟩:=z00 h
  obtain⟨b,_,h⟩:=z00 h
  split at h
  ·obtain⟨i,_,h⟩:=z00 h
   split at h<;>cases h
  ·cases h
 ·cases h
theorem zpf {P:Program}{nt:Nat}{here:List Nat}{o:Oper}{d n:Nat}(h:zav P nt here o=some (.mov d (.t n))):z0r nt o=true∧∃ x,(o.op=.move x∨o.op=.assign x)∧∃ sz,compOd nt sz x=some (.t n):=by
 unfold zav at h
 split at h
 ·rename_i hc
  refine⟨hc.1,?_⟩
  split at h
  ·rename_i x hop
   obtain⟨d',_,h⟩:=z00 h
   obtain⟨c,hx,h⟩:=z0h h
   cases h
   exact⟨x,.inl hop,_,hx⟩
  ·rename_i x hop
   obtain⟨d',_,h⟩:=z00 h
   obtain⟨c,hx,h⟩:=z0h h
   split at h
   ·split at h
    ·cases h
    ·cases h;exact⟨x,.inr hop,_,hx⟩
   ·cases h
  ·exfalso
   obtain⟨_,_,h⟩:=z00 h
   obtain⟨_,_,h⟩:=z0h h
   cases h
  ·exfalso
   obtain⟨_,_,h⟩:=z00 h
   obtain⟨_,_,h⟩:=z00 h
   obtain⟨_,_,h⟩:=z00 h
   obtain⟨_,_,h⟩:=z0h h
   cases h
  ·exfalso
   obtain⟨_,_,h⟩:=z00 h
   obtain⟨_,_,h⟩:=z0h h
   cases h
  ·exfalso
   obtain⟨_,_,h⟩:=z00 h
   obtain⟨_,_,h⟩:=z00 h
   split at h
   ·cases h
   ·split at h
    ·cases h
    ·obtain⟨_,_,h⟩:=z00 h
     split at h
     ·split at h
      ·cases h
      ·split at h<;>cases h
     ·cases h
  ·exfalso
   obtain⟨_,_,h⟩:=z00 h
   obtain⟨_,_,h⟩:=z00 h
   split at h
   ·cases h
   ·split at h<;>cases h
   ·split at h
    ·split at h<;>cases h
    ·cases h
   ·split at h<;>cases h
   ·cases h
  ·exfalso
   obtain⟨_,_,h⟩:=z00 h
   obtain⟨_,_,h⟩:=z00 h
   obtain⟨_,_,h⟩:=z00 h
   obtain⟨_,_,h⟩:=z00 h
   split at h<;>cases h
  ·exfalso
   obtain⟨_,_,h⟩:=z00 h
   obtain⟨_,_,h⟩:=z00 h
   split at h
   ·obtain⟨_,_,h⟩:=z00 h
    obtain⟨_,_,h⟩:=z00 h
    split at h<;>cases h
   ·cases h
  ·exfalso
   obtain⟨_,_,h⟩:=z00 h
   obtain⟨_,_,h⟩:=z00 h
   obtain⟨_,_,h⟩:=z00 h
   split at h
   ·obtain⟨_,_,h⟩:=z0h h
    cases h
   ·obtain⟨_,_,h⟩:=z0h h
    cases h
   ·cases h
  ·exfalso
   obtain⟨_,_,h⟩:=z00 h
   obtain⟨_,_,h⟩:=z00 h
   obtain⟨_,_,h⟩:=z00 h
   obtain⟨_,_,h⟩:=z00 h
   split at h
   ·obtain⟨_,_,h⟩:=z0h h
    cases h
   ·cases h
   ·cases h
  ·exfalso
   obtain⟨_,_,h⟩:=z00 h
   obtain⟨_,_,h⟩:=z00 h
   obtain⟨_,_,h⟩:=z00 h
   split at h<;>cases h
  ·exfalso
   split at h
   ·obtain⟨_,_,h⟩:=z00 h
    obtain⟨_,_,h⟩:=z00 h
    obtain⟨_,_,h⟩:=z0h h
    cases h
   ·cases h
  ·exfalso
   obtain⟨_,_,h⟩:=z0h h
   cases h
  ·exfalso
   obtain⟨_,_,h⟩:=z00 h
   obtain⟨_,_,h⟩:=z0h h
   cases h
  ·exfalso
   obtain⟨_,_,h⟩:=z00 h
   obtain⟨_,_,h⟩:=z00 h
   split at h<;>cases h
  ·exfalso
   obtain⟨_,_,h⟩:=z00 h
   obtain⟨_,_,h⟩:=z00 h
   obtain⟨_,_,h⟩:=z00 h
   split at h<;>cases h
  ·exfalso
   obtain⟨_,_,h⟩:=z00 h
   obtain⟨_,_,h⟩:=z00 h
   obtain⟨_,_,h⟩:=z00 h
   split at h
   ·obtain⟨_,_,h⟩:=z00 h
    obtain⟨_,_,h⟩:=z00 h
    split at h<;>cases h
   ·cases h
  ·exfalso
   obtain⟨_,_,h⟩:=z00 h
   split at h
   ·obtain⟨_,_,h⟩:=z00 h
    split at h
    ·obtain⟨_,_,h⟩:=z00 h
     split at h<;>cases h
    ·cases h
   ·split at h
    ·obtain⟨_,_,h⟩:=z0h h
     cases h
    ·cases h
   ·split at h
    ·obtain⟨_,_,h⟩:=z00 h
     obtain⟨_,_,h⟩:=z00 h
     split at h
     ·cases h
     ·obtain⟨_,_,h⟩:=z00 h
      split at h<;>cases h
    ·cases h
  ·exfalso
   obtain⟨_,_,h⟩:=z00 h
   split at h
   ·obtain⟨_,_,h⟩:=z0h h
    cases h
   ·cases h
  ·exfalso
   obtain⟨_,_,h⟩:=z00 h
   obtain⟨_,_,h⟩:=z00 h
   split at h
   ·obtain⟨_,_,h⟩:=z00 h
    split at h<;>cases h
   ·cases h
  ·exfalso
   exact zgg h
  ·exfalso
   cases h
 ·cases h
theorem yge {C:Ctx}{o:Oper}{X:XF Unit}{d n sz:Nat}{x:Operand}(ho:o.op=.move x∨o.op=.assign x)(hd:o.dst=some d)(hlt:d < C.nt)(hin:z0r C.nt o=true)(hc:compOd C.nt sz x=some (.t n))(hne:d ≠ n) :
  OpOk C o X ((X.set (100 * d) (X (100 * n)).2).set (100 * n) .non) :=
 wh hd hlt hin fun XL β I rg w he R=>by
  subst he
  have hx:x=.tmp n:=by
   cases x with
   | tmp t =>
    simp only[compOd] at hc
    split at hc
    ·simp only[pe,COd.t.injEq] at hc;rw[hc]
    ·cases hc
   | const v=>simp only[compOd] at hc;split at hc<;>cases hc
   | func f=>cases hc
   | global g=>cases hc
  subst hx
  have R1:=R.moveR d n (by have:=C.hnt;omega) hne
  refine⟨rg n,w,_,β,I,_,?_,?_,R1,by simp,fun t h1 _=>by simp[h1]⟩
  ·rcases ho with ho | ho<;>simp [execOp,ho,evR]
  ·rw[z03,z03];rfl
theorem n6 {P:Program}{nt:Nat}{L:SL}{K:SL→Prop}{l:List COp}{rest:List Sg}{d n:Nat}(hne:d ≠ n)(h:RL P nt (.o l :: rest) (z0l (z0l L (100 * d) (fnL L (100 * n)).2) (100 * n) .non) K):RL P nt (.o (.mov d (.t n) :: l) :: rest) L K :=
 RL.cons (it:=.op none (.mov d (.t n))) (rest:=.o l :: rest) (by simp[z21]) (fun C ops i o hP hn hi hit=>by
  obtain⟨h1,h2,h3⟩:=z6z hit
  subst hP hn
  obtain⟨hin,x,hop,sz,hx⟩:=zpf h2
  rcases h3 with ⟨_,_,_,e,_⟩ | ⟨h4,h5,_⟩
  ·cases e
  ·have:=yge (X:=fnL L) hop h4 h5 hin hx hne
   rw[z07,z07] at this
   exact SOk.op hi (z1n h1) this) h
theorem zgh {P:Program}{nt:Nat}{o:Oper}{c:Call}{d n:Nat}(h:z5g P nt o c=some (.box d (.t n))):False:=by
 unfold z5g at h
 obtain⟨d',_,h⟩:=z00 h
 split at h
 ·obtain⟨c,_,h⟩:=z00 h
  split at h<;>cases h
 ·obtain⟨c,_,h⟩:=z00 h
  obtain⟨b,_,h⟩:=z0h h
  cases h
 ·obtain⟨c,_,h⟩:=z00 h
  obtain⟨b,_,h⟩:=z0h h
  cases h
 ·obtain⟨c,_,h⟩:=z00 h
  obtain⟨b,_,h⟩:=z00 h
  split at h
  ·split at h
   ·obtain⟨i,_,h⟩:=z00 h
    obtain⟨z,_,h⟩:=z00 h
    split at h<;>cases h
   ·cases h
  ·cases h
 ·obtain⟨c,_,h⟩:=z00 h
  obtain⟨b,_,h⟩:=z00 h
  split at h
  ·obtain⟨i,_,h⟩:=z00 h
   split at h<;>cases h
  ·cases h
 ·cases h
theorem zpg {P:Program}{nt:Nat}{here:List Nat}{o:Oper}{d n:Nat}(h:zav P nt here o=some (.box d (.t n))):z0r nt o=true∧∃ e x,o.op=.box e x∧compOd nt 0 x=some (.t n):=by
 unfold zav at h
 split at h
 ·rename_i hc
  refine⟨hc.1,?_⟩
  split at h
  ·exfalso
   obtain⟨_,_,h⟩:=z00 h
   obtain⟨_,_,h⟩:=z0h h
   cases h
  ·exfalso
   obtain⟨_,_,h⟩:=z00 h
   obtain⟨_,_,h⟩:=z0h h
   split at h
   ·split at h<;>cases h
   ·cases h
  ·exfalso
   obtain⟨_,_,h⟩:=z00 h
   obtain⟨_,_,h⟩:=z0h h
   cases h
  ·exfalso
   obtain⟨_,_,h⟩:=z00 h
   obtain⟨_,_,h⟩:=z00 h
   obtain⟨_,_,h⟩:=z00 h
   obtain⟨_,_,h⟩:=z0h h
   cases h
  ·exfalso
   obtain⟨_,_,h⟩:=z00 h
   obtain⟨_,_,h⟩:=z0h h
   cases h
  ·exfalso
   obtain⟨_,_,h⟩:=z00 h
   obtain⟨_,_,h⟩:=z00 h
   split at h
   ·cases h
   ·split at h
    ·cases h
    ·obtain⟨_,_,h⟩:=z00 h
     split at h
     ·split at h
      ·cases h
      ·split at h<;>cases h
     ·cases h
  ·exfalso
   obtain⟨_,_,h⟩:=z00 h
   obtain⟨_,_,h⟩:=z00 h
   split at h
   ·cases h
   ·split at h<;>cases h
   ·split at h
    ·split at h<;>cases h
    ·cases h
   ·split at h<;>cases h
   ·cases h
  ·exfalso
   obtain⟨_,_,h⟩:=z00 h
   obtain⟨_,_,h⟩:=z00 h
   obtain⟨_,_,h⟩:=z00 h
   obtain⟨_,_,h⟩:=z00 h
   split at h<;>cases h
  ·exfalso
   obtain⟨_,_,h⟩:=z00 h
   obtain⟨_,_,h⟩:=z00 h
   split at h
   ·obtain⟨_,_,h⟩:=z00 h
    obtain⟨_,_,h⟩:=z00 h
    split at h<;>cases h
   ·cases h
  ·exfalso
   obtain⟨_,_,h⟩:=z00 h
   obtain⟨_,_,h⟩:=z00 h
   obtain⟨_,_,h⟩:=z00 h
   split at h
   ·obtain⟨_,_,h⟩:=z0h h
    cases h
   ·obtain⟨_,_,h⟩:=z0h h
    cases h
   ·cases h
  ·exfalso
   obtain⟨_,_,h⟩:=z00 h
   obtain⟨_,_,h⟩:=z00 h
   obtain⟨_,_,h⟩:=z00 h
   obtain⟨_,_,h⟩:=z00 h
   split at h
   ·obtain⟨_,_,h⟩:=z0h h
    cases h
   ·cases h
   ·cases h
  ·exfalso
   obtain⟨_,_,h⟩:=z00 h
   obtain⟨_,_,h⟩:=z00 h
   obtain⟨_,_,h⟩:=z00 h
   split at h<;>cases h
  ·exfalso
   split at h
   ·obtain⟨_,_,h⟩:=z00 h
    obtain⟨_,_,h⟩:=z00 h
    obtain⟨_,_,h⟩:=z0h h
    cases h
   ·cases h
  ·exfalso
   obtain⟨_,_,h⟩:=z0h h
   cases h
  ·rename_i e x hop
   obtain⟨d',_,h⟩:=z00 h
   obtain⟨c,hx,h⟩:=z0h h
   cases h
   exact⟨e,x,hop,hx⟩
  ·exfalso
   obtain⟨_,_,h⟩:=z00 h
   obtain⟨_,_,h⟩:=z00 h
   split at h<;>cases h
  ·exfalso
   obtain⟨_,_,h⟩:=z00 h
   obtain⟨_,_,h⟩:=z00 h
   obtain⟨_,_,h⟩:=z00 h
   split at h<;>cases h
  ·exfalso
   obtain⟨_,_,h⟩:=z00 h
   obtain⟨_,_,h⟩:=z00 h
   obtain⟨_,_,h⟩:=z00 h
   split at h
   ·obtain⟨_,_,h⟩:=z00 h
    obtain⟨_,_,h⟩:=z00 h
    split at h<;>cases h
   ·cases h
  ·exfalso
   obtain⟨_,_,h⟩:=z00 h
   split at h
   ·obtain⟨_,_,h⟩:=z00 h
    split at h
    ·obtain⟨_,_,h⟩:=z00 h
     split at h<;>cases h
    ·cases h
   ·split at h
    ·obtain⟨_,_,h⟩:=z0h h
     cases h
    ·cases h
   ·split at h
    ·obtain⟨_,_,h⟩:=z00 h
     obtain⟨_,_,h⟩:=z00 h
     split at h
     ·cases h
     ·obtain⟨_,_,h⟩:=z00 h
      split at h<;>cases h
    ·cases h
  ·exfalso
   obtain⟨_,_,h⟩:=z00 h
   split at h
   ·obtain⟨_,_,h⟩:=z0h h
    cases h
   ·cases h
  ·exfalso
   obtain⟨_,_,h⟩:=z00 h
   obtain⟨_,_,h⟩:=z00 h
   split at h
   ·obtain⟨_,_,h⟩:=z00 h
    split at h<;>cases h
   ·cases h
  ·exfalso
   exact zgh h
  ·exfalso
   cases h
 ·cases h
section
variable {C:Ctx} {X:XF LO} {β:Nat→Nat × Nat} {I:z12} {rg:Nat→Value} {w:World}
theorem zln (R:RelL C X β I rg w)(d:Nat)(hd:d < 10000)(e:TypeId)(cs:List AL)(xs:List Value)(hV:(X (100 * H)).2=.agg cs∨(cs=[(X (100 * H)).2]∧z0q (X (100 * H)).2=true))(ht:∀ c ∈ cs,z0q c=true∨zhc c=true)
  (hx:(rg H).cells.toList=xs) :
  RelL C (((X.box d cs).set (100 * H) .non).set (100 * d) (.bptr d ((X (100 * d+99)).1+1) 0)) (fun j=>if j=d then (w.heap.size,0) else β j) I
   (fun s=>if s=d then .pointer (some ⟨w.heap.size,0,none⟩) else rg s) { w with heap:=w.heap.push (.cells xs.toArray e (0,0)) }:=by
 have hk:=R.key (100 * H)
 have hr:=R.reg H
 have hfacts:(∀ b o,fpL cs b o→fp (X (100 * H)).2 b o)∧z2l w I cs∧z76 cs∧cs.length=xs.length∧∀ (i:Nat) (c:AL) (x:Value),cs[i]?=some c→xs[i]?=some x→RR X β c x:=by
  have hm:=hk.mem
  have hs:=hk.sep
  rcases hV with hV | ⟨hV,h'⟩
  ·rw[hV] at hm hs hr ⊢
   simp only[Mem] at hm
   simp only[Sep] at hs
   simp only[RR] at hr
   obtain⟨ys,hys,hRL⟩:=hr
   rw[hys] at hx
   simp only[Value.cells] at hx
   subst hx
   exact⟨fun b o h=>by simpa [fp] using h,hm,hs,by simpa using (z0u.1 hRL).1,(z0u.1 hRL).2⟩
  ·have hcr:=z2u h' hr
   rw[z2e (z1j h' hcr)] at hx
   simp only at hx
   subst hx hV
   refine⟨fun b o h=>by simpa [fpL] using h,by simp only[z2l];exact⟨hm,trivial⟩,by simp only[z76];exact⟨hs,trivial,fun _ _ _ h=>by simp[fpL] at h⟩,rfl,fun i c x hc hx=>?_⟩
   cases i with
   | zero=>simp at hc hx;subst hc hx;exact hr
   | succ i=>simp at hc
 obtain⟨f1,f2,f3,f4,f5⟩:=hfacts
 have R1:=R.newbox d H hd e cs xs f1 f2 f3 f4 (fun i c x hc hx=>(ht c (pj hc)).imp (fun h=>z2u h (f5 i c x hc hx)) fun h=>⟨h,f5 i c x hc hx⟩)
 refine R1.setR d hd rfl (by simp[Mem]) ?_
 simp only[RR]
 have hg:((X.box d cs).set (100 * H) .non (100 * d+99)).1=(X (100 * d+99)).1+1:=by
  rw[w9 _ _ (by unfold H;omega)]
  simp only[XF.box]
  rw[if_pos ⟨by omega,by omega⟩,if_pos (by omega)]
 rw[hg]
 exact⟨pr _,fun _=>by simp⟩
end
theorem y01 {C:Ctx}{o:Oper}{X:XF Unit}{d n:Nat}{e:TypeId}{x:Operand}{vs:List AU}(ho:o.op=.box e x)(hd:o.dst=some d)(hlt:d < C.nt)(hin:z0r C.nt o=true)(hnt:C.nt≤H)
  (hc:compOd C.nt 0 x=some (.t n)) (hv:(X (100 * n)).2=.agg vs) (hno:z0n vs=true) (hall:vs.all (fun v=>z0q v || zhc v)=true):OpOk C o X (z5w X d vs) :=
 wh hd hlt hin fun XL β I rg w he R=>by
  subst he
  have hx:x=.tmp n∧n < C.nt:=by
   cases x with
   | tmp t =>
    simp only[compOd] at hc
    split at hc
    ·rename_i h;simp only[pe,COd.t.injEq] at hc;subst hc;exact⟨rfl,h⟩
    ·cases hc
   | const v=>simp only[compOd] at hc;split at hc<;>cases hc
   | func f=>cases hc
   | global g=>cases hc
  obtain⟨rfl,hnlt⟩:=hx
  obtain⟨lvs,hx,hl⟩:=z79 (lv:=(XL (100 * n)).2) hv
  have hd1:d < 10000:=by unfold H at hnt;omega
  have hmem:=(R.key (100 * n)).mem
  have hreg:=R.reg n
  rw[hx] at hmem hreg
  have hnoL:z0a (.agg lvs:AL)=true:=by
   rw[← z5c]
   simp only[er,z0f,hl,z0a,hno]
  have R0:=R.setR H (by decide) hnoL hmem hreg
  have R2:=zln R0 d hd1 e lvs (rg n).cells.toList (.inl (by rw[wa])) (fun c hc=>by
   rw[qe] at hall
   have:=hall (er c) (by rw[← hl];exact s9 hc)
   simp only[qp] at this
   rcases this with h | h
   ·exact .inl (by rw[← z2t];exact h)
   ·right
    cases c<;>simp [er,zhc] at h<;>rfl) (by simp)
  refine⟨.pointer (some ⟨w.heap.size,0,none⟩),{ w with heap:=w.heap.push (.cells (rg n).cells.toList.toArray e (0,0)) },_,_,_,_,?_,?_,R2,by simp,fun t ht1 ht2=>by simp only[if_neg ht1];rw[if_neg (by unfold H at hnt ⊢;omega)]⟩
  ·simp only[execOp,ho,evR,Instr.box,newVar,newRow,newObj,qk,s4,Sem.run]
   simp
  ·rw[z03,z03,zdc,z03]
   simp only[z5w,zl1,er,z0f,hl]
   congr 2
   rw[w9 _ _ (by unfold H;omega)];rfl
theorem zlo {L:SL}{d:Nat}{vs:List AU}(h:vs.length≤98):z5w (fnL L) d vs=fnL (z7p (zc5 d vs (z0l L (100 * H) (.agg vs))) d ((fnL L (100 * d+99)).1+1)) :=
 zfq (by unfold zco;rw[if_pos h])
theorem ng {P:Program}{nt:Nat}{L:SL}{K:SL→Prop}{l:List COp}{rest:List Sg}{d n:Nat}{vs:List AU}(hv:(fnL L (100 * n)).2=.agg vs)(hno:z0n vs=true)(hall:vs.all (fun v=>z0q v || zhc v)=true)(hlen:vs.length≤98)
  (h:RL P nt (.o l :: rest) (z7p (zc5 d vs (z0l L (100 * H) (.agg vs))) d ((fnL L (100 * d+99)).1+1)) K):RL P nt (.o (.box d (.t n) :: l) :: rest) L K :=
 RL.cons (it:=.op none (.box d (.t n))) (rest:=.o l :: rest) (by simp[z21]) (fun C ops i o hP hn hi hit=>by
  obtain⟨h1,h2,h3⟩:=z6z hit
  subst hP hn
  obtain⟨hin,e,x,hop,hx⟩:=zpg h2
  rcases h3 with ⟨_,_,_,e,_⟩ | ⟨h4,h5,_⟩
  ·cases e
  ·have hnt:C.nt≤H:=by have:=C.hnt;unfold H;omega
   have:=y01 (X:=fnL L) hop h4 h5 hin hnt hx hv hno hall
   rw[zlo hlen] at this
   exact SOk.op hi (z1n h1) this) h
section
variable {P:Program} {nt:Nat} {L:SL}
theorem zgi {k j:Nat}(h:z14 k=z14 j):k=j:=by
 unfold z14 at h
 split at h<;>split at h<;>omega
theorem za1 {X:XF Unit}{k:Nat}:∀ {zs:List ((Nat × List Nat) × Gh Unit)},(∀ e ∈ zs,e.1.1 ≠ k)→z26 X zs k=X k
 | [],_=>rfl
 | e :: l,h=>by
  rw[z26,w9 _ _ (fun e'=>h e rn e'.symm)]
  exact za1 fun e' he'=>h e' (qd _ he')
theorem zgj {X Y:XF Unit}:∀ {zs:List ((Nat × List Nat) × Gh Unit)},(∀ e ∈ zs,X e.1.1=Y e.1.1)→∀ k,X k=Y k→z26 X zs k=z26 Y zs k
 | [],_,k,hk=>hk
 | e :: l,h,k,hk=>by
  have ih:=zgj (zs:=l) fun e' he'=>h e' (qd _ he')
  simp only[z26]
  by_cases hke:k=e.1.1
  ·subst hke
   have h1:=ih e.1.1 hk
   simp only[XF.set,if_true,hk,h1]
  ·rw[w9 _ _ hke,w9 _ _ hke]
   exact ih k hk
theorem zk2 {X Y:XF Unit}:∀ {ls:List (Nat × List Nat)},(∀ e ∈ ls,X e.1=Y e.1)→ls.mapM (z9u X)=ls.mapM (z9u Y)
 | [],_=>rfl
 | e :: l,h=>by
  simp only[List.mapM_cons]
  rw[zk2 fun e' he'=>h e' (qd _ he')]
  have:z9u X e=z9u Y e:=by simp only[z9u,h e rn]
  rw[this]
end
def zc8 {L:Type}(X:XF L)(b:Nat):Nat→XF L
 | 0=>X
 | n+1=>(zc8 X b n).set (100 * b+1+n) .non
theorem z8s {L:Type}(X:XF L)(b:Nat):∀ (n k:Nat),zc8 X b n k=if 100 * b+1≤k∧k < 100 * b+1+n then (nx (X k),.non) else X k
 | 0,k=>by rw[if_neg (by omega)];rfl
 | n+1,k=>by
  simp only[zc8,XF.set]
  by_cases h:k=100 * b+1+n
  ·subst h
   rw[if_pos rfl,if_pos (by omega),z8s X b n,if_neg (by omega)]
  ·rw[if_neg h,z8s X b n]
   by_cases h':100 * b+1≤k∧k < 100 * b+1+n
   ·rw[if_pos h',if_pos (by omega)]
   ·rw[if_neg h',if_neg (by omega)]
theorem z8t (X:XF LO) (β:Nat→Nat × Nat)(b:Nat):∀ n,Keeps X (zc8 X b n) β β
 | 0=>Keeps.refl X β
 | n+1=>(z8t X β b n).trans (z05 _ β _ _)
theorem ze9 (X:XF LO)(b:Nat):∀ n,erF (zc8 X b n)=zc8 (erF X) b n
 | 0=>rfl
 | n+1=>by simp only[zc8];rw[z03,ze9 X b n];rfl
section
variable {C:Ctx} {X:XF LO} {β:Nat→Nat × Nat} {I:z12} {rg:Nat→Value} {w:World}
theorem RelL.up (R:RelL C X β I rg w)(b:Nat)(hb:b < 10000)(hr:(X (100 * b)).2=.bptr b (X (100 * b+99)).1 0)(cs:List AL)(hn:cs.length≤98)
  (hcs:∀ i c,cs[i]?=some c→(X (100 * b+1+i)).2=c∧z0q c=true) :
  RelL C ((zc8 X b cs.length).set (100 * b) (.bx true (some ⟨(β b).1,(β b).2,0⟩) cs)) β I rg w:=by
 have hc:∀ i,i < cs.length→∃ c,cs[i]?=some c∧(X (100 * b+1+i)).2=c∧z0q c=true∧c ≠ .non∧z2c (100 * b+1+i)∧(100 * b+1+i) / 100=b∧(100 * b+1+i) % 100 - 1=i:=by
  intro i hi
  obtain⟨h1,h2⟩:=hcs i _ (pi hi)
  refine⟨_,pi hi,h1,h2,fun e=>?_,⟨by omega,by omega⟩,by omega,by omega⟩
  rw[e] at h2;simp[z0q] at h2
 have hat:∀ i c,cs[i]?=some c→(∃ y,w.at (β b).1 ((β b).2+i)=some y∧CR c y)∧¬ fp c (β b).1 ((β b).2+i)∧Mem w I c∧Sep c:=by
  intro i c hi
  obtain⟨c',h1,h2,h3,h4,h5,h6,h7⟩:=hc i (pk.1 hi).1
  rw[hi] at h1
  cases h1
  have hk:=R.key (100 * b+1+i)
  obtain⟨⟨y,hy,hx⟩,hnf⟩:=hk.cell h5 (by rw[h2];exact h4)
  rw[h6,h7] at hy hnf
  rw[h2] at hx hnf
  exact⟨⟨y,hy,hx.cr (by cases c<;>simp [z0q] at h3<;>rfl)⟩,hnf,by rw[← h2];exact hk.mem,by rw[← h2];exact hk.sep⟩
 have haddr:∀ i,i < cs.length→kfp β X (100 * b+1+i) (β b).1 ((β b).2+i):=by
  intro i hi
  obtain⟨c,h1,h2,h3,h4,h5,h6,h7⟩:=hc i hi
  exact .inr ⟨h5,by rw[h2];exact h4,by rw[h6],by rw[h6,h7]⟩
 have hin:∀ i c,cs[i]?=some c→∀ b' o',fp c b' o'→kfp β X (100 * b+1+i) b' o':=by
  intro i c hi b' o' h
  left
  rw[(hcs i c hi).1];exact h
 have hfp:∀ b' o',fp (.bx true (some ⟨(β b).1,(β b).2,0⟩) cs) b' o'→∃ i,i < cs.length∧kfp β X (100 * b+1+i) b' o':=by
  intro b' o' h
  simp only[fp] at h
  rcases h with ⟨rfl,h1,h2⟩ | h
  ·refine⟨o' - (β b).2,by omega,?_⟩
   have:=haddr (o' - (β b).2) (by omega)
   rwa [show (β b).2+(o' - (β b).2)=o' by omega] at this
  ·obtain⟨c,hc',hcb⟩:=z04.1 h
   obtain⟨i,hi⟩:=pq hc'
   exact⟨i,(pk.1 hi).1,hin i c hi _ _ hcb⟩
 have hself:((zc8 X b cs.length).set (100 * b) (.bx true (some ⟨(β b).1,(β b).2,0⟩) cs) (100 * b)).2=.bx true (some ⟨(β b).1,(β b).2,0⟩) cs:=by rw[wa]
 have hoth:∀ k,100 * b+1≤k∧k < 100 * b+1+cs.length→((zc8 X b cs.length).set (100 * b) (.bx true (some ⟨(β b).1,(β b).2,0⟩) cs) k).2=.non:=by
  intro k hk
  rw[w9 _ _ (by omega),z8s,if_pos hk]
 have hK:Keeps X ((zc8 X b cs.length).set (100 * b) (.bx true (some ⟨(β b).1,(β b).2,0⟩) cs)) β β:=(z8t X β b _).trans (z05 _ β _ _)
 refine R.change (fun k=>k=100 * b∨(100 * b+1≤k∧k < 100 * b+1+cs.length)) (fun k hk=>?_) hK (fun _ _ _=>.inl rfl) (fun _ _=>rfl) (fun _ _=>rfl) (fun t ht=>?_) (fun k hk=>?_) (fun k k' hk hk' hne b' o' h1 h2=>?_) (fun k hk b' o' h=>?_)
  (fun _ _ h=>h) (fun _ _ h=>.inl h) ((Frame.refl _ w).mono fun _ _ _ h=>h)
 ·rw[w9 _ _ (fun e=>hk (.inl e)),z8s,if_neg (fun e=>hk (.inr e))]
 ·have e:t=b:=by omega
  subst e
  rw[hself]
  have:=R.reg t
  rw[hr] at this
  simp only[RR] at this
  have h2:=this.2 trivial
  simp only[RR,CR]
  simpa using h2
 ·rcases hk with rfl | hk
  ·refine⟨?_,?_,fun h=>absurd h.1 (by omega),fun b' o' h=>?_,fun h=>by omega⟩
   ·rw[hself]
    simp only[Mem]
    exact z0e.2 fun i c hi=>⟨(hat i c hi).1,(hat i c hi).2.2.1,by simp⟩
   ·rw[hself]
    simp only[Sep]
    refine⟨fun i hi hbad=>?_,z09.2 ⟨fun c hc'=>?_,fun i j u v hij hu hv b' o' g1 g2=>?_⟩⟩
    ·obtain⟨c,hc',hcb⟩:=z04.1 hbad
     obtain⟨i',hi'⟩:=pq hc'
     by_cases hii:i=i'
     ·subst hii;exact (hat i c hi').2.1 hcb
     ·exact R.disj (100 * b+1+i) (100 * b+1+i') (by omega) _ _ (haddr i hi) (hin i' c hi' _ _ hcb)
    ·obtain⟨i',hi'⟩:=pq hc'
     exact (hat i' c hi').2.2.2
    ·exact R.disj (100 * b+1+i) (100 * b+1+j) (by omega) b' o' (hin i u hu _ _ g1) (hin j v hv _ _ g2)
   ·rcases h with h | ⟨h,_⟩
    ·rw[hself] at h
     obtain⟨i,_,hi⟩:=hfp _ _ h
     exact (R.key _).live _ _ hi
    ·exact absurd h.1 (by omega)
  ·have h0:=hoth k hk
   refine⟨by rw[h0];simp[Mem],by rw[h0];simp[Sep],fun _ h=>absurd h0 h,fun b' o' h=>?_,fun _=>h0⟩
   rcases h with h | ⟨_,h,_⟩
   ·rw[h0] at h;simp[fp] at h
   ·exact absurd h0 h
 ·have only:∀ k,(k=100 * b∨(100 * b+1≤k∧k < 100 * b+1+cs.length))→kfp β ((zc8 X b cs.length).set (100 * b) (.bx true (some ⟨(β b).1,(β b).2,0⟩) cs)) k b' o'→k=100 * b:=by
   intro k hk h
   rcases hk with e | hk
   ·exact e
   ·have h0:=hoth k hk
    rcases h with h | ⟨_,h,_⟩
    ·rw[h0] at h;simp[fp] at h
    ·exact absurd h0 h
  exact hne ((only k hk h1).trans (only k' hk' h2).symm)
 ·rcases hk with rfl | hk
  ·rcases h with h | ⟨h,_⟩
   ·rw[hself] at h
    obtain⟨i,hi,hi'⟩:=hfp _ _ h
    exact .inl ⟨_,.inr ⟨by omega,by omega⟩,hi'⟩
   ·exact absurd h.1 (by omega)
  ·have h0:=hoth k hk
   rcases h with h | ⟨_,h,_⟩
   ·rw[h0] at h;simp[fp] at h
   ·exact absurd h0 h
end
theorem RelT.up {C:Ctx}{X:XF Unit}{tm:Array Value}{w:World}(h:RelT C X tm w)(b:Nat)(hb:b < 10000)(hr:(X (100 * b)).2=.bptr b (X (100 * b+99)).1 0)(cs:List AU)(hn:cs.length≤98)
  (hcs:∀ i c,cs[i]?=some c→(X (100 * b+1+i)).2=c∧z0q c=true):RelT C ((zc8 X b cs.length).set (100 * b) (.bx true () cs)) tm w:=by
 obtain⟨XL,β,I,rg,he,R,hs,ht⟩:=h
 subst he
 have hr':(XL (100 * b)).2=.bptr b (XL (100 * b+99)).1 0:=by
  simp only[erF] at hr
  revert hr
  cases (XL (100 * b)).2<;>simp [er]
 have hget:∀ i c,((List.range cs.length).map fun i=>(XL (100 * b+1+i)).2)[i]?=some c→i < cs.length∧c=(XL (100 * b+1+i)).2:=by
  intro i c hc
  have hi:i < cs.length:=by
   have:=(pk.1 hc).1
   simpa using this
  simp[hi] at hc
  exact⟨hi,hc.symm⟩
 have R':=R.up b hb hr' ((List.range cs.length).map fun i=>(XL (100 * b+1+i)).2) (by simpa using hn) (fun i c hc=>by
  obtain⟨hi,rfl⟩:=hget i c hc
  refine⟨rfl,?_⟩
  obtain⟨h1,h2⟩:=hcs i _ (pi hi)
  rw[← z2t]
  have h1':er (XL (100 * b+1+i)).2=cs[i]:=h1
  rw[h1'];exact h2)
 rw[show ((List.range cs.length).map fun i=>(XL (100 * b+1+i)).2).length=cs.length by simp] at R'
 refine⟨_,β,_,rg,?_,R',hs,ht⟩
 rw[z03,ze9]
 congr 1
 simp only[er,z0f,rr]
 congr 1
 apply rf
 intro i
 by_cases hi:i < cs.length
 ·have h1:er (XL (100 * b+1+i)).2=cs[i]:=(hcs i _ (pi hi)).1
  simp[hi,h1]
 ·rw[qi (by simpa using Nat.le_of_not_lt hi),qi (by omega:cs.length≤i)]
def zlp (L:SL)(b:Nat):Nat→SL
 | 0=>L
 | n+1=>z0l (zlp L b n) (100 * b+1+n) .non
theorem zea (L:SL)(b:Nat):∀ n,zc8 (fnL L) b n=fnL (zlp L b n)
 | 0=>rfl
 | n+1=>by simp only[zc8,zlp];rw[zea L b n,z07]
attribute [simp] zlp
theorem z8u {X:XF Unit}{b:Nat}:∀ (n i j:Nat) (c:AU),(z0s X b i n)[j]?=some c→(X (100 * b+1+(i+j))).2=c
 | 0,i,j,c,h=>by simp[z0s] at h
 | n+1,i,j,c,h=>by
  have key:∀ v:AU,(X (100 * b+1+i)).2=v→(v :: z0s X b (i+1) n)[j]?=some c→(X (100 * b+1+(i+j))).2=c:=by
   intro v hv h
   cases j with
   | zero =>
    simp at h
    show (X (100 * b+1+i)).2=c
    rw[hv,h]
   | succ j =>
    have:=z8u n (i+1) j c (by simpa using h)
    rwa [show i+1+j=i+(j+1) by omega] at this
  simp only[z0s] at h
  split at h
  all_goals first | (simp at h;done) | skip
  exact key _ rfl h
section
variable {P:Program} {nt:Nat} {L:SL} {Q:Ex→SL→Prop}
def upL (L:SL)(b:Nat)(cs:List AU):SL:=z0l (zlp L b cs.length) (100 * b) (.bx true () cs)
attribute [simp] upL
theorem RelT.upL {C:Ctx}{tm:Array Value}{w:World}(h:RelT C (fnL L) tm w)(b n:Nat)(cs:List AU)(hb:b < 10000)(hr:(fnL L (100 * b)).2=.bptr b (fnL L (100 * b+99)).1 0)(hn:n≤98)
  (hcs:z0s (fnL L) b 0 n=cs) (ht:cs.all z0q=true):RelT C (fnL (upL L b cs)) tm w:=by
 have hlen:cs.length≤n:=by
  rw[← hcs]
  have:∀ m i,(z0s (fnL L) b i m).length≤m:=by
   intro m
   induction m with
   | zero=>intro i;simp[z0s]
   | succ m ih=>intro i;simp only[z0s];split<;>simp [ih]
  exact this n 0
 have:=h.up b hb hr cs (by omega) (fun i c hi=>⟨by
  rw[← hcs] at hi
  have:=z8u n 0 i c hi
  rwa [sy] at this,qe.1 ht c (pj hi)⟩)
 rw[zea,z07] at this
 exact this
theorem RL.raise {K:SL→Prop}{segs:List Sg}(b n:Nat){cs:List AU}(hr:(fnL L (100 * b)).2=.bptr b (fnL L (100 * b+99)).1 0)(hcs:z0s (fnL L) b 0 n=cs)(ht:cs.all z0q=true)
  (h:RL P nt segs (upL L b cs) K) (hb:b < 10000:=by decide) (hn:n≤98:=by decide):RL P nt segs L K:=by
 intro C ops idx hP hnt hc a w Q hd hR hK
 exact h C ops idx hP hnt hc a w Q hd (hR.upL b n cs hb hr hn hcs ht) hK
theorem WL.raise {cc:Cd}(b n:Nat){cs:List AU}(hr:(fnL L (100 * b)).2=.bptr b (fnL L (100 * b+99)).1 0)(hcs:z0s (fnL L) b 0 n=cs)(ht:cs.all z0q=true)
  (h:WL P nt cc (upL L b cs) Q) (hb:b < 10000:=by decide) (hn:n≤98:=by decide):WL P nt cc L Q:=by
 intro C code hP hnt hc a w hd hR
 exact h C code hP hnt hc a w hd (hR.upL b n cs hb hr hn hcs ht)
end
mutual
/-- What refers to a key of the list refers to the whole. -/
def z4p {L:Type}(ks:List Nat):AV L→Bool
 | .view k _ p _ _=>!ks.contains k || p.isEmpty
 | .ptr k _ p _=>!ks.contains k || p.isEmpty
 | .agg cs=>z5n ks cs
 | .tuple cs=>z5n ks cs
 | .clos _ cs=>z5n ks cs
 | _=>true
def z5n {L:Type}(ks:List Nat):List (AV L)→Bool
 | []=>true
 | c :: cs=>z4p ks c && z5n ks cs
end
def noR {L:Type}(ks:List Nat):AV L→Bool
 | .view k _ _ _ _=>!ks.contains k
 | .ptr k _ _ _=>!ks.contains k
 | _=>true
def z4g {L:Type}:AV L→AV L→Bool
 | .sl true _ s n _,.sl true _ s' n' _=>decide (s=s') && decide (n=n')
 | .bx true _ _,.bx true _ _=>true
 | _,_=>false
def HdK (X X'':XF LO)(k:Nat):Prop:=∀ s l sz n,hd (X k).2=some (s,some l,sz,n)→∃ l',hd (X'' k).2=some (s,some l',sz,n)∧l'.b=l.b∧l'.o=l.o∧(s=true→l'=l)
def HdN (X X'':XF LO)(k:Nat):Prop:=∀ s sz n,hd (X k).2=some (s,none,sz,n)→hd (X'' k).2=some (s,none,sz,n)
mutual
theorem zph {X X' X'':XF LO} {β:Nat→Nat × Nat}{ks:List Nat}(hA:∀ k,ks.contains k=false→X'' k=X' k)(hB:∀ k,ks.contains k=true→(X'' k).1=(X k).1∧HdK X X'' k∧HdN X X'' k)(h99:∀ b,ks.contains (100 * b+99)=false) :
  ∀ (v' v:AL) (x:Value),er v=er v'→z4p ks v'=true→RR X β v x→RR X' β v' x→RR X'' β v' x
 | .view k g p off len,v,x,he,hr,h,h'=>by
  have hv:v=.view k g p off len:=by cases v<;>simp_all [er]
  subst hv
  by_cases hk:ks.contains k=true
  ·simp only[z4p,hk,Bool.not_true,b8,rk] at hr
   subst hr
   obtain⟨e1,e2,e3⟩:=hB k hk
   simp only[RR,z0o,po] at h ⊢
   rw[e1]
   refine⟨h.1,fun hg=>?_⟩
   obtain⟨l,sz,n,h1,h2⟩:=h.2 hg
   cases l with
   | none=>exact ⟨none,sz,n,e3 _ _ _ h1,h2⟩
   | some l =>
    obtain⟨l',q1,_,_,q4⟩:=e2 _ _ _ _ h1
    rw[q4 rfl] at q1
    exact⟨some l,sz,n,q1,h2⟩
  ·have hk':ks.contains k=false:=by simpa using hk
   simp only[RR] at h' ⊢
   rw[hA k hk'];exact h'
 | .ptr k g p i,v,x,he,hr,h,h'=>by
  have hv:v=.ptr k g p i:=by cases v<;>simp_all [er]
  subst hv
  by_cases hk:ks.contains k=true
  ·simp only[z4p,hk,Bool.not_true,b8,rk] at hr
   subst hr
   obtain⟨e1,e2,e3⟩:=hB k hk
   simp only[RR,z0o,po] at h ⊢
   rw[e1]
   refine⟨h.1,fun hg=>?_⟩
   obtain⟨s,l,sz,n,h1,h2⟩:=h.2 hg
   obtain⟨l',q1,q2,q3,_⟩:=e2 _ _ _ _ h1
   exact⟨s,l',sz,n,q1,by rw[h2,q2,q3]⟩
  ·have hk':ks.contains k=false:=by simpa using hk
   simp only[RR] at h' ⊢
   rw[hA k hk'];exact h'
 | .bptr b g i,v,x,he,hr,h,h'=>by
  simp only[RR] at h' ⊢
  rw[hA _ (h99 b)];exact h'
 | .agg cs',v,x,he,hr,h,h'=>by
  obtain⟨cs,rfl,hcs⟩:∃ cs,v=.agg cs∧erL cs=erL cs':=by cases v<;>simp_all [er]
  simp only[RR] at h h' ⊢
  obtain⟨xs,rfl,h1⟩:=h
  obtain⟨ys,e,h2⟩:=h'
  have:ys=xs:=by simpa using e.symm
  subst this
  exact⟨ys,rfl,za2 hA hB h99 cs' cs ys hcs (by simpa [z4p] using hr) h1 h2⟩
 | .tuple cs',v,x,he,hr,h,h'=>by
  obtain⟨cs,rfl,hcs⟩:∃ cs,v=.tuple cs∧erL cs=erL cs':=by cases v<;>simp_all [er]
  simp only[RR] at h h' ⊢
  obtain⟨xs,rfl,h1⟩:=h
  obtain⟨ys,e,h2⟩:=h'
  have:ys=xs:=by simpa using e.symm
  subst this
  exact⟨ys,rfl,za2 hA hB h99 cs' cs ys hcs (by simpa [z4p] using hr) h1 h2⟩
 | .clos f cs',v,x,he,hr,h,h'=>by
  obtain⟨cs,rfl,hcs⟩:∃ cs,v=.clos f cs∧erL cs=erL cs':=by cases v<;>simp_all [er]
  simp only[RR] at h h' ⊢
  obtain⟨xs,rfl,h1⟩:=h
  obtain⟨ys,e,h2⟩:=h'
  have:ys=xs:=by simpa using e.symm
  subst this
  exact⟨ys,rfl,za2 hA hB h99 cs' cs ys hcs (by simpa [z4p] using hr) h1 h2⟩
 | .vptr l cs,v,x,_,_,_,h'=>by simpa [RR] using h'
 | .non,_,_,_,_,_,_=>by simp[RR]
 | .dead,_,_,_,_,_,_=>by simp[RR]
 | .sc c,v,x,_,_,_,h'=>by simpa [RR] using h'
 | .sl o l s n cs,v,x,_,_,_,h'=>by simpa [RR] using h'
 | .bx o l cs,v,x,_,_,_,h'=>by simpa [RR] using h'
theorem za2 {X X' X'':XF LO} {β:Nat→Nat × Nat}{ks:List Nat}(hA:∀ k,ks.contains k=false→X'' k=X' k)(hB:∀ k,ks.contains k=true→(X'' k).1=(X k).1∧HdK X X'' k∧HdN X X'' k)(h99:∀ b,ks.contains (100 * b+99)=false) :
  ∀ (vs' vs:List AL) (xs:List Value),erL vs=erL vs'→z5n ks vs'=true→RRL X β vs xs→RRL X' β vs' xs→RRL X'' β vs' xs
 | [],vs,xs,_,_,_,h'=>by simpa [RRL] using h'
 | v' :: vs',[],xs,he,_,_,_=>by simp[erL] at he
 | v' :: vs',v :: vs,xs,he,hr,h,h'=>by
  simp only[erL,List.cons.injEq] at he
  simp only[z5n,pm] at hr
  simp only[RRL] at h h' ⊢
  obtain⟨y,ys,rfl,h1,h2⟩:=h
  obtain⟨z,zs,e,h3,h4⟩:=h'
  simp only[List.cons.injEq] at e
  obtain⟨rfl,rfl⟩:=e
  exact⟨y,ys,rfl,zph hA hB h99 v' v y he.1 hr.1 h1 h3,za2 hA hB h99 vs' vs ys he.2 hr.2 h2 h4⟩
end
mutual
theorem z80 (ks:List Nat):∀ v:AL,z4p ks (er v)=z4p ks v
 | .agg cs=>by simp only[er,z4p];exact z81 ks cs
 | .tuple cs=>by simp only[er,z4p];exact z81 ks cs
 | .clos _ cs=>by simp only[er,z4p];exact z81 ks cs
 | .sl _ _ _ _ _ | .bx _ _ _ | .sc _ | .view _ _ _ _ _ | .ptr _ _ _ _ | .bptr _ _ _ | .vptr _ _ | .dead | .non=>by simp[er,z4p]
theorem z81 (ks:List Nat):∀ vs:List AL,z5n ks (erL vs)=z5n ks vs
 | []=>rfl
 | v :: vs=>by simp only[erL,z5n,z80 ks v,z81 ks vs]
end
theorem zpi (ks:List Nat)(v:AL):noR ks (er v)=noR ks v:=by cases v<;>simp [er,noR]
theorem zpj {X X':XF LO} {β:Nat→Nat × Nat}{k:Nat}{y:Value}(hs:z4g (er (X k).2) (er (X' k).2)=true)(h:RR X β (X k).2 y)(h':RR X' β (X' k).2 y):HdK X X' k∧HdN X X' k:=by
 unfold HdK HdN
 revert hs h h'
 generalize (X k).2=v
 generalize (X' k).2=v'
 intro hs h h'
 cases v with
 | sl o l s n cs =>
  cases v' with
  | sl o' l' s' n' cs' =>
   cases o<;>cases o'<;>simp [er,z4g] at hs
   obtain⟨rfl,rfl⟩:=hs
   simp only[RR] at h h'
   refine⟨fun s1 l1 sz1 n1 e=>?_,fun s1 sz1 n1 e=>?_⟩
   ·simp only[hd,pe,qt] at e ⊢
    obtain⟨rfl,rfl,rfl,rfl⟩:=e
    simp only[CR] at h
    subst h
    cases l' with
    | none=>simp [CR] at h'
    | some l' =>
     simp only[CR,Value.slice.injEq,pe,Addr.mk.injEq] at h'
     have e:l'=l1:=by
      cases l';cases l1;simp at h';simp;omega
     exact⟨l',⟨rfl,rfl,rfl,rfl⟩,by rw[e],by rw[e],fun _=>e⟩
   ·simp only[hd,pe,qt] at e ⊢
    obtain⟨rfl,rfl,rfl,rfl⟩:=e
    simp only[CR] at h
    have hy:y=.slice none 0 0:=by
     rcases h.1 with h | h
     ·exact h
     ·cases h.1
    subst hy
    cases l' with
    | none=>exact ⟨rfl,rfl,rfl,rfl⟩
    | some l'=>simp [CR] at h'
  | _=>cases o<;>simp [er,z4g] at hs
 | bx o l cs =>
  cases v' with
  | bx o' l' cs' =>
   simp only[RR] at h h'
   refine⟨fun s1 l1 sz1 n1 e=>?_,fun s1 sz1 n1 e=>?_⟩
   ·simp only[hd,pe,qt] at e ⊢
    obtain⟨rfl,rfl,rfl,rfl⟩:=e
    simp only[CR] at h
    subst h
    cases l' with
    | none=>simp [CR] at h'
    | some l' =>
     simp only[CR,Value.pointer.injEq,pe,Addr.mk.injEq] at h'
     exact⟨l',⟨rfl,rfl,rfl,rfl⟩,h'.1.symm,h'.2.1.symm,fun e=>by cases e⟩
   ·simp only[hd,pe,qt] at e
    obtain⟨rfl,rfl,rfl,rfl⟩:=e
    simp[CR] at h
  | _=>simp [er,z4g] at hs
 | _=>simp [er,z4g] at hs
def z4h {L:Type}(ks:List Nat)(X M:XF L):XF L:=fun k=>if ks.contains k=true then ((X k).1,(M k).2) else M k
theorem zbl (ks:List Nat)(X M:XF LO):erF (z4h ks X M)=z4h ks (erF X) (erF M):=by
 funext k
 simp only[erF,z4h]
 split<;>rfl
theorem RelL.regen {C:Ctx}{X M:XF LO} {β:Nat→Nat × Nat}{I I':z12}{rg rg':Nat→Value}{w w':World}(R:RelL C X β I rg w)(R':RelL C M β I' rg' w')(ks:List Nat)(d:Nat)
  (h1:∀ k,ks.contains k=true→k % 100=0∧k ≠ 100 * d) (hrg:∀ t,t ≠ d→rg' t=rg t) (hd0:roots (M (100 * d)).2=[])
  (hsame:∀ k,ks.contains k=false→k ≠ 100 * d→er (X k).2=er (M k).2)
  (h2:∀ t,z4p ks (M (100 * t)).2=true) (h3:∀ k,z2c k→noR ks (M k).2=true) (h4:∀ k,ks.contains k=true→z4g (er (X k).2) (er (M k).2)=true):RelL C (z4h ks X M) β I' rg' w':=by
 have hsnd:∀ k,(z4h ks X M k).2=(M k).2:=fun k=>by simp only[z4h];split<;>rfl
 have hA:∀ k,ks.contains k=false→z4h ks X M k=M k:=fun k hk=>by simp only[z4h,hk];simp
 have hB:∀ k,ks.contains k=true→(z4h ks X M k).1=(X k).1∧HdK X (z4h ks X M) k∧HdN X (z4h ks X M) k:=by
  intro k hk
  refine⟨by simp only[z4h,hk,if_true],?_⟩
  obtain⟨e1,e2⟩:=h1 k hk
  have hkt:k=100 * (k / 100):=by omega
  have r1:=R.reg (k / 100)
  have r2:=R'.reg (k / 100)
  rw[← hkt] at r1 r2
  rw[hrg _ (by omega)] at r2
  have:=zpj (h4 k hk) r1 r2
  unfold HdK HdN at this ⊢
  rw[hsnd];exact this
 have h99:∀ b,ks.contains (100 * b+99)=false:=fun b=>by
  cases e:ks.contains (100 * b+99) with
  | false=>rfl
  | true=>have:=(h1 _ e).1;omega
 have hkfp:∀ k b o,kfp β (z4h ks X M) k b o ↔ kfp β M k b o:=fun k b o=>by simp only[kfp,hsnd]
 refine⟨fun t=>?_,fun k=>?_,fun k k' hne b o g1 g2=>R'.disj k k' hne b o ((hkfp _ _ _).1 g1) ((hkfp _ _ _).1 g2),fun b o h=>⟨(R'.imm b o h).1,fun k hk=>(R'.imm b o h).2 k ((hkfp _ _ _).1 hk)⟩,fun k b o h=>R'.frK k b o ((hkfp _ _ _).1 h),R'.frI,R'.frI0,R'.fr,R'.gh,R'.gr⟩
 ·rw[hsnd]
  have r2:=R'.reg t
  by_cases htd:t=d
  ·subst htd;exact z5e _ _ hd0 r2
  ·cases hk:ks.contains (100 * t) with
   | true =>
    have hn:=h4 _ hk
    revert r2 hn
    generalize (M (100 * t)).2=v
    intro r2 hn
    cases v with
    | sl o l s n cs=>simpa [RR] using r2
    | bx o l cs=>simpa [RR] using r2
    | _=>generalize er (X (100 * t)).2=z at hn;cases z<;>simp [er,z4g] at hn
   | false=>exact zph hA hB h99 _ _ _ (hsame _ hk (by omega)) (h2 t) (by rw[hrg t htd];exact R.reg t) r2
 ·have hk:=R'.key k
  refine⟨by rw[hsnd];exact hk.mem,by rw[hsnd];exact hk.sep,fun hc hn=>?_,fun b o h=>hk.live b o ((hkfp _ _ _).1 h),by rw[hsnd];exact hk.last⟩
  rw[hsnd] at hn ⊢
  obtain⟨⟨y,hy,hx⟩,hf⟩:=hk.cell hc hn
  refine⟨⟨y,hy,hx.imp id fun h=>⟨h.1,?_⟩⟩,hf⟩
  have hr:=h3 k hc
  obtain⟨hv,hrr⟩:=h
  revert hr hv hrr
  generalize (M k).2=v
  intro hr hv hrr
  cases v with
  | view k' g p off len =>
   simp only[noR,qm] at hr
   simp only[RR] at hrr ⊢
   rw[hA _ hr];exact hrr
  | ptr k' g p i =>
   simp only[noR,qm] at hr
   simp only[RR] at hrr ⊢
   rw[hA _ hr];exact hrr
  | bptr b g i =>
   simp only[RR] at hrr ⊢
   rw[hA _ (h99 b)];exact hrr
  | _=>simp [zhc] at hv
structure KeepOk (ks:List Nat) (d:Nat) (X M:XF Unit):Prop where
 k1:∀ k,ks.contains k=true→k % 100=0∧k ≠ 100 * d
 k2:∀ t,z4p ks (M (100 * t)).2=true
 k3:∀ k,z2c k→noR ks (M k).2=true
 k4:∀ k,ks.contains k=true→z4g (X k).2 (M k).2=true
theorem RelL.keep {C:Ctx}{XL XL2:XF LO} {β:Nat→Nat × Nat}{I I':z12}{rg rg':Nat→Value}{w w':World}(R:RelL C XL β I rg w)(R':RelL C XL2 β I' rg' w'){ls:List (Nat × List Nat)}{gs':List (Gh Unit)}{d:Nat}{r:AU}
  (hE:erF XL2=(z26 (erF XL) (ls.zip gs')).set (100 * d) r) (hrg:∀ t,t ≠ d→rg' t=rg t) (hr:roots r=[]) (hk:KeepOk (ls.map (·.1)) d (erF XL) ((z26 (erF XL) (ls.zip gs')).set (100 * d) r)) :
  ∃ XL3,erF XL3=z4h (ls.map (·.1)) (erF XL) ((z26 (erF XL) (ls.zip gs')).set (100 * d) r)∧RelL C XL3 β I' rg' w':=by
 have hM:∀ k,er (XL2 k).2=(((z26 (erF XL) (ls.zip gs')).set (100 * d) r) k).2:=fun k=>by rw[← hE];rfl
 refine⟨z4h (ls.map (·.1)) XL XL2,by rw[zbl,hE],R.regen R' _ d hk.k1 hrg ?_ (fun k hk1 hk2=>?_) (fun t=>?_) (fun k hc=>?_) (fun k hk1=>?_)⟩
 ·rw[← z69,hM,wa];exact hr
 ·rw[hM,w9 _ _ hk2,za1 (fun e he h=>?_)]
  ·rfl
  ·have:=(List.of_mem_zip (a:=e.1) (b:=e.2) he).1
   have hin:(ls.map (·.1)).contains k=true:=by
    rw[te,← h];exact s9 this
   rw[hin] at hk1;cases hk1
 ·rw[← z80,hM];exact hk.k2 t
 ·rw[← zpi,hM];exact hk.k3 k hc
 ·rw[hM];exact hk.k4 k hk1
theorem zsu {C:Ctx}{o:Oper}{X:XF Unit}{ls:List (Nat × List Nat)}{gs gs':List (Gh Unit)}{azs:List AU}{r:AU}{own:Bool}{d:Nat}{f:FuncId}{xs:Array Operand}{tys:Array TypeId}{ss:List Nat}{cs:List COd}
  (hdst:o.dst=some d) (hlt:d < C.nt) (hin:z0r C.nt o=true) (hop:o.op=.call ⟨.value (.func f),xs,tys⟩) (hcs:z3s C.nt ss xs.toList=some cs)
  (hgs:ls.mapM (z9u X)=some gs) (hnd:(ls.map (·.1)).Nodup) (has:z13 X ls own cs=some azs) (hlen:xs.size≤9000)
  (hrun:∀ args w,(callFunc f args).run C.P w=.ok (.enter f args) w) (hfn:Fn C.P f gs azs gs' r) (hok:z6j gs gs'=true) (himm:own=true→gs'.all z5o=true∧z17 r=true) (hroot:roots r=[]) (hkeep:KeepOk (ls.map (·.1)) d X ((z26 X (ls.zip gs')).set (100 * d) r)) :
  OpOk C o X (z4h (ls.map (·.1)) X ((z26 X (ls.zip gs')).set (100 * d) r)):=by
 rintro a w hdef ⟨XL,β,I,rg,he,R,hs,ht⟩ K Q hK
 subst he
 have L:=n5 R hgs hnd
 obtain⟨las,e1,e2,e3⟩:=z5y R (z6b R L own) ss xs.toList cs azs hcs has
 have hxs:las.length=xs.size:=by simpa using e2
 have hval:∀ t,t < las.length→(xs.map (evR rg)).getD t undef=evR rg (xs.toList.getD t (.const undef)):=by
  intro t htl
  simp[pn,ph,show t < xs.size by omega]
 have R0:=z7i (own:=own) (args:=xs.map (evR rg)) R L (las:=las) (by simp[hxs]) (fun t la h=>by
  have hlt':t < las.length:=(pk.1 h).1
  have hx:xs.toList[t]?=some (xs.toList[t]'(by simpa using hxs ▸ hlt')):=pi _
  rw[hval t hlt',ph,hx]
  exact e3 t la _ h hx)
 have hcall:=hfn (CC C XL β I w ls own (xs.map (evR rg))) (XC XL ls las) (βC XL ls) (IC XL β I ls own) (rgC XL ls (xs.map (evR rg))) w (xs.map (evR rg)) rfl (by rw[zfa L,e1]) R0
  (by rw[← e1];simp[hxs]) (fun t htl=>by
   rw[← e1] at htl
   simp only[r5,hxs] at htl
   simp only[rgC,if_pos (show t < 10000 by omega)])
 have hexec:(execOp (evR rg) o).run C.P w=.ok (.enter f (xs.map (evR rg))) w:=by
  simp only[execOp,hop,resolve,evR,Deferred.ofValue]
  simp only[qk,s4,qg,invoke,Array.append_empty,Array.empty_append,hrun]
 unfold Oper.wp
 rw[zae hin ht,hexec,Oper.upon_enter]
 refine Calls.mono hcall fun e w' hq=>?_
 obtain⟨x,XL',β',I',rg',rfl,R',hx,hF⟩:=hq
 obtain⟨XL2,I2,f1,f2⟩:=z7j R L R' hF hok himm hroot (d:=d) (by have:=C.hnt;omega)
 obtain⟨XL3,f1,f2⟩:=R.keep f2 f1 (fun t ht=>if_neg ht) hroot hkeep
 refine hK _ _ (by simp[Act.put,hdst,hdef]) ⟨XL3,β,I2,_,f1,f2,by simp[Act.put,hdst,hs],fun t htl=>?_⟩
 simp only[Act.put,hdst]
 by_cases e:t=d
 ·subst e;simp[pn,hs,hlt];exact hx.symm
 ·simp only[e,if_false]
  rw[← ht t htl]
  simp[pn,qv (Ne.symm e)]
theorem y02 {C:Ctx}{o:Oper}{X:XF Unit}{ls:List (Nat × List Nat)}{gs gs':List (Gh Unit)}{azs as1 as2:List AU}{r:AU}{own:Bool}{d f t:Nat}{xs:Array Operand}{tys:Array TypeId}{ss:List Nat}{cs:List COd}{cps:List AU}
  (hdst:o.dst=some d) (hlt:d < C.nt) (hin:z0r C.nt o=true) (hop:o.op=.call ⟨.value (.tmp t),xs,tys⟩) (htl:t < C.nt) (hcs:z3s C.nt ss xs.toList=some cs) (hcl:(X (100 * t)).2=.clos f cps)
  (hgs:ls.mapM (z9u X)=some gs) (hnd:(ls.map (·.1)).Nodup) (has1:z13 X ls own cs=some as1) (has2:trL X ls own (100 * t) cps=some as2) (hasE:azs=as1 ++ as2) (hlen:azs.length≤9000)
  (hrun:∀ args w,(callFunc f args).run C.P w=.ok (.enter f args) w) (hfn:Fn C.P f gs azs gs' r) (hok:z6j gs gs'=true) (himm:own=true→gs'.all z5o=true∧z17 r=true) (hroot:roots r=[]) (hkeep:KeepOk (ls.map (·.1)) d X ((z26 X (ls.zip gs')).set (100 * d) r)) :
  OpOk C o X (z4h (ls.map (·.1)) X ((z26 X (ls.zip gs')).set (100 * d) r)):=by
 rintro a w hdef ⟨XL,β,I,rg,he,R,hs,ht⟩ K Q hK
 subst he
 have L:=n5 R hgs hnd
 obtain⟨las1,e1,e2,e3⟩:=z5y R (z6b R L own) ss xs.toList cs as1 hcs has1
 -- what the closure holds
 have hclL:∃ lcps:List AL,(XL (100 * t)).2=.clos f lcps∧erL lcps=cps:=by
  simp only[erF] at hcl
  obtain⟨lcps,h1,h2⟩:=zmq hcl
  exact⟨lcps,h1,by rw[z0f];exact h2⟩
 obtain⟨lcps,hX,hcps⟩:=hclL
 have hreg:=R.reg t
 rw[hX] at hreg
 simp only[RR] at hreg
 obtain⟨ys,hval,hRR⟩:=hreg
 have hmem:=(R.key (100 * t)).mem
 rw[hX] at hmem
 simp only[Mem] at hmem
 obtain⟨las2,k1,k2,k3,k4⟩:=zf8 (z6b R L own) (100 * t) lcps ys as2 hRR hmem.1 (fun b o hb=>absurd hb (hmem.2 b o)) (by rw[hcps];exact has2)
 have hxs:las1.length=xs.size:=by simpa using e2
 have hys:las2.length=ys.length:=(z0u.1 k2).1
 have hasl:azs.length=las1.length+las2.length:=by
  rw[hasE,qr,← e1,← k1,z0f];simp
 let args:Array Value:=xs.map (evR rg) ++ ys.toArray
 have hargsz:args.size=las1.length+las2.length:=by simp[args,hxs,hys]
 have hval1:∀ t',t' < las1.length→args.getD t' undef=evR rg (xs.toList.getD t' (.const undef)):=by
  intro t' htl
  have:t' < xs.size:=by omega
  simp only[args,pn,ph]
  rw[s8 (by simpa using this)]
  simp[this]
 have hval2:∀ j,j < las2.length→args.getD (las1.length+j) undef=ys.getD j undef:=by
  intro j hj
  simp only[args,pn,ph]
  rw[ta (by simp[hxs])]
  simp[hxs]
 have R0:=z7i (own:=own) (args:=args) R L (las:=las1 ++ las2) (by simp[hargsz]) (fun t' la h=>by
  by_cases hlt':t' < las1.length
  ·rw[qc hlt'] at h
   have hx:xs.toList[t']?=some (xs.toList[t']'(by simpa using hxs ▸ hlt')):=pi _
   rw[hval1 t' hlt',ph,hx]
   exact e3 t' la _ h hx
  ·rw[qf (by omega)] at h
   have hj:t' - las1.length < las2.length:=(pk.1 h).1
   have:=hval2 (t' - las1.length) hj
   rw[show las1.length+(t' - las1.length)=t' by omega] at this
   rw[this]
   have hy:ys[t' - las1.length]?=some (ys[t' - las1.length]'(by omega)):=pi _
   rw[ph,hy]
   refine⟨(z0u.1 k2).2 _ _ _ h hy,z0k.1 k3 la (pj h),?_⟩
   have:∀ (l:List AL),z0n l=true→∀ c ∈ l,z0a c=true:=by
    intro l
    induction l with
    | nil=>intro _ c hc;cases hc
    | cons a l ih =>
     intro hn c hc
     simp only[z0n,pm] at hn
     rcases qj.1 hc with rfl | hc
     ·exact hn.1
     ·exact ih hn.2 c hc
   exact this las2 k4 la (pj h))
 have hcall:=hfn (CC C XL β I w ls own args) (XC XL ls (las1 ++ las2)) (βC XL ls) (IC XL β I ls own) (rgC XL ls args) w args rfl (by rw[zfa L,hasE,sj,e1,← z0f,k1]) R0
  (by rw[hasl,hargsz]) (fun t htl=>by
   simp only[rgC,if_pos (show t < 10000 by omega)])
 have hexec:(execOp (evR rg) o).run C.P w=.ok (.enter f args) w:=by
  have hv:evR rg (.tmp t)=.func (.func f) #[] ys.toArray:=hval
  simp only[execOp,hop,resolve,hv,Deferred.ofValue]
  simp only[qk,s4,qg,invoke,Array.append_empty,Array.empty_append,hrun,args]
 unfold Oper.wp
 rw[zae hin ht,hexec,Oper.upon_enter]
 refine Calls.mono hcall fun e w' hq=>?_
 obtain⟨x,XL',β',I',rg',rfl,R',hx,hF⟩:=hq
 obtain⟨XL2,I2,f1,f2⟩:=z7j R L R' hF hok himm hroot (d:=d) (by have:=C.hnt;omega)
 obtain⟨XL3,f1,f2⟩:=R.keep f2 f1 (fun t ht=>if_neg ht) hroot hkeep
 refine hK _ _ (by simp[Act.put,hdst,hdef]) ⟨XL3,β,I2,_,f1,f2,by simp[Act.put,hdst,hs],fun t htl=>?_⟩
 simp only[Act.put,hdst]
 by_cases e:t=d
 ·subst e;simp[pn,hs,hlt];exact hx.symm
 ·simp only[e,if_false]
  rw[← ht t htl]
  simp[pn,qv (Ne.symm e)]
section
variable {P:Program} {nt:Nat} {L:SL}
def z99 (ks:List Nat)(X:XF Unit):SL→SL
 | []=>[]
 | (k,g,v) :: l=>(k,(if ks.contains k=true then (X k).1 else g),v) :: z99 ks X l
theorem zgk (ks:List Nat)(X:XF Unit):∀ M:SL,(∀ k,ks.contains k=true→(fnL M k).2 ≠ .non)→z4h ks X (fnL M)=fnL (z99 ks X M)
 | M,h=>by
  have key:∀ (M:SL) (k:Nat),fnL (z99 ks X M) k=if ks.contains k=true∧M.any (fun e=>e.1 == k)=true then ((X k).1,(fnL M k).2) else fnL M k:=by
   intro M
   induction M with
   | nil=>intro k;simp[z99]
   | cons e M ih =>
    obtain⟨k',g,v⟩:=e
    intro k
    simp only[z99,fnL,tx,ih]
    by_cases hk:k=k'
    ·subst hk
     simp only[if_true,beq_self_eq_true,Bool.true_or,and_true]
     split<;>rfl
    ·have hb:(k' == k)=false:=by simpa using fun e=>hk e.symm
     simp only[hk,if_false,hb,b8]
  funext k
  rw[key]
  simp only[z4h]
  by_cases hk:ks.contains k=true
  ·have hany:M.any (fun e=>e.1 == k)=true:=by
    cases e:M.any (fun e=>e.1 == k) with
    | true=>rfl
    | false =>
     exfalso
     apply h k hk
     have:∀ (M:SL),M.any (fun e=>e.1 == k)=false→fnL M k=(0,.non):=by
      intro M
      induction M with
      | nil=>intro _;rfl
      | cons e M ih =>
       obtain⟨k',g,v⟩:=e
       intro he
       simp only[tx,qx] at he
       have hne:k ≠ k':=fun e=>by subst e;simp at he
       simp only[fnL,hne,if_false]
       exact ih he.2
     rw[this M e]
   rw[if_pos hk,if_pos ⟨hk,hany⟩]
  ·rw[if_neg hk,if_neg (fun h=>hk h.1)]
def zpk (ks:List Nat)(d:Nat)(L M:SL):Bool :=
 ks.all (fun k=>decide (k % 100=0) && !decide (k=100 * d) && z4g (fnL L k).2 (fnL M k).2) && M.all fun e=>z4p ks e.2.2 && (decide (e.1 % 100=0) || noR ks e.2.2)
theorem z8v (M:SL)(k:Nat):(fnL M k).2=.non∨∃ e ∈ M,e.1=k∧(fnL M k).2=e.2.2:=by
 induction M with
 | nil=>left;rfl
 | cons e M ih =>
  obtain⟨k',g,v⟩:=e
  simp only[fnL]
  by_cases hk:k=k'
  ·subst hk;right;exact⟨_,rn,rfl,by simp⟩
  ·simp only[hk,if_false]
   rcases ih with h | ⟨e,he,h1,h2⟩
   ·exact .inl h
   ·exact .inr ⟨e,qd _ he,h1,h2⟩
theorem zk3 {ks:List Nat}{d:Nat}{M:SL}(h:zpk ks d L M=true):KeepOk ks d (fnL L) (fnL M)∧∀ k,ks.contains k=true→(fnL M k).2 ≠ .non:=by
 simp only[zpk,pm,qe,qp,decide_eq_true_eq,qm,decide_eq_false_iff_not] at h
 obtain⟨h1,h2⟩:=h
 have hk:∀ k,ks.contains k=true→_:=fun k hk=>h1 k (te.1 hk)
 refine⟨⟨fun k h=>⟨(hk k h).1.1,(hk k h).1.2⟩,fun t=>?_,fun k hc=>?_,fun k h=>(hk k h).2⟩,fun k h e=>?_⟩
 ·rcases z8v M (100 * t) with h | ⟨e,he,_,h⟩
  ·rw[h];rfl
  ·rw[h];exact (h2 e he).1
 ·rcases z8v M k with h | ⟨e,he,e1,h⟩
  ·rw[h];rfl
  ·rw[h]
   rcases (h2 e he).2 with q | q
   ·rw[e1] at q;exact absurd q hc.1
   ·exact q
 ·have:=(hk k h).2
  rw[e] at this
  generalize (fnL L k).2=z at this
  cases z<;>simp [z4g] at this
theorem wn {K:SL→Prop}{rest:List Sg}{d f:Nat}{cs:List COd}{gs gs':List (Gh Unit)}{azs:List AU}{r:AU}(own:Bool)(ls:List (Nat × List Nat))(hfn:FnC P f gs azs gs' r)(hgs:ls.mapM (z9u (fnL L))=some gs)(hnd:(ls.map (·.1)).Nodup)
  (has:z13 (fnL L) ls own cs=some azs) (hs:z1d own gs gs' r=true) (hk:zpk (ls.map (·.1)) d L (z0l (z6k L (ls.zip gs')) (100 * d) r)=true)
  (h:RL P nt rest (z99 (ls.map (·.1)) (fnL L) (z0l (z6k L (ls.zip gs')) (100 * d) r)) K):RL P nt (.call none d f cs :: rest) L K :=
 RL.cons (it:=.call none d f cs) (rest:=rest) rfl (fun C ops i o hP hn hi hit=>by
  obtain⟨g0,h1,h2,h3,xs,ts,ss,e1,e2,e3⟩:=z4d hit
  simp only[z1d,pm,qp,qm,rk] at hs
  obtain⟨⟨s1,s2⟩,s3⟩:=hs
  subst hP hn
  have s2':own=true→gs'.all z5o=true∧z17 r=true:=by
   intro h
   rcases s2 with s2 | s2
   ·rw[s2] at h;cases h
   ·exact s2
  obtain⟨k1,k2⟩:=zk3 hk
  have e:fnL (z0l (z6k L (ls.zip gs')) (100 * d) r)=(z26 (fnL L) (ls.zip gs')).set (100 * d) r:=by rw[← z07,z5h]
  have:=zsu h1 h2 h3 e1 e3 hgs hnd has e2 hfn.2 hfn.1 s1 s2' s3 (by rw[← e];exact k1)
  rw[← e,zgk _ _ _ k2] at this
  exact SOk.op hi (z1n g0) this) h
theorem nf {K:SL→Prop}{rest:List Sg}{d t f:Nat}{cs:List COd}{cps:List AU}{gs gs':List (Gh Unit)}{azs:List AU}{r:AU}(own:Bool)(ls:List (Nat × List Nat))(hcl:(fnL L (100 * t)).2=.clos f cps)(hfn:FnC P f gs azs gs' r)(hgs:ls.mapM (z9u (fnL L))=some gs)(hnd:(ls.map (·.1)).Nodup)
  (has:opL (z13 (fnL L) ls own cs) (trL (fnL L) ls own (100 * t) cps)=some azs) (hlen:azs.length≤9000) (hs:z1d own gs gs' r=true) (hk:zpk (ls.map (·.1)) d L (z0l (z6k L (ls.zip gs')) (100 * d) r)=true)
  (h:RL P nt rest (z99 (ls.map (·.1)) (fnL L) (z0l (z6k L (ls.zip gs')) (100 * d) r)) K):RL P nt (.clo none d t cs :: rest) L K :=
 RL.cons (it:=.clo none d t cs) (rest:=rest) rfl (fun C ops i o hP hn hi hit=>by
  obtain⟨g0,h1,h2,h3,htl,xs,ts,ss,e1,e2,e3⟩:=z7s hit
  obtain⟨a1,a2,q1,q2,q3⟩:=zjm has
  simp only[z1d,pm,qp,qm,rk] at hs
  obtain⟨⟨s1,s2⟩,s3⟩:=hs
  subst hP hn
  have s2':own=true→gs'.all z5o=true∧z17 r=true:=by
   intro h
   rcases s2 with s2 | s2
   ·rw[s2] at h;cases h
   ·exact s2
  obtain⟨k1,k2⟩:=zk3 hk
  have e:fnL (z0l (z6k L (ls.zip gs')) (100 * d) r)=(z26 (fnL L) (ls.zip gs')).set (100 * d) r:=by rw[← z07,z5h]
  have:=y02 h1 h2 h3 e1 htl e3 hcl hgs hnd q1 q2 q3 hlen hfn.2 hfn.1 s1 s2' s3 (by rw[← e];exact k1)
  rw[← e,zgk _ _ _ k2] at this
  exact SOk.op hi (z1n g0) this) h
theorem DL.clo0 {K:SL→Fs→Prop}{rest:List Sg}{d t f:Nat}{cs:List COd}{cps:List AU}{azs:List AU}{r:AU}{fs:Fs}(own:Bool)(hcl:(fnL L (100 * t)).2=.clos f cps)(hfn:FnC P f [] azs [] r)
  (has:opL (z13 (fnL L) [] own cs) (trL (fnL L) [] own (100 * t) cps)=some azs) (hlen:azs.length≤9000) (hs:z1d own [] [] r=true)
  (h:DL P nt rest (z0l L (100 * d) r) ((2 * d :: 2 * t :: ((z1a cps).map z14 ++ luR own (z1a cps) ++ (uOs (fnL L) cs ++ zi7 (fnL L) own cs)),[2 * d]) :: fs) K):DL P nt (.clo none d t cs :: rest) L fs K:=by
 refine DL.cons (it:=.clo none d t cs) (rest:=rest) (by simp[z21]) (fun C ops i o hP hn hc0 hi hit=>?_) h
 have hroot:roots r=[]:=by simp only[z1d,pm,rk] at hs;exact hs.2
 obtain⟨g0,g1,g2,g3,g4,g5⟩:=z7s hit
 refine z7u (by have:=zlf hn;omega) (by simp) hroot hc0 fun X hX ha=>?_
 have hag:agr (uOs (fnL L) cs ++ zi7 (fnL L) own cs) X (fnL L):=fun k hk=>ha k (qd _ (qd _ (List.mem_append_right _ hk)))
 have ht:X (100 * t)=fnL L (100 * t):=ha _ (by rw[z0m];simp)
 have hcps:trL X [] own (100 * t) cps=trL (fnL L) [] own (100 * t) cps:=zbc (U:=(z1a cps).map z14 ++ luR own (z1a cps)) (fun k hk=>ha k (qd _ (qd _ (List.mem_append_left _ hk)))) cps (fun u hu=>List.mem_append_left _ hu) (fun u hu=>List.mem_append_right _ hu)
 exact SOk.op hi (z1n g0) (zdw (ls:=[]) (gs:=[]) (gs':=[]) own hP hn g1 g2 g3 g4 g5 (by rw[ht];exact hcl) hfn rfl (by simp) (by rw[z44 hag,hcps];exact has) hlen hs)
theorem pc {K:SL→Fs→Prop}{rest:List Sg}{d t f t':Nat}{w:Bool}{cs:List COd}{cps:List AU}{azs:List AU}{r:AU}{fs:Fs}(own:Bool)(hb:gv w (fnL L (100 * t')).2=some true)(hcl:(fnL L (100 * t)).2=.clos f cps)(hfn:FnC P f [] azs [] r)
  (has:opL (z13 (fnL L) [] own cs) (trL (fnL L) [] own (100 * t) cps)=some azs) (hlen:azs.length≤9000) (hs:z1d own [] [] r=true)
  (h:DL P nt rest (z0l L (100 * d) r) ((2 * d :: 2 * t' :: 2 * t :: ((z1a cps).map z14 ++ luR own (z1a cps) ++ (uOs (fnL L) cs ++ zi7 (fnL L) own cs)),[2 * d]) :: fs) K):DL P nt (.clo (some (t',w)) d t cs :: rest) L fs K:=by
 refine DL.cons (it:=.clo (some (t',w)) d t cs) (rest:=rest) (by simp[z21]) (fun C ops i o hP hn hc0 hi hit=>?_) h
 have hroot:roots r=[]:=by simp only[z1d,pm,rk] at hs;exact hs.2
 obtain⟨g0,g1,g2,g3,g4,g5⟩:=z7s hit
 refine z7u (by have:=zlf hn;omega) (by simp) hroot hc0 fun X hX ha=>?_
 have hag:agr (uOs (fnL L) cs ++ zi7 (fnL L) own cs) X (fnL L):=fun k hk=>ha k (qd _ (qd _ (qd _ (List.mem_append_right _ hk))))
 have ht:X (100 * t)=fnL L (100 * t):=ha _ (by rw[z0m];simp)
 have ht':X (100 * t')=fnL L (100 * t'):=ha _ (by rw[z0m];simp)
 have hcps:trL X [] own (100 * t) cps=trL (fnL L) [] own (100 * t) cps:=zbc (U:=(z1a cps).map z14 ++ luR own (z1a cps)) (fun k hk=>ha k (qd _ (qd _ (qd _ (List.mem_append_left _ hk))))) cps (fun u hu=>List.mem_append_left _ hu) (fun u hu=>List.mem_append_right _ hu)
 obtain⟨j,hg,hjt,hlt⟩:=z3c g0
 exact n7 hi hg hjt (by rw[hn];exact hlt) (by rw[ht'];exact zb0 hb) (zdw (ls:=[]) (gs:=[]) (gs':=[]) own hP hn g1 g2 g3 g4 g5 (by rw[ht];exact hcl) hfn rfl (by simp) (by rw[z44 hag,hcps];exact has) hlen hs)
theorem DL.cloN {K:SL→Fs→Prop}{rest:List Sg}{d t t':Nat}{w:Bool}{cs:List COd}{fs:Fs}(hb:gv w (fnL L (100 * t')).2=some false)
  (h:DL P nt rest (z0l L (100 * d) (.sc undef)) (([2 * t',2 * d],[2 * d]) :: fs) K):DL P nt (.clo (some (t',w)) d t cs :: rest) L fs K:=by
 refine DL.cons (it:=.clo (some (t',w)) d t cs) (rest:=rest) (by simp[z21]) (fun C ops i o hP hn hc0 hi hit=>?_) h
 obtain⟨g0,g1,g2,g3,g4,g5⟩:=z7s hit
 obtain⟨x,hx,hne⟩:=z7r hb
 refine z8o (w:=w) (by have:=zlf hn;omega) hc0 fun X hX ha=>?_
 obtain⟨j,hg,hjt,hlt⟩:=z3c g0
 have:=ha (100 * t') (by rw[z0m];simp)
 exact SOk.no hi hg hjt (by rw[hn];exact hlt) (by rw[this];exact hx) hne g1 (by rw[hn];exact g2)
end
attribute [simp] z4p z5n noR z4g z99 zpk
def z2f (f:Nat→Int)(s m e:Nat):Nat→Int:=fun k=>if s≤k∧k < s+(e - m) then f (k+(m - s)) else if s+(e - m)≤k∧k < e then f (k - (e - m)) else f k
theorem y03 (f:Nat→Int){m i j:Nat}(h:j < i)(hi:i≤m):z2f (swF f (m - i) m j) (m - (i - j)) m (m+j)=z2f f (m - i) m (m+j):=by
 funext k
 simp only[z2f,swF]
 repeat' split
 all_goals first | rfl | (exfalso;omega) | (congr 1;omega)
theorem y04 (f:Nat→Int){m i j:Nat}(h:i < j)(hi:i≤m):z2f (swF f (m - i) (m+j - i) i) (m - i) m (m+(j - i))=z2f f (m - i) m (m+j):=by
 funext k
 simp only[z2f,swF]
 repeat' split
 all_goals first | rfl | (exfalso;omega) | (congr 1;omega)
theorem y05 (f:Nat→Int){m i:Nat}(hi:i≤m):swF f (m - i) m i=z2f f (m - i) m (m+i):=by
 funext k
 simp only[z2f,swF]
 repeat' split
 all_goals first | rfl | (exfalso;omega) | (congr 1;omega)
theorem zeb (f:Nat→Int){s m e:Nat}(h1:s≤m)(h2:m≤e):Rot f s m e (z2f f s m e):=by
 refine⟨fun k hk=>?_,fun k hk=>?_,fun k hk=>?_⟩
 ·unfold z2f;rw[if_neg (by omega),if_neg (by omega)]
 ·unfold z2f;rw[if_pos (by omega)];congr 1;omega
 ·unfold z2f;rw[if_neg (by omega),if_pos (by omega)];congr 1;omega
abbrev roS (f:Nat→Int)(N m i j:Nat)(cl:AU):SL:=[(0,0,.view 1000000 0 [] 0 N),(200,0,i64 m),(400,0,cl),(1000,0,i64 i),(1100,0,i64 j),(1000000,0,rF f N)]
def RoI (f:Nat→Int)(s m e:Nat)(x:(Nat→Int) × Nat × Nat):Prop:=0 < x.2.1∧0 < x.2.2∧x.2.1≤m∧m+x.2.2≤e∧z2f x.1 (m - x.2.1) m (m+x.2.2)=z2f f s m e
theorem ygf (f:Nat→Int)(N s m e:Nat)(hN:z0c N)(h1:s < m)(h2:m < e)(h3:e≤N)(g:Nat)(cs:List AU) :
  FnC Try.prog 174 [.nod (rF f N)] [.view 1000000 0 [] 0 N,i64 s,i64 m,i64 e,.clos g [.vptr () cs]] [.nod (rF (z2f f s m e) N)] (.tuple []):=by
 have hN':=hN
 unfold z0c at hN'
 refine wc yu6 rfl ?_
 have w1:IntKind.wrap .i64 ((m:Int) - (s:Int))=((m - s:Nat):Int):=by rw[z01 (by omega) (by omega)];omega
 have w2:IntKind.wrap .i64 ((e:Int) - (m:Int))=((e - m:Nat):Int):=by rw[z01 (by omega) (by omega)];omega
 refine WL.sreg (by simp[w1];rfl) (by simp;rfl) ?_
 refine WL.sreg (by simp[w2];rfl) (by simp;rfl) ?_
 refine WL.seq (WL.block (WL.loop (ι:={x:(Nat→Int) × Nat × Nat // RoI f s m e x}) (fun x=>roS x.1.1 N m x.1.2.1 x.1.2.2 (.clos g [.vptr () cs])) (fun x=>x.1.2.1+x.1.2.2)
  ⟨(f,m - s,e - m),⟨by simp only;omega,by simp only;omega,by simp only;omega,by simp only;omega,by simp only;rw[show m - (m - s)=s by omega,show m+(e - m)=e by omega]⟩⟩ (by simp) fun x=>?_))
 obtain⟨⟨f',i,j⟩,hi0,hj0,hi,hj,hI⟩:=x
 simp only at hi0 hj0 hi hj hI ⊢
 by_cases hij:i=j
 ·subst hij
  refine WL.seq (WL.sreg (by simp;rfl) (by simp;rfl) ?_)
  refine WL.cond (t:=false) (by simp) (by simp) fun _=>WL.exit ?_
  have w3:IntKind.wrap .i64 ((m:Int) - (i:Int))=((m - i:Nat):Int):=by rw[z01 (by omega) (by omega)];omega
  generalize hp:m - i=p at w3
  have hc:=zie f' N p m i hN (by omega) (by omega) g cs
  rw[← hp,y05 f' hi,hI,hp] at hc
  refine WL.reg (RL.o (by simp[w3];rfl) ?_)
  refine wn false [(1000000,[])] hc (by simp) (by simp) (by simp[z36]) (by simp) (by simp) ?_
  refine RL.nil ⟨_,by simp;rfl,?_⟩
  refine⟨.inl rfl,?_⟩
  simp[yg6]
 ·have hne:((i:Int) != (j:Int))=true:=by simp;omega
  refine WL.seq (WL.sreg (by simp[hne];rfl) (by simp;rfl) ?_)
  refine WL.cond (t:=true) (by simp) (fun _=>WL.skip ?_) (by simp)
  have w3:IntKind.wrap .i64 ((m:Int) - (i:Int))=((m - i:Nat):Int):=by rw[z01 (by omega) (by omega)];omega
  generalize hp:m - i=p at w3
  by_cases hgt:j < i
  ·have hgt':(j:Int) < (i:Int):=by omega
   have hc:=zie f' N p m j hN (by omega) (by omega) g cs
   refine WL.block (WL.sreg (by simp[hgt];rfl) (by simp;rfl) ?_)
   refine WL.cond (t:=true) (by simp) (fun _=>?_) (by simp)
   have w4:IntKind.wrap .i64 ((i:Int) - (j:Int))=((i - j:Nat):Int):=by rw[z01 (by omega) (by omega)];omega
   generalize hq:i - j=q at w4
   refine w7 (RL.o (by simp[w3];rfl) (wn false [(1000000,[])] hc (by simp) (by simp) (by simp[z36]) (by simp) (by simp) (RL.nil ⟨_,by simp;rfl,?_⟩)))
   refine WL.reg (RL.run (by simp[w4];rfl) ⟨_,by simp;rfl,?_⟩)
   refine⟨⟨(swF f' p m j,q,j),by simp only;omega,hj0,by simp only;omega,hj,?_⟩,by simp,by simp only;omega⟩
   simp only
   rw[← hI,← y03 f' hgt hi,hp,hq]
  ·have hlt:i < j:=by omega
   have hgt':¬ (j:Int) < (i:Int):=by omega
   have w5:IntKind.wrap .i64 ((m:Int)+(j:Int))=((m+j:Nat):Int):=by rw[z01 (by omega) (by omega)];omega
   generalize hr:m+j=r at w5
   have w6:IntKind.wrap .i64 ((r:Int) - (i:Int))=((r - i:Nat):Int):=by rw[z01 (by omega) (by omega)];omega
   generalize hu:r - i=u at w6
   have hc:=zie f' N p u i hN (by omega) (by omega) g cs
   refine WL.block (WL.sreg (by simp[hgt];rfl) (by simp;rfl) ?_)
   refine WL.cond (t:=false) (by simp) (by simp) fun _=>?_
   have w4:IntKind.wrap .i64 ((j:Int) - (i:Int))=((j - i:Nat):Int):=by rw[z01 (by omega) (by omega)];omega
   generalize hq:j - i=q at w4
   refine w7 (RL.o (by simp[w3,w5,w6];rfl) (wn false [(1000000,[])] hc (by simp) (by simp) (by simp[z36]) (by simp) (by simp) (RL.nil ⟨_,by simp;rfl,?_⟩)))
   refine WL.reg (RL.run (by simp[w4];rfl) ⟨_,by simp;rfl,?_⟩)
   refine⟨⟨(swF f' p u i,i,q),hi0,by simp only;omega,hi,by simp only;omega,?_⟩,by simp,by simp only;omega⟩
   simp only
   rw[← hI,← y04 f' hlt hi,hp,hr,hu,← hq]
def zha (a b:Int):Int:=if a < b then -1 else if b < a then 1 else 0
theorem z4v (a b:Int):zha a b < 0 ↔ a < b:=by
 unfold zha
 by_cases h:a < b
 ·simp[h]
 ·by_cases h':b < a<;>simp [h,h']
theorem zun (a:Int):FnC Try.prog 139 [] [i64 a] [] (bl false):=by
 refine wc yu3 rfl ?_
 refine WL.sreg (by simp;rfl) (by simp;rfl) ?_
 refine WL.sreg (by simp;rfl) (by simp;rfl) (WL.ret ⟨.inr rfl,?_⟩)
 simp[yfc]
theorem ygg (a b:Int):FnC Try.prog 93 [] [i64 a,i64 b] [] (i64 (zha a b)):=by
 refine wc yy7 rfl ?_
 refine WL.sreg (by simp;rfl) (by simp;rfl) ?_
 refine w7 (RL.o (by simp;rfl) (RL.call0 false (zun a) (by simp) (by simp) (RL.o (by simp;rfl) (RL.nil ⟨_,by simp;rfl,?_⟩))))
 refine w7 (RL.o (by simp;rfl) (RL.call0 false (zun b) (by simp) (by simp) (RL.o (by simp;rfl) (RL.nil ⟨_,by simp;rfl,?_⟩))))
 refine WL.seq (WL.sreg (by simp;rfl) (by simp;rfl) (WL.cond (t:=false) (by simp) (by simp) fun _=>WL.skip ?_))
 refine WL.seq (WL.sreg (by simp;rfl) (by simp;rfl) (WL.cond (t:=false) (by simp) (by simp) fun _=>WL.skip ?_))
 by_cases h:a < b
 ·refine WL.seq (WL.sreg (by simp[h];rfl) (by simp;rfl) (WL.cond (t:=true) (by simp) (fun _=>?_) (by simp)))
  refine WL.sreg (by simp;rfl) (by simp;rfl) (WL.ret ⟨.inr rfl,?_⟩)
  simp[ymt,zha,h]
 ·refine WL.seq (WL.sreg (by simp[h];rfl) (by simp;rfl) (WL.cond (t:=false) (by simp) (by simp) fun _=>WL.skip ?_))
  by_cases h':b < a
  ·refine WL.seq (WL.sreg (by simp[h'];rfl) (by simp;rfl) (WL.cond (t:=true) (by simp) (fun _=>?_) (by simp)))
   refine WL.sreg (by simp;rfl) (by simp;rfl) (WL.ret ⟨.inr rfl,?_⟩)
   simp[ymt,zha,h,h']
  ·refine WL.seq (WL.sreg (by simp[h'];rfl) (by simp;rfl) (WL.cond (t:=false) (by simp) (by simp) fun _=>WL.skip ?_))
   refine WL.sreg (by simp;rfl) (by simp;rfl) (WL.ret ⟨.inr rfl,?_⟩)
   simp[ymt,zha,h,h']
def zuo (key:Int→Int)(In:Int→Prop)(g:Nat)(cs:List AU):Prop:=∀ a b,In a→In b→FnC Try.prog g [] [i64 a,i64 b,.vptr () cs] [] (i64 (zha (key a) (key b)))
theorem zk4 (h:Nat→Int){i j:Nat}(hj:0 < j)(hji:j≤i):zmi (zmi (z2f h j i (i+1)) j (z2f h j i (i+1) (j - 1))) (j - 1) (z2f h j i (i+1) j)=z2f h (j - 1) i (i+1):=by
 funext k
 simp only[zmi,z2f]
 repeat' split
 all_goals first | rfl | (exfalso;omega) | (congr 1;omega)
theorem zgl (h:Nat→Int)(i:Nat):z2f h i i (i+1)=h:=by
 funext k
 simp only[z2f]
 repeat' split
 all_goals first | rfl | (exfalso;omega) | (congr 1;omega)
theorem zk5 {key:Int→Int}{f h:Nat→Int}{a i j:Nat}(haj:a≤j)(hji:j≤i)(hS:SM key f a i h)(hasc:∀ k,a≤k→k < i→f k < f i)
  (hgt:∀ k,j≤k→k < i→key (h i) < key (h k)) (hle:a < j→¬ key (h i) < key (h (j - 1))):SM key f a (i+1) (z2f h j i (i+1)):=by
 have hR:=zeb h hji (Nat.le_succ i)
 have hi:h i=f i:=hS.out i (.inr (pr _))
 have hm:∀ k,a≤k→k < i→h k < h i:=fun k h1 h2=>by
  obtain⟨u,u1,u2,e⟩:=hS.mem h1 h2
  rw[e,hi];exact hasc u u1 u2
 have hlo:∀ k,a≤k→k < j→lexLt key (h k) (h i):=fun k h1 h2=>by
  have q1:=hle (by omega)
  have q2:=hm k h1 (by omega)
  by_cases e:k=j - 1
  ·subst e;unfold lexLt;omega
  ·have:=hS.sorted k (j - 1) h1 (by omega) (by omega)
   unfold lexLt at this ⊢
   omega
 have hhi:∀ k,j≤k→k < i→lexLt key (h i) (h k):=fun k h1 h2=>.inl (hgt k h1 h2)
 have hat:∀ k,a≤k→k < i+1→(k < j∧z2f h j i (i+1) k=h k)∨(k=j∧z2f h j i (i+1) k=h i)∨(j < k∧z2f h j i (i+1) k=h (k - 1)):=fun k h1 h2=>by
  simp only[z2f]
  rcases Nat.lt_trichotomy k j with e | e | e
  ·left;refine⟨e,?_⟩;rw[if_neg (by omega),if_neg (by omega)]
  ·right;left;refine⟨e,?_⟩;rw[if_pos (by omega)];congr 1;omega
  ·right;right;refine⟨e,?_⟩;rw[if_neg (by omega),if_pos (by omega)];congr 1;omega
 refine⟨fun k hk=>?_,?_,fun u v h1 h2 h3=>?_⟩
 ·rw[hR.out k (by omega),hS.out k (by omega)]
 ·have p1:=z7y (a:=a) (b:=i+1) haj (by omega) (pr _) hR.out (hR.perm hji (Nat.le_succ i))
  have p2:(seg h a (i+1 - a)).Perm (seg f a (i+1 - a)):=z7y (s:=a) (e:=i) (pr _) (by omega) (by omega) hS.out hS.perm
  exact p1.trans p2
 ·rcases hat u h1 (by omega) with ⟨e1,e2⟩ | ⟨e1,e2⟩ | ⟨e1,e2⟩<;>rcases hat v (by omega) h3 with ⟨r1,r2⟩ | ⟨r1,r2⟩ | ⟨r1,r2⟩<;>rw [e2,r2]
  ·exact hS.sorted _ _ h1 h2 (by omega)
  ·exact hlo u h1 e1
  ·by_cases q:u=v - 1
   ·exfalso;omega
   ·exact hS.sorted _ _ h1 (by omega) (by omega)
  ·exfalso;omega
  ·exfalso;omega
  ·exact hhi _ (by omega) (by omega)
  ·exfalso;omega
  ·exfalso;omega
  ·exact hS.sorted _ _ (by omega) (by omega) (by omega)
abbrev inS (h:Nat→Int)(N a b i:Nat)(cl:AU):SL:=[(0,0,.view 1000000 0 [] 0 N),(100,0,i64 a),(200,0,i64 b),(300,0,cl),(800,0,i64 i),(1000000,0,rF h N)]
abbrev inT (h:Nat→Int)(N a b i j:Nat)(cl:AU):SL:=[(0,0,.view 1000000 0 [] 0 N),(100,0,i64 a),(200,0,i64 b),(300,0,cl),(800,0,i64 i),(900,0,i64 j),(1000000,0,rF h N)]
theorem z2r {key:Int→Int}{f f' f'':Nat→Int}{a b:Nat}(h:SM key f a b f')(h':SM key f a b f''):f'=f'':=by
 have pw:∀ {g:Nat→Int},SortedF key g a b→(seg g a (b - a)).Pairwise (lexLt key):=fun {g} hs=>by
  unfold seg
  rw[List.pairwise_map]
  refine List.Pairwise.imp_of_mem ?_ (List.pairwise_lt_range (n:=b - a))
  intro x y hx hy hxy
  have:=ql.1 hy
  exact hs _ _ (by omega) (by omega) (by omega)
 have e:=z5k (fun _ _ h h'=>h.asymm h') (h.perm.trans h'.perm.symm) (pw h.sorted) (pw h'.sorted)
 funext k
 by_cases hk:a≤k∧k < b
 ·have e2:=congrArg (fun l:List Int=>l[k - a]?) e
  have hlt:k - a < b - a:=by omega
  have ha:a+(k - a)=k:=by omega
  simpa [seg,hlt,ha] using e2
 ·rw[h.out k (by omega),h'.out k (by omega)]
theorem zup (key:Int→Int)(x:Int):∀ {l:List Int},l.Pairwise (lexLt key)→x ∉ l→∃ l':List Int,l'.Perm (x :: l)∧l'.Pairwise (lexLt key)
 | [],_,_=>⟨[x],List.Perm.refl _,by simp⟩
 | y :: r,h,hx=>by
  have hp:=se.1 h
  have hne:x ≠ y:=fun e=>hx (by simp[e])
  by_cases hxy:lexLt key x y
  ·refine⟨x :: y :: r,List.Perm.refl _,se.2 ⟨fun z hz=>?_,h⟩⟩
   rcases qj.1 hz with rfl | hz
   ·exact hxy
   ·exact hxy.trans (hp.1 z hz)
  ·obtain⟨l',h1,h2⟩:=zup key x hp.2 (fun h=>hx (qd _ h))
   refine⟨y :: l',(h1.cons y).trans (List.Perm.swap x y r),se.2 ⟨fun z hz=>?_,h2⟩⟩
   rcases qj.1 (h1.subset hz) with rfl | hz
   ·unfold lexLt at hxy ⊢;omega
   ·exact hp.1 z hz
theorem zgm (key:Int→Int):∀ {l:List Int},l.Nodup→∃ l':List Int,l'.Perm l∧l'.Pairwise (lexLt key)
 | [],_=>⟨[],List.Perm.refl _,List.Pairwise.nil⟩
 | x :: l,h=>by
  have hn:=List.nodup_cons.1 h
  obtain⟨l1,h1,h2⟩:=zgm key hn.2
  obtain⟨l2,h3,h4⟩:=zup key x h2 (fun hx=>hn.1 (h1.subset hx))
  exact⟨l2,h3.trans (h1.cons x),h4⟩
theorem zbm (key:Int→Int)(f:Nat→Int){a b:Nat}(hab:a≤b)(hd:∀ i j,a≤i→i < j→j < b→f i ≠ f j):∃ f',SM key f a b f':=by
 have hn:(seg f a (b - a)).Nodup:=by
  unfold seg
  rw[List.Nodup,List.pairwise_map]
  refine List.Pairwise.imp_of_mem ?_ (List.pairwise_lt_range (n:=b - a))
  intro x y hx hy hxy
  have:=ql.1 hy
  exact hd _ _ (by omega) (by omega) (by omega)
 obtain⟨l,h1,h2⟩:=zgm key hn
 have hlen:l.length=b - a:=by rw[h1.length_eq,ze6]
 let f':Nat→Int:=fun k=>if a≤k∧k < b then l.getD (k - a) 0 else f k
 have hseg:seg f' a (b - a)=l:=by
  apply List.ext_getElem
  ·rw[ze6,hlen]
  ·intro i g1 g2
   have:i < b - a:=by rw[ze6] at g1;exact g1
   simp only[seg,List.getElem_map,List.getElem_range,f']
   rw[if_pos (by omega)]
   simp[ph,g2]
 refine⟨f',fun k hk=>by simp only[f'];rw[if_neg (by omega)],by rw[hseg];exact h1,fun i j hi hij hj=>?_⟩
 simp only[f']
 rw[if_pos (by omega),if_pos (by omega)]
 have:=List.pairwise_iff_getElem.1 h2 (i - a) (j - a) (by omega) (by omega) (by omega)
 simpa [ph,show i - a < l.length by omega,show j - a < l.length by omega] using this
theorem SM.inN {key:Int→Int}{In:Int→Prop}{f f':Nat→Int}{a b N:Nat}(h:SM key f a b f')(hb:b≤N)(hIn:∀ k,k < N→In (f k)):∀ k,k < N→In (f' k):=by
 intro k hk
 by_cases hab:a≤k∧k < b
 ·obtain⟨u,u1,u2,e⟩:=h.mem hab.1 hab.2
  rw[e];exact hIn u (by omega)
 ·rw[h.out k (by omega)];exact hIn k hk
theorem zsv {In:Int→Prop}{h:Nat→Int}{j i N:Nat}(hji:j≤i)(hi:i < N)(hIn:∀ k,k < N→In (h k)):∀ k,k < N→In (z2f h j i (i+1) k):=by
 intro k hk
 simp only[z2f]
 repeat' split
 all_goals exact hIn _ (by omega)
theorem zuq {key:Int→Int}{In:Int→Prop}{g:Nat}{cs:List AU}(hcl:zuo key In g cs)(f:Nat→Int)(N a b:Nat)(hN:z0c N)(h1:a≤b)(h2:b≤N)(hIn:∀ k,k < N→In (f k))(hasc:∀ i j,a≤i→i < j→j < b→f i < f j)
  (f':Nat→Int) (hf':SM key f a b f'):FnC Try.prog 163 [.nod (rF f N)] [.view 1000000 0 [] 0 N,i64 a,i64 b,.clos g [.vptr () cs]] [.nod (rF f' N)] (.tuple []):=by
 have hN':=hN
 unfold z0c at hN'
 refine wc yu4 rfl ?_
 have w1:IntKind.wrap .i64 ((a:Int)+1)=((a+1:Nat):Int):=by rw[z01 (by omega) (by omega)];omega
 refine WL.sreg (by simp[w1];rfl) (by simp;rfl) ?_
 by_cases hab:a=b
 ·subst hab
  have e:f'=f:=z2r hf' (wo fun i j _ _ _=>by omega)
  subst e
  have hge:(a:Int)≤(a:Int)+1:=by omega
  refine WL.block (WL.loop (ι:=Unit) (fun _=>inS f' N a a (a+1) (.clos g [.vptr () cs])) (fun _=>0) () (by simp) fun _=>?_)
  refine WL.seq (WL.sreg (by simp;rfl) (by simp;rfl) ?_)
  refine WL.cond (t:=false) (by simp[hge]) (by simp) fun _=>WL.exit ?_
  refine⟨.inl rfl,?_⟩
  simp[zp8]
 refine WL.block (WL.loop (ι:={x:(Nat→Int) × Nat // a < x.2∧x.2≤b∧SM key f a x.2 x.1}) (fun x=>inS x.1.1 N a b x.1.2 (.clos g [.vptr () cs])) (fun x=>b - x.1.2)
  ⟨(f,a+1),⟨by simp only;omega,by simp only;omega,wo fun i j hi hij hj=>by simp only at hj;omega⟩⟩ (by simp) fun x=>?_)
 obtain⟨⟨h,i⟩,hai,hib,hS⟩:=x
 simp only at hai hib hS ⊢
 by_cases hlt:i < b
 ·refine WL.seq (WL.sreg (by simp[hlt];rfl) (by simp;rfl) ?_)
  refine WL.cond (t:=true) (by simp[hlt]) (fun _=>WL.skip ?_) (by simp)
  have hIh:=hS.inN (by omega) hIn
  refine WL.seq (WL.block (WL.sreg (by simp;rfl) (by simp;rfl) ?_))
  refine WL.block (WL.loop (ι:={j:Nat // a≤j∧j≤i∧∀ k,j≤k→k < i→key (h i) < key (h k)}) (fun j=>inT (z2f h j.1 i (i+1)) N a b i j.1 (.clos g [.vptr () cs])) (fun j=>j.1)
   ⟨i,⟨by omega,pr _,fun k h1 h2=>by omega⟩⟩ (by simp[zgl]) fun x=>?_)
  obtain⟨j,haj,hji,hgt⟩:=x
  simp only
  have hIr:=zsv (j:=j) hji (by omega) hIh
  have hout:∀ (T:Bool),(a < j→¬ key (h i) < key (h (j - 1)))→WL Try.prog zp8.nt zum (inS (z2f h j i (i+1)) N a b i (.clos g [.vptr () cs])) (wg (fun L'=>∃ x:{x:(Nat→Int) × Nat // a < x.2∧x.2≤b∧SM key f a x.2 x.1},L'=inS x.1.1 N a b x.1.2 (.clos g [.vptr () cs])∧b - x.1.2 < b - i) (wj 0 fun e L=>(e=Ex.nrm∨e=Ex.ret)∧RetOk zp8.rs [.nod (rF f' N)] (.tuple []) L)):=fun _ hle=>by
   have w3:IntKind.wrap .i64 ((i:Int)+1)=((i+1:Nat):Int):=by rw[z01 (by omega) (by omega)];omega
   refine WL.reg (RL.run (by simp[w3];rfl) ⟨_,by simp;rfl,?_⟩)
   refine⟨⟨(z2f h j i (i+1),i+1),⟨by simp only;omega,by simp only;omega,zk5 haj hji hS (fun k h1 h2=>hasc k i h1 h2 hlt) hgt hle⟩⟩,by simp,by simp only;omega⟩
  by_cases hja:a < j
  ·have w2:IntKind.wrap .i64 ((j:Int) - 1)=((j - 1:Nat):Int):=by rw[z01 (by omega) (by omega)];omega
   generalize hp:j - 1=p at w2
   have l1:j < N:=by omega
   have l2:p < N:=by omega
   have l1':j+1≤N:=by omega
   have l2':p+1≤N:=by omega
   have hc:=hcl _ _ (hIr j l1) (hIr p l2)
   have hj':(a:Int) < (j:Int):=by omega
   have hvj:z2f h j i (i+1) j=h i:=by simp only[z2f];rw[if_pos (by omega)];congr 1;omega
   have hvp:z2f h j i (i+1) p=h p:=by simp only[z2f];rw[if_neg (by omega),if_neg (by omega)]
   refine WL.seq (WL.seq ?_)
   refine WL.draw z0t (by simp[z0b,noH]) ?_
   refine DL.o (by simp;exact⟨rfl,rfl⟩) (DL.g (by simp[hja,w2,l1,l2,l1',l2'];exact⟨rfl,rfl⟩) ?_)
   refine pc (f:=g) (cps:=[.vptr () cs]) false (by simp[hja]) (by simp) hc (by simp) (by simp) (by simp) ?_
   by_cases hlt2:key (h i) < key (h p)
   ·have c1:zha (key (z2f h j i (i+1) j)) (key (z2f h j i (i+1) p)) < 0:=by rw[z4v,hvj,hvp];exact hlt2
    refine DL.g (by simp[hja,c1];exact⟨rfl,rfl⟩) (DL.o (by simp[hja];exact⟨rfl,rfl⟩) (DL.nil ⟨by kernel_rfl,_,by simp;rfl,?_⟩))
    refine WL.cond (t:=true) (by simp) (fun _=>WL.skip ?_) (by simp)
    have hsw:=zk4 h (i:=i) (by omega:0 < j) hji
    rw[hp] at hsw
    refine WL.seq (WL.block (WL.draw z0t (by simp[z0b,noH]) (DL.o (by simp[w2,l1,l2,l1',l2',ze8];exact⟨rfl,rfl⟩) (DL.nil ⟨by kernel_rfl,_,by simp;rfl,?_⟩))))
    refine WL.reg (RL.run (by simp[w2];rfl) ⟨_,by simp;rfl,?_⟩)
    refine⟨⟨p,by omega,by omega,fun k g1 g2=>?_⟩,by simp[hsw],by simp only;omega⟩
    by_cases e:k=p
    ·subst e;exact hlt2
    ·exact hgt k (by omega) g2
   ·have c1:¬ zha (key (z2f h j i (i+1) j)) (key (z2f h j i (i+1) p)) < 0:=by rw[z4v,hvj,hvp];exact hlt2
    refine DL.g (by simp[hja,c1];exact⟨rfl,rfl⟩) (DL.o (by simp[hja];exact⟨rfl,rfl⟩) (DL.nil ⟨by kernel_rfl,_,by simp;rfl,?_⟩))
    refine WL.cond (t:=false) (by simp) (by simp) fun _=>WL.exit ?_
    have:=hout true (fun _=>by rw[hp];exact hlt2)
    refine WL.fin [9,34] (by simp;rfl) ?_
    exact this
  ·obtain rfl:j=a:=by omega
   refine WL.seq (WL.seq ?_)
   refine WL.draw z0t (by simp[z0b,noH]) ?_
   refine DL.o (by simp;exact⟨rfl,rfl⟩) (DL.g (by simp;exact⟨rfl,rfl⟩) ?_)
   refine DL.cloN (by simp) ?_
   refine DL.g (by simp;exact⟨rfl,rfl⟩) (DL.o (by simp;exact⟨rfl,rfl⟩) (DL.nil ⟨by kernel_rfl,_,by simp;rfl,?_⟩))
   refine WL.cond (t:=false) (by simp) (by simp) fun _=>WL.exit ?_
   have:=hout true (fun h=>absurd h (Nat.lt_irrefl _))
   refine WL.fin [9,34] (by simp;rfl) ?_
   exact this
 ·obtain rfl:i=b:=by omega
  obtain rfl:=z2r hS hf'
  refine WL.seq (WL.sreg (by simp;rfl) (by simp;rfl) ?_)
  refine WL.cond (t:=false) (by simp) (by simp) fun _=>WL.exit ?_
  refine⟨.inl rfl,?_⟩
  simp[zp8]
theorem z82 {i j c:Nat}(h:i+j≤2000000000)(hc:c=(i+j) / 2):IntKind.wrap .i64 ((IntKind.wrap .u64 (IntKind.wrap .i64 ((i:Int)+(j:Int)))).fdiv (2 ^ min 1 (IntKind.bits .u64)))=(c:Int):=by
 rw[z01 (x:=(i:Int)+(j:Int)) (by omega) (by omega)]
 have:IntKind.wrap .u64 ((i:Int)+(j:Int))=(i:Int)+(j:Int):=by
  unfold IntKind.wrap
  simp[IntKind.signed,IntKind.bits]
  omega
 rw[this]
 have e:((i:Int)+(j:Int)).fdiv (2 ^ min 1 (IntKind.bits .u64))=(((i+j) / 2:Nat):Int):=by
  show ((i:Int)+(j:Int)).fdiv 2=_
  rw[Int.fdiv_eq_ediv_of_nonneg _ (by omega)]
  omega
 rw[e,z01 (by omega) (by omega),hc]
theorem zif (f:Nat→Int){s m e:Nat}(h:s=m∨m=e):z2f f s m e=f:=by
 funext k
 simp only[z2f]
 repeat' split
 all_goals first | rfl | (exfalso;omega) | (congr 1;omega)
theorem zpl (f:Nat→Int){a k:Nat}(h:a≤k):zmi (zmi (z2f f a (a+1) (k+1)) k (z2f f a (a+1) (k+1) (k+1))) (k+1) (z2f f a (a+1) (k+1) k)=z2f f a (a+1) (k+1+1):=by
 funext u
 simp only[zmi,z2f]
 repeat' split
 all_goals first | rfl | (exfalso;omega) | (congr 1;omega)
theorem SortedF.key_le {key:Int→Int}{f:Nat→Int}{a b i j:Nat}(h:SortedF key f a b)(hi:a≤i)(hij:i≤j)(hj:j < b):key (f i)≤key (f j):=by
 by_cases e:i=j
 ·rw[e];exact Int.le_refl _
 ·have:=h i j hi (by omega) hj
  unfold lexLt at this
  omega
theorem zpm {key:Int→Int}{f:Nat→Int}{a b i:Nat}(h1:a+1≤i)(h2:i≤b)(hs:SortedF key f (a+1) b)(hlt:∀ k,a+1≤k→k < i→key (f k) < key (f a))(hge:∀ k,i≤k→k < b→lexLt key (f a) (f k)) :
  SM key f a b (z2f f a (a+1) i):=by
 have hR:=zeb f (Nat.le_succ a) h1
 have hfst:∀ k,a≤k→k < i - 1→z2f f a (a+1) i k=f (k+1):=fun k g1 g2=>by
  simp only[z2f];rw[if_pos (by omega)];congr 1;omega
 have hmid:z2f f a (a+1) i (i - 1)=f a:=by
  simp only[z2f]
  rw[if_neg (by omega),if_pos (by omega)];congr 1;omega
 have hrest:∀ k,i≤k→z2f f a (a+1) i k=f k:=fun k g=>hR.out k (.inr g)
 refine zk1 (mid:=i - 1) (pr a) (Nat.le_succ a) h1 h2 (by omega) hR (wo fun u v g1 g2 g3=>?_) (wo fun u v g1 g2 g3=>?_) (fun u v g1 g2 g3=>by omega) hs (fun u v g1 g2=>by omega) (fun u v g1 g2 g3 g4=>?_)
 ·rw[hfst u g1 (by omega),hfst v (by omega) g3]
  exact hs _ _ (by omega) (by omega) (by omega)
 ·by_cases e:u=i - 1
  ·subst e
   rw[hmid,hrest v (by omega)]
   exact hge v (by omega) g3
  ·rw[hrest u (by omega),hrest v (by omega)]
   exact hs _ _ (by omega) g2 g3
 ·obtain rfl:u=a:=by omega
  exact .inl (hlt v g1 g2)
structure Two (key:Int→Int) (f:Nat→Int) (a m b:Nat):Prop where
 l:SortedF key f a m
 r:SortedF key f m b
 x:∀ i j,a≤i→i < m→m≤j→j < b→f i < f j
theorem lexLt.ne {key:Int→Int}{x y:Int}(h:lexLt key x y):x ≠ y:=by
 intro e;subst e;unfold lexLt at h;omega
theorem Two.dist {key:Int→Int}{f:Nat→Int}{a m b:Nat}(h:Two key f a m b):∀ i j,a≤i→i < b→a≤j→j < b→i ≠ j→f i ≠ f j:=by
 have key':∀ i j,a≤i→i < j→j < b→f i ≠ f j:=fun i j h1 h2 h3=>by
  by_cases c1:j < m
  ·exact (h.l i j h1 h2 c1).ne
  ·by_cases c2:m≤i
   ·exact (h.r i j c2 h2 h3).ne
   ·have:=h.x i j h1 (by omega) (by omega) h3
    omega
 intro i j h1 h2 h3 h4 h5
 rcases Nat.lt_or_gt_of_ne h5 with q | q
 ·exact key' i j h1 q h4
 ·exact (key' j i h3 q h2).symm
structure Part (key:Int→Int) (f:Nat→Int) (a m b s e:Nat):Prop where
 sa:a≤s
 sm:s≤m
 me:m≤e
 eb:e≤b
 c1:∀ i j,a≤i→i < s→e≤j→j < b→lexLt key (f i) (f j)
 c2:∀ i j,m≤j→j < e→s≤i→i < m→lexLt key (f j) (f i)
section
variable {key:Int→Int} {f:Nat→Int} {a m b s e:Nat}
theorem Part.at1 (h:Part key f a m b s e):∀ k,k < s→z2f f s m e k=f k:=fun k hk=>by
 simp only[z2f];rw[if_neg (by omega)];by_cases q:s+(e - m)≤k∧k < e
 ·omega
 ·rw[if_neg q]
theorem Part.at2 (h:Part key f a m b s e):∀ k,s≤k→k < s+(e - m)→z2f f s m e k=f (k+(m - s)):=fun k h1 h2=>by
 simp only[z2f];rw[if_pos ⟨h1,h2⟩]
theorem Part.at3 (h:Part key f a m b s e):∀ k,s+(e - m)≤k→k < e→z2f f s m e k=f (k - (e - m)):=fun k h1 h2=>by
 simp only[z2f];rw[if_neg (by omega),if_pos ⟨h1,h2⟩]
theorem Part.at4 (h:Part key f a m b s e):∀ k,e≤k→z2f f s m e k=f k:=fun k hk=>by
 have:=h.sm;have:=h.me
 simp only[z2f];rw[if_neg (by omega),if_neg (by omega)]
theorem Part.two1 (h:Part key f a m b s e)(T:Two key f a m b):Two key (z2f f s m e) a s (s+(e - m)):=by
 have:=h.sa;have:=h.sm;have:=h.me;have:=h.eb
 refine⟨fun i j h1 h2 h3=>?_,fun i j h1 h2 h3=>?_,fun i j h1 h2 h3 h4=>?_⟩
 ·rw[h.at1 i (by omega),h.at1 j h3];exact T.l i j h1 h2 (by omega)
 ·rw[h.at2 i h1 (by omega),h.at2 j (by omega) h3];exact T.r _ _ (by omega) (by omega) (by omega)
 ·rw[h.at1 i h2,h.at2 j h3 h4];exact T.x _ _ h1 (by omega) (by omega) (by omega)
theorem Part.two2 (h:Part key f a m b s e)(T:Two key f a m b){f2:Nat→Int}(hS:SM key (z2f f s m e) a (s+(e - m)) f2):Two key f2 (s+(e - m)) e b:=by
 have:=h.sa;have:=h.sm;have:=h.me;have:=h.eb
 have ho:∀ k,s+(e - m)≤k→f2 k=z2f f s m e k:=fun k hk=>hS.out k (.inr hk)
 refine⟨fun i j h1 h2 h3=>?_,fun i j h1 h2 h3=>?_,fun i j h1 h2 h3 h4=>?_⟩
 ·rw[ho i h1,ho j (by omega),h.at3 i h1 (by omega),h.at3 j (by omega) h3];exact T.l _ _ (by omega) (by omega) (by omega)
 ·rw[ho i (by omega),ho j (by omega),h.at4 i h1,h.at4 j (by omega)];exact T.r _ _ (by omega) (by omega) (by omega)
 ·rw[ho i h1,ho j (by omega),h.at3 i h1 h2,h.at4 j h3];exact T.x _ _ (by omega) (by omega) (by omega) h4
theorem Two.one {f:Nat→Int}(T:Two key f a m b)(h:a=m∨m=b)(h1:a≤m)(h2:m≤b):SM key f a b f:=by
 refine wo fun i j g1 g2 g3=>?_
 rcases h with rfl | rfl
 ·exact T.r i j g1 g2 g3
 ·exact T.l i j g1 g2 g3
theorem Two.ex {f:Nat→Int}(T:Two key f a m b)(h:a≤b):∃ f',SM key f a b f' :=
 zbm key f h fun i j h1 h2 h3=>T.dist i j h1 (by omega) (by omega) h3 (by omega)
theorem Part.done (h:Part key f a m b s e)(T:Two key f a m b){f2 f3:Nat→Int}(hA:SM key (z2f f s m e) a (s+(e - m)) f2)(hB:SM key f2 (s+(e - m)) b f3):SM key f a b f3 :=
 zk1 h.sa h.sm h.me h.eb rfl (zeb f h.sm h.me) hA hB T.l T.r h.c1 h.c2
theorem y06 (T:Two key f a m b){mid s0 r0:Nat}(h1:a < m)(h2:m < b)(hmid:mid=(a+b) / 2)(hs0:s0=if mid < m then mid+m - b else a)(hr0:r0=if mid < m then mid else m)
  (hs:s0≤s) (hr:s≤r0) (hP:∀ c,s0≤c→c < s→¬ key (f (mid+m - 1 - c)) < key (f c)) (hN:∀ c,s≤c→c < r0→key (f (mid+m - 1 - c)) < key (f c)):Part key f a m b s (mid+m - s):=by
 have hb:a≤s0∧r0≤m∧r0≤mid:=by
  rw[hs0,hr0]
  split<;>omega
 have he:m≤mid+m - s∧mid+m - s≤b:=by
  refine⟨by omega,?_⟩
  rw[hs0] at hs
  split at hs<;>omega
 refine⟨by omega,by omega,he.1,he.2,fun i j g1 g2 g3 g4=>?_,fun i j g1 g2 g3 g4=>?_⟩
 ·have hlt:s0 < s:=by
   rcases tv s0 s with q | q
   ·exact q
   ·exfalso
    by_cases hm:mid < m
    ·rw[if_pos hm] at hs0;omega
    ·rw[if_neg hm] at hs0;omega
  have q:=hP (s - 1) (by omega) (by omega)
  rw[show mid+m - 1 - (s - 1)=mid+m - s by omega] at q
  have k1:=T.l.key_le (i:=i) (j:=s - 1) g1 (by omega) (by omega)
  have k2:=T.r.key_le (i:=mid+m - s) (j:=j) (by omega) g3 g4
  have k3:=T.x i j g1 (by omega) (by omega) g4
  unfold lexLt;omega
 ·have hlt:s < r0:=by
   rcases tv s r0 with q | q
   ·exact q
   ·exfalso
    have:s=r0:=by omega
    rw[hr0] at this
    split at this<;>omega
  have q:=hN s (pr _) hlt
  have k1:=T.l.key_le (i:=s) (j:=i) (by omega) g3 g4
  have k2:=T.r.key_le (i:=j) (j:=mid+m - 1 - s) g1 (by omega) (by omega)
  left;omega
theorem zbn (T:Two key f a m b){mid s0 r0:Nat}(h1:a < m)(h2:m < b)(hmid:mid=(a+b) / 2)(hs0:s0=if mid < m then mid+m - b else a)(hr0:r0=if mid < m then mid else m){c c':Nat}(g0:s0≤c)(g1:c≤c')(g2:c' < r0) :
  key (f (mid+m - 1 - c'))≤key (f (mid+m - 1 - c))∧key (f c)≤key (f c')∧mid+m - 1 - c < b∧c' < mid+m∧a≤c∧m≤mid+m - 1 - c':=by
 have hb:a≤s0∧r0≤m∧r0≤mid∧mid+m - 1 - s0 < b:=by
  rw[hs0,hr0]
  split<;>omega
 exact⟨T.r.key_le (by omega) (by omega) (by omega),T.l.key_le (by omega) g1 (by omega),by omega,by omega,by omega,by omega⟩
end
abbrev syQ (f':Nat→Int)(N:Nat):Ex→SL→Prop:=fun e L=>e=Ex.ret∧RetOk z9l.rs [.nod (rF f' N)] (.tuple []) L
theorem ygh {key:Int→Int}{In:Int→Prop}{g:Nat}{cs:List AU}(hcl:zuo key In g cs)(f:Nat→Int)(N a m b:Nat)(hN:z0c N)(h1:m=a+1)(h2:m < b)(h3:b≤N)(hIn:∀ k,k < N→In (f k))(T:Two key f a m b)
  (f':Nat→Int) (hf':SM key f a b f'):WL Try.prog z9l.nt zp9 [(0,0,.view 1000000 0 [] 0 N),(100,0,i64 a),(200,0,i64 m),(300,0,i64 b),(400,0,.clos g [.vptr () cs]),(2800,0,bl true),(1000000,0,rF f N)] (syQ f' N):=by
 have hN':=hN
 unfold z0c at hN'
 refine WL.sreg (by simp;rfl) (by simp;rfl) ?_
 refine WL.sreg (by simp;rfl) (by simp;rfl) ?_
 refine WL.seq (WL.block (WL.loop (ι:={x:Nat × Nat // m≤x.1∧x.1≤x.2∧x.2≤b∧(∀ k,m≤k→k < x.1→key (f k) < key (f a))∧(∀ k,x.2≤k→k < b→¬ key (f k) < key (f a))})
  (fun x=>[(0,0,.view 1000000 0 [] 0 N),(100,0,i64 a),(400,0,.clos g [.vptr () cs]),(1000,0,i64 x.1.1),(1100,0,i64 x.1.2),(1000000,0,rF f N)]) (fun x=>x.1.2 - x.1.1)
  ⟨(m,b),⟨pr _,by simp only;omega,pr _,fun k g1 g2=>by simp only at g2;omega,fun k g1 g2=>by simp only at g1;omega⟩⟩ (by simp) fun x=>?_))
 obtain⟨⟨i,j⟩,q1,q2,q3,q4,q5⟩:=x
 simp only at q1 q2 q3 q4 q5 ⊢
 by_cases hij:i < j
 ·refine WL.seq (WL.sreg (by simp[hij];rfl) (by simp;rfl) ?_)
  refine WL.cond (t:=true) (by simp[hij]) (fun _=>WL.skip ?_) (by simp)
  obtain⟨c,hc⟩:∃ c,c=(i+j) / 2:=⟨_,rfl⟩
  have hw:=z82 (i:=i) (j:=j) (by omega) hc
  have hc1:i≤c∧c < j:=by omega
  have l1:c < N:=by omega
  have l2:a < N:=by omega
  have l1':c+1≤N:=by omega
  have l2':a+1≤N:=by omega
  have hcall:=hcl _ _ (hIn c l1) (hIn a l2)
  refine WL.block (WL.sreg (by simp[hw];rfl) (by simp;rfl) ?_)
  refine WL.seq ?_
  refine WL.draw z0t (by simp[z0b,noH]) ?_
  refine DL.o (by simp[l1,l2,l1',l2'];exact⟨rfl,rfl⟩) ?_
  refine DL.clo0 (f:=g) (cps:=[.vptr () cs]) false (by simp) hcall (by simp) (by simp) (by simp) ?_
  by_cases hlt:key (f c) < key (f a)
  ·have c1:zha (key (f c)) (key (f a)) < 0:=by rw[z4v];exact hlt
   have w:IntKind.wrap .i64 ((c:Int)+1)=((c+1:Nat):Int):=by rw[z01 (by omega) (by omega)];omega
   refine DL.o (by simp[c1];exact⟨rfl,rfl⟩) (DL.nil ⟨by kernel_rfl,_,by simp;rfl,?_⟩)
   refine WL.cond (t:=true) (by simp) (fun _=>?_) (by simp)
   refine WL.reg (RL.run (by simp[w];rfl) ⟨_,by simp;rfl,?_⟩)
   refine⟨⟨(c+1,j),by simp only;omega,by simp only;omega,q3,fun k g1 g2=>?_,q5⟩,by simp,by simp only;omega⟩
   have:=T.r.key_le (i:=k) (j:=c) g1 (by simp only at g2;omega) (by omega)
   omega
  ·have c1:¬ zha (key (f c)) (key (f a)) < 0:=by rw[z4v];exact hlt
   refine DL.o (by simp[c1];exact⟨rfl,rfl⟩) (DL.nil ⟨by kernel_rfl,_,by simp;rfl,?_⟩)
   refine WL.cond (t:=false) (by simp) (by simp) fun _=>?_
   refine WL.reg (RL.run (by simp;rfl) ⟨_,by simp;rfl,?_⟩)
   refine⟨⟨(i,c),q1,by simp only;omega,by simp only;omega,q4,fun k g1 g2=>?_⟩,by simp,by simp only;omega⟩
   have:=T.r.key_le (i:=c) (j:=k) (by omega) g1 g2
   omega
 ·obtain rfl:i=j:=by omega
  refine WL.seq (WL.sreg (by simp;rfl) (by simp;rfl) ?_)
  refine WL.cond (t:=false) (by simp) (by simp) fun _=>WL.exit ?_
  have hdone:=zpm (key:=key) (f:=f) (a:=a) (b:=b) (i:=i) (by omega) q3 (by rw[← h1];exact T.r) (fun k g1 g2=>q4 k (by omega) g2) (fun k g1 g2=>by
   have:=T.x a k (pr a) (by omega) (by omega) g2
   have:=q5 k g1 g2
   unfold lexLt;omega)
  obtain rfl:=z2r hdone hf'
  refine WL.seq (WL.sreg (by simp;rfl) (by simp;rfl) ?_)
  have w:IntKind.wrap .i64 ((i:Int) - 1)=((i - 1:Nat):Int):=by rw[z01 (by omega) (by omega)];omega
  obtain⟨p,hp⟩:∃ p,p=i - 1:=⟨_,rfl⟩
  rw[← hp] at w
  refine WL.block (WL.loop (ι:={k:Nat // a≤k∧k≤p}) (fun k=>[(0,0,.view 1000000 0 [] 0 N),(1000,0,i64 i),(1300,0,i64 k.1),(1000000,0,rF (z2f f a (a+1) (k.1+1)) N)]) (fun k=>p - k.1)
   ⟨a,pr _,by omega⟩ (by simp[zif f (.inr rfl:a=a+1∨a+1=a+1)]) fun x=>?_)
  obtain⟨k,k1,k2⟩:=x
  simp only
  by_cases hk:k < p
  ·have l1:k < N:=by omega
   have w1:IntKind.wrap .i64 ((k:Int)+1)=((k+1:Nat):Int):=by rw[z01 (by omega) (by omega)];omega
   obtain⟨u,hu⟩:∃ u,u=k+1:=⟨_,rfl⟩
   rw[← hu] at w1
   have l2:u < N:=by omega
   have l1':k+1≤N:=by omega
   have l2':u+1≤N:=by omega
   have hsw:=zpl f k1
   rw[← hu] at hsw
   refine WL.seq (WL.sreg (by simp[w,hk];rfl) (by simp;rfl) ?_)
   refine WL.cond (t:=true) (by simp[hk]) (fun _=>WL.skip ?_) (by simp)
   refine WL.seq (WL.block (WL.draw z0t (by simp[z0b,noH]) (DL.o (by simp[w1,l1,l2,l1',l2',ze8];exact⟨rfl,rfl⟩) (DL.nil ⟨by kernel_rfl,_,by simp;rfl,?_⟩))))
   refine WL.reg (RL.run (by simp[w1];rfl) ⟨_,by simp;rfl,?_⟩)
   refine⟨⟨u,by omega,by omega⟩,by simp only[← hu];simp[hsw],by simp only;omega⟩
  ·obtain rfl:k=p:=by omega
   refine WL.seq (WL.sreg (by simp[w];rfl) (by simp;rfl) ?_)
   refine WL.cond (t:=false) (by simp) (by simp) fun _=>WL.exit ?_
   refine WL.ret ⟨rfl,?_⟩
   rw[show k+1=i by omega]
   simp[z9l]
theorem ygi {key:Int→Int}{In:Int→Prop}{g:Nat}{cs:List AU}(hcl:zuo key In g cs)(f:Nat→Int)(N a m b:Nat)(hN:z0c N)(h1:b=m+1)(h2:a < m)(h3:b≤N)(hIn:∀ k,k < N→In (f k))(T:Two key f a m b)
  (f':Nat→Int) (hf':SM key f a b f'):WL Try.prog z9l.nt zpa [(0,0,.view 1000000 0 [] 0 N),(100,0,i64 a),(200,0,i64 m),(300,0,i64 b),(400,0,.clos g [.vptr () cs]),(8000,0,bl true),(1000000,0,rF f N)] (syQ f' N):=by
 have hN':=hN
 unfold z0c at hN'
 refine WL.sreg (by simp;rfl) (by simp;rfl) ?_
 refine WL.sreg (by simp;rfl) (by simp;rfl) ?_
 refine WL.seq (WL.block (WL.loop (ι:={x:Nat × Nat // a≤x.1∧x.1≤x.2∧x.2≤m∧(∀ k,a≤k→k < x.1→¬ key (f m) < key (f k))∧(∀ k,x.2≤k→k < m→key (f m) < key (f k))})
  (fun x=>[(0,0,.view 1000000 0 [] 0 N),(200,0,i64 m),(400,0,.clos g [.vptr () cs]),(1400,0,i64 x.1.1),(1500,0,i64 x.1.2),(1000000,0,rF f N)]) (fun x=>x.1.2 - x.1.1)
  ⟨(a,m),⟨pr _,by simp only;omega,pr _,fun k g1 g2=>by simp only at g2;omega,fun k g1 g2=>by simp only at g1;omega⟩⟩ (by simp) fun x=>?_))
 obtain⟨⟨i,j⟩,q1,q2,q3,q4,q5⟩:=x
 simp only at q1 q2 q3 q4 q5 ⊢
 by_cases hij:i < j
 ·refine WL.seq (WL.sreg (by simp[hij];rfl) (by simp;rfl) ?_)
  refine WL.cond (t:=true) (by simp[hij]) (fun _=>WL.skip ?_) (by simp)
  obtain⟨c,hc⟩:∃ c,c=(i+j) / 2:=⟨_,rfl⟩
  have hw:=z82 (i:=i) (j:=j) (by omega) hc
  have hc1:i≤c∧c < j:=by omega
  have l1:c < N:=by omega
  have l2:m < N:=by omega
  have l1':c+1≤N:=by omega
  have l2':m+1≤N:=by omega
  have hcall:=hcl _ _ (hIn m l2) (hIn c l1)
  refine WL.block (WL.sreg (by simp[hw];rfl) (by simp;rfl) ?_)
  refine WL.seq ?_
  refine WL.draw z0t (by simp[z0b,noH]) ?_
  refine DL.o (by simp[l1,l2,l1',l2'];exact⟨rfl,rfl⟩) ?_
  refine DL.clo0 (f:=g) (cps:=[.vptr () cs]) false (by simp) hcall (by simp) (by simp) (by simp) ?_
  by_cases hlt:key (f m) < key (f c)
  ·have c1:zha (key (f m)) (key (f c)) < 0:=by rw[z4v];exact hlt
   refine DL.o (by simp[c1];exact⟨rfl,rfl⟩) (DL.nil ⟨by kernel_rfl,_,by simp;rfl,?_⟩)
   refine WL.cond (t:=false) (by simp) (by simp) fun _=>?_
   refine WL.reg (RL.run (by simp;rfl) ⟨_,by simp;rfl,?_⟩)
   refine⟨⟨(i,c),q1,by simp only;omega,by simp only;omega,q4,fun k g1 g2=>?_⟩,by simp,by simp only;omega⟩
   have:=T.l.key_le (i:=c) (j:=k) (by omega) g1 g2
   omega
  ·have c1:¬ zha (key (f m)) (key (f c)) < 0:=by rw[z4v];exact hlt
   have w:IntKind.wrap .i64 ((c:Int)+1)=((c+1:Nat):Int):=by rw[z01 (by omega) (by omega)];omega
   refine DL.o (by simp[c1];exact⟨rfl,rfl⟩) (DL.nil ⟨by kernel_rfl,_,by simp;rfl,?_⟩)
   refine WL.cond (t:=true) (by simp) (fun _=>?_) (by simp)
   refine WL.reg (RL.run (by simp[w];rfl) ⟨_,by simp;rfl,?_⟩)
   refine⟨⟨(c+1,j),by simp only;omega,by simp only;omega,q3,fun k g1 g2=>?_,q5⟩,by simp,by simp only;omega⟩
   have:=T.l.key_le (i:=k) (j:=c) g1 (by simp only at g2;omega) (by omega)
   omega
 ·obtain rfl:i=j:=by omega
  refine WL.seq (WL.sreg (by simp;rfl) (by simp;rfl) ?_)
  refine WL.cond (t:=false) (by simp) (by simp) fun _=>WL.exit ?_
  have hdone:=zk5 (key:=key) (f:=f) (h:=f) (a:=a) (i:=m) (j:=i) q1 q3 (wo T.l) (fun k g1 g2=>T.x k m g1 g2 (pr m) (by omega)) q5 (fun hai=>q4 (i - 1) (by omega) (by omega))
  rw[← h1] at hdone
  obtain rfl:=z2r hdone hf'
  refine WL.seq (WL.sreg (by simp;rfl) (by simp;rfl) ?_)
  refine WL.block (WL.loop (ι:={k:Nat // i≤k∧k≤m}) (fun k=>[(0,0,.view 1000000 0 [] 0 N),(1400,0,i64 i),(1700,0,i64 k.1),(1000000,0,rF (z2f f k.1 m (m+1)) N)]) (fun k=>k.1)
   ⟨m,q3,pr _⟩ (by simp[zgl]) fun x=>?_)
  obtain⟨k,k1,k2⟩:=x
  simp only
  by_cases hk:i < k
  ·have l1:k < N:=by omega
   have w1:IntKind.wrap .i64 ((k:Int) - 1)=((k - 1:Nat):Int):=by rw[z01 (by omega) (by omega)];omega
   obtain⟨u,hu⟩:∃ u,u=k - 1:=⟨_,rfl⟩
   rw[← hu] at w1
   have l2:u < N:=by omega
   have l1':k+1≤N:=by omega
   have l2':u+1≤N:=by omega
   have hsw:=zk4 f (i:=m) (j:=k) (by omega) k2
   rw[← hu] at hsw
   refine WL.seq (WL.sreg (by simp[hk];rfl) (by simp;rfl) ?_)
   refine WL.cond (t:=true) (by simp[hk]) (fun _=>WL.skip ?_) (by simp)
   refine WL.seq (WL.block (WL.draw z0t (by simp[z0b,noH]) (DL.o (by simp[w1,l1,l2,l1',l2',ze8];exact⟨rfl,rfl⟩) (DL.nil ⟨by kernel_rfl,_,by simp;rfl,?_⟩))))
   refine WL.reg (RL.run (by simp[w1];rfl) ⟨_,by simp;rfl,?_⟩)
   refine⟨⟨u,by omega,by omega⟩,by simp[hsw],by simp only;omega⟩
  ·obtain rfl:k=i:=by omega
   refine WL.seq (WL.sreg (by simp;rfl) (by simp;rfl) ?_)
   refine WL.cond (t:=false) (by simp) (by simp) fun _=>WL.exit ?_
   refine WL.ret ⟨rfl,?_⟩
   rw[← h1]
   simp[z9l]
def zsw (key:Int→Int)(In:Int→Prop)(g:Nat)(cs:List AU)(N n:Nat):Prop:=∀ (f:Nat→Int) (a m b:Nat),b - a < n→a < m→m < b→b≤N→(∀ k,k < N→In (f k))→Two key f a m b→∀ f',SM key f a b f' →
 FnC Try.prog 164 [.nod (rF f N)] [.view 1000000 0 [] 0 N,i64 a,i64 m,i64 b,.clos g [.vptr () cs]] [.nod (rF f' N)] (.tuple [])
abbrev syE (f':Nat→Int)(N:Nat):Ex→SL→Prop:=fun e L=>(e=Ex.nrm∨e=Ex.ret)∧RetOk z9l.rs [.nod (rF f' N)] (.tuple []) L
theorem y07 {key:Int→Int}{In:Int→Prop}{g:Nat}{cs:List AU}(f:Nat→Int)(N a m b s:Nat)(hN:z0c N)(h1:a < m)(h2:m < b)(h3:b≤N)(hIn:∀ k,k < N→In (f k))(T:Two key f a m b)
  (hrec:zsw key In g cs N (b - a)) (f':Nat→Int) (hf':SM key f a b f') (mid:Nat) (hmid:mid=(a+b) / 2) (hp:Part key f a m b s (mid+m - s)) (hs:s≤mid) (r p:Int) :
  WL Try.prog z9l.nt zpb [(0,0,.view 1000000 0 [] 0 N),(100,0,i64 a),(200,0,i64 m),(300,0,i64 b),(400,0,.clos g [.vptr () cs]),(1800,0,i64 mid),(1900,0,i64 (mid+m:Nat)),(2000,0,i64 s),(2100,0,i64 r),(2200,0,i64 p),(15100,0,bl false),(1000000,0,rF f N)] (syE f' N):=by
 have hN':=hN
 unfold z0c at hN'
 have b1:=hp.sa
 have b2:=hp.sm
 have b3:=hp.me
 have b4:=hp.eb
 obtain⟨e,he⟩:∃ e,e=mid+m - s:=⟨_,rfl⟩
 rw[← he] at hp b3 b4
 have hme:s+(e - m)=mid:=by omega
 obtain⟨f2,hA⟩:=(hp.two1 T).ex (by omega:a≤s+(e - m))
 obtain⟨f3,hB⟩:=(hp.two2 T hA).ex (by omega:s+(e - m)≤b)
 obtain rfl:=z2r (hp.done T hA hB) hf'
 have t1:=hp.two1 T
 have t2:=hp.two2 T hA
 rw[hme] at hA hB t1 t2
 obtain⟨q,hq⟩:∃ q,q=mid+m:=⟨_,rfl⟩
 rw[← hq]
 have w1:IntKind.wrap .i64 ((q:Int) - (s:Int))=(e:Int):=by rw[z01 (by omega) (by omega)];omega
 have hIr:∀ k,k < N→In (z2f f s m e k):=fun k hk=>by
  simp only[z2f]
  repeat' split
  all_goals exact hIn _ (by omega)
 have hI2:=hA.inN (by omega) hIr
 refine WL.sreg (by simp[w1];rfl) (by simp;rfl) ?_
 -- behind the rotation
 refine WL.seq (WL.mono (Q':=fun x L=>x=Ex.nrm∧L=[(0,0,.view 1000000 0 [] 0 N),(100,0,i64 a),(300,0,i64 b),(400,0,.clos g [.vptr () cs]),(1800,0,i64 mid),(2000,0,i64 s),(2400,0,i64 e),(1000000,0,rF (z2f f s m e) N)]) ?_ ?_)
 ·by_cases c1:s < m
  ·by_cases c2:m < e
   ·have hc:=ygf f N s m e hN c1 c2 (by omega) g cs
    refine WL.sreg (by simp[c1,c2];rfl) (by simp;rfl) ?_
    refine WL.cond (t:=true) (by simp) (fun _=>?_) (by simp)
    refine WL.reg (RL.o (by simp;rfl) (wn false [(1000000,[])] hc (by simp) (by simp) (by simp[z36]) (by simp) (by simp) (RL.nil ⟨_,by simp;rfl,rfl,?_⟩)))
    simp
   ·refine WL.sreg (by simp[c1,c2];rfl) (by simp;rfl) ?_
    refine WL.cond (t:=false) (by simp) (by simp) fun _=>?_
    refine WL.fin [2,185] (by simp;rfl) (WL.skip ⟨rfl,?_⟩)
    rw[zif f (.inr (by omega))]
  ·refine WL.sreg (by simp[c1];rfl) (by simp;rfl) ?_
   refine WL.cond (t:=false) (by simp) (by simp) fun _=>?_
   refine WL.fin [2,185] (by simp;rfl) (WL.skip ⟨rfl,?_⟩)
   rw[zif f (.inl (by omega))]
 ·rintro x L ⟨rfl,rfl⟩
  refine WL.seq (WL.mono (Q':=fun x L=>x=Ex.nrm∧L=[(0,0,.view 1000000 0 [] 0 N),(300,0,i64 b),(400,0,.clos g [.vptr () cs]),(1800,0,i64 mid),(2400,0,i64 e),(1000000,0,rF f2 N)]) ?_ ?_)
  ·by_cases c1:a < s
   ·by_cases c2:s < mid
    ·have hc:=hrec (z2f f s m e) a s mid (by omega) c1 c2 (by omega) hIr t1 f2 hA
     refine WL.sreg (by simp[c1,c2];rfl) (by simp;rfl) ?_
     refine WL.cond (t:=true) (by simp) (fun _=>?_) (by simp)
     refine WL.reg (RL.o (by simp;rfl) (wn false [(1000000,[])] hc (by simp) (by simp) (by simp[z36]) (by simp) (by simp) (RL.nil ⟨_,by simp;rfl,rfl,?_⟩)))
     simp
    ·refine WL.sreg (by simp[c1,c2];rfl) (by simp;rfl) ?_
     refine WL.cond (t:=false) (by simp) (by simp) fun _=>?_
     refine WL.fin [1,20,199] (by simp;rfl) (WL.skip ⟨rfl,?_⟩)
     rw[z2r (t1.one (.inr (by omega)) (by omega) (by omega)) hA]
   ·refine WL.sreg (by simp[c1];rfl) (by simp;rfl) ?_
    refine WL.cond (t:=false) (by simp) (by simp) fun _=>?_
    refine WL.fin [1,20,199] (by simp;rfl) (WL.skip ⟨rfl,?_⟩)
    rw[z2r (t1.one (.inl (by omega)) (by omega) (by omega)) hA]
  ·rintro x L ⟨rfl,rfl⟩
   by_cases c1:mid < e
   ·by_cases c2:e < b
    ·have hc:=hrec f2 mid e b (by omega) c1 c2 h3 hI2 t2 f3 hB
     refine WL.sreg (by simp[c1,c2];rfl) (by simp;rfl) ?_
     refine WL.cond (t:=true) (by simp) (fun _=>?_) (by simp)
     refine WL.reg (RL.o (by simp;rfl) (wn false [(1000000,[])] hc (by simp) (by simp) (by simp[z36]) (by simp) (by simp) (RL.nil ⟨_,by simp;rfl,.inl rfl,?_⟩)))
     simp[z9l]
    ·obtain rfl:=z2r (t2.one (.inr (by omega)) (by omega) (by omega)) hB
     refine WL.sreg (by simp[c1,c2];rfl) (by simp;rfl) ?_
     refine WL.cond (t:=false) (by simp) (by simp) fun _=>WL.skip ⟨.inl rfl,?_⟩
     simp[z9l]
   ·obtain rfl:=z2r (t2.one (.inl (by omega)) (by omega) (by omega)) hB
    refine WL.sreg (by simp[c1];rfl) (by simp;rfl) ?_
    refine WL.cond (t:=false) (by simp) (by simp) fun _=>WL.skip ⟨.inl rfl,?_⟩
    simp[z9l]
theorem zd4 {key:Int→Int}{In:Int→Prop}{g:Nat}{cs:List AU}(hcl:zuo key In g cs)(f:Nat→Int)(N a m b:Nat)(hN:z0c N)(h1:a < m)(h2:m < b)(h3:b≤N)(hIn:∀ k,k < N→In (f k))(T:Two key f a m b)
  (hrec:zsw key In g cs N (b - a)) (f':Nat→Int) (hf':SM key f a b f') (mid s0 r0:Nat) (hmid:mid=(a+b) / 2) (hs0:s0=if mid < m then mid+m - b else a) (hr0:r0=if mid < m then mid else m) :
  WL Try.prog z9l.nt zpc [(0,0,.view 1000000 0 [] 0 N),(100,0,i64 a),(200,0,i64 m),(300,0,i64 b),(400,0,.clos g [.vptr () cs]),(1800,0,i64 mid),(1900,0,i64 (mid+m:Nat)),(2000,0,i64 s0),(2100,0,i64 r0),(1000000,0,rF f N)] (syE f' N):=by
 have hN':=hN
 unfold z0c at hN'
 have hb:a≤s0∧s0≤r0∧r0≤m∧r0≤mid∧mid < b∧a≤mid:=by
  by_cases hm:mid < m
  ·rw[if_pos hm] at hs0 hr0;omega
  ·rw[if_neg hm] at hs0 hr0;omega
 obtain⟨b1,b2,b3,b4,b5,b6⟩:=hb
 obtain⟨q,hq⟩:∃ q,q=mid+m:=⟨_,rfl⟩
 obtain⟨p,hp⟩:∃ p,p=q - 1:=⟨_,rfl⟩
 have w1:IntKind.wrap .i64 ((q:Int) - 1)=(p:Int):=by rw[z01 (by omega) (by omega)];omega
 rw[← hq]
 refine WL.sreg (by simp[w1];rfl) (by simp;rfl) ?_
 refine WL.seq (WL.block (WL.loop (ι:={x:Nat × Nat // s0≤x.1∧x.1≤x.2∧x.2≤r0∧(∀ c,s0≤c→c < x.1→¬ key (f (mid+m - 1 - c)) < key (f c))∧(∀ c,x.2≤c→c < r0→key (f (mid+m - 1 - c)) < key (f c))})
  (fun x=>[(0,0,.view 1000000 0 [] 0 N),(100,0,i64 a),(200,0,i64 m),(300,0,i64 b),(400,0,.clos g [.vptr () cs]),(1800,0,i64 mid),(1900,0,i64 q),(2000,0,i64 x.1.1),(2100,0,i64 x.1.2),(2200,0,i64 p),(1000000,0,rF f N)]) (fun x=>x.1.2 - x.1.1)
  ⟨(s0,r0),⟨pr _,b2,pr _,fun k g1 g2=>by simp only at g2;omega,fun k g1 g2=>by simp only at g1;omega⟩⟩ (by simp) fun x=>?_))
 obtain⟨⟨i,j⟩,q1,q2,q3,q4,q5⟩:=x
 simp only at q1 q2 q3 q4 q5 ⊢
 by_cases hij:i < j
 ·refine WL.seq (WL.sreg (by simp[hij];rfl) (by simp;rfl) ?_)
  refine WL.cond (t:=true) (by simp[hij]) (fun _=>WL.skip ?_) (by simp)
  obtain⟨c,hc⟩:∃ c,c=(i+j) / 2:=⟨_,rfl⟩
  have hw:=z82 (i:=i) (j:=j) (by omega) hc
  have hc1:i≤c∧c < j:=by omega
  have hst:=zbn T h1 h2 hmid hs0 hr0 (c:=c) (c':=c) (by omega) (pr _) (by omega)
  obtain⟨u,hu⟩:∃ u,u=p - c:=⟨_,rfl⟩
  have hu':u=mid+m - 1 - c:=by omega
  have w2:IntKind.wrap .i64 ((p:Int) - (c:Int))=(u:Int):=by rw[z01 (by omega) (by omega)];omega
  have l1:u < N:=by omega
  have l2:c < N:=by omega
  have l1':u+1≤N:=by omega
  have l2':c+1≤N:=by omega
  have hcall:=hcl _ _ (hIn u l1) (hIn c l2)
  refine WL.block (WL.sreg (by simp[hw];rfl) (by simp;rfl) ?_)
  refine WL.seq ?_
  refine WL.draw z0t (by simp[z0b,noH]) ?_
  refine DL.o (by simp[w2,l1,l2,l1',l2'];exact⟨rfl,rfl⟩) ?_
  refine DL.clo0 (f:=g) (cps:=[.vptr () cs]) false (by simp) hcall (by simp) (by simp) (by simp) ?_
  by_cases hlt:key (f u) < key (f c)
  ·have c1:zha (key (f u)) (key (f c)) < 0:=by rw[z4v];exact hlt
   refine DL.o (by simp[c1];exact⟨rfl,rfl⟩) (DL.nil ⟨by kernel_rfl,_,by simp;rfl,?_⟩)
   refine WL.cond (t:=false) (by simp) (by simp) fun _=>?_
   refine WL.reg (RL.run (by simp;rfl) ⟨_,by simp;rfl,?_⟩)
   refine⟨⟨(i,c),q1,by simp only;omega,by simp only;omega,q4,fun k g1 g2=>?_⟩,by simp,by simp only;omega⟩
   have:=zbn T h1 h2 hmid hs0 hr0 (c:=c) (c':=k) (by omega) g1 g2
   rw[hu'] at hlt
   omega
  ·have c1:¬ zha (key (f u)) (key (f c)) < 0:=by rw[z4v];exact hlt
   have w:IntKind.wrap .i64 ((c:Int)+1)=((c+1:Nat):Int):=by rw[z01 (by omega) (by omega)];omega
   refine DL.o (by simp[c1];exact⟨rfl,rfl⟩) (DL.nil ⟨by kernel_rfl,_,by simp;rfl,?_⟩)
   refine WL.cond (t:=true) (by simp) (fun _=>?_) (by simp)
   refine WL.reg (RL.run (by simp[w];rfl) ⟨_,by simp;rfl,?_⟩)
   refine⟨⟨(c+1,j),by simp only;omega,by simp only;omega,q3,fun k g1 g2=>?_,q5⟩,by simp,by simp only;omega⟩
   have:=zbn T h1 h2 hmid hs0 hr0 (c:=k) (c':=c) g1 (by simp only at g2;omega) (by omega)
   rw[hu'] at hlt
   omega
 ·obtain rfl:i=j:=by omega
  refine WL.seq (WL.sreg (by simp;rfl) (by simp;rfl) ?_)
  refine WL.cond (t:=false) (by simp) (by simp) fun _=>WL.exit ?_
  have hpart:=y06 T h1 h2 hmid hs0 hr0 q1 q3 q4 q5
  have:=y07 (g:=g) (cs:=cs) (In:=In) f N a m b i hN h1 h2 h3 hIn T hrec f' hf' mid hmid hpart (by omega) i p
  rw[← hq] at this
  exact this
theorem zpn {key:Int→Int}{In:Int→Prop}{g:Nat}{cs:List AU}(hcl:zuo key In g cs)(N:Nat)(hN:z0c N):∀ n,zsw key In g cs N n
 | 0=>fun f a m b h=>by omega
 | n+1=>fun f a m b hn h1 h2 h3 hIn T f' hf'=>by
  have hN':=hN
  unfold z0c at hN'
  have ih:=zpn hcl N hN n
  refine wc yu5 rfl ?_
  have w1:IntKind.wrap .i64 ((m:Int) - (a:Int))=((m - a:Nat):Int):=by rw[z01 (by omega) (by omega)];omega
  have w2:IntKind.wrap .i64 ((b:Int) - (m:Int))=((b - m:Nat):Int):=by rw[z01 (by omega) (by omega)];omega
  obtain⟨u,hu⟩:∃ u,u=m - a:=⟨_,rfl⟩
  obtain⟨v,hv⟩:∃ v,v=b - m:=⟨_,rfl⟩
  rw[← hu] at w1
  rw[← hv] at w2
  by_cases c1:u=1
  ·subst c1
   refine WL.seq (WL.sreg (by simp[w1];rfl) (by simp;rfl) ?_)
   refine WL.cond (t:=true) (by simp) (fun _=>?_) (by simp)
   have:=ygh hcl f N a m b hN (by omega) h2 h3 hIn T f' hf'
   refine this.mono fun e L h=>?_
   obtain⟨rfl,h⟩:=h
   exact⟨.inr rfl,h⟩
  have d1:((u:Int) == 1)=false:=by simpa using (by omega:¬ (u:Int)=1)
  refine WL.seq (WL.sreg (by simp[w1,d1];rfl) (by simp;rfl) ?_)
  refine WL.cond (t:=false) (by simp[c1]) (by simp) fun _=>WL.skip ?_
  by_cases c2:v=1
  ·subst c2
   refine WL.seq (WL.sreg (by simp[w2];rfl) (by simp;rfl) ?_)
   refine WL.cond (t:=true) (by simp) (fun _=>?_) (by simp)
   have:=ygi hcl f N a m b hN (by omega) h1 h3 hIn T f' hf'
   refine this.mono fun e L h=>?_
   obtain⟨rfl,h⟩:=h
   exact⟨.inr rfl,h⟩
  have d2:((v:Int) == 1)=false:=by simpa using (by omega:¬ (v:Int)=1)
  refine WL.seq (WL.sreg (by simp[w2,d2];rfl) (by simp;rfl) ?_)
  refine WL.cond (t:=false) (by simp[c2]) (by simp) fun _=>WL.skip ?_
  obtain⟨mid,hmid⟩:∃ mid,mid=(a+b) / 2:=⟨_,rfl⟩
  have hw:=z82 (i:=a) (j:=b) (by omega) hmid
  have hrec:zsw key In g cs N (b - a):=fun f a' m' b' q=>ih f a' m' b' (by omega)
  refine WL.sreg (by simp[hw];rfl) (by simp;rfl) ?_
  have w3:IntKind.wrap .i64 ((mid:Int)+(m:Int))=((mid+m:Nat):Int):=by rw[z01 (by omega) (by omega)];omega
  obtain⟨q,hq⟩:∃ q,q=mid+m:=⟨_,rfl⟩
  rw[← hq] at w3
  refine WL.sreg (by simp[w3];rfl) (by simp;rfl) ?_
  refine WL.sreg (by simp;rfl) (by simp;rfl) ?_
  by_cases hm:mid < m
  ·have w4:IntKind.wrap .i64 ((q:Int) - (b:Int))=((mid+m - b:Nat):Int):=by rw[z01 (by omega) (by omega)];omega
   refine WL.seq (WL.sreg (by simp[hm];rfl) (by simp;rfl) ?_)
   refine WL.cond (t:=true) (by simp[hm]) (fun _=>?_) (by simp)
   have:=zd4 hcl f N a m b hN h1 h2 h3 hIn T hrec f' hf' mid (mid+m - b) mid hmid (by rw[if_pos hm]) (by rw[if_pos hm])
   rw[← hq] at this
   obtain⟨z,hz⟩:∃ z,z=mid+m - b:=⟨_,rfl⟩
   rw[← hq] at w4 hz
   rw[← hz] at w4 this
   refine WL.sreg (by simp[w4];rfl) (by simp;rfl) ?_
   refine WL.reg (RL.run (by simp;rfl) ⟨_,by simp;rfl,?_⟩)
   exact this
  ·refine WL.seq (WL.sreg (by simp[hm];rfl) (by simp;rfl) ?_)
   refine WL.cond (t:=false) (by simp[hm]) (by simp) fun _=>?_
   have:=zd4 hcl f N a m b hN h1 h2 h3 hIn T hrec f' hf' mid a m hmid (by rw[if_neg hm]) (by rw[if_neg hm])
   rw[← hq] at this
   refine WL.sreg (by simp;rfl) (by simp;rfl) ?_
   refine WL.reg (RL.run (by simp;rfl) ⟨_,by simp;rfl,?_⟩)
   exact this
end Go.OT
