/- Part 11 of the proof: see its last file. -/
import Derived.Orders
import Derived.Below
import Derived.Laws.Entries
import Derived.Laws.Cells
import Derived.Laws.IdiomCopy
import Derived.Scope
import Derived.Calls
import Derived.Laws.Tables
import Derived.Laws.MakeOwn
import Derived.Laws.BytesString
import Derived.ArgAppend
import Derived.WalkSpells
import Derived.Lib.SlBytesConst
import Derived.Lib.ConvBytes
import Derived.WalkKit
import Derived.ProofKit
import Derived.OpenShut
import Derived.ShutString
import Derived.ChangeOld
import Derived.Lib.SmallJoins
import Derived.Test.YtlcemfnjhdcmoaaProg
import Derived.KernelRfl
import Derived.IntWalk
import Derived.Lib.Strings
import Derived.Test.YtlcemfnjhdcmoaaHd10
set_option linter.unusedSimpArgs false
set_option linter.unusedVariables false
namespace Go.OT
open Go.Proofs
def c8_0 : Cd := (.seq (.reg [0, 1, 2, 3, 23, 24] [.call none 24 27 [], .o [.asg 8 (.t 24)]]) .ret)
def c8_1 : Cd := (.cond (.t 23) c8_0 .skip)
def c8_2 : Cd := (.cond (.t 28) .skip (.exit 0))
def c8_3 : Cd := (.seq (.reg [0, 1, 2, 3, 9, 38, 39] [.call none 39 27 [], .o [.asg 8 (.t 39)]]) .ret)
def c8_4 : Cd := (.cond (.t 38) c8_3 .skip)
def c8_5 : Cd := (.reg [38, 29, 30] [.o [.mov 29 (.t 9), .bin 30 .add (.t 29) (cI 1), .asg 9 (.t 30)]])
def c8_6 : Cd := (.seq (.block 1 (.seq (.reg [28, 31, 32, 33, 34, 35, 36, 37] [.o [.mov 31 (.t 0), .mov 32 (.t 9), .iaddr 33 7 (.t 31) (.t 32), .faddr 34 1 (.t 33), .faddr 35 5 (.t 34), .ld 36 1 false (.t 35), .len 37 (.t 36), .bin 38 .gtr (.t 37) (cI 40)]]) c8_4)) c8_5)
def c8_7 : Cd := (.seq (.seq (.reg [25, 26, 27] [.o [.mov 25 (.t 9), .mov 26 (.t 0), .len 27 (.t 26), .bin 28 .lss (.t 25) (.t 27)]]) c8_2) c8_6)
def c8_8 : Cd := (.block 0 (.loop c8_7))
def c8_9 : Cd := (.seq (.reg [3, 10, 11, 55, 56, 57, 58, 59, 60, 61] [.call none 56 27 [], .o [.mov 57 (.t 56)], .g 57 true [.mov 58 (.t 10)], .call (some (57, true)) 59 28 [(.t 58), (cI 5), (cI 3)], .g 57 true [.bin 60 .eql (.t 59) (cI 0)], .o [.pick 61 (.t 57) (.t 60) (cB false), .asg 8 (.t 61)]]) .ret)
def c8_10 : Cd := (.cond (.t 55) c8_9 .skip)
def c8_11 : Cd := (.seq (.reg [11, 12, 14, 15, 101, 102, 103, 104, 105, 106, 107, 108, 109, 110, 111, 112, 113, 114, 115, 116, 117, 118, 119, 120] [.call none 101 27 [], .o [.mov 102 (.t 101)], .g 102 true [.mov 103 (.t 12)], .call (some (102, true)) 104 28 [(.t 103), (cI 5), (cI 3)], .g 102 true [.mov 105 (.t 12)], .call (some (102, true)) 106 35 [(.t 105), (cI 5), (cI 3)], .g 102 true [.bin 107 .eql (.t 104) (.t 106)], .o [.pick 108 (.t 102) (.t 107) (cB false), .mov 109 (.t 108)], .g 109 true [.mov 110 (.t 14)], .call (some (109, true)) 111 28 [(.t 110), (cI 5), (cI 3)], .g 109 true [.mov 112 (.t 11), .bin 113 .add (.t 112) (cI 1), .bin 114 .eql (.t 111) (.t 113)], .o [.pick 115 (.t 109) (.t 114) (cB false), .mov 116 (.t 115)], .g 116 true [.mov 117 (.t 15)], .call (some (116, true)) 118 28 [(.t 117), (cI 5), (cI 3)], .g 116 true [.bin 119 .neq (.t 118) (cI 0)], .o [.pick 120 (.t 116) (.t 119) (cB false), .asg 8 (.t 120)]]) .ret)
def c8_12 : Cd := (.seq (.reg [91, 92, 93, 94, 95, 96, 97, 98, 99, 100] [.o [.mov 91 (.t 15), .mov 92 (.t 11), .mov 93 (.t 15), .mov 94 (.t 11), .iaddr 95 14 (.t 93) (.t 94), .faddr 96 12 (.t 95), .ld 97 1 false (.t 96), .bin 98 .add (.t 97) (cI 1), .iaddr 99 14 (.t 91) (.t 92), .faddr 100 11 (.t 99), .st 1 (.t 100) (.t 98)]]) c8_11)
def c8_13 : Cd := (.seq (.reg [10, 88, 89, 90] [.o [.bs0 88 14, .mov 89 (.t 10), .app 90 14 144 (.t 88) (.t 89), .asg 15 (.t 90)]]) c8_12)
def c8_14 : Cd := (.seq (.reg [78, 79, 80, 81, 82, 83, 84, 85, 86, 87] [.o [.mov 78 (.t 14), .mov 79 (.t 11), .mov 80 (.t 14), .mov 81 (.t 11), .iaddr 82 14 (.t 80) (.t 81), .faddr 83 13 (.t 82), .ld 84 1 false (.t 83), .bin 85 .add (.t 84) (cI 1), .iaddr 86 14 (.t 78) (.t 79), .faddr 87 12 (.t 86), .st 1 (.t 87) (.t 85)]]) c8_13)
def c8_15 : Cd := (.seq (.reg [75, 76, 77] [.o [.bs0 75 14, .mov 76 (.t 10), .app 77 14 144 (.t 75) (.t 76), .asg 14 (.t 77)]]) c8_14)
def c8_16 : Cd := (.seq (.reg [13, 69, 70, 71, 72, 73, 74] [.o [.mov 69 (.t 12), .mov 70 (.t 11), .mov 71 (.t 13), .build 72 [(.sc (.int .i64 0)), (.sc (.int .i64 0)), (.sc (.int .i64 0)), (.sc (.slice none 0 0))] [(0, 1, (.t 71))], .iaddr 73 14 (.t 69) (.t 70), .faddr 74 7 (.t 73), .st 4 (.t 74) (.t 72)]]) c8_15)
def c8_17 : Cd := (.seq (.reg [3, 65, 66, 67, 68] [.o [.mov 65 (.t 3), .conv 66 .u64 (.t 65), .bin 67 .rem (.t 66) (.c (.sc (.int .u64 14))), .conv 68 .i64 (.t 67), .asg 13 (.t 68)]]) c8_16)
def c8_18 : Cd := (.seq (.reg [55, 62, 63, 64] [.o [.bs0 62 14, .mov 63 (.t 10), .app 64 14 144 (.t 62) (.t 63), .asg 12 (.t 64)]]) c8_17)
def c8_19 : Cd := (.seq (.seq (.reg [50, 51, 52, 53, 54] [.o [.mov 50 (.t 10), .mov 51 (.t 11), .iaddr 52 14 (.t 50) (.t 51), .faddr 53 13 (.t 52), .ld 54 1 false (.t 53), .bin 55 .eql (.t 54) (cI 0)]]) c8_10) c8_18)
def c8_20 : Cd := (.seq (.reg [2, 43, 44, 45, 46, 47, 48, 49] [.o [.mov 43 (.t 2), .conv 44 .u64 (.t 43), .mov 45 (.t 10), .len 46 (.t 45), .conv 47 .u64 (.t 46), .bin 48 .rem (.t 44) (.t 47), .conv 49 .i64 (.t 48), .asg 11 (.t 49)]]) c8_19)
def c8_21 : Cd := (.seq (.reg [0, 1, 9, 25, 26, 27, 28, 40, 41, 42] [.o [.mov 40 (.t 0), .mov 41 (.t 1)], .call none 42 41 [(.t 40), (.t 41)], .o [.asg 10 (.t 42)]]) c8_20)
def c8_22 : Cd := (.seq (.seq (.reg [23] [.o [.asg 9 (cI 0)]]) c8_8) c8_21)
def c8_23 : Cd := (.seq (.seq (.reg [16, 17, 18, 19, 20, 21, 22] [.o [.mov 16 (.t 0), .len 17 (.t 16), .bin 18 .gtr (.t 17) (cI 40), .mov 19 (.t 18)], .g 19 false [.mov 20 (.t 0), .len 21 (.t 20), .bin 22 .lss (.t 21) (cI 1)], .o [.pick 23 (.t 19) (cB true) (.t 22)]]) c8_1) c8_22)
def fi8 : FI := ⟨121, 4, [.t 8], (.seq (.reg [8] [.o [.asg 8 (cB false)]]) c8_23)⟩
theorem ok8 : fiOk Try.prog 8 fi8 := ⟨_, _, Try.func8, rfl, by kernel_rfl, by kernel_rfl, Try.call8⟩
theorem timesF_set {l:List Ev}{k j:Nat}(hjk:j < k)(e':Ev)(c:Int):timesF (l.set k e') j c=timesF l j c:=by
 have h1:∀ i,i < k→(l.set k e')[i]?=l[i]?:=fun i hi=>List.getElem?_set_ne (by omega)
 have h2:(l.set k e').take j=l.take j:=List.take_set_of_le (by omega)
 unfold timesF
 rw[h1 j hjk]
 cases l[j]? with
 | none=>rfl
 | some e =>
  simp only[timesE,tmBad,tmPrev,h2,List.getD_eq_getElem?_getD,h1 (j - 1) (by omega)]
theorem tells_stamp {l:List Ev}{now:Int}(h:Tm l now){k:Nat}(hk:k < l.length)(hE:l[k].End ≠ 0):chkF (l.set k { l[k] with Stamp:=l[k].End+1 }) 5 3=k+1:=by
 have hb:newBad 5 3=false:=by kernel_rfl
 have he:=h.e k _ (List.getElem?_eq_getElem hk)
 have hb':=h.b k _ (List.getElem?_eq_getElem hk)
 have hk':k < (l.set k { l[k] with Stamp:=l[k].End+1 }).length:=by simpa using hk
 have hf:firstBad (l.set k { l[k] with Stamp:=l[k].End+1 }) 3=some k:=by
  refine firstBad_some hk' (fun j hj=>by rw[timesF_set hj];exact h.times j (by omega)) ?_
  rw[timesF_at hk']
  have:tmStamp ({ l[k] with Stamp:=l[k].End+1 }:Ev)=true:=by
   have a1:0 < l[k].End:=by omega
   have a2:l[k].End < l[k].End+1:=by omega
   simp[tmStamp,a1,a2]
  simp[timesE,this]
 unfold chkF walkF
 rw[hb,hf]
 simp
theorem fbAll {l:List Ev}{c:Int}(h:firstBad l c=none):∀ j,j < l.length→timesF l j c=true:=by
 unfold firstBad at h
 rw[List.find?_eq_none] at h
 intro j hj
 simpa using h j (List.mem_range.2 hj)
theorem tells_begin {l:List Ev}{now:Int}(h:Tm l now){k:Nat}(hk:k < l.length)(hE:l[k].End ≠ 0):chkF (l.set k { l[k] with Begin:=l[k].Stamp+1 }) 5 3 ≠ 0:=by
 have hb:newBad 5 3=false:=by kernel_rfl
 have he:=h.e k _ (List.getElem?_eq_getElem hk)
 have hb':=h.b k _ (List.getElem?_eq_getElem hk)
 have hk':k < (l.set k { l[k] with Begin:=l[k].Stamp+1 }).length:=by simpa using hk
 have hbad:timesF (l.set k { l[k] with Begin:=l[k].Stamp+1 }) k 3=false:=by
  rw[timesF_at hk']
  have:tmStamp ({ l[k] with Begin:=l[k].Stamp+1 }:Ev)=true:=by
   have a1:0 < l[k].End:=by omega
   have a2:l[k].Stamp < l[k].Stamp+1:=by omega
   simp[tmStamp,a1,a2]
  simp[timesE,this]
 unfold chkF walkF
 rw[hb]
 cases hf:firstBad (l.set k { l[k] with Begin:=l[k].Stamp+1 }) 3 with
 | none =>
  have:=fbAll hf k hk'
  rw[hbad] at this;cases this
 | some i =>
  simp only[Bool.false_eq_true,if_false]
  omega
theorem evOk_set {l:List Ev}(h:EvOk l){k:Nat}(hk:k < l.length){e':Ev}(he:e'.op=l[k].op):EvOk (l.set k e'):=⟨by simpa using h.n,fun e hm=>by
 rcases List.mem_or_eq_of_mem_set hm with hm | rfl
 ·exact h.d e hm
 ·rw[he];exact h.d _ (List.getElem_mem hk)⟩
theorem wrap_u64' {x:Int}(h:0≤x)(h':x < 18446744073709551616):IntKind.wrap .u64 x=x:=by
 show x % 18446744073709551616=x
 omega
abbrev htQ:Ex→SL→Prop:=fun e L=>e=Ex.ret∧RetOk fi8.rs [] (bl true) L
abbrev htS (l:List Cl)(wt:List Int)(wh co:Int)(i:Nat):SL:=[(0,0,sCl l),(100,0,sI false wt),(200,0,i64 wh),(300,0,i64 co),(900,0,i64 i)]
set_option maxHeartbeats 32000000 in
theorem tells_mid (h:List Ev)(hE:EvOk h)(now:Int)(ht:Tm h now)(hnow:now≤1000)(co:Int)(k:Nat)(hk:k < h.length)(hz:h[k].End ≠ 0) :
  WL Try.prog fi8.nt c8_18 [(300,0,i64 co),(1000,0,sEv h),(1100,0,i64 k),(5500,0,bl false)] htQ:=by
 have he:=ht.e k _ (List.getElem?_eq_getElem hk)
 have hb0:=ht.b k _ (List.getElem?_eq_getElem hk)
 have hn:=hE.n
 have hL:=fmE_len false false h
 have hp:=plainEv h
 have m1:h.length * 144≤140737488355328:=by omega
 have m2:h.length≤maxLen:=by unfold maxLen;omega
 have tk:List.take (h.length * 14) (h.flatMap (cellsEv false false))=h.flatMap (cellsEv false false):=List.take_of_length_le (by rw[fmE_len];exact Nat.le_refl _)
 have i7:k * 14+7 < h.length * 14:=by omega
 have i8:k * 14+8 < h.length * 14:=by omega
 have i9:k * 14+9 < h.length * 14:=by omega
 have i10:k * 14+10 < h.length * 14:=by omega
 have i11:k * 14+11 < h.length * 14:=by omega
 have i12:k * 14+12 < h.length * 14:=by omega
 have j12:k * 14+12+1≤h.length * 14:=by omega
 have j13:k * 14+13+1≤h.length * 14:=by omega
 have i13:k * 14+13 < h.length * 14:=by omega
 have q7:∀ (hh:k * 14+7 < (h.flatMap (cellsEv false false)).length),(h.flatMap (cellsEv false false))[k * 14+7]'hh=i64 h[k].res.Code:=fmE_getE (j:=7) hk (by decide) rfl
 have q8:∀ (hh:k * 14+8 < (h.flatMap (cellsEv false false)).length),(h.flatMap (cellsEv false false))[k * 14+8]'hh=i64 h[k].res.Page:=fmE_getE (j:=8) hk (by decide) rfl
 have q9:∀ (hh:k * 14+9 < (h.flatMap (cellsEv false false)).length),(h.flatMap (cellsEv false false))[k * 14+9]'hh=i64 h[k].res.Handle:=fmE_getE (j:=9) hk (by decide) rfl
 have q10:∀ (hh:k * 14+10 < (h.flatMap (cellsEv false false)).length),(h.flatMap (cellsEv false false))[k * 14+10]'hh=sU false h[k].res.Data:=fmE_getE (j:=10) hk (by decide) rfl
 have q11:∀ (hh:k * 14+11 < (h.flatMap (cellsEv false false)).length),(h.flatMap (cellsEv false false))[k * 14+11]'hh=i64 h[k].Begin:=fmE_getE (j:=11) hk (by decide) rfl
 have q12:∀ (hh:k * 14+12 < (h.flatMap (cellsEv false false)).length),(h.flatMap (cellsEv false false))[k * 14+12]'hh=i64 h[k].Stamp:=fmE_getE (j:=12) hk (by decide) rfl
 have q13:∀ (hh:k * 14+13 < (h.flatMap (cellsEv false false)).length),(h.flatMap (cellsEv false false))[k * 14+13]'hh=i64 h[k].End:=fmE_getE (j:=13) hk (by decide) rfl
 have w1:IntKind.wrap .i64 (h[k].End+1)=h[k].End+1:=by rw[wrap_small (by omega) (by omega)]
 have w2:IntKind.wrap .i64 (h[k].Stamp+1)=h[k].Stamp+1:=by rw[wrap_small (by omega) (by omega)]
 have w3:IntKind.wrap .i64 ((k:Int)+1)=(k:Int)+1:=by rw[wrap_small (by omega) (by omega)]
 have sa:=fun r=>fmE_set5 hk r
 have sb:=fmE_set1 (l:=h) (k:=k) (j:=12) hk (v:=i64 (h[k].End+1)) (e':={ h[k] with Stamp:=h[k].End+1 }) (fun B=>rfl)
 have sd:=fmE_set1 (l:=h) (k:=k) (j:=11) hk (v:=i64 (h[k].Stamp+1)) (e':={ h[k] with Begin:=h[k].Stamp+1 }) (fun B=>rfl)
 obtain⟨hc,ec⟩:=um_spec co 14 (by decide) (by decide)
 generalize um co 14=c at hc ec
 have ec':IntKind.wrap .i64 ((IntKind.wrap .u64 co).tmod 14)=(c:Int):=ec
 obtain⟨xa,exa⟩:∃ x,x=h.set k ⟨h[k].Client,h[k].op,⟨(c:Int),0,0,[]⟩,h[k].Begin,h[k].Stamp,h[k].End⟩:=⟨_,rfl⟩
 obtain⟨xb,exb⟩:∃ x,x=h.set k ⟨h[k].Client,h[k].op,h[k].res,h[k].Begin,h[k].End+1,h[k].End⟩:=⟨_,rfl⟩
 obtain⟨xd,exd⟩:∃ x,x=h.set k ⟨h[k].Client,h[k].op,h[k].res,h[k].Stamp+1,h[k].Stamp,h[k].End⟩:=⟨_,rfl⟩
 have la:xa.length=h.length:=by rw[exa];simp
 have lb:xb.length=h.length:=by rw[exb];simp
 have ld:xd.length=h.length:=by rw[exd];simp
 have sa':=(sa ⟨c,0,0,[]⟩).trans (congrArg (List.flatMap (cellsEv false false)) exa.symm)
 have sb':=sb.trans (congrArg (List.flatMap (cellsEv false false)) exb.symm)
 have sd':=sd.trans (congrArg (List.flatMap (cellsEv false false)) exd.symm)
 have ca:=chk_fn xa (by rw[exa];exact evOk_set hE hk rfl) 5 3
 have ra:=refchk_fn xa (by rw[exa];exact evOk_set hE hk rfl) 5 3
 have cb:=chk_fn xb (by rw[exb];exact evOk_set hE hk rfl) 5 3
 have cd:=chk_fn xd (by rw[exd];exact evOk_set hE hk rfl) 5 3
 have eb:chkF xb 5 3=k+1:=by rw[exb];exact tells_stamp ht hk hz
 have nz:chkF xd 5 3 ≠ 0:=by rw[exd];exact tells_begin ht hk hz
 rw[eb] at cb
 clear sa sb sd exa exb exd eb
 refine WL.sreg (by simp[hL,hp,m1,m2];rfl) (by simp;rfl) ?_
 refine WL.sreg (by simp[ec'];rfl) (by simp;rfl) ?_
 refine WL.wipe1 1200 [k * 14+10] (by simp[hk,q10,hL,i10]) ?_
 refine WL.sregC ?_
 refine RL.cut (segs':=.o [.mov 69 (.t 12),.mov 70 (.t 11),.mov 71 (.t 13),.build 72 [(.sc (.int .i64 0)),(.sc (.int .i64 0)),(.sc (.int .i64 0)),(.sc (.slice none 0 0))] [(0,1,(.t 71))]] :: .o [.iaddr 73 14 (.t 69) (.t 70),.faddr 74 7 (.t 73),.st 4 (.t 74) (.t 72)] :: []) rfl ?_
 refine RL.o (by simp;rfl) (RL.nilA 72 3 1 (by simp;rfl) rfl rfl ?_)
 refine RL.o (by simp[hk,q7,q8,q9,hL,i7,i8,i9,i10];rfl) (RL.nil ⟨_,by simp;rfl,?_⟩)
 refine WL.eqL (L':=[(1000,0,sEv h),(1100,0,i64 k),(1200,0,hEv xa)]) (by simp[← sa',la];rfl) ?_
 refine WL.sreg (by simp[hL,hp,m1,m2];rfl) (by simp;rfl) ?_
 refine WL.sreg (by simp[hk,hL,i13,i12,j13,j12,q13,q12,w1];rfl) (by simp;rfl) ?_
 refine WL.eqL (L':=[(1000,0,sEv h),(1100,0,i64 k),(1200,0,hEv xa),(1400,0,hEv xb)]) (by simp[← sb',lb]) ?_
 refine WL.sreg (by simp[hL,hp,m1,m2];rfl) (by simp;rfl) ?_
 refine WL.sreg (by simp[hk,hL,i11,i12,j12,q11,q12,w2];rfl) (by simp;rfl) ?_
 refine WL.eqL (L':=[(1100,0,i64 k),(1200,0,hEv xa),(1400,0,hEv xb),(1500,0,hEv xd)]) (by simp[← sd',ld]) ?_
 refine WL.freeze 1200 (WL.freeze 1400 (WL.freeze 1500 ?_))
 have nzb:(chkF xd 5 3 != 0)=true:=by simpa using nz
 refine WL.sregC (RL.call0 false histTold_fn (by simp) (by simp) (RL.o (by simp;rfl) (RL.g (by simp;rfl) ?_)))
 refine RL.callY0 false (by simp) ca (by simp) (by simp) (RL.g (by simp;rfl) ?_)
 refine RL.callY0 false (by simp) ra (by simp) (by simp) (RL.g (by simp;rfl) (RL.o (by simp;rfl) (RL.g (by simp;rfl) ?_)))
 refine RL.callY0 false (by simp) cb (by simp) (by simp) (RL.g (by simp[w3];rfl) (RL.o (by simp;rfl) (RL.g (by simp;rfl) ?_)))
 refine RL.callY0 false (by simp) cd (by simp) (by simp) (RL.g (by simp[nzb];rfl) (RL.o (by simp[nzb];rfl) (RL.nil ⟨_,by simp;rfl,WL.ret ⟨rfl,?_⟩⟩)))
 simp[fi8,nzb]
set_option maxHeartbeats 32000000 in
theorem tells_top (l:List Cl)(hl:l.length≤40)(h1:1≤l.length)(hD:∀ x ∈ l,x.op.Data.length≤1000)(wt:List Int)(wh co:Int)(i:Nat):WL Try.prog fi8.nt c8_21 (htS l wt wh co i ++ [(2800,0,bl false)]) htQ:=by
 have hg:=good_fn l (by omega) hD wt
 have hE:=good_ev l wt (by omega)
 have ht:=good_tm l wt
 have hc:=chk_fn (goodF l wt) hE 5 3
 rw[good_chk] at hc
 have hlen:=good_len l wt
 generalize goodF l wt=h at *
 have hn:=hE.n
 have hlI:IntKind.wrap .u64 (h.length:Int)=(h.length:Int):=wrap_u64' (by omega) (by omega)
 obtain⟨hk,ek⟩:=um_spec wh h.length (by omega) (by omega)
 generalize um wh h.length=k at hk ek
 have hne:h ≠ []:=fun e=>by rw[e] at hlen;simp at hlen;omega
 have f1:=fmE_drop (o:=false) (r:=false) hk
 have g1:14≤h.length * 14 - k * 14:=by omega
 refine WL.sregC (RL.o (by simp;rfl) (RL.call0 false hg (by simp) (by simp) (RL.o (by simp;rfl) (RL.nil ⟨_,by simp;rfl,?_⟩))))
 refine WL.freeze 1000 ?_
 refine WL.sreg (by simp[hlI,hne,ek];rfl) (by simp;rfl) ?_
 by_cases hz:h[k].End=0
 ·have z:(h[k].End == 0)=true:=by simp[hz]
  refine WL.seq (WL.sreg (by simp[hk,f1,g1,z];rfl) (by simp;rfl) ?_)
  refine WL.cond (t:=true) (by simp[z]) (fun _=>?_) (by simp)
  refine WL.sregC (RL.call0 false histTold_fn (by simp) (by simp) (RL.o (by simp;rfl) (RL.g (by simp;rfl) ?_)))
  refine RL.callY0 false (by simp) hc (by simp) (by simp) (RL.g (by simp;rfl) (RL.o (by simp;rfl) (RL.nil ⟨_,by simp;rfl,WL.ret ⟨rfl,?_⟩⟩)))
  simp[fi8]
 ·have z:(h[k].End == 0)=false:=beq_false_of_ne hz
  refine WL.seq (WL.sreg (by simp[hk,f1,g1,z];rfl) (by simp;rfl) ?_)
  refine WL.cond (t:=false) (by simp[z]) (by simp) fun _=>WL.skip ?_
  refine WL.eqL (L':=[(300,0,i64 co),(1000,0,sEv h),(1100,0,i64 k),(5500,0,bl false)]) (by simp[z]) ?_
  exact tells_mid h hE _ ht (by omega) co k hk hz
set_option maxHeartbeats 32000000 in
theorem histTells_law (l:List Cl)(hl:l.length≤9223372036854775807)(wt:List Int)(hw:wt.length≤9223372036854775807)(wh co:Int):FnC Try.prog 8 [] [sCl l,sI false wt,i64 wh,i64 co] [] (bl true):=by
 refine FnC.go ok8 rfl ?_
 refine WL.mono (Q':=htQ) ?_ fun e L h=>⟨.inr h.1,h.2⟩
 refine WL.sreg (by simp;rfl) (by simp;rfl) ?_
 by_cases h40:l.length≤40
 ·have q:¬ (40:Int) < l.length:=by omega
  by_cases h1:1≤l.length
  ·have q1:l ≠ []:=fun e=>by rw[e] at h1;simp at h1
   have q2:(1:Int)≤l.length:=by omega
   refine WL.seq (WL.sreg (by simp[q,q1,q2];rfl) (by simp;rfl) ?_)
   refine WL.cond (t:=false) (by simp[q,q1,q2]) (by simp) fun _=>WL.skip ?_
   refine WL.seq (WL.sreg (by simp;rfl) (by simp;rfl) ?_)
   refine WL.block (WL.count l.length (fun i=>htS l wt wh co i) (fun i=>∀ x ∈ l.take i,x.op.Data.length≤40) (by simp) (by simp) fun i hi hp=>?_)
   by_cases h:i < l.length
   ·have w:IntKind.wrap .i64 ((i:Int)+1)=((i+1:Nat):Int):=by rw[wrap_small (by omega) (by omega)];omega
    have f1:=fm_drop h
    have g1:7≤l.length * 7 - i * 7:=by omega
    refine WL.seq (WL.sreg (by simp[h];rfl) (by simp;rfl) ?_)
    refine WL.cond (t:=true) (by simp[h]) (fun _=>WL.skip ?_) (by simp)
    refine WL.seq (WL.block ?_)
    by_cases z:40 < l[i].op.Data.length
    ·have z':(40:Int) < l[i].op.Data.length:=by omega
     refine WL.sreg (by simp[h,f1,g1,z,z'];rfl) (by simp;rfl) ?_
     refine WL.cond (t:=true) (by simp[z,z']) (fun _=>?_) (by simp)
     refine WL.sregC (RL.call0 false histTold_fn (by simp) (by simp) (RL.o (by simp;rfl) (RL.nil ⟨_,by simp;rfl,WL.ret ⟨rfl,?_⟩⟩)))
     simp[fi8]
    ·have z':¬ (40:Int) < l[i].op.Data.length:=by omega
     refine WL.sreg (by simp[h,f1,g1,z,z'];rfl) (by simp;rfl) ?_
     refine WL.cond (t:=false) (by simp[z,z']) (by simp) fun _=>WL.skip ?_
     refine WL.reg (RL.run (by simp[w];rfl) ⟨_,by simp;rfl,h,by simp,fun x hx=>?_⟩)
     rw[List.take_succ_eq_append_getElem h] at hx
     rcases List.mem_append.1 hx with hx | hx
     ·exact hp x hx
     ·rw[List.mem_singleton.1 hx];omega
   ·obtain rfl:i=l.length:=by omega
    refine WL.seq (WL.sreg (by simp;rfl) (by simp;rfl) ?_)
    refine WL.cond (t:=false) (by simp) (by simp) fun _=>WL.exit ?_
    rw[List.take_length] at hp
    exact tells_top l h40 h1 (fun x hx=>by have:=hp x hx;omega) wt wh co _
  ·have q1:l=[]:=by
    have:l.length=0:=by omega
    exact List.length_eq_zero_iff.1 this
   refine WL.seq (WL.sreg (by simp[q1];rfl) (by simp;rfl) ?_)
   refine WL.cond (t:=true) (by simp[q,q1]) (fun _=>?_) (by simp)
   refine WL.sregC (RL.call0 false histTold_fn (by simp) (by simp) (RL.o (by simp;rfl) (RL.nil ⟨_,by simp;rfl,WL.ret ⟨rfl,?_⟩⟩)))
   simp[fi8]
 ·have q:(40:Int) < l.length:=by omega
  refine WL.seq (WL.sreg (by simp[q];rfl) (by simp;rfl) ?_)
  refine WL.cond (t:=true) (by simp[q]) (fun _=>?_) (by simp)
  refine WL.sregC (RL.call0 false histTold_fn (by simp) (by simp) (RL.o (by simp;rfl) (RL.nil ⟨_,by simp;rfl,WL.ret ⟨rfl,?_⟩⟩)))
  simp[fi8]
end Go.OT
