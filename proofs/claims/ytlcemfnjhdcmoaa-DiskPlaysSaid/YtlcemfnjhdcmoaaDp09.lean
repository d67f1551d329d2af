/- Part 9 of the proof: see its last file. -/
import Derived.Orders
import Derived.Below
import Derived.Laws.Entries
import Derived.Laws.Cells
import Derived.Laws.IdiomCopy
import Derived.Scope
import Derived.Calls
import Derived.Laws.Tables
import Derived.Laws.MakeOwn
import Derived.Laws.BytesString
import Derived.ArgAppend
import Derived.WalkSpells
import Derived.Lib.SlBytesConst
import Derived.Lib.ConvBytes
import Derived.WalkKit
import Derived.ProofKit
import Derived.OpenShut
import Derived.ShutString
import Derived.ChangeOld
import Derived.Lib.SmallJoins
import Derived.Test.YtlcemfnjhdcmoaaProg
import Derived.KernelRfl
import Derived.Shelf.Spec.SlicesInsertGrow
import Derived.Laws.IdiomRangeMap
import Derived.Laws.AppendOwn
import Derived.IntWalk
import Derived.Shelf.SlIterI.Nil
import Derived.Shelf.SortM.Plain
import Derived.Shelf.SortM.SortNone
import Derived.Shelf.Spec.SlicesGrow
import Derived.Test.YtlcemfnjhdcmoaaRows
import Derived.Test.YtlcemfnjhdcmoaaDp08
set_option linter.unusedSimpArgs false
set_option linter.unusedVariables false
namespace Go.OT
open Go.Proofs
def rtear (c:Nat)(b o:ByteArray):ByteArray:=if c=0 then o else if c=1 then b else if c=2 then b.extract 0 12 ++ o.extract 12 24 else o.extract 0 12 ++ b.extract 12 24
abbrev eB:ByteArray:=ByteArray.mk #[]
def rst (bits:List UInt8)(Q:List ByteArray)(x:Nat × List ByteArray × List Bool)(i:Nat):Nat × List ByteArray × List Bool :=
 if x.2.2.getD i false=true then (x.1+1,x.2.1.set i (rtear (bitsAt bits x.1) (Q.getD i eB) (x.2.1.getD i eB)),x.2.2.set i false) else x
def rcr (r:Rk)(bits:List UInt8)(i:Nat):Nat × List ByteArray × List Bool:=(List.range i).foldl (rst bits r.Q) (0,r.P,r.W)
theorem rcr_succ (r:Rk)(bits:List UInt8)(i:Nat):rcr r bits (i+1)=rst bits r.Q (rcr r bits i) i:=by
 unfold rcr
 rw[List.range_succ,List.foldl_append];rfl
def rcrashF (r:Rk)(bits:List UInt8):Rk × Bool:=if r.D=true then (r,false) else ({ r with P:=(rcr r bits r.P.length).2.1,W:=(rcr r bits r.P.length).2.2,D:=true },true)
theorem two_bits64 (x:UInt8)(u:Nat)(hu:u≤6):IntKind.i64.wrap ((((((x.toNat:Nat):Int).fdiv (2 ^ min u IntKind.i64.bits) % 2 ^ IntKind.i64.bits).toNat &&& 3 % 2 ^ IntKind.i64.bits:Nat)):Int)=(((x.toNat >>> u) % 4:Nat):Int):=by
 have hb:IntKind.i64.bits=64:=rfl
 have hx:x.toNat < 256:=x.toNat_lt
 have hm:min u 64=u:=by omega
 rw[hb,hm]
 have h1:((x.toNat:Nat):Int).fdiv (2 ^ u)=((x.toNat / 2 ^ u:Nat):Int):=by
  rw[Int.fdiv_eq_ediv_of_nonneg _ (by exact Int.le_of_lt (Int.pow_pos (by decide)))]
  simp
 have h2:x.toNat / 2 ^ u < 256:=Nat.lt_of_le_of_lt (Nat.div_le_self _ _) hx
 rw[h1,Nat.shiftRight_eq_div_pow]
 generalize x.toNat / 2 ^ u=n at h2 ⊢
 have h3:((n:Int) % 2 ^ 64).toNat=n:=by
  have:(2:Int) ^ 64=18446744073709551616:=by decide
  rw[this];omega
 have h4:3 % 2 ^ 64=2 ^ 2 - 1:=by decide
 rw[h3,h4,Nat.and_two_pow_sub_one_eq_mod]
 rw[wrap_small (by omega) (by omega)]
def RcS (r:Rk)(bits:List UInt8)(i k:Nat)(P:List ByteArray)(W:List Bool):SL :=
 [(0,0,.ptr 1000000 0 [] 0),(100,0,sU false bits),(500,0,i64 k),(600,0,i64 i),(1000000,0,.bx true () [sS true P,sS true r.Q,sB true W,i64 r.A,i64 r.F,bl r.D])]
def RcT (r:Rk)(bits:List UInt8)(i k:Nat)(P:List ByteArray)(W:List Bool)(c:Nat):SL :=
 [(0,0,.ptr 1000000 0 [] 0),(100,0,sU false bits),(500,0,i64 k),(600,0,i64 i),(700,0,i64 c),(1000000,0,.bx true () [sS true P,sS true r.Q,sB true W,i64 r.A,i64 r.F,bl r.D])]
set_option maxHeartbeats 8000000 in
theorem rcrash_fn (r:Rk)(ok:r.Ok)(bits:List UInt8)(hb:bits.length≤1000)(hD:r.D=false):FnC Try.prog 59 [nodR r] [.ptr 1000000 0 [] 0,sU false bits] [nodR (rcrashF r bits).1] (bl (rcrashF r bits).2):=by
 have l48:=ok.n
 have lq:=ok.q
 refine FnC.go ok59 rfl ?_
 refine WL.sreg (by simp;rfl) (by simp;rfl) ?_
 refine WL.seq (WL.sreg (by simp;rfl) (by simp;rfl) ?_)
 refine WL.cond (t:=false) (by simp[hD]) (by simp) (fun _=>WL.skip ?_)
 refine WL.sreg (by simp;rfl) (by simp;rfl) ?_
 refine WL.seq (WL.sreg (by simp;rfl) (by simp;rfl) ?_)
 refine WL.block (WL.count r.P.length (fun i=>RcS r bits i (rcr r bits i).1 (rcr r bits i).2.1 (rcr r bits i).2.2) (fun i=>(rcr r bits i).1≤i∧(rcr r bits i).2.1.length=r.P.length∧(rcr r bits i).2.2.length=r.P.length∧∀ p ∈ (rcr r bits i).2.1,p.size=24) (by simp[RcS,rcr]) ⟨by simp[rcr],rfl,ok.w,ok.sp⟩ fun i hi hinv=>?_)
 have hsu:=rcr_succ r bits i
 generalize hx:rcr r bits i=x at hinv hsu ⊢
 obtain⟨k,P,W⟩:=x
 obtain⟨hk,hP,hW,hsz⟩:=hinv
 simp only at hk hP hW hsz ⊢
 simp only[RcS]
 by_cases h:i < r.P.length
 ·rw[hsu]
  have h':(i:Int) < P.length:=by omega
  have iP:i < P.length:=by omega
  have iP1:i+1≤P.length:=iP
  have iQ:i < r.Q.length:=by omega
  have iQ':(i:Int) < r.Q.length:=by omega
  have iQ1:i+1≤r.Q.length:=iQ
  have iW:i < W.length:=by omega
  have iW':(i:Int) < W.length:=by omega
  have iW1:i+1≤W.length:=iW
  have hwg:W.getD i false=W[i]:=by rw[List.getD_eq_getElem?_getD,List.getElem?_eq_getElem iW];rfl
  have hwi:IntKind.wrap .i64 ((i:Int)+1)=((i+1:Nat):Int):=by rw[wrap_small (by omega) (by omega)];simp
  refine WL.seq (WL.sreg (by simp[h'];rfl) (by simp;rfl) ?_)
  refine WL.cond (t:=true) (by simp) (fun _=>WL.skip ?_) (by simp)
  refine WL.seq (WL.block (WL.seq (WL.sreg (by simp[iW,iW',iW1];rfl) (by simp;rfl) ?_)))
  by_cases hw:W[i]=true
  ·have hst:rst bits r.Q (k,P,W) i=(k+1,P.set i (rtear (bitsAt bits k) r.Q[i] P[i]),W.set i false):=by
    unfold rst
    simp only[hwg,hw,if_true,List.getD_eq_getElem?_getD,List.getElem?_eq_getElem iQ,List.getElem?_eq_getElem iP,Option.getD_some]
   rw[hst]
   refine WL.cond (t:=false) (by simp[hw]) (by simp) (fun _=>WL.skip ?_)
   refine WL.sreg (by simp;rfl) (by simp;rfl) ?_
   refine WL.join (RcT r bits i k P W (bitsAt bits k)) ?_ ?_
   ·obtain⟨q,hqd⟩:∃ q,q=k / 4:=⟨_,rfl⟩
    obtain⟨s,hrd⟩:∃ s,s=k % 4:=⟨_,rfl⟩
    have hq:IntKind.wrap .i64 ((k:Int) / 4)=(q:Int):=by rw[wrap_small (by omega) (by omega)];omega
    have hr:Int.tmod (k:Int) 4=(s:Int):=by rw[Int.tmod_eq_emod_of_nonneg (by omega)];omega
    obtain⟨u,hud⟩:∃ u,u=2 * s:=⟨_,rfl⟩
    have hr2:IntKind.wrap .i64 (2 * (s:Int))=(u:Int):=by rw[wrap_small (by omega) (by omega)];omega
    have hr3:IntKind.wrap .u64 (u:Int)=(u:Int):=IntWalk.u64_in _ ⟨by omega,by omega⟩
    have hr4:¬ (u:Int) < 0:=by omega
    by_cases hq1:q < bits.length
    ·have hq2:(q:Int) < bits.length:=by omega
     have hq3:q+1≤bits.length:=hq1
     have hx:=bits[q].toNat_lt
     have hq5:IntKind.wrap .i64 ((bits[q].toNat:Nat):Int)=((bits[q].toNat:Nat):Int):=wrap_small (by omega) (by omega)
     refine WL.sreg (by simp[hq,hq2];rfl) (by simp;rfl) ?_
     refine WL.cond (t:=true) (by simp) (fun _=>?_) (by simp)
     refine WL.reg (RL.run (by simp[hq,hq1,hq2,hq3,hr,hr2,hr3,hr4,hq5];rfl) ⟨_,by simp;rfl,?_⟩)
     refine⟨rfl,?_⟩
     have e9:bitsAt bits k=(bits[q].toNat >>> (2 * s)) % 4:=by
      rw[hqd] at hq1
      simp only[bitsAt,hq1,if_true,List.getD_eq_getElem?_getD,List.getElem?_eq_getElem hq1,Option.getD_some,hqd,hrd]
     have e10:=two_bits64 bits[q] u (by omega)
     rw[e10,e9,hud]
     simp[RcT]
    ·have hq2:¬ (q:Int) < bits.length:=by omega
     refine WL.sreg (by simp[hq,hq2];rfl) (by simp;rfl) ?_
     refine WL.cond (t:=false) (by simp) (by simp) (fun _=>WL.fin [35] (by simp;rfl) (WL.skip ?_))
     refine⟨rfl,?_⟩
     simp[RcT,bitsAt,← hqd,hq1]
   simp only[RcT]
   generalize hc:bitsAt bits k=c
   have hc4:c < 4:=by
    rw[← hc];unfold bitsAt;split
    ·exact Nat.mod_lt _ (by decide)
    ·decide
   have hki:IntKind.wrap .i64 ((k:Int)+1)=((k+1:Nat):Int):=by rw[wrap_small (by omega) (by omega)];simp
   have sP:=hsz P[i] (List.getElem_mem iP)
   have sQ:=ok.sq r.Q[i] (List.getElem_mem iQ)
   have sT:(rtear c r.Q[i] P[i]).size=24:=by
    unfold rtear
    split
    ·exact sP
    ·split
     ·exact sQ
     ·split<;>simp [ByteArray.size_append,ByteArray.size_extract,sP,sQ]
   refine WL.sreg (by simp[hki];rfl) (by simp;rfl) ?_
   refine WL.sdraw mixed (by simp[cleanL,noH]) (by simp[iP,iP1,h',iQ,iQ',iQ1];exact⟨rfl,rfl⟩) (by kernel_rfl) (by simp;rfl) ?_
   refine WL.seq (WL.sreg (by simp;rfl) (by simp;rfl) ?_)
   rcases (by omega:c=0∨c=1∨c=2∨c=3) with rfl | rfl | rfl | rfl
   ·have hset:P.set i P[i]=P:=by simp
    refine WL.block (WL.sreg (by simp;rfl) (by simp;rfl) ?_)
    refine WL.cond (t:=false) (by simp) (by simp) (fun _=>WL.sreg (by simp;rfl) (by simp;rfl) ?_)
    refine WL.cond (t:=false) (by simp) (by simp) (fun _=>WL.sreg (by simp;rfl) (by simp;rfl) ?_)
    refine WL.cond (t:=false) (by simp) (by simp) (fun _=>WL.skip ?_)
    refine WL.reg (RL.run (by simp[iW,iW',iW1];rfl) ⟨_,by simp;rfl,?_⟩)
    refine WL.reg (RL.run (by simp[hwi];rfl) ⟨_,by simp;rfl,?_⟩)
    refine⟨h,?_,by omega,by simp[hP],by simp[hW],fun p hp=>?_⟩
    ·simp[rtear,List.map_set,← hP]
    ·rcases List.mem_or_eq_of_mem_set hp with hp | rfl
     ·exact hsz p hp
     ·exact sT
   ·refine WL.block (WL.sreg (by simp;rfl) (by simp;rfl) ?_)
    refine WL.cond (t:=true) (by simp) (fun _=>?_) (by simp)
    refine WL.reg (RL.run (by simp[iP,iP1,h'];rfl) ⟨_,by simp;rfl,?_⟩)
    refine WL.reg (RL.run (by simp[iW,iW',iW1];rfl) ⟨_,by simp;rfl,?_⟩)
    refine WL.reg (RL.run (by simp[hwi];rfl) ⟨_,by simp;rfl,?_⟩)
    refine⟨h,?_,by omega,by simp[hP],by simp[hW],fun p hp=>?_⟩
    ·simp[rtear,List.map_set,← hP]
    ·rcases List.mem_or_eq_of_mem_set hp with hp | rfl
     ·exact hsz p hp
     ·exact sT
   ·refine WL.block (WL.sreg (by simp;rfl) (by simp;rfl) ?_)
    refine WL.cond (t:=false) (by simp) (by simp) (fun _=>WL.sreg (by simp;rfl) (by simp;rfl) ?_)
    refine WL.cond (t:=true) (by simp) (fun _=>?_) (by simp)
    refine WL.draw mixed (by simp[cleanL,noH]) (DL.run (by simp[iP,h',iP1,sP,sQ];exact⟨rfl,rfl⟩) ⟨by kernel_rfl,_,by simp;rfl,?_⟩)
    refine WL.reg (RL.run (by simp[iW,iW',iW1];rfl) ⟨_,by simp;rfl,?_⟩)
    refine WL.reg (RL.run (by simp[hwi];rfl) ⟨_,by simp;rfl,?_⟩)
    refine⟨h,?_,by omega,by simp[hP],by simp[hW],fun p hp=>?_⟩
    ·simp[rtear,List.map_set,← hP]
    ·rcases List.mem_or_eq_of_mem_set hp with hp | rfl
     ·exact hsz p hp
     ·exact sT
   ·refine WL.block (WL.sreg (by simp;rfl) (by simp;rfl) ?_)
    refine WL.cond (t:=false) (by simp) (by simp) (fun _=>WL.sreg (by simp;rfl) (by simp;rfl) ?_)
    refine WL.cond (t:=false) (by simp) (by simp) (fun _=>WL.sreg (by simp;rfl) (by simp;rfl) ?_)
    refine WL.cond (t:=true) (by simp) (fun _=>?_) (by simp)
    refine WL.draw mixed (by simp[cleanL,noH]) (DL.run (by simp[iP,h',iP1,sP,sQ];exact⟨rfl,rfl⟩) ⟨by kernel_rfl,_,by simp;rfl,?_⟩)
    refine WL.reg (RL.run (by simp[iW,iW',iW1];rfl) ⟨_,by simp;rfl,?_⟩)
    refine WL.reg (RL.run (by simp[hwi];rfl) ⟨_,by simp;rfl,?_⟩)
    refine⟨h,?_,by omega,by simp[hP],by simp[hW],fun p hp=>?_⟩
    ·simp[rtear,List.map_set,← hP]
    ·rcases List.mem_or_eq_of_mem_set hp with hp | rfl
     ·exact hsz p hp
     ·exact sT
  ·have hw':W[i]=false:=by simpa using hw
   have hst:rst bits r.Q (k,P,W) i=(k,P,W):=by
    unfold rst
    rw[if_neg (by simp only[hwg];exact hw)]
   rw[hst]
   refine WL.cond (t:=true) (by simp[hw']) (fun _=>WL.fin [30] (by simp;rfl) (WL.exit ?_)) (by simp)
   refine WL.reg (RL.run (by simp[hwi];rfl) ⟨_,by simp;rfl,?_⟩)
   refine⟨h,?_,by omega,hP,hW,hsz⟩
   simp
 ·have h':¬ (i:Int) < P.length:=by omega
  have e:i=r.P.length:=by omega
  refine WL.seq (WL.sreg (by simp[h'];rfl) (by simp;rfl) ?_)
  refine WL.cond (t:=false) (by simp) (by simp) (fun _=>WL.exit ?_)
  have hcr:rcrashF r bits=({ r with P:=P,W:=W,D:=true },true):=by
   unfold rcrashF
   rw[if_neg (by simp[hD]),← e,hx]
  rw[hcr]
  simp
  refine WL.sreg (by simp;rfl) (by simp;rfl) ?_
  refine WL.sreg (by simp;rfl) (by simp;rfl) (WL.ret ⟨.inr rfl,?_⟩)
  simp[fi59]
set_option maxHeartbeats 4000000 in
theorem rcrash_down (r:Rk)(hD:r.D=true)(bits:List UInt8):FnC Try.prog 59 [nodR r] [.ptr 1000000 0 [] 0,sU false bits] [nodR r] (bl false):=by
 refine FnC.go ok59 rfl ?_
 refine WL.sreg (by simp;rfl) (by simp;rfl) ?_
 refine WL.seq (WL.sreg (by simp;rfl) (by simp;rfl) ?_)
 refine WL.cond (t:=true) (by simp[hD]) (fun _=>?_) (by simp)
 refine WL.sreg (by simp;rfl) (by simp;rfl) (WL.ret ⟨.inr rfl,?_⟩)
 simp[fi59]
end Go.OT
namespace Go.OT
open Go.Proofs
theorem ba_ext {a b:ByteArray}(h:a.data.toList=b.data.toList):a=b:=by
 cases a with | mk a=>cases b with | mk b=>simp only at h;congr 1;exact Array.ext' h
theorem ofL_extract (w:List UInt8)(lo hi:Nat):(ofL w).extract lo hi=ofL ((w.drop lo).take (hi - lo)):=by
 apply ba_ext
 rw[ofL_list,ByteArray.data_extract,Array.toList_extract,ofL_list]
 try rfl
theorem ofL_append (a b:List UInt8):ofL a ++ ofL b=ofL (a ++ b):=by
 apply ba_ext
 rw[ofL_list,ByteArray.data_append,Array.toList_append,ofL_list,ofL_list]
theorem tear_of (c:Nat)(b o:List UInt8)(hb:b.length=24)(ho:o.length=24):ofL (tear c b o)=rtear c (ofL b) (ofL o):=by
 unfold tear rtear
 split
 ·rfl
 ·split
  ·rfl
  ·split
   ·rw[ofL_extract,ofL_extract,ofL_append]
    simp[List.take_of_length_le,ho]
   ·rw[ofL_extract,ofL_extract,ofL_append]
    simp[List.take_of_length_le,hb]
def rdP (d:Dk)(q:Nat):List UInt8:=(wget d.W q).getD (d.P.getD q [])
structure Eqv (d:Dk) (r:Rk):Prop where
 okd:d.Ok
 okr:r.Ok
 P:r.P=d.P.map ofL
 Q:d.D=false→∀ q,q < d.P.length→r.Q.getD q eB=ofL (rdP d q)
 W:∀ q,q < d.P.length→r.W.getD q false=(wget d.W q).isSome
 A:r.A=d.A
 F:r.F=d.F
 D:r.D=d.D
theorem Eqv.n {d:Dk}{r:Rk}(h:Eqv d r):r.P.length=d.P.length:=by rw[h.P];simp
theorem Eqv.acc {d:Dk}{r:Rk}(h:Eqv d r)(hD:d.D=false)(ha:d.A < 1000000000):Eqv (accF d).1 (raccF r).1∧(accF d).2=(if (raccF r).2=false then 9 else 0):=by
 have hA:=h.A
 have hF:=h.F
 have f0:=h.okd.f
 have fr:=h.okr.f
 have a0:=h.okd.a
 have o1:=accF_ok h.okd ha
 by_cases hf:0 < d.F
 ·have e1:accF d=({ d with A:=d.A+1,F:=d.F - 1 },if d.F - 1=0 then 9 else 0):=by
   unfold accF;rw[if_neg (by simp[hD]),if_pos hf]
  have e2:raccF r=({ r with A:=r.A+1,F:=r.F - 1 },decide (0 < r.F - 1)):=by
   unfold raccF;rw[if_pos (by omega)]
  rw[e1] at o1 ⊢
  rw[e2]
  refine⟨⟨o1,⟨h.okr.n,h.okr.q,h.okr.w,h.okr.sp,h.okr.sq,by simp only;omega,by simp only;omega⟩,h.P,h.Q,h.W,by simp only;omega,by simp only;omega,h.D⟩,?_⟩
  by_cases h1:d.F - 1=0
  ·have h2:¬ 0 < r.F - 1:=by omega
   simp only[h1,if_true,decide_eq_false h2]
  ·have h2:0 < r.F - 1:=by omega
   simp only[h1,if_false,decide_eq_true h2]
   simp
 ·have e1:accF d=({ d with A:=d.A+1 },0):=by
   unfold accF;rw[if_neg (by simp[hD]),if_neg hf]
  have e2:raccF r=({ r with A:=r.A+1 },true):=by
   unfold raccF;rw[if_neg (by omega)]
  rw[e1] at o1 ⊢
  rw[e2]
  exact⟨⟨o1,⟨h.okr.n,h.okr.q,h.okr.w,h.okr.sp,h.okr.sq,by simp only;omega,h.okr.f⟩,h.P,h.Q,h.W,by simp only;omega,hF,h.D⟩,by simp⟩
theorem readF_bad {d:Dk}{p:Int}(hp:¬ (0≤p∧p < d.P.length)):readF d p=(d,[],1):=by unfold readF;rw[if_pos hp]
theorem readF_er {d:Dk}{p:Int}(hp:0≤p∧p < d.P.length)(he:(accF d).2 ≠ 0):readF d p=((accF d).1,[],(accF d).2):=by unfold readF;rw[if_neg (not_not_intro hp),if_pos he]
theorem readF_go {d:Dk}{p:Int}(hp:0≤p∧p < d.P.length)(he:(accF d).2=0):readF d p=((accF d).1,(wget d.W p).getD (d.P.getD p.toNat []),0):=by unfold readF;rw[if_neg (not_not_intro hp),if_neg (not_not_intro he)]
theorem rreadF_bad {r:Rk}{p:Int}(hp:¬ (0≤p∧p < r.P.length)):rreadF r p=(r,ByteArray.mk #[],1):=by unfold rreadF;rw[if_pos hp]
theorem rreadF_dn {r:Rk}{p:Int}(hp:0≤p∧p < r.P.length)(hD:r.D=true):rreadF r p=(r,ByteArray.mk #[],12):=by unfold rreadF;rw[if_neg (not_not_intro hp),if_pos hD]
theorem rreadF_er {r:Rk}{p:Int}(hp:0≤p∧p < r.P.length)(hD:¬ r.D=true)(he:(raccF r).2=false):rreadF r p=((raccF r).1,ByteArray.mk #[],9):=by unfold rreadF;rw[if_neg (not_not_intro hp),if_neg hD,if_pos he]
theorem rreadF_go {r:Rk}{p:Int}(hp:0≤p∧p < r.P.length)(hD:¬ r.D=true)(he:¬ (raccF r).2=false):rreadF r p=((raccF r).1,r.Q.getD p.toNat (ByteArray.mk #[]),0):=by unfold rreadF;rw[if_neg (not_not_intro hp),if_neg hD,if_neg he]
theorem accF_dn {d:Dk}(hD:d.D=true):accF d=(d,12):=by unfold accF;rw[if_pos hD]
theorem Eqv.read {d:Dk}{r:Rk}(h:Eqv d r)(ha:d.A < 1000000000)(p:Int):Eqv (readF d p).1 (rreadF r p).1∧(readF d p).2.2=(rreadF r p).2.2∧ofL (readF d p).2.1=(rreadF r p).2.1:=by
 have hn:=h.n
 by_cases hp:0≤p∧p < d.P.length
 ·have hp':0≤p∧p < r.P.length:=by omega
  by_cases hD:d.D=true
  ·rw[rreadF_dn hp' (by rw[h.D];exact hD),readF_er hp (by rw[accF_dn hD];exact (by decide:(12:Int) ≠ 0)),accF_dn hD]
   exact⟨h,rfl,rfl⟩
  ·have hD':d.D=false:=by simpa using hD
   have hr:¬ r.D=true:=by rw[h.D];exact hD
   obtain⟨h1,h2⟩:=h.acc hD' ha
   by_cases hq:(raccF r).2=false
   ·rw[if_pos hq] at h2
    rw[rreadF_er hp' hr hq,readF_er hp (by rw[h2];decide),h2]
    exact⟨h1,rfl,rfl⟩
   ·rw[if_neg hq] at h2
    rw[rreadF_go hp' hr hq,readF_go hp h2]
    refine⟨h1,rfl,?_⟩
    obtain⟨m,rfl⟩:∃ m:Nat,p=m:=⟨p.toNat,by omega⟩
    have:=h.Q hD' m (by omega)
    simp only[Int.toNat_natCast]
    rw[this]
    rfl
 ·rw[readF_bad hp,rreadF_bad (by omega)]
  exact⟨h,rfl,rfl⟩
theorem writeF_bad {d:Dk}{p:Int}{b:List UInt8}(hp:¬ (0≤p∧p < d.P.length)∨b.length ≠ 24):writeF d p b=(d,1):=by unfold writeF;rw[if_pos hp]
theorem writeF_er {d:Dk}{p:Int}{b:List UInt8}(hp:¬ (¬ (0≤p∧p < d.P.length)∨b.length ≠ 24))(he:(accF d).2 ≠ 0):writeF d p b=accF d:=by unfold writeF;rw[if_neg hp,if_pos he]
theorem writeF_go {d:Dk}{p:Int}{b:List UInt8}(hp:¬ (¬ (0≤p∧p < d.P.length)∨b.length ≠ 24))(he:(accF d).2=0):writeF d p b=({ (accF d).1 with W:=wput p b d.W },0):=by unfold writeF;rw[if_neg hp,if_neg (not_not_intro he)]
theorem rwriteF_bad {r:Rk}{p:Int}{s:ByteArray}(hp:¬ (0≤p∧p < r.P.length)∨s.size ≠ 24):rwriteF r p s=(r,1):=by unfold rwriteF;rw[if_pos hp]
theorem rwriteF_dn {r:Rk}{p:Int}{s:ByteArray}(hp:¬ (¬ (0≤p∧p < r.P.length)∨s.size ≠ 24))(hD:r.D=true):rwriteF r p s=(r,12):=by unfold rwriteF;rw[if_neg hp,if_pos hD]
theorem rwriteF_er {r:Rk}{p:Int}{s:ByteArray}(hp:¬ (¬ (0≤p∧p < r.P.length)∨s.size ≠ 24))(hD:¬ r.D=true)(he:(raccF r).2=false):rwriteF r p s=((raccF r).1,9):=by unfold rwriteF;rw[if_neg hp,if_neg hD,if_pos he]
theorem rwriteF_go {r:Rk}{p:Int}{s:ByteArray}(hp:¬ (¬ (0≤p∧p < r.P.length)∨s.size ≠ 24))(hD:¬ r.D=true)(he:¬ (raccF r).2=false):rwriteF r p s=({ (raccF r).1 with Q:=r.Q.set p.toNat s,W:=r.W.set p.toNat true },0):=by unfold rwriteF;rw[if_neg hp,if_neg hD,if_neg he]
theorem Eqv.write {d:Dk}{r:Rk}(h:Eqv d r)(ha:d.A < 1000000000)(p:Int)(b:List UInt8):Eqv (writeF d p b).1 (rwriteF r p (ofL b)).1∧(writeF d p b).2=(rwriteF r p (ofL b)).2:=by
 have hn:=h.n
 have hsz:=ofL_size b
 have ho:=writeF_ok h.okd ha p b
 by_cases hp:¬ (0≤p∧p < d.P.length)∨b.length ≠ 24
 ·rw[writeF_bad hp,rwriteF_bad (by omega)]
  exact⟨h,rfl⟩
 ·have hp':¬ (¬ (0≤p∧p < r.P.length)∨(ofL b).size ≠ 24):=by omega
  by_cases hD:d.D=true
  ·rw[rwriteF_dn hp' (by rw[h.D];exact hD),writeF_er hp (by rw[accF_dn hD];exact (by decide:(12:Int) ≠ 0)),accF_dn hD]
   exact⟨h,rfl⟩
  ·have hD':d.D=false:=by simpa using hD
   have hr:¬ r.D=true:=by rw[h.D];exact hD
   obtain⟨h1,h2⟩:=h.acc hD' ha
   by_cases hq:(raccF r).2=false
   ·rw[if_pos hq] at h2
    rw[rwriteF_er hp' hr hq,writeF_er hp (by rw[h2];decide)]
    exact⟨h1,h2⟩
   ·rw[if_neg hq] at h2
    rw[writeF_go hp h2] at ho
    rw[rwriteF_go hp' hr hq,writeF_go hp h2]
    obtain⟨q1,q2,q3,q4⟩:=raccF_Q r
    have w1:=accF_W d
    have p1:=accF_P d
    obtain⟨m,rfl⟩:∃ m:Nat,p=m:=⟨p.toNat,by omega⟩
    have hm:m < d.P.length:=by omega
    have lq:=h.okr.q
    have lw:=h.okr.w
    refine⟨⟨ho,⟨h1.okr.n,by simp only[List.length_set,q2];exact lq,by simp only[List.length_set,q2];exact lw,h1.okr.sp,fun x hx=>?_,h1.okr.a,h1.okr.f⟩,h1.P,fun _ q hql=>?_,fun q hql=>?_,h1.A,h1.F,h1.D⟩,rfl⟩
    ·rcases List.mem_or_eq_of_mem_set hx with hx | rfl
     ·exact h.okr.sq x hx
     ·rw[ofL_size];omega
    ·simp only[p1] at hql
     have hQ:=h.Q hD' q hql
     simp only[rdP,wget_wput,p1,Int.toNat_natCast] at hQ ⊢
     by_cases e:q=m
     ·subst e
      rw[List.getD_eq_getElem?_getD,List.getElem?_set_self (by omega)]
      simp
     ·rw[List.getD_eq_getElem?_getD,List.getElem?_set_ne (by omega),if_neg (by omega),← List.getD_eq_getElem?_getD]
      exact hQ
    ·simp only[p1] at hql
     have hW:=h.W q hql
     simp only[wget_wput,Int.toNat_natCast]
     by_cases e:q=m
     ·subst e
      rw[List.getD_eq_getElem?_getD,List.getElem?_set_self (by omega)]
      simp
     ·rw[List.getD_eq_getElem?_getD,List.getElem?_set_ne (by omega),if_neg (by omega),← List.getD_eq_getElem?_getD]
      exact hW
end Go.OT
namespace Go.OT
open Go.Proofs
theorem Eqv.sync {d:Dk}{r:Rk}(h:Eqv d r)(ha:d.A < 1000000000):Eqv (syncF d).1 (rsyncF r).1∧(syncF d).2=(rsyncF r).2:=by
 have ho:=syncF_ok h.okd ha
 by_cases hD:d.D=true
 ·have e1:syncF d=(d,12):=by unfold syncF;rw[accF_dn hD,if_pos (by exact (by decide:(12:Int) ≠ 0))]
  have e2:rsyncF r=(r,12):=by unfold rsyncF;rw[if_pos (by rw[h.D];exact hD)]
  rw[e1,e2]
  exact⟨h,rfl⟩
 ·have hD':d.D=false:=by simpa using hD
  have hr:¬ r.D=true:=by rw[h.D];exact hD
  obtain⟨h1,h2⟩:=h.acc hD' ha
  by_cases hq:(raccF r).2=false
  ·rw[if_pos hq] at h2
   have e1:syncF d=accF d:=by unfold syncF;rw[if_pos (by rw[h2];decide)]
   have e2:rsyncF r=((raccF r).1,9):=by unfold rsyncF;rw[if_neg hr,if_pos hq]
   rw[e1,e2]
   exact⟨h1,h2⟩
  ·rw[if_neg hq] at h2
   have e1:syncF d=({ (accF d).1 with P:=putAll d.W d.P,W:=[] },0):=by unfold syncF;rw[if_neg (by rw[h2];decide)]
   have e2:rsyncF r=({ (raccF r).1 with P:=r.Q,W:=r.W.map fun _=>false },0):=by unfold rsyncF;rw[if_neg hr,if_neg hq]
   rw[e1] at ho
   rw[e1,e2]
   obtain⟨q1,q2,q3,q4⟩:=raccF_Q r
   have lq:=h.okr.q
   have lw:=h.okr.w
   have hn:=h.n
   have key:∀ q,q < d.P.length→r.Q.getD q eB=ofL ((putAll d.W d.P).getD q []):=fun q hq=>by
    rw[putAll_get d.W d.P q h.okd.u (fun e he=>(h.okd.k e he).1) hq]
    exact h.Q hD' q hq
   have hP:r.Q=(putAll d.W d.P).map ofL:=by
    apply List.ext_getElem (by simp[putAll_len];omega)
    intro q hq1 hq2
    have:=key q (by omega)
    rw[List.getD_eq_getElem?_getD,List.getElem?_eq_getElem hq1,List.getD_eq_getElem?_getD,List.getElem?_eq_getElem (by simpa using hq2)] at this
    simpa using this
   refine⟨⟨ho,⟨by simp only;have:=h.okr.n;omega,by simp only[q1],by simp only[List.length_map];omega,h.okr.sq,by simp only[q1];exact h.okr.sq,h1.okr.a,h1.okr.f⟩,hP,fun _ q hq=>?_,fun q hq=>?_,h1.A,h1.F,h1.D⟩,rfl⟩
   ·simp only[putAll_len] at hq
    simp only[q1]
    exact key q hq
   ·simp only[putAll_len] at hq
    rw[List.getD_eq_getElem?_getD]
    simp only[List.getElem?_map,wget,List.find?_nil,Option.map_none,Option.isSome_none]
    cases r.W[q]?<;>rfl
theorem Eqv.fail {d:Dk}{r:Rk}(h:Eqv d r)(n:Int):Eqv (failF d n).1 (rfailF r n).1∧(failF d n).2=(rfailF r n).2:=by
 unfold failF rfailF
 by_cases hn:n < 0∨1000000 < n
 ·rw[if_pos hn,if_pos hn]
  exact⟨h,rfl⟩
 ·rw[if_neg hn,if_neg hn]
  refine⟨⟨⟨h.okd.n,h.okd.s,h.okd.t,h.okd.u,h.okd.k,h.okd.a,by simp only;omega⟩,⟨h.okr.n,h.okr.q,h.okr.w,h.okr.sp,h.okr.sq,h.okr.a,by simp only;omega⟩,h.P,h.Q,h.W,h.A,rfl,h.D⟩,rfl⟩
theorem Eqv.new (n:Nat)(h1:1≤n)(h2:n≤48):Eqv (newD n) (newR n):=by
 have hd:=(Rdv.new n h1 h2).ok
 refine⟨hd,⟨by simpa [newR] using h2,by simp[newR],by simp[newR],fun p hp=>?_,fun p hp=>?_,by simp[newR],by simp[newR]⟩,by simp[newD,newR],fun _ q hq=>?_,fun q hq=>?_,rfl,rfl,rfl⟩
 ·simp only[newR,List.mem_replicate] at hp
  rw[hp.2,ofL_size];rfl
 ·simp only[newR,List.mem_replicate] at hp
  rw[hp.2,ofL_size];rfl
 ·simp only[newD,List.length_replicate] at hq
  simp only[newR,newD,rdP,wget,List.find?_nil,Option.map_none,Option.getD_none,List.getD_eq_getElem?_getD,List.getElem?_replicate,hq,if_true,Option.getD_some]
 ·simp only[newD,List.length_replicate] at hq
  simp only[newR,newD,wget,List.find?_nil,Option.map_none,List.getD_eq_getElem?_getD,List.getElem?_replicate,hq,if_true,Option.getD_some,Option.isSome_none]
theorem wget_mem {W:List (Int × List UInt8)}{q:Int}:(wget W q).isSome=true ↔ q ∈ W.map (·.1):=by
 constructor
 ·intro h
  by_cases hm:q ∈ W.map (·.1)
  ·exact hm
  ·rw[wget_none hm] at h;cases h
 ·intro h
  obtain⟨e,he,rfl⟩:=List.mem_map.1 h
  have:(W.find? (·.1 == e.1)).isSome=true:=List.find?_isSome.2 ⟨e,he,by simp⟩
  simpa [wget] using this
theorem Eqv.waits {d:Dk}{r:Rk}(h:Eqv d r):waitsF d=rwN r.W r.W.length:=by
 have hlen:r.W.length=d.P.length:=by rw[h.okr.w,h.n]
 have hs:(rwN r.W r.W.length).Pairwise (fun a b=>a < b):=by
  unfold rwN
  rw[List.pairwise_map]
  exact (List.pairwise_lt_range.filter _).imp fun h=>by simp only[Int.ofNat_eq_natCast];omega
 have hnd:(rwN r.W r.W.length).Nodup:=hs.imp fun h e=>by omega
 have hperm:(d.W.map (·.1)).Perm (rwN r.W r.W.length):=by
  refine (List.perm_ext_iff_of_nodup h.okd.u hnd).2 fun a=>?_
  constructor
  ·intro ha
   obtain⟨e,he,rfl⟩:=List.mem_map.1 ha
   have hk:=h.okd.k e he
   refine List.mem_map.2 ⟨e.1.toNat,List.mem_filter.2 ⟨List.mem_range.2 (by omega),?_⟩,by simp only[Int.ofNat_eq_natCast];omega⟩
   have:=h.W e.1.toNat (by omega)
   rw[this]
   have e1:((e.1.toNat:Nat):Int)=e.1:=by omega
   rw[e1]
   exact wget_mem.2 ha
  ·intro ha
   obtain⟨q,hq,rfl⟩:=List.mem_map.1 ha
   obtain⟨h1,h2⟩:=List.mem_filter.1 hq
   have h3:=List.mem_range.1 h1
   have:=h.W q (by omega)
   rw[this] at h2
   exact wget_mem.1 h2
 unfold waitsF
 rw[sortZ_perm hperm]
 unfold sortZ
 exact List.mergeSort_of_pairwise (hs.imp fun h=>by simp only[decide_eq_true_eq];omega)
theorem crashL_app (W:List (Int × List UInt8))(bits:List UInt8):∀ (a b:List Int) (k:Nat) (P:List (List UInt8)),crashL W bits (a ++ b) k P=crashL W bits b (k+a.length) (crashL W bits a k P)
 | [],b,k,P=>rfl
 | p :: a,b,k,P=>by
  simp only[List.cons_append,crashL,List.length_cons]
  rw[crashL_app W bits a b (k+1)]
  congr 1
  omega
theorem crashL_len (W:List (Int × List UInt8))(bits:List UInt8):∀ (a:List Int) (k:Nat) (P:List (List UInt8)),(crashL W bits a k P).length=P.length
 | [],k,P=>rfl
 | p :: a,k,P=>by simp only[crashL];rw[crashL_len W bits a];simp
end Go.OT
namespace Go.OT
open Go.Proofs
theorem crash_go {d:Dk}{r:Rk}(h:Eqv d r)(hD:d.D=false)(bits:List UInt8):∀ i,i≤d.P.length →
  (rcr r bits i).1=(rwN r.W i).length∧(rcr r bits i).2.1=(crashL d.W bits (rwN r.W i) 0 d.P).map ofL∧(rcr r bits i).2.2.length=r.W.length ∧
  (∀ j,(rcr r bits i).2.2.getD j false=if j < i then false else r.W.getD j false)∧∀ p ∈ crashL d.W bits (rwN r.W i) 0 d.P,p.length=24
 | 0,_=>⟨rfl,by simp only[rcr,List.range_zero,List.foldl_nil,rwN,List.filter_nil,List.map_nil,crashL];exact h.P,rfl,fun j=>by simp[rcr],h.okd.s⟩
 | i+1,hi=>by
  obtain⟨h1,h2,h3,h4,h5⟩:=crash_go h hD bits i (by omega)
  rw[rcr_succ,rwN_succ]
  have hW4:=h4 i
  rw[if_neg (Nat.lt_irrefl i)] at hW4
  have hlw:r.W.length=d.P.length:=by rw[h.okr.w,h.n]
  have hxl:=crashL_len d.W bits (rwN r.W i) 0 d.P
  generalize hX:crashL d.W bits (rwN r.W i) 0 d.P=X at h2 h5 hxl
  generalize rcr r bits i=x at h1 h2 h3 h4 hW4
  obtain⟨k,P,W⟩:=x
  simp only at h1 h2 h3 h4 hW4
  by_cases hw:r.W.getD i false=true
  ·have hiX:i < X.length:=by omega
   have hiW:i < W.length:=by omega
   have hw2:(wget d.W (i:Int)).isSome=true:=by rw[← h.W i (by omega)];exact hw
   obtain⟨b,hb⟩:=Option.isSome_iff_exists.1 hw2
   have hbl:=wget_ok h.okd hb
   have hQ:=h.Q hD i (by omega)
   have hrd:rdP d i=b:=by unfold rdP;rw[hb];rfl
   rw[hrd] at hQ
   have hPg:P.getD i eB=ofL X[i]:=by
    rw[h2,List.getD_eq_getElem?_getD,List.getElem?_map,List.getElem?_eq_getElem hiX];rfl
   have hst:rst bits r.Q (k,P,W) i=(k+1,P.set i (rtear (bitsAt bits k) (ofL b) (ofL X[i])),W.set i false):=by
    unfold rst
    simp only
    rw[if_pos (by rw[hW4];exact hw),hQ,hPg]
   have hxi:=h5 X[i] (List.getElem_mem hiX)
   have hcl:crashL d.W bits (rwN r.W i ++ [(i:Int)]) 0 d.P=X.set i (tear (bitsAt bits k) b X[i]):=by
    rw[crashL_app,hX,Nat.zero_add,← h1]
    simp only[crashL,Int.toNat_natCast,hb,Option.getD_some]
    rw[List.getD_eq_getElem?_getD,List.getElem?_eq_getElem hiX,Option.getD_some]
   rw[if_pos hw,hst,hcl]
   have htl:(tear (bitsAt bits k) b X[i]).length=24:=by
    unfold tear
    split
    ·exact hxi
    ·split
     ·exact hbl
     ·split<;>simp [hbl,hxi]
   refine⟨by simp[h1],?_,by simpa using h3,fun j=>?_,fun p hp=>?_⟩
   ·simp only
    rw[← tear_of _ _ _ hbl hxi,h2,List.map_set]
   ·simp only
    by_cases e:j=i
    ·subst e
     rw[List.getD_eq_getElem?_getD,List.getElem?_set_self hiW,if_pos (by omega)];rfl
    ·rw[List.getD_eq_getElem?_getD,List.getElem?_set_ne (by omega),← List.getD_eq_getElem?_getD,h4 j]
     by_cases e2:j < i
     ·rw[if_pos e2,if_pos (by omega)]
     ·rw[if_neg e2,if_neg (by omega)]
   ·rcases List.mem_or_eq_of_mem_set hp with hp | rfl
    ·exact h5 p hp
    ·exact htl
  ·have hst:rst bits r.Q (k,P,W) i=(k,P,W):=by
    unfold rst
    simp only
    rw[if_neg (by rw[hW4];exact hw)]
   rw[if_neg hw,hst,hX]
   refine⟨h1,h2,h3,fun j=>?_,h5⟩
   simp only
   rw[h4 j]
   by_cases e:j=i
   ·subst e
    rw[if_neg (by omega),if_pos (by omega)]
    simpa using hw
   ·by_cases e2:j < i
    ·rw[if_pos e2,if_pos (by omega)]
    ·rw[if_neg e2,if_neg (by omega)]
theorem Eqv.crash {d:Dk}{r:Rk}(h:Eqv d r)(bits:List UInt8):Eqv (crashF d bits).1 (rcrashF r bits).1∧(crashF d bits).2=(rcrashF r bits).2:=by
 by_cases hD:d.D=true
 ·have e1:crashF d bits=(d,false):=by unfold crashF;rw[if_pos hD]
  have e2:rcrashF r bits=(r,false):=by unfold rcrashF;rw[if_pos (by rw[h.D];exact hD)]
  rw[e1,e2]
  exact⟨h,rfl⟩
 ·have hD':d.D=false:=by simpa using hD
  have hr:¬ r.D=true:=by rw[h.D];exact hD
  have hn:=h.n
  have hlw:r.W.length=d.P.length:=by rw[h.okr.w,h.n]
  obtain⟨h1,h2,h3,h4,h5⟩:=crash_go h hD' bits d.P.length (Nat.le_refl _)
  have hwt:=h.waits
  rw[hlw] at hwt
  have e1:crashF d bits=({ d with P:=crashL d.W bits (rwN r.W d.P.length) 0 d.P,W:=[],D:=true },true):=by unfold crashF;rw[if_neg hD,hwt]
  have e2:rcrashF r bits=({ r with P:=(rcr r bits d.P.length).2.1,W:=(rcr r bits d.P.length).2.2,D:=true },true):=by unfold rcrashF;rw[if_neg hr,hn]
  rw[e1,e2]
  generalize rcr r bits d.P.length=x at h1 h2 h3 h4
  have hcl:=crashL_len d.W bits (rwN r.W d.P.length) 0 d.P
  generalize crashL d.W bits (rwN r.W d.P.length) 0 d.P=X at h2 h5 hcl
  have n1:=h.okd.n
  have lq:=h.okr.q
  refine⟨⟨⟨by simp only;omega,h5,by simp,by simp,by simp,h.okd.a,h.okd.f⟩,⟨by simp only[h2,List.length_map];omega,by simp only[h2,List.length_map];omega,by simp only[h2,List.length_map];omega,fun p hp=>?_,h.okr.sq,h.okr.a,h.okr.f⟩,h2,(fun hf=>by cases hf),fun q hq=>?_,h.A,h.F,rfl⟩,rfl⟩
  ·simp only[h2,List.mem_map] at hp
   obtain⟨x,hx,rfl⟩:=hp
   rw[ofL_size];exact h5 x hx
  ·simp only at hq
   simp only[h4 q,wget,List.find?_nil,Option.map_none,Option.isSome_none]
   rw[if_pos (by omega)]
end Go.OT
namespace Go.OT
theorem DL.callYL {P:Program}{nt:Nat}{L:SL}{K:SL→Fs→Prop}{rest:List Sg}{d f t:Nat}{w:Bool}{cs:List COd}{gs gs':List (Gh Unit)}{vs:List AU}{r:AU}{fs:Fs}(own:Bool)(ls:List (Nat × List Nat))(hb:gv w (fnL L (100 * t)).2=some true)(hfn:FnC P f gs vs gs' r)(hgs:ls.mapM (ghAt (fnL L))=some gs)(hnd:(ls.map (·.1)).Nodup)
  (has:trArgs (fnL L) ls own cs=some vs) (hs:sideOk own gs gs' r=true) (hcl:cleanL (setL (backL L (ls.zip gs')) (100 * d) r)=true)
  (h:DL P nt rest (setL (backL L (ls.zip gs')) (100 * d) r) ((2 * d :: (ls.map (fun e=>unitK e.1) ++ (2 * t :: (uOs (fnL L) cs ++ luOs (fnL L) own cs))),2 * d :: ls.map (fun e=>unitK e.1)) :: fs) K):DL P nt (.call (some (t,w)) d f cs :: rest) L fs K:=by
 refine DL.cons (it:=.call (some (t,w)) d f cs) (rest:=rest) (by simp[flatS]) (fun C ops i o hP hn hc0 hi hit=>?_) h
 have hzip:∀ e ∈ ls.zip gs',e.1 ∈ ls:=fun e he=>(List.of_mem_zip (a:=e.1) (b:=e.2) he).1
 have hcx:=cleanL_ok hcl
 have e0:fnL (setL (backL L (ls.zip gs')) (100 * d) r)=(backU (fnL L) (ls.zip gs')).set (100 * d) r:=by rw[← fnL_set,fnL_back]
 rw[e0] at hcx ⊢
 refine⟨fun u hu=>?_,fun k hk=>?_,hcx,fun X hX ha=>?_⟩
 ·simp only[List.mem_cons,List.mem_append] at hu ⊢
  rcases hu with hu | hu
  ·exact .inl hu
  ·exact .inr (.inl hu)
 ·have h1:k ≠ 100 * d:=fun e=>hk (by rw[e,unit_reg];simp)
  rw[XF.set_ne _ _ h1]
  refine backU_ne fun e he e'=>hk ?_
  rw[← e']
  exact List.mem_cons_of_mem _ (List.mem_map.2 ⟨e.1,hzip e he,rfl⟩)
 ·have hls:∀ e ∈ ls,X e.1=fnL L e.1:=fun e he=>ha e.1 (by
   simp only[List.mem_cons,List.mem_append]
   exact .inr (.inl (List.mem_map.2 ⟨e,he,rfl⟩)))
  have hzs:∀ e ∈ ls.zip gs',X e.1.1=fnL L e.1.1:=fun e he=>hls _ (hzip e he)
  have hag:agr (uOs (fnL L) cs ++ luOs (fnL L) own cs) X (fnL L):=fun k hk=>ha k (by
   simp only[List.mem_cons,List.mem_append] at hk ⊢
   exact .inr (.inr (.inr hk)))
  have hd0:X (100 * d)=fnL L (100 * d):=ha _ (by rw[unit_reg];simp)
  have hbX:(X (100 * t)).2=.sc (.bool w):=by
   rw[ha (100 * t) (by rw[unit_reg];simp)]
   exact gv_true hb
  have hsk:=sok_callG (ls:=ls) (gs:=gs) (gs':=gs') own hP hn hi hit hbX hfn (by rw[mapM_agr hls];exact hgs) hnd (by rw[trArgs_agr hag];exact has) hs
  have:mix (2 * d :: ls.map (fun e=>unitK e.1)) ((backU (fnL L) (ls.zip gs')).set (100 * d) r) X=(backU X (ls.zip gs')).set (100 * d) r:=by
   funext k
   unfold mix
   by_cases hk:unitK k ∈ 2 * d :: ls.map (fun e=>unitK e.1)
   ·rw[if_pos hk]
    have hXk:X k=fnL L k:=by
     rcases List.mem_cons.1 hk with hk | hk
     ·rw[← unit_reg d] at hk
      rw[unitK_inj hk]
      exact hd0
     ·obtain⟨e,he,hke⟩:=List.mem_map.1 hk
      rw[← unitK_inj hke]
      exact hls e he
    have hb:=backU_agr hzs k hXk
    by_cases e:k=100 * d
    ·subst e
     simp only[XF.set,if_true,hb]
    ·rw[XF.set_ne _ _ e,XF.set_ne _ _ e,hb]
   ·rw[if_neg hk]
    have h1:k ≠ 100 * d:=fun e=>hk (by rw[e,unit_reg];simp)
    rw[XF.set_ne _ _ h1,backU_ne fun e he e'=>hk (by
     rw[← e']
     exact List.mem_cons_of_mem _ (List.mem_map.2 ⟨e.1,hzip e he,rfl⟩))]
  rw[this]
  exact hsk
end Go.OT
namespace Go.OT
open Go.Proofs
def PlS (l:List Dop)(d:Dk)(r:Rk)(i:Nat):SL:=[(100,0,sDop l),(500,0,.bx true () (celD d)),(600,0,.bx true () (celR r)),(700,0,i64 i)]
abbrev plQ:Ex→SL→Prop:=fun e L=>(e=Ex.nrm∨e=Ex.ret)∧RetOk fi12.rs [] (bl true) L
theorem lendL_i64:∀ l:List Int,lendL (l.map i64)=l.map i64
 | []=>rfl
 | x :: l=>by simp only[List.map_cons,lendL,lend,lendL_i64 l]
theorem lendL_st:∀ l:List ByteArray,lendL (l.map st)=l.map st
 | []=>rfl
 | x :: l=>by simp only[List.map_cons,lendL,lend,lendL_st l]
theorem lendL_sU:∀ l:List (List UInt8),lendL (l.map (sU false))=l.map (sU false)
 | []=>rfl
 | x :: l=>by simp only[List.map_cons,lendL,lend,lendL_sU l,lendL_u8]
set_option maxHeartbeats 16000000 in
theorem plays_look (l:List Dop)(d:Dk)(r:Rk)(i:Nat)(h:Eqv d r):WL Try.prog fi12.nt c12_45 (PlS l d r i) (fun e L=>e=.nrm∧L=PlS l d r i):=by
 have f1:=durable_fn d h.okd
 have hP:=h.P
 have hn:=h.okd.n
 have f2:=texts_fn d.P (by omega) h.okd.s
 rw[← hP] at f2
 have f3:=waits_fn d h.okd
 have f4:=rwaits_fn r h.okr
 rw[← h.waits] at f4
 have hwl:(waitsF d).length≤1000:=by
  rw[h.waits]
  have:=rwN_len r.W r.W.length
  have h1:=h.okr.w
  have h2:=h.okr.n
  omega
 have f5:=ints_fn (waitsF d) (waitsF d) hwl rfl
 have f6:=accesses_fn d
 have hA:=h.A
 generalize waitsF d=ws at *
 simp only[PlS]
 refine WL.seq (WL.draw mixed (by simp[cleanL,noH]) (DL.o (by simp;exact⟨rfl,rfl⟩) ?_))
 refine DL.callL false [(500,[])] f1 (by simp) (by simp) (by simp[gkey]) (by simp) (by simp[cleanL,noH]) ?_
 refine DL.o (by simp;exact⟨rfl,rfl⟩) ?_
 refine DL.call0 true f2 (by simp[lendL_sU,lendL_st]) (by simp) ?_
 refine DL.o (by simp;exact⟨rfl,rfl⟩) (DL.g (by simp;exact⟨rfl,rfl⟩) ?_)
 refine DL.callYL false [(500,[])] (by simp[gv]) f3 (by simp) (by simp) (by simp[gkey]) (by simp) (by simp[cleanL,noH]) ?_
 refine DL.g (by simp;exact⟨rfl,rfl⟩) ?_
 refine DL.callYL false [(600,[])] (by simp[gv]) f4 (by simp) (by simp) (by simp[gkey]) (by simp) (by simp[cleanL,noH]) ?_
 refine DL.callY0 true (by simp[gv]) f5 (by simp[lendL_i64]) (by simp) ?_
 refine DL.g (by simp;exact⟨rfl,rfl⟩) (DL.o (by simp;exact⟨rfl,rfl⟩) (DL.g (by simp;exact⟨rfl,rfl⟩) ?_))
 refine DL.callYL false [(500,[])] (by simp[gv]) f6 (by simp) (by simp) (by simp[gkey]) (by simp) (by simp[cleanL,noH]) ?_
 refine DL.g (by simp[hA];exact⟨rfl,rfl⟩) (DL.o (by simp;exact⟨rfl,rfl⟩) (DL.nil ⟨by kernel_rfl,_,by simp;rfl,?_⟩))
 refine WL.cond (t:=false) (by simp) (by simp) (fun _=>WL.fin [162] (by simp;rfl) (WL.skip ?_))
 exact⟨rfl,by simp[PlS]⟩
end Go.OT
namespace Go.OT
open Go.Proofs
def PlC (l:List Dop)(d:Dk)(r:Rk)(i:Nat)(q:Dop):SL:=[(100,0,sDop l),(500,0,.bx true () (celD d)),(600,0,.bx true () (celR r)),(700,0,i64 i),(800,0,.bptr 8 1 0),(801,0,i64 q.K),(802,0,i64 q.P),(803,0,i64 q.N),(804,0,u8 (q.C.toNat:Int)),(805,0,sU false q.B),(899,1,.non)]
structure PlI (l:List Dop) where
 i:Nat
 d:Dk
 r:Rk
 hi:i≤l.length
 h:Eqv d r
 a:d.A≤i
set_option maxHeartbeats 16000000 in
theorem plays_loop (l:List Dop)(hl:l.length≤100)(d:Dk)(r:Rk)(h:Eqv d r)(ha:d.A≤0)
  (hop:∀ (d:Dk) (r:Rk) (i:Nat) (q:Dop),Eqv d r→d.A≤100→q.B.length≤60→WL Try.prog fi12.nt c12_46 (PlC l d r i q) (fun e L=>e=.nrm∧∃ d' r',L=PlS l d' r' i∧Eqv d' r'∧d'.A≤d.A+1)) :
  WL Try.prog fi12.nt c12_51 (PlS l d r 0) (Ex.thenL (fun L'=>WL Try.prog fi12.nt c12_52 L' plQ) plQ):=by
 refine WL.block (WL.loop (ι:=PlI l) (fun x=>PlS l x.d x.r x.i) (fun x=>l.length - x.i) ⟨0,d,r,by omega,h,by simpa using ha⟩ rfl fun x=>?_)
 obtain⟨i,d,r,hi,h,ha⟩:=x
 simp only[PlS]
 by_cases hl1:i < l.length
 ·have hl':(i:Int) < l.length:=by omega
  have hdr:=dopC_drop l i hl1
  have hwi:IntKind.wrap .i64 ((i:Int)+1)=((i+1:Nat):Int):=by rw[wrap_small (by omega) (by omega)];simp
  refine WL.seq (WL.sreg (by simp[hl'];rfl) (by simp;rfl) ?_)
  refine WL.cond (t:=true) (by simp) (fun _=>WL.skip ?_) (by simp)
  refine WL.seq (WL.block ?_)
  refine WL.sreg (by simp[hl1,hl',hdr];rfl) (by simp;rfl) ?_
  by_cases hB:l[i].B.length≤60
  ·have hB':¬ (60:Int) < l[i].B.length:=by omega
   refine WL.seq (WL.sreg (by simp[hB'];rfl) (by simp;rfl) ?_)
   refine WL.cond (t:=false) (by simp) (by simp) (fun _=>WL.fin [43] (by simp;rfl) (WL.skip ?_))
   have:=hop d r i l[i] h (by omega) hB
   simp only[PlC] at this
   refine WL.mono this fun e L hq=>?_
   obtain⟨rfl,d',r',rfl,h',ha'⟩:=hq
   refine WL.reg (RL.run (by simp[PlS,hwi];rfl) ⟨_,by simp;rfl,⟨i+1,d',r',by omega,h',by omega⟩,by simp,by show l.length - (i+1) < l.length - i;omega⟩)
  ·have hB':(60:Int) < l[i].B.length:=by omega
   refine WL.seq (WL.sreg (by simp[hB'];rfl) (by simp;rfl) ?_)
   refine WL.cond (t:=true) (by simp) (fun _=>?_) (by simp)
   refine WL.sregC (RL.call0 false told_fn (by simp) (by simp) (RL.o (by simp;rfl) (RL.nil ⟨_,by simp;rfl,WL.ret ⟨.inr rfl,?_⟩⟩)))
   simp[fi12]
 ·have hl':¬ (i:Int) < l.length:=by omega
  refine WL.seq (WL.sreg (by simp[hl'];rfl) (by simp;rfl) ?_)
  refine WL.cond (t:=false) (by simp) (by simp) (fun _=>WL.exit ?_)
  simp
  refine WL.sregC (RL.call0 false told_fn (by simp) (by simp) (RL.o (by simp;rfl) (RL.nil ⟨_,by simp;rfl,WL.ret ⟨.inr rfl,?_⟩⟩)))
  simp[fi12]
theorem kk (K:Int):∃ m:Nat,m < 8∧Int.tmod (IntKind.wrap .i64 (Int.tmod K 8+8)) 8=(m:Int):=by
 have h1:-8 < Int.tmod K 8∧Int.tmod K 8 < 8:=by
  have:=Int.tmod_lt_of_pos K (b:=8) (by decide)
  have:=Int.lt_tmod_of_pos K (b:=8) (by decide)
  omega
 rw[wrap_small (x:=Int.tmod K 8+8) (by omega) (by omega)]
 have h2:0≤Int.tmod K 8+8:=by omega
 have h3:=Int.tmod_nonneg (a:=Int.tmod K 8+8) 8 h2
 have h4:=Int.tmod_lt_of_pos (Int.tmod K 8+8) (b:=8) (by decide)
 exact⟨(Int.tmod (Int.tmod K 8+8) 8).toNat,by omega,by omega⟩
theorem readF_A (d:Dk)(p:Int):(readF d p).1.A≤d.A+1:=by
 have:(accF d).1.A≤d.A+1:=by unfold accF;split;simp only;omega;split<;>(simp only;omega)
 unfold readF
 split
 ·simp only;omega
 ·split<;>exact this
theorem writeF_A (d:Dk)(p:Int)(b:List UInt8):(writeF d p b).1.A≤d.A+1:=by
 have:(accF d).1.A≤d.A+1:=by unfold accF;split;simp only;omega;split<;>(simp only;omega)
 unfold writeF
 split
 ·simp only;omega
 ·split<;>exact this
theorem syncF_A (d:Dk):(syncF d).1.A≤d.A+1:=by
 have:(accF d).1.A≤d.A+1:=by unfold accF;split;simp only;omega;split<;>(simp only;omega)
 unfold syncF
 split<;>exact this
theorem failF_A (d:Dk)(n:Int):(failF d n).1.A≤d.A+1:=by unfold failF;split<;>(simp only;omega)
theorem crashF_A (d:Dk)(b:List UInt8):(crashF d b).1.A≤d.A+1:=by unfold crashF;split<;>(simp only;omega)
theorem crash_all (d:Dk)(ok:d.Ok)(bits:List UInt8)(hb:bits.length≤1000):FnC Try.prog 58 [nodD d] [.ptr 1000000 0 [] 0,sU false bits] [nodD (crashF d bits).1] (bl (crashF d bits).2):=by
 by_cases hD:d.D=true
 ·have e1:crashF d bits=(d,false):=by unfold crashF;rw[if_pos hD]
  rw[e1];exact crash_down d hD bits
 ·exact crash_fn d ok (by simpa using hD) bits hb
theorem rcrash_all (r:Rk)(ok:r.Ok)(bits:List UInt8)(hb:bits.length≤1000):FnC Try.prog 59 [nodR r] [.ptr 1000000 0 [] 0,sU false bits] [nodR (rcrashF r bits).1] (bl (rcrashF r bits).2):=by
 by_cases hD:r.D=true
 ·have e1:rcrashF r bits=(r,false):=by unfold rcrashF;rw[if_pos hD]
  rw[e1];exact rcrash_down r hD bits
 ·exact rcrash_fn r ok bits hb (by simpa using hD)
def PlM (l:List Dop)(d:Dk)(r:Rk)(i:Nat)(q:Dop)(m:Nat)(t:Nat):SL:=PlC l d r i q ++ [(4900,0,i64 m),(t,0,bl true)]
abbrev plO (l:List Dop)(d0:Dk)(i:Nat):Ex→SL→Prop:=fun e L=>e=.nrm∧∃ d' r',L=PlS l d' r' i∧Eqv d' r'∧d'.A≤d0.A+1
set_option maxHeartbeats 16000000 in
theorem plays_read (l:List Dop)(d:Dk)(r:Rk)(i:Nat)(q:Dop)(m:Nat)(h:Eqv d r)(ha:d.A≤100):WL Try.prog fi12.nt c12_15 (PlM l d r i q m 5900) (plO l d i):=by
 have f1:=read_fn d h.okd q.P
 have f2:=rread_fn r h.okr q.P
 obtain⟨g1,g2,g3⟩:=h.read (by omega) q.P
 have g4:=readF_A d q.P
 rw[← g2,← g3] at f2
 generalize readF d q.P=x at *
 generalize (rreadF r q.P).1=r' at *
 obtain⟨d',b,e⟩:=x
 simp only[PlM,PlC,List.cons_append,List.nil_append]
 refine WL.sregC (RL.o (by simp;rfl) (RL.call false [(500,[])] f1 (by simp) (by simp) (by simp[gkey]) (by simp) (RL.freeze 6600 (RL.o (by simp[lendL_u8];rfl) (RL.nil ⟨_,by simp;rfl,?_⟩)))))
 refine WL.sregC (RL.o (by simp;rfl) (RL.call false [(600,[])] f2 (by simp) (by simp) (by simp[gkey]) (by simp) (RL.o (by simp;rfl) (RL.nil ⟨_,by simp;rfl,?_⟩))))
 refine WL.sreg (by simp[u8L_bytes',ofL];rfl) (by simp;rfl) ?_
 refine WL.cond (t:=false) (by simp) (by simp) (fun _=>WL.fin [84] (by simp;rfl) (WL.skip ?_))
 exact⟨rfl,d',r',by simp[PlS],g1,g4⟩
set_option maxHeartbeats 16000000 in
theorem plays_write (l:List Dop)(d:Dk)(r:Rk)(i:Nat)(q:Dop)(m:Nat)(h:Eqv d r)(ha:d.A≤100):WL Try.prog fi12.nt c12_20 (PlM l d r i q m 8500) (plO l d i):=by
 obtain⟨rc,hrc⟩:∃ x,x=List.replicate 24 q.C:=⟨_,rfl⟩
 have f1:=write_fn d h.okd q.P rc (by unfold Small;rw[hrc];simp)
 have f2:=rwrite_fn r h.okr q.P (ofL rc)
 have fb:=bytes_fn q.C
 rw[← hrc] at fb
 obtain⟨g1,g2⟩:=h.write (by omega) q.P rc
 have g4:=writeF_A d q.P rc
 rw[← g2] at f2
 generalize writeF d q.P rc=x at *
 generalize (rwriteF r q.P (ofL rc)).1=r' at *
 obtain⟨d',e⟩:=x
 have hof:b2s (rc.map fun b=>(b.toNat:Int))=ofL rc:=rfl
 simp only[PlM,PlC,List.cons_append,List.nil_append]
 refine WL.seq (WL.draw mixed (by simp[cleanL,noH]) (DL.o (by simp;exact⟨rfl,rfl⟩) ?_))
 refine DL.callLF false [] fb (by simp) (by simp) (by simp) (by simp) (by simp[cleanL,noH]) ?_
 refine DL.callL false [(500,[])] f1 (by simp) (by simp) (by simp[gkey,lendL_u8]) (by simp) (by simp[cleanL,noH]) ?_
 refine DL.o (by simp;exact⟨rfl,rfl⟩) ?_
 refine DL.call0 false fb (by simp) (by simp) ?_
 refine DL.o (by simp[u8L_bytes',hof];exact⟨rfl,rfl⟩) ?_
 refine DL.callL false [(600,[])] f2 (by simp) (by simp) (by simp[gkey,hof]) (by simp) (by simp[cleanL,noH]) ?_
 refine DL.o (by simp;exact⟨rfl,rfl⟩) (DL.nil ⟨by kernel_rfl,_,by simp;rfl,?_⟩)
 refine WL.cond (t:=false) (by simp) (by simp) (fun _=>WL.fin [103] (by simp;rfl) (WL.skip ?_))
 exact⟨rfl,d',r',by simp[PlS],g1,g4⟩
set_option maxHeartbeats 16000000 in
theorem plays_raw (l:List Dop)(d:Dk)(r:Rk)(i:Nat)(q:Dop)(m:Nat)(h:Eqv d r)(ha:d.A≤100)(hB:q.B.length≤60):WL Try.prog fi12.nt c12_23 (PlM l d r i q m 10400) (plO l d i):=by
 have f1:=write_fn d h.okd q.P q.B (by unfold Small;omega)
 have f2:=rwrite_fn r h.okr q.P (ofL q.B)
 obtain⟨g1,g2⟩:=h.write (by omega) q.P q.B
 have g4:=writeF_A d q.P q.B
 rw[← g2] at f2
 generalize writeF d q.P q.B=x at *
 generalize (rwriteF r q.P (ofL q.B)).1=r' at *
 obtain⟨d',e⟩:=x
 have hof:b2s (q.B.map fun b=>(b.toNat:Int))=ofL q.B:=rfl
 simp only[PlM,PlC,List.cons_append,List.nil_append]
 refine WL.seq (WL.draw mixed (by simp[cleanL,noH]) (DL.o (by simp;exact⟨rfl,rfl⟩) ?_))
 refine DL.callL false [(500,[])] f1 (by simp) (by simp) (by simp[gkey]) (by simp) (by simp[cleanL,noH]) ?_
 refine DL.o (by simp[u8L_bytes',hof];exact⟨rfl,rfl⟩) ?_
 refine DL.callL false [(600,[])] f2 (by simp) (by simp) (by simp[gkey,hof]) (by simp) (by simp[cleanL,noH]) ?_
 refine DL.o (by simp;exact⟨rfl,rfl⟩) (DL.nil ⟨by kernel_rfl,_,by simp;rfl,?_⟩)
 refine WL.cond (t:=false) (by simp) (by simp) (fun _=>WL.fin [119] (by simp;rfl) (WL.skip ?_))
 exact⟨rfl,d',r',by simp[PlS],g1,g4⟩
set_option maxHeartbeats 16000000 in
theorem plays_sync (l:List Dop)(d:Dk)(r:Rk)(i:Nat)(q:Dop)(m:Nat)(h:Eqv d r)(ha:d.A≤100):WL Try.prog fi12.nt c12_26 (PlM l d r i q m 12000) (plO l d i):=by
 have f1:=sync_fn d h.okd
 have f2:=rsync_fn r h.okr
 obtain⟨g1,g2⟩:=h.sync (by omega)
 have g4:=syncF_A d
 rw[← g2] at f2
 generalize syncF d=x at *
 generalize (rsyncF r).1=r' at *
 obtain⟨d',e⟩:=x
 simp only[PlM,PlC,List.cons_append,List.nil_append]
 refine WL.seq (WL.reg (RL.o (by simp;rfl) (RL.call false [(500,[])] f1 (by simp) (by simp) (by simp[gkey]) (by simp) (RL.o (by simp;rfl) (RL.call false [(600,[])] f2 (by simp) (by simp) (by simp[gkey]) (by simp) (RL.o (by simp;rfl) (RL.nil ⟨_,by simp;rfl,?_⟩)))))))
 refine WL.cond (t:=false) (by simp) (by simp) (fun _=>WL.fin [126] (by simp;rfl) (WL.skip ?_))
 exact⟨rfl,d',r',by simp[PlS],g1,g4⟩
set_option maxHeartbeats 16000000 in
theorem plays_fail (l:List Dop)(d:Dk)(r:Rk)(i:Nat)(q:Dop)(m:Nat)(h:Eqv d r)(ha:d.A≤100):WL Try.prog fi12.nt c12_29 (PlC l d r i q ++ [(12700,0,bl true)]) (plO l d i):=by
 have f1:=fail_fn d q.N
 have f2:=rfail_fn r q.N
 obtain⟨g1,g2⟩:=h.fail q.N
 have g4:=failF_A d q.N
 rw[← g2] at f2
 generalize failF d q.N=x at *
 generalize (rfailF r q.N).1=r' at *
 obtain⟨d',e⟩:=x
 simp only[PlC,List.cons_append,List.nil_append]
 refine WL.seq (WL.draw mixed (by simp[cleanL,noH]) (DL.o (by simp;exact⟨rfl,rfl⟩) ?_))
 refine DL.callL false [(500,[])] f1 (by simp) (by simp) (by simp[gkey]) (by simp) (by simp[cleanL,noH]) ?_
 refine DL.o (by simp;exact⟨rfl,rfl⟩) ?_
 refine DL.callL false [(600,[])] f2 (by simp) (by simp) (by simp[gkey]) (by simp) (by simp[cleanL,noH]) ?_
 refine DL.o (by simp;exact⟨rfl,rfl⟩) (DL.nil ⟨by kernel_rfl,_,by simp;rfl,?_⟩)
 refine WL.cond (t:=false) (by simp) (by simp) (fun _=>WL.fin [137] (by simp;rfl) (WL.skip ?_))
 exact⟨rfl,d',r',by simp[PlS],g1,g4⟩
set_option maxHeartbeats 16000000 in
theorem plays_crash (l:List Dop)(d:Dk)(r:Rk)(i:Nat)(q:Dop)(m:Nat)(h:Eqv d r)(ha:d.A≤100)(hB:q.B.length≤60):WL Try.prog fi12.nt c12_32 (PlC l d r i q ++ [(12700,0,bl false)]) (plO l d i):=by
 have f1:=crash_all d h.okd q.B (by omega)
 have f2:=rcrash_all r h.okr q.B (by omega)
 obtain⟨g1,g2⟩:=h.crash q.B
 have g4:=crashF_A d q.B
 rw[← g2] at f2
 generalize crashF d q.B=x at *
 generalize (rcrashF r q.B).1=r' at *
 obtain⟨d',e⟩:=x
 simp only[PlC,List.cons_append,List.nil_append]
 refine WL.seq (WL.draw mixed (by simp[cleanL,noH]) (DL.o (by simp;exact⟨rfl,rfl⟩) ?_))
 refine DL.callL false [(500,[])] f1 (by simp) (by simp) (by simp[gkey]) (by simp) (by simp[cleanL,noH]) ?_
 refine DL.o (by simp;exact⟨rfl,rfl⟩) ?_
 refine DL.callL false [(600,[])] f2 (by simp) (by simp) (by simp[gkey]) (by simp) (by simp[cleanL,noH]) ?_
 refine DL.o (by simp;exact⟨rfl,rfl⟩) (DL.nil ⟨by kernel_rfl,_,by simp;rfl,?_⟩)
 refine WL.cond (t:=false) (by simp) (by simp) (fun _=>WL.fin [58] (by simp;rfl) (WL.skip ?_))
 exact⟨rfl,d',r',by simp[PlS],g1,g4⟩
set_option maxHeartbeats 16000000 in
theorem plays_op (l:List Dop)(d:Dk)(r:Rk)(i:Nat)(q:Dop)(h:Eqv d r)(ha:d.A≤100)(hB:q.B.length≤60):WL Try.prog fi12.nt c12_46 (PlC l d r i q) (fun e L=>e=.nrm∧∃ d' r',L=PlS l d' r' i∧Eqv d' r'∧d'.A≤d.A+1):=by
 obtain⟨m,hm,hmk⟩:=kk q.K
 have look:∀ (d':Dk) (r':Rk),Eqv d' r'→d'.A≤d.A+1→WL Try.prog fi12.nt c12_45 (PlS l d' r' i) (fun e L=>e=.nrm∧∃ d' r',L=PlS l d' r' i∧Eqv d' r'∧d'.A≤d.A+1):=fun d' r' h' ha' =>
  WL.mono (plays_look l d' r' i h') fun e L hq=>⟨hq.1,d',r',hq.2,h',ha'⟩
 simp only[PlC]
 refine WL.seq (WL.sreg (by simp[hmk];rfl) (by simp;rfl) ?_)
 have fin:∀ {cc:Cd} {L:SL},WL Try.prog fi12.nt cc L (plO l d i)→WL Try.prog fi12.nt cc L (Ex.blkL 2 (Ex.thenL (fun L'=>WL Try.prog fi12.nt c12_45 L' (plO l d i)) (plO l d i))):=fun h=>WL.mono h fun e L hq=>by
  obtain⟨rfl,d',r',rfl,h',ha'⟩:=hq
  exact look d' r' h' ha'
 rcases (by omega:m=0∨m=1∨m=2∨m=3∨m=4∨m=5∨m=6∨m=7) with rfl | rfl | rfl | rfl | rfl | rfl | rfl | rfl
 ·refine WL.block (WL.seq (WL.seq (WL.reg (RL.run (by simp;rfl) ⟨_,by simp;rfl,?_⟩))))
  refine WL.cond (t:=true) (by simp) (fun _=>WL.skip ?_) (by simp)
  refine WL.cond (t:=true) (by simp) (fun _=>?_) (by simp)
  exact WL.eqL (by simp[PlM,PlC]) (fin (plays_read l d r i q 0 h ha))
 ·refine WL.block (WL.seq (WL.seq (WL.reg (RL.run (by simp;rfl) ⟨_,by simp;rfl,?_⟩))))
  refine WL.cond (t:=false) (by simp) (by simp) (fun _=>WL.reg (RL.run (by simp;rfl) ⟨_,by simp;rfl,?_⟩))
  refine WL.cond (t:=true) (by simp) (fun _=>?_) (by simp)
  exact WL.eqL (by simp[PlM,PlC]) (fin (plays_read l d r i q 1 h ha))
 ·refine WL.block (WL.seq (WL.seq (WL.reg (RL.run (by simp;rfl) ⟨_,by simp;rfl,?_⟩))))
  refine WL.cond (t:=false) (by simp) (by simp) (fun _=>WL.reg (RL.run (by simp;rfl) ⟨_,by simp;rfl,?_⟩))
  refine WL.cond (t:=false) (by simp) (by simp) (fun _=>?_)
  refine WL.seq (WL.seq (WL.reg (RL.run (by simp;rfl) ⟨_,by simp;rfl,?_⟩)))
  refine WL.cond (t:=true) (by simp) (fun _=>WL.skip ?_) (by simp)
  refine WL.cond (t:=true) (by simp) (fun _=>?_) (by simp)
  exact WL.eqL (by simp[PlM,PlC]) (fin (plays_write l d r i q 2 h ha))
 ·refine WL.block (WL.seq (WL.seq (WL.reg (RL.run (by simp;rfl) ⟨_,by simp;rfl,?_⟩))))
  refine WL.cond (t:=false) (by simp) (by simp) (fun _=>WL.reg (RL.run (by simp;rfl) ⟨_,by simp;rfl,?_⟩))
  refine WL.cond (t:=false) (by simp) (by simp) (fun _=>?_)
  refine WL.seq (WL.seq (WL.reg (RL.run (by simp;rfl) ⟨_,by simp;rfl,?_⟩)))
  refine WL.cond (t:=false) (by simp) (by simp) (fun _=>WL.reg (RL.run (by simp;rfl) ⟨_,by simp;rfl,?_⟩))
  refine WL.cond (t:=true) (by simp) (fun _=>?_) (by simp)
  exact WL.eqL (by simp[PlM,PlC]) (fin (plays_write l d r i q 3 h ha))
 ·refine WL.block (WL.seq (WL.seq (WL.reg (RL.run (by simp;rfl) ⟨_,by simp;rfl,?_⟩))))
  refine WL.cond (t:=false) (by simp) (by simp) (fun _=>WL.reg (RL.run (by simp;rfl) ⟨_,by simp;rfl,?_⟩))
  refine WL.cond (t:=false) (by simp) (by simp) (fun _=>?_)
  refine WL.seq (WL.seq (WL.reg (RL.run (by simp;rfl) ⟨_,by simp;rfl,?_⟩)))
  refine WL.cond (t:=false) (by simp) (by simp) (fun _=>WL.reg (RL.run (by simp;rfl) ⟨_,by simp;rfl,?_⟩))
  refine WL.cond (t:=false) (by simp) (by simp) (fun _=>?_)
  refine WL.sreg (by simp;rfl) (by simp;rfl) ?_
  refine WL.cond (t:=true) (by simp) (fun _=>?_) (by simp)
  exact WL.eqL (by simp[PlM,PlC]) (fin (plays_raw l d r i q 4 h ha hB))
 ·refine WL.block (WL.seq (WL.seq (WL.reg (RL.run (by simp;rfl) ⟨_,by simp;rfl,?_⟩))))
  refine WL.cond (t:=false) (by simp) (by simp) (fun _=>WL.reg (RL.run (by simp;rfl) ⟨_,by simp;rfl,?_⟩))
  refine WL.cond (t:=false) (by simp) (by simp) (fun _=>?_)
  refine WL.seq (WL.seq (WL.reg (RL.run (by simp;rfl) ⟨_,by simp;rfl,?_⟩)))
  refine WL.cond (t:=false) (by simp) (by simp) (fun _=>WL.reg (RL.run (by simp;rfl) ⟨_,by simp;rfl,?_⟩))
  refine WL.cond (t:=false) (by simp) (by simp) (fun _=>?_)
  refine WL.sreg (by simp;rfl) (by simp;rfl) ?_
  refine WL.cond (t:=false) (by simp) (by simp) (fun _=>?_)
  refine WL.sreg (by simp;rfl) (by simp;rfl) ?_
  refine WL.cond (t:=true) (by simp) (fun _=>?_) (by simp)
  exact WL.eqL (by simp[PlM,PlC]) (fin (plays_sync l d r i q 5 h ha))
 ·refine WL.block (WL.seq (WL.seq (WL.reg (RL.run (by simp;rfl) ⟨_,by simp;rfl,?_⟩))))
  refine WL.cond (t:=false) (by simp) (by simp) (fun _=>WL.reg (RL.run (by simp;rfl) ⟨_,by simp;rfl,?_⟩))
  refine WL.cond (t:=false) (by simp) (by simp) (fun _=>?_)
  refine WL.seq (WL.seq (WL.reg (RL.run (by simp;rfl) ⟨_,by simp;rfl,?_⟩)))
  refine WL.cond (t:=false) (by simp) (by simp) (fun _=>WL.reg (RL.run (by simp;rfl) ⟨_,by simp;rfl,?_⟩))
  refine WL.cond (t:=false) (by simp) (by simp) (fun _=>?_)
  refine WL.sreg (by simp;rfl) (by simp;rfl) ?_
  refine WL.cond (t:=false) (by simp) (by simp) (fun _=>?_)
  refine WL.sreg (by simp;rfl) (by simp;rfl) ?_
  refine WL.cond (t:=false) (by simp) (by simp) (fun _=>?_)
  refine WL.sreg (by simp;rfl) (by simp;rfl) ?_
  refine WL.cond (t:=true) (by simp) (fun _=>?_) (by simp)
  exact WL.eqL (by simp[PlC]) (fin (plays_fail l d r i q 6 h ha))
 ·refine WL.block (WL.seq (WL.seq (WL.reg (RL.run (by simp;rfl) ⟨_,by simp;rfl,?_⟩))))
  refine WL.cond (t:=false) (by simp) (by simp) (fun _=>WL.reg (RL.run (by simp;rfl) ⟨_,by simp;rfl,?_⟩))
  refine WL.cond (t:=false) (by simp) (by simp) (fun _=>?_)
  refine WL.seq (WL.seq (WL.reg (RL.run (by simp;rfl) ⟨_,by simp;rfl,?_⟩)))
  refine WL.cond (t:=false) (by simp) (by simp) (fun _=>WL.reg (RL.run (by simp;rfl) ⟨_,by simp;rfl,?_⟩))
  refine WL.cond (t:=false) (by simp) (by simp) (fun _=>?_)
  refine WL.sreg (by simp;rfl) (by simp;rfl) ?_
  refine WL.cond (t:=false) (by simp) (by simp) (fun _=>?_)
  refine WL.sreg (by simp;rfl) (by simp;rfl) ?_
  refine WL.cond (t:=false) (by simp) (by simp) (fun _=>?_)
  refine WL.sreg (by simp;rfl) (by simp;rfl) ?_
  refine WL.cond (t:=false) (by simp) (by simp) (fun _=>?_)
  exact WL.eqL (by simp[PlC]) (fin (plays_crash l d r i q 7 h ha hB))
set_option maxHeartbeats 16000000 in
theorem plays_fn (n:Int)(l:List Dop)(hl:l.length≤9223372036854775807):FnC Try.prog 12 [] [i64 n,sDop l] [] (bl true):=by
 by_cases hb:n < 1∨48 < n
 ·refine FnC.go ok12 rfl ?_
  refine WL.sreg (by simp;rfl) (by simp;rfl) ?_
  refine WL.sregC (RL.o (by simp;rfl) (RL.call0 false (new_bad n hb) (by simp) (by simp) (RL.o (by simp;rfl) (RL.call0 false (rnew_bad n hb) (by simp) (by simp) (RL.o (by simp;rfl) (RL.nil ⟨_,by simp;rfl,?_⟩))))))
  refine WL.seq (WL.sreg (by simp;rfl) (by simp;rfl) ?_)
  refine WL.cond (t:=true) (by simp) (fun _=>?_) (by simp)
  refine WL.sregC (RL.call0 false told_fn (by simp) (by simp) (RL.o (by simp;rfl) (RL.g (by simp;rfl) (RL.o (by simp;rfl) (RL.nil ⟨_,by simp;rfl,WL.ret ⟨.inr rfl,?_⟩⟩)))))
  simp[fi12]
 ·obtain⟨m,rfl⟩:∃ m:Nat,n=m:=⟨n.toNat,by omega⟩
  have f1:=new_fn m (by omega) (by omega)
  have f2:=rnew_fn m (by omega) (by omega)
  have he:=Eqv.new m (by omega) (by omega)
  have hA:(newD m).A≤0:=by simp[newD]
  generalize newD m=d at *
  generalize newR m=r at *
  refine FnC.go ok12 rfl ?_
  refine WL.sreg (by simp;rfl) (by simp;rfl) ?_
  refine WL.sregC (RL.o (by simp;rfl) (RL.call0 false f1 (by simp) (by simp) (RL.o (by simp;rfl) (RL.call0 false f2 (by simp) (by simp) (RL.o (by simp;rfl) (RL.nil ⟨_,by simp;rfl,?_⟩))))))
  refine WL.seq (WL.sreg (by simp;rfl) (by simp;rfl) ?_)
  refine WL.cond (t:=false) (by simp) (by simp) (fun _=>WL.skip ?_)
  refine WL.seq (WL.sreg (by simp;rfl) (by simp;rfl) ?_)
  refine WL.cond (t:=false) (by simp) (by simp) (fun _=>WL.skip ?_)
  by_cases h100:l.length≤100
  ·have g:¬ (100:Int) < l.length:=by omega
   refine WL.seq (WL.sreg (by simp[g];rfl) (by simp;rfl) ?_)
   refine WL.cond (t:=false) (by simp) (by simp) (fun _=>WL.skip ?_)
   refine WL.seq (WL.sreg (by simp;rfl) (by simp;rfl) ?_)
   refine WL.eqL ?_ (plays_loop l h100 d r he hA fun d r i q=>plays_op l d r i q)
   simp[PlS]
  ·have g:(100:Int) < l.length:=by omega
   refine WL.seq (WL.sreg (by simp[g];rfl) (by simp;rfl) ?_)
   refine WL.cond (t:=true) (by simp) (fun _=>?_) (by simp)
   refine WL.sregC (RL.call0 false told_fn (by simp) (by simp) (RL.o (by simp;rfl) (RL.nil ⟨_,by simp;rfl,WL.ret ⟨.inr rfl,?_⟩⟩)))
   simp[fi12]
end Go.OT
namespace Go.Proofs.Ytlcemfnjhdcmoaa
open Go.ChangeShapes Go.WideShapes Go.ChangeAt Go.RowKit Go.Joins Go.OT
theorem diskPlays_own:ownKnob Try.prog.godebug=none:=by kernel_rfl
theorem diskPlays_laid:laidOutB Try.prog=true:=by kernel_rfl
theorem diskPlays_read:((Try.f12.params.toList).all fun t=>Try.prog.readableRec t && decide (t < Try.prog.types.size))=true:=by kernel_rfl
set_option maxRecDepth 100000 in
theorem diskPlays_lifted (os:Os)(started:os.Started)(H:Type)(enc:TypeId × Value→H) :
  ReturnsInHanded {} Try.checked os 12 .any (Rows.diskPlaysSpec.pre6 enc Try.prog Try.f12 Rows.diskPlaysRow.domain false) (Rows.diskPlaysSpec.post enc Try.prog Try.f12 false true false false):=by
 refine returnsInHanded_of_change (C:=Try.checked) diskPlays_own started (by kernel_rfl) Try.func12
  (ChangeSpec.witness6 (enc:=enc) (C:=Try.checked) false ⟨#[],#[.int .i64 0,.slice none 0 0],[]⟩ 8 (by kernel_rfl) (by kernel_rfl) (by kernel_rfl) (by kernel_rfl)) ?_
 intro W base args ds gs before hval0 hW hcnd _
 have hval:∀ (j:Nat) t v,Try.f12.params[j]?=some t→args[j]?=some v→Value.okWide Try.prog W .any base t v:=hval0
 have hW':=hW
 obtain⟨p,q,hA0,hV,rfl,hfz,hnd⟩:=hW
 have hA:DataW.TrodAll enc Try.prog W 0 (fun _=>true) true Try.f12.params.toList args.toList ds p:=hA0
 have hB:=hA
 rw[Try.params12] at hA hval
 obtain⟨v0,vs0,d0,ds0,p0,q0,hargs,rfl,rfl,h0,r0⟩:=trodAll_cons hA
 obtain⟨v1,vs1,d1,ds1,p1,q1,rfl,rfl,rfl,h1,r1⟩:=trodAll_cons r0
 obtain⟨rfl,rfl,rfl⟩:=trodAll_nil r1
 obtain rfl:args=#[v0,v1]:=by cases args;simp_all
 obtain⟨rfl,rfl⟩:=trodVars_none hV
 obtain⟨a0,l0,e0,k0,rr0,mm0,no0,ro0⟩:=ta3 H enc W .any base v0 d0 p0 (hval 0 _ v0 rfl rfl) h0
 obtain⟨a1,l1,e1,k1,rr1,mm1,no1,ro1⟩:=ta81 H enc W .any base v1 d1 p1 (hval 1 _ v1 rfl rfl) h1
 have hwalk:Calls Try.prog 12 #[v0,v1] W fun e w'=>e=.returned (.bool true)∧Below W.heap.size W w':=by
  refine Fn.law ((fun (n:Int) (l:List Dop) (h:l.length≤9223372036854775807∧∀ c ∈ l,c.B.length≤9223372036854775807)=>plays_fn n l h.1) a0 a1 k1).1 (Wc W) [l0,l1] (fun _ _ h=>Wc_lt h) rfl (by simp) (by simp only[List.map_cons,List.map_nil,e0,e1]) fun t la h=>?_
  match t,h with
  | 0,h=>simp at h;subst h;exact⟨rr0,mm0,no0,ro0⟩
  | 1,h=>simp at h;subst h;exact⟨rr1,mm1,no1,ro1⟩
  | t+2,h=>simp at h
 clear hA0 hval0
 refine hwalk.mono fun e W' ⟨he,bel⟩=>?_
 subst he
 exact⟨_,rfl,_,_,_,[],_,[],hW',trodAll_mk1 (shut_bool Try.underlying4 _),below_all diskPlays_laid bel diskPlays_read hB,rfl,bel.frame _,fun h=>by cases h⟩
end Go.Proofs.Ytlcemfnjhdcmoaa
