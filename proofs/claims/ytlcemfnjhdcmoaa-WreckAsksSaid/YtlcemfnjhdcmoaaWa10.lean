/- Part 10 of the proof: see its last file. -/
import Derived.Orders
import Derived.Below
import Derived.Laws.Entries
import Derived.Laws.Cells
import Derived.Laws.IdiomCopy
import Derived.Scope
import Derived.Calls
import Derived.Laws.Tables
import Derived.Laws.MakeOwn
import Derived.Laws.BytesString
import Derived.ArgAppend
import Derived.WalkSpells
import Derived.Lib.SlBytesConst
import Derived.Lib.ConvBytes
import Derived.WalkKit
import Derived.ProofKit
import Derived.OpenShut
import Derived.ShutString
import Derived.ChangeOld
import Derived.Lib.SmallJoins
import Derived.Test.YtlcemfnjhdcmoaaProg
import Derived.KernelRfl
import Derived.IntWalk
import Derived.Lib.Strings
import Derived.Test.YtlcemfnjhdcmoaaWa09
set_option linter.unusedSimpArgs false
set_option linter.unusedVariables false
namespace Go.OT
open Go.Proofs
def badF (k code:Int):Bool:=if code=8 then decide (k=1) || decide (k=2) else if code=9 then decide (k=1) || (decide (k=2) || (decide (k=6) || decide (k=7))) else if code=10 then decide (k=2) else false
set_option maxHeartbeats 8000000 in
theorem bad_fn (q:Op)(code:Int):FnC Try.prog 37 [] [encO false q,i64 code] [] (bl (badF q.Kind code)):=by
 refine FnC.go ok37 rfl ?_
 refine WL.sreg (by simp;rfl) (by simp;rfl) ?_
 refine WL.seq (WL.sreg (by simp;rfl) (by simp;rfl) ?_)
 refine WL.block ?_
 by_cases c8:code=8
 ·refine WL.sreg (by simp[c8];rfl) (by simp;rfl) (WL.cond (t:=true) (by simp) (fun _=>?_) (by simp))
  by_cases k1:q.Kind=1
  ·refine WL.sreg (by simp[k1];rfl) (by simp;rfl) (WL.ret ⟨.inr rfl,?_⟩)
   simp[fi37,badF,c8,k1]
  ·refine WL.sreg (by simp[beq_false_of_ne k1];rfl) (by simp;rfl) (WL.ret ⟨.inr rfl,?_⟩)
   by_cases k2:q.Kind=2<;>simp [fi37,badF,c8,k1,k2]
 refine WL.sreg (by simp[beq_false_of_ne c8];rfl) (by simp;rfl) (WL.cond (t:=false) (by simp[c8]) (by simp) fun _=>?_)
 by_cases c9:code=9
 ·refine WL.sreg (by simp[c9];rfl) (by simp;rfl) (WL.cond (t:=true) (by simp) (fun _=>?_) (by simp))
  by_cases k1:q.Kind=1
  ·refine WL.sreg (by simp[k1];rfl) (by simp;rfl) (WL.ret ⟨.inr rfl,?_⟩)
   simp[fi37,badF,c9,k1]
  ·by_cases k2:q.Kind=2
   ·refine WL.sreg (by simp[beq_false_of_ne k1,k2];rfl) (by simp;rfl) (WL.ret ⟨.inr rfl,?_⟩)
    simp[fi37,badF,c9,k1,k2]
   ·by_cases k6:q.Kind=6
    ·refine WL.sreg (by simp[beq_false_of_ne k1,beq_false_of_ne k2,k6];rfl) (by simp;rfl) (WL.ret ⟨.inr rfl,?_⟩)
     simp[fi37,badF,c9,k1,k2,k6]
    ·refine WL.sreg (by simp[beq_false_of_ne k1,beq_false_of_ne k2,beq_false_of_ne k6];rfl) (by simp;rfl) (WL.ret ⟨.inr rfl,?_⟩)
     by_cases k7:q.Kind=7<;>simp [fi37,badF,c9,k1,k2,k6,k7]
 refine WL.sreg (by simp[beq_false_of_ne c9];rfl) (by simp;rfl) (WL.cond (t:=false) (by simp[c9]) (by simp) fun _=>?_)
 by_cases c10:code=10
 ·refine WL.sreg (by simp[c10];rfl) (by simp;rfl) (WL.cond (t:=true) (by simp) (fun _=>?_) (by simp))
  refine WL.sreg (by simp;rfl) (by simp;rfl) (WL.ret ⟨.inr rfl,?_⟩)
  by_cases k2:q.Kind=2<;>simp [fi37,badF,c10,k2]
 refine WL.sreg (by simp[beq_false_of_ne c10];rfl) (by simp;rfl) (WL.cond (t:=false) (by simp[c10]) (by simp) fun _=>WL.skip ?_)
 refine WL.sreg (by simp;rfl) (by simp;rfl) (WL.ret ⟨.inr rfl,?_⟩)
 simp[fi37,badF,c8,c9,c10]
def tmPrev (l:List Ev)(i:Nat)(e:Ev):Bool:=decide (0 < i) && decide (e.Begin < (l.getD (i - 1) e).Begin)
def tmBad (l:List Ev)(i:Nat)(c:Int)(e:Ev):Bool:=decide (e.Client < 0) || (decide (c≤e.Client) || (decide (e.Begin < 1) || (tmPrev l i e || decide (e.End < 0))))
def tmStamp (e:Ev):Bool:=(decide (0 < e.End) && (decide (e.Stamp < e.Begin) || decide (e.End < e.Stamp))) || (decide (e.End=0) && (decide (e.Stamp ≠ 0) && decide (e.Stamp < e.Begin)))
def tmOver (e o:Ev):Bool:=decide (o.Client=e.Client) && (decide (o.End < 1) || decide (e.Begin≤o.End))
def timesE (l:List Ev)(i:Nat)(c:Int)(e:Ev):Bool:=!tmBad l i c e && (!tmStamp e && !(l.take i).any (tmOver e))
def timesF (l:List Ev)(i:Nat)(c:Int):Bool:=match l[i]? with
 | some e=>timesE l i c e
 | none=>true
theorem timesF_at {l:List Ev}{i:Nat}(h:i < l.length)(c:Int):timesF l i c=timesE l i c l[i]:=by
 simp[timesF,h]
abbrev bxE (b:Nat)(e:Ev):SL:=[(100 * b,0,.bptr b 1 0),(100 * b+1,0,i64 e.Client),(100 * b+2,0,i64 e.op.Kind),(100 * b+3,0,i64 e.op.Page),(100 * b+4,0,i64 e.op.Handle),(100 * b+5,0,i64 e.op.Off),(100 * b+6,0,i64 e.op.N),(100 * b+7,0,sU false e.op.Data),(100 * b+8,0,i64 e.res.Code),(100 * b+9,0,i64 e.res.Page),(100 * b+10,0,i64 e.res.Handle),(100 * b+11,0,sU false e.res.Data),(100 * b+12,0,i64 e.Begin),(100 * b+13,0,i64 e.Stamp),(100 * b+14,0,i64 e.End),(100 * b+99,1,.non)]
abbrev tmS (l:List Ev)(i:Nat)(r:SL):SL:=[(0,0,sEv l),(100,0,i64 i)] ++ r
abbrev tmQ (v:Bool):Ex→SL→Prop:=fun e L=>e=Ex.ret∧RetOk fi135.rs [] (bl v) L
theorem fmE_take (o r:Bool)(l:List Ev)(i:Nat):(l.flatMap (cellsEv o r)).take (i * 14)=(l.take i).flatMap (cellsEv o r):=by
 induction l generalizing i with
 | nil=>simp
 | cons a l ih =>
  cases i with
  | zero=>simp
  | succ i =>
   rw[List.flatMap_cons,List.take_append,List.take_of_length_le (by simp;omega),List.take_succ_cons,List.flatMap_cons]
   congr 1
   have:(i+1) * 14 - (cellsEv o r a).length=i * 14:=by simp;omega
   rw[this,ih]
theorem any_take_succ {α:Type}{p:α→Bool}{l:List α}{k:Nat}(h:k < l.length)(hp:(l.take k).any p=false)(hk:p l[k]=false):(l.take (k+1)).any p=false:=by
 rw[take_succ_snoc h,List.any_append,hp]
 simp[hk]
theorem any_of_at {α:Type}{p:α→Bool}{l:List α}{k:Nat}(h:k < l.length)(hk:p l[k]=true):l.any p=true:=List.any_eq_true.2 ⟨_,List.getElem_mem h,hk⟩
abbrev tmT (m:List Ev)(e:Ev)(k:Nat):SL:=bxE 7 e ++ [(8500,0,sEv m),(8600,0,i64 m.length),(8700,0,i64 k)]
set_option maxHeartbeats 16000000 in
theorem times_loop (l:List Ev)(hn:l.length≤1000)(i:Nat)(hi:i < l.length)(e:Ev):WL Try.prog fi135.nt c135_20 (tmS l i (bxE 7 e ++ [(6700,0,bl false)])) (tmQ (!(l.take i).any (tmOver e))):=by
 have hlen:=fmE_len false false l
 have htk:=fmE_take false false l i
 have hmi:min i l.length=i:=by omega
 obtain⟨m,hm⟩:∃ m,m=l.take i:=⟨_,rfl⟩
 have hml:m.length=i:=by rw[hm,List.length_take];omega
 refine WL.seq (WL.label ?_)
 refine WL.seq (WL.sreg (by simp[hi,Nat.le_of_lt hi,htk];rfl) (by simp;rfl) ?_)
 rw[← hm]
 refine WL.block (WL.count m.length (fun k=>tmT m e k) (fun k=>(m.take k).any (tmOver e)=false) (by simp[hml]) (by simp) fun k hk hp=>?_)
 by_cases hlt:k < m.length
 ·have f1:=fmE_drop (o:=false) (r:=false) hlt
  have g1:14≤m.length * 14 - k * 14:=by omega
  have w:IntKind.wrap .i64 ((k:Int)+1)=((k+1:Nat):Int):=by rw[wrap_small (by omega) (by omega)];omega
  refine WL.sreg (by simp[hlt];rfl) (by simp;rfl) ?_
  refine WL.seq (WL.cond (t:=true) (by simp[hlt]) (fun _=>WL.skip ?_) (by simp))
  refine WL.seq (WL.block (WL.sreg (by simp[hlt,f1,g1];rfl) (by simp;rfl) ?_))
  have next:∀ (h:tmOver e m[k]=false),WL Try.prog fi135.nt c135_13 (tmT m e k) (Ex.thenL (fun L'=>k < m.length∧L'=tmT m e (k+1)∧(m.take (k+1)).any (tmOver e)=false) (Ex.blkL 1 (Ex.thenL (fun L'=>WL Try.prog fi135.nt c135_18 L' (tmQ (!m.any (tmOver e)))) (tmQ (!m.any (tmOver e)))))):=fun h=>by
   refine WL.reg (RL.run (by simp[w];rfl) ⟨_,by simp;rfl,hlt,?_,any_take_succ hlt hp h⟩)
   simp
  have stop:∀ (h:tmOver e m[k]=true) (L:SL),L=tmT m e k ++ [(10500,0,bl true)]→WL Try.prog fi135.nt c135_9 (tmT m e k ++ [(10500,0,bl true)]) (tmQ (!m.any (tmOver e))):=fun h L _=>by
   rw[any_of_at hlt h]
   refine WL.sreg (by simp;rfl) (by simp;rfl) (WL.ret ⟨rfl,?_⟩)
   simp[fi135]
  generalize ho:m[k]=o at next stop ⊢
  by_cases c1:o.Client=e.Client
  ·have c1':(o.Client != e.Client)=false:=by simp[c1]
   refine WL.seq (WL.sreg (by simp[c1'];rfl) (by simp;rfl) ?_)
   refine WL.cond (t:=false) (by simp) (by simp) fun _=>WL.skip ?_
   by_cases c2:o.End < 1
   ·refine WL.sreg (by simp[c2];rfl) (by simp;rfl) ?_
    refine WL.cond (t:=true) (by simp) (fun _=>?_) (by simp)
    refine WL.mono (Q':=tmQ (!m.any (tmOver e))) ?_ fun x L h=>?_
    ·exact stop (by simp[tmOver,c1,c2]) _ rfl
    ·obtain⟨rfl,h⟩:=h;exact⟨rfl,h⟩
   ·by_cases c3:e.Begin≤o.End
    ·refine WL.sreg (by simp[c2,c3];rfl) (by simp;rfl) ?_
     refine WL.cond (t:=true) (by simp) (fun _=>?_) (by simp)
     refine WL.mono (Q':=tmQ (!m.any (tmOver e))) ?_ fun x L h=>?_
     ·exact stop (by simp[tmOver,c1,c2,c3]) _ rfl
     ·obtain⟨rfl,h⟩:=h;exact⟨rfl,h⟩
    ·refine WL.sreg (by simp[c2,c3];rfl) (by simp;rfl) ?_
     refine WL.cond (t:=false) (by simp) (by simp) fun _=>WL.skip ?_
     have:=next (by simp[tmOver,c1,c2,c3])
     refine WL.fin [105] (by simp;rfl) ?_
     exact this
  ·have c1':(o.Client != e.Client)=true:=by simp[c1]
   refine WL.seq (WL.sreg (by simp[c1'];rfl) (by simp;rfl) ?_)
   refine WL.cond (t:=true) (by simp) (fun _=>WL.exit ?_) (by simp)
   have:=next (by simp[tmOver,c1])
   refine WL.fin [9,95] (by simp;rfl) ?_
   exact this
 ·obtain rfl:k=m.length:=by omega
  rw[List.take_length] at hp
  refine WL.sreg (by simp;rfl) (by simp;rfl) ?_
  refine WL.seq (WL.cond (t:=false) (by simp) (by simp) fun _=>WL.exit ?_)
  rw[hp]
  refine WL.sreg (by simp;rfl) (by simp;rfl) (WL.ret ⟨rfl,?_⟩)
  simp[fi135]
end Go.OT
namespace Go.OT
open Go.Proofs
def plainRes (r:Rs):Bool:=decide (r.Page=0) && (decide (r.Handle=0) && decide (r.Data=[]))
def stepR (s:St)(e:Ev):Bool × St :=
 if (decide (0 < e.End) && badF e.op.Kind e.res.Code)=true then (plainRes e.res,s) else (decide (e.End=0) || SameRes (DoB s e.Client e.op).2.2 e.res,(DoB s e.Client e.op).2.1)
def stepW (s:St)(e:Ev):Option St :=
 if (decide (e.End=0) || SameRes (DoB s e.Client e.op).2.2 e.res)=true then some (DoB s e.Client e.op).2.1
 else if (!badF e.op.Kind e.res.Code || !SameRes e.res (rsE e.res.Code))=true then none else some s
theorem step_code (s:St)(c:Nat)(q:Op):(Step s c q).2.Code=0:=by
 simp only[Step]
 repeat' split
 all_goals rfl
theorem codeOf_le (s:St)(l:List Int)(q:Op):0≤codeOf s l q∧codeOf s l q≤7:=by
 simp only[codeOf]
 repeat' split
 all_goals decide
theorem DoB_code (s:St)(cl:Int)(q:Op):0≤(DoB s cl q).2.2.Code∧(DoB s cl q).2.2.Code≤7:=by
 unfold DoB
 split
 ·simp[rsE]
 ·split
  ·rw[step_code];exact⟨by decide,by decide⟩
  ·exact codeOf_le _ _ _
theorem badF_code {k c:Int}(h:badF k c=true):8≤c:=by
 unfold badF at h
 split at h
 ·omega
 ·split at h
  ·omega
  ·split at h
   ·omega
   ·cases h
theorem stepW_eq (s:St)(e:Ev)(h0:0≤e.End):stepW s e=if (stepR s e).1=true then some (stepR s e).2 else none:=by
 have hc:=DoB_code s e.Client e.op
 unfold stepW stepR
 by_cases p0:e.End=0
 ·have p1:¬ (0 < e.End):=by omega
  simp[p0]
 ·have p1:0 < e.End:=by omega
  cases hb:badF e.op.Kind e.res.Code with
  | true =>
   have h8:=badF_code hb
   have hs:SameRes (DoB s e.Client e.op).2.2 e.res=false:=by
    have:((DoB s e.Client e.op).2.2.Code == e.res.Code)=false:=beq_false_of_ne (by omega)
    simp[SameRes,this]
   have hp:SameRes e.res (rsE e.res.Code)=plainRes e.res:=by
    simp[SameRes,plainRes,rsE]
    by_cases z1:e.res.Page=0<;>by_cases z2:e.res.Handle=0<;>by_cases z3:e.res.Data=[]<;>simp [z1,z2,z3]
   simp only[hs,hp,p0,p1,decide_true,decide_false,Bool.or_false,Bool.not_true,Bool.false_or,Bool.true_and,if_true]
   cases plainRes e.res<;>simp
  | false =>
   simp only[p0,p1,decide_true,decide_false,Bool.and_false,Bool.not_false,Bool.true_or,Bool.false_or,if_true,Bool.false_eq_true,if_false]
def atE (l:List Ev)(x:Int):Ev:=(l[x.toNat]?).getD ⟨0,⟨0,0,0,0,0,[]⟩,⟨0,0,0,[]⟩,0,0,0⟩
theorem atE_at {l:List Ev}{i:Nat}(h:i < l.length):atE l (i:Int)=l[i]:=by simp[atE,h]
def goW {σ:Type}(l:List Ev)(see:σ→Int→St→σ):St→σ→List Int→Int × St × σ
 | s,a,[]=>(0,s,a)
 | s,a,x :: r=>if (stepR s (atE l x)).1=true then goW l see (stepR s (atE l x)).2 (see a x (stepR s (atE l x)).2) r else (x+1,s,a)
theorem goW_code {σ τ:Type}(l:List Ev)(f:σ→Int→St→σ)(g:τ→Int→St→τ):∀ (o:List Int) (s:St) (a:σ) (b:τ),(goW l f s a o).1=(goW l g s b o).1∧(goW l f s a o).2.1=(goW l g s b o).2.1
 | [],s,a,b=>⟨rfl,rfl⟩
 | x :: r,s,a,b=>by
  simp only[goW]
  split
  ·exact goW_code l f g r _ _ _
  ·exact⟨rfl,rfl⟩
theorem goW_last (l:List Ev):∀ (o:List Int) (s:St),(goW l (fun _ _ t=>t) s s o).2.2=(goW l (fun _ _ t=>t) s s o).2.1
 | [],s=>rfl
 | x :: r,s=>by
  simp only[goW]
  split
  ·exact goW_last l r _
  ·rfl
def firstBad (l:List Ev)(c:Int):Option Nat:=(List.range l.length).find? fun i=>!timesF l i c
theorem firstBad_some {l:List Ev}{c:Int}{i:Nat}(hi:i < l.length)(h:∀ j,j < i→timesF l j c=true)(hb:timesF l i c=false):firstBad l c=some i:=by
 unfold firstBad
 rw[List.find?_range_eq_some]
 exact⟨by simp[hb],List.mem_range.2 hi,fun j hj=>by simp[h j hj]⟩
theorem firstBad_none {l:List Ev}{c:Int}(h:∀ j,j < l.length→timesF l j c=true):firstBad l c=none:=by
 unfold firstBad
 rw[List.find?_eq_none]
 intro j hj
 simp[h j (List.mem_range.1 hj)]
theorem firstBad_all {l:List Ev}{c:Int}(h:firstBad l c=none):∀ j,j < l.length→timesF l j c=true:=by
 unfold firstBad at h
 rw[List.find?_eq_none] at h
 intro j hj
 simpa using h j (List.mem_range.2 hj)
def walkF {σ:Type}(see:σ→Int→St→σ)(a:σ)(l:List Ev)(p c:Int):Int × St × σ :=
 if newBad p c=true then (-1,newSt p c,a) else match firstBad l c with
  | some i=>(i+1,newSt p c,a)
  | none=>goW l see (newSt p c) a (ordF l)
def noSee:Unit→Int→St→Unit:=fun _ _ _=>()
def chkF (l:List Ev)(p c:Int):Int:=(walkF noSee () l p c).1
def finF (l:List Ev)(p c:Int):St × Bool:=if chkF l p c=0 then ((walkF noSee () l p c).2.1,true) else (⟨[],[],[]⟩,false)
theorem walkF_code {σ:Type}(see:σ→Int→St→σ)(a:σ)(l:List Ev)(p c:Int):(walkF see a l p c).1=chkF l p c:=by
 unfold chkF walkF
 split
 ·rfl
 ·split
  ·rfl
  ·exact (goW_code l see noSee _ _ a ()).1
theorem walkF_last (l:List Ev)(p c:Int):(walkF (fun _ _ t=>t) (newSt p c) l p c).2.2=(walkF noSee () l p c).2.1:=by
 unfold walkF
 split
 ·rfl
 ·split
  ·rfl
  ·rw[goW_last];exact (goW_code l _ noSee _ _ _ ()).2
theorem stepR_ok {s:St}(h:OkSt s)(e:Ev):OkSt (stepR s e).2:=by
 unfold stepR
 split
 ·exact h
 ·exact h.doB _ _
structure EvOk (l:List Ev):Prop where
 n:l.length≤1000
 d:∀ e ∈ l,e.op.Data.length≤1000
end Go.OT
namespace Go.OT
open Go.Proofs
set_option maxHeartbeats 8000000 in
theorem refbad_fn (q:Op)(code:Int):FnC Try.prog 38 [] [encO false q,i64 code] [] (bl (badF q.Kind code)):=by
 refine FnC.go ok38 rfl ?_
 refine WL.sreg (by simp;rfl) (by simp;rfl) ?_
 refine WL.seq (WL.sreg (by simp;rfl) (by simp;rfl) ?_)
 refine WL.block ?_
 by_cases c8:code=8
 ·refine WL.sreg (by simp[c8];rfl) (by simp;rfl) (WL.cond (t:=true) (by simp) (fun _=>?_) (by simp))
  by_cases k1:q.Kind=1
  ·refine WL.sreg (by simp[k1];rfl) (by simp;rfl) (WL.ret ⟨.inr rfl,?_⟩)
   simp[fi38,badF,c8,k1]
  ·refine WL.sreg (by simp[beq_false_of_ne k1];rfl) (by simp;rfl) (WL.ret ⟨.inr rfl,?_⟩)
   by_cases k2:q.Kind=2<;>simp [fi38,badF,c8,k1,k2]
 refine WL.sreg (by simp[beq_false_of_ne c8];rfl) (by simp;rfl) (WL.cond (t:=false) (by simp[c8]) (by simp) fun _=>?_)
 by_cases c9:code=9
 ·refine WL.sreg (by simp[c9];rfl) (by simp;rfl) (WL.cond (t:=true) (by simp) (fun _=>?_) (by simp))
  by_cases k1:q.Kind=1
  ·refine WL.sreg (by simp[k1];rfl) (by simp;rfl) (WL.ret ⟨.inr rfl,?_⟩)
   simp[fi38,badF,c9,k1]
  ·by_cases k2:q.Kind=2
   ·refine WL.sreg (by simp[beq_false_of_ne k1,k2];rfl) (by simp;rfl) (WL.ret ⟨.inr rfl,?_⟩)
    simp[fi38,badF,c9,k1,k2]
   ·by_cases k6:q.Kind=6
    ·refine WL.sreg (by simp[beq_false_of_ne k1,beq_false_of_ne k2,k6];rfl) (by simp;rfl) (WL.ret ⟨.inr rfl,?_⟩)
     simp[fi38,badF,c9,k1,k2,k6]
    ·refine WL.sreg (by simp[beq_false_of_ne k1,beq_false_of_ne k2,beq_false_of_ne k6];rfl) (by simp;rfl) (WL.ret ⟨.inr rfl,?_⟩)
     by_cases k7:q.Kind=7<;>simp [fi38,badF,c9,k1,k2,k6,k7]
 refine WL.sreg (by simp[beq_false_of_ne c9];rfl) (by simp;rfl) (WL.cond (t:=false) (by simp[c9]) (by simp) fun _=>?_)
 by_cases c10:code=10
 ·refine WL.sreg (by simp[c10];rfl) (by simp;rfl) (WL.cond (t:=true) (by simp) (fun _=>?_) (by simp))
  refine WL.sreg (by simp;rfl) (by simp;rfl) (WL.ret ⟨.inr rfl,?_⟩)
  by_cases k2:q.Kind=2<;>simp [fi38,badF,c10,k2]
 refine WL.sreg (by simp[beq_false_of_ne c10];rfl) (by simp;rfl) (WL.cond (t:=false) (by simp[c10]) (by simp) fun _=>WL.skip ?_)
 refine WL.sreg (by simp;rfl) (by simp;rfl) (WL.ret ⟨.inr rfl,?_⟩)
 simp[fi38,badF,c8,c9,c10]
abbrev spS (s:St)(e:Ev)(r:SL):SL:=[(200,0,.bptr 2 1 0),(201,0,.view 1000000 0 [] 0 s.There.length),(202,0,.view 1000100 0 [] 0 s.Body.length),(203,0,.view 1000200 0 [] 0 s.Handles.length),(299,1,.non)] ++ (bxE 3 e ++ (r ++ ghT s))
abbrev spQ (s':St)(v:Bool):Ex→SL→Prop:=fun e L=>e=Ex.ret∧RetOk fi90.rs (gsT s') (bl v) L
set_option maxHeartbeats 16000000 in
theorem refstep_do (s:St)(h:OkSt s)(e:Ev)(hD:e.op.Data.length≤1000):WL Try.prog fi90.nt c90_3 (spS s e [(1600,0,bl false)]) (spQ (DoB s e.Client e.op).2.1 (decide (e.End=0) || SameRes (DoB s e.Client e.op).2.2 e.res)):=by
 have hdo:=refdo_fn s h e.Client e.op (by unfold Small;omega)
 generalize DoB s e.Client e.op=dd at hdo ⊢
 obtain⟨o',t,r⟩:=dd
 simp only at hdo ⊢
 refine WL.sregC (RL.o (by simp;rfl) ?_)
 refine RL.call true [(1000000,[]),(1000100,[]),(1000200,[])] hdo (by simp) (by simp) (by simp[gkey]) (side_do s t r) ?_
 refine RL.o (by simp;rfl) (RL.nil ⟨_,by simp;rfl,?_⟩)
 by_cases p:e.End=0
 ·have z:(e.End == 0)=true:=by simp[p]
  refine WL.sregC (RL.o (by simp[z];rfl) (RL.g (by simp;rfl) (RL.callN (by simp) (RL.o (by simp;rfl) (RL.nil ⟨_,by simp;rfl,WL.ret ⟨rfl,?_⟩⟩)))))
  simp[fi90,p]
 ·have z:(e.End == 0)=false:=beq_false_of_ne p
  refine WL.sregC (RL.o (by simp[z];rfl) (RL.g (by simp;rfl) (RL.callY0 true (by simp) (refres_fn r e.res) (by simp) (by simp) (RL.o (by simp;rfl) (RL.nil ⟨_,by simp;rfl,WL.ret ⟨rfl,?_⟩⟩)))))
  simp[fi90,p]
set_option maxHeartbeats 16000000 in
theorem refstep_fn (s:St)(h:OkSt s)(e:Ev)(hD:e.op.Data.length≤1000):FnC Try.prog 90 (gsT s) [vwT s,.agg (cellsEv false false e)] (gsT (stepR s e).2) (bl (stepR s e).1):=by
 refine FnC.go ok90 rfl ?_
 refine WL.mono (Q':=spQ (stepR s e).2 (stepR s e).1) ?_ fun x L h=>⟨.inr h.1,h.2⟩
 refine WL.sregC (RL.boxW (by simp;rfl) (by simp) (by simp[isVw]) (by simp) (RL.o (by simp;rfl) (RL.nil ⟨_,by simp;rfl,?_⟩)))
 have hdo:=refstep_do s h e hD
 refine WL.seq ?_
 by_cases p:0 < e.End
 ·have hb:=refbad_fn e.op e.res.Code
  cases hbad:badF e.op.Kind e.res.Code with
  | false =>
   rw[hbad] at hb
   refine WL.sregC (RL.o (by simp[p];rfl) (RL.g (by simp;rfl) (RL.callY0 false (by simp) hb (by simp) (by simp) (RL.o (by simp;rfl) (RL.nil ⟨_,by simp;rfl,?_⟩)))))
   refine WL.cond (t:=false) (by simp) (by simp) fun _=>WL.skip ?_
   simpa [stepR,p,hbad] using hdo
  | true =>
   rw[hbad] at hb
   refine WL.sregC (RL.o (by simp[p];rfl) (RL.g (by simp;rfl) (RL.callY0 false (by simp) hb (by simp) (by simp) (RL.o (by simp;rfl) (RL.nil ⟨_,by simp;rfl,?_⟩)))))
   refine WL.cond (t:=true) (by simp) (fun _=>?_) (by simp)
   by_cases z1:e.res.Page=0
   ·have y1:(e.res.Page == 0)=true:=by simp[z1]
    by_cases z2:e.res.Handle=0
    ·have y2:(e.res.Handle == 0)=true:=by simp[z2]
     refine WL.sreg (by simp[y1,y2];rfl) (by simp;rfl) (WL.ret ⟨rfl,?_⟩)
     by_cases z3:e.res.Data=[]<;>simp [fi90,stepR,plainRes,p,hbad,z1,z2,z3]
    ·have y2:(e.res.Handle == 0)=false:=beq_false_of_ne z2
     refine WL.sreg (by simp[y1,y2];rfl) (by simp;rfl) (WL.ret ⟨rfl,?_⟩)
     simp[fi90,stepR,plainRes,p,hbad,z1,z2]
   ·have y1:(e.res.Page == 0)=false:=beq_false_of_ne z1
    refine WL.sreg (by simp[y1];rfl) (by simp;rfl) (WL.ret ⟨rfl,?_⟩)
    simp[fi90,stepR,plainRes,p,hbad,z1]
 ·refine WL.sregC (RL.o (by simp[p];rfl) (RL.g (by simp;rfl) (RL.callN (by simp) (RL.o (by simp;rfl) (RL.nil ⟨_,by simp;rfl,?_⟩)))))
  refine WL.cond (t:=false) (by simp) (by simp) fun _=>WL.skip ?_
  simpa [stepR,p] using hdo
end Go.OT
namespace Go.OT
open Go.Proofs
@[simp] theorem extra_asg (L:SL) (d:Nat) (c:COd):extra L (.asg d c)=true:=rfl
theorem insA_at (key:Int→Int)(x:Int):∀ (l:List Int) (k:Nat),k≤l.length→(∀ j (h:j < l.length),j < k→¬ key x < key l[j])→(∀ (h:k < l.length),key x < key l[k])→insA key x l=l.take k ++ x :: l.drop k
 | [],k,hk,_,_=>by simp[insA]
 | y :: r,0,_,_,h2=>by
  have:=h2 (by simp)
  simp only[List.getElem_cons_zero] at this
  simp[insA,this]
 | y :: r,k+1,hk,h1,h2=>by
  have:=h1 0 (by simp) (by omega)
  simp only[List.getElem_cons_zero] at this
  have ih:=insA_at key x r k (by simpa using hk) (fun j hj hjk=>by have:=h1 (j+1) (by simpa using hj) (by omega);simpa using this) (fun h=>by have:=h2 (by simpa using h);simpa using this)
  simp[insA,this,ih]
abbrev roS' (l:List Ev)(i:Nat)(r:SL):SL:=[(0,0,sEv l),(300,0,sI true (ordL (keyE l) (posN l i))),(400,0,i64 i)] ++ r
theorem sorted_keys {key:Int→Int}{O:List Int}(h:O.Pairwise (lexLt key)){j k:Nat}(hj:j≤k)(hk:k < O.length):key O[j]≤key O[k]:=by
 by_cases e:j=k
 ·subst e;exact Int.le_refl _
 ·have:=List.pairwise_iff_getElem.1 h j k (by omega) hk (by omega)
  unfold lexLt at this;omega
set_option maxHeartbeats 16000000 in
theorem reford_step (l:List Ev)(hn:l.length≤1000)(i:Nat)(hi:i < l.length)(hs:0 < l[i].Stamp)(Q:Ex→SL→Prop)(hq:Q .nrm [(0,0,sEv l),(300,0,sI true (ordL (keyE l) (posN l (i+1)))),(400,0,i64 i)]) :
  WL Try.prog fi34.nt c34_8 (roS' l i [(1800,0,bl false)]) Q:=by
 obtain⟨sp1,sp2⟩:=ordL_spec (keyE l) (posN_asc l i)
 have hnx:ordL (keyE l) (posN l (i+1))=insA (keyE l) i (ordL (keyE l) (posN l i)):=by
  rw[posN_succ,show (l.map (·.Stamp)).getD i 0=l[i].Stamp by simp[hi],if_pos hs,ordL_snoc]
 have hOl:(ordL (keyE l) (posN l i)).length≤i:=by rw[sp1.length_eq];exact posN_len l i
 have hmem:∀ j (h:j < (ordL (keyE l) (posN l i)).length),∃ u:Nat,u < l.length∧(ordL (keyE l) (posN l i))[j]=(u:Int):=fun j h=>by
  obtain⟨u,h1,h2,_⟩:=posN_mem (sp1.subset (List.getElem_mem h))
  exact⟨u,by omega,h2⟩
 have hki:keyE l (i:Int)=l[i].Stamp:=keyE_at hi
 have f1:=fmE_drop (o:=false) (r:=false) hi
 have g1:14≤l.length * 14 - i * 14:=by omega
 unfold roS'
 rw[hnx] at hq
 generalize ordL (keyE l) (posN l i)=O at sp1 sp2 hOl hmem hq ⊢
 refine WL.sreg (by simp;rfl) (by simp;rfl) ?_
 refine WL.seq (WL.block (WL.loop (ι:={k:Nat // k≤O.length∧∀ j (h:j < O.length),k≤j→l[i].Stamp < keyE l O[j]}) (fun k=>[(0,0,sEv l),(300,0,sI true O),(400,0,i64 i),(500,0,i64 k.1)]) (fun k=>k.1) ⟨O.length,Nat.le_refl _,fun j h h'=>by omega⟩ (by simp) fun x=>?_))
 obtain⟨k,hk,hgt⟩:=x
 simp only
 have fin:(∀ j (h:j < O.length),j < k→¬ l[i].Stamp < keyE l O[j])→WL Try.prog fi34.nt c34_6 [(0,0,sEv l),(300,0,sI true O),(400,0,i64 i),(500,0,i64 k)] Q:=fun hle=>by
  rw[insA_at (keyE l) i O k hk (fun j h h'=>by rw[hki];exact hle j h h') (fun h=>by rw[hki];exact hgt k h (Nat.le_refl _))] at hq
  have e1:min k O.length=k:=by omega
  have m1:k * 8≤140737488355328:=by omega
  have m2:k≤maxLen:=by unfold maxLen;omega
  have m3:(k+1) * 8≤140737488355328:=by omega
  have m4:k+1≤maxLen:=by unfold maxLen;omega
  have e2:k+1+(O.length - k)=O.length+1:=by omega
  have m5:(O.length+1) * 8≤140737488355328:=by omega
  have m6:O.length+1≤maxLen:=by unfold maxLen;omega
  have p1:(List.take k (List.map i64 O)).all plainC=true:=List.all_eq_true.2 fun x hx=>by
   obtain⟨y,_,rfl⟩:=List.mem_map.1 (List.mem_of_mem_take hx)
   rfl
  have p2:(List.take (O.length - k) (List.drop k (List.map i64 O))).all plainC=true:=List.all_eq_true.2 fun x hx=>by
   obtain⟨y,_,rfl⟩:=List.mem_map.1 (List.mem_of_mem_drop (List.mem_of_mem_take hx))
   rfl
  refine WL.sreg (by simp[hk,e1,m1,m2,p1];rfl) (by simp;rfl) ?_
  refine WL.draw mixed (by simp[cleanL,noH]) (DL.run (by simp[hk,e1,e2,m1,m2,m3,m4,m5,m6,p1,p2];exact⟨rfl,rfl⟩) ⟨by kernel_rfl,_,by simp;rfl,?_⟩)
  have e3:List.take k (List.map i64 O)=(O.take k).map i64:=List.map_take.symm
  have e4:List.take (O.length - k) (List.drop k (List.map i64 O))=(O.drop k).map i64:=by rw[← List.map_drop,List.take_of_length_le (by simp)]
  have e5:(List.take k O ++ (i:Int) :: List.drop k O).length=O.length+1:=by simp;omega
  have e6:List.take k (List.take k (List.take k (List.map i64 O)))=(O.take k).map i64:=by rw[List.take_take,List.take_take,Nat.min_self,Nat.min_self,e3]
  have eL:List.take (O.length+1) (List.take (k+1) (List.take k (List.take k (List.take k (List.map i64 O))) ++ [AV.sc (Value.int IntKind.i64 ↑i)]) ++ List.take (O.length - k) (List.drop k (List.map i64 O)))=(List.take k O ++ (i:Int) :: List.drop k O).map i64:=by
   rw[e6,e4,List.take_of_length_le (l:=List.map i64 (List.take k O) ++ _) (by simp;omega),List.take_of_length_le (by simp;omega)]
   simp
  rw[eL,← e5]
  exact hq
 by_cases hk0:0 < k
 ·obtain⟨p,hp⟩:∃ p,p=k - 1:=⟨_,rfl⟩
  have w:IntKind.wrap .i64 ((k:Int) - 1)=(p:Int):=by rw[wrap_small (by omega) (by omega)];omega
  have hpl:p < O.length:=by omega
  have hpl':p+1≤O.length:=hpl
  obtain⟨u,hu,eu⟩:=hmem p hpl
  have f2:=fmE_drop (o:=false) (r:=false) hu
  have g2:14≤l.length * 14 - u * 14:=by omega
  have hku:keyE l O[p]=l[u].Stamp:=by rw[eu];exact keyE_at hu
  refine WL.seq (WL.seq ?_)
  by_cases hc:l[i].Stamp < l[u].Stamp
  ·refine WL.draw mixed (by simp[cleanL,noH]) (DL.run (by simp[hk0,w,hpl,hpl',eu,hu,hi,f1,f2,g1,g2,hc];exact⟨rfl,rfl⟩) ⟨by kernel_rfl,_,by simp;rfl,?_⟩)
   refine WL.cond (t:=true) (by simp) (fun _=>WL.skip ?_) (by simp)
   refine WL.block (WL.reg (RL.run (by simp[w];rfl) ⟨_,by simp;rfl,?_⟩))
   refine⟨⟨p,by omega,fun j h h'=>?_⟩,by simp,by simp only;omega⟩
   by_cases e:j=p
   ·subst e;rw[hku];exact hc
   ·exact hgt j h (by omega)
  ·refine WL.draw mixed (by simp[cleanL,noH]) (DL.run (by simp[hk0,w,hpl,hpl',eu,hu,hi,f1,f2,g1,g2,hc];exact⟨rfl,rfl⟩) ⟨by kernel_rfl,_,by simp;rfl,?_⟩)
   refine WL.cond (t:=false) (by simp) (by simp) fun _=>WL.exit ?_
   refine WL.fin [39] (by simp;rfl) ?_
   refine fin fun j h h'=>?_
   have:=sorted_keys sp2 (j:=j) (k:=p) (by omega) hpl
   rw[hku] at this
   omega
 ·obtain rfl:k=0:=by omega
  refine WL.seq (WL.seq ?_)
  refine WL.draw mixed (by simp[cleanL,noH]) (DL.run (by simp;exact⟨rfl,rfl⟩) ⟨by kernel_rfl,_,by simp;rfl,?_⟩)
  refine WL.cond (t:=false) (by simp) (by simp) fun _=>WL.exit ?_
  refine WL.fin [39] (by simp;rfl) ?_
  exact fin fun j h h'=>by omega
set_option maxHeartbeats 8000000 in
theorem reforder_fn (l:List Ev)(hn:l.length≤1000):FnC Try.prog 34 [] [sEv l] [] (sI true (ordF l)):=by
 refine FnC.go ok34 rfl ?_
 refine WL.sreg (by simp;rfl) (by simp;rfl) ?_
 refine WL.sreg (by simp;rfl) (by simp;rfl) ?_
 refine WL.seq (WL.sreg (by simp;rfl) (by simp;rfl) ?_)
 refine WL.block (WL.count l.length (fun i=>roS' l i []) (fun _=>True) (by simp[posN,ordL]) trivial fun i hi _=>?_)
 by_cases hlt:i < l.length
 ·have f1:=fmE_drop (o:=false) (r:=false) hlt
  have g1:14≤l.length * 14 - i * 14:=by omega
  have w:IntKind.wrap .i64 ((i:Int)+1)=((i+1:Nat):Int):=by rw[wrap_small (by omega) (by omega)];omega
  refine WL.seq (WL.sreg (by simp[hlt];rfl) (by simp;rfl) ?_)
  refine WL.cond (t:=true) (by simp[hlt]) (fun _=>WL.skip ?_) (by simp)
  by_cases hs:l[i].Stamp≤0
  ·have hps:=posN_succ l i
   rw[show (l.map (·.Stamp)).getD i 0=l[i].Stamp by simp[hlt],if_neg (by omega),List.append_nil] at hps
   refine WL.seq (WL.block (WL.seq (WL.sreg (by simp[hlt,f1,g1,hs];rfl) (by simp;rfl) ?_)))
   refine WL.cond (t:=true) (by simp) (fun _=>WL.exit ?_) (by simp)
   refine WL.fin [18] (by simp;rfl) ?_
   refine WL.reg (RL.run (by simp[w];rfl) ⟨_,by simp;rfl,hlt,?_,trivial⟩)
   simp[hps]
  ·refine WL.seq (WL.block (WL.seq (WL.sreg (by simp[hlt,f1,g1,hs];rfl) (by simp;rfl) ?_)))
   refine WL.cond (t:=false) (by simp) (by simp) fun _=>WL.skip ?_
   refine reford_step l hn i hlt (by omega) _ ?_
   refine WL.reg (RL.run (by simp[w];rfl) ⟨_,by simp;rfl,hlt,?_,trivial⟩)
   simp
 ·obtain rfl:i=l.length:=by omega
  refine WL.seq (WL.sreg (by simp;rfl) (by simp;rfl) ?_)
  refine WL.cond (t:=false) (by simp) (by simp) fun _=>WL.exit ?_
  refine WL.sregC (RL.mv (by decide) (RL.o (by simp;rfl) (RL.nil ⟨_,by simp;rfl,WL.ret ⟨.inr rfl,?_⟩⟩)))
  simp[fi34,ordF,posL]
end Go.OT
namespace Go.OT
open Go.Proofs
abbrev alQ (v:Bool):Ex→SL→Prop:=fun e L=>e=Ex.ret∧RetOk fi94.rs [] (bl v) L
abbrev alT (l:List Ev)(i:Nat)(e:Ev)(k:Nat):SL:=[(0,0,sEv l),(100,0,i64 i)] ++ (bxE 7 e ++ [(800,0,i64 k)])
set_option maxHeartbeats 16000000 in
theorem alone_loop (l:List Ev)(hn:l.length≤1000)(i:Nat)(hi:i < l.length)(e:Ev)(x:Nat)(hx:x=56∨x=71):WL Try.prog fi94.nt c94_17 (tmS l i (bxE 7 e ++ [(100 * x,0,bl false)])) (alQ (!(l.take i).any (tmOver e))):=by
 have hmi:min i l.length=i:=by omega
 refine WL.seq (WL.join (alT l i e 0) ?_ ?_)
 ·rcases hx with rfl | rfl
  ·exact WL.regEq (by simp)
  ·exact WL.regEq (by simp)
 refine WL.block (WL.count i (fun k=>alT l i e k) (fun k=>(l.take k).any (tmOver e)=false) rfl (by simp) fun k hk hp=>?_)
 by_cases hlt:k < i
 ·have hkl:k < l.length:=by omega
  have f1:=fmE_drop (o:=false) (r:=false) hkl
  have g1:14≤l.length * 14 - k * 14:=by omega
  have w:IntKind.wrap .i64 ((k:Int)+1)=((k+1:Nat):Int):=by rw[wrap_small (by omega) (by omega)];omega
  refine WL.seq (WL.sreg (by simp[hlt];rfl) (by simp;rfl) ?_)
  refine WL.cond (t:=true) (by simp[hlt]) (fun _=>WL.skip ?_) (by simp)
  have hin:tmOver e l[k]=true→(l.take i).any (tmOver e)=true:=fun h=>by
   have hk':k < (l.take i).length:=by rw[List.length_take];omega
   exact any_of_at hk' (by simpa using h)
  have nx:=fun (h:tmOver e l[k]=false)=>any_take_succ hkl hp h
  refine WL.seq (WL.block (WL.seq ?_))
  by_cases c1:l[k].Client=e.Client
  ·have z1:(l[k].Client == e.Client)=true:=by simp[c1]
   by_cases c2:l[k].End≤0
   ·have hv:=hin (by simp[tmOver,c1];left;omega)
    refine WL.draw mixed (by simp[cleanL,noH]) (DL.run (by simp[hlt,hkl,f1,g1,z1,c2];exact⟨rfl,rfl⟩) ⟨by kernel_rfl,_,by simp;rfl,?_⟩)
    refine WL.cond (t:=true) (by simp) (fun _=>?_) (by simp)
    refine WL.sreg (by simp;rfl) (by simp;rfl) (WL.ret ⟨rfl,?_⟩)
    simp[fi94,hv]
   ·by_cases c3:e.Begin≤l[k].End
    ·have hv:=hin (by simp[tmOver,c1,c3])
     refine WL.draw mixed (by simp[cleanL,noH]) (DL.run (by simp[hlt,hkl,f1,g1,z1,c2,c3];exact⟨rfl,rfl⟩) ⟨by kernel_rfl,_,by simp;rfl,?_⟩)
     refine WL.cond (t:=true) (by simp) (fun _=>?_) (by simp)
     refine WL.sreg (by simp;rfl) (by simp;rfl) (WL.ret ⟨rfl,?_⟩)
     simp[fi94,hv]
    ·have hv:=nx (by simp[tmOver,c1,c3];omega)
     refine WL.draw mixed (by simp[cleanL,noH]) (DL.run (by simp[hlt,hkl,f1,g1,z1,c2,c3];exact⟨rfl,rfl⟩) ⟨by kernel_rfl,_,by simp;rfl,?_⟩)
     refine WL.cond (t:=false) (by simp) (by simp) fun _=>WL.skip ?_
     refine WL.reg (RL.run (by simp[w];rfl) ⟨_,by simp;rfl,hlt,?_,hv⟩)
     simp
  ·have z1:(l[k].Client == e.Client)=false:=beq_false_of_ne c1
   have hv:=nx (by simp[tmOver,c1])
   refine WL.draw mixed (by simp[cleanL,noH]) (DL.run (by simp[hlt,hkl,f1,g1,z1];exact⟨rfl,rfl⟩) ⟨by kernel_rfl,_,by simp;rfl,?_⟩)
   refine WL.cond (t:=false) (by simp) (by simp) fun _=>WL.skip ?_
   refine WL.reg (RL.run (by simp[w];rfl) ⟨_,by simp;rfl,hlt,?_,hv⟩)
   simp
 ·obtain rfl:k=i:=by omega
  refine WL.seq (WL.sreg (by simp;rfl) (by simp;rfl) ?_)
  refine WL.cond (t:=false) (by simp) (by simp) fun _=>WL.exit ?_
  rw[hp]
  refine WL.sreg (by simp;rfl) (by simp;rfl) (WL.ret ⟨rfl,?_⟩)
  simp[fi94]
set_option maxHeartbeats 16000000 in
theorem alone_rest (l:List Ev)(i:Nat)(e:Ev)(v:Bool)(hs:(tmStamp e || decide (e.End < 0))=true→v=false)(hl:(tmStamp e || decide (e.End < 0))=false→∀ x,x=56∨x=71→WL Try.prog fi94.nt c94_17 (tmS l i (bxE 7 e ++ [(100 * x,0,bl false)])) (alQ v)) :
  WL Try.prog fi94.nt c94_18 (tmS l i (bxE 7 e ++ [(4100,0,bl false)])) (alQ v):=by
 refine WL.seq ?_
 by_cases p1:0 < e.End
 ·refine WL.sreg (by simp[p1];rfl) (by simp;rfl) ?_
  refine WL.cond (t:=true) (by simp) (fun _=>?_) (by simp)
  by_cases p2:e.Stamp < e.Begin
  ·have hv:=hs (by simp[tmStamp,p1,p2])
   refine WL.sreg (by simp[p2];rfl) (by simp;rfl) ?_
   refine WL.cond (t:=true) (by simp) (fun _=>?_) (by simp)
   refine WL.sreg (by simp;rfl) (by simp;rfl) (WL.ret ⟨rfl,?_⟩)
   simp[fi94,hv]
  ·by_cases p3:e.End < e.Stamp
   ·have hv:=hs (by simp[tmStamp,p1,p2,p3])
    refine WL.sreg (by simp[p2,p3];rfl) (by simp;rfl) ?_
    refine WL.cond (t:=true) (by simp) (fun _=>?_) (by simp)
    refine WL.sreg (by simp;rfl) (by simp;rfl) (WL.ret ⟨rfl,?_⟩)
    simp[fi94,hv]
   ·refine WL.sreg (by simp[p2,p3];rfl) (by simp;rfl) ?_
    refine WL.cond (t:=false) (by simp) (by simp) fun _=>WL.skip ?_
    exact hl (by simp[tmStamp,p1,p2,p3];omega) 56 (.inl rfl)
 ·refine WL.sreg (by simp[p1];rfl) (by simp;rfl) ?_
  refine WL.cond (t:=false) (by simp) (by simp) fun _=>?_
  by_cases p0:e.End < 0
  ·have hv:=hs (by simp[p0])
   refine WL.sreg (by simp[p0];rfl) (by simp;rfl) ?_
   refine WL.cond (t:=true) (by simp) (fun _=>?_) (by simp)
   refine WL.sreg (by simp;rfl) (by simp;rfl) (WL.ret ⟨rfl,?_⟩)
   simp[fi94,hv]
  ·have pz:e.End=0:=by omega
   by_cases p2:e.Stamp=0
   ·have z2:(e.Stamp != 0)=false:=by simp[p2]
    refine WL.sreg (by simp[p0,z2];rfl) (by simp;rfl) ?_
    refine WL.cond (t:=false) (by simp) (by simp) fun _=>WL.skip ?_
    exact hl (by simp[tmStamp,p1,p0,p2]) 71 (.inr rfl)
   ·have z2:(e.Stamp != 0)=true:=by simp[p2]
    by_cases p3:e.Stamp < e.Begin
    ·have hv:=hs (by simp[tmStamp,pz,p2,p3])
     refine WL.sreg (by simp[p0,z2,p3];rfl) (by simp;rfl) ?_
     refine WL.cond (t:=true) (by simp) (fun _=>?_) (by simp)
     refine WL.sreg (by simp;rfl) (by simp;rfl) (WL.ret ⟨rfl,?_⟩)
     simp[fi94,hv]
    ·refine WL.sreg (by simp[p0,z2,p3];rfl) (by simp;rfl) ?_
     refine WL.cond (t:=false) (by simp) (by simp) fun _=>WL.skip ?_
     exact hl (by simp[tmStamp,p1,p0,p2,p3]) 71 (.inr rfl)
set_option maxHeartbeats 16000000 in
theorem alone_fn (l:List Ev)(hn:l.length≤1000)(i:Nat)(hi:i < l.length)(c:Int):FnC Try.prog 94 [] [sEv l,i64 i,i64 c] [] (bl (timesF l i c)):=by
 rw[timesF_at hi]
 have f1:=fmE_drop (o:=false) (r:=false) hi
 have g1:14≤l.length * 14 - i * 14:=by omega
 refine FnC.go ok94 rfl ?_
 refine WL.mono (Q':=alQ (timesE l i c l[i])) ?_ fun x L h=>⟨.inr h.1,h.2⟩
 refine WL.sreg (by simp;rfl) (by simp;rfl) ?_
 refine WL.sreg (by simp[hi,f1,g1];rfl) (by simp;rfl) ?_
 have loop:=alone_loop l hn i hi l[i]
 generalize l[i]=e at loop ⊢
 clear f1 g1
 have rest:tmBad l i c e=(decide (e.End < 0))→WL Try.prog fi94.nt c94_18 (tmS l i (bxE 7 e ++ [(4100,0,bl false)])) (alQ (timesE l i c e)):=fun hb =>
  alone_rest l i e _ (fun h=>by
   rcases (by simpa only [Bool.or_eq_true] using h:tmStamp e=true∨decide (e.End < 0)=true) with h | h
   ·simp[timesE,h]
   ·simp[timesE,hb,h]) (fun h x hx=>by
   obtain⟨h1,h2⟩:=Bool.or_eq_false_iff.1 h
   simpa [timesE,hb,h1,h2] using loop x hx)
 refine WL.seq (WL.seq ?_)
 by_cases q1:e.Client < 0
 ·refine WL.draw mixed (by simp[cleanL,noH]) (DL.run (by simp[q1];exact⟨rfl,rfl⟩) ⟨by kernel_rfl,_,by simp;rfl,?_⟩)
  refine WL.cond (t:=true) (by simp) (fun _=>?_) (by simp)
  refine WL.sreg (by simp;rfl) (by simp;rfl) (WL.ret ⟨rfl,?_⟩)
  simp[fi94,timesE,tmBad,tmPrev,q1]
 by_cases q2:c≤e.Client
 ·refine WL.draw mixed (by simp[cleanL,noH]) (DL.run (by simp[q1,q2];exact⟨rfl,rfl⟩) ⟨by kernel_rfl,_,by simp;rfl,?_⟩)
  refine WL.cond (t:=true) (by simp) (fun _=>?_) (by simp)
  refine WL.sreg (by simp;rfl) (by simp;rfl) (WL.ret ⟨rfl,?_⟩)
  simp[fi94,timesE,tmBad,tmPrev,q1,q2]
 by_cases q3:e.Begin≤0
 ·have q3x:e.Begin < 1:=by omega
  refine WL.draw mixed (by simp[cleanL,noH]) (DL.run (by simp[q1,q2,q3,q3x];exact⟨rfl,rfl⟩) ⟨by kernel_rfl,_,by simp;rfl,?_⟩)
  refine WL.cond (t:=true) (by simp) (fun _=>?_) (by simp)
  refine WL.sreg (by simp;rfl) (by simp;rfl) (WL.ret ⟨rfl,?_⟩)
  simp[fi94,timesE,tmBad,tmPrev,q1,q2,q3,q3x]
 have q3x:¬ e.Begin < 1:=by omega
 by_cases q4:0 < i
 ·obtain⟨j,hj⟩:∃ j,j=i - 1:=⟨_,rfl⟩
  have w:IntKind.wrap .i64 ((i:Int) - 1)=(j:Int):=by rw[wrap_small (by omega) (by omega)];omega
  have hjl:j < l.length:=by omega
  have f2:=fmE_drop (o:=false) (r:=false) hjl
  have g2:14≤l.length * 14 - j * 14:=by omega
  have hgd:l.getD j e=l[j]:=by simp[hjl]
  by_cases q5:e.Begin < l[j].Begin
  ·refine WL.draw mixed (by simp[cleanL,noH]) (DL.run (by simp[q1,q2,q3,q4,q5,w,hjl,f2,g2,← hj,hgd];exact⟨rfl,rfl⟩) ⟨by kernel_rfl,_,by simp;rfl,?_⟩)
   refine WL.cond (t:=true) (by simp) (fun _=>?_) (by simp)
   refine WL.sreg (by simp;rfl) (by simp;rfl) (WL.ret ⟨rfl,?_⟩)
   simp[fi94,timesE,tmBad,tmPrev,q1,q2,q3,q4,q5,w,hjl,f2,g2,← hj,hgd]
  ·refine WL.draw mixed (by simp[cleanL,noH]) (DL.run (by simp[q1,q2,q3,q4,q5,w,hjl,f2,g2,← hj,hgd];exact⟨rfl,rfl⟩) ⟨by kernel_rfl,_,by simp;rfl,?_⟩)
   refine WL.cond (t:=false) (by simp) (by simp) fun _=>WL.skip ?_
   exact rest (by simp[tmBad,tmPrev,q1,q2,q3,q3x,q4,q5,w,hjl,f2,g2,← hj,hgd])
 ·obtain rfl:i=0:=by omega
  refine WL.draw mixed (by simp[cleanL,noH]) (DL.run (by simp[q1,q2,q3,q4];exact⟨rfl,rfl⟩) ⟨by kernel_rfl,_,by simp;rfl,?_⟩)
  refine WL.cond (t:=false) (by simp) (by simp) fun _=>WL.skip ?_
  exact rest (by simp[tmBad,tmPrev,q1,q2,q3,q3x,q4])
end Go.OT
namespace Go.OT
open Go.Proofs
theorem newBad_len (p c:Int):newBad p c=decide ((newSt p c).There.length=0):=by
 unfold newSt
 cases h:newBad p c with
 | true=>simp
 | false =>
  simp only[newBad,Bool.or_eq_false_iff,decide_eq_false_iff_not] at h
  simp;omega
theorem newSt_ok' {p c:Int}(h:newBad p c=false):OkSt (newSt p c):=by
 have hb':=h
 simp only[newBad,Bool.or_eq_false_iff,decide_eq_false_iff_not] at hb'
 obtain⟨n,rfl⟩:=Int.eq_ofNat_of_zero_le (a:=p) (by omega)
 obtain⟨m,rfl⟩:=Int.eq_ofNat_of_zero_le (a:=c) (by omega)
 exact newSt_ok (by omega) (by omega) (by omega) (by omega)
theorem side_step (s':St)(v:Bool)(s:St):sideOk true (gsT s) (gsT s') (bl v:AU)=true:=by
 have e1:noImm (sB true s'.There:AU)=true:=by simp only[noImm,immB,Bool.and_self]
 have e2:noImm (sS true s'.Body:AU)=true:=by simp only[noImm,immS,Bool.and_self]
 have e3:noImm (sII true s'.Handles:AU)=true:=by simp only[noImm,immII,Bool.and_self]
 simp only[sideOk,List.all_cons,List.all_nil,ghImm,e1,e2,e3]
 simp
theorem ordF_at {l:List Ev}{j:Nat}(h:j < (ordF l).length):∃ u:Nat,∃ hu:u < l.length,(ordF l)[j]=(u:Int):=by
 obtain⟨u,h1,h2,_⟩:=ordF_mem (List.getElem_mem h)
 exact⟨u,h1,h2⟩
abbrev rcB (b:Nat)(s:St):SL:=[(100 * b,0,.bptr b 1 0),(100 * b+1,0,sB true s.There),(100 * b+2,0,sS true s.Body),(100 * b+3,0,sII true s.Handles),(100 * b+99,1,.non)]
abbrev rcQ (v:Int):Ex→SL→Prop:=fun e L=>e=Ex.ret∧RetOk fi35.rs [] (i64 v) L
abbrev rcS (l:List Ev)(c:Int)(s:St)(r:SL):SL:=[(0,0,sEv l),(200,0,i64 c)] ++ (rcB 7 s ++ r)
abbrev rcT (l:List Ev)(s:St)(j:Nat):SL:=[(0,0,sEv l)] ++ (rcB 7 s ++ [(900,0,sI true (ordF l)),(1000,0,i64 j)])
set_option maxHeartbeats 16000000 in
theorem refchk_steps (l:List Ev)(hE:EvOk l)(s0:St)(h0:OkSt s0):WL Try.prog fi35.nt c35_17 ([(0,0,sEv l)] ++ (rcB 7 s0 ++ [(900,0,sI true (ordF l))])) (rcQ (goW l noSee s0 () (ordF l)).1):=by
 have hn:=hE.n
 have hOl:=ordF_len l
 refine WL.seq (WL.sreg (by simp;rfl) (by simp;rfl) ?_)
 refine WL.block (WL.loop (ι:={x:Nat × St // x.1≤(ordF l).length∧OkSt x.2∧(goW l noSee x.2 () ((ordF l).drop x.1)).1=(goW l noSee s0 () (ordF l)).1}) (fun x=>rcT l x.1.2 x.1.1) (fun x=>(ordF l).length - x.1.1) ⟨(0,s0),Nat.zero_le _,h0,rfl⟩ (by simp) fun x=>?_)
 obtain⟨⟨j,s⟩,hj,hs,hg⟩:=x
 simp only at hj hs hg ⊢
 by_cases hlt:j < (ordF l).length
 ·obtain⟨u,hu,eu⟩:=ordF_at hlt
  have f1:=fmE_drop (o:=false) (r:=false) hu
  have g1:14≤l.length * 14 - u * 14:=by omega
  have hlt':j+1≤(ordF l).length:=hlt
  have w:IntKind.wrap .i64 ((j:Int)+1)=((j+1:Nat):Int):=by rw[wrap_small (by omega) (by omega)];omega
  have w2:IntKind.wrap .i64 ((u:Int)+1)=(u:Int)+1:=by rw[wrap_small (by omega) (by omega)]
  have hst:=refstep_fn s hs l[u] (hE.d _ (List.getElem_mem hu))
  rw[List.drop_eq_getElem_cons hlt] at hg
  simp only[goW,eu,atE_at hu] at hg
  have hok:=stepR_ok hs l[u]
  generalize stepR s l[u]=dd at hst hg hok
  obtain⟨v,t⟩:=dd
  simp only at hst hg hok
  refine WL.seq (WL.sreg (by simp[hlt];rfl) (by simp;rfl) ?_)
  refine WL.cond (t:=true) (by simp[hlt]) (fun _=>WL.skip ?_) (by simp)
  refine WL.seq (WL.block (WL.seq ?_))
  refine WL.draw mixed (by simp[cleanL,noH]) (DL.o (by simp[hlt,hlt',eu,hu,f1,g1];exact⟨rfl,rfl⟩) ?_)
  refine DL.callL true [(701,[]),(702,[]),(703,[])] hst (by simp) (by simp) (by simp[gkey]) (side_step t v s) (by simp[cleanL,noH]) ?_
  refine DL.o (by simp;exact⟨rfl,rfl⟩) (DL.nil ⟨by kernel_rfl,_,by simp;rfl,?_⟩)
  cases v with
  | true =>
   simp only[if_true] at hg
   refine WL.cond (t:=false) (by simp) (by simp) fun _=>WL.skip ?_
   refine WL.reg (RL.run (by simp[w];rfl) ⟨_,by simp;rfl,?_⟩)
   refine⟨⟨(j+1,t),hlt,hok,?_⟩,by simp,by simp only;omega⟩
   rw[← hg]
  | false =>
   simp only[Bool.false_eq_true,if_false] at hg
   refine WL.cond (t:=true) (by simp) (fun _=>?_) (by simp)
   refine WL.sreg (by simp[hlt,hlt',eu,w2];rfl) (by simp;rfl) (WL.ret ⟨rfl,?_⟩)
   simp[fi35,← hg]
 ·obtain rfl:j=(ordF l).length:=by omega
  rw[List.drop_length] at hg
  simp only[goW] at hg
  refine WL.seq (WL.sreg (by simp;rfl) (by simp;rfl) ?_)
  refine WL.cond (t:=false) (by simp) (by simp) fun _=>WL.exit ?_
  refine WL.sreg (by simp;rfl) (by simp;rfl) (WL.ret ⟨rfl,?_⟩)
  simp[fi35,← hg]
set_option maxHeartbeats 16000000 in
theorem refchk_fn (l:List Ev)(hE:EvOk l)(p c:Int):FnC Try.prog 35 [] [sEv l,i64 p,i64 c] [] (i64 (chkF l p c)):=by
 have hn:=hE.n
 have hlen:=newBad_len p c
 refine FnC.go ok35 rfl ?_
 refine WL.mono (Q':=rcQ (chkF l p c)) ?_ fun x L h=>⟨.inr h.1,h.2⟩
 refine WL.sreg (by simp;rfl) (by simp;rfl) ?_
 refine WL.sregC (RL.o (by simp;rfl) (RL.call0 false (refnew_fn p c) (by simp) (by simp) (RL.o (by simp;rfl) (RL.nil ⟨_,by simp;rfl,?_⟩))))
 cases hb:newBad p c with
 | true =>
  rw[hb] at hlen
  have hl0:(newSt p c).There.length=0:=by simpa using hlen.symm
  have z:((newSt p c).There == [])=true:=by simpa using hl0
  refine WL.seq (WL.sreg (by simp[hl0];rfl) (by simp;rfl) ?_)
  refine WL.cond (t:=true) (by simp) (fun _=>?_) (by simp)
  refine WL.sreg (by simp;rfl) (by simp;rfl) (WL.ret ⟨rfl,?_⟩)
  simp[fi35,chkF,walkF,hb]
 | false =>
  rw[hb] at hlen
  have hl0:¬ (newSt p c).There.length=0:=by simpa using hlen.symm
  have hok:=newSt_ok' hb
  have hz:(((newSt p c).There.length:Int) == 0)=false:=beq_false_of_ne (by omega)
  refine WL.seq (WL.sreg (by simp[hz];rfl) (by simp;rfl) ?_)
  refine WL.cond (t:=false) (by simp) (by simp) fun _=>WL.skip ?_
  refine WL.seq (WL.sreg (by simp;rfl) (by simp;rfl) ?_)
  have hchk:∀ v,chkF l p c=v→chkF l p c=v:=fun _ h=>h
  unfold chkF walkF at hchk ⊢
  rw[hb] at hchk ⊢
  simp only[Bool.false_eq_true,if_false] at hchk ⊢
  generalize newSt p c=s0 at hok hchk ⊢
  refine WL.block (WL.count l.length (fun i=>rcS l c s0 [(800,0,i64 i)]) (fun i=>∀ j,j < i→timesF l j c=true) rfl (fun j h=>absurd h (Nat.not_lt_zero _)) fun i hi hp=>?_)
  by_cases hlt:i < l.length
  ·have w:IntKind.wrap .i64 ((i:Int)+1)=((i+1:Nat):Int):=by rw[wrap_small (by omega) (by omega)];omega
   have ha:=alone_fn l hn i hlt c
   refine WL.seq (WL.sreg (by simp[hlt];rfl) (by simp;rfl) ?_)
   refine WL.cond (t:=true) (by simp[hlt]) (fun _=>WL.skip ?_) (by simp)
   cases ht:timesF l i c with
   | true =>
    rw[ht] at ha
    refine WL.seq (WL.block (WL.sregC (RL.o (by simp;rfl) (RL.call0 false ha (by simp) (by simp) (RL.o (by simp;rfl) (RL.nil ⟨_,by simp;rfl,?_⟩))))))
    refine WL.cond (t:=false) (by simp) (by simp) fun _=>WL.skip ?_
    refine WL.reg (RL.run (by simp[w];rfl) ⟨_,by simp;rfl,hlt,?_,fun j hj=>?_⟩)
    ·simp
    ·by_cases e:j=i
     ·subst e;exact ht
     ·exact hp j (by omega)
   | false =>
    rw[ht] at ha
    have hf:=firstBad_some hlt hp ht
    refine WL.seq (WL.block (WL.sregC (RL.o (by simp;rfl) (RL.call0 false ha (by simp) (by simp) (RL.o (by simp;rfl) (RL.nil ⟨_,by simp;rfl,?_⟩))))))
    refine WL.cond (t:=true) (by simp) (fun _=>?_) (by simp)
    refine WL.sreg (by simp[w];rfl) (by simp;rfl) (WL.ret ⟨rfl,?_⟩)
    simp[fi35,hf]
  ·obtain rfl:i=l.length:=by omega
   have hf:=firstBad_none hp
   refine WL.seq (WL.sreg (by simp;rfl) (by simp;rfl) ?_)
   refine WL.cond (t:=false) (by simp) (by simp) fun _=>WL.exit ?_
   rw[hf]
   refine WL.sregC (RL.o (by simp;rfl) (RL.call0 false (reforder_fn l hn) (by simp) (by simp) (RL.o (by simp;rfl) (RL.nil ⟨_,by simp;rfl,?_⟩))))
   have:=refchk_steps l hE s0 hok
   exact this
end Go.OT
namespace Go.OT
open Go.Proofs
end Go.OT
namespace Go.OT
open Go.Proofs
set_option maxHeartbeats 16000000 in
theorem times_rest (l:List Ev)(i:Nat)(e:Ev)(v:Bool)(hs:tmStamp e=true→v=false)(hl:tmStamp e=false→WL Try.prog fi135.nt c135_20 (tmS l i (bxE 7 e ++ [(6700,0,bl false)])) (tmQ v)) :
  WL Try.prog fi135.nt c135_6 (tmS l i (bxE 7 e ++ [(1400,0,bl false)])) (Ex.blkL 0 (Ex.thenL (fun L'=>WL Try.prog fi135.nt c135_20 L' (tmQ v)) (tmQ v))):=by
 by_cases p1:0 < e.End
 ·have z:(e.End == 0)=false:=beq_false_of_ne (by omega)
  by_cases p2:e.Stamp < e.Begin
  ·have hv:=hs (by simp[tmStamp,p1,p2])
   refine WL.sreg (by simp[p1,p2];rfl) (by simp;rfl) ?_
   refine WL.cond (t:=true) (by simp) (fun _=>?_) (by simp)
   refine WL.sreg (by simp;rfl) (by simp;rfl) (WL.ret ⟨rfl,?_⟩)
   simp[fi135,hv]
  ·by_cases p3:e.End < e.Stamp
   ·have hv:=hs (by simp[tmStamp,p1,p2,p3])
    refine WL.sreg (by simp[p1,p2,p3];rfl) (by simp;rfl) ?_
    refine WL.cond (t:=true) (by simp) (fun _=>?_) (by simp)
    refine WL.sreg (by simp;rfl) (by simp;rfl) (WL.ret ⟨rfl,?_⟩)
    simp[fi135,hv]
   ·refine WL.sreg (by simp[p1,p2,p3];rfl) (by simp;rfl) ?_
    refine WL.cond (t:=false) (by simp) (by simp) fun _=>?_
    refine WL.sreg (by simp[z];rfl) (by simp;rfl) ?_
    refine WL.cond (t:=false) (by simp) (by simp) fun _=>WL.skip ?_
    exact hl (by first | (simp [tmStamp,p1,p2,p3];done) | (simp [tmStamp,p1,p2,p3];omega))
 ·by_cases p0:e.End=0
  ·have z0:(e.End == 0)=true:=by simp[p0]
   by_cases p2:e.Stamp=0
   ·have z2:(e.Stamp != 0)=false:=by simp[p2]
    refine WL.sreg (by simp[p1];rfl) (by simp;rfl) ?_
    refine WL.cond (t:=false) (by simp) (by simp) fun _=>?_
    refine WL.sreg (by simp[z0,z2];rfl) (by simp;rfl) ?_
    refine WL.cond (t:=false) (by simp) (by simp) fun _=>WL.skip ?_
    exact hl (by simp[tmStamp,p1,p0,p2])
   ·have z2:(e.Stamp != 0)=true:=by simp[p2]
    by_cases p3:e.Stamp < e.Begin
    ·have hv:=hs (by simp[tmStamp,p0,p2,p3])
     refine WL.sreg (by simp[p1];rfl) (by simp;rfl) ?_
     refine WL.cond (t:=false) (by simp) (by simp) fun _=>?_
     refine WL.sreg (by simp[z0,z2,p3];rfl) (by simp;rfl) ?_
     refine WL.cond (t:=true) (by simp) (fun _=>?_) (by simp)
     refine WL.sreg (by simp;rfl) (by simp;rfl) (WL.ret ⟨rfl,?_⟩)
     simp[fi135,hv]
    ·refine WL.sreg (by simp[p1];rfl) (by simp;rfl) ?_
     refine WL.cond (t:=false) (by simp) (by simp) fun _=>?_
     refine WL.sreg (by simp[z0,z2,p3];rfl) (by simp;rfl) ?_
     refine WL.cond (t:=false) (by simp) (by simp) fun _=>WL.skip ?_
     exact hl (by simp[tmStamp,p1,p0,p2,p3])
  ·have z:(e.End == 0)=false:=beq_false_of_ne p0
   refine WL.sreg (by simp[p1];rfl) (by simp;rfl) ?_
   refine WL.cond (t:=false) (by simp) (by simp) fun _=>?_
   refine WL.sreg (by simp[z];rfl) (by simp;rfl) ?_
   refine WL.cond (t:=false) (by simp) (by simp) fun _=>WL.skip ?_
   exact hl (by simp[tmStamp,p1,p0])
set_option maxHeartbeats 16000000 in
theorem times_fn (l:List Ev)(hn:l.length≤1000)(i:Nat)(hi:i < l.length)(c:Int):FnC Try.prog 135 [] [sEv l,i64 i,i64 c] [] (bl (timesF l i c)):=by
 rw[timesF_at hi]
 have f1:=fmE_drop (o:=false) (r:=false) hi
 have g1:14≤l.length * 14 - i * 14:=by omega
 refine FnC.go ok135 rfl ?_
 refine WL.mono (Q':=tmQ (timesE l i c l[i])) ?_ fun x L h=>⟨.inr h.1,h.2⟩
 refine WL.sreg (by simp;rfl) (by simp;rfl) ?_
 refine WL.scope (WL.sreg (by simp[hi,f1,g1];rfl) (by simp;rfl) ?_)
 have loop:=times_loop l hn i hi l[i]
 generalize l[i]=e at loop ⊢
 clear f1 g1
 have rest:tmBad l i c e=false→WL Try.prog fi135.nt c135_6 (tmS l i (bxE 7 e ++ [(1400,0,bl false)])) (Ex.blkL 0 (Ex.thenL (fun L'=>WL Try.prog fi135.nt c135_20 L' (tmQ (timesE l i c e))) (tmQ (timesE l i c e)))):=fun hb =>
  times_rest l i e _ (fun h=>by simp[timesE,h]) (fun h=>by simpa [timesE,hb,h] using loop)
 refine WL.seq (WL.block (WL.seq ?_))
 by_cases q1:e.Client < 0
 ·refine WL.draw mixed (by simp[cleanL,noH]) (DL.run (by simp[q1];exact⟨rfl,rfl⟩) ⟨by kernel_rfl,_,by simp;rfl,?_⟩)
  refine WL.cond (t:=true) (by simp) (fun _=>?_) (by simp)
  refine WL.sreg (by simp;rfl) (by simp;rfl) (WL.ret ⟨rfl,?_⟩)
  simp[fi135,timesE,tmBad,tmPrev,q1]
 by_cases q2:c≤e.Client
 ·refine WL.draw mixed (by simp[cleanL,noH]) (DL.run (by simp[q1,q2];exact⟨rfl,rfl⟩) ⟨by kernel_rfl,_,by simp;rfl,?_⟩)
  refine WL.cond (t:=true) (by simp) (fun _=>?_) (by simp)
  refine WL.sreg (by simp;rfl) (by simp;rfl) (WL.ret ⟨rfl,?_⟩)
  simp[fi135,timesE,tmBad,tmPrev,q1,q2]
 by_cases q3:e.Begin < 1
 ·refine WL.draw mixed (by simp[cleanL,noH]) (DL.run (by simp[q1,q2,q3];exact⟨rfl,rfl⟩) ⟨by kernel_rfl,_,by simp;rfl,?_⟩)
  refine WL.cond (t:=true) (by simp) (fun _=>?_) (by simp)
  refine WL.sreg (by simp;rfl) (by simp;rfl) (WL.ret ⟨rfl,?_⟩)
  simp[fi135,timesE,tmBad,tmPrev,q1,q2,q3]
 by_cases q4:0 < i
 ·obtain⟨j,hj⟩:∃ j,j=i - 1:=⟨_,rfl⟩
  have w:IntKind.wrap .i64 ((i:Int) - 1)=(j:Int):=by rw[wrap_small (by omega) (by omega)];omega
  have hjl:j < l.length:=by omega
  have f2:=fmE_drop (o:=false) (r:=false) hjl
  have g2:14≤l.length * 14 - j * 14:=by omega
  have hgd:l.getD j e=l[j]:=by simp[hjl]
  by_cases q5:e.Begin < l[j].Begin
  ·refine WL.draw mixed (by simp[cleanL,noH]) (DL.run (by simp[q1,q2,q3,q4,q5,w,hjl,f2,g2,← hj,hgd];exact⟨rfl,rfl⟩) ⟨by kernel_rfl,_,by simp;rfl,?_⟩)
   refine WL.cond (t:=true) (by simp) (fun _=>?_) (by simp)
   refine WL.sreg (by simp;rfl) (by simp;rfl) (WL.ret ⟨rfl,?_⟩)
   simp[fi135,timesE,tmBad,tmPrev,q1,q2,q3,q4,q5,w,hjl,f2,g2,← hj,hgd]
  ·by_cases q6:e.End < 0
   ·refine WL.draw mixed (by simp[cleanL,noH]) (DL.run (by simp[q1,q2,q3,q4,q5,q6,w,hjl,f2,g2,← hj,hgd];exact⟨rfl,rfl⟩) ⟨by kernel_rfl,_,by simp;rfl,?_⟩)
    refine WL.cond (t:=true) (by simp) (fun _=>?_) (by simp)
    refine WL.sreg (by simp;rfl) (by simp;rfl) (WL.ret ⟨rfl,?_⟩)
    simp[fi135,timesE,tmBad,tmPrev,q1,q2,q3,q4,q5,q6,w,hjl,f2,g2,← hj,hgd]
   ·refine WL.draw mixed (by simp[cleanL,noH]) (DL.run (by simp[q1,q2,q3,q4,q5,q6,w,hjl,f2,g2,← hj,hgd];exact⟨rfl,rfl⟩) ⟨by kernel_rfl,_,by simp;rfl,?_⟩)
    refine WL.cond (t:=false) (by simp) (by simp) fun _=>?_
    exact rest (by simp[tmBad,tmPrev,q1,q2,q3,q4,q5,q6,w,hjl,f2,g2,← hj,hgd])
 ·obtain rfl:i=0:=by omega
  by_cases q6:e.End < 0
  ·refine WL.draw mixed (by simp[cleanL,noH]) (DL.run (by simp[q1,q2,q3,q6];exact⟨rfl,rfl⟩) ⟨by kernel_rfl,_,by simp;rfl,?_⟩)
   refine WL.cond (t:=true) (by simp) (fun _=>?_) (by simp)
   refine WL.sreg (by simp;rfl) (by simp;rfl) (WL.ret ⟨rfl,?_⟩)
   simp[fi135,timesE,tmBad,tmPrev,q1,q2,q3,q6]
  ·refine WL.draw mixed (by simp[cleanL,noH]) (DL.run (by simp[q1,q2,q3,q6];exact⟨rfl,rfl⟩) ⟨by kernel_rfl,_,by simp;rfl,?_⟩)
   refine WL.cond (t:=false) (by simp) (by simp) fun _=>?_
   exact rest (by simp[tmBad,tmPrev,q1,q2,q3,q6])
end Go.OT
namespace Go.OT
open Go.Proofs
inductive Sh | nil | one | two
@[simp] def Sh.fv:Sh→Nat→List AU→AU
 | .nil,_,_=>.sc .nilFunc
 | _,f,cps=>.clos f cps
@[simp] def Sh.gh:Sh→List AU→List AU→SL
 | .nil,_,_=>[]
 | .one,b,_=>[(1000000,0,.bx true () b)]
 | .two,b,d=>[(1000000,0,.bx true () b),(1000100,0,.bx true () d)]
@[simp] def Sh.gs:Sh→List AU→List AU→List (Gh Unit)
 | .nil,_,_=>[]
 | .one,b,_=>[.nod (.bx true () b)]
 | .two,b,d=>[.nod (.bx true () b),.nod (.bx true () d)]
@[simp] def Sh.ks:Sh→List (Nat × List Nat)
 | .nil=>[]
 | .one=>[(1000000,[])]
 | .two=>[(1000000,[]),(1000100,[])]
theorem May_new (p c:Int):May (newSt p c)=!newBad p c:=by
 cases h:newBad p c with
 | false=>exact (May_iff _).2 (newSt_ok' h)
 | true=>unfold newSt;rw[h];rfl
theorem times_end {l:List Ev}{u:Nat}{c:Int}(hu:u < l.length)(h:timesF l u c=true):0≤l[u].End:=by
 rw[timesF_at hu] at h
 simp only[timesE,tmBad,Bool.and_eq_true,Bool.not_eq_true',Bool.or_eq_false_iff,decide_eq_false_iff_not] at h
 omega
structure SeeOk {σ:Type} (l:List Ev) (sh:Sh) (f:Nat) (cps:List AU) (B D:σ→List AU) (see:σ→Int→St→σ) (Inv:σ→St→Prop):Prop where
 no:noOwnL cps=true
 root:rootRL (sh.ks.map (·.1)) cps=true
 roots:rootsL cps=sh.ks.map (·.1)
 len:cps.length≤1000
 tr:∀ (X:XF Unit) (k:Nat),(∀ e ∈ sh.ks,(X e.1).1=0∧∃ b,(X e.1).2=.bx true () b)→trL X sh.ks false k cps=some cps
 inv:∀ a s (u:Nat) (hu:u < l.length),OkSt s→Inv a s→(stepR s l[u]).1=true→Inv (see a u (stepR s l[u]).2) (stepR s l[u]).2
 fn:sh ≠ .nil→∀ a s (u:Nat) (hu:u < l.length),OkSt s→Inv a s→(stepR s l[u]).1=true →
  FnC Try.prog f (sh.gs (B a) (D a)) ([i64 u,encS false (stepR s l[u]).2] ++ cps) (sh.gs (B (see a u (stepR s l[u]).2)) (D (see a u (stepR s l[u]).2))) (.tuple [])
abbrev rcF (b:Nat)(s:St):SL:=[(100 * b,0,.bptr b 1 0),(100 * b+1,0,sB false s.There),(100 * b+2,0,sUU false s.Body),(100 * b+3,0,sII false s.Handles),(100 * b+99,1,.non)]
abbrev wkS (l:List Ev)(c:Int)(fv:AU)(s:St)(r:SL):SL:=[(0,0,sEv l),(200,0,i64 c),(300,0,fv)] ++ (rcF 9 s ++ r)
abbrev wkT (l:List Ev)(fv:AU)(s:St)(j:Nat)(r:SL):SL:=[(0,0,sEv l),(300,0,fv)] ++ (rcF 9 s ++ ([(3600,0,sI true (ordF l)),(3700,0,i64 (ordF l).length),(3800,0,i64 j)] ++ r))
abbrev wkQ (gs:List (Gh Unit))(v:Int):Ex→SL→Prop:=fun e L=>e=Ex.ret∧RetOk fi88.rs gs (i64 v) L
section
variable {σ:Type} {l:List Ev} {sh:Sh} {f:Nat} {cps:List AU} {B D:σ→List AU} {see:σ→Int→St→σ} {Inv:σ→St→Prop}
theorem walk_see (hS:SeeOk l sh f cps B D see Inv)(s:St)(h:OkSt s)(a:σ)(hi:Inv a s)(u:Nat)(hu:u < l.length)(hr:(stepR s l[u]).1=true)(j:Nat)(K:SL→Prop)
  (hK:K (wkT l (sh.fv f cps) (stepR s l[u]).2 j (sh.gh (B (see a u (stepR s l[u]).2)) (D (see a u (stepR s l[u]).2))))) :
  WL Try.prog fi88.nt c88_17 ([(0,0,sEv l),(300,0,sh.fv f cps)] ++ (rcF 9 (stepR s l[u]).2 ++ ([(1200,0,i64 u),(3600,0,sI true (ordF l)),(3700,0,i64 (ordF l).length),(3800,0,i64 j)] ++ sh.gh (B a) (D a)))) (fun e L=>(e=.nrm∨e=.ext 3)∧K L):=by
 have e1:=hS.no
 have e2:=hS.root
 have e3:=hS.tr
 have e4:=hS.len
 have e5:=hS.roots
 have hf:=fun h'=>hS.fn h' a s u hu h hi hr
 generalize (stepR s l[u]).2=t at *
 cases sh with
 | nil =>
  refine WL.seq (WL.sreg (by simp;rfl) (by simp;rfl) ?_)
  refine WL.cond (t:=true) (by simp) (fun _=>?_) (by simp)
  refine WL.fin [12,87] (by simp;rfl) (WL.exit ⟨.inr rfl,?_⟩)
  simpa using hK
 | one =>
  have hf:=hf (by simp)
  simp at e2 e3 e5 hf
  refine WL.seq (WL.sreg (by simp[e1];rfl) (by simp[e5];rfl) ?_)
  refine WL.cond (t:=false) (by simp) (by simp) fun _=>WL.skip ?_
  refine WL.reg (RL.o (by simp[e1];rfl) (RL.cloK (f:=f) (cps:=cps) false [(1000000,[])] (by simp) hf (by simp) (by simp) ?_ (by simp;omega) ?_ ?_ (RL.nil ⟨_,by simp[e5];rfl,?_⟩)))
  ·simp[e1]
   rw[e3 _ _ (by simp) _ (by simp;rfl)]
   simp
  ·simp
  ·simp[e2]
  ·simpa using hK
 | two =>
  have hf:=hf (by simp)
  simp at e2 e3 e5 hf
  refine WL.seq (WL.sreg (by simp[e1];rfl) (by simp[e5];rfl) ?_)
  refine WL.cond (t:=false) (by simp) (by simp) fun _=>WL.skip ?_
  refine WL.reg (RL.o (by simp[e1];rfl) (RL.cloK (f:=f) (cps:=cps) false [(1000000,[]),(1000100,[])] (by simp) hf (by simp) (by simp) ?_ (by simp;omega) ?_ ?_ (RL.nil ⟨_,by simp[e5];rfl,?_⟩)))
  ·simp[e1]
   rw[e3 _ _ (by simp) _ (by simp;rfl) (by simp) _ (by simp;rfl)]
   simp
  ·simp
  ·simp[e2]
  ·simpa using hK
theorem stepW_some {s t:St}{e:Ev}(h0:0≤e.End)(h:stepW s e=some t):(stepR s e).1=true∧(stepR s e).2=t:=by
 rw[stepW_eq s e h0] at h
 split at h
 ·rename_i h1;exact⟨h1,by simpa using h⟩
 ·cases h
theorem stepW_none {s:St}{e:Ev}(h0:0≤e.End)(h:stepW s e=none):(stepR s e).1=false:=by
 rw[stepW_eq s e h0] at h
 split at h
 ·cases h
 ·rename_i h1;simpa using h1
set_option maxHeartbeats 16000000 in
theorem walk_stepsN (hE:EvOk l)(hS:SeeOk l Sh.nil f cps B D see Inv)(s0:St)(h0:OkSt s0)(a0:σ)(i0:Inv a0 s0)(c:Int)(hT:∀ j,j < l.length→timesF l j c=true)(n:Nat) :
  WL Try.prog fi88.nt c88_27 (wkS l c (Sh.nil.fv f cps) s0 ([(2300,0,i64 n),(2400,0,i64 n),(2500,0,bl false)] ++ Sh.nil.gh (B a0) (D a0))) (wkQ (Sh.nil.gs (B (goW l see s0 a0 (ordF l)).2.2) (D (goW l see s0 a0 (ordF l)).2.2)) (goW l see s0 a0 (ordF l)).1):=by
 have hn:=hE.n
 have hOl:=ordF_len l
 have hsee:=fun s h a hi u hu hr j=>walk_see hS s h a hi u hu hr j
 have hI:=fun a s u hu h hi hr=>hS.inv a s u hu h hi hr
 refine WL.seq (WL.sregC (RL.o (by simp;rfl) (RL.call0 false (order_fn l hn) (by simp) (by simp) (RL.o (by simp;rfl) (RL.nil ⟨_,by simp;rfl,?_⟩)))))
 refine WL.block (WL.loop (ι:={x:Nat × St × σ // x.1≤(ordF l).length∧OkSt x.2.1∧Inv x.2.2 x.2.1∧goW l see x.2.1 x.2.2 ((ordF l).drop x.1)=goW l see s0 a0 (ordF l)}) (fun x=>wkT l (Sh.nil.fv f cps) x.1.2.1 x.1.1 (Sh.nil.gh (B x.1.2.2) (D x.1.2.2))) (fun x=>(ordF l).length - x.1.1) ⟨(0,s0,a0),Nat.zero_le _,h0,i0,rfl⟩ (by simp) fun x=>?_)
 obtain⟨⟨j,s,a⟩,hj,hs,hia,hg⟩:=x
 simp only at hj hs hg hia ⊢
 by_cases hlt:j < (ordF l).length
 ·obtain⟨u,hu,eu⟩:=ordF_at hlt
  have f1:=fmE_drop (o:=false) (r:=false) hu
  have g1:14≤l.length * 14 - u * 14:=by omega
  have hlt':j+1≤(ordF l).length:=hlt
  have w:IntKind.wrap .i64 ((j:Int)+1)=((j+1:Nat):Int):=by rw[wrap_small (by omega) (by omega)];omega
  have w2:IntKind.wrap .i64 ((u:Int)+1)=(u:Int)+1:=by rw[wrap_small (by omega) (by omega)]
  have hE0:=times_end hu (hT u hu)
  have hse:=hsee s hs a hia u hu
  have hI':=hI a s u hu hs hia
  rw[List.drop_eq_getElem_cons hlt] at hg
  simp only[goW,eu,atE_at hu] at hg
  have hok:=stepR_ok hs l[u]
  have tail:∀ t,stepW s l[u]=some t→∀ Q,(∀ e,(e=.nrm∨e=.ext 3)→Q e (wkT l (Sh.nil.fv f cps) t j (Sh.nil.gh (B (see a u t)) (D (see a u t)))))→WL Try.prog fi88.nt c88_17 ([(0,0,sEv l),(300,0,Sh.nil.fv f cps)] ++ (rcF 9 t ++ ([(1200,0,i64 u),(3600,0,sI true (ordF l)),(3700,0,i64 (ordF l).length),(3800,0,i64 j)] ++ Sh.nil.gh (B a) (D a)))) Q:=by
   intro t ht Q hQ
   obtain⟨q1,q2⟩:=stepW_some hE0 ht
   have:=hse q1 j (fun L=>L=wkT l (Sh.nil.fv f cps) t j (Sh.nil.gh (B (see a u t)) (D (see a u t)))) (by rw[q2])
   rw[q2] at this
   refine WL.mono this ?_
   rintro e L ⟨he,rfl⟩
   exact hQ e he
  refine WL.sreg (by simp[hlt];rfl) (by simp;rfl) ?_
  refine WL.seq (WL.cond (t:=true) (by simp[hlt]) (fun _=>WL.skip ?_) (by simp))
  refine WL.seq (WL.block (WL.sreg (by simp[hlt,hlt',eu];rfl) (by simp;rfl) ?_))
  refine WL.sreg (by simp[hlt,hlt',eu,hu,f1,g1];rfl) (by simp;rfl) ?_
  refine WL.sregC (RL.o (by simp;rfl) (RL.doC s hs.sized l[u].Client l[u].op (by simp) (RL.o (by simp;rfl) (RL.nil ⟨_,by simp;rfl,?_⟩))))
  have adv:∀ t,stepW s l[u]=some t→∀ Q,(∀ L,(∃ y:{x:Nat × St × σ // x.1≤(ordF l).length∧OkSt x.2.1∧Inv x.2.2 x.2.1∧goW l see x.2.1 x.2.2 ((ordF l).drop x.1)=goW l see s0 a0 (ordF l)},L=wkT l (Sh.nil.fv f cps) y.1.2.1 y.1.1 (Sh.nil.gh (B y.1.2.2) (D y.1.2.2))∧(ordF l).length - y.1.1 < (ordF l).length - j)→Q Ex.nrm L)→WL Try.prog fi88.nt c88_21 (wkT l (Sh.nil.fv f cps) t j (Sh.nil.gh (B (see a u t)) (D (see a u t)))) Q:=by
   intro t ht Q hQ
   obtain⟨q1,q2⟩:=stepW_some hE0 ht
   have hI2:=hI' q1
   rw[q1] at hg
   simp only[if_true] at hg
   rw[q2] at hg hI2 hok
   refine WL.reg (RL.run (by simp[w];rfl) ⟨_,by simp;rfl,hQ _ ?_⟩)
   exact⟨⟨(j+1,t,see a u t),hlt,hok,hI2,hg⟩,by simp,by simp only;omega⟩
  refine WL.seq ?_
  by_cases p:l[u].End=0
  ·have z:(l[u].End == 0)=true:=by simp[p]
   have ht:stepW s l[u]=some (DoB s l[u].Client l[u].op).2.1:=by simp[stepW,p]
   refine WL.block (WL.sregC (RL.o (by simp[z];rfl) (RL.g (by simp;rfl) (RL.callN (by simp) (RL.o (by simp;rfl) (RL.nil ⟨_,by simp;rfl,?_⟩))))))
   refine WL.cond (t:=true) (by simp) (fun _=>?_) (by simp)
   refine WL.reg (RL.run (by simp;rfl) ⟨_,by simp;rfl,?_⟩)
   refine tail _ ht _ ?_
   intro e he
   rcases he with rfl | rfl
   ·exact adv _ ht _ fun L h=>h
   ·exact adv _ ht _ fun L h=>h
  ·have z:(l[u].End == 0)=false:=beq_false_of_ne p
   have hsr:=sameres_fn (DoB s l[u].Client l[u].op).2.2 l[u].res
   cases hv:SameRes (DoB s l[u].Client l[u].op).2.2 l[u].res with
   | true =>
    rw[hv] at hsr
    have ht:stepW s l[u]=some (DoB s l[u].Client l[u].op).2.1:=by simp[stepW,hv]
    refine WL.block (WL.sregC (RL.o (by simp[z];rfl) (RL.g (by simp;rfl) (RL.callY0 false (by simp) hsr (by simp) (by simp) (RL.o (by simp;rfl) (RL.nil ⟨_,by simp;rfl,?_⟩))))))
    refine WL.cond (t:=true) (by simp) (fun _=>?_) (by simp)
    refine WL.reg (RL.run (by simp;rfl) ⟨_,by simp;rfl,?_⟩)
    refine tail _ ht _ ?_
    intro e he
    rcases he with rfl | rfl
    ·exact adv _ ht _ fun L h=>h
    ·exact adv _ ht _ fun L h=>h
   | false =>
    rw[hv] at hsr
    refine WL.block (WL.sregC (RL.o (by simp[z];rfl) (RL.g (by simp;rfl) (RL.callY0 false (by simp) hsr (by simp) (by simp) (RL.o (by simp;rfl) (RL.nil ⟨_,by simp;rfl,?_⟩))))))
    refine WL.cond (t:=false) (by simp) (by simp) fun _=>?_
    have hb:=bad_fn l[u].op l[u].res.Code
    have hp:=sameres_fn l[u].res (rsE l[u].res.Code)
    cases hbad:badF l[u].op.Kind l[u].res.Code with
    | false =>
     rw[hbad] at hb
     have ht:stepW s l[u]=none:=by simp[stepW,p,hv,hbad]
     have hr:=stepW_none hE0 ht
     rw[hr] at hg
     simp only[Bool.false_eq_true,if_false] at hg
     refine WL.sregC (RL.o (by simp;rfl) (RL.call0 false hb (by simp) (by simp) (RL.o (by simp;rfl) (RL.g (by simp;rfl) (RL.callN (by simp) (RL.g (by simp;rfl) (RL.o (by simp;rfl) (RL.nil ⟨_,by simp;rfl,?_⟩))))))))
     refine WL.cond (t:=true) (by simp) (fun _=>?_) (by simp)
     refine WL.sreg (by simp[w2];rfl) (by simp;rfl) (WL.ret ⟨rfl,?_⟩)
     simp[fi88,← hg]
    | true =>
     rw[hbad] at hb
     cases hpl:SameRes l[u].res (rsE l[u].res.Code) with
     | false =>
      rw[hpl] at hp
      have ht:stepW s l[u]=none:=by simp[stepW,p,hv,hbad,hpl]
      have hr:=stepW_none hE0 ht
      rw[hr] at hg
      simp only[Bool.false_eq_true,if_false] at hg
      refine WL.sregC (RL.o (by simp;rfl) (RL.call0 false hb (by simp) (by simp) (RL.o (by simp;rfl) (RL.g (by simp;rfl) (RL.nilA 80 3 1 (by simp;rfl) rfl rfl (RL.callY0 false (by simp) hp (by simp[rsE]) (by simp) (RL.g (by simp;rfl) (RL.o (by simp;rfl) (RL.nil ⟨_,by simp;rfl,?_⟩)))))))))
      refine WL.cond (t:=true) (by simp) (fun _=>?_) (by simp)
      refine WL.sreg (by simp[w2];rfl) (by simp;rfl) (WL.ret ⟨rfl,?_⟩)
      simp[fi88,← hg]
     | true =>
      rw[hpl] at hp
      have ht:stepW s l[u]=some s:=by simp[stepW,p,hv,hbad,hpl]
      refine WL.sregC (RL.o (by simp;rfl) (RL.call0 false hb (by simp) (by simp) (RL.o (by simp;rfl) (RL.g (by simp;rfl) (RL.nilA 80 3 1 (by simp;rfl) rfl rfl (RL.callY0 false (by simp) hp (by simp[rsE]) (by simp) (RL.g (by simp;rfl) (RL.o (by simp;rfl) (RL.nil ⟨_,by simp;rfl,?_⟩)))))))))
      refine WL.cond (t:=false) (by simp) (by simp) fun _=>WL.skip ?_
      refine WL.fin [66] (by simp) (tail _ ht _ ?_)
      intro e he
      rcases he with rfl | rfl
      ·exact adv _ ht _ fun L h=>h
      ·exact adv _ ht _ fun L h=>h
 ·obtain rfl:j=(ordF l).length:=by omega
  rw[List.drop_length] at hg
  simp only[goW] at hg
  refine WL.sreg (by simp;rfl) (by simp;rfl) ?_
  refine WL.seq (WL.cond (t:=false) (by simp) (by simp) fun _=>WL.exit ?_)
  refine WL.sreg (by simp;rfl) (by simp;rfl) (WL.ret ⟨rfl,?_⟩)
  simp[fi88,← hg]
set_option maxHeartbeats 16000000 in
theorem walk_stepsO (hE:EvOk l)(hS:SeeOk l Sh.one f cps B D see Inv)(s0:St)(h0:OkSt s0)(a0:σ)(i0:Inv a0 s0)(c:Int)(hT:∀ j,j < l.length→timesF l j c=true)(n:Nat) :
  WL Try.prog fi88.nt c88_27 (wkS l c (Sh.one.fv f cps) s0 ([(2300,0,i64 n),(2400,0,i64 n),(2500,0,bl false)] ++ Sh.one.gh (B a0) (D a0))) (wkQ (Sh.one.gs (B (goW l see s0 a0 (ordF l)).2.2) (D (goW l see s0 a0 (ordF l)).2.2)) (goW l see s0 a0 (ordF l)).1):=by
 have hn:=hE.n
 have hOl:=ordF_len l
 have e1:=hS.no
 have e5:=hS.roots
 simp at e5
 have hsee:=fun s h a hi u hu hr j=>walk_see hS s h a hi u hu hr j
 have hI:=fun a s u hu h hi hr=>hS.inv a s u hu h hi hr
 refine WL.seq (WL.sregC (RL.o (by simp;rfl) (RL.call0 false (order_fn l hn) (by simp) (by simp) (RL.o (by simp;rfl) (RL.nil ⟨_,by simp[e5];rfl,?_⟩)))))
 refine WL.block (WL.loop (ι:={x:Nat × St × σ // x.1≤(ordF l).length∧OkSt x.2.1∧Inv x.2.2 x.2.1∧goW l see x.2.1 x.2.2 ((ordF l).drop x.1)=goW l see s0 a0 (ordF l)}) (fun x=>wkT l (Sh.one.fv f cps) x.1.2.1 x.1.1 (Sh.one.gh (B x.1.2.2) (D x.1.2.2))) (fun x=>(ordF l).length - x.1.1) ⟨(0,s0,a0),Nat.zero_le _,h0,i0,rfl⟩ (by simp) fun x=>?_)
 obtain⟨⟨j,s,a⟩,hj,hs,hia,hg⟩:=x
 simp only at hj hs hg hia ⊢
 by_cases hlt:j < (ordF l).length
 ·obtain⟨u,hu,eu⟩:=ordF_at hlt
  have f1:=fmE_drop (o:=false) (r:=false) hu
  have g1:14≤l.length * 14 - u * 14:=by omega
  have hlt':j+1≤(ordF l).length:=hlt
  have w:IntKind.wrap .i64 ((j:Int)+1)=((j+1:Nat):Int):=by rw[wrap_small (by omega) (by omega)];omega
  have w2:IntKind.wrap .i64 ((u:Int)+1)=(u:Int)+1:=by rw[wrap_small (by omega) (by omega)]
  have hE0:=times_end hu (hT u hu)
  have hse:=hsee s hs a hia u hu
  have hI':=hI a s u hu hs hia
  rw[List.drop_eq_getElem_cons hlt] at hg
  simp only[goW,eu,atE_at hu] at hg
  have hok:=stepR_ok hs l[u]
  have tail:∀ t,stepW s l[u]=some t→∀ Q,(∀ e,(e=.nrm∨e=.ext 3)→Q e (wkT l (Sh.one.fv f cps) t j (Sh.one.gh (B (see a u t)) (D (see a u t)))))→WL Try.prog fi88.nt c88_17 ([(0,0,sEv l),(300,0,Sh.one.fv f cps)] ++ (rcF 9 t ++ ([(1200,0,i64 u),(3600,0,sI true (ordF l)),(3700,0,i64 (ordF l).length),(3800,0,i64 j)] ++ Sh.one.gh (B a) (D a)))) Q:=by
   intro t ht Q hQ
   obtain⟨q1,q2⟩:=stepW_some hE0 ht
   have:=hse q1 j (fun L=>L=wkT l (Sh.one.fv f cps) t j (Sh.one.gh (B (see a u t)) (D (see a u t)))) (by rw[q2])
   rw[q2] at this
   refine WL.mono this ?_
   rintro e L ⟨he,rfl⟩
   exact hQ e he
  refine WL.sreg (by simp[hlt];rfl) (by simp[e5];rfl) ?_
  refine WL.seq (WL.cond (t:=true) (by simp[hlt]) (fun _=>WL.skip ?_) (by simp))
  refine WL.seq (WL.block (WL.sreg (by simp[hlt,hlt',eu];rfl) (by simp[e5];rfl) ?_))
  refine WL.sreg (by simp[hlt,hlt',eu,hu,f1,g1];rfl) (by simp[e5];rfl) ?_
  refine WL.sregC (RL.o (by simp;rfl) (RL.doC s hs.sized l[u].Client l[u].op (by simp) (RL.o (by simp;rfl) (RL.nil ⟨_,by simp[e5];rfl,?_⟩))))
  have adv:∀ t,stepW s l[u]=some t→∀ Q,(∀ L,(∃ y:{x:Nat × St × σ // x.1≤(ordF l).length∧OkSt x.2.1∧Inv x.2.2 x.2.1∧goW l see x.2.1 x.2.2 ((ordF l).drop x.1)=goW l see s0 a0 (ordF l)},L=wkT l (Sh.one.fv f cps) y.1.2.1 y.1.1 (Sh.one.gh (B y.1.2.2) (D y.1.2.2))∧(ordF l).length - y.1.1 < (ordF l).length - j)→Q Ex.nrm L)→WL Try.prog fi88.nt c88_21 (wkT l (Sh.one.fv f cps) t j (Sh.one.gh (B (see a u t)) (D (see a u t)))) Q:=by
   intro t ht Q hQ
   obtain⟨q1,q2⟩:=stepW_some hE0 ht
   have hI2:=hI' q1
   rw[q1] at hg
   simp only[if_true] at hg
   rw[q2] at hg hI2 hok
   refine WL.reg (RL.run (by simp[w];rfl) ⟨_,by simp[e5];rfl,hQ _ ?_⟩)
   exact⟨⟨(j+1,t,see a u t),hlt,hok,hI2,hg⟩,by simp,by simp only;omega⟩
  refine WL.seq ?_
  by_cases p:l[u].End=0
  ·have z:(l[u].End == 0)=true:=by simp[p]
   have ht:stepW s l[u]=some (DoB s l[u].Client l[u].op).2.1:=by simp[stepW,p]
   refine WL.block (WL.sregC (RL.o (by simp[z];rfl) (RL.g (by simp;rfl) (RL.callN (by simp) (RL.o (by simp;rfl) (RL.nil ⟨_,by simp[e5];rfl,?_⟩))))))
   refine WL.cond (t:=true) (by simp) (fun _=>?_) (by simp)
   refine WL.reg (RL.run (by simp;rfl) ⟨_,by simp[e5];rfl,?_⟩)
   refine tail _ ht _ ?_
   intro e he
   rcases he with rfl | rfl
   ·exact adv _ ht _ fun L h=>h
   ·exact adv _ ht _ fun L h=>h
  ·have z:(l[u].End == 0)=false:=beq_false_of_ne p
   have hsr:=sameres_fn (DoB s l[u].Client l[u].op).2.2 l[u].res
   cases hv:SameRes (DoB s l[u].Client l[u].op).2.2 l[u].res with
   | true =>
    rw[hv] at hsr
    have ht:stepW s l[u]=some (DoB s l[u].Client l[u].op).2.1:=by simp[stepW,hv]
    refine WL.block (WL.sregC (RL.o (by simp[z];rfl) (RL.g (by simp;rfl) (RL.callY0 false (by simp) hsr (by simp) (by simp) (RL.o (by simp;rfl) (RL.nil ⟨_,by simp[e5];rfl,?_⟩))))))
    refine WL.cond (t:=true) (by simp) (fun _=>?_) (by simp)
    refine WL.reg (RL.run (by simp;rfl) ⟨_,by simp[e5];rfl,?_⟩)
    refine tail _ ht _ ?_
    intro e he
    rcases he with rfl | rfl
    ·exact adv _ ht _ fun L h=>h
    ·exact adv _ ht _ fun L h=>h
   | false =>
    rw[hv] at hsr
    refine WL.block (WL.sregC (RL.o (by simp[z];rfl) (RL.g (by simp;rfl) (RL.callY0 false (by simp) hsr (by simp) (by simp) (RL.o (by simp;rfl) (RL.nil ⟨_,by simp[e5];rfl,?_⟩))))))
    refine WL.cond (t:=false) (by simp) (by simp) fun _=>?_
    have hb:=bad_fn l[u].op l[u].res.Code
    have hp:=sameres_fn l[u].res (rsE l[u].res.Code)
    cases hbad:badF l[u].op.Kind l[u].res.Code with
    | false =>
     rw[hbad] at hb
     have ht:stepW s l[u]=none:=by simp[stepW,p,hv,hbad]
     have hr:=stepW_none hE0 ht
     rw[hr] at hg
     simp only[Bool.false_eq_true,if_false] at hg
     refine WL.sregC (RL.o (by simp;rfl) (RL.call0 false hb (by simp) (by simp) (RL.o (by simp;rfl) (RL.g (by simp;rfl) (RL.callN (by simp) (RL.g (by simp;rfl) (RL.o (by simp;rfl) (RL.nil ⟨_,by simp[e5];rfl,?_⟩))))))))
     refine WL.cond (t:=true) (by simp) (fun _=>?_) (by simp)
     refine WL.sreg (by simp[w2];rfl) (by simp[e5];rfl) (WL.ret ⟨rfl,?_⟩)
     simp[fi88,← hg]
    | true =>
     rw[hbad] at hb
     cases hpl:SameRes l[u].res (rsE l[u].res.Code) with
     | false =>
      rw[hpl] at hp
      have ht:stepW s l[u]=none:=by simp[stepW,p,hv,hbad,hpl]
      have hr:=stepW_none hE0 ht
      rw[hr] at hg
      simp only[Bool.false_eq_true,if_false] at hg
      refine WL.sregC (RL.o (by simp;rfl) (RL.call0 false hb (by simp) (by simp) (RL.o (by simp;rfl) (RL.g (by simp;rfl) (RL.nilA 80 3 1 (by simp;rfl) rfl rfl (RL.callY0 false (by simp) hp (by simp[rsE]) (by simp) (RL.g (by simp;rfl) (RL.o (by simp;rfl) (RL.nil ⟨_,by simp[e5];rfl,?_⟩)))))))))
      refine WL.cond (t:=true) (by simp) (fun _=>?_) (by simp)
      refine WL.sreg (by simp[w2];rfl) (by simp[e5];rfl) (WL.ret ⟨rfl,?_⟩)
      simp[fi88,← hg]
     | true =>
      rw[hpl] at hp
      have ht:stepW s l[u]=some s:=by simp[stepW,p,hv,hbad,hpl]
      refine WL.sregC (RL.o (by simp;rfl) (RL.call0 false hb (by simp) (by simp) (RL.o (by simp;rfl) (RL.g (by simp;rfl) (RL.nilA 80 3 1 (by simp;rfl) rfl rfl (RL.callY0 false (by simp) hp (by simp[rsE]) (by simp) (RL.g (by simp;rfl) (RL.o (by simp;rfl) (RL.nil ⟨_,by simp[e5];rfl,?_⟩)))))))))
      refine WL.cond (t:=false) (by simp) (by simp) fun _=>WL.skip ?_
      refine WL.fin [66] (by simp[e5]) (tail _ ht _ ?_)
      intro e he
      rcases he with rfl | rfl
      ·exact adv _ ht _ fun L h=>h
      ·exact adv _ ht _ fun L h=>h
 ·obtain rfl:j=(ordF l).length:=by omega
  rw[List.drop_length] at hg
  simp only[goW] at hg
  refine WL.sreg (by simp;rfl) (by simp[e5];rfl) ?_
  refine WL.seq (WL.cond (t:=false) (by simp) (by simp) fun _=>WL.exit ?_)
  refine WL.sreg (by simp;rfl) (by simp[e5];rfl) (WL.ret ⟨rfl,?_⟩)
  simp[fi88,← hg]
set_option maxHeartbeats 16000000 in
theorem walk_fnN (hE:EvOk l)(hS:SeeOk l Sh.nil f cps B D see Inv)(p c:Int)(a:σ)(hI:newBad p c=false→Inv a (newSt p c)) :
  FnC Try.prog 88 (Sh.nil.gs (B a) (D a)) [sEv l,i64 p,i64 c,Sh.nil.fv f cps] (Sh.nil.gs (B (walkF see a l p c).2.2) (D (walkF see a l p c).2.2)) (i64 (walkF see a l p c).1):=by
 have hn:=hE.n
 have hms:=may_fn (newSt p c) (newSt_sized p c)
 rw[May_new] at hms
 refine FnC.go ok88 rfl ?_
 refine WL.mono (Q':=wkQ (Sh.nil.gs (B (walkF see a l p c).2.2) (D (walkF see a l p c).2.2)) (walkF see a l p c).1) ?_ fun x L h=>⟨.inr h.1,h.2⟩
 refine WL.sreg (by simp;rfl) (by simp;rfl) ?_
 refine WL.scope ?_
 refine WL.sregC (RL.o (by simp;rfl) (RL.newC p c (by simp) (RL.o (by simp;rfl) (RL.nil ⟨_,by simp;rfl,?_⟩))))
 cases hb:newBad p c with
 | true =>
  rw[hb] at hms
  refine WL.seq (WL.sregC (RL.o (by simp;rfl) (RL.call0 false hms (by simp) (by simp) (RL.o (by simp;rfl) (RL.nil ⟨_,by simp;rfl,?_⟩)))))
  refine WL.cond (t:=true) (by simp) (fun _=>?_) (by simp)
  refine WL.sreg (by simp;rfl) (by simp;rfl) (WL.ret ⟨rfl,?_⟩)
  simp[fi88,walkF,hb]
 | false =>
  rw[hb] at hms
  have hok:=newSt_ok' hb
  have i0:=hI hb
  refine WL.seq (WL.sregC (RL.o (by simp;rfl) (RL.call0 false hms (by simp) (by simp) (RL.o (by simp;rfl) (RL.nil ⟨_,by simp;rfl,?_⟩)))))
  refine WL.cond (t:=false) (by simp) (by simp) fun _=>WL.skip ?_
  refine WL.seq (WL.sreg (by simp;rfl) (by simp;rfl) ?_)
  unfold walkF
  rw[hb]
  simp only[Bool.false_eq_true,if_false]
  generalize newSt p c=s0 at hok i0 ⊢
  refine WL.block (WL.count l.length (fun i=>wkS l c (Sh.nil.fv f cps) s0 ([(2300,0,i64 l.length),(2400,0,i64 i)] ++ Sh.nil.gh (B a) (D a))) (fun i=>∀ j,j < i→timesF l j c=true) rfl (fun j h=>absurd h (Nat.not_lt_zero _)) fun i hi hp=>?_)
  by_cases hlt:i < l.length
  ·have w:IntKind.wrap .i64 ((i:Int)+1)=((i+1:Nat):Int):=by rw[wrap_small (by omega) (by omega)];omega
   have ha:=times_fn l hn i hlt c
   refine WL.sreg (by simp[hlt];rfl) (by simp;rfl) ?_
   refine WL.seq (WL.cond (t:=true) (by simp[hlt]) (fun _=>WL.skip ?_) (by simp))
   refine WL.seq (WL.block (WL.sreg (by simp[hlt];rfl) (by simp;rfl) ?_))
   cases ht:timesF l i c with
   | true =>
    rw[ht] at ha
    refine WL.sregC (RL.o (by simp;rfl) (RL.call0 false ha (by simp) (by simp) (RL.o (by simp;rfl) (RL.nil ⟨_,by simp;rfl,?_⟩))))
    refine WL.cond (t:=false) (by simp) (by simp) fun _=>WL.skip ?_
    refine WL.reg (RL.run (by simp[w];rfl) ⟨_,by simp;rfl,hlt,?_,fun j hj=>?_⟩)
    ·simp
    ·by_cases e:j=i
     ·subst e;exact ht
     ·exact hp j (by omega)
   | false =>
    rw[ht] at ha
    have hf:=firstBad_some hlt hp ht
    refine WL.sregC (RL.o (by simp;rfl) (RL.call0 false ha (by simp) (by simp) (RL.o (by simp;rfl) (RL.nil ⟨_,by simp;rfl,?_⟩))))
    refine WL.cond (t:=true) (by simp) (fun _=>?_) (by simp)
    refine WL.sreg (by simp[w];rfl) (by simp;rfl) (WL.ret ⟨rfl,?_⟩)
    simp[fi88,hf]
  ·obtain rfl:i=l.length:=by omega
   have hf:=firstBad_none hp
   rw[hf]
   refine WL.sreg (by simp;rfl) (by simp;rfl) ?_
   refine WL.seq (WL.cond (t:=false) (by simp) (by simp) fun _=>WL.exit ?_)
   refine WL.seq (WL.label ?_)
   exact walk_stepsN hE hS s0 hok a i0 c hp l.length
set_option maxHeartbeats 16000000 in
theorem walk_fnO (hE:EvOk l)(hS:SeeOk l Sh.one f cps B D see Inv)(p c:Int)(a:σ)(hI:newBad p c=false→Inv a (newSt p c)) :
  FnC Try.prog 88 (Sh.one.gs (B a) (D a)) [sEv l,i64 p,i64 c,Sh.one.fv f cps] (Sh.one.gs (B (walkF see a l p c).2.2) (D (walkF see a l p c).2.2)) (i64 (walkF see a l p c).1):=by
 have hn:=hE.n
 have e5:=hS.roots
 simp at e5
 have hms:=may_fn (newSt p c) (newSt_sized p c)
 rw[May_new] at hms
 refine FnC.go ok88 rfl ?_
 refine WL.mono (Q':=wkQ (Sh.one.gs (B (walkF see a l p c).2.2) (D (walkF see a l p c).2.2)) (walkF see a l p c).1) ?_ fun x L h=>⟨.inr h.1,h.2⟩
 refine WL.sreg (by simp;rfl) (by simp[e5];rfl) ?_
 refine WL.scope ?_
 refine WL.sregC (RL.o (by simp;rfl) (RL.newC p c (by simp) (RL.o (by simp;rfl) (RL.nil ⟨_,by simp[e5];rfl,?_⟩))))
 cases hb:newBad p c with
 | true =>
  rw[hb] at hms
  refine WL.seq (WL.sregC (RL.o (by simp;rfl) (RL.call0 false hms (by simp) (by simp) (RL.o (by simp;rfl) (RL.nil ⟨_,by simp[e5];rfl,?_⟩)))))
  refine WL.cond (t:=true) (by simp) (fun _=>?_) (by simp)
  refine WL.sreg (by simp;rfl) (by simp[e5];rfl) (WL.ret ⟨rfl,?_⟩)
  simp[fi88,walkF,hb]
 | false =>
  rw[hb] at hms
  have hok:=newSt_ok' hb
  have i0:=hI hb
  refine WL.seq (WL.sregC (RL.o (by simp;rfl) (RL.call0 false hms (by simp) (by simp) (RL.o (by simp;rfl) (RL.nil ⟨_,by simp[e5];rfl,?_⟩)))))
  refine WL.cond (t:=false) (by simp) (by simp) fun _=>WL.skip ?_
  refine WL.seq (WL.sreg (by simp;rfl) (by simp[e5];rfl) ?_)
  unfold walkF
  rw[hb]
  simp only[Bool.false_eq_true,if_false]
  generalize newSt p c=s0 at hok i0 ⊢
  refine WL.block (WL.count l.length (fun i=>wkS l c (Sh.one.fv f cps) s0 ([(2300,0,i64 l.length),(2400,0,i64 i)] ++ Sh.one.gh (B a) (D a))) (fun i=>∀ j,j < i→timesF l j c=true) rfl (fun j h=>absurd h (Nat.not_lt_zero _)) fun i hi hp=>?_)
  by_cases hlt:i < l.length
  ·have w:IntKind.wrap .i64 ((i:Int)+1)=((i+1:Nat):Int):=by rw[wrap_small (by omega) (by omega)];omega
   have ha:=times_fn l hn i hlt c
   refine WL.sreg (by simp[hlt];rfl) (by simp[e5];rfl) ?_
   refine WL.seq (WL.cond (t:=true) (by simp[hlt]) (fun _=>WL.skip ?_) (by simp))
   refine WL.seq (WL.block (WL.sreg (by simp[hlt];rfl) (by simp[e5];rfl) ?_))
   cases ht:timesF l i c with
   | true =>
    rw[ht] at ha
    refine WL.sregC (RL.o (by simp;rfl) (RL.call0 false ha (by simp) (by simp) (RL.o (by simp;rfl) (RL.nil ⟨_,by simp[e5];rfl,?_⟩))))
    refine WL.cond (t:=false) (by simp) (by simp) fun _=>WL.skip ?_
    refine WL.reg (RL.run (by simp[w];rfl) ⟨_,by simp[e5];rfl,hlt,?_,fun j hj=>?_⟩)
    ·simp
    ·by_cases e:j=i
     ·subst e;exact ht
     ·exact hp j (by omega)
   | false =>
    rw[ht] at ha
    have hf:=firstBad_some hlt hp ht
    refine WL.sregC (RL.o (by simp;rfl) (RL.call0 false ha (by simp) (by simp) (RL.o (by simp;rfl) (RL.nil ⟨_,by simp[e5];rfl,?_⟩))))
    refine WL.cond (t:=true) (by simp) (fun _=>?_) (by simp)
    refine WL.sreg (by simp[w];rfl) (by simp[e5];rfl) (WL.ret ⟨rfl,?_⟩)
    simp[fi88,hf]
  ·obtain rfl:i=l.length:=by omega
   have hf:=firstBad_none hp
   rw[hf]
   refine WL.sreg (by simp;rfl) (by simp[e5];rfl) ?_
   refine WL.seq (WL.cond (t:=false) (by simp) (by simp) fun _=>WL.exit ?_)
   refine WL.seq (WL.label ?_)
   exact walk_stepsO hE hS s0 hok a i0 c hp l.length
end
end Go.OT
namespace Go.OT
open Go.Proofs
theorem noSee_ok (l:List Ev):SeeOk l .nil 0 [] (fun _:Unit=>[]) (fun _=>[]) noSee (fun _ _=>True) :=
 ⟨rfl,rfl,rfl,by simp,fun _ _ _=>rfl,fun _ _ _ _ _ _ _=>trivial,fun h=>absurd rfl h⟩
set_option maxHeartbeats 8000000 in
theorem chk_fn (l:List Ev)(hE:EvOk l)(p c:Int):FnC Try.prog 28 [] [sEv l,i64 p,i64 c] [] (i64 (chkF l p c)):=by
 have hw:=walk_fnN hE (noSee_ok l) p c () (fun _=>trivial)
 rw[walkF_code] at hw
 simp only[Sh.gs,Sh.fv] at hw
 refine FnC.go ok28 rfl ?_
 refine WL.sreg (by simp;rfl) (by simp;rfl) ?_
 refine WL.sregC (RL.o (by simp;rfl) (RL.call0 false hw (by simp) (by simp) (RL.o (by simp;rfl) (RL.nil ⟨_,by simp;rfl,WL.ret ⟨.inr rfl,?_⟩⟩))))
 simp[fi28]
set_option maxHeartbeats 8000000 in
theorem final1_fn (i:Int)(s t:St):FnC Try.prog 89 [.nod (.bx true () (cellsS false s))] [i64 i,encS false t,.ptr 1000000 0 [] 0] [.nod (.bx true () (cellsS false t))] (.tuple []):=by
 refine FnC.go ok89 rfl ?_
 refine WL.sreg (by simp;rfl) (by simp;rfl) ?_
 refine WL.wipe 1000000 (by simp;rfl) (by simp) ?_
 refine WL.reg (RL.run (by simp;rfl) ⟨_,by simp;rfl,?_⟩)
 refine⟨.inl rfl,?_⟩
 simp[fi89]
theorem lastSee_ok (l:List Ev):SeeOk l .one 89 [.ptr 1000000 0 [] 0] (fun s:St=>cellsS false s) (fun _=>[]) (fun _ _ t=>t) (fun _ _=>True) :=
 ⟨rfl,rfl,rfl,by simp,fun X k h=>by
  obtain⟨h1,b,h2⟩:=h (1000000,[]) (by simp)
  simp at h1 h2
  simp[h1,h2,gkey],fun _ _ _ _ _ _ _=>trivial,fun _ a s u hu _ _ _=>final1_fn u a (stepR s l[u]).2⟩
set_option maxHeartbeats 16000000 in
theorem fin_fn (l:List Ev)(hE:EvOk l)(p c:Int):FnC Try.prog 30 [] [sEv l,i64 p,i64 c] [] (.tuple [encS false (finF l p c).1,bl (finF l p c).2]):=by
 have hw:=walk_fnO hE (lastSee_ok l) p c (newSt p c) (fun _=>trivial)
 rw[walkF_code] at hw
 simp only[Sh.gs,Sh.fv] at hw
 refine FnC.go ok30 rfl ?_
 refine WL.sreg (by simp;rfl) (by simp;rfl) ?_
 refine WL.sregC (RL.o (by simp;rfl) (RL.newC p c (by simp) (RL.o (by simp;rfl) (RL.nil ⟨_,by simp;rfl,?_⟩))))
 rw[walkF_last] at hw
 refine WL.raise 8 3 (by simp) (by simp;rfl) (by simp) ?_
 by_cases h0:chkF l p c=0
 ·have z:(chkF l p c != 0)=false:=by simp[h0]
  have hfin:finF l p c=((walkF noSee () l p c).2.1,true):=by unfold finF;rw[if_pos h0]
  rw[hfin]
  generalize (walkF noSee () l p c).2.1=s at hw ⊢
  generalize newSt p c=s0 at hw ⊢
  refine WL.seq (WL.sregC (RL.o (by simp;rfl) (RL.callK false [(800,[])] hw (by simp) (by simp) (by simp[gkey]) (by simp) (by simp) (RL.o (by simp[z];rfl) (RL.nil ⟨_,by simp;rfl,?_⟩)))))
  refine WL.cond (t:=false) (by simp) (by simp) fun _=>WL.skip ?_
  refine WL.sreg (by simp;rfl) (by simp;rfl) (WL.ret ⟨.inr rfl,?_⟩)
  simp[fi30]
 ·have z:(chkF l p c != 0)=true:=by simp[h0]
  have hfin:finF l p c=(⟨[],[],[]⟩,false):=by unfold finF;rw[if_neg h0]
  rw[hfin]
  generalize (walkF noSee () l p c).2.1=s at hw ⊢
  generalize newSt p c=s0 at hw ⊢
  refine WL.seq (WL.sregC (RL.o (by simp;rfl) (RL.callK false [(800,[])] hw (by simp) (by simp) (by simp[gkey]) (by simp) (by simp) (RL.o (by simp[z];rfl) (RL.nil ⟨_,by simp;rfl,?_⟩)))))
  refine WL.cond (t:=true) (by simp) (fun _=>?_) (by simp)
  refine WL.sreg (by simp;rfl) (by simp;rfl) (WL.nil1 601 false 1 (by simp) (WL.nil1 602 false 1 (by simp) (WL.nil1 603 false 1 (by simp) (WL.ret ⟨.inr rfl,?_⟩))))
  simp[fi30]
end Go.OT
namespace Go.OT
open Go.Proofs
def flQ (e:Ev)(p:Int):Bool:=decide (e.op.Kind=7) || (decide (e.op.Kind=6) && decide (e.op.Page=p))
def thQ (t:St)(p:Int):Bool:=decide (0≤p) && t.There.getD p.toNat false
def seeF (l:List Ev)(p:Int)(a:Int)(x:Int)(t:St):Int :=
 if (flQ (atE l x) p && (decide (0 < (atE l x).End) && (decide ((atE l x).res.Code=0) && thQ t p)))=true then max a (atE l x).Stamp else a
abbrev f1S (l:List Ev)(p a:Int)(t:St)(e:Ev)(r:SL):SL:=[(300,0,.vptr () [i64 p]),(400,0,.ptr 1000000 0 [] 0)] ++ (rcF 6 t ++ (bxE 7 e ++ (r ++ [(1000000,0,.bx true () [i64 a])])))
abbrev f1Q (v:Int):Ex→SL→Prop:=fun e L=>(e=Ex.nrm∨e=Ex.ret)∧RetOk fi114.rs [.nod (.bx true () [i64 v])] (.tuple []) L
set_option maxHeartbeats 16000000 in
theorem flush1_two (l:List Ev)(p a:Int)(t:St)(e:Ev)(fl:Bool)(v:Int)
  (hv:v=if (fl && (decide (0 < e.End) && (decide (e.res.Code=0) && thQ t p)))=true then max a e.Stamp else a) :
  WL Try.prog fi114.nt c114_2 (f1S l p a t e [(800,0,bl fl)]) (f1Q v):=by
 have stop:∀ L,L=[(400,0,.ptr 1000000 0 [] 0)] ++ (bxE 7 e ++ [(5900,0,bl false),(1000000,0,.bx true () [i64 a])])→v=a→WL Try.prog fi114.nt c114_1 L (f1Q v):=by
  rintro L rfl rfl
  refine WL.cond (t:=false) (by simp) (by simp) fun _=>WL.skip ⟨.inl rfl,?_⟩
  simp[fi114]
 cases fl with
 | false =>
  refine WL.sreg (by simp;rfl) (by simp;rfl) (stop _ (by simp) (by rw[hv];simp))
 | true =>
 by_cases k1:0 < e.End
 ·by_cases k2:e.res.Code=0
  ·have k2':(e.res.Code == 0)=true:=by simp[k2]
   by_cases k3:0≤p
   ·obtain⟨n,rfl⟩:=Int.eq_ofNat_of_zero_le k3
    by_cases k4:n < t.There.length
    ·cases k5:t.There[n] with
     | true =>
      have ht:thQ t (n:Int)=true:=by simp[thQ,k4,k5]
      have hv':v=max a e.Stamp:=by rw[hv];simp[k1,k2,ht]
      refine WL.sreg (by simp[k1,k2',k4,k5];rfl) (by simp;rfl) ?_
      refine WL.cond (t:=true) (by simp) (fun _=>?_) (by simp)
      refine WL.reg (RL.run (by simp;rfl) ⟨_,by simp;rfl,.inl rfl,?_⟩)
      simp[fi114,hv']
      split<;>omega
     | false =>
      have ht:thQ t (n:Int)=false:=by simp[thQ,k4,k5]
      refine WL.sreg (by simp[k1,k2',k4,k5];rfl) (by simp;rfl) (stop _ (by simp) (by rw[hv];simp[ht]))
    ·have ht:thQ t (n:Int)=false:=by simp[thQ,k4]
     refine WL.sreg (by simp[k1,k2',k4];rfl) (by simp;rfl) (stop _ (by simp) (by rw[hv];simp[ht]))
   ·have ht:thQ t p=false:=by simp[thQ,k3]
    refine WL.sreg (by simp[k1,k2',k3];rfl) (by simp;rfl) (stop _ (by simp) (by rw[hv];simp[ht]))
  ·have k2':(e.res.Code == 0)=false:=beq_false_of_ne k2
   refine WL.sreg (by simp[k1,k2'];rfl) (by simp;rfl) (stop _ (by simp) (by rw[hv];simp[k2]))
 ·refine WL.sreg (by simp[k1];rfl) (by simp;rfl) (stop _ (by simp) (by rw[hv];simp[k1]))
set_option maxHeartbeats 16000000 in
theorem flush1_fn (l:List Ev)(p a:Int)(t:St)(u:Nat)(hu:u < l.length) :
  FnC Try.prog 114 [.nod (.bx true () [i64 a])] [i64 u,encS false t,.vptr () [sEv l],.vptr () [i64 p],.ptr 1000000 0 [] 0] [.nod (.bx true () [i64 (seeF l p a u t)])] (.tuple []):=by
 have f1:=fmE_drop (o:=false) (r:=false) hu
 have g1:14≤l.length * 14 - u * 14:=by omega
 have hat:atE l (u:Int)=l[u]:=atE_at hu
 refine FnC.go ok114 rfl ?_
 refine WL.sreg (by simp;rfl) (by simp;rfl) ?_
 refine WL.sreg (by simp[hu,f1,g1];rfl) (by simp;rfl) ?_
 have hsee:∀ fl,flQ l[u] p=fl→seeF l p a u t=if (fl && (decide (0 < l[u].End) && (decide (l[u].res.Code=0) && thQ t p)))=true then max a l[u].Stamp else a:=fun fl hf=>by
  unfold seeF;rw[hat,hf]
 generalize seeF l p a u t=v at hsee ⊢
 clear f1 g1 hat
 generalize l[u]=e at hsee ⊢
 have fin:∀ fl,flQ e p=fl→∀ L,L=f1S l p a t e [(800,0,bl fl)]→WL Try.prog fi114.nt c114_2 L (f1Q v):=fun fl hf L hL=>by
  rw[hL];exact flush1_two l p a t e fl v (hsee fl hf)
 by_cases k7:e.op.Kind=7
 ·have k7':(e.op.Kind == 7)=true:=by simp[k7]
  refine WL.sreg (by simp[k7'];rfl) (by simp;rfl) (fin true (by simp[flQ,k7]) _ (by simp))
 ·have k7':(e.op.Kind == 7)=false:=beq_false_of_ne k7
  by_cases k6:e.op.Kind=6
  ·have k6':(e.op.Kind == 6)=true:=by simp[k6]
   by_cases kp:e.op.Page=p
   ·have kp':(e.op.Page == p)=true:=by simp[kp]
    refine WL.sreg (by simp[k7',k6',kp'];rfl) (by simp;rfl) (fin true (by simp[flQ,k6,kp]) _ (by simp))
   ·have kp':(e.op.Page == p)=false:=beq_false_of_ne kp
    refine WL.sreg (by simp[k7',k6',kp'];rfl) (by simp;rfl) (fin false (by simp[flQ,k6,kp]) _ (by simp))
  ·have k6':(e.op.Kind == 6)=false:=beq_false_of_ne k6
   refine WL.sreg (by simp[k7',k6'];rfl) (by simp;rfl) (fin false (by simp[flQ,k6,k7]) _ (by simp))
end Go.OT
namespace Go.OT
open Go.Proofs
def flushF (l:List Ev)(p c q:Int):Int:=if chkF l p c ≠ 0 then -1 else (walkF (seeF l q) 0 l p c).2.2
theorem flushSee_ok (l:List Ev)(q:Int):SeeOk l .one 114 [.vptr () [sEv l],.vptr () [i64 q],.ptr 1000000 0 [] 0] (fun a:Int=>[i64 a]) (fun _=>[]) (seeF l q) (fun _ _=>True) :=
 ⟨rfl,rfl,rfl,by simp,fun X k h=>by
  obtain⟨h1,b,h2⟩:=h (1000000,[]) (by simp)
  simp at h1 h2
  simp[h1,h2,gkey],fun _ _ _ _ _ _ _=>trivial,fun _ a s u hu _ _ _=>flush1_fn l q a (stepR s l[u]).2 u hu⟩
set_option maxHeartbeats 16000000 in
theorem flush_fn (l:List Ev)(hE:EvOk l)(p c q:Int):FnC Try.prog 67 [] [sEv l,i64 p,i64 c,i64 q] [] (i64 (flushF l p c q)):=by
 have hw:=walk_fnO hE (flushSee_ok l q) p c 0 (fun _=>trivial)
 rw[walkF_code] at hw
 simp only[Sh.gs,Sh.fv] at hw
 refine FnC.go ok67 rfl ?_
 refine WL.sreg (by simp;rfl) (by simp;rfl) ?_
 refine WL.sreg (by simp;rfl) (by simp;rfl) ?_
 refine WL.raise 9 1 (by simp) (by simp;rfl) (by simp) ?_
 have eF:flushF l p c q=if chkF l p c ≠ 0 then -1 else (walkF (seeF l q) 0 l p c).2.2:=rfl
 generalize (walkF (seeF l q) 0 l p c).2.2=v at hw eF
 generalize flushF l p c q=r at eF ⊢
 refine WL.sregC (RL.o (by simp;rfl) (RL.callK true [(900,[])] hw (by simp) (by simp) (by simp[gkey,lendE]) (by simp) (by simp) (RL.o (by simp;rfl) (RL.nil ⟨_,by simp;rfl,?_⟩))))
 by_cases h0:chkF l p c=0
 ·have z:(chkF l p c != 0)=false:=by simp[h0]
  have er:r=v:=by rw[eF,if_neg (by simpa using h0)]
  refine WL.seq (WL.sreg (by simp[z];rfl) (by simp;rfl) ?_)
  refine WL.cond (t:=false) (by simp) (by simp) fun _=>WL.skip ?_
  refine WL.sreg (by simp;rfl) (by simp;rfl) (WL.ret ⟨.inr rfl,?_⟩)
  simp[fi67,er]
 ·have z:(chkF l p c != 0)=true:=by simp[h0]
  have er:r=-1:=by rw[eF,if_pos h0]
  refine WL.seq (WL.sreg (by simp[z];rfl) (by simp;rfl) ?_)
  refine WL.cond (t:=true) (by simp) (fun _=>?_) (by simp)
  refine WL.sreg (by simp;rfl) (by simp;rfl) (WL.ret ⟨.inr rfl,?_⟩)
  simp[fi67,er]
end Go.OT
namespace Go.OT
open Go.Proofs
theorem Step_len (s:St)(c:Nat)(q:Op):(Step s c q).1.There.length=s.There.length:=by
 simp only[Step]
 repeat' split
 all_goals simp
theorem DoB_tlen (s:St)(cl:Int)(q:Op):(DoB s cl q).2.1.There.length=s.There.length:=by
 unfold DoB
 repeat' split
 all_goals first | rfl | exact Step_len _ _ _
theorem stepR_tlen (s:St)(e:Ev):(stepR s e).2.There.length=s.There.length:=by
 unfold stepR
 split
 ·rfl
 ·exact DoB_tlen _ _ _
theorem DoB_flush (s:St)(cl:Int)(q:Op)(hk:q.Kind=6∨q.Kind=7):(DoB s cl q).2.1=s:=by
 unfold DoB
 split
 ·rfl
 ·split
  ·simp only[Step]
   rcases hk with hk | hk<;>simp [hk]
  ·rfl
theorem stepR_flush (s:St)(e:Ev)(hk:e.op.Kind=6∨e.op.Kind=7):(stepR s e).2=s:=by
 unfold stepR
 split
 ·rfl
 ·exact DoB_flush _ _ _ hk
theorem badF_zero (k:Int):badF k 0=false:=by simp[badF]
theorem flush_there (s:St)(e:Ev)(hk:e.op.Kind=6)(hE:0 < e.End)(hc:e.res.Code=0)(hr:(stepR s e).1=true):thQ s e.op.Page=true:=by
 unfold stepR at hr
 rw[hc,badF_zero] at hr
 have hE':decide (e.End=0)=false:=by simp;omega
 simp only[Bool.and_false,Bool.false_eq_true,if_false,hE',Bool.false_or] at hr
 have h0:(DoB s e.Client e.op).2.2.Code=0:=by
  simp only[SameRes,Bool.and_eq_true,beq_iff_eq] at hr
  rw[hr.1,hc]
 unfold DoB at h0
 split at h0
 ·simp[rsE] at h0
 ·split at h0
  ·rename_i hcd
   simp only[codeOf,hk] at hcd
   simp only[show ¬ ((6:Int)=1) by decide,if_false,show ((6:Int)=2∨(6:Int)=6∨(6:Int)=8) by decide,if_true,show ¬ ((6:Int)=2) by decide,false_and,show ¬ ((6:Int)=8) by decide] at hcd
   by_cases h1:isPage s e.op.Page=false
   ·simp[h1] at hcd
   ·by_cases h2:there s e.op.Page=false
    ·simp[h1,h2] at hcd
    ·have g1:isPage s e.op.Page=true:=by simpa using h1
     have g2:there s e.op.Page=true:=by simpa using h2
     exact g2
  ·rename_i hcd
   simp only[rsE] at h0
   exact absurd h0 hcd
set_option maxHeartbeats 16000000 in
theorem refstp_fn (s:St)(h:OkSt s)(e:Ev)(hE:0≤e.End)(hD:e.op.Data.length≤1000):FnC Try.prog 115 (gsT s) [vwT s,.agg (cellsEv false false e)] (gsT (stepR s e).2) (.tuple []):=by
 have hdo:=refdo_fn s h e.Client e.op (by unfold Small;omega)
 have hb:=refbad_fn e.op e.res.Code
 refine FnC.go ok115 rfl ?_
 refine WL.sregC (RL.boxW (by simp;rfl) (by simp) (by simp[isVw]) (by simp) (RL.o (by simp;rfl) (RL.nil ⟨_,by simp;rfl,?_⟩)))
 have does:(stepR s e).2=(DoB s e.Client e.op).2.1→WL Try.prog fi115.nt c115_1 (spS s e [(1500,0,bl true)]) (fun x L=>(x=Ex.nrm∨x=Ex.ret)∧RetOk fi115.rs (gsT (stepR s e).2) (.tuple []) L):=fun hs=>by
  rw[hs]
  generalize DoB s e.Client e.op=dd at hdo
  obtain⟨o',t,r⟩:=dd
  simp only at hdo ⊢
  refine WL.cond (t:=true) (by simp) (fun _=>?_) (by simp)
  refine WL.reg (RL.o (by simp;rfl) (RL.call true [(1000000,[]),(1000100,[]),(1000200,[])] hdo (by simp) (by simp) (by simp[gkey]) (side_do s t r) (RL.nil ⟨_,by simp;rfl,.inl rfl,?_⟩)))
  simp[fi115]
 by_cases p:e.End=0
 ·have z:(e.End == 0)=true:=by simp[p]
  refine WL.sregC (RL.o (by simp[z];rfl) (RL.g (by simp;rfl) (RL.callN (by simp) (RL.g (by simp;rfl) (RL.o (by simp;rfl) (RL.nil ⟨_,by simp;rfl,?_⟩))))))
  refine WL.eqL ?_ (does (by simp[stepR,p]))
  simp[p]
 ·have z:(e.End == 0)=false:=beq_false_of_ne p
  have hpos:0 < e.End:=by omega
  cases hbad:badF e.op.Kind e.res.Code with
  | false =>
   rw[hbad] at hb
   refine WL.sregC (RL.o (by simp[z];rfl) (RL.g (by simp;rfl) (RL.callY0 false (by simp) hb (by simp) (by simp) (RL.g (by simp;rfl) (RL.o (by simp;rfl) (RL.nil ⟨_,by simp;rfl,?_⟩))))))
   refine WL.eqL ?_ (does (by simp[stepR,hpos,hbad]))
   simp
  | true =>
   rw[hbad] at hb
   refine WL.sregC (RL.o (by simp[z];rfl) (RL.g (by simp;rfl) (RL.callY0 false (by simp) hb (by simp) (by simp) (RL.g (by simp;rfl) (RL.o (by simp;rfl) (RL.nil ⟨_,by simp;rfl,?_⟩))))))
   refine WL.cond (t:=false) (by simp) (by simp) fun _=>WL.skip ⟨.inl rfl,?_⟩
   simp[fi115,stepR,hpos,hbad]
end Go.OT
namespace Go.OT
open Go.Proofs
@[simp] theorem rng14:List.range 14=[0,1,2,3,4,5,6,7,8,9,10,11,12,13]:=rfl
theorem evOk_of {l:List Ev}(hn:l.length≤1000)(hd:∀ e ∈ l,e.op.Data=[]):EvOk l:=⟨hn,fun e he=>by rw[hd e he];simp⟩
end Go.OT
namespace Go.OT
open Go.Proofs
def rfQ (e:Ev)(p q:Int)(s:St):Bool:=decide (0 < e.End) && (decide (e.res.Code=0) && ((decide (e.op.Kind=6) && decide (e.op.Page=q)) || (decide (e.op.Kind=7) && (decide (0≤q) && (decide (q < p) && s.There.getD q.toNat false)))))
theorem rfQ_eq (l:List Ev)(p q:Int)(s:St)(hp:(s.There.length:Int)=p)(a:Int)(u:Nat)(hu:u < l.length)(hr:(stepR s l[u]).1=true) :
  seeF l q a u (stepR s l[u]).2=if rfQ l[u] p q s=true then max a l[u].Stamp else a:=by
 unfold seeF
 rw[atE_at hu]
 have:(flQ l[u] q && (decide (0 < l[u].End) && (decide (l[u].res.Code=0) && thQ (stepR s l[u]).2 q)))=rfQ l[u] p q s:=by
  generalize l[u]=e at *
  unfold flQ rfQ
  by_cases k7:e.op.Kind=7
  ·have hs:=stepR_flush s e (.inr k7)
   have n6:¬ e.op.Kind=6:=by omega
   rw[hs]
   simp only[k7,decide_true,Bool.true_or,Bool.true_and,show ¬ ((7:Int)=6) by decide,decide_false,Bool.false_and,Bool.false_or]
   unfold thQ
   by_cases z:q < p
   ·simp[z]
   ·have:s.There.getD q.toNat false=false∨¬ 0≤q:=by
     by_cases z0:0≤q
     ·left
      rw[List.getD_eq_getElem?_getD,List.getElem?_eq_none (by omega)]
      rfl
     ·exact .inr z0
    rw[List.getD_eq_getElem?_getD] at this
    rcases this with h | h<;>simp [z,h]
  ·by_cases k6:e.op.Kind=6
   ·have hs:=stepR_flush s e (.inl k6)
    rw[hs]
    by_cases hE:0 < e.End
    ·by_cases hc:e.res.Code=0
     ·have:=flush_there s e k6 hE hc hr
      by_cases hq:e.op.Page=q
      ·subst hq;simp[k6,hE,hc,this]
      ·simp[k6,hq]
     ·simp[hc]
    ·simp[hE]
   ·simp[k6,k7]
 rw[this]
theorem side_stp (s' s:St):sideOk true (gsT s) (gsT s') (.tuple []:AU)=true:=by
 have:=side_step s' true s
 simpa using this
abbrev rgT (l:List Ev)(p q:Int)(s:St)(b:Int)(j:Nat):SL:=[(0,0,sEv l),(100,0,i64 p),(300,0,i64 q)] ++ (rcB 9 s ++ [(1000,0,sI true (ordF l)),(1100,0,i64 b),(1200,0,i64 j)])
theorem walk_goW {σ:Type}(see:σ→Int→St→σ)(a:σ){l:List Ev}{p c:Int}(h0:chkF l p c=0):newBad p c=false∧walkF see a l p c=goW l see (newSt p c) a (ordF l)∧(goW l see (newSt p c) a (ordF l)).1=0∧∀ j,j < l.length→timesF l j c=true:=by
 have h1:=walkF_code see a l p c
 rw[h0] at h1
 cases hb:newBad p c with
 | true=>unfold walkF at h1;rw[hb] at h1;simp at h1
 | false =>
  unfold walkF at h1 ⊢
  rw[hb] at h1 ⊢
  simp only[Bool.false_eq_true,if_false] at h1 ⊢
  cases hf:firstBad l c with
  | some i=>rw [hf] at h1;simp only at h1;omega
  | none=>rw [hf] at h1;exact⟨trivial,rfl,h1,firstBad_all hf⟩
set_option maxHeartbeats 16000000 in
theorem refl_cond (l:List Ev)(p q:Int)(s:St)(hlen:(s.There.length:Int)=p)(a:Int)(j:Nat)(e:Ev)(Q:Ex→SL→Prop)
  (hK:∀ r L,(r=[]∨r=[(8000,0,bl false)])→L=rgT l p q s (if rfQ e p q s=true then max a e.Stamp else a) j ++ (bxE 13 e ++ r)→WL Try.prog fi68.nt c68_5 L Q):WL Try.prog fi68.nt c68_6 (rgT l p q s a j ++ bxE 13 e) Q:=by
 have mx:(if a < e.Stamp then e.Stamp else a)=max a e.Stamp:=by split<;>omega
 have yes:rfQ e p q s=true→∀ L,L=rgT l p q s a j ++ (bxE 13 e ++ [(8000,0,bl true)])→WL Try.prog fi68.nt c68_4 L (Ex.thenL (fun L'=>WL Try.prog fi68.nt c68_5 L' Q) Q):=fun h L hL=>by
  subst hL
  refine WL.cond (t:=true) (by simp) (fun _=>?_) (by simp)
  refine WL.reg (RL.run (by simp;rfl) ⟨_,by simp;rfl,hK [] _ (.inl rfl) ?_⟩)
  simp[h,mx]
 have no:rfQ e p q s=false→∀ L,L=rgT l p q s a j ++ (bxE 13 e ++ [(8000,0,bl false)])→WL Try.prog fi68.nt c68_4 L (Ex.thenL (fun L'=>WL Try.prog fi68.nt c68_5 L' Q) Q):=fun h L hL=>by
  subst hL
  refine WL.cond (t:=false) (by simp) (by simp) fun _=>WL.skip (hK _ _ (.inr rfl) ?_)
  simp[h]
 by_cases k1:0 < e.End
 ·by_cases k2:e.res.Code=0
  ·have k2':(e.res.Code == 0)=true:=by simp[k2]
   have tail:(decide (e.op.Kind=6) && decide (e.op.Page=q))=false→∀ (f6:Bool) (f7:Bool),(e.op.Kind == 6)=f6→(e.op.Page == q)=f7→WL Try.prog fi68.nt c68_6 (rgT l p q s a j ++ bxE 13 e) Q:=fun hz f6 f7 e6 e7=>by
    have hf:(f6 && f7)=false:=by
     rw[← e6,← e7]
     by_cases h1:e.op.Kind=6
     ·by_cases h2:e.op.Page=q
      ·simp[h1,h2] at hz
      ·simp[h2]
     ·simp[h1]
    by_cases k7:e.op.Kind=7
    ·have k7':(e.op.Kind == 7)=true:=by simp[k7]
     have f60:f6=false:=by rw[← e6];exact beq_false_of_ne (by omega)
     subst f60
     by_cases k3:0≤q
     ·obtain⟨n,rfl⟩:=Int.eq_ofNat_of_zero_le k3
      by_cases k4:(n:Int) < p
      ·have k5:n < s.There.length:=by omega
       have k5':n+1≤s.There.length:=k5
       cases k6:s.There[n] with
       | true=>refine WL.seq (WL.sreg (by simp[k1,k2',e6,k7',k4,k5,k5',k6];rfl) (by simp;rfl) (yes (by simp[rfQ,k1,k2,k7,k4,k5,k6]) _ (by simp)))
       | false=>refine WL.seq (WL.sreg (by simp[k1,k2',e6,k7',k4,k5,k5',k6];rfl) (by simp;rfl) (no (by simp[rfQ,k1,k2,k7,k4,k5,k6]) _ (by simp)))
      ·refine WL.seq (WL.sreg (by simp[k1,k2',e6,k7',k4];rfl) (by simp;rfl) (no (by simp[rfQ,k7,k4]) _ (by simp)))
     ·refine WL.seq (WL.sreg (by simp[k1,k2',e6,k7',k3];rfl) (by simp;rfl) (no (by simp[rfQ,k7,k3]) _ (by simp)))
    ·have k7':(e.op.Kind == 7)=false:=beq_false_of_ne k7
     have hno:rfQ e p q s=false:=by
      unfold rfQ;rw[hz];simp[k7]
     cases f6 with
     | false=>refine WL.seq (WL.sreg (by simp[k1,k2',e6,k7'];rfl) (by simp;rfl) (no hno _ (by simp)))
     | true =>
      simp only[Bool.true_and] at hf
      subst hf
      refine WL.seq (WL.sreg (by simp[k1,k2',e6,e7,k7'];rfl) (by simp;rfl) (no hno _ (by simp)))
   by_cases k6:e.op.Kind=6
   ·have k6':(e.op.Kind == 6)=true:=by simp[k6]
    by_cases kp:e.op.Page=q
    ·have kp':(e.op.Page == q)=true:=by simp[kp]
     refine WL.seq (WL.sreg (by simp[k1,k2',k6',kp'];rfl) (by simp;rfl) (yes (by simp[rfQ,k1,k2,k6,kp]) _ (by simp)))
    ·exact tail (by simp[kp]) _ _ k6' (beq_false_of_ne kp)
   ·exact tail (by simp[k6]) _ _ (beq_false_of_ne k6) rfl
  ·have k2':(e.res.Code == 0)=false:=beq_false_of_ne k2
   refine WL.seq (WL.sreg (by simp[k1,k2'];rfl) (by simp;rfl) (no (by simp[rfQ,k2]) _ (by simp)))
 ·refine WL.seq (WL.sreg (by simp[k1];rfl) (by simp;rfl) (no (by simp[rfQ,k1]) _ (by simp)))
set_option maxHeartbeats 16000000 in
theorem refflush_fn (l:List Ev)(hE:EvOk l)(p c q:Int):FnC Try.prog 68 [] [sEv l,i64 p,i64 c,i64 q] [] (i64 (flushF l p c q)):=by
 have hn:=hE.n
 have hOl:=ordF_len l
 have hchk:=refchk_fn l hE p c
 refine FnC.go ok68 rfl ?_
 refine WL.sreg (by simp;rfl) (by simp;rfl) ?_
 refine WL.seq (WL.sregC (RL.o (by simp;rfl) (RL.call0 false hchk (by simp) (by simp) ?_)))
 by_cases h0:chkF l p c=0
 ·have z:(chkF l p c != 0)=false:=by simp[h0]
  refine RL.o (by simp[z];rfl) (RL.nil ⟨_,by simp;rfl,?_⟩)
  refine WL.cond (t:=false) (by simp) (by simp) fun _=>WL.skip ?_
  obtain⟨hb,hw,hg0,htm⟩:=walk_goW (seeF l q) 0 h0
  have eF:flushF l p c q=(goW l (seeF l q) (newSt p c) 0 (ordF l)).2.2:=by unfold flushF;rw[if_neg (by simpa using h0),hw]
  rw[eF]
  have hok:=newSt_ok' hb
  have hlen0:((newSt p c).There.length:Int)=p:=by
   have:1≤p:=by
    simp only[newBad,Bool.or_eq_false_iff,decide_eq_false_iff_not] at hb
    omega
   have e:newSt p c=⟨List.replicate p.toNat false,List.replicate p.toNat z16,List.replicate c.toNat [-1,-1,-1,-1,-1,-1]⟩:=by unfold newSt;rw[hb];rfl
   rw[e];simp;omega
  refine WL.sregC (RL.o (by simp;rfl) (RL.call0 false (refnew_fn p c) (by simp) (by simp) (RL.o (by simp;rfl) (RL.nil ⟨_,by simp;rfl,?_⟩))))
  clear hw z hchk hb eF
  generalize newSt p c=s0 at hok hg0 hlen0 ⊢
  refine WL.sregC (RL.o (by simp;rfl) (RL.call0 false (reforder_fn l hn) (by simp) (by simp) (RL.o (by simp;rfl) (RL.nil ⟨_,by simp;rfl,?_⟩))))
  refine WL.sreg (by simp;rfl) (by simp;rfl) ?_
  refine WL.seq (WL.sreg (by simp;rfl) (by simp;rfl) ?_)
  refine WL.block (WL.loop (ι:={x:Nat × St × Int // x.1≤(ordF l).length∧OkSt x.2.1∧(x.2.1.There.length:Int)=p∧(goW l (seeF l q) x.2.1 x.2.2 ((ordF l).drop x.1)).1=0∧(goW l (seeF l q) x.2.1 x.2.2 ((ordF l).drop x.1)).2.2=(goW l (seeF l q) s0 0 (ordF l)).2.2}) (fun x=>rgT l p q x.1.2.1 x.1.2.2 x.1.1) (fun x=>(ordF l).length - x.1.1) ⟨(0,s0,0),Nat.zero_le _,hok,hlen0,hg0,rfl⟩ (by simp) fun x=>?_)
  obtain⟨⟨j,s,a⟩,hj,hs,hlen,hg1,hg2⟩:=x
  simp only at hj hs hlen hg1 hg2 ⊢
  by_cases hlt:j < (ordF l).length
  ·obtain⟨u,hu,eu⟩:=ordF_at hlt
   have f1:=fmE_drop (o:=false) (r:=false) hu
   have g1:14≤l.length * 14 - u * 14:=by omega
   have hlt':j+1≤(ordF l).length:=hlt
   have w:IntKind.wrap .i64 ((j:Int)+1)=((j+1:Nat):Int):=by rw[wrap_small (by omega) (by omega)];omega
   have hE0:=times_end hu (htm u hu)
   have hst:=refstp_fn s hs l[u] hE0 (hE.d _ (List.getElem_mem hu))
   have hsee:=rfQ_eq l p q s hlen a u hu
   have htl:=stepR_tlen s l[u]
   have hok:=stepR_ok hs l[u]
   rw[List.drop_eq_getElem_cons hlt] at hg1 hg2
   simp only[goW,eu,atE_at hu] at hg1 hg2
   generalize stepR s l[u]=dd at hst hg1 hg2 hok hsee htl
   obtain⟨v,t⟩:=dd
   simp only at hst hg1 hg2 hok hsee htl
   cases v with
   | false=>simp only[Bool.false_eq_true,if_false] at hg1;omega
   | true =>
    simp only[if_true] at hg1 hg2
    have hsee:=hsee rfl
    refine WL.seq (WL.sreg (by simp[hlt];rfl) (by simp;rfl) ?_)
    refine WL.cond (t:=true) (by simp[hlt]) (fun _=>WL.skip ?_) (by simp)
    refine WL.seq (WL.block ?_)
    refine WL.sreg (by simp[hlt,hlt',eu,hu,f1,g1];rfl) (by simp;rfl) ?_
    refine WL.eqL (L':=rgT l p q s a j ++ bxE 13 l[u]) (by simp) (refl_cond l p q s hlen a j l[u] _ fun r L hr hL=>?_)
    subst hL
    rw[← hsee]
    generalize seeF l q a u t=b at hg1 hg2 ⊢
    have fin:∀ L',L'=rgT l p q t b j→WL Try.prog fi68.nt c68_7 L' (Ex.thenL (fun L'=>∃ i:{x:Nat × St × Int // x.1≤(ordF l).length∧OkSt x.2.1∧(x.2.1.There.length:Int)=p∧(goW l (seeF l q) x.2.1 x.2.2 ((ordF l).drop x.1)).1=0∧(goW l (seeF l q) x.2.1 x.2.2 ((ordF l).drop x.1)).2.2=(goW l (seeF l q) s0 0 (ordF l)).2.2},L'=rgT l p q i.1.2.1 i.1.2.2 i.1.1∧(ordF l).length - i.1.1 < (ordF l).length - j) (Ex.blkL 0 (Ex.thenL (fun L'=>WL Try.prog fi68.nt c68_11 L' fun e L=>(e=Ex.nrm∨e=Ex.ret)∧RetOk fi68.rs [] (i64 (goW l (seeF l q) s0 0 (ordF l)).2.2) L) fun e L=>(e=Ex.nrm∨e=Ex.ret)∧RetOk fi68.rs [] (i64 (goW l (seeF l q) s0 0 (ordF l)).2.2) L))):=fun L' hL'=>by
     subst hL'
     refine WL.reg (RL.run (by simp[w];rfl) ⟨_,by simp;rfl,?_⟩)
     exact⟨⟨(j+1,t,b),hlt,hok,by rw[htl];exact hlen,hg1,hg2⟩,by simp,by simp only;omega⟩
    rcases hr with rfl | rfl
    ·refine WL.reg (RL.o (by simp;rfl) (RL.call true [(901,[]),(902,[]),(903,[])] hst (by simp) (by simp) (by simp[gkey]) (side_stp t s) (RL.nil ⟨_,by simp;rfl,fin _ (by simp)⟩)))
    ·refine WL.reg (RL.o (by simp;rfl) (RL.call true [(901,[]),(902,[]),(903,[])] hst (by simp) (by simp) (by simp[gkey]) (side_stp t s) (RL.nil ⟨_,by simp;rfl,fin _ (by simp)⟩)))
  ·obtain rfl:j=(ordF l).length:=by omega
   rw[List.drop_length] at hg2
   simp only[goW] at hg2
   refine WL.seq (WL.sreg (by simp;rfl) (by simp;rfl) ?_)
   refine WL.cond (t:=false) (by simp) (by simp) fun _=>WL.exit ?_
   refine WL.sreg (by simp;rfl) (by simp;rfl) (WL.ret ⟨.inr rfl,?_⟩)
   simp[fi68,← hg2]
 ·have z:(chkF l p c != 0)=true:=by simp[h0]
  have er:flushF l p c q=-1:=by unfold flushF;rw[if_pos h0]
  refine RL.o (by simp[z];rfl) (RL.nil ⟨_,by simp;rfl,?_⟩)
  refine WL.cond (t:=true) (by simp) (fun _=>?_) (by simp)
  refine WL.sreg (by simp;rfl) (by simp;rfl) (WL.ret ⟨.inr rfl,?_⟩)
  simp[fi68,er]
end Go.OT
namespace Go.OT
open Go.Proofs
def wrF (e:Ev)(s:St)(p:Int):Bool:=decide (e.op.Kind=4) && (decide (0≤e.op.Handle) && (decide (e.op.Handle < 6) && decide ((s.Handles.getD e.Client.toNat []).getD e.op.Handle.toNat 0=p)))
set_option maxHeartbeats 16000000 in
theorem wrote_fn (e:Ev)(s:St)(h:OkSt s)(hc0:0≤e.Client)(hc1:e.Client < s.Handles.length)(p:Int):FnC Try.prog 155 [] [.agg (cellsEv false false e),encS false s,i64 p] [] (bl (wrF e s p)):=by
 obtain⟨c,hc⟩:=Int.eq_ofNat_of_zero_le hc0
 have hcl:c < s.Handles.length:=by omega
 have hcl':c+1≤s.Handles.length:=hcl
 have h6:s.Handles[c].length=6:=h.l6 _ (List.getElem_mem hcl)
 refine FnC.go ok155 rfl ?_
 refine WL.sreg (by simp;rfl) (by simp;rfl) ?_
 refine WL.sreg (by simp;rfl) (by simp;rfl) ?_
 by_cases k4:e.op.Kind=4
 ·have k4':(e.op.Kind == 4)=true:=by simp[k4]
  by_cases k1:0≤e.op.Handle
  ·obtain⟨n,hn⟩:=Int.eq_ofNat_of_zero_le k1
   by_cases k2:n < 6
   ·have k2':(n:Int) < 6:=by omega
    have k2s:n+1≤6:=k2
    refine WL.sreg (by simp[k4',hn,k2,k2',k2s,hc,hcl,hcl',h6];rfl) (by simp;rfl) (WL.ret ⟨.inr rfl,?_⟩)
    simp[fi155,wrF,k4,hn,k2',hc,hcl,k2,h6]
    rfl
   ·have k2':¬ (n:Int) < 6:=by omega
    refine WL.sreg (by simp[k4',hn,k2,k2'];rfl) (by simp;rfl) (WL.ret ⟨.inr rfl,?_⟩)
    simp[fi155,wrF,k4,hn,k2']
  ·refine WL.sreg (by simp[k4',k1];rfl) (by simp;rfl) (WL.ret ⟨.inr rfl,?_⟩)
   simp[fi155,wrF,k1]
 ·have k4':(e.op.Kind == 4)=false:=beq_false_of_ne k4
  refine WL.sreg (by simp[k4'];rfl) (by simp;rfl) (WL.ret ⟨.inr rfl,?_⟩)
  simp[fi155,wrF,k4]
end Go.OT
namespace Go.OT
open Go.Proofs
def mayF (bs:List (List UInt8))(b:List UInt8):Bool:=bs.any (· == b) || (bs.any (fun x=>x.take 4 == b.take 4) && bs.any (fun x=>x.drop 4 == b.drop 4))
abbrev myS (bs:List (List UInt8))(b:List UInt8)(f r:Bool)(i:Nat):SL:=[(100,0,sU false b),(500,0,bl f),(600,0,bl r),(1000,0,sUU false bs),(1100,0,i64 bs.length),(1200,0,i64 i)]
abbrev myQ (v:Bool):Ex→SL→Prop:=fun e L=>e=Ex.ret∧RetOk fi118.rs [] (bl v) L
set_option maxHeartbeats 16000000 in
theorem mayp_fn (bs:List (List UInt8))(hn:bs.length≤100000)(h16:∀ x ∈ bs,x.length=16)(tn:Bool)(b:List UInt8)(hb:b.length=16):FnC Try.prog 118 [] [.agg [sUU false bs,bl tn],sU false b] [] (bl (mayF bs b)):=by
 refine FnC.go ok118 rfl ?_
 refine WL.mono (Q':=myQ (mayF bs b)) ?_ fun e L h=>⟨.inr h.1,h.2⟩
 refine WL.sreg (by simp;rfl) (by simp;rfl) ?_
 refine WL.scope (WL.sreg (by simp;rfl) (by simp;rfl) ?_)
 refine WL.seq (WL.label ?_)
 refine WL.seq (WL.sreg (by simp;rfl) (by simp;rfl) ?_)
 refine WL.block (WL.count bs.length (fun i=>myS bs b ((bs.take i).any (fun x=>x.take 4 == b.take 4)) ((bs.take i).any (fun x=>x.drop 4 == b.drop 4)) i) (fun i=>(bs.take i).any (· == b)=false) (by simp) (by simp) fun i hi hno=>?_)
 by_cases h:i < bs.length
 ·have w:IntKind.wrap .i64 ((i:Int)+1)=((i+1:Nat):Int):=by rw[wrap_small (by omega) (by omega)];omega
  have hx:=h16 _ (List.getElem_mem h)
  have e1:∀ p:List UInt8→Bool,(bs.take (i+1)).any p=((bs.take i).any p || p bs[i]):=fun p=>by
   rw[List.take_succ_eq_append_getElem h,List.any_append];simp
  have heq:=bytes_equal bs[i] b
  have ha:=bytes_equal (bs[i].take 4) (b.take 4)
  have hz:=bytes_equal (bs[i].drop 4) (b.drop 4)
  rw[e1,e1,e1]
  have hany:bs.any (· == b)=true∨(bs[i] == b)=false:=by
   cases hq:(bs[i] == b) with
   | false=>exact .inr rfl
   | true=>exact .inl (List.any_eq_true.2 ⟨_,List.getElem_mem h,hq⟩)
  generalize (bs.take i).any (fun x=>x.take 4 == b.take 4)=f
  generalize (bs.take i).any (fun x=>x.drop 4 == b.drop 4)=r
  clear e1
  generalize hbx:bs[i]=x at hx hany heq ha hz ⊢
  have t1:List.take 4 (List.map (fun b=>u8 (b.toNat:Int)) x)=bm (x.take 4):=by rw[bm,List.map_take]
  have t2:List.take 4 (List.map (fun b=>u8 (b.toNat:Int)) b)=bm (b.take 4):=by rw[bm,List.map_take]
  have t3:List.take 12 (List.drop 4 (List.map (fun b=>u8 (b.toNat:Int)) x))=bm (x.drop 4):=by rw[bm,List.map_drop,List.take_of_length_le (by simp[hx])]
  have t4:List.take 12 (List.drop 4 (List.map (fun b=>u8 (b.toNat:Int)) b))=bm (b.drop 4):=by rw[bm,List.map_drop,List.take_of_length_le (by simp[hb])]
  have l1:(x.take 4).length=4:=by simp[hx]
  have l2:(b.take 4).length=4:=by simp[hb]
  have l3:(x.drop 4).length=12:=by simp[hx]
  have l4:(b.drop 4).length=12:=by simp[hb]
  refine WL.sreg (by simp[h];rfl) (by simp;rfl) ?_
  refine WL.seq (WL.cond (t:=true) (by simp[h]) (fun _=>WL.skip ?_) (by simp))
  refine WL.seq (WL.block (WL.sreg (by simp[h,hbx];rfl) (by simp;rfl) ?_))
  refine WL.seq (WL.sregC (RL.o (by simp;rfl) (RL.call0 false heq (by simp) (by simp) (RL.nil ⟨_,by simp;rfl,?_⟩))))
  cases q0:(x == b) with
  | true =>
   refine WL.cond (t:=true) (by simp[q0]) (fun _=>?_) (by simp)
   refine WL.sreg (by simp;rfl) (by simp;rfl) (WL.ret ⟨rfl,?_⟩)
   have:mayF bs b=true:=by
    rcases hany with hany | hany
    ·simp[mayF,hany]
    ·rw[q0] at hany;cases hany
   simp[fi118,this]
  | false =>
   refine WL.cond (t:=false) (by simp[q0]) (by simp) fun _=>WL.skip ?_
   refine WL.seq (WL.seq ?_)
   generalize x.take 4=xa at *
   generalize b.take 4=ba at *
   generalize x.drop 4=xd at *
   generalize b.drop 4=bd at *
   have hno':(((bs.take i).any fun x=>x == b) || false)=false:=by rw[hno];rfl
   have last:∀ f',f'=(f || xa == ba)→∀ L,L=[(100,0,sU false b),(500,0,bl f'),(600,0,bl r),(800,0,sU false x),(1000,0,sUU false bs),(1100,0,i64 bs.length),(1200,0,i64 i)]→∀ Q,(∀ L',L'=myS bs b (f || xa == ba) (r || xd == bd) (i+1)→Q Ex.nrm L') →
     WL Try.prog fi118.nt c118_6 L (Ex.blkL 1 (Ex.thenL (fun L'=>WL Try.prog fi118.nt c118_9 L' Q) Q)):=fun f' hf L hL Q hQ=>by
    subst hL hf
    refine WL.seq (WL.seq (WL.draw mixed (by simp[cleanL,noH]) (DL.o (by simp[hx,hb,t3,t4];exact⟨rfl,rfl⟩) (DL.call0 false hz (by simp[l3,l4]) (by simp) (DL.o (by simp;exact⟨rfl,rfl⟩) (DL.nil ⟨by kernel_rfl,_,by simp;rfl,?_⟩))))))
    cases q2:(xd == bd) with
    | true =>
     refine WL.cond (t:=false) (by simp) (by simp) fun _=>WL.skip ?_
     refine WL.reg (RL.run (by simp;rfl) ⟨_,by simp;rfl,?_⟩)
     refine WL.reg (RL.run (by simp[w];rfl) ⟨_,by simp;rfl,hQ _ (by simp[q2])⟩)
    | false =>
     refine WL.cond (t:=true) (by simp) (fun _=>WL.fin [29] (by simp;rfl) (WL.exit ?_)) (by simp)
     refine WL.reg (RL.run (by simp[w];rfl) ⟨_,by simp;rfl,hQ _ (by simp[q2])⟩)
   refine WL.draw mixed (by simp[cleanL,noH]) (DL.o (by simp[hx,hb,t1,t2];exact⟨rfl,rfl⟩) (DL.call0 false ha (by simp[l1,l2]) (by simp) (DL.nil ⟨by kernel_rfl,_,by simp;rfl,?_⟩)))
   cases q1:(xa == ba) with
   | true =>
    refine WL.cond (t:=true) (by simp[q1]) (fun _=>?_) (by simp)
    refine WL.reg (RL.run (by simp;rfl) ⟨_,by simp;rfl,?_⟩)
    refine last true (by simp[q1]) _ (by simp[hx]) _ fun L' hL'=>⟨h,?_,hno'⟩
    rw[hL',q1]
   | false =>
    refine WL.cond (t:=false) (by simp[q1]) (by simp) fun _=>WL.skip ?_
    refine WL.fin [23] (by simp;rfl) (last f (by simp[q1]) _ (by simp[hx]) _ fun L' hL'=>⟨h,?_,hno'⟩)
    rw[hL',q1]
 ·obtain rfl:i=bs.length:=by omega
  rw[List.take_length] at hno ⊢
  refine WL.sreg (by simp;rfl) (by simp;rfl) ?_
  refine WL.seq (WL.cond (t:=false) (by simp) (by simp) fun _=>WL.exit ?_)
  have hv:mayF bs b=(bs.any (fun x=>x.take 4 == b.take 4) && bs.any (fun x=>x.drop 4 == b.drop 4)):=by unfold mayF;rw[hno];rfl
  rw[hv]
  generalize bs.any (fun x=>x.take 4 == b.take 4)=f
  generalize bs.any (fun x=>x.drop 4 == b.drop 4)=r
  cases f<;>refine WL.sreg (by simp;rfl) (by simp;rfl) (WL.ret ⟨rfl,?_⟩)<;>simp [fi118]
end Go.OT
namespace Go.OT
open Go.Proofs
structure SeeN {σ:Type} (l:List Ev) (c:Int) (f:Nat) (cps:List AU) (B D:σ→List AU) (see:σ→Int→St→σ) (Inv:Nat→σ→St→Prop):Prop where
 no:noOwnL cps=true
 root:rootRL (Sh.two.ks.map (·.1)) cps=true
 roots:rootsL cps=Sh.two.ks.map (·.1)
 len:cps.length≤1000
 tr:∀ (X:XF Unit) (k:Nat),(∀ e ∈ Sh.two.ks,(X e.1).1=0∧∃ b,(X e.1).2=.bx true () b)→trL X Sh.two.ks false k cps=some cps
 inv:∀ j a s (u:Nat) (hu:u < l.length),timesF l u c=true→OkSt s→Inv j a s→(stepR s l[u]).1=true→Inv (j+1) (see a u (stepR s l[u]).2) (stepR s l[u]).2
 fn:∀ j a s (u:Nat) (hu:u < l.length),j < l.length→timesF l u c=true→OkSt s→Inv j a s→(stepR s l[u]).1=true →
  FnC Try.prog f (Sh.two.gs (B a) (D a)) ([i64 u,encS false (stepR s l[u]).2] ++ cps) (Sh.two.gs (B (see a u (stepR s l[u]).2)) (D (see a u (stepR s l[u]).2))) (.tuple [])
section
variable {σ:Type} {l:List Ev} {c:Int} {f:Nat} {cps:List AU} {B D:σ→List AU} {see:σ→Int→St→σ} {Inv:Nat→σ→St→Prop}
theorem walk_seeN (hS:SeeN l c f cps B D see Inv)(s:St)(h:OkSt s)(a:σ)(j0:Nat)(hj0:j0 < l.length)(hi:Inv j0 a s)(u:Nat)(hu:u < l.length)(ht:timesF l u c=true)(hr:(stepR s l[u]).1=true)(j:Nat)(K:SL→Prop)
  (hK:K (wkT l (Sh.two.fv f cps) (stepR s l[u]).2 j (Sh.two.gh (B (see a u (stepR s l[u]).2)) (D (see a u (stepR s l[u]).2))))) :
  WL Try.prog fi88.nt c88_17 ([(0,0,sEv l),(300,0,Sh.two.fv f cps)] ++ (rcF 9 (stepR s l[u]).2 ++ ([(1200,0,i64 u),(3600,0,sI true (ordF l)),(3700,0,i64 (ordF l).length),(3800,0,i64 j)] ++ Sh.two.gh (B a) (D a)))) (fun e L=>(e=.nrm∨e=.ext 3)∧K L):=by
 have e1:=hS.no
 have e2:=hS.root
 have e3:=hS.tr
 have e4:=hS.len
 have e5:=hS.roots
 have hf:=hS.fn j0 a s u hu hj0 ht h hi hr
 generalize (stepR s l[u]).2=t at *
 simp at e2 e3 e5 hf
 refine WL.seq (WL.sreg (by simp[e1];rfl) (by simp[e5];rfl) ?_)
 refine WL.cond (t:=false) (by simp) (by simp) fun _=>WL.skip ?_
 refine WL.reg (RL.o (by simp[e1];rfl) (RL.cloK (f:=f) (cps:=cps) false [(1000000,[]),(1000100,[])] (by simp) hf (by simp) (by simp) ?_ (by simp;omega) ?_ ?_ (RL.nil ⟨_,by simp[e5];rfl,?_⟩)))
 ·simp[e1]
  rw[e3 _ _ (by simp) _ (by simp;rfl) (by simp) _ (by simp;rfl)]
  simp
 ·simp
 ·simp[e2]
 ·simpa using hK
set_option maxHeartbeats 16000000 in
theorem walk_stepsTN (hE:EvOk l)(hS:SeeN l c f cps B D see Inv)(s0:St)(h0:OkSt s0)(a0:σ)(i0:Inv 0 a0 s0)(hT:∀ j,j < l.length→timesF l j c=true)(n:Nat) :
  WL Try.prog fi88.nt c88_27 (wkS l c (Sh.two.fv f cps) s0 ([(2300,0,i64 n),(2400,0,i64 n),(2500,0,bl false)] ++ Sh.two.gh (B a0) (D a0))) (wkQ (Sh.two.gs (B (goW l see s0 a0 (ordF l)).2.2) (D (goW l see s0 a0 (ordF l)).2.2)) (goW l see s0 a0 (ordF l)).1):=by
 have hn:=hE.n
 have hOl:=ordF_len l
 have e1:=hS.no
 have e5:=hS.roots
 simp at e5
 have hsee:=fun s h a j0 hj0 hi u hu ht hr j=>walk_seeN hS s h a j0 hj0 hi u hu ht hr j
 have hI:=fun j a s u hu ht h hi hr=>hS.inv j a s u hu ht h hi hr
 refine WL.seq (WL.sregC (RL.o (by simp;rfl) (RL.call0 false (order_fn l hn) (by simp) (by simp) (RL.o (by simp;rfl) (RL.nil ⟨_,by simp[e5];rfl,?_⟩)))))
 refine WL.block (WL.loop (ι:={x:Nat × St × σ // x.1≤(ordF l).length∧OkSt x.2.1∧Inv x.1 x.2.2 x.2.1∧goW l see x.2.1 x.2.2 ((ordF l).drop x.1)=goW l see s0 a0 (ordF l)}) (fun x=>wkT l (Sh.two.fv f cps) x.1.2.1 x.1.1 (Sh.two.gh (B x.1.2.2) (D x.1.2.2))) (fun x=>(ordF l).length - x.1.1) ⟨(0,s0,a0),Nat.zero_le _,h0,i0,rfl⟩ (by simp) fun x=>?_)
 obtain⟨⟨j,s,a⟩,hj,hs,hia,hg⟩:=x
 simp only at hj hs hg hia ⊢
 by_cases hlt:j < (ordF l).length
 ·obtain⟨u,hu,eu⟩:=ordF_at hlt
  have f1:=fmE_drop (o:=false) (r:=false) hu
  have g1:14≤l.length * 14 - u * 14:=by omega
  have hlt':j+1≤(ordF l).length:=hlt
  have w:IntKind.wrap .i64 ((j:Int)+1)=((j+1:Nat):Int):=by rw[wrap_small (by omega) (by omega)];omega
  have w2:IntKind.wrap .i64 ((u:Int)+1)=(u:Int)+1:=by rw[wrap_small (by omega) (by omega)]
  have hE0:=times_end hu (hT u hu)
  have hse:=hsee s hs a j (by omega) hia u hu (hT u hu)
  have hI':=hI j a s u hu (hT u hu) hs hia
  rw[List.drop_eq_getElem_cons hlt] at hg
  simp only[goW,eu,atE_at hu] at hg
  have hok:=stepR_ok hs l[u]
  have tail:∀ t,stepW s l[u]=some t→∀ Q,(∀ e,(e=.nrm∨e=.ext 3)→Q e (wkT l (Sh.two.fv f cps) t j (Sh.two.gh (B (see a u t)) (D (see a u t)))))→WL Try.prog fi88.nt c88_17 ([(0,0,sEv l),(300,0,Sh.two.fv f cps)] ++ (rcF 9 t ++ ([(1200,0,i64 u),(3600,0,sI true (ordF l)),(3700,0,i64 (ordF l).length),(3800,0,i64 j)] ++ Sh.two.gh (B a) (D a)))) Q:=by
   intro t ht Q hQ
   obtain⟨q1,q2⟩:=stepW_some hE0 ht
   have:=hse q1 j (fun L=>L=wkT l (Sh.two.fv f cps) t j (Sh.two.gh (B (see a u t)) (D (see a u t)))) (by rw[q2])
   rw[q2] at this
   refine WL.mono this ?_
   rintro e L ⟨he,rfl⟩
   exact hQ e he
  refine WL.sreg (by simp[hlt];rfl) (by simp[e5];rfl) ?_
  refine WL.seq (WL.cond (t:=true) (by simp[hlt]) (fun _=>WL.skip ?_) (by simp))
  refine WL.seq (WL.block (WL.sreg (by simp[hlt,hlt',eu];rfl) (by simp[e5];rfl) ?_))
  refine WL.sreg (by simp[hlt,hlt',eu,hu,f1,g1];rfl) (by simp[e5];rfl) ?_
  refine WL.sregC (RL.o (by simp;rfl) (RL.doC s hs.sized l[u].Client l[u].op (by simp) (RL.o (by simp;rfl) (RL.nil ⟨_,by simp[e5];rfl,?_⟩))))
  have adv:∀ t,stepW s l[u]=some t→∀ Q,(∀ L,(∃ y:{x:Nat × St × σ // x.1≤(ordF l).length∧OkSt x.2.1∧Inv x.1 x.2.2 x.2.1∧goW l see x.2.1 x.2.2 ((ordF l).drop x.1)=goW l see s0 a0 (ordF l)},L=wkT l (Sh.two.fv f cps) y.1.2.1 y.1.1 (Sh.two.gh (B y.1.2.2) (D y.1.2.2))∧(ordF l).length - y.1.1 < (ordF l).length - j)→Q Ex.nrm L)→WL Try.prog fi88.nt c88_21 (wkT l (Sh.two.fv f cps) t j (Sh.two.gh (B (see a u t)) (D (see a u t)))) Q:=by
   intro t ht Q hQ
   obtain⟨q1,q2⟩:=stepW_some hE0 ht
   have hI2:=hI' q1
   rw[q1] at hg
   simp only[if_true] at hg
   rw[q2] at hg hI2 hok
   refine WL.reg (RL.run (by simp[w];rfl) ⟨_,by simp[e5];rfl,hQ _ ?_⟩)
   exact⟨⟨(j+1,t,see a u t),hlt,hok,hI2,hg⟩,by simp,by simp only;omega⟩
  refine WL.seq ?_
  by_cases p:l[u].End=0
  ·have z:(l[u].End == 0)=true:=by simp[p]
   have ht:stepW s l[u]=some (DoB s l[u].Client l[u].op).2.1:=by simp[stepW,p]
   refine WL.block (WL.sregC (RL.o (by simp[z];rfl) (RL.g (by simp;rfl) (RL.callN (by simp) (RL.o (by simp;rfl) (RL.nil ⟨_,by simp[e5];rfl,?_⟩))))))
   refine WL.cond (t:=true) (by simp) (fun _=>?_) (by simp)
   refine WL.reg (RL.run (by simp;rfl) ⟨_,by simp[e5];rfl,?_⟩)
   refine tail _ ht _ ?_
   intro e he
   rcases he with rfl | rfl
   ·exact adv _ ht _ fun L h=>h
   ·exact adv _ ht _ fun L h=>h
  ·have z:(l[u].End == 0)=false:=beq_false_of_ne p
   have hsr:=sameres_fn (DoB s l[u].Client l[u].op).2.2 l[u].res
   cases hv:SameRes (DoB s l[u].Client l[u].op).2.2 l[u].res with
   | true =>
    rw[hv] at hsr
    have ht:stepW s l[u]=some (DoB s l[u].Client l[u].op).2.1:=by simp[stepW,hv]
    refine WL.block (WL.sregC (RL.o (by simp[z];rfl) (RL.g (by simp;rfl) (RL.callY0 false (by simp) hsr (by simp) (by simp) (RL.o (by simp;rfl) (RL.nil ⟨_,by simp[e5];rfl,?_⟩))))))
    refine WL.cond (t:=true) (by simp) (fun _=>?_) (by simp)
    refine WL.reg (RL.run (by simp;rfl) ⟨_,by simp[e5];rfl,?_⟩)
    refine tail _ ht _ ?_
    intro e he
    rcases he with rfl | rfl
    ·exact adv _ ht _ fun L h=>h
    ·exact adv _ ht _ fun L h=>h
   | false =>
    rw[hv] at hsr
    refine WL.block (WL.sregC (RL.o (by simp[z];rfl) (RL.g (by simp;rfl) (RL.callY0 false (by simp) hsr (by simp) (by simp) (RL.o (by simp;rfl) (RL.nil ⟨_,by simp[e5];rfl,?_⟩))))))
    refine WL.cond (t:=false) (by simp) (by simp) fun _=>?_
    have hb:=bad_fn l[u].op l[u].res.Code
    have hp:=sameres_fn l[u].res (rsE l[u].res.Code)
    cases hbad:badF l[u].op.Kind l[u].res.Code with
    | false =>
     rw[hbad] at hb
     have ht:stepW s l[u]=none:=by simp[stepW,p,hv,hbad]
     have hr:=stepW_none hE0 ht
     rw[hr] at hg
     simp only[Bool.false_eq_true,if_false] at hg
     refine WL.sregC (RL.o (by simp;rfl) (RL.call0 false hb (by simp) (by simp) (RL.o (by simp;rfl) (RL.g (by simp;rfl) (RL.callN (by simp) (RL.g (by simp;rfl) (RL.o (by simp;rfl) (RL.nil ⟨_,by simp[e5];rfl,?_⟩))))))))
     refine WL.cond (t:=true) (by simp) (fun _=>?_) (by simp)
     refine WL.sreg (by simp[w2];rfl) (by simp[e5];rfl) (WL.ret ⟨rfl,?_⟩)
     simp[fi88,← hg]
    | true =>
     rw[hbad] at hb
     cases hpl:SameRes l[u].res (rsE l[u].res.Code) with
     | false =>
      rw[hpl] at hp
      have ht:stepW s l[u]=none:=by simp[stepW,p,hv,hbad,hpl]
      have hr:=stepW_none hE0 ht
      rw[hr] at hg
      simp only[Bool.false_eq_true,if_false] at hg
      refine WL.sregC (RL.o (by simp;rfl) (RL.call0 false hb (by simp) (by simp) (RL.o (by simp;rfl) (RL.g (by simp;rfl) (RL.nilA 80 3 1 (by simp;rfl) rfl rfl (RL.callY0 false (by simp) hp (by simp[rsE]) (by simp) (RL.g (by simp;rfl) (RL.o (by simp;rfl) (RL.nil ⟨_,by simp[e5];rfl,?_⟩)))))))))
      refine WL.cond (t:=true) (by simp) (fun _=>?_) (by simp)
      refine WL.sreg (by simp[w2];rfl) (by simp[e5];rfl) (WL.ret ⟨rfl,?_⟩)
      simp[fi88,← hg]
     | true =>
      rw[hpl] at hp
      have ht:stepW s l[u]=some s:=by simp[stepW,p,hv,hbad,hpl]
      refine WL.sregC (RL.o (by simp;rfl) (RL.call0 false hb (by simp) (by simp) (RL.o (by simp;rfl) (RL.g (by simp;rfl) (RL.nilA 80 3 1 (by simp;rfl) rfl rfl (RL.callY0 false (by simp) hp (by simp[rsE]) (by simp) (RL.g (by simp;rfl) (RL.o (by simp;rfl) (RL.nil ⟨_,by simp[e5];rfl,?_⟩)))))))))
      refine WL.cond (t:=false) (by simp) (by simp) fun _=>WL.skip ?_
      refine WL.fin [66] (by simp[e5]) (tail _ ht _ ?_)
      intro e he
      rcases he with rfl | rfl
      ·exact adv _ ht _ fun L h=>h
      ·exact adv _ ht _ fun L h=>h
 ·obtain rfl:j=(ordF l).length:=by omega
  rw[List.drop_length] at hg
  simp only[goW] at hg
  refine WL.sreg (by simp;rfl) (by simp[e5];rfl) ?_
  refine WL.seq (WL.cond (t:=false) (by simp) (by simp) fun _=>WL.exit ?_)
  refine WL.sreg (by simp;rfl) (by simp[e5];rfl) (WL.ret ⟨rfl,?_⟩)
  simp[fi88,← hg]
set_option maxHeartbeats 16000000 in
theorem walk_fnTN (hE:EvOk l)(hS:SeeN l c f cps B D see Inv)(p:Int)(a:σ)(hI:newBad p c=false→Inv 0 a (newSt p c)) :
  FnC Try.prog 88 (Sh.two.gs (B a) (D a)) [sEv l,i64 p,i64 c,Sh.two.fv f cps] (Sh.two.gs (B (walkF see a l p c).2.2) (D (walkF see a l p c).2.2)) (i64 (walkF see a l p c).1):=by
 have hn:=hE.n
 have e5:=hS.roots
 simp at e5
 have hms:=may_fn (newSt p c) (newSt_sized p c)
 rw[May_new] at hms
 refine FnC.go ok88 rfl ?_
 refine WL.mono (Q':=wkQ (Sh.two.gs (B (walkF see a l p c).2.2) (D (walkF see a l p c).2.2)) (walkF see a l p c).1) ?_ fun x L h=>⟨.inr h.1,h.2⟩
 refine WL.sreg (by simp;rfl) (by simp[e5];rfl) ?_
 refine WL.scope ?_
 refine WL.sregC (RL.o (by simp;rfl) (RL.newC p c (by simp) (RL.o (by simp;rfl) (RL.nil ⟨_,by simp[e5];rfl,?_⟩))))
 cases hb:newBad p c with
 | true =>
  rw[hb] at hms
  refine WL.seq (WL.sregC (RL.o (by simp;rfl) (RL.call0 false hms (by simp) (by simp) (RL.o (by simp;rfl) (RL.nil ⟨_,by simp[e5];rfl,?_⟩)))))
  refine WL.cond (t:=true) (by simp) (fun _=>?_) (by simp)
  refine WL.sreg (by simp;rfl) (by simp[e5];rfl) (WL.ret ⟨rfl,?_⟩)
  simp[fi88,walkF,hb]
 | false =>
  rw[hb] at hms
  have hok:=newSt_ok' hb
  have i0:=hI hb
  refine WL.seq (WL.sregC (RL.o (by simp;rfl) (RL.call0 false hms (by simp) (by simp) (RL.o (by simp;rfl) (RL.nil ⟨_,by simp[e5];rfl,?_⟩)))))
  refine WL.cond (t:=false) (by simp) (by simp) fun _=>WL.skip ?_
  refine WL.seq (WL.sreg (by simp;rfl) (by simp[e5];rfl) ?_)
  unfold walkF
  rw[hb]
  simp only[Bool.false_eq_true,if_false]
  generalize newSt p c=s0 at hok i0 ⊢
  refine WL.block (WL.count l.length (fun i=>wkS l c (Sh.two.fv f cps) s0 ([(2300,0,i64 l.length),(2400,0,i64 i)] ++ Sh.two.gh (B a) (D a))) (fun i=>∀ j,j < i→timesF l j c=true) rfl (fun j h=>absurd h (Nat.not_lt_zero _)) fun i hi hp=>?_)
  by_cases hlt:i < l.length
  ·have w:IntKind.wrap .i64 ((i:Int)+1)=((i+1:Nat):Int):=by rw[wrap_small (by omega) (by omega)];omega
   have ha:=times_fn l hn i hlt c
   refine WL.sreg (by simp[hlt];rfl) (by simp[e5];rfl) ?_
   refine WL.seq (WL.cond (t:=true) (by simp[hlt]) (fun _=>WL.skip ?_) (by simp))
   refine WL.seq (WL.block (WL.sreg (by simp[hlt];rfl) (by simp[e5];rfl) ?_))
   cases ht:timesF l i c with
   | true =>
    rw[ht] at ha
    refine WL.sregC (RL.o (by simp;rfl) (RL.call0 false ha (by simp) (by simp) (RL.o (by simp;rfl) (RL.nil ⟨_,by simp[e5];rfl,?_⟩))))
    refine WL.cond (t:=false) (by simp) (by simp) fun _=>WL.skip ?_
    refine WL.reg (RL.run (by simp[w];rfl) ⟨_,by simp[e5];rfl,hlt,?_,fun j hj=>?_⟩)
    ·simp
    ·by_cases e:j=i
     ·subst e;exact ht
     ·exact hp j (by omega)
   | false =>
    rw[ht] at ha
    have hf:=firstBad_some hlt hp ht
    refine WL.sregC (RL.o (by simp;rfl) (RL.call0 false ha (by simp) (by simp) (RL.o (by simp;rfl) (RL.nil ⟨_,by simp[e5];rfl,?_⟩))))
    refine WL.cond (t:=true) (by simp) (fun _=>?_) (by simp)
    refine WL.sreg (by simp[w];rfl) (by simp[e5];rfl) (WL.ret ⟨rfl,?_⟩)
    simp[fi88,hf]
  ·obtain rfl:i=l.length:=by omega
   have hf:=firstBad_none hp
   rw[hf]
   refine WL.sreg (by simp;rfl) (by simp[e5];rfl) ?_
   refine WL.seq (WL.cond (t:=false) (by simp) (by simp) fun _=>WL.exit ?_)
   refine WL.seq (WL.label ?_)
   exact walk_stepsTN hE hS s0 hok a i0 hp l.length
end
end Go.OT
namespace Go.OT
section
variable {C:Ctx} {X:XF LO} {β:Nat→Nat × Nat} {I:ASet} {rg:Nat→Value} {w:World}
theorem RelL.down (R:RelL C X β I rg w)(r b:Nat)(hb:b < 10000)(l:Loc)(cs:List AL)(hX:(X (100 * r)).2=.bx true (some l) cs)(hp:(X (100 * b)).2=.ptr (100 * r) (X (100 * r)).1 [] 0)(hn:cs.length≤98) :
  RelL C (((X.box b cs).set (100 * r) (.bptr b ((X (100 * b+99)).1+1) 0)).set (100 * b) (.bptr b ((X (100 * b+99)).1+1) 0)) (fun j=>if j=b then (l.b,l.o) else β j) I rg w:=by
 have hk:=R.key (100 * r)
 have hm:=hk.mem
 have hs:=hk.sep
 have hr:=R.reg r
 have hrb:=R.reg b
 rw[hX] at hm hs hr
 rw[hp] at hrb
 simp only[Mem] at hm
 simp only[Sep] at hs
 simp only[RR,CR] at hr
 simp only[RR] at hrb
 have hrb:=hrb.2 trivial
 rw[show (getN (X (100 * r)).2 [])=some (X (100 * r)).2 from rfl,hX] at hrb
 simp only[Option.bind_some,Go.OT.hd,Option.some.injEq,Prod.mk.injEq] at hrb
 obtain⟨s0,l0,z0,n0,⟨_,e1,_,_⟩,hrb⟩:=hrb
 subst e1
 have hmem:=MemL_iff.1 hm
 have hsep:=SepL_iff.1 hs.2
 have hfpX:∀ b' o',fp (.bx true (some l) cs) b' o'→kfp β X (100 * r) b' o':=fun b' o' h=>.inl (by rw[hX];exact h)
 have hown:∀ i,i < cs.length→kfp β X (100 * r) l.b (l.o+i):=fun i hi=>hfpX _ _ (by simp only[fp];exact .inl ⟨trivial,by omega,by omega⟩)
 have hold:∀ c b' o',c ∈ cs→fp c b' o'→kfp β X (100 * r) b' o':=fun c b' o' hc h=>hfpX _ _ (by simp only[fp];exact .inr (fpL_iff.2 ⟨c,hc,h⟩))
 generalize hβ':(fun j=>if j=b then (l.b,l.o) else β j)=β'
 have hβb:β' b=(l.b,l.o):=by subst hβ';simp
 have hβn:∀ j,j ≠ b→β' j=β j:=by intro j hj;subst hβ';simp[hj]
 have hKY:Keeps X (X.box b cs) β β':=by
  refine⟨fun k=>?_,fun k he p a ha=>?_,fun b' he=>?_⟩
  ·simp only[XF.box];split
   ·split
    ·simp
    ·exact nx_ge _
   ·exact Nat.le_refl _
  ·simp only[XF.box] at he ⊢
   split at he
   ·rename_i hc
    rw[if_pos hc]
    split at he
    ·omega
    ·have:=getN_hd_isNode ha
     have e1:nx (X k)=(X k).1+1:=by unfold nx;rw[this];rfl
     simp only[e1] at he
     omega
   ·rename_i hc;rw[if_neg hc];exact ha
  ·by_cases hbb:b'=b
   ·subst hbb
    simp only[XF.box] at he
    rw[if_pos ⟨by omega,by omega⟩,if_pos (by omega)] at he
    omega
   ·exact hβn b' hbb
 generalize hg':(X (100 * b+99)).1+1=g'
 generalize hZ:((X.box b cs).set (100 * r) (.bptr b g' 0)).set (100 * b) (.bptr b g' 0)=Z
 have hK:Keeps X Z β β':=by
  rw[← hZ]
  exact (hKY.trans (keeps_set _ β' (100 * r) _)).trans (keeps_set _ β' (100 * b) _)
 have hcellZ:∀ k,k % 100 ≠ 0→Z k=(X.box b cs) k:=fun k hk=>by
  rw[← hZ,XF.set_ne _ _ (by omega),XF.set_ne _ _ (by omega)]
 have hkey:∀ i,i < 98→(Z (100 * b+1+i)).2=cs.getD i .non:=by
  intro i hi
  rw[hcellZ _ (by omega)]
  simp only[XF.box]
  rw[if_pos ⟨by omega,by omega⟩,if_neg (by omega)]
  simp only[show (100 * b+1+i) % 100 - 1=i by omega]
 have hform:∀ k,k / 100=b→k % 100 ≠ 0→k % 100 ≠ 99→∃ i,i < 98∧k=100 * b+1+i:=fun k h1 h2 h3=>⟨k % 100 - 1,by omega,by omega⟩
 have hZ99:Z (100 * b+99)=(g',.non):=by
  rw[hcellZ _ (by omega)]
  simp only[XF.box]
  rw[if_pos ⟨by omega,by omega⟩,if_pos (by omega),hg']
 have h99:(Z (100 * b+99)).2=.non:=by rw[hZ99]
 have hZr:∀ t,t=r∨t=b→(Z (100 * t)).2=.bptr b g' 0:=by
  rintro t ht
  rw[← hZ]
  by_cases e:t=b
  ·subst e;rw[XF.set_self]
  ·rcases ht with rfl | ht
   ·rw[XF.set_ne _ _ (by omega),XF.set_self]
   ·exact absurd ht e
 have hno:∀ t,t=r∨t=b→∀ b' o',¬ kfp β' Z (100 * t) b' o':=by
  intro t ht b' o' hb'
  rcases hb' with hb' | ⟨hc,_⟩
  ·rw[hZr t ht] at hb';simp[fp] at hb'
  ·exact isCell_reg t hc
 have hno99:∀ b' o',¬ kfp β' Z (100 * b+99) b' o':=by
  intro b' o' hb'
  rcases hb' with hb' | ⟨hc,_⟩
  ·rw[h99] at hb';simp[fp] at hb'
  ·exact hc.2 (by omega)
 have hgetD:∀ i c,cs[i]?=some c→cs.getD i .non=c:=fun i c hc=>by simp[List.getD_eq_getElem?_getD,hc]
 have hcase:∀ i,i < 98→∀ b' o',kfp β' Z (100 * b+1+i) b' o'→∃ c,cs[i]?=some c∧(fp c b' o'∨(b'=l.b∧o'=l.o+i)):=by
  intro i hi b' o' hb'
  cases hc:cs[i]? with
  | none =>
   have hg:cs.getD i .non=.non:=by simp[List.getD_eq_getElem?_getD,hc]
   rcases hb' with hb' | ⟨_,hne,_⟩
   ·rw[hkey i hi,hg] at hb';simp[fp] at hb'
   ·exact absurd ((hkey i hi).trans hg) hne
  | some c =>
   refine⟨c,rfl,?_⟩
   rcases hb' with hb' | ⟨_,_,h3⟩
   ·rw[hkey i hi,hgetD i c hc] at hb';exact .inl hb'
   ·simp only[cellAt,show (100 * b+1+i) / 100=b by omega,hβb,show (100 * b+1+i) % 100 - 1=i by omega] at h3
    exact .inr ⟨h3.1,h3.2⟩
 have hcell:∀ k,(k / 100=b∧k % 100 ≠ 0)→∀ b' o',kfp β' Z k b' o'→∃ i c,i < 98∧k=100 * b+1+i∧cs[i]?=some c∧(fp c b' o'∨(b'=l.b∧o'=l.o+i)):=by
  rintro k ⟨h1,h2⟩ b' o' hb'
  by_cases h3:k % 100=99
  ·have:k=100 * b+99:=by omega
   subst this;exact absurd hb' (hno99 b' o')
  ·obtain⟨i,hi,rfl⟩:=hform k h1 h2 h3
   obtain⟨c,hc,h'⟩:=hcase i hi b' o' hb'
   exact⟨i,c,hi,rfl,hc,h'⟩
 have hD:∀ t,(100 * t / 100=b∧100 * t % 100 ≠ 0)∨100 * t=100 * r∨100 * t=100 * b→t=r∨t=b:=by
  rintro t (⟨_,h2⟩ | h | h)<;>omega
 refine R.change (fun k=>(k / 100=b∧k % 100 ≠ 0)∨k=100 * r∨k=100 * b) ?_ hK ?_ ?_ (fun _ _=>rfl) ?_ ?_ ?_ ?_ (fun _ _ h=>h) (fun _ _ h=>.inl h) ((Frame.refl _ w).mono fun _ _ _ h=>h)
 ·intro k hk
  rw[← hZ,XF.set_ne _ _ (fun e=>hk (.inr (.inr e))),XF.set_ne _ _ (fun e=>hk (.inr (.inl e)))]
  simp only[XF.box]
  rw[if_neg (fun e=>hk (.inl e))]
 ·intro k hk hc
  exact .inl (hβn _ (fun e=>hk (.inl ⟨e,hc.1⟩)))
 ·intro j hj;exact hβn j (by omega)
 ·intro t ht
  have ht:=hD t ht
  rw[hZr t ht]
  simp only[RR]
  refine⟨by rw[hZ99];exact Nat.le_refl _,fun _=>?_⟩
  rw[hβb]
  rcases ht with rfl | rfl
  ·rw[hr];rfl
  ·exact hrb
 ·rintro k hk
  rcases hk with ⟨h1,h2⟩ | hk
  ·by_cases h3:k % 100=99
   ·have:k=100 * b+99:=by omega
    subst this
    exact⟨by rw[h99];simp[Mem],by rw[h99];simp[Sep],fun hc=>absurd h3 hc.2,fun b' o' hb'=>absurd hb' (hno99 b' o'),fun _=>h99⟩
   ·obtain⟨i,hi,rfl⟩:=hform k h1 h2 h3
    cases hc:cs[i]? with
    | none =>
     have hg:(Z (100 * b+1+i)).2=.non:=(hkey i hi).trans (by simp[List.getD_eq_getElem?_getD,hc])
     refine⟨by rw[hg];simp[Mem],by rw[hg];simp[Sep],fun _ hne=>absurd hg hne,fun b' o' hb'=>?_,fun h=>absurd h h3⟩
     obtain⟨c,hc',_⟩:=hcase i hi b' o' hb'
     rw[hc] at hc';cases hc'
    | some c =>
     have hg:(Z (100 * b+1+i)).2=c:=(hkey i hi).trans (hgetD i c hc)
     have hlt:i < cs.length:=(List.getElem?_eq_some_iff.1 hc).1
     have hin:=List.mem_of_getElem? hc
     obtain⟨⟨y,hy,hcy⟩,hmc,_⟩:=hmem i c hc
     refine⟨by rw[hg];exact hmc,by rw[hg];exact hsep.1 c hin,fun _ _=>?_,fun b' o' hb'=>?_,fun h=>absurd h h3⟩
     ·rw[hg]
      simp only[show (100 * b+1+i) / 100=b by omega,hβb,show (100 * b+1+i) % 100 - 1=i by omega]
      exact⟨⟨y,hy,.inl hcy⟩,fun hbad=>hs.1 i hlt (fpL_iff.2 ⟨c,hin,hbad⟩)⟩
     ·obtain⟨c',hc',h'⟩:=hcase i hi b' o' hb'
      rw[hc] at hc';cases hc'
      rcases h' with h' | ⟨rfl,rfl⟩
      ·exact (R.key (100 * r)).live _ _ (hold c b' o' hin h')
      ·exact (R.key (100 * r)).live _ _ (hown i hlt)
  ·obtain⟨t,ht,rfl⟩:∃ t,(t=r∨t=b)∧k=100 * t:=by
    rcases hk with h | h
    ·exact⟨r,.inl rfl,h⟩
    ·exact⟨b,.inr rfl,h⟩
   exact⟨by rw[hZr t ht];simp[Mem],by rw[hZr t ht];simp[Sep],fun hc=>absurd hc (isCell_reg t),fun b' o' hb'=>absurd hb' (hno t ht b' o'),fun h=>by omega⟩
 ·rintro k k' hk hk' hne b' o' h1 h2
  have hreg:∀ q,q=100 * r∨q=100 * b→kfp β' Z q b' o'→False:=fun q hq h=>by
   rcases hq with rfl | rfl
   ·exact hno r (.inl rfl) b' o' h
   ·exact hno b (.inr rfl) b' o' h
  rcases hk with hk | hk
  ·rcases hk' with hk' | hk'
   ·obtain⟨i,c,hi,rfl,hc,hh⟩:=hcell k hk b' o' h1
    obtain⟨j,d,hj,rfl,hd,hh'⟩:=hcell k' hk' b' o' h2
    have hij:i ≠ j:=fun e=>hne (by rw[e])
    have hli:i < cs.length:=(List.getElem?_eq_some_iff.1 hc).1
    have hlj:j < cs.length:=(List.getElem?_eq_some_iff.1 hd).1
    rcases hh with hh | ⟨e1,e2⟩
    ·rcases hh' with hh' | ⟨e1,e2⟩
     ·rcases Nat.lt_or_gt_of_ne hij with hlt | hlt
      ·exact hsep.2 i j c d hlt hc hd b' o' hh hh'
      ·exact hsep.2 j i d c hlt hd hc b' o' hh' hh
     ·subst e1 e2
      exact hs.1 j hlj (fpL_iff.2 ⟨c,List.mem_of_getElem? hc,hh⟩)
    ·rcases hh' with hh' | ⟨e3,e4⟩
     ·subst e1 e2
      exact hs.1 i hli (fpL_iff.2 ⟨d,List.mem_of_getElem? hd,hh'⟩)
     ·omega
   ·exact hreg k' hk' h2
  ·exact hreg k hk h1
 ·rintro k hk b' o' hb'
  rcases hk with hk | hk
  ·obtain⟨i,c,hi,rfl,hc,hh⟩:=hcell k hk b' o' hb'
   rcases hh with hh | ⟨e1,e2⟩
   ·exact .inl ⟨100 * r,.inr (.inl rfl),hold c b' o' (List.mem_of_getElem? hc) hh⟩
   ·subst e1 e2
    exact .inl ⟨100 * r,.inr (.inl rfl),hown i (List.getElem?_eq_some_iff.1 hc).1⟩
  ·exfalso
   rcases hk with rfl | rfl
   ·exact hno r (.inl rfl) b' o' hb'
   ·exact hno b (.inr rfl) b' o' hb'
theorem RelL.upR (R:RelL C X β I rg w)(r b:Nat)(hr:(X (100 * r)).2=.bptr b (X (100 * b+99)).1 0)(cs:List AL)(hn:cs.length≤98)
  (hcs:∀ i c,cs[i]?=some c→(X (100 * b+1+i)).2=c∧treeV c=true) :
  RelL C ((clrB X b cs.length).set (100 * r) (.bx true (some ⟨(β b).1,(β b).2,0⟩) cs)) β I rg w:=by
 have hc:∀ i,i < cs.length→∃ c,cs[i]?=some c∧(X (100 * b+1+i)).2=c∧treeV c=true∧c ≠ .non∧isCell (100 * b+1+i)∧(100 * b+1+i) / 100=b∧(100 * b+1+i) % 100 - 1=i:=by
  intro i hi
  obtain⟨h1,h2⟩:=hcs i _ (List.getElem?_eq_getElem hi)
  refine⟨_,List.getElem?_eq_getElem hi,h1,h2,fun e=>?_,⟨by omega,by omega⟩,by omega,by omega⟩
  rw[e] at h2;simp[treeV] at h2
 have hat:∀ i c,cs[i]?=some c→(∃ y,w.at (β b).1 ((β b).2+i)=some y∧CR c y)∧¬ fp c (β b).1 ((β b).2+i)∧Mem w I c∧Sep c:=by
  intro i c hi
  obtain⟨c',h1,h2,h3,h4,h5,h6,h7⟩:=hc i (List.getElem?_eq_some_iff.1 hi).1
  rw[hi] at h1
  cases h1
  have hk:=R.key (100 * b+1+i)
  obtain⟨⟨y,hy,hx⟩,hnf⟩:=hk.cell h5 (by rw[h2];exact h4)
  rw[h6,h7] at hy hnf
  rw[h2] at hx hnf
  exact⟨⟨y,hy,hx.cr (by cases c<;>simp [treeV] at h3<;>rfl)⟩,hnf,by rw[← h2];exact hk.mem,by rw[← h2];exact hk.sep⟩
 have haddr:∀ i,i < cs.length→kfp β X (100 * b+1+i) (β b).1 ((β b).2+i):=by
  intro i hi
  obtain⟨c,h1,h2,h3,h4,h5,h6,h7⟩:=hc i hi
  exact .inr ⟨h5,by rw[h2];exact h4,by rw[h6],by rw[h6,h7]⟩
 have hin:∀ i c,cs[i]?=some c→∀ b' o',fp c b' o'→kfp β X (100 * b+1+i) b' o':=by
  intro i c hi b' o' h
  left
  rw[(hcs i c hi).1];exact h
 have hfp:∀ b' o',fp (.bx true (some ⟨(β b).1,(β b).2,0⟩) cs) b' o'→∃ i,i < cs.length∧kfp β X (100 * b+1+i) b' o':=by
  intro b' o' h
  simp only[fp] at h
  rcases h with ⟨rfl,h1,h2⟩ | h
  ·refine⟨o' - (β b).2,by omega,?_⟩
   have:=haddr (o' - (β b).2) (by omega)
   rwa [show (β b).2+(o' - (β b).2)=o' by omega] at this
  ·obtain⟨c,hc',hcb⟩:=fpL_iff.1 h
   obtain⟨i,hi⟩:=List.getElem?_of_mem hc'
   exact⟨i,(List.getElem?_eq_some_iff.1 hi).1,hin i c hi _ _ hcb⟩
 have hself:((clrB X b cs.length).set (100 * r) (.bx true (some ⟨(β b).1,(β b).2,0⟩) cs) (100 * r)).2=.bx true (some ⟨(β b).1,(β b).2,0⟩) cs:=by rw[XF.set_self]
 have hoth:∀ k,100 * b+1≤k∧k < 100 * b+1+cs.length→((clrB X b cs.length).set (100 * r) (.bx true (some ⟨(β b).1,(β b).2,0⟩) cs) k).2=.non:=by
  intro k hk
  rw[XF.set_ne _ _ (by omega),clrB_at,if_pos hk]
 have hK:Keeps X ((clrB X b cs.length).set (100 * r) (.bx true (some ⟨(β b).1,(β b).2,0⟩) cs)) β β:=(keeps_clrB X β b _).trans (keeps_set _ β _ _)
 refine R.change (fun k=>k=100 * r∨(100 * b+1≤k∧k < 100 * b+1+cs.length)) (fun k hk=>?_) hK (fun _ _ _=>.inl rfl) (fun _ _=>rfl) (fun _ _=>rfl) (fun t ht=>?_) (fun k hk=>?_) (fun k k' hk hk' hne b' o' h1 h2=>?_) (fun k hk b' o' h=>?_)
  (fun _ _ h=>h) (fun _ _ h=>.inl h) ((Frame.refl _ w).mono fun _ _ _ h=>h)
 ·rw[XF.set_ne _ _ (fun e=>hk (.inl e)),clrB_at,if_neg (fun e=>hk (.inr e))]
 ·have e:t=r:=by omega
  subst e
  rw[hself]
  have:=R.reg t
  rw[hr] at this
  simp only[RR] at this
  have h2:=this.2 trivial
  simp only[RR,CR]
  simpa using h2
 ·rcases hk with rfl | hk
  ·refine⟨?_,?_,fun h=>absurd h.1 (by omega),fun b' o' h=>?_,fun h=>by omega⟩
   ·rw[hself]
    simp only[Mem]
    exact MemL_iff.2 fun i c hi=>⟨(hat i c hi).1,(hat i c hi).2.2.1,by simp⟩
   ·rw[hself]
    simp only[Sep]
    refine⟨fun i hi hbad=>?_,SepL_iff.2 ⟨fun c hc'=>?_,fun i j u v hij hu hv b' o' g1 g2=>?_⟩⟩
    ·obtain⟨c,hc',hcb⟩:=fpL_iff.1 hbad
     obtain⟨i',hi'⟩:=List.getElem?_of_mem hc'
     by_cases hii:i=i'
     ·subst hii;exact (hat i c hi').2.1 hcb
     ·exact R.disj (100 * b+1+i) (100 * b+1+i') (by omega) _ _ (haddr i hi) (hin i' c hi' _ _ hcb)
    ·obtain⟨i',hi'⟩:=List.getElem?_of_mem hc'
     exact (hat i' c hi').2.2.2
    ·exact R.disj (100 * b+1+i) (100 * b+1+j) (by omega) b' o' (hin i u hu _ _ g1) (hin j v hv _ _ g2)
   ·rcases h with h | ⟨h,_⟩
    ·rw[hself] at h
     obtain⟨i,_,hi⟩:=hfp _ _ h
     exact (R.key _).live _ _ hi
    ·exact absurd h.1 (by omega)
  ·have h0:=hoth k hk
   refine⟨by rw[h0];simp[Mem],by rw[h0];simp[Sep],fun _ h=>absurd h0 h,fun b' o' h=>?_,fun _=>h0⟩
   rcases h with h | ⟨_,h,_⟩
   ·rw[h0] at h;simp[fp] at h
   ·exact absurd h0 h
 ·have only:∀ k,(k=100 * r∨(100 * b+1≤k∧k < 100 * b+1+cs.length))→kfp β ((clrB X b cs.length).set (100 * r) (.bx true (some ⟨(β b).1,(β b).2,0⟩) cs)) k b' o'→k=100 * r:=by
   intro k hk h
   rcases hk with e | hk
   ·exact e
   ·have h0:=hoth k hk
    rcases h with h | ⟨_,h,_⟩
    ·rw[h0] at h;simp[fp] at h
    ·exact absurd h0 h
  exact hne ((only k hk h1).trans (only k' hk' h2).symm)
 ·rcases hk with rfl | hk
  ·rcases h with h | ⟨h,_⟩
   ·rw[hself] at h
    obtain⟨i,hi,hi'⟩:=hfp _ _ h
    exact .inl ⟨_,.inr ⟨by omega,by omega⟩,hi'⟩
   ·exact absurd h.1 (by omega)
  ·have h0:=hoth k hk
   rcases h with h | ⟨_,h,_⟩
   ·rw[h0] at h;simp[fp] at h
   ·exact absurd h0 h
end
theorem RelT.down {C:Ctx}{X:XF Unit}{tm:Array Value}{w:World}(h:RelT C X tm w)(r b:Nat)(hb:b < 10000)(cs:List AU)(hX:(X (100 * r)).2=.bx true () cs)(hp:(X (100 * b)).2=.ptr (100 * r) (X (100 * r)).1 [] 0)(hn:cs.length≤98) :
  RelT C (((X.box b cs).set (100 * r) (.bptr b ((X (100 * b+99)).1+1) 0)).set (100 * b) (.bptr b ((X (100 * b+99)).1+1) 0)) tm w:=by
 obtain⟨XL,β,I,rg,he,R,hs,ht⟩:=h
 subst he
 obtain⟨l,lcs,hXL,hl⟩:∃ l lcs,(XL (100 * r)).2=.bx true l lcs∧lcs.map er=cs:=by
  have hX':er (XL (100 * r)).2=.bx true () cs:=hX
  revert hX'
  generalize (XL (100 * r)).2=v
  intro h
  cases v<;>simp [er,erL_eq] at h
  obtain⟨h1,h2⟩:=h
  subst h1
  exact⟨_,_,rfl,h2⟩
 have hm:=(R.key (100 * r)).mem
 rw[hXL] at hm
 cases l with
 | none=>simp [Mem] at hm
 | some l =>
  have hp':(XL (100 * b)).2=.ptr (100 * r) (XL (100 * r)).1 [] 0:=by
   have hp2:er (XL (100 * b)).2=.ptr (100 * r) (XL (100 * r)).1 [] 0:=hp
   revert hp2
   generalize (XL (100 * b)).2=v
   intro h
   cases v<;>simp [er] at h
   obtain⟨h1,h2,h3,h4⟩:=h
   subst h1 h2 h3 h4
   rfl
  have R':=R.down r b hb l lcs hXL hp' (by rw[← hl] at hn;simpa using hn)
  refine⟨_,_,I,rg,?_,R',hs,ht⟩
  rw[erF_set,erF_set,erF_box,hl]
  rfl
theorem RelT.upR {C:Ctx}{X:XF Unit}{tm:Array Value}{w:World}(h:RelT C X tm w)(r b:Nat)(hr:(X (100 * r)).2=.bptr b (X (100 * b+99)).1 0)(cs:List AU)(hn:cs.length≤98)
  (hcs:∀ i c,cs[i]?=some c→(X (100 * b+1+i)).2=c∧treeV c=true):RelT C ((clrB X b cs.length).set (100 * r) (.bx true () cs)) tm w:=by
 obtain⟨XL,β,I,rg,he,R,hs,ht⟩:=h
 subst he
 have hr':(XL (100 * r)).2=.bptr b (XL (100 * b+99)).1 0:=by
  simp only[erF] at hr
  revert hr
  cases (XL (100 * r)).2<;>simp [er]
 have hget:∀ i c,((List.range cs.length).map fun i=>(XL (100 * b+1+i)).2)[i]?=some c→i < cs.length∧c=(XL (100 * b+1+i)).2:=by
  intro i c hc
  have hi:i < cs.length:=by
   have:=(List.getElem?_eq_some_iff.1 hc).1
   simpa using this
  simp[hi] at hc
  exact⟨hi,hc.symm⟩
 have R':=R.upR r b hr' ((List.range cs.length).map fun i=>(XL (100 * b+1+i)).2) (by simpa using hn) (fun i c hc=>by
  obtain⟨hi,rfl⟩:=hget i c hc
  refine⟨rfl,?_⟩
  obtain⟨h1,h2⟩:=hcs i _ (List.getElem?_eq_getElem hi)
  rw[← er_treeV]
  have h1':er (XL (100 * b+1+i)).2=cs[i]:=h1
  rw[h1'];exact h2)
 rw[show ((List.range cs.length).map fun i=>(XL (100 * b+1+i)).2).length=cs.length by simp] at R'
 refine⟨_,β,_,rg,?_,R',hs,ht⟩
 rw[erF_set,erF_clrB]
 congr 1
 simp only[er,erL_eq,List.map_map]
 congr 1
 apply List.ext_getElem?
 intro i
 by_cases hi:i < cs.length
 ·have h1:er (XL (100 * b+1+i)).2=cs[i]:=(hcs i _ (List.getElem?_eq_getElem hi)).1
  simp[hi,h1]
 ·rw[List.getElem?_eq_none (by simpa using Nat.le_of_not_lt hi),List.getElem?_eq_none (by omega:cs.length≤i)]
section
variable {P:Program} {nt:Nat} {L:SL} {Q:Ex→SL→Prop}
def upRL (L:SL)(r b:Nat)(cs:List AU):SL:=setL (clrBL L b cs.length) (100 * r) (.bx true () cs)
def downL (L:SL)(r b:Nat)(cs:List AU):SL:=setL (setL (boxM b cs L) (100 * r) (.bptr b ((fnL L (100 * b+99)).1+1) 0)) (100 * b) (.bptr b ((fnL L (100 * b+99)).1+1) 0)
attribute [simp] upRL downL
theorem RelT.upRL {C:Ctx}{tm:Array Value}{w:World}(h:RelT C (fnL L) tm w)(r b n:Nat)(cs:List AU)(hr:(fnL L (100 * r)).2=.bptr b (fnL L (100 * b+99)).1 0)(hn:n≤98)
  (hcs:boxFrom (fnL L) b 0 n=cs) (ht:cs.all treeV=true):RelT C (fnL (upRL L r b cs)) tm w:=by
 have hlen:cs.length≤n:=by
  rw[← hcs]
  have:∀ m i,(boxFrom (fnL L) b i m).length≤m:=by
   intro m
   induction m with
   | zero=>intro i;simp[boxFrom]
   | succ m ih=>intro i;simp only[boxFrom];split<;>simp [ih]
  exact this n 0
 have:=h.upR r b hr cs (by omega) (fun i c hi=>⟨by
  rw[← hcs] at hi
  have:=boxFrom_at n 0 i c hi
  rwa [Nat.zero_add] at this,List.all_eq_true.1 ht c (List.mem_of_getElem? hi)⟩)
 rw[fnL_clrB,fnL_set] at this
 exact this
theorem RelT.downL {C:Ctx}{tm:Array Value}{w:World}(h:RelT C (fnL L) tm w)(r b:Nat)(hb:b < 10000)(cs:List AU)(hX:(fnL L (100 * r)).2=.bx true () cs)(hp:(fnL L (100 * b)).2=.ptr (100 * r) (fnL L (100 * r)).1 [] 0)(hn:cs.length≤98) :
  RelT C (fnL (downL L r b cs)) tm w:=by
 have:=h.down r b hb cs hX hp hn
 rw[fnL_boxM b cs _ hn,fnL_set,fnL_set] at this
 exact this
theorem WL.lower {cc:Cd}(r b:Nat){cs:List AU}(hX:(fnL L (100 * r)).2=.bx true () cs)(hp:(fnL L (100 * b)).2=.ptr (100 * r) (fnL L (100 * r)).1 [] 0)(h:WL P nt cc (downL L r b cs) Q)(hn:cs.length≤98:=by simp)(hb:b < 10000:=by decide):WL P nt cc L Q:=by
 intro C code hP hnt hc a w hd hR
 exact h C code hP hnt hc a w hd (hR.downL r b hb cs hX hp hn)
theorem WL.lift {cc:Cd}(r b n:Nat){cs:List AU}(hr:(fnL L (100 * r)).2=.bptr b (fnL L (100 * b+99)).1 0)(hcs:boxFrom (fnL L) b 0 n=cs)(ht:cs.all treeV=true)
  (h:WL P nt cc (upRL L r b cs) Q) (hn:n≤98:=by decide):WL P nt cc L Q:=by
 intro C code hP hnt hc a w hd hR
 exact h C code hP hnt hc a w hd (hR.upRL r b n cs hr hn hcs ht)
theorem RL.lower {K:SL→Prop}{segs:List Sg}(r b:Nat){cs:List AU}(hX:(fnL L (100 * r)).2=.bx true () cs)(hp:(fnL L (100 * b)).2=.ptr (100 * r) (fnL L (100 * r)).1 [] 0)(h:RL P nt segs (downL L r b cs) K)(hn:cs.length≤98:=by simp)(hb:b < 10000:=by decide):RL P nt segs L K:=by
 intro C ops idx hP hnt hc a w Q hd hR hK
 exact h C ops idx hP hnt hc a w Q hd (hR.downL r b hb cs hX hp hn) hK
theorem RL.lift {K:SL→Prop}{segs:List Sg}(r b n:Nat){cs:List AU}(hr:(fnL L (100 * r)).2=.bptr b (fnL L (100 * b+99)).1 0)(hcs:boxFrom (fnL L) b 0 n=cs)(ht:cs.all treeV=true)
  (h:RL P nt segs (upRL L r b cs) K) (hn:n≤98:=by decide):RL P nt segs L K:=by
 intro C ops idx hP hnt hc a w Q hd hR hK
 exact h C ops idx hP hnt hc a w Q hd (hR.upRL r b n cs hr hn hcs ht) hK
end
end Go.OT
namespace Go.OT
open Go.Proofs
abbrev Pst:=List (List UInt8) × Bool × Bool
def pThere (t:St)(p:Nat):Bool:=t.There.getD p false
def seeB (l:List Ev)(fl:Int)(p:Nat)(a:Pst)(x:Int)(t:St):List (List UInt8):=if (decide (fl≤(atE l x).Stamp) && pThere t p)=true then a.1 ++ [t.Body.getD p []] else a.1
def seeT (l:List Ev)(fl:Int)(p:Nat)(a:Pst)(x:Int)(t:St):Bool:=a.2.1 || (decide (fl < (atE l x).Stamp) && ((decide ((atE l x).op.Kind=1) && (pThere t p && !a.2.2)) || wrF (atE l x) t p))
def seeP (l:List Ev)(fl:Int)(p:Nat)(a:Pst)(x:Int)(t:St):Pst:=(seeB l fl p a x t,seeT l fl p a x t,pThere t p)
abbrev psS (fl:Int)(p:Nat)(bs:List (List UInt8))(tn ws:Bool)(t:St)(e:Ev)(r:SL):SL :=
 [(300,0,.vptr () [i64 fl]),(400,0,.vptr () [i64 p]),(500,0,.bptr 5 1 0),(501,0,sUU true bs),(502,0,bl tn),(599,1,.non),(600,0,.ptr 1000100 0 [] 0)] ++ (rcF 8 t ++ (bxE 9 e ++ (r ++ [(1000000,0,.bptr 5 1 0),(1000100,0,.bx true () [bl ws])])))
abbrev psQ (a:Pst):Ex→SL→Prop:=fun e L=>(e=Ex.nrm∨e=Ex.ret)∧RetOk fi154.rs [.nod (.bx true () [sUU true a.1,bl a.2.1]),.nod (.bx true () [bl a.2.2])] (.tuple []) L
set_option maxHeartbeats 16000000 in
theorem pasts1_torn (fl:Int)(p:Nat)(bs:List (List UInt8))(tn ws:Bool)(t:St)(ht:OkSt t)(hp:p < t.There.length)(e:Ev)(hc0:0≤e.Client)(hc1:e.Client < t.Handles.length)(tn':Bool)(r:SL)(hr:r=[]∨r=[(2500,0,bl false)])
  (htn:tn'=(tn || (decide (fl < e.Stamp) && ((decide (e.op.Kind=1) && (pThere t p && !ws)) || wrF e t p)))) :
  WL Try.prog fi154.nt c154_4 (psS fl p bs tn ws t e r) (psQ (bs,tn',pThere t p)):=by
 have hwr:=wrote_fn e t ht hc0 hc1 p
 have hp':p+1≤t.There.length:=hp
 obtain⟨th,hth⟩:∃ th,t.There[p]=th:=⟨_,rfl⟩
 have eth:pThere t p=th:=by simp[pThere,hp,hth]
 rw[eth] at htn ⊢
 -- the last region
 have last:∀ L,L=[(400,0,.vptr () [i64 p]),(501,0,sUU true bs),(502,0,bl tn'),(599,1,.non),(600,0,.ptr 1000100 0 [] 0)] ++ (rcF 8 t ++ [(1000000,0,.bptr 5 1 0),(1000100,0,.bx true () [bl ws])])→WL Try.prog fi154.nt c154_2 L (psQ (bs,tn',th)):=fun L hL=>by
  subst hL
  refine WL.lift 10000 5 2 (by simp) (by simp;rfl) (by simp) ?_
  refine WL.reg (RL.run (by simp[hp,hp',hth];rfl) ⟨_,by simp;rfl,.inl rfl,?_⟩)
  simp[fi154]
 -- ahead of it
 have mid:∀ (md:Bool),md=(decide (e.op.Kind=1) && (th && !ws))→∀ L,L=psS fl p bs tn ws t e [(1000,0,bl md)]→WL Try.prog fi154.nt c154_3 L (psQ (bs,tn',th)):=fun md hmd L hL=>by
  subst hL
  rw[← hmd] at htn
  cases tn with
  | true =>
   refine WL.sregC (RL.o (by simp;rfl) (RL.g (by simp;rfl) (RL.g (by simp;rfl) (RL.g (by simp;rfl) (RL.callN (by simp) (RL.g (by simp;rfl) (RL.g (by simp;rfl) (RL.o (by simp;rfl) (RL.nil ⟨_,by simp;rfl,last _ ?_⟩)))))))))
   simp[htn]
  | false =>
   simp only[Bool.false_or] at htn
   by_cases k:fl < e.Stamp
   ·cases md with
    | true =>
     refine WL.sregC (RL.o (by simp;rfl) (RL.g (by simp[k];rfl) (RL.g (by simp;rfl) (RL.g (by simp;rfl) (RL.callN (by simp) (RL.g (by simp;rfl) (RL.g (by simp;rfl) (RL.o (by simp;rfl) (RL.nil ⟨_,by simp;rfl,last _ ?_⟩)))))))))
     simp[htn,k]
    | false =>
     refine WL.sregC (RL.o (by simp;rfl) (RL.g (by simp[k];rfl) (RL.g (by simp;rfl) (RL.g (by simp;rfl) (RL.callY0 false (by simp) hwr (by simp) (by simp) (RL.g (by simp;rfl) (RL.g (by simp;rfl) (RL.o (by simp;rfl) (RL.nil ⟨_,by simp;rfl,last _ ?_⟩)))))))))
     simp[htn,k]
   ·refine WL.sregC (RL.o (by simp;rfl) (RL.g (by simp[k];rfl) (RL.g (by simp;rfl) (RL.g (by simp;rfl) (RL.callN (by simp) (RL.g (by simp;rfl) (RL.g (by simp;rfl) (RL.o (by simp;rfl) (RL.nil ⟨_,by simp;rfl,last _ ?_⟩)))))))))
    simp[htn,k]
 clear last
 have go:∀ (k1:Bool),(e.op.Kind == 1)=k1→decide (e.op.Kind=1)=k1→WL Try.prog fi154.nt c154_4 (psS fl p bs tn ws t e r) (psQ (bs,tn',th)):=fun k1 e1 e2=>by
  rw[e2] at mid
  rcases hr with rfl | rfl
  all_goals
   cases k1 with
   | false=>exact WL.sreg (by simp[e1];rfl) (by simp;rfl) (mid false (by simp) _ (by simp))
   | true =>
    cases th with
    | false=>exact WL.sreg (by simp[e1,hp,hp',hth];rfl) (by simp;rfl) (mid false (by simp) _ (by simp))
    | true =>
     cases ws with
     | true=>exact WL.sreg (by simp[e1,hp,hp',hth];rfl) (by simp;rfl) (mid false (by simp) _ (by simp))
     | false=>exact WL.sreg (by simp[e1,hp,hp',hth];rfl) (by simp;rfl) (mid true (by simp) _ (by simp))
 by_cases k1:e.op.Kind=1
 ·exact go true (by simp[k1]) (by simp[k1])
 ·exact go false (beq_false_of_ne k1) (by simp[k1])
set_option maxHeartbeats 16000000 in
theorem pasts1_fn (l:List Ev)(fl:Int)(p:Nat)(a:Pst)(t:St)(ht:OkSt t)(hp:p < t.There.length)(u:Nat)(hu:u < l.length)(hbs:a.1.length≤100000)(hc0:0≤l[u].Client)(hc1:l[u].Client < t.Handles.length) :
  FnC Try.prog 154 [.nod (.bx true () [sUU true a.1,bl a.2.1]),.nod (.bx true () [bl a.2.2])] [i64 u,encS false t,.vptr () [sEv l],.vptr () [i64 fl],.vptr () [i64 p],.ptr 1000000 0 [] 0,.ptr 1000100 0 [] 0]
   [.nod (.bx true () [sUU true (seeP l fl p a u t).1,bl (seeP l fl p a u t).2.1]),.nod (.bx true () [bl (seeP l fl p a u t).2.2])] (.tuple []):=by
 have f1:=fmE_drop (o:=false) (r:=false) hu
 have g1:14≤l.length * 14 - u * 14:=by omega
 have hat:atE l (u:Int)=l[u]:=atE_at hu
 refine FnC.go ok154 rfl ?_
 refine WL.sreg (by simp;rfl) (by simp;rfl) ?_
 refine WL.lower 10000 5 (by simp;rfl) (by simp) ?_
 refine WL.sreg (by simp[hu,f1,g1];rfl) (by simp;rfl) ?_
 have eP:seeP l fl p a u t=(seeB l fl p a u t,seeT l fl p a u t,pThere t p):=rfl
 have eB:seeB l fl p a u t=if (decide (fl≤l[u].Stamp) && pThere t p)=true then a.1 ++ [t.Body.getD p []] else a.1:=by unfold seeB;rw[hat]
 have eT:seeT l fl p a u t=(a.2.1 || (decide (fl < l[u].Stamp) && ((decide (l[u].op.Kind=1) && (pThere t p && !a.2.2)) || wrF l[u] t p))):=by unfold seeT;rw[hat]
 rw[eP]
 generalize seeB l fl p a u t=bs' at eB ⊢
 generalize seeT l fl p a u t=tn' at eT ⊢
 obtain⟨bs,tn,ws⟩:=a
 simp only at eB eT hbs ⊢
 clear f1 g1 hat eP
 generalize l[u]=e at *
 have rest:=fun bs r hr=>pasts1_torn fl p bs tn ws t ht hp e hc0 hc1 tn' r hr eT
 have hp':p+1≤t.There.length:=hp
 have hpb:p < t.Body.length:=by rw[ht.bn];exact hp
 have hpb':p+1≤t.Body.length:=hpb
 obtain⟨th,hth⟩:∃ th,t.There[p]=th:=⟨_,rfl⟩
 have eth:pThere t p=th:=by simp[pThere,hp,hth]
 have hbd:t.Body.getD p []=t.Body[p]:=by simp[hpb]
 rw[eth,hbd] at eB
 have no:bs'=bs→∀ L,L=psS fl p bs tn ws t e [(2500,0,bl false)]→WL Try.prog fi154.nt c154_1 L (Ex.thenL (fun L'=>WL Try.prog fi154.nt c154_4 L' (psQ (bs',tn',pThere t p))) (psQ (bs',tn',pThere t p))):=fun hb L hL=>by
  subst hL hb
  refine WL.cond (t:=false) (by simp) (by simp) fun _=>WL.skip ?_
  exact rest bs' _ (.inr rfl)
 by_cases k:fl≤e.Stamp
 ·cases th with
  | true =>
   refine WL.seq (WL.sreg (by simp[k,hp,hp',hth];rfl) (by simp;rfl) ?_)
   refine WL.cond (t:=true) (by simp) (fun _=>?_) (by simp)
   have hb1:Small (t.Body[p]).length:=by have:=ht.b16 _ (List.getElem_mem hpb);unfold Small;omega
   have hm1:(bs.length+1) * 24≤140737488355328:=by omega
   have hm2:bs.length+1≤maxLen:=by unfold maxLen;omega
   have eB':bs'=bs ++ [t.Body[p]]:=by rw[eB];simp[k]
   refine WL.draw mixed (by simp[cleanL,noH]) (DL.o (by simp[hp,hp',hpb,hpb'];exact⟨rfl,rfl⟩) ?_)
   refine DL.call0 false (bytes_clone t.Body[p] hb1) (by simp) (by simp) ?_
   refine DL.o (by simp[hm1,hm2];exact⟨rfl,rfl⟩) (DL.nil ⟨by kernel_rfl,_,by simp;rfl,?_⟩)
   refine WL.eqL ?_ (rest bs' [] (.inl rfl))
   simp[eB']
   exact List.take_of_length_le (by simp)
  | false=>refine WL.seq (WL.sreg (by simp[k,hp,hp',hth];rfl) (by simp;rfl) (no (by simp[eB]) _ (by simp)))
 ·refine WL.seq (WL.sreg (by simp[k];rfl) (by simp;rfl) (no (by simp[eB,k]) _ (by simp)))
end Go.OT
namespace Go.OT
open Go.Proofs
def shortE (e:Ev):Bool:=decide (e.op.Data.length≤40) && decide (e.res.Data.length≤40)
def fewE (l:List Ev):Bool:=l.all shortE && decide (l.length≤60)
set_option maxHeartbeats 8000000 in
theorem histFew_fn (l:List Ev)(hl:l.length≤9223372036854775807):FnC Try.prog 29 [] [sEv l] [] (bl (fewE l)):=by
 refine FnC.go ok29 rfl ?_
 refine WL.sreg (by simp;rfl) (by simp;rfl) ?_
 refine WL.seq (WL.sreg (by simp;rfl) (by simp;rfl) ?_)
 refine WL.block (WL.count l.length (fun i=>[(0,0,sEv l),(300,0,i64 i)]) (fun i=>∀ j (hj:j < l.length),j < i→shortE l[j]=true) (by simp) (fun j _ h=>absurd h (Nat.not_lt_zero _)) fun i hi hp=>?_)
 by_cases h:i < l.length
 ·have w:IntKind.wrap .i64 ((i:Int)+1)=((i+1:Nat):Int):=by rw[wrap_small (by omega) (by omega)];omega
  have f1:=fmE_drop (o:=false) (r:=false) h
  have g1:14≤l.length * 14 - i * 14:=by omega
  refine WL.seq (WL.sreg (by simp[h];rfl) (by simp;rfl) ?_)
  refine WL.cond (t:=true) (by simp[h]) (fun _=>WL.skip ?_) (by simp)
  have bad:shortE l[i]=false→fewE l=false:=fun hs=>by
   have:l.all shortE=false:=List.all_eq_false.2 ⟨_,List.getElem_mem h,by simp[hs]⟩
   simp[fewE,this]
  by_cases k:40 < l[i].op.Data.length
  ·have k':(40:Int) < l[i].op.Data.length:=by omega
   have hv:=bad (by simp[shortE];omega)
   refine WL.seq (WL.block (WL.sreg (by simp[h,f1,g1,k,k'];rfl) (by simp;rfl) ?_))
   refine WL.cond (t:=true) (by simp) (fun _=>WL.sreg (by simp;rfl) (by simp;rfl) (WL.ret ⟨.inr rfl,?_⟩)) (by simp)
   simp[fi29,hv]
  ·have k':¬ (40:Int) < l[i].op.Data.length:=by omega
   by_cases k2:40 < l[i].res.Data.length
   ·have k2':(40:Int) < l[i].res.Data.length:=by omega
    have hv:=bad (by simp[shortE];omega)
    refine WL.seq (WL.block (WL.sreg (by simp[h,f1,g1,k,k',k2,k2'];rfl) (by simp;rfl) ?_))
    refine WL.cond (t:=true) (by simp[k2,k2']) (fun _=>WL.sreg (by simp;rfl) (by simp;rfl) (WL.ret ⟨.inr rfl,?_⟩)) (by simp)
    simp[fi29,hv]
   ·have k2':¬ (40:Int) < l[i].res.Data.length:=by omega
    refine WL.seq (WL.block (WL.sreg (by simp[h,f1,g1,k,k',k2,k2'];rfl) (by simp;rfl) ?_))
    refine WL.cond (t:=false) (by simp[k2,k2']) (by simp) fun _=>WL.skip ?_
    refine WL.reg (RL.run (by simp[w];rfl) ⟨_,by simp;rfl,h,?_,fun j hj hji=>?_⟩)
    ·simp
    ·by_cases e:j=i
     ·subst e;simp[shortE];omega
     ·exact hp j hj (by omega)
 ·obtain rfl:i=l.length:=by omega
  have ha:l.all shortE=true:=List.all_eq_true.2 fun e he=>by
   obtain⟨j,hj,rfl⟩:=List.mem_iff_getElem.1 he
   exact hp j hj hj
  refine WL.seq (WL.sreg (by simp;rfl) (by simp;rfl) ?_)
  refine WL.cond (t:=false) (by simp) (by simp) fun _=>WL.exit ?_
  refine WL.sreg (by simp;rfl) (by simp;rfl) (WL.ret ⟨.inr rfl,?_⟩)
  simp[fi29,fewE,ha]
  try omega
theorem fewE_ok {l:List Ev}(h:fewE l=true):l.length≤60∧∀ e ∈ l,e.op.Data.length≤40∧e.res.Data.length≤40:=by
 simp only[fewE,Bool.and_eq_true,decide_eq_true_eq,List.all_eq_true,shortE] at h
 exact⟨h.2,fun e he=>h.1 e he⟩
end Go.OT
namespace Go.OT
open Go.Proofs
theorem goW_ok {σ:Type}(l:List Ev)(see:σ→Int→St→σ):∀ (o:List Int) (s:St) (a:σ),OkSt s→OkSt (goW l see s a o).2.1
 | [],s,a,h=>h
 | x :: r,s,a,h=>by
  simp only[goW]
  split
  ·exact goW_ok l see r _ _ (stepR_ok h _)
  ·exact h
theorem finF_ok {l:List Ev}{p c:Int}(h:(finF l p c).2=true):OkSt (finF l p c).1:=by
 unfold finF at h ⊢
 split at h
 ·rename_i h0
  rw[if_pos h0]
  cases hb:newBad p c with
  | true=>unfold chkF walkF at h0;rw[hb] at h0;simp at h0
  | false =>
   have hok:=newSt_ok' hb
   unfold walkF
   rw[hb]
   simp only[Bool.false_eq_true,if_false]
   split
   ·exact hok
   ·exact goW_ok _ _ _ _ _ hok
 ·cases h
theorem EvOk.of_few {l:List Ev}(h:fewE l=true):EvOk l:=by
 obtain⟨h1,h2⟩:=fewE_ok h
 exact⟨by omega,fun e he=>by have:=(h2 e he).1;omega⟩
end Go.OT
namespace Go.OT
open Go.Proofs
theorem noImm_all {α:Type}(f:α→AU)(h:∀ a,noImm (f a)=true):∀ l:List α,noImmL (l.map f)=true
 | []=>rfl
 | a :: l=>by simp only[List.map_cons,noImmL,h a,noImm_all f h l,Bool.and_self]
end Go.OT
namespace Go.OT
open Go.Proofs
theorem Step_hlen (s:St)(c:Nat)(q:Op):(Step s c q).1.Handles.length=s.Handles.length:=by
 simp only[Step]
 repeat' split
 all_goals simp
theorem DoB_hlen (s:St)(cl:Int)(q:Op):(DoB s cl q).2.1.Handles.length=s.Handles.length:=by
 unfold DoB
 repeat' split
 all_goals first | rfl | exact Step_hlen _ _ _
theorem stepR_hlen (s:St)(e:Ev):(stepR s e).2.Handles.length=s.Handles.length:=by
 unfold stepR
 split
 ·rfl
 ·exact DoB_hlen _ _ _
theorem times_client {l:List Ev}{u:Nat}{c:Int}(hu:u < l.length)(h:timesF l u c=true):0≤l[u].Client∧l[u].Client < c:=by
 rw[timesF_at hu] at h
 simp only[timesE,Bool.and_eq_true,Bool.not_eq_true'] at h
 have h1:=h.1
 simp only[tmBad,Bool.or_eq_false_iff,decide_eq_false_iff_not] at h1
 omega
theorem pastSee_ok (l:List Ev)(c fl:Int)(q:Nat):SeeN l c 154 [.vptr () [sEv l],.vptr () [i64 fl],.vptr () [i64 q],.ptr 1000000 0 [] 0,.ptr 1000100 0 [] 0] (fun a:Pst=>[sUU true a.1,bl a.2.1]) (fun a=>[bl a.2.2]) (seeP l fl q)
  (fun j a s=>a.1.length≤j∧q < s.There.length∧(s.Handles.length:Int)=c∧l.length≤1000) :=
 ⟨rfl,rfl,rfl,by simp,fun X k h=>by
  obtain⟨h1,b,h2⟩:=h (1000000,[]) (by simp)
  obtain⟨h3,d,h4⟩:=h (1000100,[]) (by simp)
  simp at h1 h2 h3 h4
  simp[h1,h2,h3,h4,gkey],fun j a s u hu ht hok hi hr=>by
  obtain⟨h1,h2,h3,h4⟩:=hi
  refine⟨?_,by rw[stepR_tlen];exact h2,by rw[stepR_hlen];exact h3,h4⟩
  simp only[seeP,seeB]
  split
  ·simp;omega
  ·omega,fun j a s u hu hj ht hok hi hr=>by
  obtain⟨h1,h2,h3,h4⟩:=hi
  have hc:=times_client hu ht
  exact pasts1_fn l fl q a (stepR s l[u]).2 (stepR_ok hok _) (by rw[stepR_tlen];exact h2) u hu (by omega) hc.1 (by rw[stepR_hlen,h3];exact hc.2)⟩
theorem goW_hlen {σ:Type}(l:List Ev)(see:σ→Int→St→σ):∀ (o:List Int) (s:St) (a:σ),(goW l see s a o).2.1.Handles.length=s.Handles.length
 | [],s,a=>rfl
 | x :: r,s,a=>by
  simp only[goW]
  split
  ·rw[goW_hlen l see r,stepR_hlen]
  ·rfl
def pastF (l:List Ev)(p c fl:Int)(q:Nat):List (List UInt8) × Bool :=
 ((walkF (seeP l fl q) ([],false,false) l p c).2.2.1,(walkF (seeP l fl q) ([],false,false) l p c).2.2.2.1 || l.any fun e=>decide (e.Stamp=0) && wrF e (finF l p c).1 q)
theorem noImmUU (l:List (List UInt8)):noImmL (l.map (sU true))=true:=noImm_all (sU true) (fun a=>by simp only[noImm,noImmU,Bool.and_self]) l
abbrev ptS (l:List Ev)(p c:Int)(q:Nat)(bs:List (List UInt8))(tn:Bool)(S:St)(fb:Bool)(i:Nat):SL :=
 [(800,0,.bptr 8 1 0),(801,0,i64 q),(899,1,.non),(1000,0,.bptr 10 1 0),(1001,0,.sl true () 1 0 []),(1002,0,bl false),(1099,1,.non),(1100,0,.bx true () [sUU true bs,bl tn])] ++ (rcF 13 S ++ [(2900,0,sEv l),(3000,0,i64 l.length),(3100,0,i64 i)])
set_option maxHeartbeats 16000000 in
theorem past_fn (l:List Ev)(hE:EvOk l)(p c:Int)(h0:chkF l p c=0)(q:Nat)(hq:(q:Int) < p)(fl:Int):FnC Try.prog 116 [] [sEv l,i64 p,i64 c,i64 q,i64 fl] [] (.agg [sUU true (pastF l p c fl q).1,bl (pastF l p c fl q).2]):=by
 have hn:=hE.n
 obtain⟨hb,hw0,hg0,htm⟩:=walk_goW (seeP l fl q) ([],false,false) h0
 have hp1:1≤p∧p≤48∧1≤c∧c≤6:=by
  simp only[newBad,Bool.or_eq_false_iff,decide_eq_false_iff_not] at hb
  omega
 have en:newSt p c=⟨List.replicate p.toNat false,List.replicate p.toNat z16,List.replicate c.toNat [-1,-1,-1,-1,-1,-1]⟩:=by unfold newSt;rw[hb];rfl
 have hw:=walk_fnTN hE (pastSee_ok l c fl q) p ([],false,false) (fun _=>⟨by simp,by rw[en];simp;omega,by rw[en];simp;omega,hE.n⟩)
 have hf:=fin_fn l hE p c
 have eP:pastF l p c fl q=((walkF (seeP l fl q) ([],false,false) l p c).2.2.1,(walkF (seeP l fl q) ([],false,false) l p c).2.2.2.1 || l.any fun e=>decide (e.Stamp=0) && wrF e (finF l p c).1 q):=rfl
 have hSok:OkSt (finF l p c).1:=finF_ok (by unfold finF;rw[if_pos h0])
 have hSh:((finF l p c).1.Handles.length:Int)=c:=by
  have:=(walk_goW noSee () h0).2.1
  unfold finF
  rw[if_pos h0,this]
  simp only[goW_hlen,en,List.length_replicate]
  omega
 rw[eP]
 clear eP
 have hcode:=walkF_code (seeP l fl q) ([],false,false) l p c
 generalize walkF (seeP l fl q) ([],false,false) l p c=W at hw hcode ⊢
 obtain⟨code,sw,bs,tn,ws⟩:=W
 generalize finF l p c=F at hf hSok hSh ⊢
 obtain⟨S,fb⟩:=F
 simp only at hw hf hSok hSh ⊢
 simp only[Sh.gs,Sh.fv] at hw
 refine FnC.go ok116 rfl ?_
 refine WL.sreg (by simp;rfl) (by simp;rfl) ?_
 refine WL.sreg (by simp;rfl) (by simp;rfl) ?_
 refine WL.sreg (by simp;rfl) (by simp;rfl) ?_
 refine WL.raise 11 2 (by simp) (by simp;rfl) (by simp) ?_
 refine WL.raise 12 1 (by simp) (by simp;rfl) (by simp) ?_
 refine WL.sregC (RL.o (by simp;rfl) (RL.callK true [(1100,[]),(1200,[])] hw (by simp) (by simp) (by simp[gkey,lendE]) (by simp[noImmUU]) (by simp) (RL.nil ⟨_,by simp;rfl,?_⟩)))
 refine WL.sregC (RL.o (by simp;rfl) (RL.call0 false hf (by simp) (by simp) (RL.o (by simp;rfl) (RL.nil ⟨_,by simp;rfl,?_⟩))))
 refine WL.seq (WL.sreg (by simp;rfl) (by simp;rfl) ?_)
 refine WL.block (WL.count l.length (fun i=>ptS l p c q bs (tn || (l.take i).any fun e=>decide (e.Stamp=0) && wrF e S q) S fb i) (fun _=>True) (by simp) trivial fun i hi _=>?_)
 by_cases h:i < l.length
 ·have w:IntKind.wrap .i64 ((i:Int)+1)=((i+1:Nat):Int):=by rw[wrap_small (by omega) (by omega)];omega
  have f1:=fmE_drop (o:=false) (r:=false) h
  have g1:14≤l.length * 14 - i * 14:=by omega
  have hcl:=times_client h (htm i h)
  have hwr:=wrote_fn l[i] S hSok hcl.1 (by omega) (q:Int)
  have e1:(tn || (l.take (i+1)).any fun e=>decide (e.Stamp=0) && wrF e S q)=((tn || (l.take i).any fun e=>decide (e.Stamp=0) && wrF e S q) || (decide (l[i].Stamp=0) && wrF l[i] S q)):=by
   rw[List.take_succ_eq_append_getElem h,List.any_append]
   simp[Bool.or_assoc]
  rw[e1]
  generalize (tn || (l.take i).any fun e=>decide (e.Stamp=0) && wrF e S q)=x
  refine WL.sreg (by simp[h];rfl) (by simp;rfl) ?_
  refine WL.seq (WL.cond (t:=true) (by simp[h]) (fun _=>WL.skip ?_) (by simp))
  refine WL.seq (WL.block (WL.sreg (by simp[h,f1,g1];rfl) (by simp;rfl) ?_))
  generalize l[i]=e at *
  have fin:∀ x',x'=(x || (decide (e.Stamp=0) && wrF e S q))→∀ L,L=ptS l p c q bs x' S fb i→WL Try.prog fi116.nt c116_1 L (Ex.thenL (fun L'=>i < l.length∧L'=ptS l p c q bs (x || (decide (e.Stamp=0) && wrF e S q)) S fb (i+1)∧True) (Ex.blkL 0 (Ex.thenL (fun L'=>WL Try.prog fi116.nt c116_6 L' fun e L=>(e=Ex.nrm∨e=Ex.ret)∧RetOk fi116.rs [] (AV.agg [sUU true bs,bl (tn || l.any fun e=>decide (e.Stamp=0) && wrF e S q)]) L) fun e L=>(e=Ex.nrm∨e=Ex.ret)∧RetOk fi116.rs [] (AV.agg [sUU true bs,bl (tn || l.any fun e=>decide (e.Stamp=0) && wrF e S q)]) L))):=fun x' hx L hL=>by
   subst hL hx
   exact WL.reg (RL.run (by simp[w];rfl) ⟨_,by simp;rfl,h,by simp,trivial⟩)
  cases x with
  | true =>
   refine WL.reg (RL.o (by simp;rfl) (RL.g (by simp;rfl) (RL.g (by simp;rfl) (RL.callN (by simp) (RL.g (by simp;rfl) (RL.o (by simp;rfl) (RL.nil ⟨_,by simp;rfl,fin true (by simp) _ ?_⟩)))))))
   simp
  | false =>
   by_cases k:e.Stamp=0
   ·have k':(e.Stamp == 0)=true:=by simp[k]
    refine WL.reg (RL.o (by simp;rfl) (RL.g (by simp[k'];rfl) (RL.g (by simp;rfl) (RL.callY0 false (by simp) hwr (by simp) (by simp) (RL.g (by simp;rfl) (RL.o (by simp;rfl) (RL.nil ⟨_,by simp;rfl,fin (wrF e S q) (by simp[k]) _ ?_⟩)))))))
    simp
   ·have k':(e.Stamp == 0)=false:=beq_false_of_ne k
    refine WL.reg (RL.o (by simp;rfl) (RL.g (by simp[k'];rfl) (RL.g (by simp;rfl) (RL.callN (by simp) (RL.g (by simp;rfl) (RL.o (by simp;rfl) (RL.nil ⟨_,by simp;rfl,fin false (by simp[k]) _ ?_⟩)))))))
    simp
 ·obtain rfl:i=l.length:=by omega
  rw[List.take_length]
  generalize (tn || l.any fun e=>decide (e.Stamp=0) && wrF e S q)=x
  refine WL.sreg (by simp;rfl) (by simp;rfl) ?_
  refine WL.seq (WL.cond (t:=false) (by simp) (by simp) fun _=>WL.exit ?_)
  refine WL.sreg (by simp;rfl) (by simp;rfl) (WL.ret ⟨.inr rfl,?_⟩)
  simp[fi116]
end Go.OT
