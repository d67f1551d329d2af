/- Part 10 of the proof: see its last file. -/
import Derived.Orders
import Derived.Below
import Derived.Laws.Entries
import Derived.Laws.Cells
import Derived.Laws.IdiomCopy
import Derived.Scope
import Derived.Calls
import Derived.Laws.Tables
import Derived.Laws.MakeOwn
import Derived.Laws.BytesString
import Derived.ArgAppend
import Derived.WalkSpells
import Derived.Lib.SlBytesConst
import Derived.Lib.ConvBytes
import Derived.WalkKit
import Derived.ProofKit
import Derived.OpenShut
import Derived.ShutString
import Derived.ChangeOld
import Derived.Lib.SmallJoins
import Derived.Test.YtlcemfnjhdcmoaaProg
import Derived.KernelRfl
import Derived.IntWalk
import Derived.Lib.Strings
import Derived.Test.YtlcemfnjhdcmoaaWl09
set_option linter.unusedSimpArgs false
set_option linter.unusedVariables false
namespace Go.OT
open Go.Proofs
def z8c (k code:Int):Bool:=if code=8 then decide (k=1) || decide (k=2) else if code=9 then decide (k=1) || (decide (k=2) || (decide (k=6) || decide (k=7))) else if code=10 then decide (k=2) else false
set_option maxHeartbeats 8000000 in
theorem zpx (q:Op)(code:Int):FnC Try.prog 37 [] [zqz false q,i64 code] [] (bl (z8c q.Kind code)):=by
 refine FnC.go yyw rfl ?_
 refine WL.sreg (by simp;rfl) (by simp;rfl) ?_
 refine WL.seq (WL.sreg (by simp;rfl) (by simp;rfl) ?_)
 refine WL.block ?_
 by_cases c8:code=8
 ·refine WL.sreg (by simp[c8];rfl) (by simp;rfl) (WL.cond (t:=true) (by simp) (fun _=>?_) (by simp))
  by_cases k1:q.Kind=1
  ·refine WL.sreg (by simp[k1];rfl) (by simp;rfl) (WL.ret ⟨.inr rfl,?_⟩)
   simp[zsk,z8c,c8,k1]
  ·refine WL.sreg (by simp[beq_false_of_ne k1];rfl) (by simp;rfl) (WL.ret ⟨.inr rfl,?_⟩)
   by_cases k2:q.Kind=2<;>simp [zsk,z8c,c8,k1,k2]
 refine WL.sreg (by simp[beq_false_of_ne c8];rfl) (by simp;rfl) (WL.cond (t:=false) (by simp[c8]) (by simp) fun _=>?_)
 by_cases c9:code=9
 ·refine WL.sreg (by simp[c9];rfl) (by simp;rfl) (WL.cond (t:=true) (by simp) (fun _=>?_) (by simp))
  by_cases k1:q.Kind=1
  ·refine WL.sreg (by simp[k1];rfl) (by simp;rfl) (WL.ret ⟨.inr rfl,?_⟩)
   simp[zsk,z8c,c9,k1]
  ·by_cases k2:q.Kind=2
   ·refine WL.sreg (by simp[beq_false_of_ne k1,k2];rfl) (by simp;rfl) (WL.ret ⟨.inr rfl,?_⟩)
    simp[zsk,z8c,c9,k1,k2]
   ·by_cases k6:q.Kind=6
    ·refine WL.sreg (by simp[beq_false_of_ne k1,beq_false_of_ne k2,k6];rfl) (by simp;rfl) (WL.ret ⟨.inr rfl,?_⟩)
     simp[zsk,z8c,c9,k1,k2,k6]
    ·refine WL.sreg (by simp[beq_false_of_ne k1,beq_false_of_ne k2,beq_false_of_ne k6];rfl) (by simp;rfl) (WL.ret ⟨.inr rfl,?_⟩)
     by_cases k7:q.Kind=7<;>simp [zsk,z8c,c9,k1,k2,k6,k7]
 refine WL.sreg (by simp[beq_false_of_ne c9];rfl) (by simp;rfl) (WL.cond (t:=false) (by simp[c9]) (by simp) fun _=>?_)
 by_cases c10:code=10
 ·refine WL.sreg (by simp[c10];rfl) (by simp;rfl) (WL.cond (t:=true) (by simp) (fun _=>?_) (by simp))
  refine WL.sreg (by simp;rfl) (by simp;rfl) (WL.ret ⟨.inr rfl,?_⟩)
  by_cases k2:q.Kind=2<;>simp [zsk,z8c,c10,k2]
 refine WL.sreg (by simp[beq_false_of_ne c10];rfl) (by simp;rfl) (WL.cond (t:=false) (by simp[c10]) (by simp) fun _=>WL.skip ?_)
 refine WL.sreg (by simp;rfl) (by simp;rfl) (WL.ret ⟨.inr rfl,?_⟩)
 simp[zsk,z8c,c8,c9,c10]
def z3s (l:List Ev)(i:Nat)(e:Ev):Bool:=decide (0 < i) && decide (e.Begin < (l.getD (i - 1) e).Begin)
def z4z (l:List Ev)(i:Nat)(c:Int)(e:Ev):Bool:=decide (e.Client < 0) || (decide (c≤e.Client) || (decide (e.Begin < 1) || (z3s l i e || decide (e.End < 0))))
def z1h (e:Ev):Bool:=(decide (0 < e.End) && (decide (e.Stamp < e.Begin) || decide (e.End < e.Stamp))) || (decide (e.End=0) && (decide (e.Stamp ≠ 0) && decide (e.Stamp < e.Begin)))
def z1t (e o:Ev):Bool:=decide (o.Client=e.Client) && (decide (o.End < 1) || decide (e.Begin≤o.End))
def z26 (l:List Ev)(i:Nat)(c:Int)(e:Ev):Bool:=!z4z l i c e && (!z1h e && !(l.take i).any (z1t e))
def z1u (l:List Ev)(i:Nat)(c:Int):Bool:=match l[i]? with
 | some e=>z26 l i c e
 | none=>true
theorem z63 {l:List Ev}{i:Nat}(h:i < l.length)(c:Int):z1u l i c=z26 l i c l[i]:=by
 simp[z1u,h]
abbrev bxE (b:Nat)(e:Ev):SL:=[(100 * b,0,.bptr b 1 0),(100 * b+1,0,i64 e.Client),(100 * b+2,0,i64 e.op.Kind),(100 * b+3,0,i64 e.op.Page),(100 * b+4,0,i64 e.op.Handle),(100 * b+5,0,i64 e.op.Off),(100 * b+6,0,i64 e.op.N),(100 * b+7,0,sU false e.op.Data),(100 * b+8,0,i64 e.res.Code),(100 * b+9,0,i64 e.res.Page),(100 * b+10,0,i64 e.res.Handle),(100 * b+11,0,sU false e.res.Data),(100 * b+12,0,i64 e.Begin),(100 * b+13,0,i64 e.Stamp),(100 * b+14,0,i64 e.End),(100 * b+99,1,.non)]
abbrev tmS (l:List Ev)(i:Nat)(r:SL):SL:=[(0,0,sEv l),(100,0,i64 i)] ++ r
abbrev tmQ (v:Bool):Ex→SL→Prop:=fun e L=>e=Ex.ret∧RetOk z4k.rs [] (bl v) L
theorem zt6 (o r:Bool)(l:List Ev)(i:Nat):(l.flatMap (z02 o r)).take (i * 14)=(l.take i).flatMap (z02 o r):=by
 induction l generalizing i with
 | nil=>simp
 | cons a l ih =>
  cases i with
  | zero=>simp
  | succ i =>
   rw[List.flatMap_cons,List.take_append,List.take_of_length_le (by simp;omega),List.take_succ_cons,List.flatMap_cons]
   congr 1
   have:(i+1) * 14 - (z02 o r a).length=i * 14:=by simp;omega
   rw[this,ih]
theorem z8d {α:Type}{p:α→Bool}{l:List α}{k:Nat}(h:k < l.length)(hp:(l.take k).any p=false)(hk:p l[k]=false):(l.take (k+1)).any p=false:=by
 rw[z6s h,List.any_append,hp]
 simp[hk]
theorem zgo {α:Type}{p:α→Bool}{l:List α}{k:Nat}(h:k < l.length)(hk:p l[k]=true):l.any p=true:=List.any_eq_true.2 ⟨_,List.getElem_mem h,hk⟩
abbrev tmT (m:List Ev)(e:Ev)(k:Nat):SL:=bxE 7 e ++ [(8500,0,sEv m),(8600,0,i64 m.length),(8700,0,i64 k)]
set_option maxHeartbeats 16000000 in
theorem zlk (l:List Ev)(hn:l.length≤1000)(i:Nat)(hi:i < l.length)(e:Ev):WL Try.prog z4k.nt zbh (tmS l i (bxE 7 e ++ [(6700,0,bl false)])) (tmQ (!(l.take i).any (z1t e))):=by
 have hlen:=z32 false false l
 have htk:=zt6 false false l i
 have hmi:min i l.length=i:=by omega
 obtain⟨m,hm⟩:∃ m,m=l.take i:=⟨_,rfl⟩
 have hml:m.length=i:=by rw[hm,List.length_take];omega
 refine WL.seq (WL.label ?_)
 refine WL.seq (WL.sreg (by simp[hi,Nat.le_of_lt hi,htk];rfl) (by simp;rfl) ?_)
 rw[← hm]
 refine WL.block (WL.count m.length (fun k=>tmT m e k) (fun k=>(m.take k).any (z1t e)=false) (by simp[hml]) (by simp) fun k hk hp=>?_)
 by_cases hlt:k < m.length
 ·have f1:=z1d (o:=false) (r:=false) hlt
  have g1:14≤m.length * 14 - k * 14:=by omega
  have w:IntKind.wrap .i64 ((k:Int)+1)=((k+1:Nat):Int):=by rw[z01 (by omega) (by omega)];omega
  refine WL.sreg (by simp[hlt];rfl) (by simp;rfl) ?_
  refine WL.seq (WL.cond (t:=true) (by simp[hlt]) (fun _=>WL.skip ?_) (by simp))
  refine WL.seq (WL.block (WL.sreg (by simp[hlt,f1,g1];rfl) (by simp;rfl) ?_))
  have next:∀ (h:z1t e m[k]=false),WL Try.prog z4k.nt zox (tmT m e k) (Ex.thenL (fun L'=>k < m.length∧L'=tmT m e (k+1)∧(m.take (k+1)).any (z1t e)=false) (Ex.blkL 1 (Ex.thenL (fun L'=>WL Try.prog z4k.nt zoy L' (tmQ (!m.any (z1t e)))) (tmQ (!m.any (z1t e)))))):=fun h=>by
   refine WL.reg (RL.run (by simp[w];rfl) ⟨_,by simp;rfl,hlt,?_,z8d hlt hp h⟩)
   simp
  have stop:∀ (h:z1t e m[k]=true) (L:SL),L=tmT m e k ++ [(10500,0,bl true)]→WL Try.prog z4k.nt zui (tmT m e k ++ [(10500,0,bl true)]) (tmQ (!m.any (z1t e))):=fun h L _=>by
   rw[zgo hlt h]
   refine WL.sreg (by simp;rfl) (by simp;rfl) (WL.ret ⟨rfl,?_⟩)
   simp[z4k]
  generalize ho:m[k]=o at next stop ⊢
  by_cases c1:o.Client=e.Client
  ·have c1':(o.Client != e.Client)=false:=by simp[c1]
   refine WL.seq (WL.sreg (by simp[c1'];rfl) (by simp;rfl) ?_)
   refine WL.cond (t:=false) (by simp) (by simp) fun _=>WL.skip ?_
   by_cases c2:o.End < 1
   ·refine WL.sreg (by simp[c2];rfl) (by simp;rfl) ?_
    refine WL.cond (t:=true) (by simp) (fun _=>?_) (by simp)
    refine WL.mono (Q':=tmQ (!m.any (z1t e))) ?_ fun x L h=>?_
    ·exact stop (by simp[z1t,c1,c2]) _ rfl
    ·obtain⟨rfl,h⟩:=h;exact⟨rfl,h⟩
   ·by_cases c3:e.Begin≤o.End
    ·refine WL.sreg (by simp[c2,c3];rfl) (by simp;rfl) ?_
     refine WL.cond (t:=true) (by simp) (fun _=>?_) (by simp)
     refine WL.mono (Q':=tmQ (!m.any (z1t e))) ?_ fun x L h=>?_
     ·exact stop (by simp[z1t,c1,c2,c3]) _ rfl
     ·obtain⟨rfl,h⟩:=h;exact⟨rfl,h⟩
    ·refine WL.sreg (by simp[c2,c3];rfl) (by simp;rfl) ?_
     refine WL.cond (t:=false) (by simp) (by simp) fun _=>WL.skip ?_
     have:=next (by simp[z1t,c1,c2,c3])
     refine WL.fin [105] (by simp;rfl) ?_
     exact this
  ·have c1':(o.Client != e.Client)=true:=by simp[c1]
   refine WL.seq (WL.sreg (by simp[c1'];rfl) (by simp;rfl) ?_)
   refine WL.cond (t:=true) (by simp) (fun _=>WL.exit ?_) (by simp)
   have:=next (by simp[z1t,c1])
   refine WL.fin [9,95] (by simp;rfl) ?_
   exact this
 ·obtain rfl:k=m.length:=by omega
  rw[List.take_length] at hp
  refine WL.sreg (by simp;rfl) (by simp;rfl) ?_
  refine WL.seq (WL.cond (t:=false) (by simp) (by simp) fun _=>WL.exit ?_)
  rw[hp]
  refine WL.sreg (by simp;rfl) (by simp;rfl) (WL.ret ⟨rfl,?_⟩)
  simp[z4k]
end Go.OT
namespace Go.OT
open Go.Proofs
def z5l (r:Rs):Bool:=decide (r.Page=0) && (decide (r.Handle=0) && decide (r.Data=[]))
def z0u (s:St)(e:Ev):Bool × St :=
 if (decide (0 < e.End) && z8c e.op.Kind e.res.Code)=true then (z5l e.res,s) else (decide (e.End=0) || z1b (DoB s e.Client e.op).2.2 e.res,(DoB s e.Client e.op).2.1)
def z1x (s:St)(e:Ev):Option St :=
 if (decide (e.End=0) || z1b (DoB s e.Client e.op).2.2 e.res)=true then some (DoB s e.Client e.op).2.1
 else if (!z8c e.op.Kind e.res.Code || !z1b e.res (rsE e.res.Code))=true then none else some s
theorem zpy (s:St)(c:Nat)(q:Op):(z4j s c q).2.Code=0:=by
 simp only[z4j]
 repeat' split
 all_goals rfl
theorem zpz (s:St)(l:List Int)(q:Op):0≤z06 s l q∧z06 s l q≤7:=by
 simp only[z06]
 repeat' split
 all_goals decide
theorem zk3 (s:St)(cl:Int)(q:Op):0≤(DoB s cl q).2.2.Code∧(DoB s cl q).2.2.Code≤7:=by
 unfold DoB
 split
 ·simp[rsE]
 ·split
  ·rw[zpy];exact⟨by decide,by decide⟩
  ·exact zpz _ _ _
theorem zgp {k c:Int}(h:z8c k c=true):8≤c:=by
 unfold z8c at h
 split at h
 ·omega
 ·split at h
  ·omega
  ·split at h
   ·omega
   ·cases h
theorem zk4 (s:St)(e:Ev)(h0:0≤e.End):z1x s e=if (z0u s e).1=true then some (z0u s e).2 else none:=by
 have hc:=zk3 s e.Client e.op
 unfold z1x z0u
 by_cases p0:e.End=0
 ·have p1:¬ (0 < e.End):=by omega
  simp[p0]
 ·have p1:0 < e.End:=by omega
  cases hb:z8c e.op.Kind e.res.Code with
  | true =>
   have h8:=zgp hb
   have hs:z1b (DoB s e.Client e.op).2.2 e.res=false:=by
    have:((DoB s e.Client e.op).2.2.Code == e.res.Code)=false:=beq_false_of_ne (by omega)
    simp[z1b,this]
   have hp:z1b e.res (rsE e.res.Code)=z5l e.res:=by
    simp[z1b,z5l,rsE]
    by_cases z1:e.res.Page=0<;>by_cases z2:e.res.Handle=0<;>by_cases z3:e.res.Data=[]<;>simp [z1,z2,z3]
   simp only[hs,hp,p0,p1,decide_true,decide_false,Bool.or_false,Bool.not_true,Bool.false_or,Bool.true_and,if_true]
   cases z5l e.res<;>simp
  | false =>
   simp only[p0,p1,decide_true,decide_false,Bool.and_false,Bool.not_false,Bool.true_or,Bool.false_or,if_true,Bool.false_eq_true,if_false]
def atE (l:List Ev)(x:Int):Ev:=(l[x.toNat]?).getD ⟨0,⟨0,0,0,0,0,[]⟩,⟨0,0,0,[]⟩,0,0,0⟩
theorem z56 {l:List Ev}{i:Nat}(h:i < l.length):atE l (i:Int)=l[i]:=by simp[atE,h]
def goW {σ:Type}(l:List Ev)(see:σ→Int→St→σ):St→σ→List Int→Int × St × σ
 | s,a,[]=>(0,s,a)
 | s,a,x :: r=>if (z0u s (atE l x)).1=true then goW l see (z0u s (atE l x)).2 (see a x (z0u s (atE l x)).2) r else (x+1,s,a)
theorem za9 {σ τ:Type}(l:List Ev)(f:σ→Int→St→σ)(g:τ→Int→St→τ):∀ (o:List Int) (s:St) (a:σ) (b:τ),(goW l f s a o).1=(goW l g s b o).1∧(goW l f s a o).2.1=(goW l g s b o).2.1
 | [],s,a,b=>⟨rfl,rfl⟩
 | x :: r,s,a,b=>by
  simp only[goW]
  split
  ·exact za9 l f g r _ _ _
  ·exact⟨rfl,rfl⟩
theorem zk5 (l:List Ev):∀ (o:List Int) (s:St),(goW l (fun _ _ t=>t) s s o).2.2=(goW l (fun _ _ t=>t) s s o).2.1
 | [],s=>rfl
 | x :: r,s=>by
  simp only[goW]
  split
  ·exact zk5 l r _
  ·rfl
def z4t (l:List Ev)(c:Int):Option Nat:=(List.range l.length).find? fun i=>!z1u l i c
theorem z40 {l:List Ev}{c:Int}{i:Nat}(hi:i < l.length)(h:∀ j,j < i→z1u l j c=true)(hb:z1u l i c=false):z4t l c=some i:=by
 unfold z4t
 rw[List.find?_range_eq_some]
 exact⟨by simp[hb],List.mem_range.2 hi,fun j hj=>by simp[h j hj]⟩
theorem z33 {l:List Ev}{c:Int}(h:∀ j,j < l.length→z1u l j c=true):z4t l c=none:=by
 unfold z4t
 rw[List.find?_eq_none]
 intro j hj
 simp[h j (List.mem_range.1 hj)]
theorem zgq {l:List Ev}{c:Int}(h:z4t l c=none):∀ j,j < l.length→z1u l j c=true:=by
 unfold z4t at h
 rw[List.find?_eq_none] at h
 intro j hj
 simpa using h j (List.mem_range.2 hj)
def z12 {σ:Type}(see:σ→Int→St→σ)(a:σ)(l:List Ev)(p c:Int):Int × St × σ :=
 if z0q p c=true then (-1,z0p p c,a) else match z4t l c with
  | some i=>(i+1,z0p p c,a)
  | none=>goW l see (z0p p c) a (z0r l)
def z36:Unit→Int→St→Unit:=fun _ _ _=>()
def z5m (l:List Ev)(p c:Int):Int:=(z12 z36 () l p c).1
def z50 (l:List Ev)(p c:Int):St × Bool:=if z5m l p c=0 then ((z12 z36 () l p c).2.1,true) else (⟨[],[],[]⟩,false)
theorem z57 {σ:Type}(see:σ→Int→St→σ)(a:σ)(l:List Ev)(p c:Int):(z12 see a l p c).1=z5m l p c:=by
 unfold z5m z12
 split
 ·rfl
 ·split
  ·rfl
  ·exact (za9 l see z36 _ _ a ()).1
theorem zll (l:List Ev)(p c:Int):(z12 (fun _ _ t=>t) (z0p p c) l p c).2.2=(z12 z36 () l p c).2.1:=by
 unfold z12
 split
 ·rfl
 ·split
  ·rfl
  ·rw[zk5];exact (za9 l _ z36 _ _ _ ()).2
theorem z4u {s:St}(h:OkSt s)(e:Ev):OkSt (z0u s e).2:=by
 unfold z0u
 split
 ·exact h
 ·exact h.doB _ _
structure EvOk (l:List Ev):Prop where
 n:l.length≤1000
 d:∀ e ∈ l,e.op.Data.length≤1000
end Go.OT
namespace Go.OT
open Go.Proofs
set_option maxHeartbeats 8000000 in
theorem zq0 (q:Op)(code:Int):FnC Try.prog 38 [] [zqz false q,i64 code] [] (bl (z8c q.Kind code)):=by
 refine FnC.go yyx rfl ?_
 refine WL.sreg (by simp;rfl) (by simp;rfl) ?_
 refine WL.seq (WL.sreg (by simp;rfl) (by simp;rfl) ?_)
 refine WL.block ?_
 by_cases c8:code=8
 ·refine WL.sreg (by simp[c8];rfl) (by simp;rfl) (WL.cond (t:=true) (by simp) (fun _=>?_) (by simp))
  by_cases k1:q.Kind=1
  ·refine WL.sreg (by simp[k1];rfl) (by simp;rfl) (WL.ret ⟨.inr rfl,?_⟩)
   simp[zsl,z8c,c8,k1]
  ·refine WL.sreg (by simp[beq_false_of_ne k1];rfl) (by simp;rfl) (WL.ret ⟨.inr rfl,?_⟩)
   by_cases k2:q.Kind=2<;>simp [zsl,z8c,c8,k1,k2]
 refine WL.sreg (by simp[beq_false_of_ne c8];rfl) (by simp;rfl) (WL.cond (t:=false) (by simp[c8]) (by simp) fun _=>?_)
 by_cases c9:code=9
 ·refine WL.sreg (by simp[c9];rfl) (by simp;rfl) (WL.cond (t:=true) (by simp) (fun _=>?_) (by simp))
  by_cases k1:q.Kind=1
  ·refine WL.sreg (by simp[k1];rfl) (by simp;rfl) (WL.ret ⟨.inr rfl,?_⟩)
   simp[zsl,z8c,c9,k1]
  ·by_cases k2:q.Kind=2
   ·refine WL.sreg (by simp[beq_false_of_ne k1,k2];rfl) (by simp;rfl) (WL.ret ⟨.inr rfl,?_⟩)
    simp[zsl,z8c,c9,k1,k2]
   ·by_cases k6:q.Kind=6
    ·refine WL.sreg (by simp[beq_false_of_ne k1,beq_false_of_ne k2,k6];rfl) (by simp;rfl) (WL.ret ⟨.inr rfl,?_⟩)
     simp[zsl,z8c,c9,k1,k2,k6]
    ·refine WL.sreg (by simp[beq_false_of_ne k1,beq_false_of_ne k2,beq_false_of_ne k6];rfl) (by simp;rfl) (WL.ret ⟨.inr rfl,?_⟩)
     by_cases k7:q.Kind=7<;>simp [zsl,z8c,c9,k1,k2,k6,k7]
 refine WL.sreg (by simp[beq_false_of_ne c9];rfl) (by simp;rfl) (WL.cond (t:=false) (by simp[c9]) (by simp) fun _=>?_)
 by_cases c10:code=10
 ·refine WL.sreg (by simp[c10];rfl) (by simp;rfl) (WL.cond (t:=true) (by simp) (fun _=>?_) (by simp))
  refine WL.sreg (by simp;rfl) (by simp;rfl) (WL.ret ⟨.inr rfl,?_⟩)
  by_cases k2:q.Kind=2<;>simp [zsl,z8c,c10,k2]
 refine WL.sreg (by simp[beq_false_of_ne c10];rfl) (by simp;rfl) (WL.cond (t:=false) (by simp[c10]) (by simp) fun _=>WL.skip ?_)
 refine WL.sreg (by simp;rfl) (by simp;rfl) (WL.ret ⟨.inr rfl,?_⟩)
 simp[zsl,z8c,c8,c9,c10]
abbrev spS (s:St)(e:Ev)(r:SL):SL:=[(200,0,.bptr 2 1 0),(201,0,.view 1000000 0 [] 0 s.There.length),(202,0,.view 1000100 0 [] 0 s.Body.length),(203,0,.view 1000200 0 [] 0 s.Handles.length),(299,1,.non)] ++ (bxE 3 e ++ (r ++ ghT s))
abbrev spQ (s':St)(v:Bool):Ex→SL→Prop:=fun e L=>e=Ex.ret∧RetOk zue.rs (gsT s') (bl v) L
set_option maxHeartbeats 16000000 in
theorem zlm (s:St)(h:OkSt s)(e:Ev)(hD:e.op.Data.length≤1000):WL Try.prog zue.nt yed (spS s e [(1600,0,bl false)]) (spQ (DoB s e.Client e.op).2.1 (decide (e.End=0) || z1b (DoB s e.Client e.op).2.2 e.res)):=by
 have hdo:=zeb s h e.Client e.op (by unfold z0c;omega)
 generalize DoB s e.Client e.op=dd at hdo ⊢
 obtain⟨o',t,r⟩:=dd
 simp only at hdo ⊢
 refine WL.sregC (RL.o (by simp;rfl) ?_)
 refine RL.call true [(1000000,[]),(1000100,[]),(1000200,[])] hdo (by simp) (by simp) (by simp[z35]) (zia s t r) ?_
 refine RL.o (by simp;rfl) (RL.nil ⟨_,by simp;rfl,?_⟩)
 by_cases p:e.End=0
 ·have z:(e.End == 0)=true:=by simp[p]
  refine WL.sregC (RL.o (by simp[z];rfl) (RL.g (by simp;rfl) (RL.callN (by simp) (RL.o (by simp;rfl) (RL.nil ⟨_,by simp;rfl,WL.ret ⟨rfl,?_⟩⟩)))))
  simp[zue,p]
 ·have z:(e.End == 0)=false:=beq_false_of_ne p
  refine WL.sregC (RL.o (by simp[z];rfl) (RL.g (by simp;rfl) (RL.callY0 true (by simp) (zop r e.res) (by simp) (by simp) (RL.o (by simp;rfl) (RL.nil ⟨_,by simp;rfl,WL.ret ⟨rfl,?_⟩⟩)))))
  simp[zue,p]
set_option maxHeartbeats 16000000 in
theorem zd6 (s:St)(h:OkSt s)(e:Ev)(hD:e.op.Data.length≤1000):FnC Try.prog 90 (gsT s) [vwT s,.agg (z02 false false e)] (gsT (z0u s e).2) (bl (z0u s e).1):=by
 refine FnC.go yz2 rfl ?_
 refine WL.mono (Q':=spQ (z0u s e).2 (z0u s e).1) ?_ fun x L h=>⟨.inr h.1,h.2⟩
 refine WL.sregC (RL.boxW (by simp;rfl) (by simp) (by simp[zh2]) (by simp) (RL.o (by simp;rfl) (RL.nil ⟨_,by simp;rfl,?_⟩)))
 have hdo:=zlm s h e hD
 refine WL.seq ?_
 by_cases p:0 < e.End
 ·have hb:=zq0 e.op e.res.Code
  cases hbad:z8c e.op.Kind e.res.Code with
  | false =>
   rw[hbad] at hb
   refine WL.sregC (RL.o (by simp[p];rfl) (RL.g (by simp;rfl) (RL.callY0 false (by simp) hb (by simp) (by simp) (RL.o (by simp;rfl) (RL.nil ⟨_,by simp;rfl,?_⟩)))))
   refine WL.cond (t:=false) (by simp) (by simp) fun _=>WL.skip ?_
   simpa [z0u,p,hbad] using hdo
  | true =>
   rw[hbad] at hb
   refine WL.sregC (RL.o (by simp[p];rfl) (RL.g (by simp;rfl) (RL.callY0 false (by simp) hb (by simp) (by simp) (RL.o (by simp;rfl) (RL.nil ⟨_,by simp;rfl,?_⟩)))))
   refine WL.cond (t:=true) (by simp) (fun _=>?_) (by simp)
   by_cases z1:e.res.Page=0
   ·have y1:(e.res.Page == 0)=true:=by simp[z1]
    by_cases z2:e.res.Handle=0
    ·have y2:(e.res.Handle == 0)=true:=by simp[z2]
     refine WL.sreg (by simp[y1,y2];rfl) (by simp;rfl) (WL.ret ⟨rfl,?_⟩)
     by_cases z3:e.res.Data=[]<;>simp [zue,z0u,z5l,p,hbad,z1,z2,z3]
    ·have y2:(e.res.Handle == 0)=false:=beq_false_of_ne z2
     refine WL.sreg (by simp[y1,y2];rfl) (by simp;rfl) (WL.ret ⟨rfl,?_⟩)
     simp[zue,z0u,z5l,p,hbad,z1,z2]
   ·have y1:(e.res.Page == 0)=false:=beq_false_of_ne z1
    refine WL.sreg (by simp[y1];rfl) (by simp;rfl) (WL.ret ⟨rfl,?_⟩)
    simp[zue,z0u,z5l,p,hbad,z1]
 ·refine WL.sregC (RL.o (by simp[p];rfl) (RL.g (by simp;rfl) (RL.callN (by simp) (RL.o (by simp;rfl) (RL.nil ⟨_,by simp;rfl,?_⟩)))))
  refine WL.cond (t:=false) (by simp) (by simp) fun _=>WL.skip ?_
  simpa [z0u,p] using hdo
end Go.OT
namespace Go.OT
open Go.Proofs
@[simp] theorem ykc (L:SL) (d:Nat) (c:COd):z60 L (.asg d c)=true:=rfl
theorem zq1 (key:Int→Int)(x:Int):∀ (l:List Int) (k:Nat),k≤l.length→(∀ j (h:j < l.length),j < k→¬ key x < key l[j])→(∀ (h:k < l.length),key x < key l[k])→zh3 key x l=l.take k ++ x :: l.drop k
 | [],k,hk,_,_=>by simp[zh3]
 | y :: r,0,_,_,h2=>by
  have:=h2 (by simp)
  simp only[List.getElem_cons_zero] at this
  simp[zh3,this]
 | y :: r,k+1,hk,h1,h2=>by
  have:=h1 0 (by simp) (by omega)
  simp only[List.getElem_cons_zero] at this
  have ih:=zq1 key x r k (by simpa using hk) (fun j hj hjk=>by have:=h1 (j+1) (by simpa using hj) (by omega);simpa using this) (fun h=>by have:=h2 (by simpa using h);simpa using this)
  simp[zh3,this,ih]
abbrev ywq (l:List Ev)(i:Nat)(r:SL):SL:=[(0,0,sEv l),(300,0,sI true (zbj (z6t l) (z9p l i))),(400,0,i64 i)] ++ r
theorem zif {key:Int→Int}{O:List Int}(h:O.Pairwise (lexLt key)){j k:Nat}(hj:j≤k)(hk:k < O.length):key O[j]≤key O[k]:=by
 by_cases e:j=k
 ·subst e;exact Int.le_refl _
 ·have:=List.pairwise_iff_getElem.1 h j k (by omega) hk (by omega)
  unfold lexLt at this;omega
set_option maxHeartbeats 16000000 in
theorem zig (l:List Ev)(hn:l.length≤1000)(i:Nat)(hi:i < l.length)(hs:0 < l[i].Stamp)(Q:Ex→SL→Prop)(hq:Q .nrm [(0,0,sEv l),(300,0,sI true (zbj (z6t l) (z9p l (i+1)))),(400,0,i64 i)]) :
  WL Try.prog ymc.nt ycs (ywq l i [(1800,0,bl false)]) Q:=by
 obtain⟨sp1,sp2⟩:=z4b (z6t l) (z5j l i)
 have hnx:zbj (z6t l) (z9p l (i+1))=zh3 (z6t l) i (zbj (z6t l) (z9p l i)):=by
  rw[zbq,show (l.map (·.Stamp)).getD i 0=l[i].Stamp by simp[hi],if_pos hs,zp6]
 have hOl:(zbj (z6t l) (z9p l i)).length≤i:=by rw[sp1.length_eq];exact za5 l i
 have hmem:∀ j (h:j < (zbj (z6t l) (z9p l i)).length),∃ u:Nat,u < l.length∧(zbj (z6t l) (z9p l i))[j]=(u:Int):=fun j h=>by
  obtain⟨u,h1,h2,_⟩:=za4 (sp1.subset (List.getElem_mem h))
  exact⟨u,by omega,h2⟩
 have hki:z6t l (i:Int)=l[i].Stamp:=z93 hi
 have f1:=z1d (o:=false) (r:=false) hi
 have g1:14≤l.length * 14 - i * 14:=by omega
 unfold ywq
 rw[hnx] at hq
 generalize zbj (z6t l) (z9p l i)=O at sp1 sp2 hOl hmem hq ⊢
 refine WL.sreg (by simp;rfl) (by simp;rfl) ?_
 refine WL.seq (WL.block (WL.loop (ι:={k:Nat // k≤O.length∧∀ j (h:j < O.length),k≤j→l[i].Stamp < z6t l O[j]}) (fun k=>[(0,0,sEv l),(300,0,sI true O),(400,0,i64 i),(500,0,i64 k.1)]) (fun k=>k.1) ⟨O.length,Nat.le_refl _,fun j h h'=>by omega⟩ (by simp) fun x=>?_))
 obtain⟨k,hk,hgt⟩:=x
 simp only
 have fin:(∀ j (h:j < O.length),j < k→¬ l[i].Stamp < z6t l O[j])→WL Try.prog ymc.nt ycr [(0,0,sEv l),(300,0,sI true O),(400,0,i64 i),(500,0,i64 k)] Q:=fun hle=>by
  rw[zq1 (z6t l) i O k hk (fun j h h'=>by rw[hki];exact hle j h h') (fun h=>by rw[hki];exact hgt k h (Nat.le_refl _))] at hq
  have e1:min k O.length=k:=by omega
  have m1:k * 8≤140737488355328:=by omega
  have m2:k≤maxLen:=by unfold maxLen;omega
  have m3:(k+1) * 8≤140737488355328:=by omega
  have m4:k+1≤maxLen:=by unfold maxLen;omega
  have e2:k+1+(O.length - k)=O.length+1:=by omega
  have m5:(O.length+1) * 8≤140737488355328:=by omega
  have m6:O.length+1≤maxLen:=by unfold maxLen;omega
  have p1:(List.take k (List.map i64 O)).all z1k=true:=List.all_eq_true.2 fun x hx=>by
   obtain⟨y,_,rfl⟩:=List.mem_map.1 (List.mem_of_mem_take hx)
   rfl
  have p2:(List.take (O.length - k) (List.drop k (List.map i64 O))).all z1k=true:=List.all_eq_true.2 fun x hx=>by
   obtain⟨y,_,rfl⟩:=List.mem_map.1 (List.mem_of_mem_drop (List.mem_of_mem_take hx))
   rfl
  refine WL.sreg (by simp[hk,e1,m1,m2,p1];rfl) (by simp;rfl) ?_
  refine WL.draw z0t (by simp[z09,noH]) (DL.run (by simp[hk,e1,e2,m1,m2,m3,m4,m5,m6,p1,p2];exact⟨rfl,rfl⟩) ⟨by kernel_rfl,_,by simp;rfl,?_⟩)
  have e3:List.take k (List.map i64 O)=(O.take k).map i64:=List.map_take.symm
  have e4:List.take (O.length - k) (List.drop k (List.map i64 O))=(O.drop k).map i64:=by rw[← List.map_drop,List.take_of_length_le (by simp)]
  have e5:(List.take k O ++ (i:Int) :: List.drop k O).length=O.length+1:=by simp;omega
  have e6:List.take k (List.take k (List.take k (List.map i64 O)))=(O.take k).map i64:=by rw[List.take_take,List.take_take,Nat.min_self,Nat.min_self,e3]
  have eL:List.take (O.length+1) (List.take (k+1) (List.take k (List.take k (List.take k (List.map i64 O))) ++ [AV.sc (Value.int IntKind.i64 ↑i)]) ++ List.take (O.length - k) (List.drop k (List.map i64 O)))=(List.take k O ++ (i:Int) :: List.drop k O).map i64:=by
   rw[e6,e4,List.take_of_length_le (l:=List.map i64 (List.take k O) ++ _) (by simp;omega),List.take_of_length_le (by simp;omega)]
   simp
  rw[eL,← e5]
  exact hq
 by_cases hk0:0 < k
 ·obtain⟨p,hp⟩:∃ p,p=k - 1:=⟨_,rfl⟩
  have w:IntKind.wrap .i64 ((k:Int) - 1)=(p:Int):=by rw[z01 (by omega) (by omega)];omega
  have hpl:p < O.length:=by omega
  have hpl':p+1≤O.length:=hpl
  obtain⟨u,hu,eu⟩:=hmem p hpl
  have f2:=z1d (o:=false) (r:=false) hu
  have g2:14≤l.length * 14 - u * 14:=by omega
  have hku:z6t l O[p]=l[u].Stamp:=by rw[eu];exact z93 hu
  refine WL.seq (WL.seq ?_)
  by_cases hc:l[i].Stamp < l[u].Stamp
  ·refine WL.draw z0t (by simp[z09,noH]) (DL.run (by simp[hk0,w,hpl,hpl',eu,hu,hi,f1,f2,g1,g2,hc];exact⟨rfl,rfl⟩) ⟨by kernel_rfl,_,by simp;rfl,?_⟩)
   refine WL.cond (t:=true) (by simp) (fun _=>WL.skip ?_) (by simp)
   refine WL.block (WL.reg (RL.run (by simp[w];rfl) ⟨_,by simp;rfl,?_⟩))
   refine⟨⟨p,by omega,fun j h h'=>?_⟩,by simp,by simp only;omega⟩
   by_cases e:j=p
   ·subst e;rw[hku];exact hc
   ·exact hgt j h (by omega)
  ·refine WL.draw z0t (by simp[z09,noH]) (DL.run (by simp[hk0,w,hpl,hpl',eu,hu,hi,f1,f2,g1,g2,hc];exact⟨rfl,rfl⟩) ⟨by kernel_rfl,_,by simp;rfl,?_⟩)
   refine WL.cond (t:=false) (by simp) (by simp) fun _=>WL.exit ?_
   refine WL.fin [39] (by simp;rfl) ?_
   refine fin fun j h h'=>?_
   have:=zif sp2 (j:=j) (k:=p) (by omega) hpl
   rw[hku] at this
   omega
 ·obtain rfl:k=0:=by omega
  refine WL.seq (WL.seq ?_)
  refine WL.draw z0t (by simp[z09,noH]) (DL.run (by simp;exact⟨rfl,rfl⟩) ⟨by kernel_rfl,_,by simp;rfl,?_⟩)
  refine WL.cond (t:=false) (by simp) (by simp) fun _=>WL.exit ?_
  refine WL.fin [39] (by simp;rfl) ?_
  exact fin fun j h h'=>by omega
set_option maxHeartbeats 8000000 in
theorem z7b (l:List Ev)(hn:l.length≤1000):FnC Try.prog 34 [] [sEv l] [] (sI true (z0r l)):=by
 refine FnC.go yyu rfl ?_
 refine WL.sreg (by simp;rfl) (by simp;rfl) ?_
 refine WL.sreg (by simp;rfl) (by simp;rfl) ?_
 refine WL.seq (WL.sreg (by simp;rfl) (by simp;rfl) ?_)
 refine WL.block (WL.count l.length (fun i=>ywq l i []) (fun _=>True) (by simp[z9p,zbj]) trivial fun i hi _=>?_)
 by_cases hlt:i < l.length
 ·have f1:=z1d (o:=false) (r:=false) hlt
  have g1:14≤l.length * 14 - i * 14:=by omega
  have w:IntKind.wrap .i64 ((i:Int)+1)=((i+1:Nat):Int):=by rw[z01 (by omega) (by omega)];omega
  refine WL.seq (WL.sreg (by simp[hlt];rfl) (by simp;rfl) ?_)
  refine WL.cond (t:=true) (by simp[hlt]) (fun _=>WL.skip ?_) (by simp)
  by_cases hs:l[i].Stamp≤0
  ·have hps:=zbq l i
   rw[show (l.map (·.Stamp)).getD i 0=l[i].Stamp by simp[hlt],if_neg (by omega),List.append_nil] at hps
   refine WL.seq (WL.block (WL.seq (WL.sreg (by simp[hlt,f1,g1,hs];rfl) (by simp;rfl) ?_)))
   refine WL.cond (t:=true) (by simp) (fun _=>WL.exit ?_) (by simp)
   refine WL.fin [18] (by simp;rfl) ?_
   refine WL.reg (RL.run (by simp[w];rfl) ⟨_,by simp;rfl,hlt,?_,trivial⟩)
   simp[hps]
  ·refine WL.seq (WL.block (WL.seq (WL.sreg (by simp[hlt,f1,g1,hs];rfl) (by simp;rfl) ?_)))
   refine WL.cond (t:=false) (by simp) (by simp) fun _=>WL.skip ?_
   refine zig l hn i hlt (by omega) _ ?_
   refine WL.reg (RL.run (by simp[w];rfl) ⟨_,by simp;rfl,hlt,?_,trivial⟩)
   simp
 ·obtain rfl:i=l.length:=by omega
  refine WL.seq (WL.sreg (by simp;rfl) (by simp;rfl) ?_)
  refine WL.cond (t:=false) (by simp) (by simp) fun _=>WL.exit ?_
  refine WL.sregC (RL.mv (by decide) (RL.o (by simp;rfl) (RL.nil ⟨_,by simp;rfl,WL.ret ⟨.inr rfl,?_⟩⟩)))
  simp[ymc,z0r,ygr]
end Go.OT
namespace Go.OT
open Go.Proofs
abbrev alQ (v:Bool):Ex→SL→Prop:=fun e L=>e=Ex.ret∧RetOk zgb.rs [] (bl v) L
abbrev alT (l:List Ev)(i:Nat)(e:Ev)(k:Nat):SL:=[(0,0,sEv l),(100,0,i64 i)] ++ (bxE 7 e ++ [(800,0,i64 k)])
set_option maxHeartbeats 16000000 in
theorem zln (l:List Ev)(hn:l.length≤1000)(i:Nat)(hi:i < l.length)(e:Ev)(x:Nat)(hx:x=56∨x=71):WL Try.prog zgb.nt zou (tmS l i (bxE 7 e ++ [(100 * x,0,bl false)])) (alQ (!(l.take i).any (z1t e))):=by
 have hmi:min i l.length=i:=by omega
 refine WL.seq (WL.join (alT l i e 0) ?_ ?_)
 ·rcases hx with rfl | rfl
  ·exact WL.regEq (by simp)
  ·exact WL.regEq (by simp)
 refine WL.block (WL.count i (fun k=>alT l i e k) (fun k=>(l.take k).any (z1t e)=false) rfl (by simp) fun k hk hp=>?_)
 by_cases hlt:k < i
 ·have hkl:k < l.length:=by omega
  have f1:=z1d (o:=false) (r:=false) hkl
  have g1:14≤l.length * 14 - k * 14:=by omega
  have w:IntKind.wrap .i64 ((k:Int)+1)=((k+1:Nat):Int):=by rw[z01 (by omega) (by omega)];omega
  refine WL.seq (WL.sreg (by simp[hlt];rfl) (by simp;rfl) ?_)
  refine WL.cond (t:=true) (by simp[hlt]) (fun _=>WL.skip ?_) (by simp)
  have hin:z1t e l[k]=true→(l.take i).any (z1t e)=true:=fun h=>by
   have hk':k < (l.take i).length:=by rw[List.length_take];omega
   exact zgo hk' (by simpa using h)
  have nx:=fun (h:z1t e l[k]=false)=>z8d hkl hp h
  refine WL.seq (WL.block (WL.seq ?_))
  by_cases c1:l[k].Client=e.Client
  ·have z1:(l[k].Client == e.Client)=true:=by simp[c1]
   by_cases c2:l[k].End≤0
   ·have hv:=hin (by simp[z1t,c1];left;omega)
    refine WL.draw z0t (by simp[z09,noH]) (DL.run (by simp[hlt,hkl,f1,g1,z1,c2];exact⟨rfl,rfl⟩) ⟨by kernel_rfl,_,by simp;rfl,?_⟩)
    refine WL.cond (t:=true) (by simp) (fun _=>?_) (by simp)
    refine WL.sreg (by simp;rfl) (by simp;rfl) (WL.ret ⟨rfl,?_⟩)
    simp[zgb,hv]
   ·by_cases c3:e.Begin≤l[k].End
    ·have hv:=hin (by simp[z1t,c1,c3])
     refine WL.draw z0t (by simp[z09,noH]) (DL.run (by simp[hlt,hkl,f1,g1,z1,c2,c3];exact⟨rfl,rfl⟩) ⟨by kernel_rfl,_,by simp;rfl,?_⟩)
     refine WL.cond (t:=true) (by simp) (fun _=>?_) (by simp)
     refine WL.sreg (by simp;rfl) (by simp;rfl) (WL.ret ⟨rfl,?_⟩)
     simp[zgb,hv]
    ·have hv:=nx (by simp[z1t,c1,c3];omega)
     refine WL.draw z0t (by simp[z09,noH]) (DL.run (by simp[hlt,hkl,f1,g1,z1,c2,c3];exact⟨rfl,rfl⟩) ⟨by kernel_rfl,_,by simp;rfl,?_⟩)
     refine WL.cond (t:=false) (by simp) (by simp) fun _=>WL.skip ?_
     refine WL.reg (RL.run (by simp[w];rfl) ⟨_,by simp;rfl,hlt,?_,hv⟩)
     simp
  ·have z1:(l[k].Client == e.Client)=false:=beq_false_of_ne c1
   have hv:=nx (by simp[z1t,c1])
   refine WL.draw z0t (by simp[z09,noH]) (DL.run (by simp[hlt,hkl,f1,g1,z1];exact⟨rfl,rfl⟩) ⟨by kernel_rfl,_,by simp;rfl,?_⟩)
   refine WL.cond (t:=false) (by simp) (by simp) fun _=>WL.skip ?_
   refine WL.reg (RL.run (by simp[w];rfl) ⟨_,by simp;rfl,hlt,?_,hv⟩)
   simp
 ·obtain rfl:k=i:=by omega
  refine WL.seq (WL.sreg (by simp;rfl) (by simp;rfl) ?_)
  refine WL.cond (t:=false) (by simp) (by simp) fun _=>WL.exit ?_
  rw[hp]
  refine WL.sreg (by simp;rfl) (by simp;rfl) (WL.ret ⟨rfl,?_⟩)
  simp[zgb]
set_option maxHeartbeats 16000000 in
theorem zlo (l:List Ev)(i:Nat)(e:Ev)(v:Bool)(hs:(z1h e || decide (e.End < 0))=true→v=false)(hl:(z1h e || decide (e.End < 0))=false→∀ x,x=56∨x=71→WL Try.prog zgb.nt zou (tmS l i (bxE 7 e ++ [(100 * x,0,bl false)])) (alQ v)) :
  WL Try.prog zgb.nt zov (tmS l i (bxE 7 e ++ [(4100,0,bl false)])) (alQ v):=by
 refine WL.seq ?_
 by_cases p1:0 < e.End
 ·refine WL.sreg (by simp[p1];rfl) (by simp;rfl) ?_
  refine WL.cond (t:=true) (by simp) (fun _=>?_) (by simp)
  by_cases p2:e.Stamp < e.Begin
  ·have hv:=hs (by simp[z1h,p1,p2])
   refine WL.sreg (by simp[p2];rfl) (by simp;rfl) ?_
   refine WL.cond (t:=true) (by simp) (fun _=>?_) (by simp)
   refine WL.sreg (by simp;rfl) (by simp;rfl) (WL.ret ⟨rfl,?_⟩)
   simp[zgb,hv]
  ·by_cases p3:e.End < e.Stamp
   ·have hv:=hs (by simp[z1h,p1,p2,p3])
    refine WL.sreg (by simp[p2,p3];rfl) (by simp;rfl) ?_
    refine WL.cond (t:=true) (by simp) (fun _=>?_) (by simp)
    refine WL.sreg (by simp;rfl) (by simp;rfl) (WL.ret ⟨rfl,?_⟩)
    simp[zgb,hv]
   ·refine WL.sreg (by simp[p2,p3];rfl) (by simp;rfl) ?_
    refine WL.cond (t:=false) (by simp) (by simp) fun _=>WL.skip ?_
    exact hl (by simp[z1h,p1,p2,p3];omega) 56 (.inl rfl)
 ·refine WL.sreg (by simp[p1];rfl) (by simp;rfl) ?_
  refine WL.cond (t:=false) (by simp) (by simp) fun _=>?_
  by_cases p0:e.End < 0
  ·have hv:=hs (by simp[p0])
   refine WL.sreg (by simp[p0];rfl) (by simp;rfl) ?_
   refine WL.cond (t:=true) (by simp) (fun _=>?_) (by simp)
   refine WL.sreg (by simp;rfl) (by simp;rfl) (WL.ret ⟨rfl,?_⟩)
   simp[zgb,hv]
  ·have pz:e.End=0:=by omega
   by_cases p2:e.Stamp=0
   ·have z2:(e.Stamp != 0)=false:=by simp[p2]
    refine WL.sreg (by simp[p0,z2];rfl) (by simp;rfl) ?_
    refine WL.cond (t:=false) (by simp) (by simp) fun _=>WL.skip ?_
    exact hl (by simp[z1h,p1,p0,p2]) 71 (.inr rfl)
   ·have z2:(e.Stamp != 0)=true:=by simp[p2]
    by_cases p3:e.Stamp < e.Begin
    ·have hv:=hs (by simp[z1h,pz,p2,p3])
     refine WL.sreg (by simp[p0,z2,p3];rfl) (by simp;rfl) ?_
     refine WL.cond (t:=true) (by simp) (fun _=>?_) (by simp)
     refine WL.sreg (by simp;rfl) (by simp;rfl) (WL.ret ⟨rfl,?_⟩)
     simp[zgb,hv]
    ·refine WL.sreg (by simp[p0,z2,p3];rfl) (by simp;rfl) ?_
     refine WL.cond (t:=false) (by simp) (by simp) fun _=>WL.skip ?_
     exact hl (by simp[z1h,p1,p0,p2,p3]) 71 (.inr rfl)
set_option maxHeartbeats 16000000 in
theorem zt7 (l:List Ev)(hn:l.length≤1000)(i:Nat)(hi:i < l.length)(c:Int):FnC Try.prog 94 [] [sEv l,i64 i,i64 c] [] (bl (z1u l i c)):=by
 rw[z63 hi]
 have f1:=z1d (o:=false) (r:=false) hi
 have g1:14≤l.length * 14 - i * 14:=by omega
 refine FnC.go yz6 rfl ?_
 refine WL.mono (Q':=alQ (z26 l i c l[i])) ?_ fun x L h=>⟨.inr h.1,h.2⟩
 refine WL.sreg (by simp;rfl) (by simp;rfl) ?_
 refine WL.sreg (by simp[hi,f1,g1];rfl) (by simp;rfl) ?_
 have loop:=zln l hn i hi l[i]
 generalize l[i]=e at loop ⊢
 clear f1 g1
 have rest:z4z l i c e=(decide (e.End < 0))→WL Try.prog zgb.nt zov (tmS l i (bxE 7 e ++ [(4100,0,bl false)])) (alQ (z26 l i c e)):=fun hb =>
  zlo l i e _ (fun h=>by
   rcases (by simpa only [Bool.or_eq_true] using h:z1h e=true∨decide (e.End < 0)=true) with h | h
   ·simp[z26,h]
   ·simp[z26,hb,h]) (fun h x hx=>by
   obtain⟨h1,h2⟩:=Bool.or_eq_false_iff.1 h
   simpa [z26,hb,h1,h2] using loop x hx)
 refine WL.seq (WL.seq ?_)
 by_cases q1:e.Client < 0
 ·refine WL.draw z0t (by simp[z09,noH]) (DL.run (by simp[q1];exact⟨rfl,rfl⟩) ⟨by kernel_rfl,_,by simp;rfl,?_⟩)
  refine WL.cond (t:=true) (by simp) (fun _=>?_) (by simp)
  refine WL.sreg (by simp;rfl) (by simp;rfl) (WL.ret ⟨rfl,?_⟩)
  simp[zgb,z26,z4z,z3s,q1]
 by_cases q2:c≤e.Client
 ·refine WL.draw z0t (by simp[z09,noH]) (DL.run (by simp[q1,q2];exact⟨rfl,rfl⟩) ⟨by kernel_rfl,_,by simp;rfl,?_⟩)
  refine WL.cond (t:=true) (by simp) (fun _=>?_) (by simp)
  refine WL.sreg (by simp;rfl) (by simp;rfl) (WL.ret ⟨rfl,?_⟩)
  simp[zgb,z26,z4z,z3s,q1,q2]
 by_cases q3:e.Begin≤0
 ·have q3x:e.Begin < 1:=by omega
  refine WL.draw z0t (by simp[z09,noH]) (DL.run (by simp[q1,q2,q3,q3x];exact⟨rfl,rfl⟩) ⟨by kernel_rfl,_,by simp;rfl,?_⟩)
  refine WL.cond (t:=true) (by simp) (fun _=>?_) (by simp)
  refine WL.sreg (by simp;rfl) (by simp;rfl) (WL.ret ⟨rfl,?_⟩)
  simp[zgb,z26,z4z,z3s,q1,q2,q3,q3x]
 have q3x:¬ e.Begin < 1:=by omega
 by_cases q4:0 < i
 ·obtain⟨j,hj⟩:∃ j,j=i - 1:=⟨_,rfl⟩
  have w:IntKind.wrap .i64 ((i:Int) - 1)=(j:Int):=by rw[z01 (by omega) (by omega)];omega
  have hjl:j < l.length:=by omega
  have f2:=z1d (o:=false) (r:=false) hjl
  have g2:14≤l.length * 14 - j * 14:=by omega
  have hgd:l.getD j e=l[j]:=by simp[hjl]
  by_cases q5:e.Begin < l[j].Begin
  ·refine WL.draw z0t (by simp[z09,noH]) (DL.run (by simp[q1,q2,q3,q4,q5,w,hjl,f2,g2,← hj,hgd];exact⟨rfl,rfl⟩) ⟨by kernel_rfl,_,by simp;rfl,?_⟩)
   refine WL.cond (t:=true) (by simp) (fun _=>?_) (by simp)
   refine WL.sreg (by simp;rfl) (by simp;rfl) (WL.ret ⟨rfl,?_⟩)
   simp[zgb,z26,z4z,z3s,q1,q2,q3,q4,q5,w,hjl,f2,g2,← hj,hgd]
  ·refine WL.draw z0t (by simp[z09,noH]) (DL.run (by simp[q1,q2,q3,q4,q5,w,hjl,f2,g2,← hj,hgd];exact⟨rfl,rfl⟩) ⟨by kernel_rfl,_,by simp;rfl,?_⟩)
   refine WL.cond (t:=false) (by simp) (by simp) fun _=>WL.skip ?_
   exact rest (by simp[z4z,z3s,q1,q2,q3,q3x,q4,q5,w,hjl,f2,g2,← hj,hgd])
 ·obtain rfl:i=0:=by omega
  refine WL.draw z0t (by simp[z09,noH]) (DL.run (by simp[q1,q2,q3,q4];exact⟨rfl,rfl⟩) ⟨by kernel_rfl,_,by simp;rfl,?_⟩)
  refine WL.cond (t:=false) (by simp) (by simp) fun _=>WL.skip ?_
  exact rest (by simp[z4z,z3s,q1,q2,q3,q3x,q4])
end Go.OT
namespace Go.OT
open Go.Proofs
theorem zlp (p c:Int):z0q p c=decide ((z0p p c).There.length=0):=by
 unfold z0p
 cases h:z0q p c with
 | true=>simp
 | false =>
  simp only[z0q,Bool.or_eq_false_iff,decide_eq_false_iff_not] at h
  simp;omega
theorem z2p {p c:Int}(h:z0q p c=false):OkSt (z0p p c):=by
 have hb':=h
 simp only[z0q,Bool.or_eq_false_iff,decide_eq_false_iff_not] at hb'
 obtain⟨n,rfl⟩:=Int.eq_ofNat_of_zero_le (a:=p) (by omega)
 obtain⟨m,rfl⟩:=Int.eq_ofNat_of_zero_le (a:=c) (by omega)
 exact zt1 (by omega) (by omega) (by omega) (by omega)
theorem zgr (s':St)(v:Bool)(s:St):z1a true (gsT s) (gsT s') (bl v:AU)=true:=by
 have e1:z0y (sB true s'.There:AU)=true:=by simp only[z0y,yv0,Bool.and_self]
 have e2:z0y (sS true s'.Body:AU)=true:=by simp only[z0y,yv1,Bool.and_self]
 have e3:z0y (sII true s'.Handles:AU)=true:=by simp only[z0y,zsu,Bool.and_self]
 simp only[z1a,List.all_cons,List.all_nil,z5c,e1,e2,e3]
 simp
theorem z94 {l:List Ev}{j:Nat}(h:j < (z0r l).length):∃ u:Nat,∃ hu:u < l.length,(z0r l)[j]=(u:Int):=by
 obtain⟨u,h1,h2,_⟩:=za6 (List.getElem_mem h)
 exact⟨u,h1,h2⟩
abbrev rcB (b:Nat)(s:St):SL:=[(100 * b,0,.bptr b 1 0),(100 * b+1,0,sB true s.There),(100 * b+2,0,sS true s.Body),(100 * b+3,0,sII true s.Handles),(100 * b+99,1,.non)]
abbrev rcQ (v:Int):Ex→SL→Prop:=fun e L=>e=Ex.ret∧RetOk zxw.rs [] (i64 v) L
abbrev rcS (l:List Ev)(c:Int)(s:St)(r:SL):SL:=[(0,0,sEv l),(200,0,i64 c)] ++ (rcB 7 s ++ r)
abbrev rcT (l:List Ev)(s:St)(j:Nat):SL:=[(0,0,sEv l)] ++ (rcB 7 s ++ [(900,0,sI true (z0r l)),(1000,0,i64 j)])
set_option maxHeartbeats 16000000 in
theorem zgs (l:List Ev)(hE:EvOk l)(s0:St)(h0:OkSt s0):WL Try.prog zxw.nt zuc ([(0,0,sEv l)] ++ (rcB 7 s0 ++ [(900,0,sI true (z0r l))])) (rcQ (goW l z36 s0 () (z0r l)).1):=by
 have hn:=hE.n
 have hOl:=z5k l
 refine WL.seq (WL.sreg (by simp;rfl) (by simp;rfl) ?_)
 refine WL.block (WL.loop (ι:={x:Nat × St // x.1≤(z0r l).length∧OkSt x.2∧(goW l z36 x.2 () ((z0r l).drop x.1)).1=(goW l z36 s0 () (z0r l)).1}) (fun x=>rcT l x.1.2 x.1.1) (fun x=>(z0r l).length - x.1.1) ⟨(0,s0),Nat.zero_le _,h0,rfl⟩ (by simp) fun x=>?_)
 obtain⟨⟨j,s⟩,hj,hs,hg⟩:=x
 simp only at hj hs hg ⊢
 by_cases hlt:j < (z0r l).length
 ·obtain⟨u,hu,eu⟩:=z94 hlt
  have f1:=z1d (o:=false) (r:=false) hu
  have g1:14≤l.length * 14 - u * 14:=by omega
  have hlt':j+1≤(z0r l).length:=hlt
  have w:IntKind.wrap .i64 ((j:Int)+1)=((j+1:Nat):Int):=by rw[z01 (by omega) (by omega)];omega
  have w2:IntKind.wrap .i64 ((u:Int)+1)=(u:Int)+1:=by rw[z01 (by omega) (by omega)]
  have hst:=zd6 s hs l[u] (hE.d _ (List.getElem_mem hu))
  rw[List.drop_eq_getElem_cons hlt] at hg
  simp only[goW,eu,z56 hu] at hg
  have hok:=z4u hs l[u]
  generalize z0u s l[u]=dd at hst hg hok
  obtain⟨v,t⟩:=dd
  simp only at hst hg hok
  refine WL.seq (WL.sreg (by simp[hlt];rfl) (by simp;rfl) ?_)
  refine WL.cond (t:=true) (by simp[hlt]) (fun _=>WL.skip ?_) (by simp)
  refine WL.seq (WL.block (WL.seq ?_))
  refine WL.draw z0t (by simp[z09,noH]) (DL.o (by simp[hlt,hlt',eu,hu,f1,g1];exact⟨rfl,rfl⟩) ?_)
  refine DL.callL true [(701,[]),(702,[]),(703,[])] hst (by simp) (by simp) (by simp[z35]) (zgr t v s) (by simp[z09,noH]) ?_
  refine DL.o (by simp;exact⟨rfl,rfl⟩) (DL.nil ⟨by kernel_rfl,_,by simp;rfl,?_⟩)
  cases v with
  | true =>
   simp only[if_true] at hg
   refine WL.cond (t:=false) (by simp) (by simp) fun _=>WL.skip ?_
   refine WL.reg (RL.run (by simp[w];rfl) ⟨_,by simp;rfl,?_⟩)
   refine⟨⟨(j+1,t),hlt,hok,?_⟩,by simp,by simp only;omega⟩
   rw[← hg]
  | false =>
   simp only[Bool.false_eq_true,if_false] at hg
   refine WL.cond (t:=true) (by simp) (fun _=>?_) (by simp)
   refine WL.sreg (by simp[hlt,hlt',eu,w2];rfl) (by simp;rfl) (WL.ret ⟨rfl,?_⟩)
   simp[zxw,← hg]
 ·obtain rfl:j=(z0r l).length:=by omega
  rw[List.drop_length] at hg
  simp only[goW] at hg
  refine WL.seq (WL.sreg (by simp;rfl) (by simp;rfl) ?_)
  refine WL.cond (t:=false) (by simp) (by simp) fun _=>WL.exit ?_
  refine WL.sreg (by simp;rfl) (by simp;rfl) (WL.ret ⟨rfl,?_⟩)
  simp[zxw,← hg]
set_option maxHeartbeats 16000000 in
theorem zq2 (l:List Ev)(hE:EvOk l)(p c:Int):FnC Try.prog 35 [] [sEv l,i64 p,i64 c] [] (i64 (z5m l p c)):=by
 have hn:=hE.n
 have hlen:=zlp p c
 refine FnC.go yyv rfl ?_
 refine WL.mono (Q':=rcQ (z5m l p c)) ?_ fun x L h=>⟨.inr h.1,h.2⟩
 refine WL.sreg (by simp;rfl) (by simp;rfl) ?_
 refine WL.sregC (RL.o (by simp;rfl) (RL.call0 false (z8b p c) (by simp) (by simp) (RL.o (by simp;rfl) (RL.nil ⟨_,by simp;rfl,?_⟩))))
 cases hb:z0q p c with
 | true =>
  rw[hb] at hlen
  have hl0:(z0p p c).There.length=0:=by simpa using hlen.symm
  have z:((z0p p c).There == [])=true:=by simpa using hl0
  refine WL.seq (WL.sreg (by simp[hl0];rfl) (by simp;rfl) ?_)
  refine WL.cond (t:=true) (by simp) (fun _=>?_) (by simp)
  refine WL.sreg (by simp;rfl) (by simp;rfl) (WL.ret ⟨rfl,?_⟩)
  simp[zxw,z5m,z12,hb]
 | false =>
  rw[hb] at hlen
  have hl0:¬ (z0p p c).There.length=0:=by simpa using hlen.symm
  have hok:=z2p hb
  have hz:(((z0p p c).There.length:Int) == 0)=false:=beq_false_of_ne (by omega)
  refine WL.seq (WL.sreg (by simp[hz];rfl) (by simp;rfl) ?_)
  refine WL.cond (t:=false) (by simp) (by simp) fun _=>WL.skip ?_
  refine WL.seq (WL.sreg (by simp;rfl) (by simp;rfl) ?_)
  have hchk:∀ v,z5m l p c=v→z5m l p c=v:=fun _ h=>h
  unfold z5m z12 at hchk ⊢
  rw[hb] at hchk ⊢
  simp only[Bool.false_eq_true,if_false] at hchk ⊢
  generalize z0p p c=s0 at hok hchk ⊢
  refine WL.block (WL.count l.length (fun i=>rcS l c s0 [(800,0,i64 i)]) (fun i=>∀ j,j < i→z1u l j c=true) rfl (fun j h=>absurd h (Nat.not_lt_zero _)) fun i hi hp=>?_)
  by_cases hlt:i < l.length
  ·have w:IntKind.wrap .i64 ((i:Int)+1)=((i+1:Nat):Int):=by rw[z01 (by omega) (by omega)];omega
   have ha:=zt7 l hn i hlt c
   refine WL.seq (WL.sreg (by simp[hlt];rfl) (by simp;rfl) ?_)
   refine WL.cond (t:=true) (by simp[hlt]) (fun _=>WL.skip ?_) (by simp)
   cases ht:z1u l i c with
   | true =>
    rw[ht] at ha
    refine WL.seq (WL.block (WL.sregC (RL.o (by simp;rfl) (RL.call0 false ha (by simp) (by simp) (RL.o (by simp;rfl) (RL.nil ⟨_,by simp;rfl,?_⟩))))))
    refine WL.cond (t:=false) (by simp) (by simp) fun _=>WL.skip ?_
    refine WL.reg (RL.run (by simp[w];rfl) ⟨_,by simp;rfl,hlt,?_,fun j hj=>?_⟩)
    ·simp
    ·by_cases e:j=i
     ·subst e;exact ht
     ·exact hp j (by omega)
   | false =>
    rw[ht] at ha
    have hf:=z40 hlt hp ht
    refine WL.seq (WL.block (WL.sregC (RL.o (by simp;rfl) (RL.call0 false ha (by simp) (by simp) (RL.o (by simp;rfl) (RL.nil ⟨_,by simp;rfl,?_⟩))))))
    refine WL.cond (t:=true) (by simp) (fun _=>?_) (by simp)
    refine WL.sreg (by simp[w];rfl) (by simp;rfl) (WL.ret ⟨rfl,?_⟩)
    simp[zxw,hf]
  ·obtain rfl:i=l.length:=by omega
   have hf:=z33 hp
   refine WL.seq (WL.sreg (by simp;rfl) (by simp;rfl) ?_)
   refine WL.cond (t:=false) (by simp) (by simp) fun _=>WL.exit ?_
   rw[hf]
   refine WL.sregC (RL.o (by simp;rfl) (RL.call0 false (z7b l hn) (by simp) (by simp) (RL.o (by simp;rfl) (RL.nil ⟨_,by simp;rfl,?_⟩))))
   have:=zgs l hE s0 hok
   exact this
end Go.OT
namespace Go.OT
open Go.Proofs
abbrev yzk:SL:=[(600,0,.bptr 6 1 0),(601,0,.sl true () 1 0 []),(602,0,.sl true () 1 0 []),(603,0,.sl true () 1 0 []),(699,1,.non)]
abbrev rfT (l:List Ev)(s:St)(j:Nat):SL:=[(0,0,sEv l)] ++ (yzk ++ (rcB 8 s ++ [(900,0,sI true (z0r l)),(1000,0,i64 j)]))
set_option maxHeartbeats 16000000 in
theorem zq3 (l:List Ev)(hE:EvOk l)(p c:Int):FnC Try.prog 31 [] [sEv l,i64 p,i64 c] [] (.tuple [ycj true (z50 l p c).1,bl (z50 l p c).2]):=by
 have hn:=hE.n
 have hOl:=z5k l
 have hchk:=zq2 l hE p c
 refine FnC.go yys rfl ?_
 refine WL.sreg (by simp;rfl) (by simp;rfl) ?_
 refine WL.seq (WL.sregC (RL.o (by simp;rfl) (RL.call0 false hchk (by simp) (by simp) ?_)))
 by_cases h0:z5m l p c=0
 ·have z:(z5m l p c != 0)=false:=by simp[h0]
  refine RL.o (by simp[z];rfl) (RL.nil ⟨_,by simp;rfl,?_⟩)
  refine WL.cond (t:=false) (by simp) (by simp) fun _=>WL.skip ?_
  have hfin:z50 l p c=((z12 z36 () l p c).2.1,true):=by unfold z50;rw[if_pos h0]
  rw[hfin]
  have hb:z0q p c=false:=by
   cases hb:z0q p c with
   | false=>rfl
   | true=>unfold z5m z12 at h0;rw[hb] at h0;simp at h0
  have hok:=z2p hb
  have hw:z12 z36 () l p c=goW l z36 (z0p p c) () (z0r l)∧(goW l z36 (z0p p c) () (z0r l)).1=0:=by
   unfold z5m at h0
   unfold z12 at h0 ⊢
   rw[hb] at h0 ⊢
   simp only[Bool.false_eq_true,if_false] at h0 ⊢
   split at h0
   ·simp only at h0;omega
   ·exact⟨rfl,h0⟩
  rw[hw.1]
  refine WL.sregC (RL.o (by simp;rfl) (RL.call0 false (z8b p c) (by simp) (by simp) (RL.o (by simp;rfl) (RL.nil ⟨_,by simp;rfl,?_⟩))))
  have hg0:=hw.2
  clear hfin hw z hchk hb
  generalize z0p p c=s0 at hok hg0 ⊢
  refine WL.sregC (RL.o (by simp;rfl) (RL.call0 false (z7b l hn) (by simp) (by simp) (RL.o (by simp;rfl) (RL.nil ⟨_,by simp;rfl,?_⟩))))
  refine WL.seq (WL.sreg (by simp;rfl) (by simp;rfl) ?_)
  refine WL.block (WL.loop (ι:={x:Nat × St // x.1≤(z0r l).length∧OkSt x.2∧(goW l z36 x.2 () ((z0r l).drop x.1)).1=0∧(goW l z36 x.2 () ((z0r l).drop x.1)).2.1=(goW l z36 s0 () (z0r l)).2.1}) (fun x=>rfT l x.1.2 x.1.1) (fun x=>(z0r l).length - x.1.1) ⟨(0,s0),Nat.zero_le _,hok,hg0,rfl⟩ (by simp) fun x=>?_)
  obtain⟨⟨j,s⟩,hj,hs,hg1,hg2⟩:=x
  simp only at hj hs hg1 hg2 ⊢
  by_cases hlt:j < (z0r l).length
  ·obtain⟨u,hu,eu⟩:=z94 hlt
   have f1:=z1d (o:=false) (r:=false) hu
   have g1:14≤l.length * 14 - u * 14:=by omega
   have hlt':j+1≤(z0r l).length:=hlt
   have w:IntKind.wrap .i64 ((j:Int)+1)=((j+1:Nat):Int):=by rw[z01 (by omega) (by omega)];omega
   have hst:=zd6 s hs l[u] (hE.d _ (List.getElem_mem hu))
   rw[List.drop_eq_getElem_cons hlt] at hg1 hg2
   simp only[goW,eu,z56 hu] at hg1 hg2
   have hok:=z4u hs l[u]
   generalize z0u s l[u]=dd at hst hg1 hg2 hok
   obtain⟨v,t⟩:=dd
   simp only at hst hg1 hg2 hok
   cases v with
   | false=>simp only[Bool.false_eq_true,if_false] at hg1;omega
   | true =>
    simp only[if_true] at hg1 hg2
    refine WL.seq (WL.sreg (by simp[hlt];rfl) (by simp;rfl) ?_)
    refine WL.cond (t:=true) (by simp[hlt]) (fun _=>WL.skip ?_) (by simp)
    refine WL.seq (WL.block ?_)
    refine WL.draw z0t (by simp[z09,noH]) (DL.o (by simp[hlt,hlt',eu,hu,f1,g1];exact⟨rfl,rfl⟩) ?_)
    refine DL.callL true [(801,[]),(802,[]),(803,[])] hst (by simp) (by simp) (by simp[z35]) (zgr t true s) (by simp[z09,noH]) ?_
    refine DL.nil ⟨by kernel_rfl,_,by simp;rfl,?_⟩
    refine WL.reg (RL.run (by simp[w];rfl) ⟨_,by simp;rfl,?_⟩)
    exact⟨⟨(j+1,t),hlt,hok,hg1,hg2⟩,by simp,by simp only;omega⟩
  ·obtain rfl:j=(z0r l).length:=by omega
   rw[List.drop_length] at hg2
   simp only[goW] at hg2
   refine WL.seq (WL.sreg (by simp;rfl) (by simp;rfl) ?_)
   refine WL.cond (t:=false) (by simp) (by simp) fun _=>WL.exit ?_
   refine WL.sreg (by simp;rfl) (by simp;rfl) (WL.ret ⟨.inr rfl,?_⟩)
   simp[yrm,← hg2]
 ·have z:(z5m l p c != 0)=true:=by simp[h0]
  refine RL.o (by simp[z];rfl) (RL.nil ⟨_,by simp;rfl,?_⟩)
  refine WL.cond (t:=true) (by simp) (fun _=>?_) (by simp)
  have hfin:z50 l p c=(⟨[],[],[]⟩,false):=by unfold z50;rw[if_neg h0]
  rw[hfin]
  refine WL.sreg (by simp;rfl) (by simp;rfl) (WL.nil1 601 true 1 (by simp) (WL.nil1 602 true 1 (by simp) (WL.nil1 603 true 1 (by simp) (WL.ret ⟨.inr rfl,?_⟩))))
  simp[yrm]
end Go.OT
namespace Go.OT
open Go.Proofs
set_option maxHeartbeats 16000000 in
theorem zlq (l:List Ev)(i:Nat)(e:Ev)(v:Bool)(hs:z1h e=true→v=false)(hl:z1h e=false→WL Try.prog z4k.nt zbh (tmS l i (bxE 7 e ++ [(6700,0,bl false)])) (tmQ v)) :
  WL Try.prog z4k.nt zow (tmS l i (bxE 7 e ++ [(1400,0,bl false)])) (Ex.blkL 0 (Ex.thenL (fun L'=>WL Try.prog z4k.nt zbh L' (tmQ v)) (tmQ v))):=by
 by_cases p1:0 < e.End
 ·have z:(e.End == 0)=false:=beq_false_of_ne (by omega)
  by_cases p2:e.Stamp < e.Begin
  ·have hv:=hs (by simp[z1h,p1,p2])
   refine WL.sreg (by simp[p1,p2];rfl) (by simp;rfl) ?_
   refine WL.cond (t:=true) (by simp) (fun _=>?_) (by simp)
   refine WL.sreg (by simp;rfl) (by simp;rfl) (WL.ret ⟨rfl,?_⟩)
   simp[z4k,hv]
  ·by_cases p3:e.End < e.Stamp
   ·have hv:=hs (by simp[z1h,p1,p2,p3])
    refine WL.sreg (by simp[p1,p2,p3];rfl) (by simp;rfl) ?_
    refine WL.cond (t:=true) (by simp) (fun _=>?_) (by simp)
    refine WL.sreg (by simp;rfl) (by simp;rfl) (WL.ret ⟨rfl,?_⟩)
    simp[z4k,hv]
   ·refine WL.sreg (by simp[p1,p2,p3];rfl) (by simp;rfl) ?_
    refine WL.cond (t:=false) (by simp) (by simp) fun _=>?_
    refine WL.sreg (by simp[z];rfl) (by simp;rfl) ?_
    refine WL.cond (t:=false) (by simp) (by simp) fun _=>WL.skip ?_
    exact hl (by first | (simp [z1h,p1,p2,p3];done) | (simp [z1h,p1,p2,p3];omega))
 ·by_cases p0:e.End=0
  ·have z0:(e.End == 0)=true:=by simp[p0]
   by_cases p2:e.Stamp=0
   ·have z2:(e.Stamp != 0)=false:=by simp[p2]
    refine WL.sreg (by simp[p1];rfl) (by simp;rfl) ?_
    refine WL.cond (t:=false) (by simp) (by simp) fun _=>?_
    refine WL.sreg (by simp[z0,z2];rfl) (by simp;rfl) ?_
    refine WL.cond (t:=false) (by simp) (by simp) fun _=>WL.skip ?_
    exact hl (by simp[z1h,p1,p0,p2])
   ·have z2:(e.Stamp != 0)=true:=by simp[p2]
    by_cases p3:e.Stamp < e.Begin
    ·have hv:=hs (by simp[z1h,p0,p2,p3])
     refine WL.sreg (by simp[p1];rfl) (by simp;rfl) ?_
     refine WL.cond (t:=false) (by simp) (by simp) fun _=>?_
     refine WL.sreg (by simp[z0,z2,p3];rfl) (by simp;rfl) ?_
     refine WL.cond (t:=true) (by simp) (fun _=>?_) (by simp)
     refine WL.sreg (by simp;rfl) (by simp;rfl) (WL.ret ⟨rfl,?_⟩)
     simp[z4k,hv]
    ·refine WL.sreg (by simp[p1];rfl) (by simp;rfl) ?_
     refine WL.cond (t:=false) (by simp) (by simp) fun _=>?_
     refine WL.sreg (by simp[z0,z2,p3];rfl) (by simp;rfl) ?_
     refine WL.cond (t:=false) (by simp) (by simp) fun _=>WL.skip ?_
     exact hl (by simp[z1h,p1,p0,p2,p3])
  ·have z:(e.End == 0)=false:=beq_false_of_ne p0
   refine WL.sreg (by simp[p1];rfl) (by simp;rfl) ?_
   refine WL.cond (t:=false) (by simp) (by simp) fun _=>?_
   refine WL.sreg (by simp[z];rfl) (by simp;rfl) ?_
   refine WL.cond (t:=false) (by simp) (by simp) fun _=>WL.skip ?_
   exact hl (by simp[z1h,p1,p0])
set_option maxHeartbeats 16000000 in
theorem zef (l:List Ev)(hn:l.length≤1000)(i:Nat)(hi:i < l.length)(c:Int):FnC Try.prog 135 [] [sEv l,i64 i,i64 c] [] (bl (z1u l i c)):=by
 rw[z63 hi]
 have f1:=z1d (o:=false) (r:=false) hi
 have g1:14≤l.length * 14 - i * 14:=by omega
 refine FnC.go yut rfl ?_
 refine WL.mono (Q':=tmQ (z26 l i c l[i])) ?_ fun x L h=>⟨.inr h.1,h.2⟩
 refine WL.sreg (by simp;rfl) (by simp;rfl) ?_
 refine WL.scope (WL.sreg (by simp[hi,f1,g1];rfl) (by simp;rfl) ?_)
 have loop:=zlk l hn i hi l[i]
 generalize l[i]=e at loop ⊢
 clear f1 g1
 have rest:z4z l i c e=false→WL Try.prog z4k.nt zow (tmS l i (bxE 7 e ++ [(1400,0,bl false)])) (Ex.blkL 0 (Ex.thenL (fun L'=>WL Try.prog z4k.nt zbh L' (tmQ (z26 l i c e))) (tmQ (z26 l i c e)))):=fun hb =>
  zlq l i e _ (fun h=>by simp[z26,h]) (fun h=>by simpa [z26,hb,h] using loop)
 refine WL.seq (WL.block (WL.seq ?_))
 by_cases q1:e.Client < 0
 ·refine WL.draw z0t (by simp[z09,noH]) (DL.run (by simp[q1];exact⟨rfl,rfl⟩) ⟨by kernel_rfl,_,by simp;rfl,?_⟩)
  refine WL.cond (t:=true) (by simp) (fun _=>?_) (by simp)
  refine WL.sreg (by simp;rfl) (by simp;rfl) (WL.ret ⟨rfl,?_⟩)
  simp[z4k,z26,z4z,z3s,q1]
 by_cases q2:c≤e.Client
 ·refine WL.draw z0t (by simp[z09,noH]) (DL.run (by simp[q1,q2];exact⟨rfl,rfl⟩) ⟨by kernel_rfl,_,by simp;rfl,?_⟩)
  refine WL.cond (t:=true) (by simp) (fun _=>?_) (by simp)
  refine WL.sreg (by simp;rfl) (by simp;rfl) (WL.ret ⟨rfl,?_⟩)
  simp[z4k,z26,z4z,z3s,q1,q2]
 by_cases q3:e.Begin < 1
 ·refine WL.draw z0t (by simp[z09,noH]) (DL.run (by simp[q1,q2,q3];exact⟨rfl,rfl⟩) ⟨by kernel_rfl,_,by simp;rfl,?_⟩)
  refine WL.cond (t:=true) (by simp) (fun _=>?_) (by simp)
  refine WL.sreg (by simp;rfl) (by simp;rfl) (WL.ret ⟨rfl,?_⟩)
  simp[z4k,z26,z4z,z3s,q1,q2,q3]
 by_cases q4:0 < i
 ·obtain⟨j,hj⟩:∃ j,j=i - 1:=⟨_,rfl⟩
  have w:IntKind.wrap .i64 ((i:Int) - 1)=(j:Int):=by rw[z01 (by omega) (by omega)];omega
  have hjl:j < l.length:=by omega
  have f2:=z1d (o:=false) (r:=false) hjl
  have g2:14≤l.length * 14 - j * 14:=by omega
  have hgd:l.getD j e=l[j]:=by simp[hjl]
  by_cases q5:e.Begin < l[j].Begin
  ·refine WL.draw z0t (by simp[z09,noH]) (DL.run (by simp[q1,q2,q3,q4,q5,w,hjl,f2,g2,← hj,hgd];exact⟨rfl,rfl⟩) ⟨by kernel_rfl,_,by simp;rfl,?_⟩)
   refine WL.cond (t:=true) (by simp) (fun _=>?_) (by simp)
   refine WL.sreg (by simp;rfl) (by simp;rfl) (WL.ret ⟨rfl,?_⟩)
   simp[z4k,z26,z4z,z3s,q1,q2,q3,q4,q5,w,hjl,f2,g2,← hj,hgd]
  ·by_cases q6:e.End < 0
   ·refine WL.draw z0t (by simp[z09,noH]) (DL.run (by simp[q1,q2,q3,q4,q5,q6,w,hjl,f2,g2,← hj,hgd];exact⟨rfl,rfl⟩) ⟨by kernel_rfl,_,by simp;rfl,?_⟩)
    refine WL.cond (t:=true) (by simp) (fun _=>?_) (by simp)
    refine WL.sreg (by simp;rfl) (by simp;rfl) (WL.ret ⟨rfl,?_⟩)
    simp[z4k,z26,z4z,z3s,q1,q2,q3,q4,q5,q6,w,hjl,f2,g2,← hj,hgd]
   ·refine WL.draw z0t (by simp[z09,noH]) (DL.run (by simp[q1,q2,q3,q4,q5,q6,w,hjl,f2,g2,← hj,hgd];exact⟨rfl,rfl⟩) ⟨by kernel_rfl,_,by simp;rfl,?_⟩)
    refine WL.cond (t:=false) (by simp) (by simp) fun _=>?_
    exact rest (by simp[z4z,z3s,q1,q2,q3,q4,q5,q6,w,hjl,f2,g2,← hj,hgd])
 ·obtain rfl:i=0:=by omega
  by_cases q6:e.End < 0
  ·refine WL.draw z0t (by simp[z09,noH]) (DL.run (by simp[q1,q2,q3,q6];exact⟨rfl,rfl⟩) ⟨by kernel_rfl,_,by simp;rfl,?_⟩)
   refine WL.cond (t:=true) (by simp) (fun _=>?_) (by simp)
   refine WL.sreg (by simp;rfl) (by simp;rfl) (WL.ret ⟨rfl,?_⟩)
   simp[z4k,z26,z4z,z3s,q1,q2,q3,q6]
  ·refine WL.draw z0t (by simp[z09,noH]) (DL.run (by simp[q1,q2,q3,q6];exact⟨rfl,rfl⟩) ⟨by kernel_rfl,_,by simp;rfl,?_⟩)
   refine WL.cond (t:=false) (by simp) (by simp) fun _=>?_
   exact rest (by simp[z4z,z3s,q1,q2,q3,q6])
end Go.OT
namespace Go.OT
open Go.Proofs
inductive Sh | nil | one | two
@[simp] def Sh.fv:Sh→Nat→List AU→AU
 | .nil,_,_=>.sc .nilFunc
 | _,f,cps=>.clos f cps
@[simp] def Sh.gh:Sh→List AU→List AU→SL
 | .nil,_,_=>[]
 | .one,b,_=>[(1000000,0,.bx true () b)]
 | .two,b,d=>[(1000000,0,.bx true () b),(1000100,0,.bx true () d)]
@[simp] def Sh.gs:Sh→List AU→List AU→List (Gh Unit)
 | .nil,_,_=>[]
 | .one,b,_=>[.nod (.bx true () b)]
 | .two,b,d=>[.nod (.bx true () b),.nod (.bx true () d)]
@[simp] def Sh.ks:Sh→List (Nat × List Nat)
 | .nil=>[]
 | .one=>[(1000000,[])]
 | .two=>[(1000000,[]),(1000100,[])]
theorem zih (p c:Int):May (z0p p c)=!z0q p c:=by
 cases h:z0q p c with
 | false=>exact (zbf _).2 (z2p h)
 | true=>unfold z0p;rw[h];rfl
theorem zbs {l:List Ev}{u:Nat}{c:Int}(hu:u < l.length)(h:z1u l u c=true):0≤l[u].End:=by
 rw[z63 hu] at h
 simp only[z26,z4z,Bool.and_eq_true,Bool.not_eq_true',Bool.or_eq_false_iff,decide_eq_false_iff_not] at h
 omega
structure SeeOk {σ:Type} (l:List Ev) (sh:Sh) (f:Nat) (cps:List AU) (B D:σ→List AU) (see:σ→Int→St→σ) (Inv:σ→St→Prop):Prop where
 no:z0l cps=true
 root:z5n (sh.ks.map (·.1)) cps=true
 roots:z1g cps=sh.ks.map (·.1)
 len:cps.length≤1000
 tr:∀ (X:XF Unit) (k:Nat),(∀ e ∈ sh.ks,(X e.1).1=0∧∃ b,(X e.1).2=.bx true () b)→trL X sh.ks false k cps=some cps
 inv:∀ a s (u:Nat) (hu:u < l.length),OkSt s→Inv a s→(z0u s l[u]).1=true→Inv (see a u (z0u s l[u]).2) (z0u s l[u]).2
 fn:sh ≠ .nil→∀ a s (u:Nat) (hu:u < l.length),OkSt s→Inv a s→(z0u s l[u]).1=true →
  FnC Try.prog f (sh.gs (B a) (D a)) ([i64 u,z6m false (z0u s l[u]).2] ++ cps) (sh.gs (B (see a u (z0u s l[u]).2)) (D (see a u (z0u s l[u]).2))) (.tuple [])
abbrev rcF (b:Nat)(s:St):SL:=[(100 * b,0,.bptr b 1 0),(100 * b+1,0,sB false s.There),(100 * b+2,0,sUU false s.Body),(100 * b+3,0,sII false s.Handles),(100 * b+99,1,.non)]
abbrev wkS (l:List Ev)(c:Int)(fv:AU)(s:St)(r:SL):SL:=[(0,0,sEv l),(200,0,i64 c),(300,0,fv)] ++ (rcF 9 s ++ r)
abbrev wkT (l:List Ev)(fv:AU)(s:St)(j:Nat)(r:SL):SL:=[(0,0,sEv l),(300,0,fv)] ++ (rcF 9 s ++ ([(3600,0,sI true (z0r l)),(3700,0,i64 (z0r l).length),(3800,0,i64 j)] ++ r))
abbrev wkQ (gs:List (Gh Unit))(v:Int):Ex→SL→Prop:=fun e L=>e=Ex.ret∧RetOk z8j.rs gs (i64 v) L
section
variable {σ:Type} {l:List Ev} {sh:Sh} {f:Nat} {cps:List AU} {B D:σ→List AU} {see:σ→Int→St→σ} {Inv:σ→St→Prop}
theorem zk6 (hS:SeeOk l sh f cps B D see Inv)(s:St)(h:OkSt s)(a:σ)(hi:Inv a s)(u:Nat)(hu:u < l.length)(hr:(z0u s l[u]).1=true)(j:Nat)(K:SL→Prop)
  (hK:K (wkT l (sh.fv f cps) (z0u s l[u]).2 j (sh.gh (B (see a u (z0u s l[u]).2)) (D (see a u (z0u s l[u]).2))))) :
  WL Try.prog z8j.nt zd3 ([(0,0,sEv l),(300,0,sh.fv f cps)] ++ (rcF 9 (z0u s l[u]).2 ++ ([(1200,0,i64 u),(3600,0,sI true (z0r l)),(3700,0,i64 (z0r l).length),(3800,0,i64 j)] ++ sh.gh (B a) (D a)))) (fun e L=>(e=.nrm∨e=.ext 3)∧K L):=by
 have e1:=hS.no
 have e2:=hS.root
 have e3:=hS.tr
 have e4:=hS.len
 have e5:=hS.roots
 have hf:=fun h'=>hS.fn h' a s u hu h hi hr
 generalize (z0u s l[u]).2=t at *
 cases sh with
 | nil =>
  refine WL.seq (WL.sreg (by simp;rfl) (by simp;rfl) ?_)
  refine WL.cond (t:=true) (by simp) (fun _=>?_) (by simp)
  refine WL.fin [12,87] (by simp;rfl) (WL.exit ⟨.inr rfl,?_⟩)
  simpa using hK
 | one =>
  have hf:=hf (by simp)
  simp at e2 e3 e5 hf
  refine WL.seq (WL.sreg (by simp[e1];rfl) (by simp[e5];rfl) ?_)
  refine WL.cond (t:=false) (by simp) (by simp) fun _=>WL.skip ?_
  refine WL.reg (RL.o (by simp[e1];rfl) (RL.cloK (f:=f) (cps:=cps) false [(1000000,[])] (by simp) hf (by simp) (by simp) ?_ (by simp;omega) ?_ ?_ (RL.nil ⟨_,by simp[e5];rfl,?_⟩)))
  ·simp[e1]
   rw[e3 _ _ (by simp) _ (by simp;rfl)]
   simp
  ·simp
  ·simp[e2]
  ·simpa using hK
 | two =>
  have hf:=hf (by simp)
  simp at e2 e3 e5 hf
  refine WL.seq (WL.sreg (by simp[e1];rfl) (by simp[e5];rfl) ?_)
  refine WL.cond (t:=false) (by simp) (by simp) fun _=>WL.skip ?_
  refine WL.reg (RL.o (by simp[e1];rfl) (RL.cloK (f:=f) (cps:=cps) false [(1000000,[]),(1000100,[])] (by simp) hf (by simp) (by simp) ?_ (by simp;omega) ?_ ?_ (RL.nil ⟨_,by simp[e5];rfl,?_⟩)))
  ·simp[e1]
   rw[e3 _ _ (by simp) _ (by simp;rfl) (by simp) _ (by simp;rfl)]
   simp
  ·simp
  ·simp[e2]
  ·simpa using hK
theorem z42 {s t:St}{e:Ev}(h0:0≤e.End)(h:z1x s e=some t):(z0u s e).1=true∧(z0u s e).2=t:=by
 rw[zk4 s e h0] at h
 split at h
 ·rename_i h1;exact⟨h1,by simpa using h⟩
 ·cases h
theorem z43 {s:St}{e:Ev}(h0:0≤e.End)(h:z1x s e=none):(z0u s e).1=false:=by
 rw[zk4 s e h0] at h
 split at h
 ·cases h
 ·rename_i h1;simpa using h1
set_option maxHeartbeats 16000000 in
theorem zii (hE:EvOk l)(hS:SeeOk l Sh.nil f cps B D see Inv)(s0:St)(h0:OkSt s0)(a0:σ)(i0:Inv a0 s0)(c:Int)(hT:∀ j,j < l.length→z1u l j c=true)(n:Nat) :
  WL Try.prog z8j.nt zjt (wkS l c (Sh.nil.fv f cps) s0 ([(2300,0,i64 n),(2400,0,i64 n),(2500,0,bl false)] ++ Sh.nil.gh (B a0) (D a0))) (wkQ (Sh.nil.gs (B (goW l see s0 a0 (z0r l)).2.2) (D (goW l see s0 a0 (z0r l)).2.2)) (goW l see s0 a0 (z0r l)).1):=by
 have hn:=hE.n
 have hOl:=z5k l
 have hsee:=fun s h a hi u hu hr j=>zk6 hS s h a hi u hu hr j
 have hI:=fun a s u hu h hi hr=>hS.inv a s u hu h hi hr
 refine WL.seq (WL.sregC (RL.o (by simp;rfl) (RL.call0 false (zee l hn) (by simp) (by simp) (RL.o (by simp;rfl) (RL.nil ⟨_,by simp;rfl,?_⟩)))))
 refine WL.block (WL.loop (ι:={x:Nat × St × σ // x.1≤(z0r l).length∧OkSt x.2.1∧Inv x.2.2 x.2.1∧goW l see x.2.1 x.2.2 ((z0r l).drop x.1)=goW l see s0 a0 (z0r l)}) (fun x=>wkT l (Sh.nil.fv f cps) x.1.2.1 x.1.1 (Sh.nil.gh (B x.1.2.2) (D x.1.2.2))) (fun x=>(z0r l).length - x.1.1) ⟨(0,s0,a0),Nat.zero_le _,h0,i0,rfl⟩ (by simp) fun x=>?_)
 obtain⟨⟨j,s,a⟩,hj,hs,hia,hg⟩:=x
 simp only at hj hs hg hia ⊢
 by_cases hlt:j < (z0r l).length
 ·obtain⟨u,hu,eu⟩:=z94 hlt
  have f1:=z1d (o:=false) (r:=false) hu
  have g1:14≤l.length * 14 - u * 14:=by omega
  have hlt':j+1≤(z0r l).length:=hlt
  have w:IntKind.wrap .i64 ((j:Int)+1)=((j+1:Nat):Int):=by rw[z01 (by omega) (by omega)];omega
  have w2:IntKind.wrap .i64 ((u:Int)+1)=(u:Int)+1:=by rw[z01 (by omega) (by omega)]
  have hE0:=zbs hu (hT u hu)
  have hse:=hsee s hs a hia u hu
  have hI':=hI a s u hu hs hia
  rw[List.drop_eq_getElem_cons hlt] at hg
  simp only[goW,eu,z56 hu] at hg
  have hok:=z4u hs l[u]
  have tail:∀ t,z1x s l[u]=some t→∀ Q,(∀ e,(e=.nrm∨e=.ext 3)→Q e (wkT l (Sh.nil.fv f cps) t j (Sh.nil.gh (B (see a u t)) (D (see a u t)))))→WL Try.prog z8j.nt zd3 ([(0,0,sEv l),(300,0,Sh.nil.fv f cps)] ++ (rcF 9 t ++ ([(1200,0,i64 u),(3600,0,sI true (z0r l)),(3700,0,i64 (z0r l).length),(3800,0,i64 j)] ++ Sh.nil.gh (B a) (D a)))) Q:=by
   intro t ht Q hQ
   obtain⟨q1,q2⟩:=z42 hE0 ht
   have:=hse q1 j (fun L=>L=wkT l (Sh.nil.fv f cps) t j (Sh.nil.gh (B (see a u t)) (D (see a u t)))) (by rw[q2])
   rw[q2] at this
   refine WL.mono this ?_
   rintro e L ⟨he,rfl⟩
   exact hQ e he
  refine WL.sreg (by simp[hlt];rfl) (by simp;rfl) ?_
  refine WL.seq (WL.cond (t:=true) (by simp[hlt]) (fun _=>WL.skip ?_) (by simp))
  refine WL.seq (WL.block (WL.sreg (by simp[hlt,hlt',eu];rfl) (by simp;rfl) ?_))
  refine WL.sreg (by simp[hlt,hlt',eu,hu,f1,g1];rfl) (by simp;rfl) ?_
  refine WL.sregC (RL.o (by simp;rfl) (RL.doC s hs.sized l[u].Client l[u].op (by simp) (RL.o (by simp;rfl) (RL.nil ⟨_,by simp;rfl,?_⟩))))
  have adv:∀ t,z1x s l[u]=some t→∀ Q,(∀ L,(∃ y:{x:Nat × St × σ // x.1≤(z0r l).length∧OkSt x.2.1∧Inv x.2.2 x.2.1∧goW l see x.2.1 x.2.2 ((z0r l).drop x.1)=goW l see s0 a0 (z0r l)},L=wkT l (Sh.nil.fv f cps) y.1.2.1 y.1.1 (Sh.nil.gh (B y.1.2.2) (D y.1.2.2))∧(z0r l).length - y.1.1 < (z0r l).length - j)→Q Ex.nrm L)→WL Try.prog z8j.nt zjs (wkT l (Sh.nil.fv f cps) t j (Sh.nil.gh (B (see a u t)) (D (see a u t)))) Q:=by
   intro t ht Q hQ
   obtain⟨q1,q2⟩:=z42 hE0 ht
   have hI2:=hI' q1
   rw[q1] at hg
   simp only[if_true] at hg
   rw[q2] at hg hI2 hok
   refine WL.reg (RL.run (by simp[w];rfl) ⟨_,by simp;rfl,hQ _ ?_⟩)
   exact⟨⟨(j+1,t,see a u t),hlt,hok,hI2,hg⟩,by simp,by simp only;omega⟩
  refine WL.seq ?_
  by_cases p:l[u].End=0
  ·have z:(l[u].End == 0)=true:=by simp[p]
   have ht:z1x s l[u]=some (DoB s l[u].Client l[u].op).2.1:=by simp[z1x,p]
   refine WL.block (WL.sregC (RL.o (by simp[z];rfl) (RL.g (by simp;rfl) (RL.callN (by simp) (RL.o (by simp;rfl) (RL.nil ⟨_,by simp;rfl,?_⟩))))))
   refine WL.cond (t:=true) (by simp) (fun _=>?_) (by simp)
   refine WL.reg (RL.run (by simp;rfl) ⟨_,by simp;rfl,?_⟩)
   refine tail _ ht _ ?_
   intro e he
   rcases he with rfl | rfl
   ·exact adv _ ht _ fun L h=>h
   ·exact adv _ ht _ fun L h=>h
  ·have z:(l[u].End == 0)=false:=beq_false_of_ne p
   have hsr:=z41 (DoB s l[u].Client l[u].op).2.2 l[u].res
   cases hv:z1b (DoB s l[u].Client l[u].op).2.2 l[u].res with
   | true =>
    rw[hv] at hsr
    have ht:z1x s l[u]=some (DoB s l[u].Client l[u].op).2.1:=by simp[z1x,hv]
    refine WL.block (WL.sregC (RL.o (by simp[z];rfl) (RL.g (by simp;rfl) (RL.callY0 false (by simp) hsr (by simp) (by simp) (RL.o (by simp;rfl) (RL.nil ⟨_,by simp;rfl,?_⟩))))))
    refine WL.cond (t:=true) (by simp) (fun _=>?_) (by simp)
    refine WL.reg (RL.run (by simp;rfl) ⟨_,by simp;rfl,?_⟩)
    refine tail _ ht _ ?_
    intro e he
    rcases he with rfl | rfl
    ·exact adv _ ht _ fun L h=>h
    ·exact adv _ ht _ fun L h=>h
   | false =>
    rw[hv] at hsr
    refine WL.block (WL.sregC (RL.o (by simp[z];rfl) (RL.g (by simp;rfl) (RL.callY0 false (by simp) hsr (by simp) (by simp) (RL.o (by simp;rfl) (RL.nil ⟨_,by simp;rfl,?_⟩))))))
    refine WL.cond (t:=false) (by simp) (by simp) fun _=>?_
    have hb:=zpx l[u].op l[u].res.Code
    have hp:=z41 l[u].res (rsE l[u].res.Code)
    cases hbad:z8c l[u].op.Kind l[u].res.Code with
    | false =>
     rw[hbad] at hb
     have ht:z1x s l[u]=none:=by simp[z1x,p,hv,hbad]
     have hr:=z43 hE0 ht
     rw[hr] at hg
     simp only[Bool.false_eq_true,if_false] at hg
     refine WL.sregC (RL.o (by simp;rfl) (RL.call0 false hb (by simp) (by simp) (RL.o (by simp;rfl) (RL.g (by simp;rfl) (RL.callN (by simp) (RL.g (by simp;rfl) (RL.o (by simp;rfl) (RL.nil ⟨_,by simp;rfl,?_⟩))))))))
     refine WL.cond (t:=true) (by simp) (fun _=>?_) (by simp)
     refine WL.sreg (by simp[w2];rfl) (by simp;rfl) (WL.ret ⟨rfl,?_⟩)
     simp[z8j,← hg]
    | true =>
     rw[hbad] at hb
     cases hpl:z1b l[u].res (rsE l[u].res.Code) with
     | false =>
      rw[hpl] at hp
      have ht:z1x s l[u]=none:=by simp[z1x,p,hv,hbad,hpl]
      have hr:=z43 hE0 ht
      rw[hr] at hg
      simp only[Bool.false_eq_true,if_false] at hg
      refine WL.sregC (RL.o (by simp;rfl) (RL.call0 false hb (by simp) (by simp) (RL.o (by simp;rfl) (RL.g (by simp;rfl) (RL.nilA 80 3 1 (by simp;rfl) rfl rfl (RL.callY0 false (by simp) hp (by simp[rsE]) (by simp) (RL.g (by simp;rfl) (RL.o (by simp;rfl) (RL.nil ⟨_,by simp;rfl,?_⟩)))))))))
      refine WL.cond (t:=true) (by simp) (fun _=>?_) (by simp)
      refine WL.sreg (by simp[w2];rfl) (by simp;rfl) (WL.ret ⟨rfl,?_⟩)
      simp[z8j,← hg]
     | true =>
      rw[hpl] at hp
      have ht:z1x s l[u]=some s:=by simp[z1x,p,hv,hbad,hpl]
      refine WL.sregC (RL.o (by simp;rfl) (RL.call0 false hb (by simp) (by simp) (RL.o (by simp;rfl) (RL.g (by simp;rfl) (RL.nilA 80 3 1 (by simp;rfl) rfl rfl (RL.callY0 false (by simp) hp (by simp[rsE]) (by simp) (RL.g (by simp;rfl) (RL.o (by simp;rfl) (RL.nil ⟨_,by simp;rfl,?_⟩)))))))))
      refine WL.cond (t:=false) (by simp) (by simp) fun _=>WL.skip ?_
      refine WL.fin [66] (by simp) (tail _ ht _ ?_)
      intro e he
      rcases he with rfl | rfl
      ·exact adv _ ht _ fun L h=>h
      ·exact adv _ ht _ fun L h=>h
 ·obtain rfl:j=(z0r l).length:=by omega
  rw[List.drop_length] at hg
  simp only[goW] at hg
  refine WL.sreg (by simp;rfl) (by simp;rfl) ?_
  refine WL.seq (WL.cond (t:=false) (by simp) (by simp) fun _=>WL.exit ?_)
  refine WL.sreg (by simp;rfl) (by simp;rfl) (WL.ret ⟨rfl,?_⟩)
  simp[z8j,← hg]
set_option maxHeartbeats 16000000 in
theorem zij (hE:EvOk l)(hS:SeeOk l Sh.one f cps B D see Inv)(s0:St)(h0:OkSt s0)(a0:σ)(i0:Inv a0 s0)(c:Int)(hT:∀ j,j < l.length→z1u l j c=true)(n:Nat) :
  WL Try.prog z8j.nt zjt (wkS l c (Sh.one.fv f cps) s0 ([(2300,0,i64 n),(2400,0,i64 n),(2500,0,bl false)] ++ Sh.one.gh (B a0) (D a0))) (wkQ (Sh.one.gs (B (goW l see s0 a0 (z0r l)).2.2) (D (goW l see s0 a0 (z0r l)).2.2)) (goW l see s0 a0 (z0r l)).1):=by
 have hn:=hE.n
 have hOl:=z5k l
 have e1:=hS.no
 have e5:=hS.roots
 simp at e5
 have hsee:=fun s h a hi u hu hr j=>zk6 hS s h a hi u hu hr j
 have hI:=fun a s u hu h hi hr=>hS.inv a s u hu h hi hr
 refine WL.seq (WL.sregC (RL.o (by simp;rfl) (RL.call0 false (zee l hn) (by simp) (by simp) (RL.o (by simp;rfl) (RL.nil ⟨_,by simp[e5];rfl,?_⟩)))))
 refine WL.block (WL.loop (ι:={x:Nat × St × σ // x.1≤(z0r l).length∧OkSt x.2.1∧Inv x.2.2 x.2.1∧goW l see x.2.1 x.2.2 ((z0r l).drop x.1)=goW l see s0 a0 (z0r l)}) (fun x=>wkT l (Sh.one.fv f cps) x.1.2.1 x.1.1 (Sh.one.gh (B x.1.2.2) (D x.1.2.2))) (fun x=>(z0r l).length - x.1.1) ⟨(0,s0,a0),Nat.zero_le _,h0,i0,rfl⟩ (by simp) fun x=>?_)
 obtain⟨⟨j,s,a⟩,hj,hs,hia,hg⟩:=x
 simp only at hj hs hg hia ⊢
 by_cases hlt:j < (z0r l).length
 ·obtain⟨u,hu,eu⟩:=z94 hlt
  have f1:=z1d (o:=false) (r:=false) hu
  have g1:14≤l.length * 14 - u * 14:=by omega
  have hlt':j+1≤(z0r l).length:=hlt
  have w:IntKind.wrap .i64 ((j:Int)+1)=((j+1:Nat):Int):=by rw[z01 (by omega) (by omega)];omega
  have w2:IntKind.wrap .i64 ((u:Int)+1)=(u:Int)+1:=by rw[z01 (by omega) (by omega)]
  have hE0:=zbs hu (hT u hu)
  have hse:=hsee s hs a hia u hu
  have hI':=hI a s u hu hs hia
  rw[List.drop_eq_getElem_cons hlt] at hg
  simp only[goW,eu,z56 hu] at hg
  have hok:=z4u hs l[u]
  have tail:∀ t,z1x s l[u]=some t→∀ Q,(∀ e,(e=.nrm∨e=.ext 3)→Q e (wkT l (Sh.one.fv f cps) t j (Sh.one.gh (B (see a u t)) (D (see a u t)))))→WL Try.prog z8j.nt zd3 ([(0,0,sEv l),(300,0,Sh.one.fv f cps)] ++ (rcF 9 t ++ ([(1200,0,i64 u),(3600,0,sI true (z0r l)),(3700,0,i64 (z0r l).length),(3800,0,i64 j)] ++ Sh.one.gh (B a) (D a)))) Q:=by
   intro t ht Q hQ
   obtain⟨q1,q2⟩:=z42 hE0 ht
   have:=hse q1 j (fun L=>L=wkT l (Sh.one.fv f cps) t j (Sh.one.gh (B (see a u t)) (D (see a u t)))) (by rw[q2])
   rw[q2] at this
   refine WL.mono this ?_
   rintro e L ⟨he,rfl⟩
   exact hQ e he
  refine WL.sreg (by simp[hlt];rfl) (by simp[e5];rfl) ?_
  refine WL.seq (WL.cond (t:=true) (by simp[hlt]) (fun _=>WL.skip ?_) (by simp))
  refine WL.seq (WL.block (WL.sreg (by simp[hlt,hlt',eu];rfl) (by simp[e5];rfl) ?_))
  refine WL.sreg (by simp[hlt,hlt',eu,hu,f1,g1];rfl) (by simp[e5];rfl) ?_
  refine WL.sregC (RL.o (by simp;rfl) (RL.doC s hs.sized l[u].Client l[u].op (by simp) (RL.o (by simp;rfl) (RL.nil ⟨_,by simp[e5];rfl,?_⟩))))
  have adv:∀ t,z1x s l[u]=some t→∀ Q,(∀ L,(∃ y:{x:Nat × St × σ // x.1≤(z0r l).length∧OkSt x.2.1∧Inv x.2.2 x.2.1∧goW l see x.2.1 x.2.2 ((z0r l).drop x.1)=goW l see s0 a0 (z0r l)},L=wkT l (Sh.one.fv f cps) y.1.2.1 y.1.1 (Sh.one.gh (B y.1.2.2) (D y.1.2.2))∧(z0r l).length - y.1.1 < (z0r l).length - j)→Q Ex.nrm L)→WL Try.prog z8j.nt zjs (wkT l (Sh.one.fv f cps) t j (Sh.one.gh (B (see a u t)) (D (see a u t)))) Q:=by
   intro t ht Q hQ
   obtain⟨q1,q2⟩:=z42 hE0 ht
   have hI2:=hI' q1
   rw[q1] at hg
   simp only[if_true] at hg
   rw[q2] at hg hI2 hok
   refine WL.reg (RL.run (by simp[w];rfl) ⟨_,by simp[e5];rfl,hQ _ ?_⟩)
   exact⟨⟨(j+1,t,see a u t),hlt,hok,hI2,hg⟩,by simp,by simp only;omega⟩
  refine WL.seq ?_
  by_cases p:l[u].End=0
  ·have z:(l[u].End == 0)=true:=by simp[p]
   have ht:z1x s l[u]=some (DoB s l[u].Client l[u].op).2.1:=by simp[z1x,p]
   refine WL.block (WL.sregC (RL.o (by simp[z];rfl) (RL.g (by simp;rfl) (RL.callN (by simp) (RL.o (by simp;rfl) (RL.nil ⟨_,by simp[e5];rfl,?_⟩))))))
   refine WL.cond (t:=true) (by simp) (fun _=>?_) (by simp)
   refine WL.reg (RL.run (by simp;rfl) ⟨_,by simp[e5];rfl,?_⟩)
   refine tail _ ht _ ?_
   intro e he
   rcases he with rfl | rfl
   ·exact adv _ ht _ fun L h=>h
   ·exact adv _ ht _ fun L h=>h
  ·have z:(l[u].End == 0)=false:=beq_false_of_ne p
   have hsr:=z41 (DoB s l[u].Client l[u].op).2.2 l[u].res
   cases hv:z1b (DoB s l[u].Client l[u].op).2.2 l[u].res with
   | true =>
    rw[hv] at hsr
    have ht:z1x s l[u]=some (DoB s l[u].Client l[u].op).2.1:=by simp[z1x,hv]
    refine WL.block (WL.sregC (RL.o (by simp[z];rfl) (RL.g (by simp;rfl) (RL.callY0 false (by simp) hsr (by simp) (by simp) (RL.o (by simp;rfl) (RL.nil ⟨_,by simp[e5];rfl,?_⟩))))))
    refine WL.cond (t:=true) (by simp) (fun _=>?_) (by simp)
    refine WL.reg (RL.run (by simp;rfl) ⟨_,by simp[e5];rfl,?_⟩)
    refine tail _ ht _ ?_
    intro e he
    rcases he with rfl | rfl
    ·exact adv _ ht _ fun L h=>h
    ·exact adv _ ht _ fun L h=>h
   | false =>
    rw[hv] at hsr
    refine WL.block (WL.sregC (RL.o (by simp[z];rfl) (RL.g (by simp;rfl) (RL.callY0 false (by simp) hsr (by simp) (by simp) (RL.o (by simp;rfl) (RL.nil ⟨_,by simp[e5];rfl,?_⟩))))))
    refine WL.cond (t:=false) (by simp) (by simp) fun _=>?_
    have hb:=zpx l[u].op l[u].res.Code
    have hp:=z41 l[u].res (rsE l[u].res.Code)
    cases hbad:z8c l[u].op.Kind l[u].res.Code with
    | false =>
     rw[hbad] at hb
     have ht:z1x s l[u]=none:=by simp[z1x,p,hv,hbad]
     have hr:=z43 hE0 ht
     rw[hr] at hg
     simp only[Bool.false_eq_true,if_false] at hg
     refine WL.sregC (RL.o (by simp;rfl) (RL.call0 false hb (by simp) (by simp) (RL.o (by simp;rfl) (RL.g (by simp;rfl) (RL.callN (by simp) (RL.g (by simp;rfl) (RL.o (by simp;rfl) (RL.nil ⟨_,by simp[e5];rfl,?_⟩))))))))
     refine WL.cond (t:=true) (by simp) (fun _=>?_) (by simp)
     refine WL.sreg (by simp[w2];rfl) (by simp[e5];rfl) (WL.ret ⟨rfl,?_⟩)
     simp[z8j,← hg]
    | true =>
     rw[hbad] at hb
     cases hpl:z1b l[u].res (rsE l[u].res.Code) with
     | false =>
      rw[hpl] at hp
      have ht:z1x s l[u]=none:=by simp[z1x,p,hv,hbad,hpl]
      have hr:=z43 hE0 ht
      rw[hr] at hg
      simp only[Bool.false_eq_true,if_false] at hg
      refine WL.sregC (RL.o (by simp;rfl) (RL.call0 false hb (by simp) (by simp) (RL.o (by simp;rfl) (RL.g (by simp;rfl) (RL.nilA 80 3 1 (by simp;rfl) rfl rfl (RL.callY0 false (by simp) hp (by simp[rsE]) (by simp) (RL.g (by simp;rfl) (RL.o (by simp;rfl) (RL.nil ⟨_,by simp[e5];rfl,?_⟩)))))))))
      refine WL.cond (t:=true) (by simp) (fun _=>?_) (by simp)
      refine WL.sreg (by simp[w2];rfl) (by simp[e5];rfl) (WL.ret ⟨rfl,?_⟩)
      simp[z8j,← hg]
     | true =>
      rw[hpl] at hp
      have ht:z1x s l[u]=some s:=by simp[z1x,p,hv,hbad,hpl]
      refine WL.sregC (RL.o (by simp;rfl) (RL.call0 false hb (by simp) (by simp) (RL.o (by simp;rfl) (RL.g (by simp;rfl) (RL.nilA 80 3 1 (by simp;rfl) rfl rfl (RL.callY0 false (by simp) hp (by simp[rsE]) (by simp) (RL.g (by simp;rfl) (RL.o (by simp;rfl) (RL.nil ⟨_,by simp[e5];rfl,?_⟩)))))))))
      refine WL.cond (t:=false) (by simp) (by simp) fun _=>WL.skip ?_
      refine WL.fin [66] (by simp[e5]) (tail _ ht _ ?_)
      intro e he
      rcases he with rfl | rfl
      ·exact adv _ ht _ fun L h=>h
      ·exact adv _ ht _ fun L h=>h
 ·obtain rfl:j=(z0r l).length:=by omega
  rw[List.drop_length] at hg
  simp only[goW] at hg
  refine WL.sreg (by simp;rfl) (by simp[e5];rfl) ?_
  refine WL.seq (WL.cond (t:=false) (by simp) (by simp) fun _=>WL.exit ?_)
  refine WL.sreg (by simp;rfl) (by simp[e5];rfl) (WL.ret ⟨rfl,?_⟩)
  simp[z8j,← hg]
set_option maxHeartbeats 16000000 in
theorem zt8 (hE:EvOk l)(hS:SeeOk l Sh.nil f cps B D see Inv)(p c:Int)(a:σ)(hI:z0q p c=false→Inv a (z0p p c)) :
  FnC Try.prog 88 (Sh.nil.gs (B a) (D a)) [sEv l,i64 p,i64 c,Sh.nil.fv f cps] (Sh.nil.gs (B (z12 see a l p c).2.2) (D (z12 see a l p c).2.2)) (i64 (z12 see a l p c).1):=by
 have hn:=hE.n
 have hms:=zcy (z0p p c) (z78 p c)
 rw[zih] at hms
 refine FnC.go ytu rfl ?_
 refine WL.mono (Q':=wkQ (Sh.nil.gs (B (z12 see a l p c).2.2) (D (z12 see a l p c).2.2)) (z12 see a l p c).1) ?_ fun x L h=>⟨.inr h.1,h.2⟩
 refine WL.sreg (by simp;rfl) (by simp;rfl) ?_
 refine WL.scope ?_
 refine WL.sregC (RL.o (by simp;rfl) (RL.newC p c (by simp) (RL.o (by simp;rfl) (RL.nil ⟨_,by simp;rfl,?_⟩))))
 cases hb:z0q p c with
 | true =>
  rw[hb] at hms
  refine WL.seq (WL.sregC (RL.o (by simp;rfl) (RL.call0 false hms (by simp) (by simp) (RL.o (by simp;rfl) (RL.nil ⟨_,by simp;rfl,?_⟩)))))
  refine WL.cond (t:=true) (by simp) (fun _=>?_) (by simp)
  refine WL.sreg (by simp;rfl) (by simp;rfl) (WL.ret ⟨rfl,?_⟩)
  simp[z8j,z12,hb]
 | false =>
  rw[hb] at hms
  have hok:=z2p hb
  have i0:=hI hb
  refine WL.seq (WL.sregC (RL.o (by simp;rfl) (RL.call0 false hms (by simp) (by simp) (RL.o (by simp;rfl) (RL.nil ⟨_,by simp;rfl,?_⟩)))))
  refine WL.cond (t:=false) (by simp) (by simp) fun _=>WL.skip ?_
  refine WL.seq (WL.sreg (by simp;rfl) (by simp;rfl) ?_)
  unfold z12
  rw[hb]
  simp only[Bool.false_eq_true,if_false]
  generalize z0p p c=s0 at hok i0 ⊢
  refine WL.block (WL.count l.length (fun i=>wkS l c (Sh.nil.fv f cps) s0 ([(2300,0,i64 l.length),(2400,0,i64 i)] ++ Sh.nil.gh (B a) (D a))) (fun i=>∀ j,j < i→z1u l j c=true) rfl (fun j h=>absurd h (Nat.not_lt_zero _)) fun i hi hp=>?_)
  by_cases hlt:i < l.length
  ·have w:IntKind.wrap .i64 ((i:Int)+1)=((i+1:Nat):Int):=by rw[z01 (by omega) (by omega)];omega
   have ha:=zef l hn i hlt c
   refine WL.sreg (by simp[hlt];rfl) (by simp;rfl) ?_
   refine WL.seq (WL.cond (t:=true) (by simp[hlt]) (fun _=>WL.skip ?_) (by simp))
   refine WL.seq (WL.block (WL.sreg (by simp[hlt];rfl) (by simp;rfl) ?_))
   cases ht:z1u l i c with
   | true =>
    rw[ht] at ha
    refine WL.sregC (RL.o (by simp;rfl) (RL.call0 false ha (by simp) (by simp) (RL.o (by simp;rfl) (RL.nil ⟨_,by simp;rfl,?_⟩))))
    refine WL.cond (t:=false) (by simp) (by simp) fun _=>WL.skip ?_
    refine WL.reg (RL.run (by simp[w];rfl) ⟨_,by simp;rfl,hlt,?_,fun j hj=>?_⟩)
    ·simp
    ·by_cases e:j=i
     ·subst e;exact ht
     ·exact hp j (by omega)
   | false =>
    rw[ht] at ha
    have hf:=z40 hlt hp ht
    refine WL.sregC (RL.o (by simp;rfl) (RL.call0 false ha (by simp) (by simp) (RL.o (by simp;rfl) (RL.nil ⟨_,by simp;rfl,?_⟩))))
    refine WL.cond (t:=true) (by simp) (fun _=>?_) (by simp)
    refine WL.sreg (by simp[w];rfl) (by simp;rfl) (WL.ret ⟨rfl,?_⟩)
    simp[z8j,hf]
  ·obtain rfl:i=l.length:=by omega
   have hf:=z33 hp
   rw[hf]
   refine WL.sreg (by simp;rfl) (by simp;rfl) ?_
   refine WL.seq (WL.cond (t:=false) (by simp) (by simp) fun _=>WL.exit ?_)
   refine WL.seq (WL.label ?_)
   exact zii hE hS s0 hok a i0 c hp l.length
set_option maxHeartbeats 16000000 in
theorem zk7 (hE:EvOk l)(hS:SeeOk l Sh.one f cps B D see Inv)(p c:Int)(a:σ)(hI:z0q p c=false→Inv a (z0p p c)) :
  FnC Try.prog 88 (Sh.one.gs (B a) (D a)) [sEv l,i64 p,i64 c,Sh.one.fv f cps] (Sh.one.gs (B (z12 see a l p c).2.2) (D (z12 see a l p c).2.2)) (i64 (z12 see a l p c).1):=by
 have hn:=hE.n
 have e5:=hS.roots
 simp at e5
 have hms:=zcy (z0p p c) (z78 p c)
 rw[zih] at hms
 refine FnC.go ytu rfl ?_
 refine WL.mono (Q':=wkQ (Sh.one.gs (B (z12 see a l p c).2.2) (D (z12 see a l p c).2.2)) (z12 see a l p c).1) ?_ fun x L h=>⟨.inr h.1,h.2⟩
 refine WL.sreg (by simp;rfl) (by simp[e5];rfl) ?_
 refine WL.scope ?_
 refine WL.sregC (RL.o (by simp;rfl) (RL.newC p c (by simp) (RL.o (by simp;rfl) (RL.nil ⟨_,by simp[e5];rfl,?_⟩))))
 cases hb:z0q p c with
 | true =>
  rw[hb] at hms
  refine WL.seq (WL.sregC (RL.o (by simp;rfl) (RL.call0 false hms (by simp) (by simp) (RL.o (by simp;rfl) (RL.nil ⟨_,by simp[e5];rfl,?_⟩)))))
  refine WL.cond (t:=true) (by simp) (fun _=>?_) (by simp)
  refine WL.sreg (by simp;rfl) (by simp[e5];rfl) (WL.ret ⟨rfl,?_⟩)
  simp[z8j,z12,hb]
 | false =>
  rw[hb] at hms
  have hok:=z2p hb
  have i0:=hI hb
  refine WL.seq (WL.sregC (RL.o (by simp;rfl) (RL.call0 false hms (by simp) (by simp) (RL.o (by simp;rfl) (RL.nil ⟨_,by simp[e5];rfl,?_⟩)))))
  refine WL.cond (t:=false) (by simp) (by simp) fun _=>WL.skip ?_
  refine WL.seq (WL.sreg (by simp;rfl) (by simp[e5];rfl) ?_)
  unfold z12
  rw[hb]
  simp only[Bool.false_eq_true,if_false]
  generalize z0p p c=s0 at hok i0 ⊢
  refine WL.block (WL.count l.length (fun i=>wkS l c (Sh.one.fv f cps) s0 ([(2300,0,i64 l.length),(2400,0,i64 i)] ++ Sh.one.gh (B a) (D a))) (fun i=>∀ j,j < i→z1u l j c=true) rfl (fun j h=>absurd h (Nat.not_lt_zero _)) fun i hi hp=>?_)
  by_cases hlt:i < l.length
  ·have w:IntKind.wrap .i64 ((i:Int)+1)=((i+1:Nat):Int):=by rw[z01 (by omega) (by omega)];omega
   have ha:=zef l hn i hlt c
   refine WL.sreg (by simp[hlt];rfl) (by simp[e5];rfl) ?_
   refine WL.seq (WL.cond (t:=true) (by simp[hlt]) (fun _=>WL.skip ?_) (by simp))
   refine WL.seq (WL.block (WL.sreg (by simp[hlt];rfl) (by simp[e5];rfl) ?_))
   cases ht:z1u l i c with
   | true =>
    rw[ht] at ha
    refine WL.sregC (RL.o (by simp;rfl) (RL.call0 false ha (by simp) (by simp) (RL.o (by simp;rfl) (RL.nil ⟨_,by simp[e5];rfl,?_⟩))))
    refine WL.cond (t:=false) (by simp) (by simp) fun _=>WL.skip ?_
    refine WL.reg (RL.run (by simp[w];rfl) ⟨_,by simp[e5];rfl,hlt,?_,fun j hj=>?_⟩)
    ·simp
    ·by_cases e:j=i
     ·subst e;exact ht
     ·exact hp j (by omega)
   | false =>
    rw[ht] at ha
    have hf:=z40 hlt hp ht
    refine WL.sregC (RL.o (by simp;rfl) (RL.call0 false ha (by simp) (by simp) (RL.o (by simp;rfl) (RL.nil ⟨_,by simp[e5];rfl,?_⟩))))
    refine WL.cond (t:=true) (by simp) (fun _=>?_) (by simp)
    refine WL.sreg (by simp[w];rfl) (by simp[e5];rfl) (WL.ret ⟨rfl,?_⟩)
    simp[z8j,hf]
  ·obtain rfl:i=l.length:=by omega
   have hf:=z33 hp
   rw[hf]
   refine WL.sreg (by simp;rfl) (by simp[e5];rfl) ?_
   refine WL.seq (WL.cond (t:=false) (by simp) (by simp) fun _=>WL.exit ?_)
   refine WL.seq (WL.label ?_)
   exact zij hE hS s0 hok a i0 c hp l.length
end
end Go.OT
namespace Go.OT
open Go.Proofs
theorem zt9 (l:List Ev):SeeOk l .nil 0 [] (fun _:Unit=>[]) (fun _=>[]) z36 (fun _ _=>True) :=
 ⟨rfl,rfl,rfl,by simp,fun _ _ _=>rfl,fun _ _ _ _ _ _ _=>trivial,fun h=>absurd rfl h⟩
set_option maxHeartbeats 8000000 in
theorem ykd (l:List Ev)(hE:EvOk l)(p c:Int):FnC Try.prog 28 [] [sEv l,i64 p,i64 c] [] (i64 (z5m l p c)):=by
 have hw:=zt8 hE (zt9 l) p c () (fun _=>trivial)
 rw[z57] at hw
 simp only[Sh.gs,Sh.fv] at hw
 refine FnC.go yyq rfl ?_
 refine WL.sreg (by simp;rfl) (by simp;rfl) ?_
 refine WL.sregC (RL.o (by simp;rfl) (RL.call0 false hw (by simp) (by simp) (RL.o (by simp;rfl) (RL.nil ⟨_,by simp;rfl,WL.ret ⟨.inr rfl,?_⟩⟩))))
 simp[yxj]
set_option maxHeartbeats 8000000 in
theorem zq4 (i:Int)(s t:St):FnC Try.prog 89 [.nod (.bx true () (zcx false s))] [i64 i,z6m false t,.ptr 1000000 0 [] 0] [.nod (.bx true () (zcx false t))] (.tuple []):=by
 refine FnC.go yz1 rfl ?_
 refine WL.sreg (by simp;rfl) (by simp;rfl) ?_
 refine WL.wipe 1000000 (by simp;rfl) (by simp) ?_
 refine WL.reg (RL.run (by simp;rfl) ⟨_,by simp;rfl,?_⟩)
 refine⟨.inl rfl,?_⟩
 simp[yxn]
theorem zlr (l:List Ev):SeeOk l .one 89 [.ptr 1000000 0 [] 0] (fun s:St=>zcx false s) (fun _=>[]) (fun _ _ t=>t) (fun _ _=>True) :=
 ⟨rfl,rfl,rfl,by simp,fun X k h=>by
  obtain⟨h1,b,h2⟩:=h (1000000,[]) (by simp)
  simp at h1 h2
  simp[h1,h2,z35],fun _ _ _ _ _ _ _=>trivial,fun _ a s u hu _ _ _=>zq4 u a (z0u s l[u]).2⟩
set_option maxHeartbeats 16000000 in
theorem yke (l:List Ev)(hE:EvOk l)(p c:Int):FnC Try.prog 30 [] [sEv l,i64 p,i64 c] [] (.tuple [z6m false (z50 l p c).1,bl (z50 l p c).2]):=by
 have hw:=zk7 hE (zlr l) p c (z0p p c) (fun _=>trivial)
 rw[z57] at hw
 simp only[Sh.gs,Sh.fv] at hw
 refine FnC.go yyr rfl ?_
 refine WL.sreg (by simp;rfl) (by simp;rfl) ?_
 refine WL.sregC (RL.o (by simp;rfl) (RL.newC p c (by simp) (RL.o (by simp;rfl) (RL.nil ⟨_,by simp;rfl,?_⟩))))
 rw[zll] at hw
 refine WL.raise 8 3 (by simp) (by simp;rfl) (by simp) ?_
 by_cases h0:z5m l p c=0
 ·have z:(z5m l p c != 0)=false:=by simp[h0]
  have hfin:z50 l p c=((z12 z36 () l p c).2.1,true):=by unfold z50;rw[if_pos h0]
  rw[hfin]
  generalize (z12 z36 () l p c).2.1=s at hw ⊢
  generalize z0p p c=s0 at hw ⊢
  refine WL.seq (WL.sregC (RL.o (by simp;rfl) (RL.callK false [(800,[])] hw (by simp) (by simp) (by simp[z35]) (by simp) (by simp) (RL.o (by simp[z];rfl) (RL.nil ⟨_,by simp;rfl,?_⟩)))))
  refine WL.cond (t:=false) (by simp) (by simp) fun _=>WL.skip ?_
  refine WL.sreg (by simp;rfl) (by simp;rfl) (WL.ret ⟨.inr rfl,?_⟩)
  simp[yrb]
 ·have z:(z5m l p c != 0)=true:=by simp[h0]
  have hfin:z50 l p c=(⟨[],[],[]⟩,false):=by unfold z50;rw[if_neg h0]
  rw[hfin]
  generalize (z12 z36 () l p c).2.1=s at hw ⊢
  generalize z0p p c=s0 at hw ⊢
  refine WL.seq (WL.sregC (RL.o (by simp;rfl) (RL.callK false [(800,[])] hw (by simp) (by simp) (by simp[z35]) (by simp) (by simp) (RL.o (by simp[z];rfl) (RL.nil ⟨_,by simp;rfl,?_⟩)))))
  refine WL.cond (t:=true) (by simp) (fun _=>?_) (by simp)
  refine WL.sreg (by simp;rfl) (by simp;rfl) (WL.nil1 601 false 1 (by simp) (WL.nil1 602 false 1 (by simp) (WL.nil1 603 false 1 (by simp) (WL.ret ⟨.inr rfl,?_⟩))))
  simp[yrb]
end Go.OT
namespace Go.OT
open Go.Proofs
def flQ (e:Ev)(p:Int):Bool:=decide (e.op.Kind=7) || (decide (e.op.Kind=6) && decide (e.op.Page=p))
def thQ (t:St)(p:Int):Bool:=decide (0≤p) && t.There.getD p.toNat false
def zep (l:List Ev)(p:Int)(a:Int)(x:Int)(t:St):Int :=
 if (flQ (atE l x) p && (decide (0 < (atE l x).End) && (decide ((atE l x).res.Code=0) && thQ t p)))=true then max a (atE l x).Stamp else a
abbrev f1S (l:List Ev)(p a:Int)(t:St)(e:Ev)(r:SL):SL:=[(300,0,.vptr () [i64 p]),(400,0,.ptr 1000000 0 [] 0)] ++ (rcF 6 t ++ (bxE 7 e ++ (r ++ [(1000000,0,.bx true () [i64 a])])))
abbrev f1Q (v:Int):Ex→SL→Prop:=fun e L=>(e=Ex.nrm∨e=Ex.ret)∧RetOk zib.rs [.nod (.bx true () [i64 v])] (.tuple []) L
set_option maxHeartbeats 16000000 in
theorem zls (l:List Ev)(p a:Int)(t:St)(e:Ev)(fl:Bool)(v:Int)
  (hv:v=if (fl && (decide (0 < e.End) && (decide (e.res.Code=0) && thQ t p)))=true then max a e.Stamp else a) :
  WL Try.prog zib.nt zpn (f1S l p a t e [(800,0,bl fl)]) (f1Q v):=by
 have stop:∀ L,L=[(400,0,.ptr 1000000 0 [] 0)] ++ (bxE 7 e ++ [(5900,0,bl false),(1000000,0,.bx true () [i64 a])])→v=a→WL Try.prog zib.nt zuz L (f1Q v):=by
  rintro L rfl rfl
  refine WL.cond (t:=false) (by simp) (by simp) fun _=>WL.skip ⟨.inl rfl,?_⟩
  simp[zib]
 cases fl with
 | false =>
  refine WL.sreg (by simp;rfl) (by simp;rfl) (stop _ (by simp) (by rw[hv];simp))
 | true =>
 by_cases k1:0 < e.End
 ·by_cases k2:e.res.Code=0
  ·have k2':(e.res.Code == 0)=true:=by simp[k2]
   by_cases k3:0≤p
   ·obtain⟨n,rfl⟩:=Int.eq_ofNat_of_zero_le k3
    by_cases k4:n < t.There.length
    ·cases k5:t.There[n] with
     | true =>
      have ht:thQ t (n:Int)=true:=by simp[thQ,k4,k5]
      have hv':v=max a e.Stamp:=by rw[hv];simp[k1,k2,ht]
      refine WL.sreg (by simp[k1,k2',k4,k5];rfl) (by simp;rfl) ?_
      refine WL.cond (t:=true) (by simp) (fun _=>?_) (by simp)
      refine WL.reg (RL.run (by simp;rfl) ⟨_,by simp;rfl,.inl rfl,?_⟩)
      simp[zib,hv']
      split<;>omega
     | false =>
      have ht:thQ t (n:Int)=false:=by simp[thQ,k4,k5]
      refine WL.sreg (by simp[k1,k2',k4,k5];rfl) (by simp;rfl) (stop _ (by simp) (by rw[hv];simp[ht]))
    ·have ht:thQ t (n:Int)=false:=by simp[thQ,k4]
     refine WL.sreg (by simp[k1,k2',k4];rfl) (by simp;rfl) (stop _ (by simp) (by rw[hv];simp[ht]))
   ·have ht:thQ t p=false:=by simp[thQ,k3]
    refine WL.sreg (by simp[k1,k2',k3];rfl) (by simp;rfl) (stop _ (by simp) (by rw[hv];simp[ht]))
  ·have k2':(e.res.Code == 0)=false:=beq_false_of_ne k2
   refine WL.sreg (by simp[k1,k2'];rfl) (by simp;rfl) (stop _ (by simp) (by rw[hv];simp[k2]))
 ·refine WL.sreg (by simp[k1];rfl) (by simp;rfl) (stop _ (by simp) (by rw[hv];simp[k1]))
set_option maxHeartbeats 16000000 in
theorem zq5 (l:List Ev)(p a:Int)(t:St)(u:Nat)(hu:u < l.length) :
  FnC Try.prog 114 [.nod (.bx true () [i64 a])] [i64 u,z6m false t,.vptr () [sEv l],.vptr () [i64 p],.ptr 1000000 0 [] 0] [.nod (.bx true () [i64 (zep l p a u t)])] (.tuple []):=by
 have f1:=z1d (o:=false) (r:=false) hu
 have g1:14≤l.length * 14 - u * 14:=by omega
 have hat:atE l (u:Int)=l[u]:=z56 hu
 refine FnC.go ywa rfl ?_
 refine WL.sreg (by simp;rfl) (by simp;rfl) ?_
 refine WL.sreg (by simp[hu,f1,g1];rfl) (by simp;rfl) ?_
 have hsee:∀ fl,flQ l[u] p=fl→zep l p a u t=if (fl && (decide (0 < l[u].End) && (decide (l[u].res.Code=0) && thQ t p)))=true then max a l[u].Stamp else a:=fun fl hf=>by
  unfold zep;rw[hat,hf]
 generalize zep l p a u t=v at hsee ⊢
 clear f1 g1 hat
 generalize l[u]=e at hsee ⊢
 have fin:∀ fl,flQ e p=fl→∀ L,L=f1S l p a t e [(800,0,bl fl)]→WL Try.prog zib.nt zpn L (f1Q v):=fun fl hf L hL=>by
  rw[hL];exact zls l p a t e fl v (hsee fl hf)
 by_cases k7:e.op.Kind=7
 ·have k7':(e.op.Kind == 7)=true:=by simp[k7]
  refine WL.sreg (by simp[k7'];rfl) (by simp;rfl) (fin true (by simp[flQ,k7]) _ (by simp))
 ·have k7':(e.op.Kind == 7)=false:=beq_false_of_ne k7
  by_cases k6:e.op.Kind=6
  ·have k6':(e.op.Kind == 6)=true:=by simp[k6]
   by_cases kp:e.op.Page=p
   ·have kp':(e.op.Page == p)=true:=by simp[kp]
    refine WL.sreg (by simp[k7',k6',kp'];rfl) (by simp;rfl) (fin true (by simp[flQ,k6,kp]) _ (by simp))
   ·have kp':(e.op.Page == p)=false:=beq_false_of_ne kp
    refine WL.sreg (by simp[k7',k6',kp'];rfl) (by simp;rfl) (fin false (by simp[flQ,k6,kp]) _ (by simp))
  ·have k6':(e.op.Kind == 6)=false:=beq_false_of_ne k6
   refine WL.sreg (by simp[k7',k6'];rfl) (by simp;rfl) (fin false (by simp[flQ,k6,k7]) _ (by simp))
end Go.OT
namespace Go.OT
open Go.Proofs
def z13 (l:List Ev)(p c q:Int):Int:=if z5m l p c ≠ 0 then -1 else (z12 (zep l q) 0 l p c).2.2
theorem zik (l:List Ev)(q:Int):SeeOk l .one 114 [.vptr () [sEv l],.vptr () [i64 q],.ptr 1000000 0 [] 0] (fun a:Int=>[i64 a]) (fun _=>[]) (zep l q) (fun _ _=>True) :=
 ⟨rfl,rfl,rfl,by simp,fun X k h=>by
  obtain⟨h1,b,h2⟩:=h (1000000,[]) (by simp)
  simp at h1 h2
  simp[h1,h2,z35],fun _ _ _ _ _ _ _=>trivial,fun _ a s u hu _ _ _=>zq5 l q a (z0u s l[u]).2 u hu⟩
set_option maxHeartbeats 16000000 in
theorem zaa (l:List Ev)(hE:EvOk l)(p c q:Int):FnC Try.prog 67 [] [sEv l,i64 p,i64 c,i64 q] [] (i64 (z13 l p c q)):=by
 have hw:=zk7 hE (zik l q) p c 0 (fun _=>trivial)
 rw[z57] at hw
 simp only[Sh.gs,Sh.fv] at hw
 refine FnC.go yzf rfl ?_
 refine WL.sreg (by simp;rfl) (by simp;rfl) ?_
 refine WL.sreg (by simp;rfl) (by simp;rfl) ?_
 refine WL.raise 9 1 (by simp) (by simp;rfl) (by simp) ?_
 have eF:z13 l p c q=if z5m l p c ≠ 0 then -1 else (z12 (zep l q) 0 l p c).2.2:=rfl
 generalize (z12 (zep l q) 0 l p c).2.2=v at hw eF
 generalize z13 l p c q=r at eF ⊢
 refine WL.sregC (RL.o (by simp;rfl) (RL.callK true [(900,[])] hw (by simp) (by simp) (by simp[z35,y1a]) (by simp) (by simp) (RL.o (by simp;rfl) (RL.nil ⟨_,by simp;rfl,?_⟩))))
 by_cases h0:z5m l p c=0
 ·have z:(z5m l p c != 0)=false:=by simp[h0]
  have er:r=v:=by rw[eF,if_neg (by simpa using h0)]
  refine WL.seq (WL.sreg (by simp[z];rfl) (by simp;rfl) ?_)
  refine WL.cond (t:=false) (by simp) (by simp) fun _=>WL.skip ?_
  refine WL.sreg (by simp;rfl) (by simp;rfl) (WL.ret ⟨.inr rfl,?_⟩)
  simp[yvu,er]
 ·have z:(z5m l p c != 0)=true:=by simp[h0]
  have er:r=-1:=by rw[eF,if_pos h0]
  refine WL.seq (WL.sreg (by simp[z];rfl) (by simp;rfl) ?_)
  refine WL.cond (t:=true) (by simp) (fun _=>?_) (by simp)
  refine WL.sreg (by simp;rfl) (by simp;rfl) (WL.ret ⟨.inr rfl,?_⟩)
  simp[yvu,er]
end Go.OT
namespace Go.OT
open Go.Proofs
theorem zta (s:St)(c:Nat)(q:Op):(z4j s c q).1.There.length=s.There.length:=by
 simp only[z4j]
 repeat' split
 all_goals simp
theorem ztb (s:St)(cl:Int)(q:Op):(DoB s cl q).2.1.There.length=s.There.length:=by
 unfold DoB
 repeat' split
 all_goals first | rfl | exact zta _ _ _
theorem z6j (s:St)(e:Ev):(z0u s e).2.There.length=s.There.length:=by
 unfold z0u
 split
 ·rfl
 ·exact ztb _ _ _
end Go.OT
namespace Go.OT
open Go.Proofs
theorem RL.cut {P:Program}{nt:Nat}{L:SL}{K:SL→Prop}{segs segs':List Sg}(e:z23 segs=z23 segs')(h:RL P nt segs' L K):RL P nt segs L K:=by
 intro C ops idx hP hn hc
 rw[e] at hc
 exact h C ops idx hP hn hc
@[simp] theorem yzl:List.range 14=[0,1,2,3,4,5,6,7,8,9,10,11,12,13]:=rfl
theorem zil {l:List Ev}(hn:l.length≤1000)(hd:∀ e ∈ l,e.op.Data=[]):EvOk l:=⟨hn,fun e he=>by rw[hd e he];simp⟩
end Go.OT
namespace Go.OT
open Go.Proofs
theorem z4v {σ:Type}(see:σ→Int→St→σ)(a:σ){l:List Ev}{p c:Int}(h0:z5m l p c=0):z0q p c=false∧z12 see a l p c=goW l see (z0p p c) a (z0r l)∧(goW l see (z0p p c) a (z0r l)).1=0∧∀ j,j < l.length→z1u l j c=true:=by
 have h1:=z57 see a l p c
 rw[h0] at h1
 cases hb:z0q p c with
 | true=>unfold z12 at h1;rw[hb] at h1;simp at h1
 | false =>
  unfold z12 at h1 ⊢
  rw[hb] at h1 ⊢
  simp only[Bool.false_eq_true,if_false] at h1 ⊢
  cases hf:z4t l c with
  | some i=>rw [hf] at h1;simp only at h1;omega
  | none=>rw [hf] at h1;exact⟨trivial,rfl,h1,zgq hf⟩
end Go.OT
namespace Go.OT
open Go.Proofs
def wrF (e:Ev)(s:St)(p:Int):Bool:=decide (e.op.Kind=4) && (decide (0≤e.op.Handle) && (decide (e.op.Handle < 6) && decide ((s.Handles.getD e.Client.toNat []).getD e.op.Handle.toNat 0=p)))
set_option maxHeartbeats 16000000 in
theorem zk8 (e:Ev)(s:St)(h:OkSt s)(hc0:0≤e.Client)(hc1:e.Client < s.Handles.length)(p:Int):FnC Try.prog 155 [] [.agg (z02 false false e),z6m false s,i64 p] [] (bl (wrF e s p)):=by
 obtain⟨c,hc⟩:=Int.eq_ofNat_of_zero_le hc0
 have hcl:c < s.Handles.length:=by omega
 have hcl':c+1≤s.Handles.length:=hcl
 have h6:s.Handles[c].length=6:=h.l6 _ (List.getElem_mem hcl)
 refine FnC.go ywj rfl ?_
 refine WL.sreg (by simp;rfl) (by simp;rfl) ?_
 refine WL.sreg (by simp;rfl) (by simp;rfl) ?_
 by_cases k4:e.op.Kind=4
 ·have k4':(e.op.Kind == 4)=true:=by simp[k4]
  by_cases k1:0≤e.op.Handle
  ·obtain⟨n,hn⟩:=Int.eq_ofNat_of_zero_le k1
   by_cases k2:n < 6
   ·have k2':(n:Int) < 6:=by omega
    have k2s:n+1≤6:=k2
    refine WL.sreg (by simp[k4',hn,k2,k2',k2s,hc,hcl,hcl',h6];rfl) (by simp;rfl) (WL.ret ⟨.inr rfl,?_⟩)
    simp[zpp,wrF,k4,hn,k2',hc,hcl,k2,h6]
    rfl
   ·have k2':¬ (n:Int) < 6:=by omega
    refine WL.sreg (by simp[k4',hn,k2,k2'];rfl) (by simp;rfl) (WL.ret ⟨.inr rfl,?_⟩)
    simp[zpp,wrF,k4,hn,k2']
  ·refine WL.sreg (by simp[k4',k1];rfl) (by simp;rfl) (WL.ret ⟨.inr rfl,?_⟩)
   simp[zpp,wrF,k1]
 ·have k4':(e.op.Kind == 4)=false:=beq_false_of_ne k4
  refine WL.sreg (by simp[k4'];rfl) (by simp;rfl) (WL.ret ⟨.inr rfl,?_⟩)
  simp[zpp,wrF,k4]
end Go.OT
namespace Go.OT
open Go.Proofs
def zq6 (bs:List (List UInt8))(b:List UInt8):Bool:=bs.any (· == b) || (bs.any (fun x=>x.take 4 == b.take 4) && bs.any (fun x=>x.drop 4 == b.drop 4))
abbrev myS (bs:List (List UInt8))(b:List UInt8)(f r:Bool)(i:Nat):SL:=[(100,0,sU false b),(500,0,bl f),(600,0,bl r),(1000,0,sUU false bs),(1100,0,i64 bs.length),(1200,0,i64 i)]
abbrev myQ (v:Bool):Ex→SL→Prop:=fun e L=>e=Ex.ret∧RetOk zle.rs [] (bl v) L
set_option maxHeartbeats 16000000 in
theorem y1b (bs:List (List UInt8))(hn:bs.length≤100000)(h16:∀ x ∈ bs,x.length=16)(tn:Bool)(b:List UInt8)(hb:b.length=16):FnC Try.prog 118 [] [.agg [sUU false bs,bl tn],sU false b] [] (bl (zq6 bs b)):=by
 refine FnC.go ywd rfl ?_
 refine WL.mono (Q':=myQ (zq6 bs b)) ?_ fun e L h=>⟨.inr h.1,h.2⟩
 refine WL.sreg (by simp;rfl) (by simp;rfl) ?_
 refine WL.scope (WL.sreg (by simp;rfl) (by simp;rfl) ?_)
 refine WL.seq (WL.label ?_)
 refine WL.seq (WL.sreg (by simp;rfl) (by simp;rfl) ?_)
 refine WL.block (WL.count bs.length (fun i=>myS bs b ((bs.take i).any (fun x=>x.take 4 == b.take 4)) ((bs.take i).any (fun x=>x.drop 4 == b.drop 4)) i) (fun i=>(bs.take i).any (· == b)=false) (by simp) (by simp) fun i hi hno=>?_)
 by_cases h:i < bs.length
 ·have w:IntKind.wrap .i64 ((i:Int)+1)=((i+1:Nat):Int):=by rw[z01 (by omega) (by omega)];omega
  have hx:=h16 _ (List.getElem_mem h)
  have e1:∀ p:List UInt8→Bool,(bs.take (i+1)).any p=((bs.take i).any p || p bs[i]):=fun p=>by
   rw[List.take_succ_eq_append_getElem h,List.any_append];simp
  have heq:=z3h bs[i] b
  have ha:=z3h (bs[i].take 4) (b.take 4)
  have hz:=z3h (bs[i].drop 4) (b.drop 4)
  rw[e1,e1,e1]
  have hany:bs.any (· == b)=true∨(bs[i] == b)=false:=by
   cases hq:(bs[i] == b) with
   | false=>exact .inr rfl
   | true=>exact .inl (List.any_eq_true.2 ⟨_,List.getElem_mem h,hq⟩)
  generalize (bs.take i).any (fun x=>x.take 4 == b.take 4)=f
  generalize (bs.take i).any (fun x=>x.drop 4 == b.drop 4)=r
  clear e1
  generalize hbx:bs[i]=x at hx hany heq ha hz ⊢
  have t1:List.take 4 (List.map (fun b=>u8 (b.toNat:Int)) x)=bm (x.take 4):=by rw[bm,List.map_take]
  have t2:List.take 4 (List.map (fun b=>u8 (b.toNat:Int)) b)=bm (b.take 4):=by rw[bm,List.map_take]
  have t3:List.take 12 (List.drop 4 (List.map (fun b=>u8 (b.toNat:Int)) x))=bm (x.drop 4):=by rw[bm,List.map_drop,List.take_of_length_le (by simp[hx])]
  have t4:List.take 12 (List.drop 4 (List.map (fun b=>u8 (b.toNat:Int)) b))=bm (b.drop 4):=by rw[bm,List.map_drop,List.take_of_length_le (by simp[hb])]
  have l1:(x.take 4).length=4:=by simp[hx]
  have l2:(b.take 4).length=4:=by simp[hb]
  have l3:(x.drop 4).length=12:=by simp[hx]
  have l4:(b.drop 4).length=12:=by simp[hb]
  refine WL.sreg (by simp[h];rfl) (by simp;rfl) ?_
  refine WL.seq (WL.cond (t:=true) (by simp[h]) (fun _=>WL.skip ?_) (by simp))
  refine WL.seq (WL.block (WL.sreg (by simp[h,hbx];rfl) (by simp;rfl) ?_))
  refine WL.seq (WL.sregC (RL.o (by simp;rfl) (RL.call0 false heq (by simp) (by simp) (RL.nil ⟨_,by simp;rfl,?_⟩))))
  cases q0:(x == b) with
  | true =>
   refine WL.cond (t:=true) (by simp[q0]) (fun _=>?_) (by simp)
   refine WL.sreg (by simp;rfl) (by simp;rfl) (WL.ret ⟨rfl,?_⟩)
   have:zq6 bs b=true:=by
    rcases hany with hany | hany
    ·simp[zq6,hany]
    ·rw[q0] at hany;cases hany
   simp[zle,this]
  | false =>
   refine WL.cond (t:=false) (by simp[q0]) (by simp) fun _=>WL.skip ?_
   refine WL.seq (WL.seq ?_)
   generalize x.take 4=xa at *
   generalize b.take 4=ba at *
   generalize x.drop 4=xd at *
   generalize b.drop 4=bd at *
   have hno':(((bs.take i).any fun x=>x == b) || false)=false:=by rw[hno];rfl
   have last:∀ f',f'=(f || xa == ba)→∀ L,L=[(100,0,sU false b),(500,0,bl f'),(600,0,bl r),(800,0,sU false x),(1000,0,sUU false bs),(1100,0,i64 bs.length),(1200,0,i64 i)]→∀ Q,(∀ L',L'=myS bs b (f || xa == ba) (r || xd == bd) (i+1)→Q Ex.nrm L') →
     WL Try.prog zle.nt zv2 L (Ex.blkL 1 (Ex.thenL (fun L'=>WL Try.prog zle.nt zv3 L' Q) Q)):=fun f' hf L hL Q hQ=>by
    subst hL hf
    refine WL.seq (WL.seq (WL.draw z0t (by simp[z09,noH]) (DL.o (by simp[hx,hb,t3,t4];exact⟨rfl,rfl⟩) (DL.call0 false hz (by simp[l3,l4]) (by simp) (DL.o (by simp;exact⟨rfl,rfl⟩) (DL.nil ⟨by kernel_rfl,_,by simp;rfl,?_⟩))))))
    cases q2:(xd == bd) with
    | true =>
     refine WL.cond (t:=false) (by simp) (by simp) fun _=>WL.skip ?_
     refine WL.reg (RL.run (by simp;rfl) ⟨_,by simp;rfl,?_⟩)
     refine WL.reg (RL.run (by simp[w];rfl) ⟨_,by simp;rfl,hQ _ (by simp[q2])⟩)
    | false =>
     refine WL.cond (t:=true) (by simp) (fun _=>WL.fin [29] (by simp;rfl) (WL.exit ?_)) (by simp)
     refine WL.reg (RL.run (by simp[w];rfl) ⟨_,by simp;rfl,hQ _ (by simp[q2])⟩)
   refine WL.draw z0t (by simp[z09,noH]) (DL.o (by simp[hx,hb,t1,t2];exact⟨rfl,rfl⟩) (DL.call0 false ha (by simp[l1,l2]) (by simp) (DL.nil ⟨by kernel_rfl,_,by simp;rfl,?_⟩)))
   cases q1:(xa == ba) with
   | true =>
    refine WL.cond (t:=true) (by simp[q1]) (fun _=>?_) (by simp)
    refine WL.reg (RL.run (by simp;rfl) ⟨_,by simp;rfl,?_⟩)
    refine last true (by simp[q1]) _ (by simp[hx]) _ fun L' hL'=>⟨h,?_,hno'⟩
    rw[hL',q1]
   | false =>
    refine WL.cond (t:=false) (by simp[q1]) (by simp) fun _=>WL.skip ?_
    refine WL.fin [23] (by simp;rfl) (last f (by simp[q1]) _ (by simp[hx]) _ fun L' hL'=>⟨h,?_,hno'⟩)
    rw[hL',q1]
 ·obtain rfl:i=bs.length:=by omega
  rw[List.take_length] at hno ⊢
  refine WL.sreg (by simp;rfl) (by simp;rfl) ?_
  refine WL.seq (WL.cond (t:=false) (by simp) (by simp) fun _=>WL.exit ?_)
  have hv:zq6 bs b=(bs.any (fun x=>x.take 4 == b.take 4) && bs.any (fun x=>x.drop 4 == b.drop 4)):=by unfold zq6;rw[hno];rfl
  rw[hv]
  generalize bs.any (fun x=>x.take 4 == b.take 4)=f
  generalize bs.any (fun x=>x.drop 4 == b.drop 4)=r
  cases f<;>refine WL.sreg (by simp;rfl) (by simp;rfl) (WL.ret ⟨rfl,?_⟩)<;>simp [zle]
end Go.OT
namespace Go.OT
open Go.Proofs
structure SeeN {σ:Type} (l:List Ev) (c:Int) (f:Nat) (cps:List AU) (B D:σ→List AU) (see:σ→Int→St→σ) (Inv:Nat→σ→St→Prop):Prop where
 no:z0l cps=true
 root:z5n (Sh.two.ks.map (·.1)) cps=true
 roots:z1g cps=Sh.two.ks.map (·.1)
 len:cps.length≤1000
 tr:∀ (X:XF Unit) (k:Nat),(∀ e ∈ Sh.two.ks,(X e.1).1=0∧∃ b,(X e.1).2=.bx true () b)→trL X Sh.two.ks false k cps=some cps
 inv:∀ j a s (u:Nat) (hu:u < l.length),z1u l u c=true→OkSt s→Inv j a s→(z0u s l[u]).1=true→Inv (j+1) (see a u (z0u s l[u]).2) (z0u s l[u]).2
 fn:∀ j a s (u:Nat) (hu:u < l.length),j < l.length→z1u l u c=true→OkSt s→Inv j a s→(z0u s l[u]).1=true →
  FnC Try.prog f (Sh.two.gs (B a) (D a)) ([i64 u,z6m false (z0u s l[u]).2] ++ cps) (Sh.two.gs (B (see a u (z0u s l[u]).2)) (D (see a u (z0u s l[u]).2))) (.tuple [])
section
variable {σ:Type} {l:List Ev} {c:Int} {f:Nat} {cps:List AU} {B D:σ→List AU} {see:σ→Int→St→σ} {Inv:Nat→σ→St→Prop}
theorem zq7 (hS:SeeN l c f cps B D see Inv)(s:St)(h:OkSt s)(a:σ)(j0:Nat)(hj0:j0 < l.length)(hi:Inv j0 a s)(u:Nat)(hu:u < l.length)(ht:z1u l u c=true)(hr:(z0u s l[u]).1=true)(j:Nat)(K:SL→Prop)
  (hK:K (wkT l (Sh.two.fv f cps) (z0u s l[u]).2 j (Sh.two.gh (B (see a u (z0u s l[u]).2)) (D (see a u (z0u s l[u]).2))))) :
  WL Try.prog z8j.nt zd3 ([(0,0,sEv l),(300,0,Sh.two.fv f cps)] ++ (rcF 9 (z0u s l[u]).2 ++ ([(1200,0,i64 u),(3600,0,sI true (z0r l)),(3700,0,i64 (z0r l).length),(3800,0,i64 j)] ++ Sh.two.gh (B a) (D a)))) (fun e L=>(e=.nrm∨e=.ext 3)∧K L):=by
 have e1:=hS.no
 have e2:=hS.root
 have e3:=hS.tr
 have e4:=hS.len
 have e5:=hS.roots
 have hf:=hS.fn j0 a s u hu hj0 ht h hi hr
 generalize (z0u s l[u]).2=t at *
 simp at e2 e3 e5 hf
 refine WL.seq (WL.sreg (by simp[e1];rfl) (by simp[e5];rfl) ?_)
 refine WL.cond (t:=false) (by simp) (by simp) fun _=>WL.skip ?_
 refine WL.reg (RL.o (by simp[e1];rfl) (RL.cloK (f:=f) (cps:=cps) false [(1000000,[]),(1000100,[])] (by simp) hf (by simp) (by simp) ?_ (by simp;omega) ?_ ?_ (RL.nil ⟨_,by simp[e5];rfl,?_⟩)))
 ·simp[e1]
  rw[e3 _ _ (by simp) _ (by simp;rfl) (by simp) _ (by simp;rfl)]
  simp
 ·simp
 ·simp[e2]
 ·simpa using hK
set_option maxHeartbeats 16000000 in
theorem zgt (hE:EvOk l)(hS:SeeN l c f cps B D see Inv)(s0:St)(h0:OkSt s0)(a0:σ)(i0:Inv 0 a0 s0)(hT:∀ j,j < l.length→z1u l j c=true)(n:Nat) :
  WL Try.prog z8j.nt zjt (wkS l c (Sh.two.fv f cps) s0 ([(2300,0,i64 n),(2400,0,i64 n),(2500,0,bl false)] ++ Sh.two.gh (B a0) (D a0))) (wkQ (Sh.two.gs (B (goW l see s0 a0 (z0r l)).2.2) (D (goW l see s0 a0 (z0r l)).2.2)) (goW l see s0 a0 (z0r l)).1):=by
 have hn:=hE.n
 have hOl:=z5k l
 have e1:=hS.no
 have e5:=hS.roots
 simp at e5
 have hsee:=fun s h a j0 hj0 hi u hu ht hr j=>zq7 hS s h a j0 hj0 hi u hu ht hr j
 have hI:=fun j a s u hu ht h hi hr=>hS.inv j a s u hu ht h hi hr
 refine WL.seq (WL.sregC (RL.o (by simp;rfl) (RL.call0 false (zee l hn) (by simp) (by simp) (RL.o (by simp;rfl) (RL.nil ⟨_,by simp[e5];rfl,?_⟩)))))
 refine WL.block (WL.loop (ι:={x:Nat × St × σ // x.1≤(z0r l).length∧OkSt x.2.1∧Inv x.1 x.2.2 x.2.1∧goW l see x.2.1 x.2.2 ((z0r l).drop x.1)=goW l see s0 a0 (z0r l)}) (fun x=>wkT l (Sh.two.fv f cps) x.1.2.1 x.1.1 (Sh.two.gh (B x.1.2.2) (D x.1.2.2))) (fun x=>(z0r l).length - x.1.1) ⟨(0,s0,a0),Nat.zero_le _,h0,i0,rfl⟩ (by simp) fun x=>?_)
 obtain⟨⟨j,s,a⟩,hj,hs,hia,hg⟩:=x
 simp only at hj hs hg hia ⊢
 by_cases hlt:j < (z0r l).length
 ·obtain⟨u,hu,eu⟩:=z94 hlt
  have f1:=z1d (o:=false) (r:=false) hu
  have g1:14≤l.length * 14 - u * 14:=by omega
  have hlt':j+1≤(z0r l).length:=hlt
  have w:IntKind.wrap .i64 ((j:Int)+1)=((j+1:Nat):Int):=by rw[z01 (by omega) (by omega)];omega
  have w2:IntKind.wrap .i64 ((u:Int)+1)=(u:Int)+1:=by rw[z01 (by omega) (by omega)]
  have hE0:=zbs hu (hT u hu)
  have hse:=hsee s hs a j (by omega) hia u hu (hT u hu)
  have hI':=hI j a s u hu (hT u hu) hs hia
  rw[List.drop_eq_getElem_cons hlt] at hg
  simp only[goW,eu,z56 hu] at hg
  have hok:=z4u hs l[u]
  have tail:∀ t,z1x s l[u]=some t→∀ Q,(∀ e,(e=.nrm∨e=.ext 3)→Q e (wkT l (Sh.two.fv f cps) t j (Sh.two.gh (B (see a u t)) (D (see a u t)))))→WL Try.prog z8j.nt zd3 ([(0,0,sEv l),(300,0,Sh.two.fv f cps)] ++ (rcF 9 t ++ ([(1200,0,i64 u),(3600,0,sI true (z0r l)),(3700,0,i64 (z0r l).length),(3800,0,i64 j)] ++ Sh.two.gh (B a) (D a)))) Q:=by
   intro t ht Q hQ
   obtain⟨q1,q2⟩:=z42 hE0 ht
   have:=hse q1 j (fun L=>L=wkT l (Sh.two.fv f cps) t j (Sh.two.gh (B (see a u t)) (D (see a u t)))) (by rw[q2])
   rw[q2] at this
   refine WL.mono this ?_
   rintro e L ⟨he,rfl⟩
   exact hQ e he
  refine WL.sreg (by simp[hlt];rfl) (by simp[e5];rfl) ?_
  refine WL.seq (WL.cond (t:=true) (by simp[hlt]) (fun _=>WL.skip ?_) (by simp))
  refine WL.seq (WL.block (WL.sreg (by simp[hlt,hlt',eu];rfl) (by simp[e5];rfl) ?_))
  refine WL.sreg (by simp[hlt,hlt',eu,hu,f1,g1];rfl) (by simp[e5];rfl) ?_
  refine WL.sregC (RL.o (by simp;rfl) (RL.doC s hs.sized l[u].Client l[u].op (by simp) (RL.o (by simp;rfl) (RL.nil ⟨_,by simp[e5];rfl,?_⟩))))
  have adv:∀ t,z1x s l[u]=some t→∀ Q,(∀ L,(∃ y:{x:Nat × St × σ // x.1≤(z0r l).length∧OkSt x.2.1∧Inv x.1 x.2.2 x.2.1∧goW l see x.2.1 x.2.2 ((z0r l).drop x.1)=goW l see s0 a0 (z0r l)},L=wkT l (Sh.two.fv f cps) y.1.2.1 y.1.1 (Sh.two.gh (B y.1.2.2) (D y.1.2.2))∧(z0r l).length - y.1.1 < (z0r l).length - j)→Q Ex.nrm L)→WL Try.prog z8j.nt zjs (wkT l (Sh.two.fv f cps) t j (Sh.two.gh (B (see a u t)) (D (see a u t)))) Q:=by
   intro t ht Q hQ
   obtain⟨q1,q2⟩:=z42 hE0 ht
   have hI2:=hI' q1
   rw[q1] at hg
   simp only[if_true] at hg
   rw[q2] at hg hI2 hok
   refine WL.reg (RL.run (by simp[w];rfl) ⟨_,by simp[e5];rfl,hQ _ ?_⟩)
   exact⟨⟨(j+1,t,see a u t),hlt,hok,hI2,hg⟩,by simp,by simp only;omega⟩
  refine WL.seq ?_
  by_cases p:l[u].End=0
  ·have z:(l[u].End == 0)=true:=by simp[p]
   have ht:z1x s l[u]=some (DoB s l[u].Client l[u].op).2.1:=by simp[z1x,p]
   refine WL.block (WL.sregC (RL.o (by simp[z];rfl) (RL.g (by simp;rfl) (RL.callN (by simp) (RL.o (by simp;rfl) (RL.nil ⟨_,by simp[e5];rfl,?_⟩))))))
   refine WL.cond (t:=true) (by simp) (fun _=>?_) (by simp)
   refine WL.reg (RL.run (by simp;rfl) ⟨_,by simp[e5];rfl,?_⟩)
   refine tail _ ht _ ?_
   intro e he
   rcases he with rfl | rfl
   ·exact adv _ ht _ fun L h=>h
   ·exact adv _ ht _ fun L h=>h
  ·have z:(l[u].End == 0)=false:=beq_false_of_ne p
   have hsr:=z41 (DoB s l[u].Client l[u].op).2.2 l[u].res
   cases hv:z1b (DoB s l[u].Client l[u].op).2.2 l[u].res with
   | true =>
    rw[hv] at hsr
    have ht:z1x s l[u]=some (DoB s l[u].Client l[u].op).2.1:=by simp[z1x,hv]
    refine WL.block (WL.sregC (RL.o (by simp[z];rfl) (RL.g (by simp;rfl) (RL.callY0 false (by simp) hsr (by simp) (by simp) (RL.o (by simp;rfl) (RL.nil ⟨_,by simp[e5];rfl,?_⟩))))))
    refine WL.cond (t:=true) (by simp) (fun _=>?_) (by simp)
    refine WL.reg (RL.run (by simp;rfl) ⟨_,by simp[e5];rfl,?_⟩)
    refine tail _ ht _ ?_
    intro e he
    rcases he with rfl | rfl
    ·exact adv _ ht _ fun L h=>h
    ·exact adv _ ht _ fun L h=>h
   | false =>
    rw[hv] at hsr
    refine WL.block (WL.sregC (RL.o (by simp[z];rfl) (RL.g (by simp;rfl) (RL.callY0 false (by simp) hsr (by simp) (by simp) (RL.o (by simp;rfl) (RL.nil ⟨_,by simp[e5];rfl,?_⟩))))))
    refine WL.cond (t:=false) (by simp) (by simp) fun _=>?_
    have hb:=zpx l[u].op l[u].res.Code
    have hp:=z41 l[u].res (rsE l[u].res.Code)
    cases hbad:z8c l[u].op.Kind l[u].res.Code with
    | false =>
     rw[hbad] at hb
     have ht:z1x s l[u]=none:=by simp[z1x,p,hv,hbad]
     have hr:=z43 hE0 ht
     rw[hr] at hg
     simp only[Bool.false_eq_true,if_false] at hg
     refine WL.sregC (RL.o (by simp;rfl) (RL.call0 false hb (by simp) (by simp) (RL.o (by simp;rfl) (RL.g (by simp;rfl) (RL.callN (by simp) (RL.g (by simp;rfl) (RL.o (by simp;rfl) (RL.nil ⟨_,by simp[e5];rfl,?_⟩))))))))
     refine WL.cond (t:=true) (by simp) (fun _=>?_) (by simp)
     refine WL.sreg (by simp[w2];rfl) (by simp[e5];rfl) (WL.ret ⟨rfl,?_⟩)
     simp[z8j,← hg]
    | true =>
     rw[hbad] at hb
     cases hpl:z1b l[u].res (rsE l[u].res.Code) with
     | false =>
      rw[hpl] at hp
      have ht:z1x s l[u]=none:=by simp[z1x,p,hv,hbad,hpl]
      have hr:=z43 hE0 ht
      rw[hr] at hg
      simp only[Bool.false_eq_true,if_false] at hg
      refine WL.sregC (RL.o (by simp;rfl) (RL.call0 false hb (by simp) (by simp) (RL.o (by simp;rfl) (RL.g (by simp;rfl) (RL.nilA 80 3 1 (by simp;rfl) rfl rfl (RL.callY0 false (by simp) hp (by simp[rsE]) (by simp) (RL.g (by simp;rfl) (RL.o (by simp;rfl) (RL.nil ⟨_,by simp[e5];rfl,?_⟩)))))))))
      refine WL.cond (t:=true) (by simp) (fun _=>?_) (by simp)
      refine WL.sreg (by simp[w2];rfl) (by simp[e5];rfl) (WL.ret ⟨rfl,?_⟩)
      simp[z8j,← hg]
     | true =>
      rw[hpl] at hp
      have ht:z1x s l[u]=some s:=by simp[z1x,p,hv,hbad,hpl]
      refine WL.sregC (RL.o (by simp;rfl) (RL.call0 false hb (by simp) (by simp) (RL.o (by simp;rfl) (RL.g (by simp;rfl) (RL.nilA 80 3 1 (by simp;rfl) rfl rfl (RL.callY0 false (by simp) hp (by simp[rsE]) (by simp) (RL.g (by simp;rfl) (RL.o (by simp;rfl) (RL.nil ⟨_,by simp[e5];rfl,?_⟩)))))))))
      refine WL.cond (t:=false) (by simp) (by simp) fun _=>WL.skip ?_
      refine WL.fin [66] (by simp[e5]) (tail _ ht _ ?_)
      intro e he
      rcases he with rfl | rfl
      ·exact adv _ ht _ fun L h=>h
      ·exact adv _ ht _ fun L h=>h
 ·obtain rfl:j=(z0r l).length:=by omega
  rw[List.drop_length] at hg
  simp only[goW] at hg
  refine WL.sreg (by simp;rfl) (by simp[e5];rfl) ?_
  refine WL.seq (WL.cond (t:=false) (by simp) (by simp) fun _=>WL.exit ?_)
  refine WL.sreg (by simp;rfl) (by simp[e5];rfl) (WL.ret ⟨rfl,?_⟩)
  simp[z8j,← hg]
set_option maxHeartbeats 16000000 in
theorem zq8 (hE:EvOk l)(hS:SeeN l c f cps B D see Inv)(p:Int)(a:σ)(hI:z0q p c=false→Inv 0 a (z0p p c)) :
  FnC Try.prog 88 (Sh.two.gs (B a) (D a)) [sEv l,i64 p,i64 c,Sh.two.fv f cps] (Sh.two.gs (B (z12 see a l p c).2.2) (D (z12 see a l p c).2.2)) (i64 (z12 see a l p c).1):=by
 have hn:=hE.n
 have e5:=hS.roots
 simp at e5
 have hms:=zcy (z0p p c) (z78 p c)
 rw[zih] at hms
 refine FnC.go ytu rfl ?_
 refine WL.mono (Q':=wkQ (Sh.two.gs (B (z12 see a l p c).2.2) (D (z12 see a l p c).2.2)) (z12 see a l p c).1) ?_ fun x L h=>⟨.inr h.1,h.2⟩
 refine WL.sreg (by simp;rfl) (by simp[e5];rfl) ?_
 refine WL.scope ?_
 refine WL.sregC (RL.o (by simp;rfl) (RL.newC p c (by simp) (RL.o (by simp;rfl) (RL.nil ⟨_,by simp[e5];rfl,?_⟩))))
 cases hb:z0q p c with
 | true =>
  rw[hb] at hms
  refine WL.seq (WL.sregC (RL.o (by simp;rfl) (RL.call0 false hms (by simp) (by simp) (RL.o (by simp;rfl) (RL.nil ⟨_,by simp[e5];rfl,?_⟩)))))
  refine WL.cond (t:=true) (by simp) (fun _=>?_) (by simp)
  refine WL.sreg (by simp;rfl) (by simp[e5];rfl) (WL.ret ⟨rfl,?_⟩)
  simp[z8j,z12,hb]
 | false =>
  rw[hb] at hms
  have hok:=z2p hb
  have i0:=hI hb
  refine WL.seq (WL.sregC (RL.o (by simp;rfl) (RL.call0 false hms (by simp) (by simp) (RL.o (by simp;rfl) (RL.nil ⟨_,by simp[e5];rfl,?_⟩)))))
  refine WL.cond (t:=false) (by simp) (by simp) fun _=>WL.skip ?_
  refine WL.seq (WL.sreg (by simp;rfl) (by simp[e5];rfl) ?_)
  unfold z12
  rw[hb]
  simp only[Bool.false_eq_true,if_false]
  generalize z0p p c=s0 at hok i0 ⊢
  refine WL.block (WL.count l.length (fun i=>wkS l c (Sh.two.fv f cps) s0 ([(2300,0,i64 l.length),(2400,0,i64 i)] ++ Sh.two.gh (B a) (D a))) (fun i=>∀ j,j < i→z1u l j c=true) rfl (fun j h=>absurd h (Nat.not_lt_zero _)) fun i hi hp=>?_)
  by_cases hlt:i < l.length
  ·have w:IntKind.wrap .i64 ((i:Int)+1)=((i+1:Nat):Int):=by rw[z01 (by omega) (by omega)];omega
   have ha:=zef l hn i hlt c
   refine WL.sreg (by simp[hlt];rfl) (by simp[e5];rfl) ?_
   refine WL.seq (WL.cond (t:=true) (by simp[hlt]) (fun _=>WL.skip ?_) (by simp))
   refine WL.seq (WL.block (WL.sreg (by simp[hlt];rfl) (by simp[e5];rfl) ?_))
   cases ht:z1u l i c with
   | true =>
    rw[ht] at ha
    refine WL.sregC (RL.o (by simp;rfl) (RL.call0 false ha (by simp) (by simp) (RL.o (by simp;rfl) (RL.nil ⟨_,by simp[e5];rfl,?_⟩))))
    refine WL.cond (t:=false) (by simp) (by simp) fun _=>WL.skip ?_
    refine WL.reg (RL.run (by simp[w];rfl) ⟨_,by simp[e5];rfl,hlt,?_,fun j hj=>?_⟩)
    ·simp
    ·by_cases e:j=i
     ·subst e;exact ht
     ·exact hp j (by omega)
   | false =>
    rw[ht] at ha
    have hf:=z40 hlt hp ht
    refine WL.sregC (RL.o (by simp;rfl) (RL.call0 false ha (by simp) (by simp) (RL.o (by simp;rfl) (RL.nil ⟨_,by simp[e5];rfl,?_⟩))))
    refine WL.cond (t:=true) (by simp) (fun _=>?_) (by simp)
    refine WL.sreg (by simp[w];rfl) (by simp[e5];rfl) (WL.ret ⟨rfl,?_⟩)
    simp[z8j,hf]
  ·obtain rfl:i=l.length:=by omega
   have hf:=z33 hp
   rw[hf]
   refine WL.sreg (by simp;rfl) (by simp[e5];rfl) ?_
   refine WL.seq (WL.cond (t:=false) (by simp) (by simp) fun _=>WL.exit ?_)
   refine WL.seq (WL.label ?_)
   exact zgt hE hS s0 hok a i0 hp l.length
end
end Go.OT
namespace Go.OT
section
variable {C:Ctx} {X:XF LO} {β:Nat→Nat × Nat} {I:z19} {rg:Nat→Value} {w:World}
theorem RelL.down (R:RelL C X β I rg w)(r b:Nat)(hb:b < 10000)(l:Loc)(cs:List AL)(hX:(X (100 * r)).2=.bx true (some l) cs)(hp:(X (100 * b)).2=.ptr (100 * r) (X (100 * r)).1 [] 0)(hn:cs.length≤98) :
  RelL C (((X.box b cs).set (100 * r) (.bptr b ((X (100 * b+99)).1+1) 0)).set (100 * b) (.bptr b ((X (100 * b+99)).1+1) 0)) (fun j=>if j=b then (l.b,l.o) else β j) I rg w:=by
 have hk:=R.key (100 * r)
 have hm:=hk.mem
 have hs:=hk.sep
 have hr:=R.reg r
 have hrb:=R.reg b
 rw[hX] at hm hs hr
 rw[hp] at hrb
 simp only[Mem] at hm
 simp only[Sep] at hs
 simp only[RR,CR] at hr
 simp only[RR] at hrb
 have hrb:=hrb.2 trivial
 rw[show (z0m (X (100 * r)).2 [])=some (X (100 * r)).2 from rfl,hX] at hrb
 simp only[Option.bind_some,Go.OT.hd,Option.some.injEq,Prod.mk.injEq] at hrb
 obtain⟨s0,l0,z0,n0,⟨_,e1,_,_⟩,hrb⟩:=hrb
 subst e1
 have hmem:=z0e.1 hm
 have hsep:=z0a.1 hs.2
 have hfpX:∀ b' o',fp (.bx true (some l) cs) b' o'→kfp β X (100 * r) b' o':=fun b' o' h=>.inl (by rw[hX];exact h)
 have hown:∀ i,i < cs.length→kfp β X (100 * r) l.b (l.o+i):=fun i hi=>hfpX _ _ (by simp only[fp];exact .inl ⟨trivial,by omega,by omega⟩)
 have hold:∀ c b' o',c ∈ cs→fp c b' o'→kfp β X (100 * r) b' o':=fun c b' o' hc h=>hfpX _ _ (by simp only[fp];exact .inr (z04.2 ⟨c,hc,h⟩))
 generalize hβ':(fun j=>if j=b then (l.b,l.o) else β j)=β'
 have hβb:β' b=(l.b,l.o):=by subst hβ';simp
 have hβn:∀ j,j ≠ b→β' j=β j:=by intro j hj;subst hβ';simp[hj]
 have hKY:Keeps X (X.box b cs) β β':=by
  refine⟨fun k=>?_,fun k he p a ha=>?_,fun b' he=>?_⟩
  ·simp only[XF.box];split
   ·split
    ·simp
    ·exact zv9 _
   ·exact Nat.le_refl _
  ·simp only[XF.box] at he ⊢
   split at he
   ·rename_i hc
    rw[if_pos hc]
    split at he
    ·omega
    ·have:=z3m ha
     have e1:nx (X k)=(X k).1+1:=by unfold nx;rw[this];rfl
     simp only[e1] at he
     omega
   ·rename_i hc;rw[if_neg hc];exact ha
  ·by_cases hbb:b'=b
   ·subst hbb
    simp only[XF.box] at he
    rw[if_pos ⟨by omega,by omega⟩,if_pos (by omega)] at he
    omega
   ·exact hβn b' hbb
 generalize hg':(X (100 * b+99)).1+1=g'
 generalize hZ:((X.box b cs).set (100 * r) (.bptr b g' 0)).set (100 * b) (.bptr b g' 0)=Z
 have hK:Keeps X Z β β':=by
  rw[← hZ]
  exact (hKY.trans (z05 _ β' (100 * r) _)).trans (z05 _ β' (100 * b) _)
 have hcellZ:∀ k,k % 100 ≠ 0→Z k=(X.box b cs) k:=fun k hk=>by
  rw[← hZ,XF.set_ne _ _ (by omega),XF.set_ne _ _ (by omega)]
 have hkey:∀ i,i < 98→(Z (100 * b+1+i)).2=cs.getD i .non:=by
  intro i hi
  rw[hcellZ _ (by omega)]
  simp only[XF.box]
  rw[if_pos ⟨by omega,by omega⟩,if_neg (by omega)]
  simp only[show (100 * b+1+i) % 100 - 1=i by omega]
 have hform:∀ k,k / 100=b→k % 100 ≠ 0→k % 100 ≠ 99→∃ i,i < 98∧k=100 * b+1+i:=fun k h1 h2 h3=>⟨k % 100 - 1,by omega,by omega⟩
 have hZ99:Z (100 * b+99)=(g',.non):=by
  rw[hcellZ _ (by omega)]
  simp only[XF.box]
  rw[if_pos ⟨by omega,by omega⟩,if_pos (by omega),hg']
 have h99:(Z (100 * b+99)).2=.non:=by rw[hZ99]
 have hZr:∀ t,t=r∨t=b→(Z (100 * t)).2=.bptr b g' 0:=by
  rintro t ht
  rw[← hZ]
  by_cases e:t=b
  ·subst e;rw[XF.set_self]
  ·rcases ht with rfl | ht
   ·rw[XF.set_ne _ _ (by omega),XF.set_self]
   ·exact absurd ht e
 have hno:∀ t,t=r∨t=b→∀ b' o',¬ kfp β' Z (100 * t) b' o':=by
  intro t ht b' o' hb'
  rcases hb' with hb' | ⟨hc,_⟩
  ·rw[hZr t ht] at hb';simp[fp] at hb'
  ·exact z0d t hc
 have hno99:∀ b' o',¬ kfp β' Z (100 * b+99) b' o':=by
  intro b' o' hb'
  rcases hb' with hb' | ⟨hc,_⟩
  ·rw[h99] at hb';simp[fp] at hb'
  ·exact hc.2 (by omega)
 have hgetD:∀ i c,cs[i]?=some c→cs.getD i .non=c:=fun i c hc=>by simp[List.getD_eq_getElem?_getD,hc]
 have hcase:∀ i,i < 98→∀ b' o',kfp β' Z (100 * b+1+i) b' o'→∃ c,cs[i]?=some c∧(fp c b' o'∨(b'=l.b∧o'=l.o+i)):=by
  intro i hi b' o' hb'
  cases hc:cs[i]? with
  | none =>
   have hg:cs.getD i .non=.non:=by simp[List.getD_eq_getElem?_getD,hc]
   rcases hb' with hb' | ⟨_,hne,_⟩
   ·rw[hkey i hi,hg] at hb';simp[fp] at hb'
   ·exact absurd ((hkey i hi).trans hg) hne
  | some c =>
   refine⟨c,rfl,?_⟩
   rcases hb' with hb' | ⟨_,_,h3⟩
   ·rw[hkey i hi,hgetD i c hc] at hb';exact .inl hb'
   ·simp only[zcb,show (100 * b+1+i) / 100=b by omega,hβb,show (100 * b+1+i) % 100 - 1=i by omega] at h3
    exact .inr ⟨h3.1,h3.2⟩
 have hcell:∀ k,(k / 100=b∧k % 100 ≠ 0)→∀ b' o',kfp β' Z k b' o'→∃ i c,i < 98∧k=100 * b+1+i∧cs[i]?=some c∧(fp c b' o'∨(b'=l.b∧o'=l.o+i)):=by
  rintro k ⟨h1,h2⟩ b' o' hb'
  by_cases h3:k % 100=99
  ·have:k=100 * b+99:=by omega
   subst this;exact absurd hb' (hno99 b' o')
  ·obtain⟨i,hi,rfl⟩:=hform k h1 h2 h3
   obtain⟨c,hc,h'⟩:=hcase i hi b' o' hb'
   exact⟨i,c,hi,rfl,hc,h'⟩
 have hD:∀ t,(100 * t / 100=b∧100 * t % 100 ≠ 0)∨100 * t=100 * r∨100 * t=100 * b→t=r∨t=b:=by
  rintro t (⟨_,h2⟩ | h | h)<;>omega
 refine R.change (fun k=>(k / 100=b∧k % 100 ≠ 0)∨k=100 * r∨k=100 * b) ?_ hK ?_ ?_ (fun _ _=>rfl) ?_ ?_ ?_ ?_ (fun _ _ h=>h) (fun _ _ h=>.inl h) ((Frame.refl _ w).mono fun _ _ _ h=>h)
 ·intro k hk
  rw[← hZ,XF.set_ne _ _ (fun e=>hk (.inr (.inr e))),XF.set_ne _ _ (fun e=>hk (.inr (.inl e)))]
  simp only[XF.box]
  rw[if_neg (fun e=>hk (.inl e))]
 ·intro k hk hc
  exact .inl (hβn _ (fun e=>hk (.inl ⟨e,hc.1⟩)))
 ·intro j hj;exact hβn j (by omega)
 ·intro t ht
  have ht:=hD t ht
  rw[hZr t ht]
  simp only[RR]
  refine⟨by rw[hZ99];exact Nat.le_refl _,fun _=>?_⟩
  rw[hβb]
  rcases ht with rfl | rfl
  ·rw[hr];rfl
  ·exact hrb
 ·rintro k hk
  rcases hk with ⟨h1,h2⟩ | hk
  ·by_cases h3:k % 100=99
   ·have:k=100 * b+99:=by omega
    subst this
    exact⟨by rw[h99];simp[Mem],by rw[h99];simp[Sep],fun hc=>absurd h3 hc.2,fun b' o' hb'=>absurd hb' (hno99 b' o'),fun _=>h99⟩
   ·obtain⟨i,hi,rfl⟩:=hform k h1 h2 h3
    cases hc:cs[i]? with
    | none =>
     have hg:(Z (100 * b+1+i)).2=.non:=(hkey i hi).trans (by simp[List.getD_eq_getElem?_getD,hc])
     refine⟨by rw[hg];simp[Mem],by rw[hg];simp[Sep],fun _ hne=>absurd hg hne,fun b' o' hb'=>?_,fun h=>absurd h h3⟩
     obtain⟨c,hc',_⟩:=hcase i hi b' o' hb'
     rw[hc] at hc';cases hc'
    | some c =>
     have hg:(Z (100 * b+1+i)).2=c:=(hkey i hi).trans (hgetD i c hc)
     have hlt:i < cs.length:=(List.getElem?_eq_some_iff.1 hc).1
     have hin:=List.mem_of_getElem? hc
     obtain⟨⟨y,hy,hcy⟩,hmc,_⟩:=hmem i c hc
     refine⟨by rw[hg];exact hmc,by rw[hg];exact hsep.1 c hin,fun _ _=>?_,fun b' o' hb'=>?_,fun h=>absurd h h3⟩
     ·rw[hg]
      simp only[show (100 * b+1+i) / 100=b by omega,hβb,show (100 * b+1+i) % 100 - 1=i by omega]
      exact⟨⟨y,hy,.inl hcy⟩,fun hbad=>hs.1 i hlt (z04.2 ⟨c,hin,hbad⟩)⟩
     ·obtain⟨c',hc',h'⟩:=hcase i hi b' o' hb'
      rw[hc] at hc';cases hc'
      rcases h' with h' | ⟨rfl,rfl⟩
      ·exact (R.key (100 * r)).live _ _ (hold c b' o' hin h')
      ·exact (R.key (100 * r)).live _ _ (hown i hlt)
  ·obtain⟨t,ht,rfl⟩:∃ t,(t=r∨t=b)∧k=100 * t:=by
    rcases hk with h | h
    ·exact⟨r,.inl rfl,h⟩
    ·exact⟨b,.inr rfl,h⟩
   exact⟨by rw[hZr t ht];simp[Mem],by rw[hZr t ht];simp[Sep],fun hc=>absurd hc (z0d t),fun b' o' hb'=>absurd hb' (hno t ht b' o'),fun h=>by omega⟩
 ·rintro k k' hk hk' hne b' o' h1 h2
  have hreg:∀ q,q=100 * r∨q=100 * b→kfp β' Z q b' o'→False:=fun q hq h=>by
   rcases hq with rfl | rfl
   ·exact hno r (.inl rfl) b' o' h
   ·exact hno b (.inr rfl) b' o' h
  rcases hk with hk | hk
  ·rcases hk' with hk' | hk'
   ·obtain⟨i,c,hi,rfl,hc,hh⟩:=hcell k hk b' o' h1
    obtain⟨j,d,hj,rfl,hd,hh'⟩:=hcell k' hk' b' o' h2
    have hij:i ≠ j:=fun e=>hne (by rw[e])
    have hli:i < cs.length:=(List.getElem?_eq_some_iff.1 hc).1
    have hlj:j < cs.length:=(List.getElem?_eq_some_iff.1 hd).1
    rcases hh with hh | ⟨e1,e2⟩
    ·rcases hh' with hh' | ⟨e1,e2⟩
     ·rcases Nat.lt_or_gt_of_ne hij with hlt | hlt
      ·exact hsep.2 i j c d hlt hc hd b' o' hh hh'
      ·exact hsep.2 j i d c hlt hd hc b' o' hh' hh
     ·subst e1 e2
      exact hs.1 j hlj (z04.2 ⟨c,List.mem_of_getElem? hc,hh⟩)
    ·rcases hh' with hh' | ⟨e3,e4⟩
     ·subst e1 e2
      exact hs.1 i hli (z04.2 ⟨d,List.mem_of_getElem? hd,hh'⟩)
     ·omega
   ·exact hreg k' hk' h2
  ·exact hreg k hk h1
 ·rintro k hk b' o' hb'
  rcases hk with hk | hk
  ·obtain⟨i,c,hi,rfl,hc,hh⟩:=hcell k hk b' o' hb'
   rcases hh with hh | ⟨e1,e2⟩
   ·exact .inl ⟨100 * r,.inr (.inl rfl),hold c b' o' (List.mem_of_getElem? hc) hh⟩
   ·subst e1 e2
    exact .inl ⟨100 * r,.inr (.inl rfl),hown i (List.getElem?_eq_some_iff.1 hc).1⟩
  ·exfalso
   rcases hk with rfl | rfl
   ·exact hno r (.inl rfl) b' o' hb'
   ·exact hno b (.inr rfl) b' o' hb'
theorem RelL.upR (R:RelL C X β I rg w)(r b:Nat)(hr:(X (100 * r)).2=.bptr b (X (100 * b+99)).1 0)(cs:List AL)(hn:cs.length≤98)
  (hcs:∀ i c,cs[i]?=some c→(X (100 * b+1+i)).2=c∧z0o c=true) :
  RelL C ((zc8 X b cs.length).set (100 * r) (.bx true (some ⟨(β b).1,(β b).2,0⟩) cs)) β I rg w:=by
 have hc:∀ i,i < cs.length→∃ c,cs[i]?=some c∧(X (100 * b+1+i)).2=c∧z0o c=true∧c ≠ .non∧z2b (100 * b+1+i)∧(100 * b+1+i) / 100=b∧(100 * b+1+i) % 100 - 1=i:=by
  intro i hi
  obtain⟨h1,h2⟩:=hcs i _ (List.getElem?_eq_getElem hi)
  refine⟨_,List.getElem?_eq_getElem hi,h1,h2,fun e=>?_,⟨by omega,by omega⟩,by omega,by omega⟩
  rw[e] at h2;simp[z0o] at h2
 have hat:∀ i c,cs[i]?=some c→(∃ y,w.at (β b).1 ((β b).2+i)=some y∧CR c y)∧¬ fp c (β b).1 ((β b).2+i)∧Mem w I c∧Sep c:=by
  intro i c hi
  obtain⟨c',h1,h2,h3,h4,h5,h6,h7⟩:=hc i (List.getElem?_eq_some_iff.1 hi).1
  rw[hi] at h1
  cases h1
  have hk:=R.key (100 * b+1+i)
  obtain⟨⟨y,hy,hx⟩,hnf⟩:=hk.cell h5 (by rw[h2];exact h4)
  rw[h6,h7] at hy hnf
  rw[h2] at hx hnf
  exact⟨⟨y,hy,hx.cr (by cases c<;>simp [z0o] at h3<;>rfl)⟩,hnf,by rw[← h2];exact hk.mem,by rw[← h2];exact hk.sep⟩
 have haddr:∀ i,i < cs.length→kfp β X (100 * b+1+i) (β b).1 ((β b).2+i):=by
  intro i hi
  obtain⟨c,h1,h2,h3,h4,h5,h6,h7⟩:=hc i hi
  exact .inr ⟨h5,by rw[h2];exact h4,by rw[h6],by rw[h6,h7]⟩
 have hin:∀ i c,cs[i]?=some c→∀ b' o',fp c b' o'→kfp β X (100 * b+1+i) b' o':=by
  intro i c hi b' o' h
  left
  rw[(hcs i c hi).1];exact h
 have hfp:∀ b' o',fp (.bx true (some ⟨(β b).1,(β b).2,0⟩) cs) b' o'→∃ i,i < cs.length∧kfp β X (100 * b+1+i) b' o':=by
  intro b' o' h
  simp only[fp] at h
  rcases h with ⟨rfl,h1,h2⟩ | h
  ·refine⟨o' - (β b).2,by omega,?_⟩
   have:=haddr (o' - (β b).2) (by omega)
   rwa [show (β b).2+(o' - (β b).2)=o' by omega] at this
  ·obtain⟨c,hc',hcb⟩:=z04.1 h
   obtain⟨i,hi⟩:=List.getElem?_of_mem hc'
   exact⟨i,(List.getElem?_eq_some_iff.1 hi).1,hin i c hi _ _ hcb⟩
 have hself:((zc8 X b cs.length).set (100 * r) (.bx true (some ⟨(β b).1,(β b).2,0⟩) cs) (100 * r)).2=.bx true (some ⟨(β b).1,(β b).2,0⟩) cs:=by rw[XF.set_self]
 have hoth:∀ k,100 * b+1≤k∧k < 100 * b+1+cs.length→((zc8 X b cs.length).set (100 * r) (.bx true (some ⟨(β b).1,(β b).2,0⟩) cs) k).2=.non:=by
  intro k hk
  rw[XF.set_ne _ _ (by omega),z8x,if_pos hk]
 have hK:Keeps X ((zc8 X b cs.length).set (100 * r) (.bx true (some ⟨(β b).1,(β b).2,0⟩) cs)) β β:=(z8y X β b _).trans (z05 _ β _ _)
 refine R.change (fun k=>k=100 * r∨(100 * b+1≤k∧k < 100 * b+1+cs.length)) (fun k hk=>?_) hK (fun _ _ _=>.inl rfl) (fun _ _=>rfl) (fun _ _=>rfl) (fun t ht=>?_) (fun k hk=>?_) (fun k k' hk hk' hne b' o' h1 h2=>?_) (fun k hk b' o' h=>?_)
  (fun _ _ h=>h) (fun _ _ h=>.inl h) ((Frame.refl _ w).mono fun _ _ _ h=>h)
 ·rw[XF.set_ne _ _ (fun e=>hk (.inl e)),z8x,if_neg (fun e=>hk (.inr e))]
 ·have e:t=r:=by omega
  subst e
  rw[hself]
  have:=R.reg t
  rw[hr] at this
  simp only[RR] at this
  have h2:=this.2 trivial
  simp only[RR,CR]
  simpa using h2
 ·rcases hk with rfl | hk
  ·refine⟨?_,?_,fun h=>absurd h.1 (by omega),fun b' o' h=>?_,fun h=>by omega⟩
   ·rw[hself]
    simp only[Mem]
    exact z0e.2 fun i c hi=>⟨(hat i c hi).1,(hat i c hi).2.2.1,by simp⟩
   ·rw[hself]
    simp only[Sep]
    refine⟨fun i hi hbad=>?_,z0a.2 ⟨fun c hc'=>?_,fun i j u v hij hu hv b' o' g1 g2=>?_⟩⟩
    ·obtain⟨c,hc',hcb⟩:=z04.1 hbad
     obtain⟨i',hi'⟩:=List.getElem?_of_mem hc'
     by_cases hii:i=i'
     ·subst hii;exact (hat i c hi').2.1 hcb
     ·exact R.disj (100 * b+1+i) (100 * b+1+i') (by omega) _ _ (haddr i hi) (hin i' c hi' _ _ hcb)
    ·obtain⟨i',hi'⟩:=List.getElem?_of_mem hc'
     exact (hat i' c hi').2.2.2
    ·exact R.disj (100 * b+1+i) (100 * b+1+j) (by omega) b' o' (hin i u hu _ _ g1) (hin j v hv _ _ g2)
   ·rcases h with h | ⟨h,_⟩
    ·rw[hself] at h
     obtain⟨i,_,hi⟩:=hfp _ _ h
     exact (R.key _).live _ _ hi
    ·exact absurd h.1 (by omega)
  ·have h0:=hoth k hk
   refine⟨by rw[h0];simp[Mem],by rw[h0];simp[Sep],fun _ h=>absurd h0 h,fun b' o' h=>?_,fun _=>h0⟩
   rcases h with h | ⟨_,h,_⟩
   ·rw[h0] at h;simp[fp] at h
   ·exact absurd h0 h
 ·have only:∀ k,(k=100 * r∨(100 * b+1≤k∧k < 100 * b+1+cs.length))→kfp β ((zc8 X b cs.length).set (100 * r) (.bx true (some ⟨(β b).1,(β b).2,0⟩) cs)) k b' o'→k=100 * r:=by
   intro k hk h
   rcases hk with e | hk
   ·exact e
   ·have h0:=hoth k hk
    rcases h with h | ⟨_,h,_⟩
    ·rw[h0] at h;simp[fp] at h
    ·exact absurd h0 h
  exact hne ((only k hk h1).trans (only k' hk' h2).symm)
 ·rcases hk with rfl | hk
  ·rcases h with h | ⟨h,_⟩
   ·rw[hself] at h
    obtain⟨i,hi,hi'⟩:=hfp _ _ h
    exact .inl ⟨_,.inr ⟨by omega,by omega⟩,hi'⟩
   ·exact absurd h.1 (by omega)
  ·have h0:=hoth k hk
   rcases h with h | ⟨_,h,_⟩
   ·rw[h0] at h;simp[fp] at h
   ·exact absurd h0 h
end
theorem RelT.down {C:Ctx}{X:XF Unit}{tm:Array Value}{w:World}(h:RelT C X tm w)(r b:Nat)(hb:b < 10000)(cs:List AU)(hX:(X (100 * r)).2=.bx true () cs)(hp:(X (100 * b)).2=.ptr (100 * r) (X (100 * r)).1 [] 0)(hn:cs.length≤98) :
  RelT C (((X.box b cs).set (100 * r) (.bptr b ((X (100 * b+99)).1+1) 0)).set (100 * b) (.bptr b ((X (100 * b+99)).1+1) 0)) tm w:=by
 obtain⟨XL,β,I,rg,he,R,hs,ht⟩:=h
 subst he
 obtain⟨l,lcs,hXL,hl⟩:∃ l lcs,(XL (100 * r)).2=.bx true l lcs∧lcs.map er=cs:=by
  have hX':er (XL (100 * r)).2=.bx true () cs:=hX
  revert hX'
  generalize (XL (100 * r)).2=v
  intro h
  cases v<;>simp [er,z0f] at h
  obtain⟨h1,h2⟩:=h
  subst h1
  exact⟨_,_,rfl,h2⟩
 have hm:=(R.key (100 * r)).mem
 rw[hXL] at hm
 cases l with
 | none=>simp [Mem] at hm
 | some l =>
  have hp':(XL (100 * b)).2=.ptr (100 * r) (XL (100 * r)).1 [] 0:=by
   have hp2:er (XL (100 * b)).2=.ptr (100 * r) (XL (100 * r)).1 [] 0:=hp
   revert hp2
   generalize (XL (100 * b)).2=v
   intro h
   cases v<;>simp [er] at h
   obtain⟨h1,h2,h3,h4⟩:=h
   subst h1 h2 h3 h4
   rfl
  have R':=R.down r b hb l lcs hXL hp' (by rw[← hl] at hn;simpa using hn)
  refine⟨_,_,I,rg,?_,R',hs,ht⟩
  rw[z03,z03,zd9,hl]
  rfl
theorem RelT.upR {C:Ctx}{X:XF Unit}{tm:Array Value}{w:World}(h:RelT C X tm w)(r b:Nat)(hr:(X (100 * r)).2=.bptr b (X (100 * b+99)).1 0)(cs:List AU)(hn:cs.length≤98)
  (hcs:∀ i c,cs[i]?=some c→(X (100 * b+1+i)).2=c∧z0o c=true):RelT C ((zc8 X b cs.length).set (100 * r) (.bx true () cs)) tm w:=by
 obtain⟨XL,β,I,rg,he,R,hs,ht⟩:=h
 subst he
 have hr':(XL (100 * r)).2=.bptr b (XL (100 * b+99)).1 0:=by
  simp only[erF] at hr
  revert hr
  cases (XL (100 * r)).2<;>simp [er]
 have hget:∀ i c,((List.range cs.length).map fun i=>(XL (100 * b+1+i)).2)[i]?=some c→i < cs.length∧c=(XL (100 * b+1+i)).2:=by
  intro i c hc
  have hi:i < cs.length:=by
   have:=(List.getElem?_eq_some_iff.1 hc).1
   simpa using this
  simp[hi] at hc
  exact⟨hi,hc.symm⟩
 have R':=R.upR r b hr' ((List.range cs.length).map fun i=>(XL (100 * b+1+i)).2) (by simpa using hn) (fun i c hc=>by
  obtain⟨hi,rfl⟩:=hget i c hc
  refine⟨rfl,?_⟩
  obtain⟨h1,h2⟩:=hcs i _ (List.getElem?_eq_getElem hi)
  rw[← z2r]
  have h1':er (XL (100 * b+1+i)).2=cs[i]:=h1
  rw[h1'];exact h2)
 rw[show ((List.range cs.length).map fun i=>(XL (100 * b+1+i)).2).length=cs.length by simp] at R'
 refine⟨_,β,_,rg,?_,R',hs,ht⟩
 rw[z03,ze7]
 congr 1
 simp only[er,z0f,List.map_map]
 congr 1
 apply List.ext_getElem?
 intro i
 by_cases hi:i < cs.length
 ·have h1:er (XL (100 * b+1+i)).2=cs[i]:=(hcs i _ (List.getElem?_eq_getElem hi)).1
  simp[hi,h1]
 ·rw[List.getElem?_eq_none (by simpa using Nat.le_of_not_lt hi),List.getElem?_eq_none (by omega:cs.length≤i)]
section
variable {P:Program} {nt:Nat} {L:SL} {Q:Ex→SL→Prop}
def upRL (L:SL)(r b:Nat)(cs:List AU):SL:=z0j (zl9 L b cs.length) (100 * r) (.bx true () cs)
def downL (L:SL)(r b:Nat)(cs:List AU):SL:=z0j (z0j (zc5 b cs L) (100 * r) (.bptr b ((fnL L (100 * b+99)).1+1) 0)) (100 * b) (.bptr b ((fnL L (100 * b+99)).1+1) 0)
attribute [simp] upRL downL
theorem RelT.upRL {C:Ctx}{tm:Array Value}{w:World}(h:RelT C (fnL L) tm w)(r b n:Nat)(cs:List AU)(hr:(fnL L (100 * r)).2=.bptr b (fnL L (100 * b+99)).1 0)(hn:n≤98)
  (hcs:z0v (fnL L) b 0 n=cs) (ht:cs.all z0o=true):RelT C (fnL (upRL L r b cs)) tm w:=by
 have hlen:cs.length≤n:=by
  rw[← hcs]
  have:∀ m i,(z0v (fnL L) b i m).length≤m:=by
   intro m
   induction m with
   | zero=>intro i;simp[z0v]
   | succ m ih=>intro i;simp only[z0v];split<;>simp [ih]
  exact this n 0
 have:=h.upR r b hr cs (by omega) (fun i c hi=>⟨by
  rw[← hcs] at hi
  have:=z8z n 0 i c hi
  rwa [Nat.zero_add] at this,List.all_eq_true.1 ht c (List.mem_of_getElem? hi)⟩)
 rw[ze8,z07] at this
 exact this
theorem RelT.downL {C:Ctx}{tm:Array Value}{w:World}(h:RelT C (fnL L) tm w)(r b:Nat)(hb:b < 10000)(cs:List AU)(hX:(fnL L (100 * r)).2=.bx true () cs)(hp:(fnL L (100 * b)).2=.ptr (100 * r) (fnL L (100 * r)).1 [] 0)(hn:cs.length≤98) :
  RelT C (fnL (downL L r b cs)) tm w:=by
 have:=h.down r b hb cs hX hp hn
 rw[z9x b cs _ hn,z07,z07] at this
 exact this
theorem WL.lower {cc:Cd}(r b:Nat){cs:List AU}(hX:(fnL L (100 * r)).2=.bx true () cs)(hp:(fnL L (100 * b)).2=.ptr (100 * r) (fnL L (100 * r)).1 [] 0)(h:WL P nt cc (downL L r b cs) Q)(hn:cs.length≤98:=by simp)(hb:b < 10000:=by decide):WL P nt cc L Q:=by
 intro C code hP hnt hc a w hd hR
 exact h C code hP hnt hc a w hd (hR.downL r b hb cs hX hp hn)
theorem WL.lift {cc:Cd}(r b n:Nat){cs:List AU}(hr:(fnL L (100 * r)).2=.bptr b (fnL L (100 * b+99)).1 0)(hcs:z0v (fnL L) b 0 n=cs)(ht:cs.all z0o=true)
  (h:WL P nt cc (upRL L r b cs) Q) (hn:n≤98:=by decide):WL P nt cc L Q:=by
 intro C code hP hnt hc a w hd hR
 exact h C code hP hnt hc a w hd (hR.upRL r b n cs hr hn hcs ht)
theorem RL.lower {K:SL→Prop}{segs:List Sg}(r b:Nat){cs:List AU}(hX:(fnL L (100 * r)).2=.bx true () cs)(hp:(fnL L (100 * b)).2=.ptr (100 * r) (fnL L (100 * r)).1 [] 0)(h:RL P nt segs (downL L r b cs) K)(hn:cs.length≤98:=by simp)(hb:b < 10000:=by decide):RL P nt segs L K:=by
 intro C ops idx hP hnt hc a w Q hd hR hK
 exact h C ops idx hP hnt hc a w Q hd (hR.downL r b hb cs hX hp hn) hK
theorem RL.lift {K:SL→Prop}{segs:List Sg}(r b n:Nat){cs:List AU}(hr:(fnL L (100 * r)).2=.bptr b (fnL L (100 * b+99)).1 0)(hcs:z0v (fnL L) b 0 n=cs)(ht:cs.all z0o=true)
  (h:RL P nt segs (upRL L r b cs) K) (hn:n≤98:=by decide):RL P nt segs L K:=by
 intro C ops idx hP hnt hc a w Q hd hR hK
 exact h C ops idx hP hnt hc a w Q hd (hR.upRL r b n cs hr hn hcs ht) hK
end
end Go.OT
namespace Go.OT
open Go.Proofs
abbrev Pst:=List (List UInt8) × Bool × Bool
def z1z (t:St)(p:Nat):Bool:=t.There.getD p false
def ztc (l:List Ev)(fl:Int)(p:Nat)(a:Pst)(x:Int)(t:St):List (List UInt8):=if (decide (fl≤(atE l x).Stamp) && z1z t p)=true then a.1 ++ [t.Body.getD p []] else a.1
def ykf (l:List Ev)(fl:Int)(p:Nat)(a:Pst)(x:Int)(t:St):Bool:=a.2.1 || (decide (fl < (atE l x).Stamp) && ((decide ((atE l x).op.Kind=1) && (z1z t p && !a.2.2)) || wrF (atE l x) t p))
def z6u (l:List Ev)(fl:Int)(p:Nat)(a:Pst)(x:Int)(t:St):Pst:=(ztc l fl p a x t,ykf l fl p a x t,z1z t p)
abbrev psS (fl:Int)(p:Nat)(bs:List (List UInt8))(tn ws:Bool)(t:St)(e:Ev)(r:SL):SL :=
 [(300,0,.vptr () [i64 fl]),(400,0,.vptr () [i64 p]),(500,0,.bptr 5 1 0),(501,0,sUU true bs),(502,0,bl tn),(599,1,.non),(600,0,.ptr 1000100 0 [] 0)] ++ (rcF 8 t ++ (bxE 9 e ++ (r ++ [(1000000,0,.bptr 5 1 0),(1000100,0,.bx true () [bl ws])])))
abbrev psQ (a:Pst):Ex→SL→Prop:=fun e L=>(e=Ex.nrm∨e=Ex.ret)∧RetOk zec.rs [.nod (.bx true () [sUU true a.1,bl a.2.1]),.nod (.bx true () [bl a.2.2])] (.tuple []) L
set_option maxHeartbeats 16000000 in
theorem zim (fl:Int)(p:Nat)(bs:List (List UInt8))(tn ws:Bool)(t:St)(ht:OkSt t)(hp:p < t.There.length)(e:Ev)(hc0:0≤e.Client)(hc1:e.Client < t.Handles.length)(tn':Bool)(r:SL)(hr:r=[]∨r=[(2500,0,bl false)])
  (htn:tn'=(tn || (decide (fl < e.Stamp) && ((decide (e.op.Kind=1) && (z1z t p && !ws)) || wrF e t p)))) :
  WL Try.prog zec.nt zk1 (psS fl p bs tn ws t e r) (psQ (bs,tn',z1z t p)):=by
 have hwr:=zk8 e t ht hc0 hc1 p
 have hp':p+1≤t.There.length:=hp
 obtain⟨th,hth⟩:∃ th,t.There[p]=th:=⟨_,rfl⟩
 have eth:z1z t p=th:=by simp[z1z,hp,hth]
 rw[eth] at htn ⊢
 -- the last region
 have last:∀ L,L=[(400,0,.vptr () [i64 p]),(501,0,sUU true bs),(502,0,bl tn'),(599,1,.non),(600,0,.ptr 1000100 0 [] 0)] ++ (rcF 8 t ++ [(1000000,0,.bptr 5 1 0),(1000100,0,.bx true () [bl ws])])→WL Try.prog zec.nt zv5 L (psQ (bs,tn',th)):=fun L hL=>by
  subst hL
  refine WL.lift 10000 5 2 (by simp) (by simp;rfl) (by simp) ?_
  refine WL.reg (RL.run (by simp[hp,hp',hth];rfl) ⟨_,by simp;rfl,.inl rfl,?_⟩)
  simp[zec]
 -- ahead of it
 have mid:∀ (md:Bool),md=(decide (e.op.Kind=1) && (th && !ws))→∀ L,L=psS fl p bs tn ws t e [(1000,0,bl md)]→WL Try.prog zec.nt zv6 L (psQ (bs,tn',th)):=fun md hmd L hL=>by
  subst hL
  rw[← hmd] at htn
  cases tn with
  | true =>
   refine WL.sregC (RL.o (by simp;rfl) (RL.g (by simp;rfl) (RL.g (by simp;rfl) (RL.g (by simp;rfl) (RL.callN (by simp) (RL.g (by simp;rfl) (RL.g (by simp;rfl) (RL.o (by simp;rfl) (RL.nil ⟨_,by simp;rfl,last _ ?_⟩)))))))))
   simp[htn]
  | false =>
   simp only[Bool.false_or] at htn
   by_cases k:fl < e.Stamp
   ·cases md with
    | true =>
     refine WL.sregC (RL.o (by simp;rfl) (RL.g (by simp[k];rfl) (RL.g (by simp;rfl) (RL.g (by simp;rfl) (RL.callN (by simp) (RL.g (by simp;rfl) (RL.g (by simp;rfl) (RL.o (by simp;rfl) (RL.nil ⟨_,by simp;rfl,last _ ?_⟩)))))))))
     simp[htn,k]
    | false =>
     refine WL.sregC (RL.o (by simp;rfl) (RL.g (by simp[k];rfl) (RL.g (by simp;rfl) (RL.g (by simp;rfl) (RL.callY0 false (by simp) hwr (by simp) (by simp) (RL.g (by simp;rfl) (RL.g (by simp;rfl) (RL.o (by simp;rfl) (RL.nil ⟨_,by simp;rfl,last _ ?_⟩)))))))))
     simp[htn,k]
   ·refine WL.sregC (RL.o (by simp;rfl) (RL.g (by simp[k];rfl) (RL.g (by simp;rfl) (RL.g (by simp;rfl) (RL.callN (by simp) (RL.g (by simp;rfl) (RL.g (by simp;rfl) (RL.o (by simp;rfl) (RL.nil ⟨_,by simp;rfl,last _ ?_⟩)))))))))
    simp[htn,k]
 clear last
 have go:∀ (k1:Bool),(e.op.Kind == 1)=k1→decide (e.op.Kind=1)=k1→WL Try.prog zec.nt zk1 (psS fl p bs tn ws t e r) (psQ (bs,tn',th)):=fun k1 e1 e2=>by
  rw[e2] at mid
  rcases hr with rfl | rfl
  all_goals
   cases k1 with
   | false=>exact WL.sreg (by simp[e1];rfl) (by simp;rfl) (mid false (by simp) _ (by simp))
   | true =>
    cases th with
    | false=>exact WL.sreg (by simp[e1,hp,hp',hth];rfl) (by simp;rfl) (mid false (by simp) _ (by simp))
    | true =>
     cases ws with
     | true=>exact WL.sreg (by simp[e1,hp,hp',hth];rfl) (by simp;rfl) (mid false (by simp) _ (by simp))
     | false=>exact WL.sreg (by simp[e1,hp,hp',hth];rfl) (by simp;rfl) (mid true (by simp) _ (by simp))
 by_cases k1:e.op.Kind=1
 ·exact go true (by simp[k1]) (by simp[k1])
 ·exact go false (beq_false_of_ne k1) (by simp[k1])
set_option maxHeartbeats 16000000 in
theorem zq9 (l:List Ev)(fl:Int)(p:Nat)(a:Pst)(t:St)(ht:OkSt t)(hp:p < t.There.length)(u:Nat)(hu:u < l.length)(hbs:a.1.length≤100000)(hc0:0≤l[u].Client)(hc1:l[u].Client < t.Handles.length) :
  FnC Try.prog 154 [.nod (.bx true () [sUU true a.1,bl a.2.1]),.nod (.bx true () [bl a.2.2])] [i64 u,z6m false t,.vptr () [sEv l],.vptr () [i64 fl],.vptr () [i64 p],.ptr 1000000 0 [] 0,.ptr 1000100 0 [] 0]
   [.nod (.bx true () [sUU true (z6u l fl p a u t).1,bl (z6u l fl p a u t).2.1]),.nod (.bx true () [bl (z6u l fl p a u t).2.2])] (.tuple []):=by
 have f1:=z1d (o:=false) (r:=false) hu
 have g1:14≤l.length * 14 - u * 14:=by omega
 have hat:atE l (u:Int)=l[u]:=z56 hu
 refine FnC.go ywi rfl ?_
 refine WL.sreg (by simp;rfl) (by simp;rfl) ?_
 refine WL.lower 10000 5 (by simp;rfl) (by simp) ?_
 refine WL.sreg (by simp[hu,f1,g1];rfl) (by simp;rfl) ?_
 have eP:z6u l fl p a u t=(ztc l fl p a u t,ykf l fl p a u t,z1z t p):=rfl
 have eB:ztc l fl p a u t=if (decide (fl≤l[u].Stamp) && z1z t p)=true then a.1 ++ [t.Body.getD p []] else a.1:=by unfold ztc;rw[hat]
 have eT:ykf l fl p a u t=(a.2.1 || (decide (fl < l[u].Stamp) && ((decide (l[u].op.Kind=1) && (z1z t p && !a.2.2)) || wrF l[u] t p))):=by unfold ykf;rw[hat]
 rw[eP]
 generalize ztc l fl p a u t=bs' at eB ⊢
 generalize ykf l fl p a u t=tn' at eT ⊢
 obtain⟨bs,tn,ws⟩:=a
 simp only at eB eT hbs ⊢
 clear f1 g1 hat eP
 generalize l[u]=e at *
 have rest:=fun bs r hr=>zim fl p bs tn ws t ht hp e hc0 hc1 tn' r hr eT
 have hp':p+1≤t.There.length:=hp
 have hpb:p < t.Body.length:=by rw[ht.bn];exact hp
 have hpb':p+1≤t.Body.length:=hpb
 obtain⟨th,hth⟩:∃ th,t.There[p]=th:=⟨_,rfl⟩
 have eth:z1z t p=th:=by simp[z1z,hp,hth]
 have hbd:t.Body.getD p []=t.Body[p]:=by simp[hpb]
 rw[eth,hbd] at eB
 have no:bs'=bs→∀ L,L=psS fl p bs tn ws t e [(2500,0,bl false)]→WL Try.prog zec.nt zv4 L (Ex.thenL (fun L'=>WL Try.prog zec.nt zk1 L' (psQ (bs',tn',z1z t p))) (psQ (bs',tn',z1z t p))):=fun hb L hL=>by
  subst hL hb
  refine WL.cond (t:=false) (by simp) (by simp) fun _=>WL.skip ?_
  exact rest bs' _ (.inr rfl)
 by_cases k:fl≤e.Stamp
 ·cases th with
  | true =>
   refine WL.seq (WL.sreg (by simp[k,hp,hp',hth];rfl) (by simp;rfl) ?_)
   refine WL.cond (t:=true) (by simp) (fun _=>?_) (by simp)
   have hb1:z0c (t.Body[p]).length:=by have:=ht.b16 _ (List.getElem_mem hpb);unfold z0c;omega
   have hm1:(bs.length+1) * 24≤140737488355328:=by omega
   have hm2:bs.length+1≤maxLen:=by unfold maxLen;omega
   have eB':bs'=bs ++ [t.Body[p]]:=by rw[eB];simp[k]
   refine WL.draw z0t (by simp[z09,noH]) (DL.o (by simp[hp,hp',hpb,hpb'];exact⟨rfl,rfl⟩) ?_)
   refine DL.call0 false (z5i t.Body[p] hb1) (by simp) (by simp) ?_
   refine DL.o (by simp[hm1,hm2];exact⟨rfl,rfl⟩) (DL.nil ⟨by kernel_rfl,_,by simp;rfl,?_⟩)
   refine WL.eqL ?_ (rest bs' [] (.inl rfl))
   simp[eB']
   exact List.take_of_length_le (by simp)
  | false=>refine WL.seq (WL.sreg (by simp[k,hp,hp',hth];rfl) (by simp;rfl) (no (by simp[eB]) _ (by simp)))
 ·refine WL.seq (WL.sreg (by simp[k];rfl) (by simp;rfl) (no (by simp[eB,k]) _ (by simp)))
end Go.OT
namespace Go.OT
open Go.Proofs
end Go.OT
namespace Go.OT
open Go.Proofs
theorem zv8 {σ:Type}(l:List Ev)(see:σ→Int→St→σ):∀ (o:List Int) (s:St) (a:σ),OkSt s→OkSt (goW l see s a o).2.1
 | [],s,a,h=>h
 | x :: r,s,a,h=>by
  simp only[goW]
  split
  ·exact zv8 l see r _ _ (z4u h _)
  ·exact h
theorem zin {l:List Ev}{p c:Int}(h:(z50 l p c).2=true):OkSt (z50 l p c).1:=by
 unfold z50 at h ⊢
 split at h
 ·rename_i h0
  rw[if_pos h0]
  cases hb:z0q p c with
  | true=>unfold z5m z12 at h0;rw[hb] at h0;simp at h0
  | false =>
   have hok:=z2p hb
   unfold z12
   rw[hb]
   simp only[Bool.false_eq_true,if_false]
   split
   ·exact hok
   ·exact zv8 _ _ _ _ _ hok
 ·cases h
end Go.OT
namespace Go.OT
open Go.Proofs
theorem zgu {α:Type}(f:α→AU)(h:∀ a,z0y (f a)=true):∀ l:List α,z1y (l.map f)=true
 | []=>rfl
 | a :: l=>by simp only[List.map_cons,z1y,h a,zgu f h l,Bool.and_self]
end Go.OT
namespace Go.OT
open Go.Proofs
theorem zqa (s:St)(c:Nat)(q:Op):(z4j s c q).1.Handles.length=s.Handles.length:=by
 simp only[z4j]
 repeat' split
 all_goals simp
theorem ztd (s:St)(cl:Int)(q:Op):(DoB s cl q).2.1.Handles.length=s.Handles.length:=by
 unfold DoB
 repeat' split
 all_goals first | rfl | exact zqa _ _ _
theorem z95 (s:St)(e:Ev):(z0u s e).2.Handles.length=s.Handles.length:=by
 unfold z0u
 split
 ·rfl
 ·exact ztd _ _ _
theorem z9e {l:List Ev}{u:Nat}{c:Int}(hu:u < l.length)(h:z1u l u c=true):0≤l[u].Client∧l[u].Client < c:=by
 rw[z63 hu] at h
 simp only[z26,Bool.and_eq_true,Bool.not_eq_true'] at h
 have h1:=h.1
 simp only[z4z,Bool.or_eq_false_iff,decide_eq_false_iff_not] at h1
 omega
theorem zlt (l:List Ev)(c fl:Int)(q:Nat):SeeN l c 154 [.vptr () [sEv l],.vptr () [i64 fl],.vptr () [i64 q],.ptr 1000000 0 [] 0,.ptr 1000100 0 [] 0] (fun a:Pst=>[sUU true a.1,bl a.2.1]) (fun a=>[bl a.2.2]) (z6u l fl q)
  (fun j a s=>a.1.length≤j∧q < s.There.length∧(s.Handles.length:Int)=c∧l.length≤1000) :=
 ⟨rfl,rfl,rfl,by simp,fun X k h=>by
  obtain⟨h1,b,h2⟩:=h (1000000,[]) (by simp)
  obtain⟨h3,d,h4⟩:=h (1000100,[]) (by simp)
  simp at h1 h2 h3 h4
  simp[h1,h2,h3,h4,z35],fun j a s u hu ht hok hi hr=>by
  obtain⟨h1,h2,h3,h4⟩:=hi
  refine⟨?_,by rw[z6j];exact h2,by rw[z95];exact h3,h4⟩
  simp only[z6u,ztc]
  split
  ·simp;omega
  ·omega,fun j a s u hu hj ht hok hi hr=>by
  obtain⟨h1,h2,h3,h4⟩:=hi
  have hc:=z9e hu ht
  exact zq9 l fl q a (z0u s l[u]).2 (z4u hok _) (by rw[z6j];exact h2) u hu (by omega) hc.1 (by rw[z95,h3];exact hc.2)⟩
theorem zk9 {σ:Type}(l:List Ev)(see:σ→Int→St→σ):∀ (o:List Int) (s:St) (a:σ),(goW l see s a o).2.1.Handles.length=s.Handles.length
 | [],s,a=>rfl
 | x :: r,s,a=>by
  simp only[goW]
  split
  ·rw[zk9 l see r,z95]
  ·rfl
def z96 (l:List Ev)(p c fl:Int)(q:Nat):List (List UInt8) × Bool :=
 ((z12 (z6u l fl q) ([],false,false) l p c).2.2.1,(z12 (z6u l fl q) ([],false,false) l p c).2.2.2.1 || l.any fun e=>decide (e.Stamp=0) && wrF e (z50 l p c).1 q)
theorem y1c (l:List (List UInt8)):z1y (l.map (sU true))=true:=zgu (sU true) (fun a=>by simp only[z0y,zg5,Bool.and_self]) l
abbrev ptS (l:List Ev)(p c:Int)(q:Nat)(bs:List (List UInt8))(tn:Bool)(S:St)(fb:Bool)(i:Nat):SL :=
 [(800,0,.bptr 8 1 0),(801,0,i64 q),(899,1,.non),(1000,0,.bptr 10 1 0),(1001,0,.sl true () 1 0 []),(1002,0,bl false),(1099,1,.non),(1100,0,.bx true () [sUU true bs,bl tn])] ++ (rcF 13 S ++ [(2900,0,sEv l),(3000,0,i64 l.length),(3100,0,i64 i)])
set_option maxHeartbeats 16000000 in
theorem y1d (l:List Ev)(hE:EvOk l)(p c:Int)(h0:z5m l p c=0)(q:Nat)(hq:(q:Int) < p)(fl:Int):FnC Try.prog 116 [] [sEv l,i64 p,i64 c,i64 q,i64 fl] [] (.agg [sUU true (z96 l p c fl q).1,bl (z96 l p c fl q).2]):=by
 have hn:=hE.n
 obtain⟨hb,hw0,hg0,htm⟩:=z4v (z6u l fl q) ([],false,false) h0
 have hp1:1≤p∧p≤48∧1≤c∧c≤6:=by
  simp only[z0q,Bool.or_eq_false_iff,decide_eq_false_iff_not] at hb
  omega
 have en:z0p p c=⟨List.replicate p.toNat false,List.replicate p.toNat z16,List.replicate c.toNat [-1,-1,-1,-1,-1,-1]⟩:=by unfold z0p;rw[hb];rfl
 have hw:=zq8 hE (zlt l c fl q) p ([],false,false) (fun _=>⟨by simp,by rw[en];simp;omega,by rw[en];simp;omega,hE.n⟩)
 have hf:=yke l hE p c
 have eP:z96 l p c fl q=((z12 (z6u l fl q) ([],false,false) l p c).2.2.1,(z12 (z6u l fl q) ([],false,false) l p c).2.2.2.1 || l.any fun e=>decide (e.Stamp=0) && wrF e (z50 l p c).1 q):=rfl
 have hSok:OkSt (z50 l p c).1:=zin (by unfold z50;rw[if_pos h0])
 have hSh:((z50 l p c).1.Handles.length:Int)=c:=by
  have:=(z4v z36 () h0).2.1
  unfold z50
  rw[if_pos h0,this]
  simp only[zk9,en,List.length_replicate]
  omega
 rw[eP]
 clear eP
 have hcode:=z57 (z6u l fl q) ([],false,false) l p c
 generalize z12 (z6u l fl q) ([],false,false) l p c=W at hw hcode ⊢
 obtain⟨code,sw,bs,tn,ws⟩:=W
 generalize z50 l p c=F at hf hSok hSh ⊢
 obtain⟨S,fb⟩:=F
 simp only at hw hf hSok hSh ⊢
 simp only[Sh.gs,Sh.fv] at hw
 refine FnC.go ywb rfl ?_
 refine WL.sreg (by simp;rfl) (by simp;rfl) ?_
 refine WL.sreg (by simp;rfl) (by simp;rfl) ?_
 refine WL.sreg (by simp;rfl) (by simp;rfl) ?_
 refine WL.raise 11 2 (by simp) (by simp;rfl) (by simp) ?_
 refine WL.raise 12 1 (by simp) (by simp;rfl) (by simp) ?_
 refine WL.sregC (RL.o (by simp;rfl) (RL.callK true [(1100,[]),(1200,[])] hw (by simp) (by simp) (by simp[z35,y1a]) (by simp[y1c]) (by simp) (RL.nil ⟨_,by simp;rfl,?_⟩)))
 refine WL.sregC (RL.o (by simp;rfl) (RL.call0 false hf (by simp) (by simp) (RL.o (by simp;rfl) (RL.nil ⟨_,by simp;rfl,?_⟩))))
 refine WL.seq (WL.sreg (by simp;rfl) (by simp;rfl) ?_)
 refine WL.block (WL.count l.length (fun i=>ptS l p c q bs (tn || (l.take i).any fun e=>decide (e.Stamp=0) && wrF e S q) S fb i) (fun _=>True) (by simp) trivial fun i hi _=>?_)
 by_cases h:i < l.length
 ·have w:IntKind.wrap .i64 ((i:Int)+1)=((i+1:Nat):Int):=by rw[z01 (by omega) (by omega)];omega
  have f1:=z1d (o:=false) (r:=false) h
  have g1:14≤l.length * 14 - i * 14:=by omega
  have hcl:=z9e h (htm i h)
  have hwr:=zk8 l[i] S hSok hcl.1 (by omega) (q:Int)
  have e1:(tn || (l.take (i+1)).any fun e=>decide (e.Stamp=0) && wrF e S q)=((tn || (l.take i).any fun e=>decide (e.Stamp=0) && wrF e S q) || (decide (l[i].Stamp=0) && wrF l[i] S q)):=by
   rw[List.take_succ_eq_append_getElem h,List.any_append]
   simp[Bool.or_assoc]
  rw[e1]
  generalize (tn || (l.take i).any fun e=>decide (e.Stamp=0) && wrF e S q)=x
  refine WL.sreg (by simp[h];rfl) (by simp;rfl) ?_
  refine WL.seq (WL.cond (t:=true) (by simp[h]) (fun _=>WL.skip ?_) (by simp))
  refine WL.seq (WL.block (WL.sreg (by simp[h,f1,g1];rfl) (by simp;rfl) ?_))
  generalize l[i]=e at *
  have fin:∀ x',x'=(x || (decide (e.Stamp=0) && wrF e S q))→∀ L,L=ptS l p c q bs x' S fb i→WL Try.prog zld.nt zv0 L (Ex.thenL (fun L'=>i < l.length∧L'=ptS l p c q bs (x || (decide (e.Stamp=0) && wrF e S q)) S fb (i+1)∧True) (Ex.blkL 0 (Ex.thenL (fun L'=>WL Try.prog zld.nt zv1 L' fun e L=>(e=Ex.nrm∨e=Ex.ret)∧RetOk zld.rs [] (AV.agg [sUU true bs,bl (tn || l.any fun e=>decide (e.Stamp=0) && wrF e S q)]) L) fun e L=>(e=Ex.nrm∨e=Ex.ret)∧RetOk zld.rs [] (AV.agg [sUU true bs,bl (tn || l.any fun e=>decide (e.Stamp=0) && wrF e S q)]) L))):=fun x' hx L hL=>by
   subst hL hx
   exact WL.reg (RL.run (by simp[w];rfl) ⟨_,by simp;rfl,h,by simp,trivial⟩)
  cases x with
  | true =>
   refine WL.reg (RL.o (by simp;rfl) (RL.g (by simp;rfl) (RL.g (by simp;rfl) (RL.callN (by simp) (RL.g (by simp;rfl) (RL.o (by simp;rfl) (RL.nil ⟨_,by simp;rfl,fin true (by simp) _ ?_⟩)))))))
   simp
  | false =>
   by_cases k:e.Stamp=0
   ·have k':(e.Stamp == 0)=true:=by simp[k]
    refine WL.reg (RL.o (by simp;rfl) (RL.g (by simp[k'];rfl) (RL.g (by simp;rfl) (RL.callY0 false (by simp) hwr (by simp) (by simp) (RL.g (by simp;rfl) (RL.o (by simp;rfl) (RL.nil ⟨_,by simp;rfl,fin (wrF e S q) (by simp[k]) _ ?_⟩)))))))
    simp
   ·have k':(e.Stamp == 0)=false:=beq_false_of_ne k
    refine WL.reg (RL.o (by simp;rfl) (RL.g (by simp[k'];rfl) (RL.g (by simp;rfl) (RL.callN (by simp) (RL.g (by simp;rfl) (RL.o (by simp;rfl) (RL.nil ⟨_,by simp;rfl,fin false (by simp[k]) _ ?_⟩)))))))
    simp
 ·obtain rfl:i=l.length:=by omega
  rw[List.take_length]
  generalize (tn || l.any fun e=>decide (e.Stamp=0) && wrF e S q)=x
  refine WL.sreg (by simp;rfl) (by simp;rfl) ?_
  refine WL.seq (WL.cond (t:=false) (by simp) (by simp) fun _=>WL.exit ?_)
  refine WL.sreg (by simp;rfl) (by simp;rfl) (WL.ret ⟨.inr rfl,?_⟩)
  simp[zld]
end Go.OT
namespace Go.OT
open Go.Proofs
theorem zka (l:List Ev)(fl:Int)(q:Nat):∀ (o:List Int) (s:St) (a:Pst),OkSt s→q < s.There.length→(∀ x ∈ a.1,x.length=16) →
  (∀ x ∈ (goW l (z6u l fl q) s a o).2.2.1,x.length=16)∧(goW l (z6u l fl q) s a o).2.2.1.length≤a.1.length+o.length
 | [],s,a,_,_,h=>⟨h,by simp[goW]⟩
 | x :: r,s,a,hs,hq,h=>by
  simp only[goW]
  split
  ·have hs':=z4u hs (atE l x)
   have hq':q < (z0u s (atE l x)).2.There.length:=by rw[z6j];exact hq
   generalize (z0u s (atE l x)).2=t at *
   have hqb:q < t.Body.length:=by rw[hs'.bn];exact hq'
   have h2:∀ y ∈ (z6u l fl q a x t).1,y.length=16:=fun y hy=>by
    simp only[z6u,ztc] at hy
    split at hy
    ·rcases List.mem_append.1 hy with hy | hy
     ·exact h y hy
     ·rw[List.mem_singleton.1 hy,List.getD_eq_getElem?_getD,List.getElem?_eq_getElem hqb]
      exact hs'.b16 _ (List.getElem_mem hqb)
    ·exact h y hy
   have h3:(z6u l fl q a x t).1.length≤a.1.length+1:=by
    simp only[z6u,ztc]
    split<;>simp
   have ih:=zka l fl q r t (z6u l fl q a x t) hs' hq' h2
   exact⟨ih.1,by have:=ih.2;simp only[List.length_cons];omega⟩
  ·exact⟨h,by simp⟩
theorem y1e (l:List Ev)(p c:Int)(h0:z5m l p c=0)(hn:l.length≤1000)(q:Nat)(hq:(q:Int) < p)(fl:Int):(∀ x ∈ (z96 l p c fl q).1,x.length=16)∧(z96 l p c fl q).1.length≤1000:=by
 obtain⟨hb,hw0,hg0,htm⟩:=z4v (z6u l fl q) ([],false,false) h0
 have en:z0p p c=⟨List.replicate p.toNat false,List.replicate p.toNat z16,List.replicate c.toNat [-1,-1,-1,-1,-1,-1]⟩:=by unfold z0p;rw[hb];rfl
 have:=zka l fl q (z0r l) (z0p p c) ([],false,false) (z2p hb) (by rw[en];simp;omega) (by simp)
 unfold z96
 rw[hw0]
 have hO:=z5k l
 refine⟨this.1,?_⟩
 have h2:=this.2
 simp only[List.length_nil,Nat.zero_add] at h2 ⊢
 omega
theorem zte {id:Int}{b:List UInt8}(h:(z3v id b).2=0):(z3v id b).1.length=16:=by
 unfold z3v at h ⊢
 split
 ·rename_i hc
  rw[if_pos hc] at h
  split
  ·rename_i hz;rw[if_pos hz] at h;simp at h
  ·rename_i hz
   rw[if_neg hz] at h
   split
   ·simp[hc.2]
   ·rename_i hi;rw[if_neg hi] at h;simp at h
 ·rename_i hc;rw[if_neg hc] at h;simp at h
def okP (l:List Ev)(p c:Int)(q:Nat)(b:List UInt8):Bool :=
 (decide ((z3v q b).2=0) && zq6 (z96 l p c (z13 l p c q) q).1 (z3v q b).1) || ((decide ((z3v q b).2=11) && decide (z13 l p c q=0)) || (decide ((z3v q b).2=10) && (z96 l p c (z13 l p c q) q).2))
def z64 (l:List Ev)(p c:Int)(im:List (List UInt8)):Option Nat:=(List.range im.length).find? fun q=>!okP l p c q (im.getD q [])
def z2f (l:List Ev)(p c:Int)(im:List (List UInt8)):Int:=if z5m l p c ≠ 0∨(im.length:Int) ≠ p then -1 else match z64 l p c im with
 | some q=>q+1
 | none=>0
abbrev wcS (l:List Ev)(p c:Int)(im:List (List UInt8))(i:Nat)(m r:SL):SL:=[(0,0,sEv l),(100,0,i64 p),(200,0,i64 c)] ++ (m ++ ([(2700,0,sUU false im),(2800,0,i64 im.length),(2900,0,i64 i)] ++ r))
abbrev wcQ (v:Int):Ex→SL→Prop:=fun e L=>e=Ex.ret∧RetOk zt2.rs [] (i64 v) L
set_option maxHeartbeats 16000000 in
theorem zlu (l:List Ev)(hE:EvOk l)(p c:Int)(h0:z5m l p c=0)(hp48:p≤48)(im:List (List UInt8))(i:Nat)(h:i < im.length)(hi:(i:Int) < p)(hb:im[i].length≤1000000)(Q:Ex→SL→Prop)
  (hK:∀ L,L=wcS l p c im i [(900,0,i64 i)] [(7500,0,bl (!okP l p c i im[i]))]→WL Try.prog zt2.nt yh9 L Q) :
  WL Try.prog zt2.nt yhb (wcS l p c im i [(900,0,i64 i),(1000,0,sU false im[i])] []) Q:=by
 have hfl:=zaa l hE p c i
 have hps:=y1d l hE p c h0 i hi (z13 l p c i)
 have hop:=y19 i im[i] hb
 obtain⟨hk1,hk2⟩:=y1e l p c h0 hE.n i hi (z13 l p c i)
 have hol:=zte (id:=i) (b:=im[i])
 have eO:okP l p c i im[i]=((decide ((z3v i im[i]).2=0) && zq6 (z96 l p c (z13 l p c i) i).1 (z3v i im[i]).1) || ((decide ((z3v i im[i]).2=11) && decide (z13 l p c i=0)) || (decide ((z3v i im[i]).2=10) && (z96 l p c (z13 l p c i) i).2))):=rfl
 generalize okP l p c i im[i]=ok at eO hK
 generalize z13 l p c i=fl at *
 generalize z96 l p c fl i=ps at *
 obtain⟨bs,tn⟩:=ps
 generalize z3v (i:Int) im[i]=o at *
 obtain⟨bd,code⟩:=o
 simp only at hps hop hk1 hk2 hol eO
 refine WL.sregC (RL.o (by simp;rfl) (RL.call0 false hfl (by simp) (by simp) (RL.o (by simp;rfl) (RL.nil ⟨_,by simp;rfl,?_⟩))))
 refine WL.sregC (RL.o (by simp;rfl) (RL.call0 false hps (by simp) (by simp) (RL.freeze 4400 (RL.o (by simp;rfl) (RL.nil ⟨_,by simp;rfl,?_⟩)))))
 refine WL.sregC (RL.o (by simp;rfl) (RL.call0 false hop (by simp) (by simp) (RL.mv (by decide) (RL.o (by simp;rfl) (RL.nil ⟨_,by simp;rfl,?_⟩)))))
 have fin:∀ L,L=wcS l p c im i [(900,0,i64 i),(1500,0,bl ok)] []→WL Try.prog zt2.nt yha L Q:=fun L hL=>by
  subst hL
  exact WL.sreg (by simp;rfl) (by simp;rfl) (hK _ (by simp))
 by_cases z0:code=0
 ·subst z0
  have hm:=y1b bs (by omega) hk1 tn bd (hol rfl)
  have eO':ok=zq6 bs bd:=by rw[eO];simp
  rw[← eO'] at hm
  have tk:List.take bd.length (bm bd)=bm bd:=List.take_of_length_le (by simp)
  refine WL.sregC (RL.o (by simp;rfl) (RL.g (by simp;rfl) (RL.callY0 true (by simp) hm (by simp[tk]) (by simp) ?_)))
  cases ok with
  | true=>exact RL.o (by simp;rfl) (RL.g (by simp;rfl) (RL.g (by simp;rfl) (RL.g (by simp;rfl) (RL.o (by simp;rfl) (RL.g (by simp;rfl) (RL.g (by simp;rfl) (RL.g (by simp;rfl) (RL.o (by simp;rfl) (RL.nil ⟨_,by simp;rfl,fin _ (by simp)⟩)))))))))
  | false=>exact RL.o (by simp;rfl) (RL.g (by simp;rfl) (RL.g (by simp;rfl) (RL.g (by simp;rfl) (RL.o (by simp;rfl) (RL.g (by simp;rfl) (RL.g (by simp;rfl) (RL.g (by simp;rfl) (RL.o (by simp;rfl) (RL.nil ⟨_,by simp;rfl,fin _ (by simp)⟩)))))))))
 ·have z0':(code == 0)=false:=beq_false_of_ne z0
  by_cases z11:code=11
  ·subst z11
   by_cases zf:fl=0
   ·have zf':(fl == 0)=true:=by simp[zf]
    have eO':ok=true:=by rw[eO];simp[zf]
    refine WL.sregC (RL.o (by simp;rfl) (RL.g (by simp;rfl) (RL.callN (by simp) (RL.o (by simp;rfl) (RL.g (by simp;rfl) (RL.g (by simp[zf'];rfl) (RL.g (by simp;rfl) (RL.o (by simp;rfl) (RL.g (by simp;rfl) (RL.g (by simp;rfl) (RL.g (by simp;rfl) (RL.o (by simp;rfl) (RL.nil ⟨_,by simp;rfl,fin _ ?_⟩)))))))))))))
    simp[eO']
   ·have zf':(fl == 0)=false:=beq_false_of_ne zf
    have eO':ok=false:=by rw[eO];simp[zf]
    refine WL.sregC (RL.o (by simp;rfl) (RL.g (by simp;rfl) (RL.callN (by simp) (RL.o (by simp;rfl) (RL.g (by simp;rfl) (RL.g (by simp[zf'];rfl) (RL.g (by simp;rfl) (RL.o (by simp;rfl) (RL.g (by simp;rfl) (RL.g (by simp;rfl) (RL.g (by simp;rfl) (RL.o (by simp;rfl) (RL.nil ⟨_,by simp;rfl,fin _ ?_⟩)))))))))))))
    simp[eO']
  ·have z11':(code == 11)=false:=beq_false_of_ne z11
   by_cases z10:code=10
   ·subst z10
    have eO':ok=tn:=by rw[eO];simp
    subst eO'
    refine WL.sregC (RL.o (by simp;rfl) (RL.g (by simp;rfl) (RL.callN (by simp) (RL.o (by simp;rfl) (RL.g (by simp;rfl) (RL.g (by simp;rfl) (RL.g (by simp;rfl) (RL.o (by simp;rfl) (RL.g (by simp;rfl) (RL.g (by simp;rfl) (RL.g (by simp;rfl) (RL.o (by simp;rfl) (RL.nil ⟨_,by simp;rfl,fin _ ?_⟩)))))))))))))
    simp
   ·have z10':(code == 10)=false:=beq_false_of_ne z10
    have eO':ok=false:=by rw[eO];simp[z0,z11,z10]
    refine WL.sregC (RL.o (by simp[z0'];rfl) (RL.g (by simp;rfl) (RL.callN (by simp) (RL.o (by simp;rfl) (RL.g (by simp[z11'];rfl) (RL.g (by simp;rfl) (RL.g (by simp;rfl) (RL.o (by simp;rfl) (RL.g (by simp[z10'];rfl) (RL.g (by simp;rfl) (RL.g (by simp;rfl) (RL.o (by simp;rfl) (RL.nil ⟨_,by simp;rfl,fin _ ?_⟩)))))))))))))
    simp[eO']
set_option maxHeartbeats 16000000 in
theorem z34 (l:List Ev)(hE:EvOk l)(p c:Int)(im:List (List UInt8))(hn:im.length≤9223372036854775807)(hb:∀ b ∈ im,b.length≤1000000):FnC Try.prog 69 [] [sEv l,i64 p,i64 c,sUU false im] [] (i64 (z2f l p c im)):=by
 have hc:=ykd l hE p c
 refine FnC.go yzg rfl ?_
 refine WL.mono (Q':=wcQ (z2f l p c im)) ?_ fun e L h=>⟨.inr h.1,h.2⟩
 refine WL.sreg (by simp;rfl) (by simp;rfl) ?_
 refine WL.seq (WL.sregC (RL.o (by simp;rfl) (RL.call0 false hc (by simp) (by simp) ?_)))
 by_cases h0:z5m l p c=0
 ·have z:(z5m l p c != 0)=false:=by simp[h0]
  by_cases hl:(im.length:Int)=p
  ·have zl:((im.length:Int) != p)=false:=by simp[hl]
   have hp48:p≤48:=by
    have hb:=(z4v z36 () h0).1
    simp only[z0q,Bool.or_eq_false_iff,decide_eq_false_iff_not] at hb
    omega
   have eW:z2f l p c im=match z64 l p c im with | some q=>(q:Int)+1 | none=>0:=by unfold z2f;rw[if_neg (by simp[h0,hl])]
   rw[eW]
   clear eW
   refine RL.o (by simp[z];rfl) (RL.g (by simp[zl];rfl) (RL.o (by simp;rfl) (RL.nil ⟨_,by simp;rfl,?_⟩)))
   refine WL.cond (t:=false) (by simp) (by simp) fun _=>WL.skip ?_
   refine WL.seq (WL.sreg (by simp;rfl) (by simp;rfl) ?_)
   refine WL.block (WL.count im.length (fun i=>wcS l p c im i [] []) (fun i=>∀ j,j < i→okP l p c j (im.getD j [])=true) (by simp) (fun j h=>absurd h (Nat.not_lt_zero _)) fun i hi hp=>?_)
   by_cases h:i < im.length
   ·have w:IntKind.wrap .i64 ((i:Int)+1)=((i+1:Nat):Int):=by rw[z01 (by omega) (by omega)];omega
    have w2:IntKind.wrap .i64 ((i:Int)+1)=(i:Int)+1:=by rw[z01 (by omega) (by omega)]
    have eg:im.getD i []=im[i]:=by simp[h]
    refine WL.sreg (by simp[h];rfl) (by simp;rfl) ?_
    refine WL.seq (WL.cond (t:=true) (by simp[h]) (fun _=>WL.skip ?_) (by simp))
    refine WL.seq (WL.block (WL.sreg (by simp[h];rfl) (by simp;rfl) ?_))
    refine WL.eqL (L':=wcS l p c im i [(900,0,i64 i),(1000,0,sU false im[i])] []) (by simp) (zlu l hE p c h0 hp48 im i h (by omega) (hb _ (List.getElem_mem h)) _ fun L hL=>?_)
    subst hL
    cases ho:okP l p c i im[i] with
    | true =>
     refine WL.cond (t:=false) (by simp[ho]) (by simp) fun _=>WL.skip ?_
     refine WL.reg (RL.run (by simp[w];rfl) ⟨_,by simp;rfl,h,by simp,fun j hj=>?_⟩)
     by_cases e:j=i
     ·subst e;rw[eg];exact ho
     ·exact hp j (by omega)
    | false =>
     have hf:z64 l p c im=some i:=by
      unfold z64
      rw[List.find?_range_eq_some]
      exact⟨by rw[eg,ho];rfl,List.mem_range.2 h,fun j hj=>by rw[hp j hj];rfl⟩
     refine WL.cond (t:=true) (by simp[ho]) (fun _=>?_) (by simp)
     refine WL.sreg (by simp[w2];rfl) (by simp;rfl) (WL.ret ⟨rfl,?_⟩)
     simp[zt2,hf]
   ·obtain rfl:i=im.length:=by omega
    have hf:z64 l p c im=none:=by
     unfold z64
     rw[List.find?_eq_none]
     intro j hj
     rw[hp j (List.mem_range.1 hj)];simp
    rw[hf]
    refine WL.sreg (by simp;rfl) (by simp;rfl) ?_
    refine WL.seq (WL.cond (t:=false) (by simp) (by simp) fun _=>WL.exit ?_)
    refine WL.sreg (by simp;rfl) (by simp;rfl) (WL.ret ⟨rfl,?_⟩)
    simp[zt2]
  ·have zl:((im.length:Int) != p)=true:=by simp[hl]
   have eW:z2f l p c im=-1:=by unfold z2f;rw[if_pos (.inr hl)]
   refine RL.o (by simp[z];rfl) (RL.g (by simp[zl];rfl) (RL.o (by simp;rfl) (RL.nil ⟨_,by simp;rfl,?_⟩)))
   refine WL.cond (t:=true) (by simp[hl]) (fun _=>?_) (by simp)
   refine WL.sreg (by simp;rfl) (by simp;rfl) (WL.ret ⟨rfl,?_⟩)
   simp[zt2,eW]
 ·have z:(z5m l p c != 0)=true:=by simp[h0]
  have eW:z2f l p c im=-1:=by unfold z2f;rw[if_pos (.inl h0)]
  refine RL.o (by simp[z];rfl) (RL.g (by simp;rfl) (RL.o (by simp;rfl) (RL.nil ⟨_,by simp;rfl,?_⟩)))
  refine WL.cond (t:=true) (by simp) (fun _=>?_) (by simp)
  refine WL.sreg (by simp;rfl) (by simp;rfl) (WL.ret ⟨rfl,?_⟩)
  simp[zt2,eW]
end Go.OT
namespace Go.OT
open Go.Proofs
end Go.OT
namespace Go.OT
open Go.Proofs
end Go.OT
namespace Go.OT
open Go.Proofs
end Go.OT
namespace Go.OT
open Go.Proofs
end Go.OT
namespace Go.OT
open Go.Proofs
end Go.OT
namespace Go.OT
open Go.Proofs
end Go.OT
namespace Go.OT
open Go.Proofs
abbrev wvA:Ev:=⟨0,⟨1,0,0,0,0,[]⟩,⟨0,0,0,[]⟩,1,2,3⟩
abbrev wvB:Ev:=⟨0,⟨6,0,0,0,0,[]⟩,⟨0,0,0,[]⟩,4,5,6⟩
abbrev ywr:List UInt8:=[48,49,50,51,52,53,54,55,56,57,97,98,99,100,101,102]
def wz:List UInt8:=(z4e 0 z16).1
def wy:List UInt8:=(z4e 0 ywr).1
def wt:List UInt8:=wz.set 20 9
theorem zqb:z4e 0 z16=(wz,0)∧wz.length=24:=⟨by kernel_rfl,by kernel_rfl⟩
theorem zqc:z4e 0 ywr=(wy,0)∧wy.length=24:=⟨by kernel_rfl,by kernel_rfl⟩
theorem y1f:z13 [wvA,wvB] 1 1 0=5:=by kernel_rfl
theorem y1g:z13 [wvA] 1 1 0=0:=by kernel_rfl
theorem y1h:z2f [wvA,wvB] 1 1 [wz]=0:=by kernel_rfl
theorem y1i:z2f [wvA,wvB] 1 1 [z24]=1:=by kernel_rfl
theorem y1j:z2f [wvA] 1 1 [z24]=0:=by kernel_rfl
theorem y1k:z2f [wvA,wvB] 1 1 [wy]=1:=by kernel_rfl
theorem y1l:z2f [wvA,wvB] 1 1 [wt]=1:=by kernel_rfl
theorem y1m:z2f [wvA] 1 1 [wt]=0:=by kernel_rfl
theorem y1n:z2f [wvB] 1 1 [wz]=-1:=by kernel_rfl
set_option maxRecDepth 20000 in
set_option maxHeartbeats 32000000 in
theorem z4w:FnC Try.prog 66 [] [] [] (bl true):=by
 have hz:=zid 0 z16 (by decide)
 have hy:=zid 0 ywr (by simp)
 rw[zqb.1] at hz
 rw[zqc.1] at hy
 have lz:=zqb.2
 have ly:=zqc.2
 have lt:wt.length=24:=by unfold wt;rw[List.length_set];exact lz
 have E2:EvOk [wvA,wvB]:=zil (by simp) (by simp)
 have EA:EvOk [wvA]:=zil (by simp) (by simp)
 have EB:EvOk [wvB]:=zil (by simp) (by simp)
 have h0:=zaa _ E2 1 1 0
 have h1:=zaa _ EA 1 1 0
 have h2:=z34 _ E2 1 1 [wz] (by simp) (by simp[lz])
 have h3:=z34 _ E2 1 1 [z24] (by simp) (by simp)
 have h4:=z34 _ EA 1 1 [z24] (by simp) (by simp)
 have h5:=z34 _ E2 1 1 [wy] (by simp) (by simp[ly])
 have h6:=z34 _ E2 1 1 [wt] (by simp) (by simp[lt])
 have h7:=z34 _ EA 1 1 [wt] (by simp) (by simp[lt])
 have h8:=z34 _ EB 1 1 [wz] (by simp) (by simp[lz])
 rw[y1f] at h0;rw[y1g] at h1;rw[y1h] at h2;rw[y1i] at h3;rw[y1j] at h4;rw[y1k] at h5;rw[y1l] at h6;rw[y1m] at h7;rw[y1n] at h8
 have eT:wt=wz.set 20 9:=rfl
 refine FnC.go yze rfl ?_
 refine WL.sreg (by simp;rfl) (by simp;rfl) ?_
 refine WL.sreg (by simp;rfl) (by simp;rfl) (WL.nil1 107 false 1 (by simp) (WL.nil1 111 false 1 (by simp) ?_))
 refine WL.sreg (by simp;rfl) (by simp;rfl) (WL.nil1 207 false 1 (by simp) (WL.nil1 211 false 1 (by simp) ?_))
 have tk16:List.take 16 (z16.map (fun b=>u8 (b.toNat:Int)))=z16.map (fun b=>u8 (b.toNat:Int)):=rfl
 refine WL.sregC (RL.o (by simp[yck];rfl) (RL.freeze 1500 (RL.call0 false hz (by simp[ycl]) (by simp) (RL.mv (by decide) (RL.o (by simp;rfl) (RL.nil ⟨_,by simp;rfl,?_⟩))))))
 refine WL.freeze 300 ?_
 refine WL.sregC (RL.o (by simp;rfl) (RL.freeze 2000 (RL.call0 false hy (by simp) (by simp) (RL.mv (by decide) (RL.o (by simp;rfl) (RL.nil ⟨_,by simp;rfl,?_⟩))))))
 refine WL.freeze 500 ?_
 refine WL.sreg (by simp;rfl) (by simp;rfl) ?_
 refine WL.freeze 700 ?_
 refine WL.sregC (RL.call0 false zed (by simp) (by simp) (RL.o (by simp;rfl) (RL.nil ⟨_,by simp;rfl,?_⟩)))
 refine WL.freeze 800 ?_
 have m1:wz.length≤140737488355328:=by omega
 have m2:wz.length≤maxLen:=by unfold maxLen;omega
 have hpz:(bm wz).all z1k=true:=by rw[List.all_eq_true];intro x hx;obtain ⟨b,_,rfl⟩:=List.mem_map.1 hx;rfl
 have tkz:List.take 24 (bm wz)=bm wz:=List.take_of_length_le (by simp[lz])
 obtain⟨b20,hb20⟩:∃ b:UInt8,(bm wz)[20]?=some (u8 b.toNat):=⟨wz[20],by rw[bm,List.getElem?_map,List.getElem?_eq_getElem (by omega)];rfl⟩
 have hb20':∀ hh,(bm wz)[20]'hh=u8 b20.toNat:=fun hh=>by rw[List.getElem?_eq_getElem hh] at hb20;exact Option.some.inj hb20
 refine WL.eqL (L':=[(300,0,sU false wz),(500,0,sU false wy),(700,0,sEv [wvA,wvB]),(800,0,sU false z24)]) (by simp) ?_
 refine WL.sreg (by simp[m1,m2,hpz,lz];rfl) (by simp;rfl) ?_
 refine WL.eqL (L':=[(300,0,sU false wz),(500,0,sU false wy),(700,0,sEv [wvA,wvB]),(800,0,sU false z24),(900,0,.sl true () 1 24 (bm wz))]) (by rw[tkz]) ?_
 have ebt:bm wt=(bm wz).set 20 (u8 9):=by rw[eT,bm,List.map_set];rfl
 refine WL.seq (WL.sreg (by simp;rfl) (by simp;rfl) ?_)
 refine WL.cond (t:=false) (by simp) (by simp) fun _=>WL.skip ?_
 refine WL.sreg (by simp[lz,hb20'];rfl) (by simp;rfl) ?_
 refine WL.eqL (L':=[(300,0,sU false wz),(500,0,sU false wy),(700,0,sEv [wvA,wvB]),(800,0,sU false z24),(900,0,.sl true () 1 24 (bm wt))]) (by rw[ebt]) ?_
 refine WL.freeze 900 ?_
 refine WL.eqL (L':=[(300,0,sU false wz),(500,0,sU false wy),(700,0,sEv [wvA,wvB]),(800,0,sU false z24),(900,0,sU false wt)]) (by simp[lt]) ?_
 clear hz hy eT hpz tkz hb20 hb20' ebt m1 m2 tk16
 generalize wz=z at *
 generalize wy=y at *
 generalize wt=v at *
 refine WL.sregC (RL.o (by simp;rfl) (RL.call0 false h0 (by simp) (by simp) (RL.o (by simp;rfl) ?_)))
 refine RL.g (by simp;rfl) (RL.callY0 false (by simp) h1 (by simp) (by simp) (RL.g (by simp;rfl) (RL.o (by simp;rfl) ?_)))
 refine RL.fin [37,38,39,40,41,42,43,44,45] (by simp;rfl) ?_
 refine RL.g (by simp;rfl) (RL.freeze 4900 (RL.callY0 false (by simp) h2 (by simp) (by simp) (RL.g (by simp;rfl) (RL.o (by simp;rfl) ?_))))
 refine RL.fin [46,47,48,49,50,51,52] (by simp;rfl) ?_
 refine RL.g (by simp;rfl) (RL.freeze 5600 (RL.callY0 false (by simp) h3 (by simp) (by simp) (RL.g (by simp;rfl) (RL.o (by simp;rfl) ?_))))
 refine RL.fin [53,54,55,56,57,58,59] (by simp;rfl) ?_
 refine RL.g (by simp;rfl) (RL.freeze 6400 (RL.callY0 false (by simp) h4 (by simp) (by simp) (RL.g (by simp;rfl) (RL.o (by simp;rfl) ?_))))
 refine RL.fin [60,61,62,63,64,65,66,67] (by simp;rfl) ?_
 refine RL.g (by simp;rfl) (RL.freeze 7100 (RL.callY0 false (by simp) h5 (by simp) (by simp) (RL.g (by simp;rfl) (RL.o (by simp;rfl) ?_))))
 refine RL.fin [68,69,70,71,72,73,74] (by simp;rfl) ?_
 refine RL.g (by simp;rfl) (RL.freeze 7800 (RL.callY0 false (by simp) h6 (by simp) (by simp) (RL.g (by simp;rfl) (RL.o (by simp;rfl) ?_))))
 refine RL.fin [75,76,77,78,79,80,81] (by simp;rfl) ?_
 refine RL.g (by simp;rfl) (RL.freeze 8600 (RL.callY0 false (by simp) h7 (by simp) (by simp) (RL.g (by simp;rfl) (RL.o (by simp;rfl) ?_))))
 refine RL.fin [82,83,84,85,86,87,88,89] (by simp;rfl) ?_
 refine RL.g (by simp;rfl) (RL.freeze 9400 (RL.callY0 false (by simp) h8 (by simp) (by simp) (RL.g (by simp;rfl) (RL.o (by simp;rfl) (RL.nil ⟨_,by simp;rfl,WL.ret ⟨.inr rfl,?_⟩⟩)))))
 simp[yxr]
end Go.OT
namespace Go.OT
open Go.Proofs
def zkb (l:List Cl)(i:Nat):Cl:=ze2 (l.getD i ⟨0,⟨0,0,0,0,0,[]⟩⟩) 5 3
def yxw (l:List Cl):Nat→St
 | 0=>z0p 5 3
 | i+1=>(DoB (yxw l i) (zkb l i).Client (zkb l i).op).2.1
theorem zqd (l:List Cl):∀ n,OkSt (yxw l n)
 | 0=>z2p (by kernel_rfl)
 | n+1=>(zqd l n).doB _ _
theorem zio (l:List Cl)(i:Nat):0≤(zkb l i).Client∧(zkb l i).Client < 3:=by
 have:=(z79 (l.getD i ⟨0,⟨0,0,0,0,0,[]⟩⟩).Client 3 (by decide) (by decide)).1
 simp only[zkb,ze2]
 exact⟨by omega,by omega⟩
theorem zqe (l:List Cl)(i:Nat):(zkb l i).op.Data.length≤8:=by
 simp only[zkb,ze2,List.length_take];omega
@[simp] theorem ymf (l:List Ev):z18 (l.flatMap (z02 false false))=l.flatMap (z02 false false):=by
 induction l with
 | nil=>rfl
 | cons e l ih =>
  rw[List.flatMap_cons,z4m,List.map_append,← z4m (l.flatMap _),ih]
  simp
abbrev hEv (l:List Ev):AU:=.sl true () 14 l.length (l.flatMap (z02 false false))
end Go.OT
