/- Part 10 of the proof: see its last file. -/
import Derived.Test.YtlcemfnjhdcmoaaWs09
set_option linter.unusedSimpArgs false
set_option linter.unusedVariables false
set_option maxHeartbeats 64000000
namespace Go.OT
open Go.Proofs
def zeh (k code:Int):Bool:=if code=8 then decide (k=1) || decide (k=2) else if code=9 then decide (k=1) || (decide (k=2) || (decide (k=6) || decide (k=7))) else if code=10 then decide (k=2) else false
theorem zq9 (q:Op)(code:Int):FnC Try.prog 37 [] [zsg false q,i64 code] [] (bl (zeh q.Kind code)):=by
 refine wc yy0 rfl ?_
 refine WL.sreg (by simp;rfl) (by simp;rfl) ?_
 refine WL.seq (WL.sreg (by simp;rfl) (by simp;rfl) ?_)
 refine WL.block ?_
 by_cases c8:code=8
 ·refine WL.sreg (by simp[c8];rfl) (by simp;rfl) (WL.cond (t:=true) (by simp) (fun _=>?_) (by simp))
  by_cases k1:q.Kind=1
  ·refine WL.sreg (by simp[k1];rfl) (by simp;rfl) (WL.ret ⟨.inr rfl,?_⟩)
   simp[zsp,zeh,c8,k1]
  ·refine WL.sreg (by simp[beq_false_of_ne k1];rfl) (by simp;rfl) (WL.ret ⟨.inr rfl,?_⟩)
   by_cases k2:q.Kind=2<;>simp [zsp,zeh,c8,k1,k2]
 refine WL.sreg (by simp[beq_false_of_ne c8];rfl) (by simp;rfl) (WL.cond (t:=false) (by simp[c8]) (by simp) fun _=>?_)
 by_cases c9:code=9
 ·refine WL.sreg (by simp[c9];rfl) (by simp;rfl) (WL.cond (t:=true) (by simp) (fun _=>?_) (by simp))
  by_cases k1:q.Kind=1
  ·refine WL.sreg (by simp[k1];rfl) (by simp;rfl) (WL.ret ⟨.inr rfl,?_⟩)
   simp[zsp,zeh,c9,k1]
  ·by_cases k2:q.Kind=2
   ·refine WL.sreg (by simp[beq_false_of_ne k1,k2];rfl) (by simp;rfl) (WL.ret ⟨.inr rfl,?_⟩)
    simp[zsp,zeh,c9,k1,k2]
   ·by_cases k6:q.Kind=6
    ·refine WL.sreg (by simp[beq_false_of_ne k1,beq_false_of_ne k2,k6];rfl) (by simp;rfl) (WL.ret ⟨.inr rfl,?_⟩)
     simp[zsp,zeh,c9,k1,k2,k6]
    ·refine WL.sreg (by simp[beq_false_of_ne k1,beq_false_of_ne k2,beq_false_of_ne k6];rfl) (by simp;rfl) (WL.ret ⟨.inr rfl,?_⟩)
     by_cases k7:q.Kind=7<;>simp [zsp,zeh,c9,k1,k2,k6,k7]
 refine WL.sreg (by simp[beq_false_of_ne c9];rfl) (by simp;rfl) (WL.cond (t:=false) (by simp[c9]) (by simp) fun _=>?_)
 by_cases c10:code=10
 ·refine WL.sreg (by simp[c10];rfl) (by simp;rfl) (WL.cond (t:=true) (by simp) (fun _=>?_) (by simp))
  refine WL.sreg (by simp;rfl) (by simp;rfl) (WL.ret ⟨.inr rfl,?_⟩)
  by_cases k2:q.Kind=2<;>simp [zsp,zeh,c10,k2]
 refine WL.sreg (by simp[beq_false_of_ne c10];rfl) (by simp;rfl) (WL.cond (t:=false) (by simp[c10]) (by simp) fun _=>WL.skip ?_)
 refine WL.sreg (by simp;rfl) (by simp;rfl) (WL.ret ⟨.inr rfl,?_⟩)
 simp[zsp,zeh,c8,c9,c10]
def z63 (l:List Ev)(i:Nat)(e:Ev):Bool:=decide (0 < i) && decide (e.Begin < (l.getD (i - 1) e).Begin)
def z87 (l:List Ev)(i:Nat)(c:Int)(e:Ev):Bool:=decide (e.Client < 0) || (decide (c≤e.Client) || (decide (e.Begin < 1) || (z63 l i e || decide (e.End < 0))))
def z3i (e:Ev):Bool:=(decide (0 < e.End) && (decide (e.Stamp < e.Begin) || decide (e.End < e.Stamp))) || (decide (e.End=0) && (decide (e.Stamp ≠ 0) && decide (e.Stamp < e.Begin)))
def z3t (e o:Ev):Bool:=decide (o.Client=e.Client) && (decide (o.End < 1) || decide (e.Begin≤o.End))
def z3z (l:List Ev)(i:Nat)(c:Int)(e:Ev):Bool:=!z87 l i c e && (!z3i e && !(l.take i).any (z3t e))
def z2a (l:List Ev)(i:Nat)(c:Int):Bool:=match l[i]? with
 | some e=>z3z l i c e
 | none=>true
theorem z88 {l:List Ev}{i:Nat}(h:i < l.length)(c:Int):z2a l i c=z3z l i c l[i]:=by
 simp[z2a,h]
abbrev bxE (b:Nat)(e:Ev):SL:=[(100 * b,0,.bptr b 1 0),(100 * b+1,0,i64 e.Client),(100 * b+2,0,i64 e.op.Kind),(100 * b+3,0,i64 e.op.Page),(100 * b+4,0,i64 e.op.Handle),(100 * b+5,0,i64 e.op.Off),(100 * b+6,0,i64 e.op.N),(100 * b+7,0,sU false e.op.Data),(100 * b+8,0,i64 e.res.Code),(100 * b+9,0,i64 e.res.Page),(100 * b+10,0,i64 e.res.Handle),(100 * b+11,0,sU false e.res.Data),(100 * b+12,0,i64 e.Begin),(100 * b+13,0,i64 e.Stamp),(100 * b+14,0,i64 e.End),(100 * b+99,1,.non)]
abbrev tmS (l:List Ev)(i:Nat)(r:SL):SL:=[(0,0,sEv l),(100,0,i64 i)] ++ r
abbrev tmQ (v:Bool):Ex→SL→Prop:=fun e L=>e=Ex.ret∧RetOk z4o.rs [] (bl v) L
theorem zta (o r:Bool)(l:List Ev)(i:Nat):(l.flatMap (z02 o r)).take (i * 14)=(l.take i).flatMap (z02 o r):=by
 induction l generalizing i with
 | nil=>simp
 | cons a l ih =>
  cases i with
  | zero=>simp
  | succ i =>
   rw[qw,List.take_append,pp (by simp;omega),List.take_succ_cons,qw]
   congr 1
   have:(i+1) * 14 - (z02 o r a).length=i * 14:=by simp;omega
   rw[this,ih]
theorem zei {α:Type}{p:α→Bool}{l:List α}{k:Nat}(h:k < l.length)(hp:(l.take k).any p=false)(hk:p l[k]=false):(l.take (k+1)).any p=false:=by
 rw[z6q h,List.any_append,hp]
 simp[hk]
theorem zqa {α:Type}{p:α→Bool}{l:List α}{k:Nat}(h:k < l.length)(hk:p l[k]=true):l.any p=true:=List.any_eq_true.2 ⟨_,qb h,hk⟩
abbrev tmT (m:List Ev)(e:Ev)(k:Nat):SL:=bxE 7 e ++ [(8500,0,sEv m),(8600,0,i64 m.length),(8700,0,i64 k)]
theorem zm0 (l:List Ev)(hn:l.length≤1000)(i:Nat)(hi:i < l.length)(e:Ev):WL Try.prog z4o.nt zbi (tmS l i (bxE 7 e ++ [(6700,0,bl false)])) (tmQ (!(l.take i).any (z3t e))):=by
 have hlen:=z27 false false l
 have htk:=zta false false l i
 have hmi:min i l.length=i:=by omega
 obtain⟨m,hm⟩:∃ m,m=l.take i:=⟨_,rfl⟩
 have hml:m.length=i:=by rw[hm,s7];omega
 refine WL.seq (WL.label ?_)
 refine WL.seq (WL.sreg (by simp[hi,Nat.le_of_lt hi,htk];rfl) (by simp;rfl) ?_)
 rw[← hm]
 refine WL.block (we m.length (fun k=>tmT m e k) (fun k=>(m.take k).any (z3t e)=false) (by simp[hml]) (by simp) fun k hk hp=>?_)
 by_cases hlt:k < m.length
 ·have f1:=z1r (o:=false) (r:=false) hlt
  have g1:14≤m.length * 14 - k * 14:=by omega
  have w:IntKind.wrap .i64 ((k:Int)+1)=((k+1:Nat):Int):=by rw[z01 (by omega) (by omega)];omega
  refine WL.sreg (by simp[hlt];rfl) (by simp;rfl) ?_
  refine WL.seq (WL.cond (t:=true) (by simp[hlt]) (fun _=>WL.skip ?_) (by simp))
  refine WL.seq (WL.block (WL.sreg (by simp[hlt,f1,g1];rfl) (by simp;rfl) ?_))
  have next:∀ (h:z3t e m[k]=false),WL Try.prog z4o.nt zp5 (tmT m e k) (wg (fun L'=>k < m.length∧L'=tmT m e (k+1)∧(m.take (k+1)).any (z3t e)=false) (wj 1 (wg (fun L'=>WL Try.prog z4o.nt zp6 L' (tmQ (!m.any (z3t e)))) (tmQ (!m.any (z3t e)))))):=fun h=>by
   refine WL.reg (RL.run (by simp[w];rfl) ⟨_,by simp;rfl,hlt,?_,zei hlt hp h⟩)
   simp
  have stop:∀ (h:z3t e m[k]=true) (L:SL),L=tmT m e k ++ [(10500,0,bl true)]→WL Try.prog z4o.nt zul (tmT m e k ++ [(10500,0,bl true)]) (tmQ (!m.any (z3t e))):=fun h L _=>by
   rw[zqa hlt h]
   refine WL.sreg (by simp;rfl) (by simp;rfl) (WL.ret ⟨rfl,?_⟩)
   simp[z4o]
  generalize ho:m[k]=o at next stop ⊢
  by_cases c1:o.Client=e.Client
  ·have c1':(o.Client != e.Client)=false:=by simp[c1]
   refine WL.seq (WL.sreg (by simp[c1'];rfl) (by simp;rfl) ?_)
   refine WL.cond (t:=false) (by simp) (by simp) fun _=>WL.skip ?_
   by_cases c2:o.End < 1
   ·refine WL.sreg (by simp[c2];rfl) (by simp;rfl) ?_
    refine WL.cond (t:=true) (by simp) (fun _=>?_) (by simp)
    refine WL.mono (Q':=tmQ (!m.any (z3t e))) ?_ fun x L h=>?_
    ·exact stop (by simp[z3t,c1,c2]) _ rfl
    ·obtain⟨rfl,h⟩:=h;exact⟨rfl,h⟩
   ·by_cases c3:e.Begin≤o.End
    ·refine WL.sreg (by simp[c2,c3];rfl) (by simp;rfl) ?_
     refine WL.cond (t:=true) (by simp) (fun _=>?_) (by simp)
     refine WL.mono (Q':=tmQ (!m.any (z3t e))) ?_ fun x L h=>?_
     ·exact stop (by simp[z3t,c1,c2,c3]) _ rfl
     ·obtain⟨rfl,h⟩:=h;exact⟨rfl,h⟩
    ·refine WL.sreg (by simp[c2,c3];rfl) (by simp;rfl) ?_
     refine WL.cond (t:=false) (by simp) (by simp) fun _=>WL.skip ?_
     have:=next (by simp[z3t,c1,c2,c3])
     refine WL.fin [105] (by simp;rfl) ?_
     exact this
  ·have c1':(o.Client != e.Client)=true:=by simp[c1]
   refine WL.seq (WL.sreg (by simp[c1'];rfl) (by simp;rfl) ?_)
   refine WL.cond (t:=true) (by simp) (fun _=>WL.exit ?_) (by simp)
   have:=next (by simp[z3t,c1])
   refine WL.fin [9,95] (by simp;rfl) ?_
   exact this
 ·obtain rfl:k=m.length:=by omega
  rw[List.take_length] at hp
  refine WL.sreg (by simp;rfl) (by simp;rfl) ?_
  refine WL.seq (WL.cond (t:=false) (by simp) (by simp) fun _=>WL.exit ?_)
  rw[hp]
  refine WL.sreg (by simp;rfl) (by simp;rfl) (WL.ret ⟨rfl,?_⟩)
  simp[z4o]
def za7 (r:Rs):Bool:=decide (r.Page=0) && (decide (r.Handle=0) && decide (r.Data=[]))
def z1g (s:St)(e:Ev):Bool × St :=
 if (decide (0 < e.End) && zeh e.op.Kind e.res.Code)=true then (za7 e.res,s) else (decide (e.End=0) || z1z (DoB s e.Client e.op).2.2 e.res,(DoB s e.Client e.op).2.1)
def z1u (s:St)(e:Ev):Option St :=
 if (decide (e.End=0) || z1z (DoB s e.Client e.op).2.2 e.res)=true then some (DoB s e.Client e.op).2.1
 else if (!zeh e.op.Kind e.res.Code || !z1z e.res (rsE e.res.Code))=true then none else some s
theorem zqb (s:St)(c:Nat)(q:Op):(z4m s c q).2.Code=0:=by
 simp only[z4m]
 repeat' split
 all_goals rfl
theorem zqc (s:St)(l:List Int)(q:Op):0≤z06 s l q∧z06 s l q≤7:=by
 simp only[z06]
 repeat' split
 all_goals decide
theorem zkd (s:St)(cl:Int)(q:Op):0≤(DoB s cl q).2.2.Code∧(DoB s cl q).2.2.Code≤7:=by
 unfold DoB
 split
 ·simp[rsE]
 ·split
  ·rw[zqb];exact⟨by decide,by decide⟩
  ·exact zqc _ _ _
theorem zgw {k c:Int}(h:zeh k c=true):8≤c:=by
 unfold zeh at h
 split at h
 ·omega
 ·split at h
  ·omega
  ·split at h
   ·omega
   ·cases h
theorem zke (s:St)(e:Ev)(h0:0≤e.End):z1u s e=if (z1g s e).1=true then some (z1g s e).2 else none:=by
 have hc:=zkd s e.Client e.op
 unfold z1u z1g
 by_cases p0:e.End=0
 ·have p1:¬ (0 < e.End):=by omega
  simp[p0]
 ·have p1:0 < e.End:=by omega
  cases hb:zeh e.op.Kind e.res.Code with
  | true =>
   have h8:=zgw hb
   have hs:z1z (DoB s e.Client e.op).2.2 e.res=false:=by
    have:((DoB s e.Client e.op).2.2.Code == e.res.Code)=false:=beq_false_of_ne (by omega)
    simp[z1z,this]
   have hp:z1z e.res (rsE e.res.Code)=za7 e.res:=by
    simp[z1z,za7,rsE]
    by_cases z1:e.res.Page=0<;>by_cases z2:e.res.Handle=0<;>by_cases z3:e.res.Data=[]<;>simp [z1,z2,z3]
   simp only[hs,hp,p0,p1,decide_true,decide_false,Bool.or_false,Bool.not_true,b8,Bool.true_and,if_true]
   cases za7 e.res<;>simp
  | false =>
   simp only[p0,p1,decide_true,decide_false,Bool.and_false,Bool.not_false,Bool.true_or,b8,if_true,pu,if_false]
def atE (l:List Ev)(x:Int):Ev:=(l[x.toNat]?).getD ⟨0,⟨0,0,0,0,0,[]⟩,⟨0,0,0,[]⟩,0,0,0⟩
theorem z59 {l:List Ev}{i:Nat}(h:i < l.length):atE l (i:Int)=l[i]:=by simp[atE,h]
def goW {σ:Type}(l:List Ev)(see:σ→Int→St→σ):St→σ→List Int→Int × St × σ
 | s,a,[]=>(0,s,a)
 | s,a,x :: r=>if (z1g s (atE l x)).1=true then goW l see (z1g s (atE l x)).2 (see a x (z1g s (atE l x)).2) r else (x+1,s,a)
theorem zej {σ τ:Type}(l:List Ev)(f:σ→Int→St→σ)(g:τ→Int→St→τ):∀ (o:List Int) (s:St) (a:σ) (b:τ),(goW l f s a o).1=(goW l g s b o).1∧(goW l f s a o).2.1=(goW l g s b o).2.1
 | [],s,a,b=>⟨rfl,rfl⟩
 | x :: r,s,a,b=>by
  simp only[goW]
  split
  ·exact zej l f g r _ _ _
  ·exact⟨rfl,rfl⟩
theorem zkf (l:List Ev):∀ (o:List Int) (s:St),(goW l (fun _ _ t=>t) s s o).2.2=(goW l (fun _ _ t=>t) s s o).2.1
 | [],s=>rfl
 | x :: r,s=>by
  simp only[goW]
  split
  ·exact zkf l r _
  ·rfl
def z4w (l:List Ev)(c:Int):Option Nat:=(List.range l.length).find? fun i=>!z2a l i c
theorem z5l {l:List Ev}{c:Int}{i:Nat}(hi:i < l.length)(h:∀ j,j < i→z2a l j c=true)(hb:z2a l i c=false):z4w l c=some i:=by
 unfold z4w
 rw[List.find?_range_eq_some]
 exact⟨by simp[hb],ql.2 hi,fun j hj=>by simp[h j hj]⟩
theorem z34 {l:List Ev}{c:Int}(h:∀ j,j < l.length→z2a l j c=true):z4w l c=none:=by
 unfold z4w
 rw[List.find?_eq_none]
 intro j hj
 simp[h j (ql.1 hj)]
theorem zgx {l:List Ev}{c:Int}(h:z4w l c=none):∀ j,j < l.length→z2a l j c=true:=by
 unfold z4w at h
 rw[List.find?_eq_none] at h
 intro j hj
 simpa using h j (ql.2 hj)
def z18 {σ:Type}(see:σ→Int→St→σ)(a:σ)(l:List Ev)(p c:Int):Int × St × σ :=
 if z0v p c=true then (-1,z1c p c,a) else match z4w l c with
  | some i=>(i+1,z1c p c,a)
  | none=>goW l see (z1c p c) a (z1t l)
def z8y:Unit→Int→St→Unit:=fun _ _ _=>()
def za8 (l:List Ev)(p c:Int):Int:=(z18 z8y () l p c).1
def zhb (l:List Ev)(p c:Int):St × Bool:=if za8 l p c=0 then ((z18 z8y () l p c).2.1,true) else (⟨[],[],[]⟩,false)
theorem z5a {σ:Type}(see:σ→Int→St→σ)(a:σ)(l:List Ev)(p c:Int):(z18 see a l p c).1=za8 l p c:=by
 unfold za8 z18
 split
 ·rfl
 ·split
  ·rfl
  ·exact (zej l see z8y _ _ a ()).1
theorem zm1 (l:List Ev)(p c:Int):(z18 (fun _ _ t=>t) (z1c p c) l p c).2.2=(z18 z8y () l p c).2.1:=by
 unfold z18
 split
 ·rfl
 ·split
  ·rfl
  ·rw[zkf];exact (zej l _ z8y _ _ _ ()).2
theorem z6i {s:St}(h:OkSt s)(e:Ev):OkSt (z1g s e).2:=by
 unfold z1g
 split
 ·exact h
 ·exact h.doB _ _
structure EvOk (l:List Ev):Prop where
 n:l.length≤1000
 d:∀ e ∈ l,e.op.Data.length≤1000
@[simp] theorem ykp (L:SL) (d:Nat) (c:COd):z61 L (.asg d c)=true:=rfl
theorem zqd (key:Int→Int)(x:Int):∀ (l:List Int) (k:Nat),k≤l.length→(∀ j (h:j < l.length),j < k→¬ key x < key l[j])→(∀ (h:k < l.length),key x < key l[k])→zh9 key x l=l.take k ++ x :: l.drop k
 | [],k,hk,_,_=>by simp[zh9]
 | y :: r,0,_,_,h2=>by
  have:=h2 (by simp)
  simp only[List.getElem_cons_zero] at this
  simp[zh9,this]
 | y :: r,k+1,hk,h1,h2=>by
  have:=h1 0 (by simp) (by omega)
  simp only[List.getElem_cons_zero] at this
  have ih:=zqd key x r k (by simpa using hk) (fun j hj hjk=>by have:=h1 (j+1) (by simpa using hj) (by omega);simpa using this) (fun h=>by have:=h2 (by simpa using h);simpa using this)
  simp[zh9,this,ih]
abbrev yvt (l:List Ev)(i:Nat)(r:SL):SL:=[(0,0,sEv l),(300,0,sI true (za0 (z9a l) (z9m l i))),(400,0,i64 i)] ++ r
theorem zio {key:Int→Int}{O:List Int}(h:O.Pairwise (lexLt key)){j k:Nat}(hj:j≤k)(hk:k < O.length):key O[j]≤key O[k]:=by
 by_cases e:j=k
 ·subst e;exact Int.le_refl _
 ·have:=List.pairwise_iff_getElem.1 h j k (by omega) hk (by omega)
  unfold lexLt at this;omega
theorem ziq (l:List Ev)(hn:l.length≤1000)(i:Nat)(hi:i < l.length)(hs:0 < l[i].Stamp)(Q:Ex→SL→Prop)(hq:Q .nrm [(0,0,sEv l),(300,0,sI true (za0 (z9a l) (z9m l (i+1)))),(400,0,i64 i)]) :
  WL Try.prog yms.nt yd7 (yvt l i [(1800,0,bl false)]) Q:=by
 obtain⟨sp1,sp2⟩:=z4f (z9a l) (z85 l i)
 have hnx:za0 (z9a l) (z9m l (i+1))=zh9 (z9a l) i (za0 (z9a l) (z9m l i)):=by
  rw[zbq,show (l.map (·.Stamp)).getD i 0=l[i].Stamp by simp[hi],if_pos hs,zpe]
 have hOl:(za0 (z9a l) (z9m l i)).length≤i:=by rw[sp1.length_eq];exact za4 l i
 have hmem:∀ j (h:j < (za0 (z9a l) (z9m l i)).length),∃ u:Nat,u < l.length∧(za0 (z9a l) (z9m l i))[j]=(u:Int):=fun j h=>by
  obtain⟨u,h1,h2,_⟩:=za3 (sp1.subset (qb h))
  exact⟨u,by omega,h2⟩
 have hki:z9a l (i:Int)=l[i].Stamp:=zef hi
 have f1:=z1r (o:=false) (r:=false) hi
 have g1:14≤l.length * 14 - i * 14:=by omega
 unfold yvt
 rw[hnx] at hq
 generalize za0 (z9a l) (z9m l i)=O at sp1 sp2 hOl hmem hq ⊢
 refine WL.sreg (by simp;rfl) (by simp;rfl) ?_
 refine WL.seq (WL.block (WL.loop (ι:={k:Nat // k≤O.length∧∀ j (h:j < O.length),k≤j→l[i].Stamp < z9a l O[j]}) (fun k=>[(0,0,sEv l),(300,0,sI true O),(400,0,i64 i),(500,0,i64 k.1)]) (fun k=>k.1) ⟨O.length,pr _,fun j h h'=>by omega⟩ (by simp) fun x=>?_))
 obtain⟨k,hk,hgt⟩:=x
 simp only
 have fin:(∀ j (h:j < O.length),j < k→¬ l[i].Stamp < z9a l O[j])→WL Try.prog yms.nt yd6 [(0,0,sEv l),(300,0,sI true O),(400,0,i64 i),(500,0,i64 k)] Q:=fun hle=>by
  rw[zqd (z9a l) i O k hk (fun j h h'=>by rw[hki];exact hle j h h') (fun h=>by rw[hki];exact hgt k h (pr _))] at hq
  have e1:min k O.length=k:=by omega
  have m1:k * 8≤140737488355328:=by omega
  have m2:k≤maxLen:=by unfold maxLen;omega
  have m3:(k+1) * 8≤140737488355328:=by omega
  have m4:k+1≤maxLen:=by unfold maxLen;omega
  have e2:k+1+(O.length - k)=O.length+1:=by omega
  have m5:(O.length+1) * 8≤140737488355328:=by omega
  have m6:O.length+1≤maxLen:=by unfold maxLen;omega
  have p1:(List.take k (List.map i64 O)).all z1b=true:=qe.2 fun x hx=>by
   obtain⟨y,_,rfl⟩:=sg.1 (t6 hx)
   rfl
  have p2:(List.take (O.length - k) (List.drop k (List.map i64 O))).all z1b=true:=qe.2 fun x hx=>by
   obtain⟨y,_,rfl⟩:=sg.1 (List.mem_of_mem_drop (t6 hx))
   rfl
  refine WL.sreg (by simp[hk,e1,m1,m2,p1];rfl) (by simp;rfl) ?_
  refine WL.draw z0t (by simp[z0b,noH]) (DL.run (by simp[hk,e1,e2,m1,m2,m3,m4,m5,m6,p1,p2];exact⟨rfl,rfl⟩) ⟨by kernel_rfl,_,by simp;rfl,?_⟩)
  have e3:List.take k (List.map i64 O)=(O.take k).map i64:=List.map_take.symm
  have e4:List.take (O.length - k) (List.drop k (List.map i64 O))=(O.drop k).map i64:=by rw[← List.map_drop,pp (by simp)]
  have e5:(List.take k O ++ (i:Int) :: List.drop k O).length=O.length+1:=by simp;omega
  have e6:List.take k (List.take k (List.take k (List.map i64 O)))=(O.take k).map i64:=by rw[List.take_take,List.take_take,Nat.min_self,Nat.min_self,e3]
  have eL:List.take (O.length+1) (List.take (k+1) (List.take k (List.take k (List.take k (List.map i64 O))) ++ [AV.sc (Value.int IntKind.i64 ↑i)]) ++ List.take (O.length - k) (List.drop k (List.map i64 O)))=(List.take k O ++ (i:Int) :: List.drop k O).map i64:=by
   rw[e6,e4,pp (l:=List.map i64 (List.take k O) ++ _) (by simp;omega),pp (by simp;omega)]
   simp
  rw[eL,← e5]
  exact hq
 by_cases hk0:0 < k
 ·obtain⟨p,hp⟩:∃ p,p=k - 1:=⟨_,rfl⟩
  have w:IntKind.wrap .i64 ((k:Int) - 1)=(p:Int):=by rw[z01 (by omega) (by omega)];omega
  have hpl:p < O.length:=by omega
  have hpl':p+1≤O.length:=hpl
  obtain⟨u,hu,eu⟩:=hmem p hpl
  have f2:=z1r (o:=false) (r:=false) hu
  have g2:14≤l.length * 14 - u * 14:=by omega
  have hku:z9a l O[p]=l[u].Stamp:=by rw[eu];exact zef hu
  refine WL.seq (WL.seq ?_)
  by_cases hc:l[i].Stamp < l[u].Stamp
  ·refine WL.draw z0t (by simp[z0b,noH]) (DL.run (by simp[hk0,w,hpl,hpl',eu,hu,hi,f1,f2,g1,g2,hc];exact⟨rfl,rfl⟩) ⟨by kernel_rfl,_,by simp;rfl,?_⟩)
   refine WL.cond (t:=true) (by simp) (fun _=>WL.skip ?_) (by simp)
   refine WL.block (WL.reg (RL.run (by simp[w];rfl) ⟨_,by simp;rfl,?_⟩))
   refine⟨⟨p,by omega,fun j h h'=>?_⟩,by simp,by simp only;omega⟩
   by_cases e:j=p
   ·subst e;rw[hku];exact hc
   ·exact hgt j h (by omega)
  ·refine WL.draw z0t (by simp[z0b,noH]) (DL.run (by simp[hk0,w,hpl,hpl',eu,hu,hi,f1,f2,g1,g2,hc];exact⟨rfl,rfl⟩) ⟨by kernel_rfl,_,by simp;rfl,?_⟩)
   refine WL.cond (t:=false) (by simp) (by simp) fun _=>WL.exit ?_
   refine WL.fin [39] (by simp;rfl) ?_
   refine fin fun j h h'=>?_
   have:=zio sp2 (j:=j) (k:=p) (by omega) hpl
   rw[hku] at this
   omega
 ·obtain rfl:k=0:=by omega
  refine WL.seq (WL.seq ?_)
  refine WL.draw z0t (by simp[z0b,noH]) (DL.run (by simp;exact⟨rfl,rfl⟩) ⟨by kernel_rfl,_,by simp;rfl,?_⟩)
  refine WL.cond (t:=false) (by simp) (by simp) fun _=>WL.exit ?_
  refine WL.fin [39] (by simp;rfl) ?_
  exact fin fun j h h'=>by omega
theorem zir (l:List Ev)(hn:l.length≤1000):FnC Try.prog 34 [] [sEv l] [] (sI true (z1t l)):=by
 refine wc yxz rfl ?_
 refine WL.sreg (by simp;rfl) (by simp;rfl) ?_
 refine WL.sreg (by simp;rfl) (by simp;rfl) ?_
 refine WL.seq (WL.sreg (by simp;rfl) (by simp;rfl) ?_)
 refine WL.block (we l.length (fun i=>yvt l i []) (fun _=>True) (by simp[z9m,za0]) trivial fun i hi _=>?_)
 by_cases hlt:i < l.length
 ·have f1:=z1r (o:=false) (r:=false) hlt
  have g1:14≤l.length * 14 - i * 14:=by omega
  have w:IntKind.wrap .i64 ((i:Int)+1)=((i+1:Nat):Int):=by rw[z01 (by omega) (by omega)];omega
  refine WL.seq (WL.sreg (by simp[hlt];rfl) (by simp;rfl) ?_)
  refine WL.cond (t:=true) (by simp[hlt]) (fun _=>WL.skip ?_) (by simp)
  by_cases hs:l[i].Stamp≤0
  ·have hps:=zbq l i
   rw[show (l.map (·.Stamp)).getD i 0=l[i].Stamp by simp[hlt],if_neg (by omega),List.append_nil] at hps
   refine WL.seq (WL.block (WL.seq (WL.sreg (by simp[hlt,f1,g1,hs];rfl) (by simp;rfl) ?_)))
   refine WL.cond (t:=true) (by simp) (fun _=>WL.exit ?_) (by simp)
   refine WL.fin [18] (by simp;rfl) ?_
   refine WL.reg (RL.run (by simp[w];rfl) ⟨_,by simp;rfl,hlt,?_,trivial⟩)
   simp[hps]
  ·refine WL.seq (WL.block (WL.seq (WL.sreg (by simp[hlt,f1,g1,hs];rfl) (by simp;rfl) ?_)))
   refine WL.cond (t:=false) (by simp) (by simp) fun _=>WL.skip ?_
   refine ziq l hn i hlt (by omega) _ ?_
   refine WL.reg (RL.run (by simp[w];rfl) ⟨_,by simp;rfl,hlt,?_,trivial⟩)
   simp
 ·obtain rfl:i=l.length:=by omega
  refine WL.seq (WL.sreg (by simp;rfl) (by simp;rfl) ?_)
  refine WL.cond (t:=false) (by simp) (by simp) fun _=>WL.exit ?_
  refine w7 (n6 (by decide) (RL.o (by simp;rfl) (RL.nil ⟨_,by simp;rfl,WL.ret ⟨.inr rfl,?_⟩⟩)))
  simp[yms,z1t,y3a]
theorem z3u {p c:Int}(h:z0v p c=false):OkSt (z1c p c):=by
 have hb':=h
 simp only[z0v,qx,decide_eq_false_iff_not] at hb'
 obtain⟨n,rfl⟩:=pt (a:=p) (by omega)
 obtain⟨m,rfl⟩:=pt (a:=c) (by omega)
 exact zt4 (by omega) (by omega) (by omega) (by omega)
theorem zek {l:List Ev}{j:Nat}(h:j < (z1t l).length):∃ u:Nat,∃ hu:u < l.length,(z1t l)[j]=(u:Int):=by
 obtain⟨u,h1,h2,_⟩:=zt5 (qb h)
 exact⟨u,h1,h2⟩
theorem zm2 (l:List Ev)(i:Nat)(e:Ev)(v:Bool)(hs:z3i e=true→v=false)(hl:z3i e=false→WL Try.prog z4o.nt zbi (tmS l i (bxE 7 e ++ [(6700,0,bl false)])) (tmQ v)) :
  WL Try.prog z4o.nt zp4 (tmS l i (bxE 7 e ++ [(1400,0,bl false)])) (wj 0 (wg (fun L'=>WL Try.prog z4o.nt zbi L' (tmQ v)) (tmQ v))):=by
 by_cases p1:0 < e.End
 ·have z:(e.End == 0)=false:=beq_false_of_ne (by omega)
  by_cases p2:e.Stamp < e.Begin
  ·have hv:=hs (by simp[z3i,p1,p2])
   refine WL.sreg (by simp[p1,p2];rfl) (by simp;rfl) ?_
   refine WL.cond (t:=true) (by simp) (fun _=>?_) (by simp)
   refine WL.sreg (by simp;rfl) (by simp;rfl) (WL.ret ⟨rfl,?_⟩)
   simp[z4o,hv]
  ·by_cases p3:e.End < e.Stamp
   ·have hv:=hs (by simp[z3i,p1,p2,p3])
    refine WL.sreg (by simp[p1,p2,p3];rfl) (by simp;rfl) ?_
    refine WL.cond (t:=true) (by simp) (fun _=>?_) (by simp)
    refine WL.sreg (by simp;rfl) (by simp;rfl) (WL.ret ⟨rfl,?_⟩)
    simp[z4o,hv]
   ·refine WL.sreg (by simp[p1,p2,p3];rfl) (by simp;rfl) ?_
    refine WL.cond (t:=false) (by simp) (by simp) fun _=>?_
    refine WL.sreg (by simp[z];rfl) (by simp;rfl) ?_
    refine WL.cond (t:=false) (by simp) (by simp) fun _=>WL.skip ?_
    exact hl (by first | (simp [z3i,p1,p2,p3];done) | (simp [z3i,p1,p2,p3];omega))
 ·by_cases p0:e.End=0
  ·have z0:(e.End == 0)=true:=by simp[p0]
   by_cases p2:e.Stamp=0
   ·have z2:(e.Stamp != 0)=false:=by simp[p2]
    refine WL.sreg (by simp[p1];rfl) (by simp;rfl) ?_
    refine WL.cond (t:=false) (by simp) (by simp) fun _=>?_
    refine WL.sreg (by simp[z0,z2];rfl) (by simp;rfl) ?_
    refine WL.cond (t:=false) (by simp) (by simp) fun _=>WL.skip ?_
    exact hl (by simp[z3i,p1,p0,p2])
   ·have z2:(e.Stamp != 0)=true:=by simp[p2]
    by_cases p3:e.Stamp < e.Begin
    ·have hv:=hs (by simp[z3i,p0,p2,p3])
     refine WL.sreg (by simp[p1];rfl) (by simp;rfl) ?_
     refine WL.cond (t:=false) (by simp) (by simp) fun _=>?_
     refine WL.sreg (by simp[z0,z2,p3];rfl) (by simp;rfl) ?_
     refine WL.cond (t:=true) (by simp) (fun _=>?_) (by simp)
     refine WL.sreg (by simp;rfl) (by simp;rfl) (WL.ret ⟨rfl,?_⟩)
     simp[z4o,hv]
    ·refine WL.sreg (by simp[p1];rfl) (by simp;rfl) ?_
     refine WL.cond (t:=false) (by simp) (by simp) fun _=>?_
     refine WL.sreg (by simp[z0,z2,p3];rfl) (by simp;rfl) ?_
     refine WL.cond (t:=false) (by simp) (by simp) fun _=>WL.skip ?_
     exact hl (by simp[z3i,p1,p0,p2,p3])
  ·have z:(e.End == 0)=false:=beq_false_of_ne p0
   refine WL.sreg (by simp[p1];rfl) (by simp;rfl) ?_
   refine WL.cond (t:=false) (by simp) (by simp) fun _=>?_
   refine WL.sreg (by simp[z];rfl) (by simp;rfl) ?_
   refine WL.cond (t:=false) (by simp) (by simp) fun _=>WL.skip ?_
   exact hl (by simp[z3i,p1,p0])
theorem zel (l:List Ev)(hn:l.length≤1000)(i:Nat)(hi:i < l.length)(c:Int):FnC Try.prog 135 [] [sEv l,i64 i,i64 c] [] (bl (z2a l i c)):=by
 rw[z88 hi]
 have f1:=z1r (o:=false) (r:=false) hi
 have g1:14≤l.length * 14 - i * 14:=by omega
 refine wc yu1 rfl ?_
 refine WL.mono (Q':=tmQ (z3z l i c l[i])) ?_ fun x L h=>⟨.inr h.1,h.2⟩
 refine WL.sreg (by simp;rfl) (by simp;rfl) ?_
 refine WL.scope (WL.sreg (by simp[hi,f1,g1];rfl) (by simp;rfl) ?_)
 have loop:=zm0 l hn i hi l[i]
 generalize l[i]=e at loop ⊢
 clear f1 g1
 have rest:z87 l i c e=false→WL Try.prog z4o.nt zp4 (tmS l i (bxE 7 e ++ [(1400,0,bl false)])) (wj 0 (wg (fun L'=>WL Try.prog z4o.nt zbi L' (tmQ (z3z l i c e))) (tmQ (z3z l i c e)))):=fun hb =>
  zm2 l i e _ (fun h=>by simp[z3z,h]) (fun h=>by simpa [z3z,hb,h] using loop)
 refine WL.seq (WL.block (WL.seq ?_))
 by_cases q1:e.Client < 0
 ·refine WL.draw z0t (by simp[z0b,noH]) (DL.run (by simp[q1];exact⟨rfl,rfl⟩) ⟨by kernel_rfl,_,by simp;rfl,?_⟩)
  refine WL.cond (t:=true) (by simp) (fun _=>?_) (by simp)
  refine WL.sreg (by simp;rfl) (by simp;rfl) (WL.ret ⟨rfl,?_⟩)
  simp[z4o,z3z,z87,z63,q1]
 by_cases q2:c≤e.Client
 ·refine WL.draw z0t (by simp[z0b,noH]) (DL.run (by simp[q1,q2];exact⟨rfl,rfl⟩) ⟨by kernel_rfl,_,by simp;rfl,?_⟩)
  refine WL.cond (t:=true) (by simp) (fun _=>?_) (by simp)
  refine WL.sreg (by simp;rfl) (by simp;rfl) (WL.ret ⟨rfl,?_⟩)
  simp[z4o,z3z,z87,z63,q1,q2]
 by_cases q3:e.Begin < 1
 ·refine WL.draw z0t (by simp[z0b,noH]) (DL.run (by simp[q1,q2,q3];exact⟨rfl,rfl⟩) ⟨by kernel_rfl,_,by simp;rfl,?_⟩)
  refine WL.cond (t:=true) (by simp) (fun _=>?_) (by simp)
  refine WL.sreg (by simp;rfl) (by simp;rfl) (WL.ret ⟨rfl,?_⟩)
  simp[z4o,z3z,z87,z63,q1,q2,q3]
 by_cases q4:0 < i
 ·obtain⟨j,hj⟩:∃ j,j=i - 1:=⟨_,rfl⟩
  have w:IntKind.wrap .i64 ((i:Int) - 1)=(j:Int):=by rw[z01 (by omega) (by omega)];omega
  have hjl:j < l.length:=by omega
  have f2:=z1r (o:=false) (r:=false) hjl
  have g2:14≤l.length * 14 - j * 14:=by omega
  have hgd:l.getD j e=l[j]:=by simp[hjl]
  by_cases q5:e.Begin < l[j].Begin
  ·refine WL.draw z0t (by simp[z0b,noH]) (DL.run (by simp[q1,q2,q3,q4,q5,w,hjl,f2,g2,← hj,hgd];exact⟨rfl,rfl⟩) ⟨by kernel_rfl,_,by simp;rfl,?_⟩)
   refine WL.cond (t:=true) (by simp) (fun _=>?_) (by simp)
   refine WL.sreg (by simp;rfl) (by simp;rfl) (WL.ret ⟨rfl,?_⟩)
   simp[z4o,z3z,z87,z63,q1,q2,q3,q4,q5,w,hjl,f2,g2,← hj,hgd]
  ·by_cases q6:e.End < 0
   ·refine WL.draw z0t (by simp[z0b,noH]) (DL.run (by simp[q1,q2,q3,q4,q5,q6,w,hjl,f2,g2,← hj,hgd];exact⟨rfl,rfl⟩) ⟨by kernel_rfl,_,by simp;rfl,?_⟩)
    refine WL.cond (t:=true) (by simp) (fun _=>?_) (by simp)
    refine WL.sreg (by simp;rfl) (by simp;rfl) (WL.ret ⟨rfl,?_⟩)
    simp[z4o,z3z,z87,z63,q1,q2,q3,q4,q5,q6,w,hjl,f2,g2,← hj,hgd]
   ·refine WL.draw z0t (by simp[z0b,noH]) (DL.run (by simp[q1,q2,q3,q4,q5,q6,w,hjl,f2,g2,← hj,hgd];exact⟨rfl,rfl⟩) ⟨by kernel_rfl,_,by simp;rfl,?_⟩)
    refine WL.cond (t:=false) (by simp) (by simp) fun _=>?_
    exact rest (by simp[z87,z63,q1,q2,q3,q4,q5,q6,w,hjl,f2,g2,← hj,hgd])
 ·obtain rfl:i=0:=by omega
  by_cases q6:e.End < 0
  ·refine WL.draw z0t (by simp[z0b,noH]) (DL.run (by simp[q1,q2,q3,q6];exact⟨rfl,rfl⟩) ⟨by kernel_rfl,_,by simp;rfl,?_⟩)
   refine WL.cond (t:=true) (by simp) (fun _=>?_) (by simp)
   refine WL.sreg (by simp;rfl) (by simp;rfl) (WL.ret ⟨rfl,?_⟩)
   simp[z4o,z3z,z87,z63,q1,q2,q3,q6]
  ·refine WL.draw z0t (by simp[z0b,noH]) (DL.run (by simp[q1,q2,q3,q6];exact⟨rfl,rfl⟩) ⟨by kernel_rfl,_,by simp;rfl,?_⟩)
   refine WL.cond (t:=false) (by simp) (by simp) fun _=>?_
   exact rest (by simp[z87,z63,q1,q2,q3,q6])
inductive Sh | nil | one | two
@[simp] def Sh.fv:Sh→Nat→List AU→AU
 | .nil,_,_=>.sc .nilFunc
 | _,f,cps=>.clos f cps
@[simp] def Sh.gh:Sh→List AU→List AU→SL
 | .nil,_,_=>[]
 | .one,b,_=>[(1000000,0,.bx true () b)]
 | .two,b,d=>[(1000000,0,.bx true () b),(1000100,0,.bx true () d)]
@[simp] def Sh.gs:Sh→List AU→List AU→List (Gh Unit)
 | .nil,_,_=>[]
 | .one,b,_=>[.nod (.bx true () b)]
 | .two,b,d=>[.nod (.bx true () b),.nod (.bx true () d)]
@[simp] def Sh.ks:Sh→List (Nat × List Nat)
 | .nil=>[]
 | .one=>[(1000000,[])]
 | .two=>[(1000000,[]),(1000100,[])]
theorem zis (p c:Int):May (z1c p c)=!z0v p c:=by
 cases h:z0v p c with
 | false=>exact (zbg _).2 (z3u h)
 | true=>unfold z1c;rw[h];rfl
theorem zbs {l:List Ev}{u:Nat}{c:Int}(hu:u < l.length)(h:z2a l u c=true):0≤l[u].End:=by
 rw[z88 hu] at h
 simp only[z3z,z87,pm,qm,qx,decide_eq_false_iff_not] at h
 omega
structure SeeOk {σ:Type} (l:List Ev) (sh:Sh) (f:Nat) (cps:List AU) (B D:σ→List AU) (see:σ→Int→St→σ) (Inv:σ→St→Prop):Prop where
 no:z0n cps=true
 root:z5n (sh.ks.map (·.1)) cps=true
 roots:z1a cps=sh.ks.map (·.1)
 len:cps.length≤1000
 tr:∀ (X:XF Unit) (k:Nat),(∀ e ∈ sh.ks,(X e.1).1=0∧∃ b,(X e.1).2=.bx true () b)→trL X sh.ks false k cps=some cps
 inv:∀ a s (u:Nat) (hu:u < l.length),OkSt s→Inv a s→(z1g s l[u]).1=true→Inv (see a u (z1g s l[u]).2) (z1g s l[u]).2
 fn:sh ≠ .nil→∀ a s (u:Nat) (hu:u < l.length),OkSt s→Inv a s→(z1g s l[u]).1=true →
  FnC Try.prog f (sh.gs (B a) (D a)) ([i64 u,z6l false (z1g s l[u]).2] ++ cps) (sh.gs (B (see a u (z1g s l[u]).2)) (D (see a u (z1g s l[u]).2))) (.tuple [])
abbrev rcF (b:Nat)(s:St):SL:=[(100 * b,0,.bptr b 1 0),(100 * b+1,0,sB false s.There),(100 * b+2,0,sUU false s.Body),(100 * b+3,0,sII false s.Handles),(100 * b+99,1,.non)]
abbrev wkS (l:List Ev)(c:Int)(fv:AU)(s:St)(r:SL):SL:=[(0,0,sEv l),(200,0,i64 c),(300,0,fv)] ++ (rcF 9 s ++ r)
abbrev wkT (l:List Ev)(fv:AU)(s:St)(j:Nat)(r:SL):SL:=[(0,0,sEv l),(300,0,fv)] ++ (rcF 9 s ++ ([(3600,0,sI true (z1t l)),(3700,0,i64 (z1t l).length),(3800,0,i64 j)] ++ r))
abbrev wkQ (gs:List (Gh Unit))(v:Int):Ex→SL→Prop:=fun e L=>e=Ex.ret∧RetOk z8e.rs gs (i64 v) L
section
variable {σ:Type} {l:List Ev} {sh:Sh} {f:Nat} {cps:List AU} {B D:σ→List AU} {see:σ→Int→St→σ} {Inv:σ→St→Prop}
theorem zkg (hS:SeeOk l sh f cps B D see Inv)(s:St)(h:OkSt s)(a:σ)(hi:Inv a s)(u:Nat)(hu:u < l.length)(hr:(z1g s l[u]).1=true)(j:Nat)(K:SL→Prop)
  (hK:K (wkT l (sh.fv f cps) (z1g s l[u]).2 j (sh.gh (B (see a u (z1g s l[u]).2)) (D (see a u (z1g s l[u]).2))))) :
  WL Try.prog z8e.nt zd3 ([(0,0,sEv l),(300,0,sh.fv f cps)] ++ (rcF 9 (z1g s l[u]).2 ++ ([(1200,0,i64 u),(3600,0,sI true (z1t l)),(3700,0,i64 (z1t l).length),(3800,0,i64 j)] ++ sh.gh (B a) (D a)))) (fun e L=>(e=.nrm∨e=.ext 3)∧K L):=by
 have e1:=hS.no
 have e2:=hS.root
 have e3:=hS.tr
 have e4:=hS.len
 have e5:=hS.roots
 have hf:=fun h'=>hS.fn h' a s u hu h hi hr
 generalize (z1g s l[u]).2=t at *
 cases sh with
 | nil =>
  refine WL.seq (WL.sreg (by simp;rfl) (by simp;rfl) ?_)
  refine WL.cond (t:=true) (by simp) (fun _=>?_) (by simp)
  refine WL.fin [12,87] (by simp;rfl) (WL.exit ⟨.inr rfl,?_⟩)
  simpa using hK
 | one =>
  have hf:=hf (by simp)
  simp at e2 e3 e5 hf
  refine WL.seq (WL.sreg (by simp[e1];rfl) (by simp[e5];rfl) ?_)
  refine WL.cond (t:=false) (by simp) (by simp) fun _=>WL.skip ?_
  refine WL.reg (RL.o (by simp[e1];rfl) (nf (f:=f) (cps:=cps) false [(1000000,[])] (by simp) hf (by simp) (by simp) ?_ (by simp;omega) ?_ ?_ (RL.nil ⟨_,by simp[e5];rfl,?_⟩)))
  ·simp[e1]
   rw[e3 _ _ (by simp) _ (by simp;rfl)]
   simp
  ·simp
  ·simp[e2]
  ·simpa using hK
 | two =>
  have hf:=hf (by simp)
  simp at e2 e3 e5 hf
  refine WL.seq (WL.sreg (by simp[e1];rfl) (by simp[e5];rfl) ?_)
  refine WL.cond (t:=false) (by simp) (by simp) fun _=>WL.skip ?_
  refine WL.reg (RL.o (by simp[e1];rfl) (nf (f:=f) (cps:=cps) false [(1000000,[]),(1000100,[])] (by simp) hf (by simp) (by simp) ?_ (by simp;omega) ?_ ?_ (RL.nil ⟨_,by simp[e5];rfl,?_⟩)))
  ·simp[e1]
   rw[e3 _ _ (by simp) _ (by simp;rfl) (by simp) _ (by simp;rfl)]
   simp
  ·simp
  ·simp[e2]
  ·simpa using hK
theorem z46 {s t:St}{e:Ev}(h0:0≤e.End)(h:z1u s e=some t):(z1g s e).1=true∧(z1g s e).2=t:=by
 rw[zke s e h0] at h
 split at h
 ·rename_i h1;exact⟨h1,by simpa using h⟩
 ·cases h
theorem z47 {s:St}{e:Ev}(h0:0≤e.End)(h:z1u s e=none):(z1g s e).1=false:=by
 rw[zke s e h0] at h
 split at h
 ·cases h
 ·rename_i h1;simpa using h1
theorem zit (hE:EvOk l)(hS:SeeOk l Sh.nil f cps B D see Inv)(s0:St)(h0:OkSt s0)(a0:σ)(i0:Inv a0 s0)(c:Int)(hT:∀ j,j < l.length→z2a l j c=true)(n:Nat) :
  WL Try.prog z8e.nt zk0 (wkS l c (Sh.nil.fv f cps) s0 ([(2300,0,i64 n),(2400,0,i64 n),(2500,0,bl false)] ++ Sh.nil.gh (B a0) (D a0))) (wkQ (Sh.nil.gs (B (goW l see s0 a0 (z1t l)).2.2) (D (goW l see s0 a0 (z1t l)).2.2)) (goW l see s0 a0 (z1t l)).1):=by
 have hn:=hE.n
 have hOl:=z86 l
 have hsee:=fun s h a hi u hu hr j=>zkg hS s h a hi u hu hr j
 have hI:=fun a s u hu h hi hr=>hS.inv a s u hu h hi hr
 refine WL.seq (w7 (RL.o (by simp;rfl) (RL.call0 false (zeg l hn) (by simp) (by simp) (RL.o (by simp;rfl) (RL.nil ⟨_,by simp;rfl,?_⟩)))))
 refine WL.block (WL.loop (ι:={x:Nat × St × σ // x.1≤(z1t l).length∧OkSt x.2.1∧Inv x.2.2 x.2.1∧goW l see x.2.1 x.2.2 ((z1t l).drop x.1)=goW l see s0 a0 (z1t l)}) (fun x=>wkT l (Sh.nil.fv f cps) x.1.2.1 x.1.1 (Sh.nil.gh (B x.1.2.2) (D x.1.2.2))) (fun x=>(z1t l).length - x.1.1) ⟨(0,s0,a0),rh _,h0,i0,rfl⟩ (by simp) fun x=>?_)
 obtain⟨⟨j,s,a⟩,hj,hs,hia,hg⟩:=x
 simp only at hj hs hg hia ⊢
 by_cases hlt:j < (z1t l).length
 ·obtain⟨u,hu,eu⟩:=zek hlt
  have f1:=z1r (o:=false) (r:=false) hu
  have g1:14≤l.length * 14 - u * 14:=by omega
  have hlt':j+1≤(z1t l).length:=hlt
  have w:IntKind.wrap .i64 ((j:Int)+1)=((j+1:Nat):Int):=by rw[z01 (by omega) (by omega)];omega
  have w2:IntKind.wrap .i64 ((u:Int)+1)=(u:Int)+1:=by rw[z01 (by omega) (by omega)]
  have hE0:=zbs hu (hT u hu)
  have hse:=hsee s hs a hia u hu
  have hI':=hI a s u hu hs hia
  rw[s6 hlt] at hg
  simp only[goW,eu,z59 hu] at hg
  have hok:=z6i hs l[u]
  have tail:∀ t,z1u s l[u]=some t→∀ Q,(∀ e,(e=.nrm∨e=.ext 3)→Q e (wkT l (Sh.nil.fv f cps) t j (Sh.nil.gh (B (see a u t)) (D (see a u t)))))→WL Try.prog z8e.nt zd3 ([(0,0,sEv l),(300,0,Sh.nil.fv f cps)] ++ (rcF 9 t ++ ([(1200,0,i64 u),(3600,0,sI true (z1t l)),(3700,0,i64 (z1t l).length),(3800,0,i64 j)] ++ Sh.nil.gh (B a) (D a)))) Q:=by
   intro t ht Q hQ
   obtain⟨q1,q2⟩:=z46 hE0 ht
   have:=hse q1 j (fun L=>L=wkT l (Sh.nil.fv f cps) t j (Sh.nil.gh (B (see a u t)) (D (see a u t)))) (by rw[q2])
   rw[q2] at this
   refine WL.mono this ?_
   rintro e L ⟨he,rfl⟩
   exact hQ e he
  refine WL.sreg (by simp[hlt];rfl) (by simp;rfl) ?_
  refine WL.seq (WL.cond (t:=true) (by simp[hlt]) (fun _=>WL.skip ?_) (by simp))
  refine WL.seq (WL.block (WL.sreg (by simp[hlt,hlt',eu];rfl) (by simp;rfl) ?_))
  refine WL.sreg (by simp[hlt,hlt',eu,hu,f1,g1];rfl) (by simp;rfl) ?_
  refine w7 (RL.o (by simp;rfl) (nr s hs.sized l[u].Client l[u].op (by simp) (RL.o (by simp;rfl) (RL.nil ⟨_,by simp;rfl,?_⟩))))
  have adv:∀ t,z1u s l[u]=some t→∀ Q,(∀ L,(∃ y:{x:Nat × St × σ // x.1≤(z1t l).length∧OkSt x.2.1∧Inv x.2.2 x.2.1∧goW l see x.2.1 x.2.2 ((z1t l).drop x.1)=goW l see s0 a0 (z1t l)},L=wkT l (Sh.nil.fv f cps) y.1.2.1 y.1.1 (Sh.nil.gh (B y.1.2.2) (D y.1.2.2))∧(z1t l).length - y.1.1 < (z1t l).length - j)→Q Ex.nrm L)→WL Try.prog z8e.nt zjz (wkT l (Sh.nil.fv f cps) t j (Sh.nil.gh (B (see a u t)) (D (see a u t)))) Q:=by
   intro t ht Q hQ
   obtain⟨q1,q2⟩:=z46 hE0 ht
   have hI2:=hI' q1
   rw[q1] at hg
   simp only[if_true] at hg
   rw[q2] at hg hI2 hok
   refine WL.reg (RL.run (by simp[w];rfl) ⟨_,by simp;rfl,hQ _ ?_⟩)
   exact⟨⟨(j+1,t,see a u t),hlt,hok,hI2,hg⟩,by simp,by simp only;omega⟩
  refine WL.seq ?_
  by_cases p:l[u].End=0
  ·have z:(l[u].End == 0)=true:=by simp[p]
   have ht:z1u s l[u]=some (DoB s l[u].Client l[u].op).2.1:=by simp[z1u,p]
   refine WL.block (w7 (RL.o (by simp[z];rfl) (RL.g (by simp;rfl) (RL.callN (by simp) (RL.o (by simp;rfl) (RL.nil ⟨_,by simp;rfl,?_⟩))))))
   refine WL.cond (t:=true) (by simp) (fun _=>?_) (by simp)
   refine WL.reg (RL.run (by simp;rfl) ⟨_,by simp;rfl,?_⟩)
   refine tail _ ht _ ?_
   intro e he
   rcases he with rfl | rfl
   ·exact adv _ ht _ fun L h=>h
   ·exact adv _ ht _ fun L h=>h
  ·have z:(l[u].End == 0)=false:=beq_false_of_ne p
   have hsr:=z45 (DoB s l[u].Client l[u].op).2.2 l[u].res
   cases hv:z1z (DoB s l[u].Client l[u].op).2.2 l[u].res with
   | true =>
    rw[hv] at hsr
    have ht:z1u s l[u]=some (DoB s l[u].Client l[u].op).2.1:=by simp[z1u,hv]
    refine WL.block (w7 (RL.o (by simp[z];rfl) (RL.g (by simp;rfl) (RL.callY0 false (by simp) hsr (by simp) (by simp) (RL.o (by simp;rfl) (RL.nil ⟨_,by simp;rfl,?_⟩))))))
    refine WL.cond (t:=true) (by simp) (fun _=>?_) (by simp)
    refine WL.reg (RL.run (by simp;rfl) ⟨_,by simp;rfl,?_⟩)
    refine tail _ ht _ ?_
    intro e he
    rcases he with rfl | rfl
    ·exact adv _ ht _ fun L h=>h
    ·exact adv _ ht _ fun L h=>h
   | false =>
    rw[hv] at hsr
    refine WL.block (w7 (RL.o (by simp[z];rfl) (RL.g (by simp;rfl) (RL.callY0 false (by simp) hsr (by simp) (by simp) (RL.o (by simp;rfl) (RL.nil ⟨_,by simp;rfl,?_⟩))))))
    refine WL.cond (t:=false) (by simp) (by simp) fun _=>?_
    have hb:=zq9 l[u].op l[u].res.Code
    have hp:=z45 l[u].res (rsE l[u].res.Code)
    cases hbad:zeh l[u].op.Kind l[u].res.Code with
    | false =>
     rw[hbad] at hb
     have ht:z1u s l[u]=none:=by simp[z1u,p,hv,hbad]
     have hr:=z47 hE0 ht
     rw[hr] at hg
     simp only[pu,if_false] at hg
     refine w7 (RL.o (by simp;rfl) (RL.call0 false hb (by simp) (by simp) (RL.o (by simp;rfl) (RL.g (by simp;rfl) (RL.callN (by simp) (RL.g (by simp;rfl) (RL.o (by simp;rfl) (RL.nil ⟨_,by simp;rfl,?_⟩))))))))
     refine WL.cond (t:=true) (by simp) (fun _=>?_) (by simp)
     refine WL.sreg (by simp[w2];rfl) (by simp;rfl) (WL.ret ⟨rfl,?_⟩)
     simp[z8e,← hg]
    | true =>
     rw[hbad] at hb
     cases hpl:z1z l[u].res (rsE l[u].res.Code) with
     | false =>
      rw[hpl] at hp
      have ht:z1u s l[u]=none:=by simp[z1u,p,hv,hbad,hpl]
      have hr:=z47 hE0 ht
      rw[hr] at hg
      simp only[pu,if_false] at hg
      refine w7 (RL.o (by simp;rfl) (RL.call0 false hb (by simp) (by simp) (RL.o (by simp;rfl) (RL.g (by simp;rfl) (RL.nilA 80 3 1 (by simp;rfl) rfl rfl (RL.callY0 false (by simp) hp (by simp[rsE]) (by simp) (RL.g (by simp;rfl) (RL.o (by simp;rfl) (RL.nil ⟨_,by simp;rfl,?_⟩)))))))))
      refine WL.cond (t:=true) (by simp) (fun _=>?_) (by simp)
      refine WL.sreg (by simp[w2];rfl) (by simp;rfl) (WL.ret ⟨rfl,?_⟩)
      simp[z8e,← hg]
     | true =>
      rw[hpl] at hp
      have ht:z1u s l[u]=some s:=by simp[z1u,p,hv,hbad,hpl]
      refine w7 (RL.o (by simp;rfl) (RL.call0 false hb (by simp) (by simp) (RL.o (by simp;rfl) (RL.g (by simp;rfl) (RL.nilA 80 3 1 (by simp;rfl) rfl rfl (RL.callY0 false (by simp) hp (by simp[rsE]) (by simp) (RL.g (by simp;rfl) (RL.o (by simp;rfl) (RL.nil ⟨_,by simp;rfl,?_⟩)))))))))
      refine WL.cond (t:=false) (by simp) (by simp) fun _=>WL.skip ?_
      refine WL.fin [66] (by simp) (tail _ ht _ ?_)
      intro e he
      rcases he with rfl | rfl
      ·exact adv _ ht _ fun L h=>h
      ·exact adv _ ht _ fun L h=>h
 ·obtain rfl:j=(z1t l).length:=by omega
  rw[List.drop_length] at hg
  simp only[goW] at hg
  refine WL.sreg (by simp;rfl) (by simp;rfl) ?_
  refine WL.seq (WL.cond (t:=false) (by simp) (by simp) fun _=>WL.exit ?_)
  refine WL.sreg (by simp;rfl) (by simp;rfl) (WL.ret ⟨rfl,?_⟩)
  simp[z8e,← hg]
theorem ziu (hE:EvOk l)(hS:SeeOk l Sh.one f cps B D see Inv)(s0:St)(h0:OkSt s0)(a0:σ)(i0:Inv a0 s0)(c:Int)(hT:∀ j,j < l.length→z2a l j c=true)(n:Nat) :
  WL Try.prog z8e.nt zk0 (wkS l c (Sh.one.fv f cps) s0 ([(2300,0,i64 n),(2400,0,i64 n),(2500,0,bl false)] ++ Sh.one.gh (B a0) (D a0))) (wkQ (Sh.one.gs (B (goW l see s0 a0 (z1t l)).2.2) (D (goW l see s0 a0 (z1t l)).2.2)) (goW l see s0 a0 (z1t l)).1):=by
 have hn:=hE.n
 have hOl:=z86 l
 have e1:=hS.no
 have e5:=hS.roots
 simp at e5
 have hsee:=fun s h a hi u hu hr j=>zkg hS s h a hi u hu hr j
 have hI:=fun a s u hu h hi hr=>hS.inv a s u hu h hi hr
 refine WL.seq (w7 (RL.o (by simp;rfl) (RL.call0 false (zeg l hn) (by simp) (by simp) (RL.o (by simp;rfl) (RL.nil ⟨_,by simp[e5];rfl,?_⟩)))))
 refine WL.block (WL.loop (ι:={x:Nat × St × σ // x.1≤(z1t l).length∧OkSt x.2.1∧Inv x.2.2 x.2.1∧goW l see x.2.1 x.2.2 ((z1t l).drop x.1)=goW l see s0 a0 (z1t l)}) (fun x=>wkT l (Sh.one.fv f cps) x.1.2.1 x.1.1 (Sh.one.gh (B x.1.2.2) (D x.1.2.2))) (fun x=>(z1t l).length - x.1.1) ⟨(0,s0,a0),rh _,h0,i0,rfl⟩ (by simp) fun x=>?_)
 obtain⟨⟨j,s,a⟩,hj,hs,hia,hg⟩:=x
 simp only at hj hs hg hia ⊢
 by_cases hlt:j < (z1t l).length
 ·obtain⟨u,hu,eu⟩:=zek hlt
  have f1:=z1r (o:=false) (r:=false) hu
  have g1:14≤l.length * 14 - u * 14:=by omega
  have hlt':j+1≤(z1t l).length:=hlt
  have w:IntKind.wrap .i64 ((j:Int)+1)=((j+1:Nat):Int):=by rw[z01 (by omega) (by omega)];omega
  have w2:IntKind.wrap .i64 ((u:Int)+1)=(u:Int)+1:=by rw[z01 (by omega) (by omega)]
  have hE0:=zbs hu (hT u hu)
  have hse:=hsee s hs a hia u hu
  have hI':=hI a s u hu hs hia
  rw[s6 hlt] at hg
  simp only[goW,eu,z59 hu] at hg
  have hok:=z6i hs l[u]
  have tail:∀ t,z1u s l[u]=some t→∀ Q,(∀ e,(e=.nrm∨e=.ext 3)→Q e (wkT l (Sh.one.fv f cps) t j (Sh.one.gh (B (see a u t)) (D (see a u t)))))→WL Try.prog z8e.nt zd3 ([(0,0,sEv l),(300,0,Sh.one.fv f cps)] ++ (rcF 9 t ++ ([(1200,0,i64 u),(3600,0,sI true (z1t l)),(3700,0,i64 (z1t l).length),(3800,0,i64 j)] ++ Sh.one.gh (B a) (D a)))) Q:=by
   intro t ht Q hQ
   obtain⟨q1,q2⟩:=z46 hE0 ht
   have:=hse q1 j (fun L=>L=wkT l (Sh.one.fv f cps) t j (Sh.one.gh (B (see a u t)) (D (see a u t)))) (by rw[q2])
   rw[q2] at this
   refine WL.mono this ?_
   rintro e L ⟨he,rfl⟩
   exact hQ e he
  refine WL.sreg (by simp[hlt];rfl) (by simp[e5];rfl) ?_
  refine WL.seq (WL.cond (t:=true) (by simp[hlt]) (fun _=>WL.skip ?_) (by simp))
  refine WL.seq (WL.block (WL.sreg (by simp[hlt,hlt',eu];rfl) (by simp[e5];rfl) ?_))
  refine WL.sreg (by simp[hlt,hlt',eu,hu,f1,g1];rfl) (by simp[e5];rfl) ?_
  refine w7 (RL.o (by simp;rfl) (nr s hs.sized l[u].Client l[u].op (by simp) (RL.o (by simp;rfl) (RL.nil ⟨_,by simp[e5];rfl,?_⟩))))
  have adv:∀ t,z1u s l[u]=some t→∀ Q,(∀ L,(∃ y:{x:Nat × St × σ // x.1≤(z1t l).length∧OkSt x.2.1∧Inv x.2.2 x.2.1∧goW l see x.2.1 x.2.2 ((z1t l).drop x.1)=goW l see s0 a0 (z1t l)},L=wkT l (Sh.one.fv f cps) y.1.2.1 y.1.1 (Sh.one.gh (B y.1.2.2) (D y.1.2.2))∧(z1t l).length - y.1.1 < (z1t l).length - j)→Q Ex.nrm L)→WL Try.prog z8e.nt zjz (wkT l (Sh.one.fv f cps) t j (Sh.one.gh (B (see a u t)) (D (see a u t)))) Q:=by
   intro t ht Q hQ
   obtain⟨q1,q2⟩:=z46 hE0 ht
   have hI2:=hI' q1
   rw[q1] at hg
   simp only[if_true] at hg
   rw[q2] at hg hI2 hok
   refine WL.reg (RL.run (by simp[w];rfl) ⟨_,by simp[e5];rfl,hQ _ ?_⟩)
   exact⟨⟨(j+1,t,see a u t),hlt,hok,hI2,hg⟩,by simp,by simp only;omega⟩
  refine WL.seq ?_
  by_cases p:l[u].End=0
  ·have z:(l[u].End == 0)=true:=by simp[p]
   have ht:z1u s l[u]=some (DoB s l[u].Client l[u].op).2.1:=by simp[z1u,p]
   refine WL.block (w7 (RL.o (by simp[z];rfl) (RL.g (by simp;rfl) (RL.callN (by simp) (RL.o (by simp;rfl) (RL.nil ⟨_,by simp[e5];rfl,?_⟩))))))
   refine WL.cond (t:=true) (by simp) (fun _=>?_) (by simp)
   refine WL.reg (RL.run (by simp;rfl) ⟨_,by simp[e5];rfl,?_⟩)
   refine tail _ ht _ ?_
   intro e he
   rcases he with rfl | rfl
   ·exact adv _ ht _ fun L h=>h
   ·exact adv _ ht _ fun L h=>h
  ·have z:(l[u].End == 0)=false:=beq_false_of_ne p
   have hsr:=z45 (DoB s l[u].Client l[u].op).2.2 l[u].res
   cases hv:z1z (DoB s l[u].Client l[u].op).2.2 l[u].res with
   | true =>
    rw[hv] at hsr
    have ht:z1u s l[u]=some (DoB s l[u].Client l[u].op).2.1:=by simp[z1u,hv]
    refine WL.block (w7 (RL.o (by simp[z];rfl) (RL.g (by simp;rfl) (RL.callY0 false (by simp) hsr (by simp) (by simp) (RL.o (by simp;rfl) (RL.nil ⟨_,by simp[e5];rfl,?_⟩))))))
    refine WL.cond (t:=true) (by simp) (fun _=>?_) (by simp)
    refine WL.reg (RL.run (by simp;rfl) ⟨_,by simp[e5];rfl,?_⟩)
    refine tail _ ht _ ?_
    intro e he
    rcases he with rfl | rfl
    ·exact adv _ ht _ fun L h=>h
    ·exact adv _ ht _ fun L h=>h
   | false =>
    rw[hv] at hsr
    refine WL.block (w7 (RL.o (by simp[z];rfl) (RL.g (by simp;rfl) (RL.callY0 false (by simp) hsr (by simp) (by simp) (RL.o (by simp;rfl) (RL.nil ⟨_,by simp[e5];rfl,?_⟩))))))
    refine WL.cond (t:=false) (by simp) (by simp) fun _=>?_
    have hb:=zq9 l[u].op l[u].res.Code
    have hp:=z45 l[u].res (rsE l[u].res.Code)
    cases hbad:zeh l[u].op.Kind l[u].res.Code with
    | false =>
     rw[hbad] at hb
     have ht:z1u s l[u]=none:=by simp[z1u,p,hv,hbad]
     have hr:=z47 hE0 ht
     rw[hr] at hg
     simp only[pu,if_false] at hg
     refine w7 (RL.o (by simp;rfl) (RL.call0 false hb (by simp) (by simp) (RL.o (by simp;rfl) (RL.g (by simp;rfl) (RL.callN (by simp) (RL.g (by simp;rfl) (RL.o (by simp;rfl) (RL.nil ⟨_,by simp[e5];rfl,?_⟩))))))))
     refine WL.cond (t:=true) (by simp) (fun _=>?_) (by simp)
     refine WL.sreg (by simp[w2];rfl) (by simp[e5];rfl) (WL.ret ⟨rfl,?_⟩)
     simp[z8e,← hg]
    | true =>
     rw[hbad] at hb
     cases hpl:z1z l[u].res (rsE l[u].res.Code) with
     | false =>
      rw[hpl] at hp
      have ht:z1u s l[u]=none:=by simp[z1u,p,hv,hbad,hpl]
      have hr:=z47 hE0 ht
      rw[hr] at hg
      simp only[pu,if_false] at hg
      refine w7 (RL.o (by simp;rfl) (RL.call0 false hb (by simp) (by simp) (RL.o (by simp;rfl) (RL.g (by simp;rfl) (RL.nilA 80 3 1 (by simp;rfl) rfl rfl (RL.callY0 false (by simp) hp (by simp[rsE]) (by simp) (RL.g (by simp;rfl) (RL.o (by simp;rfl) (RL.nil ⟨_,by simp[e5];rfl,?_⟩)))))))))
      refine WL.cond (t:=true) (by simp) (fun _=>?_) (by simp)
      refine WL.sreg (by simp[w2];rfl) (by simp[e5];rfl) (WL.ret ⟨rfl,?_⟩)
      simp[z8e,← hg]
     | true =>
      rw[hpl] at hp
      have ht:z1u s l[u]=some s:=by simp[z1u,p,hv,hbad,hpl]
      refine w7 (RL.o (by simp;rfl) (RL.call0 false hb (by simp) (by simp) (RL.o (by simp;rfl) (RL.g (by simp;rfl) (RL.nilA 80 3 1 (by simp;rfl) rfl rfl (RL.callY0 false (by simp) hp (by simp[rsE]) (by simp) (RL.g (by simp;rfl) (RL.o (by simp;rfl) (RL.nil ⟨_,by simp[e5];rfl,?_⟩)))))))))
      refine WL.cond (t:=false) (by simp) (by simp) fun _=>WL.skip ?_
      refine WL.fin [66] (by simp[e5]) (tail _ ht _ ?_)
      intro e he
      rcases he with rfl | rfl
      ·exact adv _ ht _ fun L h=>h
      ·exact adv _ ht _ fun L h=>h
 ·obtain rfl:j=(z1t l).length:=by omega
  rw[List.drop_length] at hg
  simp only[goW] at hg
  refine WL.sreg (by simp;rfl) (by simp[e5];rfl) ?_
  refine WL.seq (WL.cond (t:=false) (by simp) (by simp) fun _=>WL.exit ?_)
  refine WL.sreg (by simp;rfl) (by simp[e5];rfl) (WL.ret ⟨rfl,?_⟩)
  simp[z8e,← hg]
theorem ztb (hE:EvOk l)(hS:SeeOk l Sh.nil f cps B D see Inv)(p c:Int)(a:σ)(hI:z0v p c=false→Inv a (z1c p c)) :
  FnC Try.prog 88 (Sh.nil.gs (B a) (D a)) [sEv l,i64 p,i64 c,Sh.nil.fv f cps] (Sh.nil.gs (B (z18 see a l p c).2.2) (D (z18 see a l p c).2.2)) (i64 (z18 see a l p c).1):=by
 have hn:=hE.n
 have hms:=zcy (z1c p c) (z73 p c)
 rw[zis] at hms
 refine wc ytg rfl ?_
 refine WL.mono (Q':=wkQ (Sh.nil.gs (B (z18 see a l p c).2.2) (D (z18 see a l p c).2.2)) (z18 see a l p c).1) ?_ fun x L h=>⟨.inr h.1,h.2⟩
 refine WL.sreg (by simp;rfl) (by simp;rfl) ?_
 refine WL.scope ?_
 refine w7 (RL.o (by simp;rfl) (n8 p c (by simp) (RL.o (by simp;rfl) (RL.nil ⟨_,by simp;rfl,?_⟩))))
 cases hb:z0v p c with
 | true =>
  rw[hb] at hms
  refine WL.seq (w7 (RL.o (by simp;rfl) (RL.call0 false hms (by simp) (by simp) (RL.o (by simp;rfl) (RL.nil ⟨_,by simp;rfl,?_⟩)))))
  refine WL.cond (t:=true) (by simp) (fun _=>?_) (by simp)
  refine WL.sreg (by simp;rfl) (by simp;rfl) (WL.ret ⟨rfl,?_⟩)
  simp[z8e,z18,hb]
 | false =>
  rw[hb] at hms
  have hok:=z3u hb
  have i0:=hI hb
  refine WL.seq (w7 (RL.o (by simp;rfl) (RL.call0 false hms (by simp) (by simp) (RL.o (by simp;rfl) (RL.nil ⟨_,by simp;rfl,?_⟩)))))
  refine WL.cond (t:=false) (by simp) (by simp) fun _=>WL.skip ?_
  refine WL.seq (WL.sreg (by simp;rfl) (by simp;rfl) ?_)
  unfold z18
  rw[hb]
  simp only[pu,if_false]
  generalize z1c p c=s0 at hok i0 ⊢
  refine WL.block (we l.length (fun i=>wkS l c (Sh.nil.fv f cps) s0 ([(2300,0,i64 l.length),(2400,0,i64 i)] ++ Sh.nil.gh (B a) (D a))) (fun i=>∀ j,j < i→z2a l j c=true) rfl (fun j h=>absurd h (ra _)) fun i hi hp=>?_)
  by_cases hlt:i < l.length
  ·have w:IntKind.wrap .i64 ((i:Int)+1)=((i+1:Nat):Int):=by rw[z01 (by omega) (by omega)];omega
   have ha:=zel l hn i hlt c
   refine WL.sreg (by simp[hlt];rfl) (by simp;rfl) ?_
   refine WL.seq (WL.cond (t:=true) (by simp[hlt]) (fun _=>WL.skip ?_) (by simp))
   refine WL.seq (WL.block (WL.sreg (by simp[hlt];rfl) (by simp;rfl) ?_))
   cases ht:z2a l i c with
   | true =>
    rw[ht] at ha
    refine w7 (RL.o (by simp;rfl) (RL.call0 false ha (by simp) (by simp) (RL.o (by simp;rfl) (RL.nil ⟨_,by simp;rfl,?_⟩))))
    refine WL.cond (t:=false) (by simp) (by simp) fun _=>WL.skip ?_
    refine WL.reg (RL.run (by simp[w];rfl) ⟨_,by simp;rfl,hlt,?_,fun j hj=>?_⟩)
    ·simp
    ·by_cases e:j=i
     ·subst e;exact ht
     ·exact hp j (by omega)
   | false =>
    rw[ht] at ha
    have hf:=z5l hlt hp ht
    refine w7 (RL.o (by simp;rfl) (RL.call0 false ha (by simp) (by simp) (RL.o (by simp;rfl) (RL.nil ⟨_,by simp;rfl,?_⟩))))
    refine WL.cond (t:=true) (by simp) (fun _=>?_) (by simp)
    refine WL.sreg (by simp[w];rfl) (by simp;rfl) (WL.ret ⟨rfl,?_⟩)
    simp[z8e,hf]
  ·obtain rfl:i=l.length:=by omega
   have hf:=z34 hp
   rw[hf]
   refine WL.sreg (by simp;rfl) (by simp;rfl) ?_
   refine WL.seq (WL.cond (t:=false) (by simp) (by simp) fun _=>WL.exit ?_)
   refine WL.seq (WL.label ?_)
   exact zit hE hS s0 hok a i0 c hp l.length
theorem zkh (hE:EvOk l)(hS:SeeOk l Sh.one f cps B D see Inv)(p c:Int)(a:σ)(hI:z0v p c=false→Inv a (z1c p c)) :
  FnC Try.prog 88 (Sh.one.gs (B a) (D a)) [sEv l,i64 p,i64 c,Sh.one.fv f cps] (Sh.one.gs (B (z18 see a l p c).2.2) (D (z18 see a l p c).2.2)) (i64 (z18 see a l p c).1):=by
 have hn:=hE.n
 have e5:=hS.roots
 simp at e5
 have hms:=zcy (z1c p c) (z73 p c)
 rw[zis] at hms
 refine wc ytg rfl ?_
 refine WL.mono (Q':=wkQ (Sh.one.gs (B (z18 see a l p c).2.2) (D (z18 see a l p c).2.2)) (z18 see a l p c).1) ?_ fun x L h=>⟨.inr h.1,h.2⟩
 refine WL.sreg (by simp;rfl) (by simp[e5];rfl) ?_
 refine WL.scope ?_
 refine w7 (RL.o (by simp;rfl) (n8 p c (by simp) (RL.o (by simp;rfl) (RL.nil ⟨_,by simp[e5];rfl,?_⟩))))
 cases hb:z0v p c with
 | true =>
  rw[hb] at hms
  refine WL.seq (w7 (RL.o (by simp;rfl) (RL.call0 false hms (by simp) (by simp) (RL.o (by simp;rfl) (RL.nil ⟨_,by simp[e5];rfl,?_⟩)))))
  refine WL.cond (t:=true) (by simp) (fun _=>?_) (by simp)
  refine WL.sreg (by simp;rfl) (by simp[e5];rfl) (WL.ret ⟨rfl,?_⟩)
  simp[z8e,z18,hb]
 | false =>
  rw[hb] at hms
  have hok:=z3u hb
  have i0:=hI hb
  refine WL.seq (w7 (RL.o (by simp;rfl) (RL.call0 false hms (by simp) (by simp) (RL.o (by simp;rfl) (RL.nil ⟨_,by simp[e5];rfl,?_⟩)))))
  refine WL.cond (t:=false) (by simp) (by simp) fun _=>WL.skip ?_
  refine WL.seq (WL.sreg (by simp;rfl) (by simp[e5];rfl) ?_)
  unfold z18
  rw[hb]
  simp only[pu,if_false]
  generalize z1c p c=s0 at hok i0 ⊢
  refine WL.block (we l.length (fun i=>wkS l c (Sh.one.fv f cps) s0 ([(2300,0,i64 l.length),(2400,0,i64 i)] ++ Sh.one.gh (B a) (D a))) (fun i=>∀ j,j < i→z2a l j c=true) rfl (fun j h=>absurd h (ra _)) fun i hi hp=>?_)
  by_cases hlt:i < l.length
  ·have w:IntKind.wrap .i64 ((i:Int)+1)=((i+1:Nat):Int):=by rw[z01 (by omega) (by omega)];omega
   have ha:=zel l hn i hlt c
   refine WL.sreg (by simp[hlt];rfl) (by simp[e5];rfl) ?_
   refine WL.seq (WL.cond (t:=true) (by simp[hlt]) (fun _=>WL.skip ?_) (by simp))
   refine WL.seq (WL.block (WL.sreg (by simp[hlt];rfl) (by simp[e5];rfl) ?_))
   cases ht:z2a l i c with
   | true =>
    rw[ht] at ha
    refine w7 (RL.o (by simp;rfl) (RL.call0 false ha (by simp) (by simp) (RL.o (by simp;rfl) (RL.nil ⟨_,by simp[e5];rfl,?_⟩))))
    refine WL.cond (t:=false) (by simp) (by simp) fun _=>WL.skip ?_
    refine WL.reg (RL.run (by simp[w];rfl) ⟨_,by simp[e5];rfl,hlt,?_,fun j hj=>?_⟩)
    ·simp
    ·by_cases e:j=i
     ·subst e;exact ht
     ·exact hp j (by omega)
   | false =>
    rw[ht] at ha
    have hf:=z5l hlt hp ht
    refine w7 (RL.o (by simp;rfl) (RL.call0 false ha (by simp) (by simp) (RL.o (by simp;rfl) (RL.nil ⟨_,by simp[e5];rfl,?_⟩))))
    refine WL.cond (t:=true) (by simp) (fun _=>?_) (by simp)
    refine WL.sreg (by simp[w];rfl) (by simp[e5];rfl) (WL.ret ⟨rfl,?_⟩)
    simp[z8e,hf]
  ·obtain rfl:i=l.length:=by omega
   have hf:=z34 hp
   rw[hf]
   refine WL.sreg (by simp;rfl) (by simp[e5];rfl) ?_
   refine WL.seq (WL.cond (t:=false) (by simp) (by simp) fun _=>WL.exit ?_)
   refine WL.seq (WL.label ?_)
   exact ziu hE hS s0 hok a i0 c hp l.length
end
theorem ztc (l:List Ev):SeeOk l .nil 0 [] (fun _:Unit=>[]) (fun _=>[]) z8y (fun _ _=>True) :=
 ⟨rfl,rfl,rfl,by simp,fun _ _ _=>rfl,fun _ _ _ _ _ _ _=>trivial,fun h=>absurd rfl h⟩
theorem ykq (l:List Ev)(hE:EvOk l)(p c:Int):FnC Try.prog 28 [] [sEv l,i64 p,i64 c] [] (i64 (za8 l p c)):=by
 have hw:=ztb hE (ztc l) p c () (fun _=>trivial)
 rw[z5a] at hw
 simp only[Sh.gs,Sh.fv] at hw
 refine wc yxw rfl ?_
 refine WL.sreg (by simp;rfl) (by simp;rfl) ?_
 refine w7 (RL.o (by simp;rfl) (RL.call0 false hw (by simp) (by simp) (RL.o (by simp;rfl) (RL.nil ⟨_,by simp;rfl,WL.ret ⟨.inr rfl,?_⟩⟩))))
 simp[ywp]
theorem zqe (i:Int)(s t:St):FnC Try.prog 89 [.nod (.bx true () (zcx false s))] [i64 i,z6l false t,.ptr 1000000 0 [] 0] [.nod (.bx true () (zcx false t))] (.tuple []):=by
 refine wc yy4 rfl ?_
 refine WL.sreg (by simp;rfl) (by simp;rfl) ?_
 refine WL.wipe 1000000 (by simp;rfl) (by simp) ?_
 refine WL.reg (RL.run (by simp;rfl) ⟨_,by simp;rfl,?_⟩)
 refine⟨.inl rfl,?_⟩
 simp[ywt]
theorem zm3 (l:List Ev):SeeOk l .one 89 [.ptr 1000000 0 [] 0] (fun s:St=>zcx false s) (fun _=>[]) (fun _ _ t=>t) (fun _ _=>True) :=
 ⟨rfl,rfl,rfl,by simp,fun X k h=>by
  obtain⟨h1,b,h2⟩:=h (1000000,[]) (by simp)
  simp at h1 h2
  simp[h1,h2,z36],fun _ _ _ _ _ _ _=>trivial,fun _ a s u hu _ _ _=>zqe u a (z1g s l[u]).2⟩
theorem ykr (l:List Ev)(hE:EvOk l)(p c:Int):FnC Try.prog 30 [] [sEv l,i64 p,i64 c] [] (.tuple [z6l false (zhb l p c).1,bl (zhb l p c).2]):=by
 have hw:=zkh hE (zm3 l) p c (z1c p c) (fun _=>trivial)
 rw[z5a] at hw
 simp only[Sh.gs,Sh.fv] at hw
 refine wc yxx rfl ?_
 refine WL.sreg (by simp;rfl) (by simp;rfl) ?_
 refine w7 (RL.o (by simp;rfl) (n8 p c (by simp) (RL.o (by simp;rfl) (RL.nil ⟨_,by simp;rfl,?_⟩))))
 rw[zm1] at hw
 refine WL.raise 8 3 (by simp) (by simp;rfl) (by simp) ?_
 by_cases h0:za8 l p c=0
 ·have z:(za8 l p c != 0)=false:=by simp[h0]
  have hfin:zhb l p c=((z18 z8y () l p c).2.1,true):=by unfold zhb;rw[if_pos h0]
  rw[hfin]
  generalize (z18 z8y () l p c).2.1=s at hw ⊢
  generalize z1c p c=s0 at hw ⊢
  refine WL.seq (w7 (RL.o (by simp;rfl) (wn false [(800,[])] hw (by simp) (by simp) (by simp[z36]) (by simp) (by simp) (RL.o (by simp[z];rfl) (RL.nil ⟨_,by simp;rfl,?_⟩)))))
  refine WL.cond (t:=false) (by simp) (by simp) fun _=>WL.skip ?_
  refine WL.sreg (by simp;rfl) (by simp;rfl) (WL.ret ⟨.inr rfl,?_⟩)
  simp[yrs]
 ·have z:(za8 l p c != 0)=true:=by simp[h0]
  have hfin:zhb l p c=(⟨[],[],[]⟩,false):=by unfold zhb;rw[if_neg h0]
  rw[hfin]
  generalize (z18 z8y () l p c).2.1=s at hw ⊢
  generalize z1c p c=s0 at hw ⊢
  refine WL.seq (w7 (RL.o (by simp;rfl) (wn false [(800,[])] hw (by simp) (by simp) (by simp[z36]) (by simp) (by simp) (RL.o (by simp[z];rfl) (RL.nil ⟨_,by simp;rfl,?_⟩)))))
  refine WL.cond (t:=true) (by simp) (fun _=>?_) (by simp)
  refine WL.sreg (by simp;rfl) (by simp;rfl) (WL.nil1 601 false 1 (by simp) (WL.nil1 602 false 1 (by simp) (WL.nil1 603 false 1 (by simp) (WL.ret ⟨.inr rfl,?_⟩))))
  simp[yrs]
def flQ (e:Ev)(p:Int):Bool:=decide (e.op.Kind=7) || (decide (e.op.Kind=6) && decide (e.op.Page=p))
def thQ (t:St)(p:Int):Bool:=decide (0≤p) && t.There.getD p.toNat false
def zm4 (l:List Ev)(p:Int)(a:Int)(x:Int)(t:St):Int :=
 if (flQ (atE l x) p && (decide (0 < (atE l x).End) && (decide ((atE l x).res.Code=0) && thQ t p)))=true then max a (atE l x).Stamp else a
abbrev f1S (l:List Ev)(p a:Int)(t:St)(e:Ev)(r:SL):SL:=[(300,0,.vptr () [i64 p]),(400,0,.ptr 1000000 0 [] 0)] ++ (rcF 6 t ++ (bxE 7 e ++ (r ++ [(1000000,0,.bx true () [i64 a])])))
abbrev f1Q (v:Int):Ex→SL→Prop:=fun e L=>(e=Ex.nrm∨e=Ex.ret)∧RetOk zik.rs [.nod (.bx true () [i64 v])] (.tuple []) L
theorem zm5 (l:List Ev)(p a:Int)(t:St)(e:Ev)(fl:Bool)(v:Int)
  (hv:v=if (fl && (decide (0 < e.End) && (decide (e.res.Code=0) && thQ t p)))=true then max a e.Stamp else a) :
  WL Try.prog zik.nt zpz (f1S l p a t e [(800,0,bl fl)]) (f1Q v):=by
 have stop:∀ L,L=[(400,0,.ptr 1000000 0 [] 0)] ++ (bxE 7 e ++ [(5900,0,bl false),(1000000,0,.bx true () [i64 a])])→v=a→WL Try.prog zik.nt zv2 L (f1Q v):=by
  rintro L rfl rfl
  refine WL.cond (t:=false) (by simp) (by simp) fun _=>WL.skip ⟨.inl rfl,?_⟩
  simp[zik]
 cases fl with
 | false =>
  refine WL.sreg (by simp;rfl) (by simp;rfl) (stop _ (by simp) (by rw[hv];simp))
 | true =>
 by_cases k1:0 < e.End
 ·by_cases k2:e.res.Code=0
  ·have k2':(e.res.Code == 0)=true:=by simp[k2]
   by_cases k3:0≤p
   ·obtain⟨n,rfl⟩:=pt k3
    by_cases k4:n < t.There.length
    ·cases k5:t.There[n] with
     | true =>
      have ht:thQ t (n:Int)=true:=by simp[thQ,k4,k5]
      have hv':v=max a e.Stamp:=by rw[hv];simp[k1,k2,ht]
      refine WL.sreg (by simp[k1,k2',k4,k5];rfl) (by simp;rfl) ?_
      refine WL.cond (t:=true) (by simp) (fun _=>?_) (by simp)
      refine WL.reg (RL.run (by simp;rfl) ⟨_,by simp;rfl,.inl rfl,?_⟩)
      simp[zik,hv']
      split<;>omega
     | false =>
      have ht:thQ t (n:Int)=false:=by simp[thQ,k4,k5]
      refine WL.sreg (by simp[k1,k2',k4,k5];rfl) (by simp;rfl) (stop _ (by simp) (by rw[hv];simp[ht]))
    ·have ht:thQ t (n:Int)=false:=by simp[thQ,k4]
     refine WL.sreg (by simp[k1,k2',k4];rfl) (by simp;rfl) (stop _ (by simp) (by rw[hv];simp[ht]))
   ·have ht:thQ t p=false:=by simp[thQ,k3]
    refine WL.sreg (by simp[k1,k2',k3];rfl) (by simp;rfl) (stop _ (by simp) (by rw[hv];simp[ht]))
  ·have k2':(e.res.Code == 0)=false:=beq_false_of_ne k2
   refine WL.sreg (by simp[k1,k2'];rfl) (by simp;rfl) (stop _ (by simp) (by rw[hv];simp[k2]))
 ·refine WL.sreg (by simp[k1];rfl) (by simp;rfl) (stop _ (by simp) (by rw[hv];simp[k1]))
theorem zqf (l:List Ev)(p a:Int)(t:St)(u:Nat)(hu:u < l.length) :
  FnC Try.prog 114 [.nod (.bx true () [i64 a])] [i64 u,z6l false t,.vptr () [sEv l],.vptr () [i64 p],.ptr 1000000 0 [] 0] [.nod (.bx true () [i64 (zm4 l p a u t)])] (.tuple []):=by
 have f1:=z1r (o:=false) (r:=false) hu
 have g1:14≤l.length * 14 - u * 14:=by omega
 have hat:atE l (u:Int)=l[u]:=z59 hu
 refine wc yvd rfl ?_
 refine WL.sreg (by simp;rfl) (by simp;rfl) ?_
 refine WL.sreg (by simp[hu,f1,g1];rfl) (by simp;rfl) ?_
 have hsee:∀ fl,flQ l[u] p=fl→zm4 l p a u t=if (fl && (decide (0 < l[u].End) && (decide (l[u].res.Code=0) && thQ t p)))=true then max a l[u].Stamp else a:=fun fl hf=>by
  unfold zm4;rw[hat,hf]
 generalize zm4 l p a u t=v at hsee ⊢
 clear f1 g1 hat
 generalize l[u]=e at hsee ⊢
 have fin:∀ fl,flQ e p=fl→∀ L,L=f1S l p a t e [(800,0,bl fl)]→WL Try.prog zik.nt zpz L (f1Q v):=fun fl hf L hL=>by
  rw[hL];exact zm5 l p a t e fl v (hsee fl hf)
 by_cases k7:e.op.Kind=7
 ·have k7':(e.op.Kind == 7)=true:=by simp[k7]
  refine WL.sreg (by simp[k7'];rfl) (by simp;rfl) (fin true (by simp[flQ,k7]) _ (by simp))
 ·have k7':(e.op.Kind == 7)=false:=beq_false_of_ne k7
  by_cases k6:e.op.Kind=6
  ·have k6':(e.op.Kind == 6)=true:=by simp[k6]
   by_cases kp:e.op.Page=p
   ·have kp':(e.op.Page == p)=true:=by simp[kp]
    refine WL.sreg (by simp[k7',k6',kp'];rfl) (by simp;rfl) (fin true (by simp[flQ,k6,kp]) _ (by simp))
   ·have kp':(e.op.Page == p)=false:=beq_false_of_ne kp
    refine WL.sreg (by simp[k7',k6',kp'];rfl) (by simp;rfl) (fin false (by simp[flQ,k6,kp]) _ (by simp))
  ·have k6':(e.op.Kind == 6)=false:=beq_false_of_ne k6
   refine WL.sreg (by simp[k7',k6'];rfl) (by simp;rfl) (fin false (by simp[flQ,k6,k7]) _ (by simp))
def z2k (l:List Ev)(p c q:Int):Int:=if za8 l p c ≠ 0 then -1 else (z18 (zm4 l q) 0 l p c).2.2
theorem ziv (l:List Ev)(q:Int):SeeOk l .one 114 [.vptr () [sEv l],.vptr () [i64 q],.ptr 1000000 0 [] 0] (fun a:Int=>[i64 a]) (fun _=>[]) (zm4 l q) (fun _ _=>True) :=
 ⟨rfl,rfl,rfl,by simp,fun X k h=>by
  obtain⟨h1,b,h2⟩:=h (1000000,[]) (by simp)
  simp at h1 h2
  simp[h1,h2,z36],fun _ _ _ _ _ _ _=>trivial,fun _ a s u hu _ _ _=>zqf l q a (z1g s l[u]).2 u hu⟩
theorem zem (l:List Ev)(hE:EvOk l)(p c q:Int):FnC Try.prog 67 [] [sEv l,i64 p,i64 c,i64 q] [] (i64 (z2k l p c q)):=by
 have hw:=zkh hE (ziv l q) p c 0 (fun _=>trivial)
 rw[z5a] at hw
 simp only[Sh.gs,Sh.fv] at hw
 refine wc yye rfl ?_
 refine WL.sreg (by simp;rfl) (by simp;rfl) ?_
 refine WL.sreg (by simp;rfl) (by simp;rfl) ?_
 refine WL.raise 9 1 (by simp) (by simp;rfl) (by simp) ?_
 have eF:z2k l p c q=if za8 l p c ≠ 0 then -1 else (z18 (zm4 l q) 0 l p c).2.2:=rfl
 generalize (z18 (zm4 l q) 0 l p c).2.2=v at hw eF
 generalize z2k l p c q=r at eF ⊢
 refine w7 (RL.o (by simp;rfl) (wn true [(900,[])] hw (by simp) (by simp) (by simp[z36,y1h]) (by simp) (by simp) (RL.o (by simp;rfl) (RL.nil ⟨_,by simp;rfl,?_⟩))))
 by_cases h0:za8 l p c=0
 ·have z:(za8 l p c != 0)=false:=by simp[h0]
  have er:r=v:=by rw[eF,if_neg (by simpa using h0)]
  refine WL.seq (WL.sreg (by simp[z];rfl) (by simp;rfl) ?_)
  refine WL.cond (t:=false) (by simp) (by simp) fun _=>WL.skip ?_
  refine WL.sreg (by simp;rfl) (by simp;rfl) (WL.ret ⟨.inr rfl,?_⟩)
  simp[yux,er]
 ·have z:(za8 l p c != 0)=true:=by simp[h0]
  have er:r=-1:=by rw[eF,if_pos h0]
  refine WL.seq (WL.sreg (by simp[z];rfl) (by simp;rfl) ?_)
  refine WL.cond (t:=true) (by simp) (fun _=>?_) (by simp)
  refine WL.sreg (by simp;rfl) (by simp;rfl) (WL.ret ⟨.inr rfl,?_⟩)
  simp[yux,er]
theorem ztd (s:St)(c:Nat)(q:Op):(z4m s c q).1.There.length=s.There.length:=by
 simp only[z4m]
 repeat' split
 all_goals simp
theorem zki (s:St)(cl:Int)(q:Op):(DoB s cl q).2.1.There.length=s.There.length:=by
 unfold DoB
 repeat' split
 all_goals first | rfl | exact ztd _ _ _
theorem z8z (s:St)(e:Ev):(z1g s e).2.There.length=s.There.length:=by
 unfold z1g
 split
 ·rfl
 ·exact zki _ _ _
theorem RL.cut {P:Program}{nt:Nat}{L:SL}{K:SL→Prop}{segs segs':List Sg}(e:z21 segs=z21 segs')(h:RL P nt segs' L K):RL P nt segs L K:=by
 intro C ops idx hP hn hc
 rw[e] at hc
 exact h C ops idx hP hn hc
@[simp] theorem yyj:List.range 14=[0,1,2,3,4,5,6,7,8,9,10,11,12,13]:=rfl
theorem ziw {l:List Ev}(hn:l.length≤1000)(hd:∀ e ∈ l,e.op.Data=[]):EvOk l:=⟨hn,fun e he=>by rw[hd e he];simp⟩
theorem za9 {σ:Type}(see:σ→Int→St→σ)(a:σ){l:List Ev}{p c:Int}(h0:za8 l p c=0):z0v p c=false∧z18 see a l p c=goW l see (z1c p c) a (z1t l)∧(goW l see (z1c p c) a (z1t l)).1=0∧∀ j,j < l.length→z2a l j c=true:=by
 have h1:=z5a see a l p c
 rw[h0] at h1
 cases hb:z0v p c with
 | true=>unfold z18 at h1;rw[hb] at h1;simp at h1
 | false =>
  unfold z18 at h1 ⊢
  rw[hb] at h1 ⊢
  simp only[pu,if_false] at h1 ⊢
  cases hf:z4w l c with
  | some i=>rw [hf] at h1;simp only at h1;omega
  | none=>rw [hf] at h1;exact⟨trivial,rfl,h1,zgx hf⟩
def wrF (e:Ev)(s:St)(p:Int):Bool:=decide (e.op.Kind=4) && (decide (0≤e.op.Handle) && (decide (e.op.Handle < 6) && decide ((s.Handles.getD e.Client.toNat []).getD e.op.Handle.toNat 0=p)))
theorem zkj (e:Ev)(s:St)(h:OkSt s)(hc0:0≤e.Client)(hc1:e.Client < s.Handles.length)(p:Int):FnC Try.prog 155 [] [.agg (z02 false false e),z6l false s,i64 p] [] (bl (wrF e s p)):=by
 obtain⟨c,hc⟩:=pt hc0
 have hcl:c < s.Handles.length:=by omega
 have hcl':c+1≤s.Handles.length:=hcl
 have h6:s.Handles[c].length=6:=h.l6 _ (qb hcl)
 refine wc yvm rfl ?_
 refine WL.sreg (by simp;rfl) (by simp;rfl) ?_
 refine WL.sreg (by simp;rfl) (by simp;rfl) ?_
 by_cases k4:e.op.Kind=4
 ·have k4':(e.op.Kind == 4)=true:=by simp[k4]
  by_cases k1:0≤e.op.Handle
  ·obtain⟨n,hn⟩:=pt k1
   by_cases k2:n < 6
   ·have k2':(n:Int) < 6:=by omega
    have k2s:n+1≤6:=k2
    refine WL.sreg (by simp[k4',hn,k2,k2',k2s,hc,hcl,hcl',h6];rfl) (by simp;rfl) (WL.ret ⟨.inr rfl,?_⟩)
    simp[zq1,wrF,k4,hn,k2',hc,hcl,k2,h6]
    rfl
   ·have k2':¬ (n:Int) < 6:=by omega
    refine WL.sreg (by simp[k4',hn,k2,k2'];rfl) (by simp;rfl) (WL.ret ⟨.inr rfl,?_⟩)
    simp[zq1,wrF,k4,hn,k2']
  ·refine WL.sreg (by simp[k4',k1];rfl) (by simp;rfl) (WL.ret ⟨.inr rfl,?_⟩)
   simp[zq1,wrF,k1]
 ·have k4':(e.op.Kind == 4)=false:=beq_false_of_ne k4
  refine WL.sreg (by simp[k4'];rfl) (by simp;rfl) (WL.ret ⟨.inr rfl,?_⟩)
  simp[zq1,wrF,k4]
def zqg (bs:List (List UInt8))(b:List UInt8):Bool:=bs.any (· == b) || (bs.any (fun x=>x.take 4 == b.take 4) && bs.any (fun x=>x.drop 4 == b.drop 4))
abbrev myS (bs:List (List UInt8))(b:List UInt8)(f r:Bool)(i:Nat):SL:=[(100,0,sU false b),(500,0,bl f),(600,0,bl r),(1000,0,sUU false bs),(1100,0,i64 bs.length),(1200,0,i64 i)]
abbrev myQ (v:Bool):Ex→SL→Prop:=fun e L=>e=Ex.ret∧RetOk zlu.rs [] (bl v) L
theorem y1i (bs:List (List UInt8))(hn:bs.length≤100000)(h16:∀ x ∈ bs,x.length=16)(tn:Bool)(b:List UInt8)(hb:b.length=16):FnC Try.prog 118 [] [.agg [sUU false bs,bl tn],sU false b] [] (bl (zqg bs b)):=by
 refine wc yvg rfl ?_
 refine WL.mono (Q':=myQ (zqg bs b)) ?_ fun e L h=>⟨.inr h.1,h.2⟩
 refine WL.sreg (by simp;rfl) (by simp;rfl) ?_
 refine WL.scope (WL.sreg (by simp;rfl) (by simp;rfl) ?_)
 refine WL.seq (WL.label ?_)
 refine WL.seq (WL.sreg (by simp;rfl) (by simp;rfl) ?_)
 refine WL.block (we bs.length (fun i=>myS bs b ((bs.take i).any (fun x=>x.take 4 == b.take 4)) ((bs.take i).any (fun x=>x.drop 4 == b.drop 4)) i) (fun i=>(bs.take i).any (· == b)=false) (by simp) (by simp) fun i hi hno=>?_)
 by_cases h:i < bs.length
 ·have w:IntKind.wrap .i64 ((i:Int)+1)=((i+1:Nat):Int):=by rw[z01 (by omega) (by omega)];omega
  have hx:=h16 _ (qb h)
  have e1:∀ p:List UInt8→Bool,(bs.take (i+1)).any p=((bs.take i).any p || p bs[i]):=fun p=>by
   rw[r6 h,List.any_append];simp
  have heq:=z3g bs[i] b
  have ha:=z3g (bs[i].take 4) (b.take 4)
  have hz:=z3g (bs[i].drop 4) (b.drop 4)
  rw[e1,e1,e1]
  have hany:bs.any (· == b)=true∨(bs[i] == b)=false:=by
   cases hq:(bs[i] == b) with
   | false=>exact .inr rfl
   | true=>exact .inl (List.any_eq_true.2 ⟨_,qb h,hq⟩)
  generalize (bs.take i).any (fun x=>x.take 4 == b.take 4)=f
  generalize (bs.take i).any (fun x=>x.drop 4 == b.drop 4)=r
  clear e1
  generalize hbx:bs[i]=x at hx hany heq ha hz ⊢
  have t1:List.take 4 (List.map (fun b=>u8 (b.toNat:Int)) x)=bm (x.take 4):=by rw[bm,List.map_take]
  have t2:List.take 4 (List.map (fun b=>u8 (b.toNat:Int)) b)=bm (b.take 4):=by rw[bm,List.map_take]
  have t3:List.take 12 (List.drop 4 (List.map (fun b=>u8 (b.toNat:Int)) x))=bm (x.drop 4):=by rw[bm,List.map_drop,pp (by simp[hx])]
  have t4:List.take 12 (List.drop 4 (List.map (fun b=>u8 (b.toNat:Int)) b))=bm (b.drop 4):=by rw[bm,List.map_drop,pp (by simp[hb])]
  have l1:(x.take 4).length=4:=by simp[hx]
  have l2:(b.take 4).length=4:=by simp[hb]
  have l3:(x.drop 4).length=12:=by simp[hx]
  have l4:(b.drop 4).length=12:=by simp[hb]
  refine WL.sreg (by simp[h];rfl) (by simp;rfl) ?_
  refine WL.seq (WL.cond (t:=true) (by simp[h]) (fun _=>WL.skip ?_) (by simp))
  refine WL.seq (WL.block (WL.sreg (by simp[h,hbx];rfl) (by simp;rfl) ?_))
  refine WL.seq (w7 (RL.o (by simp;rfl) (RL.call0 false heq (by simp) (by simp) (RL.nil ⟨_,by simp;rfl,?_⟩))))
  cases q0:(x == b) with
  | true =>
   refine WL.cond (t:=true) (by simp[q0]) (fun _=>?_) (by simp)
   refine WL.sreg (by simp;rfl) (by simp;rfl) (WL.ret ⟨rfl,?_⟩)
   have:zqg bs b=true:=by
    rcases hany with hany | hany
    ·simp[zqg,hany]
    ·rw[q0] at hany;cases hany
   simp[zlu,this]
  | false =>
   refine WL.cond (t:=false) (by simp[q0]) (by simp) fun _=>WL.skip ?_
   refine WL.seq (WL.seq ?_)
   generalize x.take 4=xa at *
   generalize b.take 4=ba at *
   generalize x.drop 4=xd at *
   generalize b.drop 4=bd at *
   have hno':(((bs.take i).any fun x=>x == b) || false)=false:=by rw[hno];rfl
   have last:∀ f',f'=(f || xa == ba)→∀ L,L=[(100,0,sU false b),(500,0,bl f'),(600,0,bl r),(800,0,sU false x),(1000,0,sUU false bs),(1100,0,i64 bs.length),(1200,0,i64 i)]→∀ Q,(∀ L',L'=myS bs b (f || xa == ba) (r || xd == bd) (i+1)→Q Ex.nrm L') →
     WL Try.prog zlu.nt zv5 L (wj 1 (wg (fun L'=>WL Try.prog zlu.nt zv6 L' Q) Q)):=fun f' hf L hL Q hQ=>by
    subst hL hf
    refine WL.seq (WL.seq (WL.draw z0t (by simp[z0b,noH]) (DL.o (by simp[hx,hb,t3,t4];exact⟨rfl,rfl⟩) (DL.call0 false hz (by simp[l3,l4]) (by simp) (DL.o (by simp;exact⟨rfl,rfl⟩) (DL.nil ⟨by kernel_rfl,_,by simp;rfl,?_⟩))))))
    cases q2:(xd == bd) with
    | true =>
     refine WL.cond (t:=false) (by simp) (by simp) fun _=>WL.skip ?_
     refine WL.reg (RL.run (by simp;rfl) ⟨_,by simp;rfl,?_⟩)
     refine WL.reg (RL.run (by simp[w];rfl) ⟨_,by simp;rfl,hQ _ (by simp[q2])⟩)
    | false =>
     refine WL.cond (t:=true) (by simp) (fun _=>WL.fin [29] (by simp;rfl) (WL.exit ?_)) (by simp)
     refine WL.reg (RL.run (by simp[w];rfl) ⟨_,by simp;rfl,hQ _ (by simp[q2])⟩)
   refine WL.draw z0t (by simp[z0b,noH]) (DL.o (by simp[hx,hb,t1,t2];exact⟨rfl,rfl⟩) (DL.call0 false ha (by simp[l1,l2]) (by simp) (DL.nil ⟨by kernel_rfl,_,by simp;rfl,?_⟩)))
   cases q1:(xa == ba) with
   | true =>
    refine WL.cond (t:=true) (by simp[q1]) (fun _=>?_) (by simp)
    refine WL.reg (RL.run (by simp;rfl) ⟨_,by simp;rfl,?_⟩)
    refine last true (by simp[q1]) _ (by simp[hx]) _ fun L' hL'=>⟨h,?_,hno'⟩
    rw[hL',q1]
   | false =>
    refine WL.cond (t:=false) (by simp[q1]) (by simp) fun _=>WL.skip ?_
    refine WL.fin [23] (by simp;rfl) (last f (by simp[q1]) _ (by simp[hx]) _ fun L' hL'=>⟨h,?_,hno'⟩)
    rw[hL',q1]
 ·obtain rfl:i=bs.length:=by omega
  rw[List.take_length] at hno ⊢
  refine WL.sreg (by simp;rfl) (by simp;rfl) ?_
  refine WL.seq (WL.cond (t:=false) (by simp) (by simp) fun _=>WL.exit ?_)
  have hv:zqg bs b=(bs.any (fun x=>x.take 4 == b.take 4) && bs.any (fun x=>x.drop 4 == b.drop 4)):=by unfold zqg;rw[hno];rfl
  rw[hv]
  generalize bs.any (fun x=>x.take 4 == b.take 4)=f
  generalize bs.any (fun x=>x.drop 4 == b.drop 4)=r
  cases f<;>refine WL.sreg (by simp;rfl) (by simp;rfl) (WL.ret ⟨rfl,?_⟩)<;>simp [zlu]
structure SeeN {σ:Type} (l:List Ev) (c:Int) (f:Nat) (cps:List AU) (B D:σ→List AU) (see:σ→Int→St→σ) (Inv:Nat→σ→St→Prop):Prop where
 no:z0n cps=true
 root:z5n (Sh.two.ks.map (·.1)) cps=true
 roots:z1a cps=Sh.two.ks.map (·.1)
 len:cps.length≤1000
 tr:∀ (X:XF Unit) (k:Nat),(∀ e ∈ Sh.two.ks,(X e.1).1=0∧∃ b,(X e.1).2=.bx true () b)→trL X Sh.two.ks false k cps=some cps
 inv:∀ j a s (u:Nat) (hu:u < l.length),z2a l u c=true→OkSt s→Inv j a s→(z1g s l[u]).1=true→Inv (j+1) (see a u (z1g s l[u]).2) (z1g s l[u]).2
 fn:∀ j a s (u:Nat) (hu:u < l.length),j < l.length→z2a l u c=true→OkSt s→Inv j a s→(z1g s l[u]).1=true →
  FnC Try.prog f (Sh.two.gs (B a) (D a)) ([i64 u,z6l false (z1g s l[u]).2] ++ cps) (Sh.two.gs (B (see a u (z1g s l[u]).2)) (D (see a u (z1g s l[u]).2))) (.tuple [])
section
variable {σ:Type} {l:List Ev} {c:Int} {f:Nat} {cps:List AU} {B D:σ→List AU} {see:σ→Int→St→σ} {Inv:Nat→σ→St→Prop}
theorem zqh (hS:SeeN l c f cps B D see Inv)(s:St)(h:OkSt s)(a:σ)(j0:Nat)(hj0:j0 < l.length)(hi:Inv j0 a s)(u:Nat)(hu:u < l.length)(ht:z2a l u c=true)(hr:(z1g s l[u]).1=true)(j:Nat)(K:SL→Prop)
  (hK:K (wkT l (Sh.two.fv f cps) (z1g s l[u]).2 j (Sh.two.gh (B (see a u (z1g s l[u]).2)) (D (see a u (z1g s l[u]).2))))) :
  WL Try.prog z8e.nt zd3 ([(0,0,sEv l),(300,0,Sh.two.fv f cps)] ++ (rcF 9 (z1g s l[u]).2 ++ ([(1200,0,i64 u),(3600,0,sI true (z1t l)),(3700,0,i64 (z1t l).length),(3800,0,i64 j)] ++ Sh.two.gh (B a) (D a)))) (fun e L=>(e=.nrm∨e=.ext 3)∧K L):=by
 have e1:=hS.no
 have e2:=hS.root
 have e3:=hS.tr
 have e4:=hS.len
 have e5:=hS.roots
 have hf:=hS.fn j0 a s u hu hj0 ht h hi hr
 generalize (z1g s l[u]).2=t at *
 simp at e2 e3 e5 hf
 refine WL.seq (WL.sreg (by simp[e1];rfl) (by simp[e5];rfl) ?_)
 refine WL.cond (t:=false) (by simp) (by simp) fun _=>WL.skip ?_
 refine WL.reg (RL.o (by simp[e1];rfl) (nf (f:=f) (cps:=cps) false [(1000000,[]),(1000100,[])] (by simp) hf (by simp) (by simp) ?_ (by simp;omega) ?_ ?_ (RL.nil ⟨_,by simp[e5];rfl,?_⟩)))
 ·simp[e1]
  rw[e3 _ _ (by simp) _ (by simp;rfl) (by simp) _ (by simp;rfl)]
  simp
 ·simp
 ·simp[e2]
 ·simpa using hK
theorem zgy (hE:EvOk l)(hS:SeeN l c f cps B D see Inv)(s0:St)(h0:OkSt s0)(a0:σ)(i0:Inv 0 a0 s0)(hT:∀ j,j < l.length→z2a l j c=true)(n:Nat) :
  WL Try.prog z8e.nt zk0 (wkS l c (Sh.two.fv f cps) s0 ([(2300,0,i64 n),(2400,0,i64 n),(2500,0,bl false)] ++ Sh.two.gh (B a0) (D a0))) (wkQ (Sh.two.gs (B (goW l see s0 a0 (z1t l)).2.2) (D (goW l see s0 a0 (z1t l)).2.2)) (goW l see s0 a0 (z1t l)).1):=by
 have hn:=hE.n
 have hOl:=z86 l
 have e1:=hS.no
 have e5:=hS.roots
 simp at e5
 have hsee:=fun s h a j0 hj0 hi u hu ht hr j=>zqh hS s h a j0 hj0 hi u hu ht hr j
 have hI:=fun j a s u hu ht h hi hr=>hS.inv j a s u hu ht h hi hr
 refine WL.seq (w7 (RL.o (by simp;rfl) (RL.call0 false (zeg l hn) (by simp) (by simp) (RL.o (by simp;rfl) (RL.nil ⟨_,by simp[e5];rfl,?_⟩)))))
 refine WL.block (WL.loop (ι:={x:Nat × St × σ // x.1≤(z1t l).length∧OkSt x.2.1∧Inv x.1 x.2.2 x.2.1∧goW l see x.2.1 x.2.2 ((z1t l).drop x.1)=goW l see s0 a0 (z1t l)}) (fun x=>wkT l (Sh.two.fv f cps) x.1.2.1 x.1.1 (Sh.two.gh (B x.1.2.2) (D x.1.2.2))) (fun x=>(z1t l).length - x.1.1) ⟨(0,s0,a0),rh _,h0,i0,rfl⟩ (by simp) fun x=>?_)
 obtain⟨⟨j,s,a⟩,hj,hs,hia,hg⟩:=x
 simp only at hj hs hg hia ⊢
 by_cases hlt:j < (z1t l).length
 ·obtain⟨u,hu,eu⟩:=zek hlt
  have f1:=z1r (o:=false) (r:=false) hu
  have g1:14≤l.length * 14 - u * 14:=by omega
  have hlt':j+1≤(z1t l).length:=hlt
  have w:IntKind.wrap .i64 ((j:Int)+1)=((j+1:Nat):Int):=by rw[z01 (by omega) (by omega)];omega
  have w2:IntKind.wrap .i64 ((u:Int)+1)=(u:Int)+1:=by rw[z01 (by omega) (by omega)]
  have hE0:=zbs hu (hT u hu)
  have hse:=hsee s hs a j (by omega) hia u hu (hT u hu)
  have hI':=hI j a s u hu (hT u hu) hs hia
  rw[s6 hlt] at hg
  simp only[goW,eu,z59 hu] at hg
  have hok:=z6i hs l[u]
  have tail:∀ t,z1u s l[u]=some t→∀ Q,(∀ e,(e=.nrm∨e=.ext 3)→Q e (wkT l (Sh.two.fv f cps) t j (Sh.two.gh (B (see a u t)) (D (see a u t)))))→WL Try.prog z8e.nt zd3 ([(0,0,sEv l),(300,0,Sh.two.fv f cps)] ++ (rcF 9 t ++ ([(1200,0,i64 u),(3600,0,sI true (z1t l)),(3700,0,i64 (z1t l).length),(3800,0,i64 j)] ++ Sh.two.gh (B a) (D a)))) Q:=by
   intro t ht Q hQ
   obtain⟨q1,q2⟩:=z46 hE0 ht
   have:=hse q1 j (fun L=>L=wkT l (Sh.two.fv f cps) t j (Sh.two.gh (B (see a u t)) (D (see a u t)))) (by rw[q2])
   rw[q2] at this
   refine WL.mono this ?_
   rintro e L ⟨he,rfl⟩
   exact hQ e he
  refine WL.sreg (by simp[hlt];rfl) (by simp[e5];rfl) ?_
  refine WL.seq (WL.cond (t:=true) (by simp[hlt]) (fun _=>WL.skip ?_) (by simp))
  refine WL.seq (WL.block (WL.sreg (by simp[hlt,hlt',eu];rfl) (by simp[e5];rfl) ?_))
  refine WL.sreg (by simp[hlt,hlt',eu,hu,f1,g1];rfl) (by simp[e5];rfl) ?_
  refine w7 (RL.o (by simp;rfl) (nr s hs.sized l[u].Client l[u].op (by simp) (RL.o (by simp;rfl) (RL.nil ⟨_,by simp[e5];rfl,?_⟩))))
  have adv:∀ t,z1u s l[u]=some t→∀ Q,(∀ L,(∃ y:{x:Nat × St × σ // x.1≤(z1t l).length∧OkSt x.2.1∧Inv x.1 x.2.2 x.2.1∧goW l see x.2.1 x.2.2 ((z1t l).drop x.1)=goW l see s0 a0 (z1t l)},L=wkT l (Sh.two.fv f cps) y.1.2.1 y.1.1 (Sh.two.gh (B y.1.2.2) (D y.1.2.2))∧(z1t l).length - y.1.1 < (z1t l).length - j)→Q Ex.nrm L)→WL Try.prog z8e.nt zjz (wkT l (Sh.two.fv f cps) t j (Sh.two.gh (B (see a u t)) (D (see a u t)))) Q:=by
   intro t ht Q hQ
   obtain⟨q1,q2⟩:=z46 hE0 ht
   have hI2:=hI' q1
   rw[q1] at hg
   simp only[if_true] at hg
   rw[q2] at hg hI2 hok
   refine WL.reg (RL.run (by simp[w];rfl) ⟨_,by simp[e5];rfl,hQ _ ?_⟩)
   exact⟨⟨(j+1,t,see a u t),hlt,hok,hI2,hg⟩,by simp,by simp only;omega⟩
  refine WL.seq ?_
  by_cases p:l[u].End=0
  ·have z:(l[u].End == 0)=true:=by simp[p]
   have ht:z1u s l[u]=some (DoB s l[u].Client l[u].op).2.1:=by simp[z1u,p]
   refine WL.block (w7 (RL.o (by simp[z];rfl) (RL.g (by simp;rfl) (RL.callN (by simp) (RL.o (by simp;rfl) (RL.nil ⟨_,by simp[e5];rfl,?_⟩))))))
   refine WL.cond (t:=true) (by simp) (fun _=>?_) (by simp)
   refine WL.reg (RL.run (by simp;rfl) ⟨_,by simp[e5];rfl,?_⟩)
   refine tail _ ht _ ?_
   intro e he
   rcases he with rfl | rfl
   ·exact adv _ ht _ fun L h=>h
   ·exact adv _ ht _ fun L h=>h
  ·have z:(l[u].End == 0)=false:=beq_false_of_ne p
   have hsr:=z45 (DoB s l[u].Client l[u].op).2.2 l[u].res
   cases hv:z1z (DoB s l[u].Client l[u].op).2.2 l[u].res with
   | true =>
    rw[hv] at hsr
    have ht:z1u s l[u]=some (DoB s l[u].Client l[u].op).2.1:=by simp[z1u,hv]
    refine WL.block (w7 (RL.o (by simp[z];rfl) (RL.g (by simp;rfl) (RL.callY0 false (by simp) hsr (by simp) (by simp) (RL.o (by simp;rfl) (RL.nil ⟨_,by simp[e5];rfl,?_⟩))))))
    refine WL.cond (t:=true) (by simp) (fun _=>?_) (by simp)
    refine WL.reg (RL.run (by simp;rfl) ⟨_,by simp[e5];rfl,?_⟩)
    refine tail _ ht _ ?_
    intro e he
    rcases he with rfl | rfl
    ·exact adv _ ht _ fun L h=>h
    ·exact adv _ ht _ fun L h=>h
   | false =>
    rw[hv] at hsr
    refine WL.block (w7 (RL.o (by simp[z];rfl) (RL.g (by simp;rfl) (RL.callY0 false (by simp) hsr (by simp) (by simp) (RL.o (by simp;rfl) (RL.nil ⟨_,by simp[e5];rfl,?_⟩))))))
    refine WL.cond (t:=false) (by simp) (by simp) fun _=>?_
    have hb:=zq9 l[u].op l[u].res.Code
    have hp:=z45 l[u].res (rsE l[u].res.Code)
    cases hbad:zeh l[u].op.Kind l[u].res.Code with
    | false =>
     rw[hbad] at hb
     have ht:z1u s l[u]=none:=by simp[z1u,p,hv,hbad]
     have hr:=z47 hE0 ht
     rw[hr] at hg
     simp only[pu,if_false] at hg
     refine w7 (RL.o (by simp;rfl) (RL.call0 false hb (by simp) (by simp) (RL.o (by simp;rfl) (RL.g (by simp;rfl) (RL.callN (by simp) (RL.g (by simp;rfl) (RL.o (by simp;rfl) (RL.nil ⟨_,by simp[e5];rfl,?_⟩))))))))
     refine WL.cond (t:=true) (by simp) (fun _=>?_) (by simp)
     refine WL.sreg (by simp[w2];rfl) (by simp[e5];rfl) (WL.ret ⟨rfl,?_⟩)
     simp[z8e,← hg]
    | true =>
     rw[hbad] at hb
     cases hpl:z1z l[u].res (rsE l[u].res.Code) with
     | false =>
      rw[hpl] at hp
      have ht:z1u s l[u]=none:=by simp[z1u,p,hv,hbad,hpl]
      have hr:=z47 hE0 ht
      rw[hr] at hg
      simp only[pu,if_false] at hg
      refine w7 (RL.o (by simp;rfl) (RL.call0 false hb (by simp) (by simp) (RL.o (by simp;rfl) (RL.g (by simp;rfl) (RL.nilA 80 3 1 (by simp;rfl) rfl rfl (RL.callY0 false (by simp) hp (by simp[rsE]) (by simp) (RL.g (by simp;rfl) (RL.o (by simp;rfl) (RL.nil ⟨_,by simp[e5];rfl,?_⟩)))))))))
      refine WL.cond (t:=true) (by simp) (fun _=>?_) (by simp)
      refine WL.sreg (by simp[w2];rfl) (by simp[e5];rfl) (WL.ret ⟨rfl,?_⟩)
      simp[z8e,← hg]
     | true =>
      rw[hpl] at hp
      have ht:z1u s l[u]=some s:=by simp[z1u,p,hv,hbad,hpl]
      refine w7 (RL.o (by simp;rfl) (RL.call0 false hb (by simp) (by simp) (RL.o (by simp;rfl) (RL.g (by simp;rfl) (RL.nilA 80 3 1 (by simp;rfl) rfl rfl (RL.callY0 false (by simp) hp (by simp[rsE]) (by simp) (RL.g (by simp;rfl) (RL.o (by simp;rfl) (RL.nil ⟨_,by simp[e5];rfl,?_⟩)))))))))
      refine WL.cond (t:=false) (by simp) (by simp) fun _=>WL.skip ?_
      refine WL.fin [66] (by simp[e5]) (tail _ ht _ ?_)
      intro e he
      rcases he with rfl | rfl
      ·exact adv _ ht _ fun L h=>h
      ·exact adv _ ht _ fun L h=>h
 ·obtain rfl:j=(z1t l).length:=by omega
  rw[List.drop_length] at hg
  simp only[goW] at hg
  refine WL.sreg (by simp;rfl) (by simp[e5];rfl) ?_
  refine WL.seq (WL.cond (t:=false) (by simp) (by simp) fun _=>WL.exit ?_)
  refine WL.sreg (by simp;rfl) (by simp[e5];rfl) (WL.ret ⟨rfl,?_⟩)
  simp[z8e,← hg]
theorem zqi (hE:EvOk l)(hS:SeeN l c f cps B D see Inv)(p:Int)(a:σ)(hI:z0v p c=false→Inv 0 a (z1c p c)) :
  FnC Try.prog 88 (Sh.two.gs (B a) (D a)) [sEv l,i64 p,i64 c,Sh.two.fv f cps] (Sh.two.gs (B (z18 see a l p c).2.2) (D (z18 see a l p c).2.2)) (i64 (z18 see a l p c).1):=by
 have hn:=hE.n
 have e5:=hS.roots
 simp at e5
 have hms:=zcy (z1c p c) (z73 p c)
 rw[zis] at hms
 refine wc ytg rfl ?_
 refine WL.mono (Q':=wkQ (Sh.two.gs (B (z18 see a l p c).2.2) (D (z18 see a l p c).2.2)) (z18 see a l p c).1) ?_ fun x L h=>⟨.inr h.1,h.2⟩
 refine WL.sreg (by simp;rfl) (by simp[e5];rfl) ?_
 refine WL.scope ?_
 refine w7 (RL.o (by simp;rfl) (n8 p c (by simp) (RL.o (by simp;rfl) (RL.nil ⟨_,by simp[e5];rfl,?_⟩))))
 cases hb:z0v p c with
 | true =>
  rw[hb] at hms
  refine WL.seq (w7 (RL.o (by simp;rfl) (RL.call0 false hms (by simp) (by simp) (RL.o (by simp;rfl) (RL.nil ⟨_,by simp[e5];rfl,?_⟩)))))
  refine WL.cond (t:=true) (by simp) (fun _=>?_) (by simp)
  refine WL.sreg (by simp;rfl) (by simp[e5];rfl) (WL.ret ⟨rfl,?_⟩)
  simp[z8e,z18,hb]
 | false =>
  rw[hb] at hms
  have hok:=z3u hb
  have i0:=hI hb
  refine WL.seq (w7 (RL.o (by simp;rfl) (RL.call0 false hms (by simp) (by simp) (RL.o (by simp;rfl) (RL.nil ⟨_,by simp[e5];rfl,?_⟩)))))
  refine WL.cond (t:=false) (by simp) (by simp) fun _=>WL.skip ?_
  refine WL.seq (WL.sreg (by simp;rfl) (by simp[e5];rfl) ?_)
  unfold z18
  rw[hb]
  simp only[pu,if_false]
  generalize z1c p c=s0 at hok i0 ⊢
  refine WL.block (we l.length (fun i=>wkS l c (Sh.two.fv f cps) s0 ([(2300,0,i64 l.length),(2400,0,i64 i)] ++ Sh.two.gh (B a) (D a))) (fun i=>∀ j,j < i→z2a l j c=true) rfl (fun j h=>absurd h (ra _)) fun i hi hp=>?_)
  by_cases hlt:i < l.length
  ·have w:IntKind.wrap .i64 ((i:Int)+1)=((i+1:Nat):Int):=by rw[z01 (by omega) (by omega)];omega
   have ha:=zel l hn i hlt c
   refine WL.sreg (by simp[hlt];rfl) (by simp[e5];rfl) ?_
   refine WL.seq (WL.cond (t:=true) (by simp[hlt]) (fun _=>WL.skip ?_) (by simp))
   refine WL.seq (WL.block (WL.sreg (by simp[hlt];rfl) (by simp[e5];rfl) ?_))
   cases ht:z2a l i c with
   | true =>
    rw[ht] at ha
    refine w7 (RL.o (by simp;rfl) (RL.call0 false ha (by simp) (by simp) (RL.o (by simp;rfl) (RL.nil ⟨_,by simp[e5];rfl,?_⟩))))
    refine WL.cond (t:=false) (by simp) (by simp) fun _=>WL.skip ?_
    refine WL.reg (RL.run (by simp[w];rfl) ⟨_,by simp[e5];rfl,hlt,?_,fun j hj=>?_⟩)
    ·simp
    ·by_cases e:j=i
     ·subst e;exact ht
     ·exact hp j (by omega)
   | false =>
    rw[ht] at ha
    have hf:=z5l hlt hp ht
    refine w7 (RL.o (by simp;rfl) (RL.call0 false ha (by simp) (by simp) (RL.o (by simp;rfl) (RL.nil ⟨_,by simp[e5];rfl,?_⟩))))
    refine WL.cond (t:=true) (by simp) (fun _=>?_) (by simp)
    refine WL.sreg (by simp[w];rfl) (by simp[e5];rfl) (WL.ret ⟨rfl,?_⟩)
    simp[z8e,hf]
  ·obtain rfl:i=l.length:=by omega
   have hf:=z34 hp
   rw[hf]
   refine WL.sreg (by simp;rfl) (by simp[e5];rfl) ?_
   refine WL.seq (WL.cond (t:=false) (by simp) (by simp) fun _=>WL.exit ?_)
   refine WL.seq (WL.label ?_)
   exact zgy hE hS s0 hok a i0 hp l.length
end
section
variable {C:Ctx} {X:XF LO} {β:Nat→Nat × Nat} {I:z12} {rg:Nat→Value} {w:World}
theorem RelL.down (R:RelL C X β I rg w)(r b:Nat)(hb:b < 10000)(l:Loc)(cs:List AL)(hX:(X (100 * r)).2=.bx true (some l) cs)(hp:(X (100 * b)).2=.ptr (100 * r) (X (100 * r)).1 [] 0)(hn:cs.length≤98) :
  RelL C (((X.box b cs).set (100 * r) (.bptr b ((X (100 * b+99)).1+1) 0)).set (100 * b) (.bptr b ((X (100 * b+99)).1+1) 0)) (fun j=>if j=b then (l.b,l.o) else β j) I rg w:=by
 have hk:=R.key (100 * r)
 have hm:=hk.mem
 have hs:=hk.sep
 have hr:=R.reg r
 have hrb:=R.reg b
 rw[hX] at hm hs hr
 rw[hp] at hrb
 simp only[Mem] at hm
 simp only[Sep] at hs
 simp only[RR,CR] at hr
 simp only[RR] at hrb
 have hrb:=hrb.2 trivial
 rw[show (z0o (X (100 * r)).2 [])=some (X (100 * r)).2 from rfl,hX] at hrb
 simp only[po,Go.OT.hd,pe,qt] at hrb
 obtain⟨s0,l0,z0,n0,⟨_,e1,_,_⟩,hrb⟩:=hrb
 subst e1
 have hmem:=z0e.1 hm
 have hsep:=z09.1 hs.2
 have hfpX:∀ b' o',fp (.bx true (some l) cs) b' o'→kfp β X (100 * r) b' o':=fun b' o' h=>.inl (by rw[hX];exact h)
 have hown:∀ i,i < cs.length→kfp β X (100 * r) l.b (l.o+i):=fun i hi=>hfpX _ _ (by simp only[fp];exact .inl ⟨trivial,by omega,by omega⟩)
 have hold:∀ c b' o',c ∈ cs→fp c b' o'→kfp β X (100 * r) b' o':=fun c b' o' hc h=>hfpX _ _ (by simp only[fp];exact .inr (z04.2 ⟨c,hc,h⟩))
 generalize hβ':(fun j=>if j=b then (l.b,l.o) else β j)=β'
 have hβb:β' b=(l.b,l.o):=by subst hβ';simp
 have hβn:∀ j,j ≠ b→β' j=β j:=by intro j hj;subst hβ';simp[hj]
 have hKY:Keeps X (X.box b cs) β β':=by
  refine⟨fun k=>?_,fun k he p a ha=>?_,fun b' he=>?_⟩
  ·simp only[XF.box];split
   ·split
    ·simp
    ·exact zve _
   ·exact pr _
  ·simp only[XF.box] at he ⊢
   split at he
   ·rename_i hc
    rw[if_pos hc]
    split at he
    ·omega
    ·have:=z3m ha
     have e1:nx (X k)=(X k).1+1:=by unfold nx;rw[this];rfl
     simp only[e1] at he
     omega
   ·rename_i hc;rw[if_neg hc];exact ha
  ·by_cases hbb:b'=b
   ·subst hbb
    simp only[XF.box] at he
    rw[if_pos ⟨by omega,by omega⟩,if_pos (by omega)] at he
    omega
   ·exact hβn b' hbb
 generalize hg':(X (100 * b+99)).1+1=g'
 generalize hZ:((X.box b cs).set (100 * r) (.bptr b g' 0)).set (100 * b) (.bptr b g' 0)=Z
 have hK:Keeps X Z β β':=by
  rw[← hZ]
  exact (hKY.trans (z05 _ β' (100 * r) _)).trans (z05 _ β' (100 * b) _)
 have hcellZ:∀ k,k % 100 ≠ 0→Z k=(X.box b cs) k:=fun k hk=>by
  rw[← hZ,w9 _ _ (by omega),w9 _ _ (by omega)]
 have hkey:∀ i,i < 98→(Z (100 * b+1+i)).2=cs.getD i .non:=by
  intro i hi
  rw[hcellZ _ (by omega)]
  simp only[XF.box]
  rw[if_pos ⟨by omega,by omega⟩,if_neg (by omega)]
  simp only[show (100 * b+1+i) % 100 - 1=i by omega]
 have hform:∀ k,k / 100=b→k % 100 ≠ 0→k % 100 ≠ 99→∃ i,i < 98∧k=100 * b+1+i:=fun k h1 h2 h3=>⟨k % 100 - 1,by omega,by omega⟩
 have hZ99:Z (100 * b+99)=(g',.non):=by
  rw[hcellZ _ (by omega)]
  simp only[XF.box]
  rw[if_pos ⟨by omega,by omega⟩,if_pos (by omega),hg']
 have h99:(Z (100 * b+99)).2=.non:=by rw[hZ99]
 have hZr:∀ t,t=r∨t=b→(Z (100 * t)).2=.bptr b g' 0:=by
  rintro t ht
  rw[← hZ]
  by_cases e:t=b
  ·subst e;rw[wa]
  ·rcases ht with rfl | ht
   ·rw[w9 _ _ (by omega),wa]
   ·exact absurd ht e
 have hno:∀ t,t=r∨t=b→∀ b' o',¬ kfp β' Z (100 * t) b' o':=by
  intro t ht b' o' hb'
  rcases hb' with hb' | ⟨hc,_⟩
  ·rw[hZr t ht] at hb';simp[fp] at hb'
  ·exact z0d t hc
 have hno99:∀ b' o',¬ kfp β' Z (100 * b+99) b' o':=by
  intro b' o' hb'
  rcases hb' with hb' | ⟨hc,_⟩
  ·rw[h99] at hb';simp[fp] at hb'
  ·exact hc.2 (by omega)
 have hgetD:∀ i c,cs[i]?=some c→cs.getD i .non=c:=fun i c hc=>by simp[ph,hc]
 have hcase:∀ i,i < 98→∀ b' o',kfp β' Z (100 * b+1+i) b' o'→∃ c,cs[i]?=some c∧(fp c b' o'∨(b'=l.b∧o'=l.o+i)):=by
  intro i hi b' o' hb'
  cases hc:cs[i]? with
  | none =>
   have hg:cs.getD i .non=.non:=by simp[ph,hc]
   rcases hb' with hb' | ⟨_,hne,_⟩
   ·rw[hkey i hi,hg] at hb';simp[fp] at hb'
   ·exact absurd ((hkey i hi).trans hg) hne
  | some c =>
   refine⟨c,rfl,?_⟩
   rcases hb' with hb' | ⟨_,_,h3⟩
   ·rw[hkey i hi,hgetD i c hc] at hb';exact .inl hb'
   ·simp only[zcb,show (100 * b+1+i) / 100=b by omega,hβb,show (100 * b+1+i) % 100 - 1=i by omega] at h3
    exact .inr ⟨h3.1,h3.2⟩
 have hcell:∀ k,(k / 100=b∧k % 100 ≠ 0)→∀ b' o',kfp β' Z k b' o'→∃ i c,i < 98∧k=100 * b+1+i∧cs[i]?=some c∧(fp c b' o'∨(b'=l.b∧o'=l.o+i)):=by
  rintro k ⟨h1,h2⟩ b' o' hb'
  by_cases h3:k % 100=99
  ·have:k=100 * b+99:=by omega
   subst this;exact absurd hb' (hno99 b' o')
  ·obtain⟨i,hi,rfl⟩:=hform k h1 h2 h3
   obtain⟨c,hc,h'⟩:=hcase i hi b' o' hb'
   exact⟨i,c,hi,rfl,hc,h'⟩
 have hD:∀ t,(100 * t / 100=b∧100 * t % 100 ≠ 0)∨100 * t=100 * r∨100 * t=100 * b→t=r∨t=b:=by
  rintro t (⟨_,h2⟩ | h | h)<;>omega
 refine R.change (fun k=>(k / 100=b∧k % 100 ≠ 0)∨k=100 * r∨k=100 * b) ?_ hK ?_ ?_ (fun _ _=>rfl) ?_ ?_ ?_ ?_ (fun _ _ h=>h) (fun _ _ h=>.inl h) ((Frame.refl _ w).mono fun _ _ _ h=>h)
 ·intro k hk
  rw[← hZ,w9 _ _ (fun e=>hk (.inr (.inr e))),w9 _ _ (fun e=>hk (.inr (.inl e)))]
  simp only[XF.box]
  rw[if_neg (fun e=>hk (.inl e))]
 ·intro k hk hc
  exact .inl (hβn _ (fun e=>hk (.inl ⟨e,hc.1⟩)))
 ·intro j hj;exact hβn j (by omega)
 ·intro t ht
  have ht:=hD t ht
  rw[hZr t ht]
  simp only[RR]
  refine⟨by rw[hZ99];exact pr _,fun _=>?_⟩
  rw[hβb]
  rcases ht with rfl | rfl
  ·rw[hr];rfl
  ·exact hrb
 ·rintro k hk
  rcases hk with ⟨h1,h2⟩ | hk
  ·by_cases h3:k % 100=99
   ·have:k=100 * b+99:=by omega
    subst this
    exact⟨by rw[h99];simp[Mem],by rw[h99];simp[Sep],fun hc=>absurd h3 hc.2,fun b' o' hb'=>absurd hb' (hno99 b' o'),fun _=>h99⟩
   ·obtain⟨i,hi,rfl⟩:=hform k h1 h2 h3
    cases hc:cs[i]? with
    | none =>
     have hg:(Z (100 * b+1+i)).2=.non:=(hkey i hi).trans (by simp[ph,hc])
     refine⟨by rw[hg];simp[Mem],by rw[hg];simp[Sep],fun _ hne=>absurd hg hne,fun b' o' hb'=>?_,fun h=>absurd h h3⟩
     obtain⟨c,hc',_⟩:=hcase i hi b' o' hb'
     rw[hc] at hc';cases hc'
    | some c =>
     have hg:(Z (100 * b+1+i)).2=c:=(hkey i hi).trans (hgetD i c hc)
     have hlt:i < cs.length:=(pk.1 hc).1
     have hin:=pj hc
     obtain⟨⟨y,hy,hcy⟩,hmc,_⟩:=hmem i c hc
     refine⟨by rw[hg];exact hmc,by rw[hg];exact hsep.1 c hin,fun _ _=>?_,fun b' o' hb'=>?_,fun h=>absurd h h3⟩
     ·rw[hg]
      simp only[show (100 * b+1+i) / 100=b by omega,hβb,show (100 * b+1+i) % 100 - 1=i by omega]
      exact⟨⟨y,hy,.inl hcy⟩,fun hbad=>hs.1 i hlt (z04.2 ⟨c,hin,hbad⟩)⟩
     ·obtain⟨c',hc',h'⟩:=hcase i hi b' o' hb'
      rw[hc] at hc';cases hc'
      rcases h' with h' | ⟨rfl,rfl⟩
      ·exact (R.key (100 * r)).live _ _ (hold c b' o' hin h')
      ·exact (R.key (100 * r)).live _ _ (hown i hlt)
  ·obtain⟨t,ht,rfl⟩:∃ t,(t=r∨t=b)∧k=100 * t:=by
    rcases hk with h | h
    ·exact⟨r,.inl rfl,h⟩
    ·exact⟨b,.inr rfl,h⟩
   exact⟨by rw[hZr t ht];simp[Mem],by rw[hZr t ht];simp[Sep],fun hc=>absurd hc (z0d t),fun b' o' hb'=>absurd hb' (hno t ht b' o'),fun h=>by omega⟩
 ·rintro k k' hk hk' hne b' o' h1 h2
  have hreg:∀ q,q=100 * r∨q=100 * b→kfp β' Z q b' o'→False:=fun q hq h=>by
   rcases hq with rfl | rfl
   ·exact hno r (.inl rfl) b' o' h
   ·exact hno b (.inr rfl) b' o' h
  rcases hk with hk | hk
  ·rcases hk' with hk' | hk'
   ·obtain⟨i,c,hi,rfl,hc,hh⟩:=hcell k hk b' o' h1
    obtain⟨j,d,hj,rfl,hd,hh'⟩:=hcell k' hk' b' o' h2
    have hij:i ≠ j:=fun e=>hne (by rw[e])
    have hli:i < cs.length:=(pk.1 hc).1
    have hlj:j < cs.length:=(pk.1 hd).1
    rcases hh with hh | ⟨e1,e2⟩
    ·rcases hh' with hh' | ⟨e1,e2⟩
     ·rcases Nat.lt_or_gt_of_ne hij with hlt | hlt
      ·exact hsep.2 i j c d hlt hc hd b' o' hh hh'
      ·exact hsep.2 j i d c hlt hd hc b' o' hh' hh
     ·subst e1 e2
      exact hs.1 j hlj (z04.2 ⟨c,pj hc,hh⟩)
    ·rcases hh' with hh' | ⟨e3,e4⟩
     ·subst e1 e2
      exact hs.1 i hli (z04.2 ⟨d,pj hd,hh'⟩)
     ·omega
   ·exact hreg k' hk' h2
  ·exact hreg k hk h1
 ·rintro k hk b' o' hb'
  rcases hk with hk | hk
  ·obtain⟨i,c,hi,rfl,hc,hh⟩:=hcell k hk b' o' hb'
   rcases hh with hh | ⟨e1,e2⟩
   ·exact .inl ⟨100 * r,.inr (.inl rfl),hold c b' o' (pj hc) hh⟩
   ·subst e1 e2
    exact .inl ⟨100 * r,.inr (.inl rfl),hown i (pk.1 hc).1⟩
  ·exfalso
   rcases hk with rfl | rfl
   ·exact hno r (.inl rfl) b' o' hb'
   ·exact hno b (.inr rfl) b' o' hb'
theorem RelL.upR (R:RelL C X β I rg w)(r b:Nat)(hr:(X (100 * r)).2=.bptr b (X (100 * b+99)).1 0)(cs:List AL)(hn:cs.length≤98)
  (hcs:∀ i c,cs[i]?=some c→(X (100 * b+1+i)).2=c∧z0q c=true) :
  RelL C ((zc8 X b cs.length).set (100 * r) (.bx true (some ⟨(β b).1,(β b).2,0⟩) cs)) β I rg w:=by
 have hc:∀ i,i < cs.length→∃ c,cs[i]?=some c∧(X (100 * b+1+i)).2=c∧z0q c=true∧c ≠ .non∧z2c (100 * b+1+i)∧(100 * b+1+i) / 100=b∧(100 * b+1+i) % 100 - 1=i:=by
  intro i hi
  obtain⟨h1,h2⟩:=hcs i _ (pi hi)
  refine⟨_,pi hi,h1,h2,fun e=>?_,⟨by omega,by omega⟩,by omega,by omega⟩
  rw[e] at h2;simp[z0q] at h2
 have hat:∀ i c,cs[i]?=some c→(∃ y,w.at (β b).1 ((β b).2+i)=some y∧CR c y)∧¬ fp c (β b).1 ((β b).2+i)∧Mem w I c∧Sep c:=by
  intro i c hi
  obtain⟨c',h1,h2,h3,h4,h5,h6,h7⟩:=hc i (pk.1 hi).1
  rw[hi] at h1
  cases h1
  have hk:=R.key (100 * b+1+i)
  obtain⟨⟨y,hy,hx⟩,hnf⟩:=hk.cell h5 (by rw[h2];exact h4)
  rw[h6,h7] at hy hnf
  rw[h2] at hx hnf
  exact⟨⟨y,hy,hx.cr (by cases c<;>simp [z0q] at h3<;>rfl)⟩,hnf,by rw[← h2];exact hk.mem,by rw[← h2];exact hk.sep⟩
 have haddr:∀ i,i < cs.length→kfp β X (100 * b+1+i) (β b).1 ((β b).2+i):=by
  intro i hi
  obtain⟨c,h1,h2,h3,h4,h5,h6,h7⟩:=hc i hi
  exact .inr ⟨h5,by rw[h2];exact h4,by rw[h6],by rw[h6,h7]⟩
 have hin:∀ i c,cs[i]?=some c→∀ b' o',fp c b' o'→kfp β X (100 * b+1+i) b' o':=by
  intro i c hi b' o' h
  left
  rw[(hcs i c hi).1];exact h
 have hfp:∀ b' o',fp (.bx true (some ⟨(β b).1,(β b).2,0⟩) cs) b' o'→∃ i,i < cs.length∧kfp β X (100 * b+1+i) b' o':=by
  intro b' o' h
  simp only[fp] at h
  rcases h with ⟨rfl,h1,h2⟩ | h
  ·refine⟨o' - (β b).2,by omega,?_⟩
   have:=haddr (o' - (β b).2) (by omega)
   rwa [show (β b).2+(o' - (β b).2)=o' by omega] at this
  ·obtain⟨c,hc',hcb⟩:=z04.1 h
   obtain⟨i,hi⟩:=pq hc'
   exact⟨i,(pk.1 hi).1,hin i c hi _ _ hcb⟩
 have hself:((zc8 X b cs.length).set (100 * r) (.bx true (some ⟨(β b).1,(β b).2,0⟩) cs) (100 * r)).2=.bx true (some ⟨(β b).1,(β b).2,0⟩) cs:=by rw[wa]
 have hoth:∀ k,100 * b+1≤k∧k < 100 * b+1+cs.length→((zc8 X b cs.length).set (100 * r) (.bx true (some ⟨(β b).1,(β b).2,0⟩) cs) k).2=.non:=by
  intro k hk
  rw[w9 _ _ (by omega),z8s,if_pos hk]
 have hK:Keeps X ((zc8 X b cs.length).set (100 * r) (.bx true (some ⟨(β b).1,(β b).2,0⟩) cs)) β β:=(z8t X β b _).trans (z05 _ β _ _)
 refine R.change (fun k=>k=100 * r∨(100 * b+1≤k∧k < 100 * b+1+cs.length)) (fun k hk=>?_) hK (fun _ _ _=>.inl rfl) (fun _ _=>rfl) (fun _ _=>rfl) (fun t ht=>?_) (fun k hk=>?_) (fun k k' hk hk' hne b' o' h1 h2=>?_) (fun k hk b' o' h=>?_)
  (fun _ _ h=>h) (fun _ _ h=>.inl h) ((Frame.refl _ w).mono fun _ _ _ h=>h)
 ·rw[w9 _ _ (fun e=>hk (.inl e)),z8s,if_neg (fun e=>hk (.inr e))]
 ·have e:t=r:=by omega
  subst e
  rw[hself]
  have:=R.reg t
  rw[hr] at this
  simp only[RR] at this
  have h2:=this.2 trivial
  simp only[RR,CR]
  simpa using h2
 ·rcases hk with rfl | hk
  ·refine⟨?_,?_,fun h=>absurd h.1 (by omega),fun b' o' h=>?_,fun h=>by omega⟩
   ·rw[hself]
    simp only[Mem]
    exact z0e.2 fun i c hi=>⟨(hat i c hi).1,(hat i c hi).2.2.1,by simp⟩
   ·rw[hself]
    simp only[Sep]
    refine⟨fun i hi hbad=>?_,z09.2 ⟨fun c hc'=>?_,fun i j u v hij hu hv b' o' g1 g2=>?_⟩⟩
    ·obtain⟨c,hc',hcb⟩:=z04.1 hbad
     obtain⟨i',hi'⟩:=pq hc'
     by_cases hii:i=i'
     ·subst hii;exact (hat i c hi').2.1 hcb
     ·exact R.disj (100 * b+1+i) (100 * b+1+i') (by omega) _ _ (haddr i hi) (hin i' c hi' _ _ hcb)
    ·obtain⟨i',hi'⟩:=pq hc'
     exact (hat i' c hi').2.2.2
    ·exact R.disj (100 * b+1+i) (100 * b+1+j) (by omega) b' o' (hin i u hu _ _ g1) (hin j v hv _ _ g2)
   ·rcases h with h | ⟨h,_⟩
    ·rw[hself] at h
     obtain⟨i,_,hi⟩:=hfp _ _ h
     exact (R.key _).live _ _ hi
    ·exact absurd h.1 (by omega)
  ·have h0:=hoth k hk
   refine⟨by rw[h0];simp[Mem],by rw[h0];simp[Sep],fun _ h=>absurd h0 h,fun b' o' h=>?_,fun _=>h0⟩
   rcases h with h | ⟨_,h,_⟩
   ·rw[h0] at h;simp[fp] at h
   ·exact absurd h0 h
 ·have only:∀ k,(k=100 * r∨(100 * b+1≤k∧k < 100 * b+1+cs.length))→kfp β ((zc8 X b cs.length).set (100 * r) (.bx true (some ⟨(β b).1,(β b).2,0⟩) cs)) k b' o'→k=100 * r:=by
   intro k hk h
   rcases hk with e | hk
   ·exact e
   ·have h0:=hoth k hk
    rcases h with h | ⟨_,h,_⟩
    ·rw[h0] at h;simp[fp] at h
    ·exact absurd h0 h
  exact hne ((only k hk h1).trans (only k' hk' h2).symm)
 ·rcases hk with rfl | hk
  ·rcases h with h | ⟨h,_⟩
   ·rw[hself] at h
    obtain⟨i,hi,hi'⟩:=hfp _ _ h
    exact .inl ⟨_,.inr ⟨by omega,by omega⟩,hi'⟩
   ·exact absurd h.1 (by omega)
  ·have h0:=hoth k hk
   rcases h with h | ⟨_,h,_⟩
   ·rw[h0] at h;simp[fp] at h
   ·exact absurd h0 h
end
theorem RelT.down {C:Ctx}{X:XF Unit}{tm:Array Value}{w:World}(h:RelT C X tm w)(r b:Nat)(hb:b < 10000)(cs:List AU)(hX:(X (100 * r)).2=.bx true () cs)(hp:(X (100 * b)).2=.ptr (100 * r) (X (100 * r)).1 [] 0)(hn:cs.length≤98) :
  RelT C (((X.box b cs).set (100 * r) (.bptr b ((X (100 * b+99)).1+1) 0)).set (100 * b) (.bptr b ((X (100 * b+99)).1+1) 0)) tm w:=by
 obtain⟨XL,β,I,rg,he,R,hs,ht⟩:=h
 subst he
 obtain⟨l,lcs,hXL,hl⟩:∃ l lcs,(XL (100 * r)).2=.bx true l lcs∧lcs.map er=cs:=by
  have hX':er (XL (100 * r)).2=.bx true () cs:=hX
  revert hX'
  generalize (XL (100 * r)).2=v
  intro h
  cases v<;>simp [er,z0f] at h
  obtain⟨h1,h2⟩:=h
  subst h1
  exact⟨_,_,rfl,h2⟩
 have hm:=(R.key (100 * r)).mem
 rw[hXL] at hm
 cases l with
 | none=>simp [Mem] at hm
 | some l =>
  have hp':(XL (100 * b)).2=.ptr (100 * r) (XL (100 * r)).1 [] 0:=by
   have hp2:er (XL (100 * b)).2=.ptr (100 * r) (XL (100 * r)).1 [] 0:=hp
   revert hp2
   generalize (XL (100 * b)).2=v
   intro h
   cases v<;>simp [er] at h
   obtain⟨h1,h2,h3,h4⟩:=h
   subst h1 h2 h3 h4
   rfl
  have R':=R.down r b hb l lcs hXL hp' (by rw[← hl] at hn;simpa using hn)
  refine⟨_,_,I,rg,?_,R',hs,ht⟩
  rw[z03,z03,zdc,hl]
  rfl
theorem RelT.upR {C:Ctx}{X:XF Unit}{tm:Array Value}{w:World}(h:RelT C X tm w)(r b:Nat)(hr:(X (100 * r)).2=.bptr b (X (100 * b+99)).1 0)(cs:List AU)(hn:cs.length≤98)
  (hcs:∀ i c,cs[i]?=some c→(X (100 * b+1+i)).2=c∧z0q c=true):RelT C ((zc8 X b cs.length).set (100 * r) (.bx true () cs)) tm w:=by
 obtain⟨XL,β,I,rg,he,R,hs,ht⟩:=h
 subst he
 have hr':(XL (100 * r)).2=.bptr b (XL (100 * b+99)).1 0:=by
  simp only[erF] at hr
  revert hr
  cases (XL (100 * r)).2<;>simp [er]
 have hget:∀ i c,((List.range cs.length).map fun i=>(XL (100 * b+1+i)).2)[i]?=some c→i < cs.length∧c=(XL (100 * b+1+i)).2:=by
  intro i c hc
  have hi:i < cs.length:=by
   have:=(pk.1 hc).1
   simpa using this
  simp[hi] at hc
  exact⟨hi,hc.symm⟩
 have R':=R.upR r b hr' ((List.range cs.length).map fun i=>(XL (100 * b+1+i)).2) (by simpa using hn) (fun i c hc=>by
  obtain⟨hi,rfl⟩:=hget i c hc
  refine⟨rfl,?_⟩
  obtain⟨h1,h2⟩:=hcs i _ (pi hi)
  rw[← z2t]
  have h1':er (XL (100 * b+1+i)).2=cs[i]:=h1
  rw[h1'];exact h2)
 rw[show ((List.range cs.length).map fun i=>(XL (100 * b+1+i)).2).length=cs.length by simp] at R'
 refine⟨_,β,_,rg,?_,R',hs,ht⟩
 rw[z03,ze9]
 congr 1
 simp only[er,z0f,rr]
 congr 1
 apply rf
 intro i
 by_cases hi:i < cs.length
 ·have h1:er (XL (100 * b+1+i)).2=cs[i]:=(hcs i _ (pi hi)).1
  simp[hi,h1]
 ·rw[qi (by simpa using Nat.le_of_not_lt hi),qi (by omega:cs.length≤i)]
section
variable {P:Program} {nt:Nat} {L:SL} {Q:Ex→SL→Prop}
def upRL (L:SL)(r b:Nat)(cs:List AU):SL:=z0l (zlp L b cs.length) (100 * r) (.bx true () cs)
def downL (L:SL)(r b:Nat)(cs:List AU):SL:=z0l (z0l (zc5 b cs L) (100 * r) (.bptr b ((fnL L (100 * b+99)).1+1) 0)) (100 * b) (.bptr b ((fnL L (100 * b+99)).1+1) 0)
attribute [simp] upRL downL
theorem RelT.upRL {C:Ctx}{tm:Array Value}{w:World}(h:RelT C (fnL L) tm w)(r b n:Nat)(cs:List AU)(hr:(fnL L (100 * r)).2=.bptr b (fnL L (100 * b+99)).1 0)(hn:n≤98)
  (hcs:z0s (fnL L) b 0 n=cs) (ht:cs.all z0q=true):RelT C (fnL (upRL L r b cs)) tm w:=by
 have hlen:cs.length≤n:=by
  rw[← hcs]
  have:∀ m i,(z0s (fnL L) b i m).length≤m:=by
   intro m
   induction m with
   | zero=>intro i;simp[z0s]
   | succ m ih=>intro i;simp only[z0s];split<;>simp [ih]
  exact this n 0
 have:=h.upR r b hr cs (by omega) (fun i c hi=>⟨by
  rw[← hcs] at hi
  have:=z8u n 0 i c hi
  rwa [sy] at this,qe.1 ht c (pj hi)⟩)
 rw[zea,z07] at this
 exact this
theorem RelT.downL {C:Ctx}{tm:Array Value}{w:World}(h:RelT C (fnL L) tm w)(r b:Nat)(hb:b < 10000)(cs:List AU)(hX:(fnL L (100 * r)).2=.bx true () cs)(hp:(fnL L (100 * b)).2=.ptr (100 * r) (fnL L (100 * r)).1 [] 0)(hn:cs.length≤98) :
  RelT C (fnL (downL L r b cs)) tm w:=by
 have:=h.down r b hb cs hX hp hn
 rw[z9w b cs _ hn,z07,z07] at this
 exact this
theorem WL.lower {cc:Cd}(r b:Nat){cs:List AU}(hX:(fnL L (100 * r)).2=.bx true () cs)(hp:(fnL L (100 * b)).2=.ptr (100 * r) (fnL L (100 * r)).1 [] 0)(h:WL P nt cc (downL L r b cs) Q)(hn:cs.length≤98:=by simp)(hb:b < 10000:=by decide):WL P nt cc L Q:=by
 intro C code hP hnt hc a w hd hR
 exact h C code hP hnt hc a w hd (hR.downL r b hb cs hX hp hn)
theorem WL.lift {cc:Cd}(r b n:Nat){cs:List AU}(hr:(fnL L (100 * r)).2=.bptr b (fnL L (100 * b+99)).1 0)(hcs:z0s (fnL L) b 0 n=cs)(ht:cs.all z0q=true)
  (h:WL P nt cc (upRL L r b cs) Q) (hn:n≤98:=by decide):WL P nt cc L Q:=by
 intro C code hP hnt hc a w hd hR
 exact h C code hP hnt hc a w hd (hR.upRL r b n cs hr hn hcs ht)
theorem RL.lower {K:SL→Prop}{segs:List Sg}(r b:Nat){cs:List AU}(hX:(fnL L (100 * r)).2=.bx true () cs)(hp:(fnL L (100 * b)).2=.ptr (100 * r) (fnL L (100 * r)).1 [] 0)(h:RL P nt segs (downL L r b cs) K)(hn:cs.length≤98:=by simp)(hb:b < 10000:=by decide):RL P nt segs L K:=by
 intro C ops idx hP hnt hc a w Q hd hR hK
 exact h C ops idx hP hnt hc a w Q hd (hR.downL r b hb cs hX hp hn) hK
theorem RL.lift {K:SL→Prop}{segs:List Sg}(r b n:Nat){cs:List AU}(hr:(fnL L (100 * r)).2=.bptr b (fnL L (100 * b+99)).1 0)(hcs:z0s (fnL L) b 0 n=cs)(ht:cs.all z0q=true)
  (h:RL P nt segs (upRL L r b cs) K) (hn:n≤98:=by decide):RL P nt segs L K:=by
 intro C ops idx hP hnt hc a w Q hd hR hK
 exact h C ops idx hP hnt hc a w Q hd (hR.upRL r b n cs hr hn hcs ht) hK
end
abbrev Pst:=List (List UInt8) × Bool × Bool
def z1f (t:St)(p:Nat):Bool:=t.There.getD p false
def zte (l:List Ev)(fl:Int)(p:Nat)(a:Pst)(x:Int)(t:St):List (List UInt8):=if (decide (fl≤(atE l x).Stamp) && z1f t p)=true then a.1 ++ [t.Body.getD p []] else a.1
def yks (l:List Ev)(fl:Int)(p:Nat)(a:Pst)(x:Int)(t:St):Bool:=a.2.1 || (decide (fl < (atE l x).Stamp) && ((decide ((atE l x).op.Kind=1) && (z1f t p && !a.2.2)) || wrF (atE l x) t p))
def zaa (l:List Ev)(fl:Int)(p:Nat)(a:Pst)(x:Int)(t:St):Pst:=(zte l fl p a x t,yks l fl p a x t,z1f t p)
abbrev psS (fl:Int)(p:Nat)(bs:List (List UInt8))(tn ws:Bool)(t:St)(e:Ev)(r:SL):SL :=
 [(300,0,.vptr () [i64 fl]),(400,0,.vptr () [i64 p]),(500,0,.bptr 5 1 0),(501,0,sUU true bs),(502,0,bl tn),(599,1,.non),(600,0,.ptr 1000100 0 [] 0)] ++ (rcF 8 t ++ (bxE 9 e ++ (r ++ [(1000000,0,.bptr 5 1 0),(1000100,0,.bx true () [bl ws])])))
abbrev psQ (a:Pst):Ex→SL→Prop:=fun e L=>(e=Ex.nrm∨e=Ex.ret)∧RetOk zed.rs [.nod (.bx true () [sUU true a.1,bl a.2.1]),.nod (.bx true () [bl a.2.2])] (.tuple []) L
theorem zix (fl:Int)(p:Nat)(bs:List (List UInt8))(tn ws:Bool)(t:St)(ht:OkSt t)(hp:p < t.There.length)(e:Ev)(hc0:0≤e.Client)(hc1:e.Client < t.Handles.length)(tn':Bool)(r:SL)(hr:r=[]∨r=[(2500,0,bl false)])
  (htn:tn'=(tn || (decide (fl < e.Stamp) && ((decide (e.op.Kind=1) && (z1f t p && !ws)) || wrF e t p)))) :
  WL Try.prog zed.nt zka (psS fl p bs tn ws t e r) (psQ (bs,tn',z1f t p)):=by
 have hwr:=zkj e t ht hc0 hc1 p
 have hp':p+1≤t.There.length:=hp
 obtain⟨th,hth⟩:∃ th,t.There[p]=th:=⟨_,rfl⟩
 have eth:z1f t p=th:=by simp[z1f,hp,hth]
 rw[eth] at htn ⊢
 -- the last region
 have last:∀ L,L=[(400,0,.vptr () [i64 p]),(501,0,sUU true bs),(502,0,bl tn'),(599,1,.non),(600,0,.ptr 1000100 0 [] 0)] ++ (rcF 8 t ++ [(1000000,0,.bptr 5 1 0),(1000100,0,.bx true () [bl ws])])→WL Try.prog zed.nt zv8 L (psQ (bs,tn',th)):=fun L hL=>by
  subst hL
  refine WL.lift 10000 5 2 (by simp) (by simp;rfl) (by simp) ?_
  refine WL.reg (RL.run (by simp[hp,hp',hth];rfl) ⟨_,by simp;rfl,.inl rfl,?_⟩)
  simp[zed]
 -- ahead of it
 have mid:∀ (md:Bool),md=(decide (e.op.Kind=1) && (th && !ws))→∀ L,L=psS fl p bs tn ws t e [(1000,0,bl md)]→WL Try.prog zed.nt zv9 L (psQ (bs,tn',th)):=fun md hmd L hL=>by
  subst hL
  rw[← hmd] at htn
  cases tn with
  | true =>
   refine w7 (RL.o (by simp;rfl) (RL.g (by simp;rfl) (RL.g (by simp;rfl) (RL.g (by simp;rfl) (RL.callN (by simp) (RL.g (by simp;rfl) (RL.g (by simp;rfl) (RL.o (by simp;rfl) (RL.nil ⟨_,by simp;rfl,last _ ?_⟩)))))))))
   simp[htn]
  | false =>
   simp only[b8] at htn
   by_cases k:fl < e.Stamp
   ·cases md with
    | true =>
     refine w7 (RL.o (by simp;rfl) (RL.g (by simp[k];rfl) (RL.g (by simp;rfl) (RL.g (by simp;rfl) (RL.callN (by simp) (RL.g (by simp;rfl) (RL.g (by simp;rfl) (RL.o (by simp;rfl) (RL.nil ⟨_,by simp;rfl,last _ ?_⟩)))))))))
     simp[htn,k]
    | false =>
     refine w7 (RL.o (by simp;rfl) (RL.g (by simp[k];rfl) (RL.g (by simp;rfl) (RL.g (by simp;rfl) (RL.callY0 false (by simp) hwr (by simp) (by simp) (RL.g (by simp;rfl) (RL.g (by simp;rfl) (RL.o (by simp;rfl) (RL.nil ⟨_,by simp;rfl,last _ ?_⟩)))))))))
     simp[htn,k]
   ·refine w7 (RL.o (by simp;rfl) (RL.g (by simp[k];rfl) (RL.g (by simp;rfl) (RL.g (by simp;rfl) (RL.callN (by simp) (RL.g (by simp;rfl) (RL.g (by simp;rfl) (RL.o (by simp;rfl) (RL.nil ⟨_,by simp;rfl,last _ ?_⟩)))))))))
    simp[htn,k]
 clear last
 have go:∀ (k1:Bool),(e.op.Kind == 1)=k1→decide (e.op.Kind=1)=k1→WL Try.prog zed.nt zka (psS fl p bs tn ws t e r) (psQ (bs,tn',th)):=fun k1 e1 e2=>by
  rw[e2] at mid
  rcases hr with rfl | rfl
  all_goals
   cases k1 with
   | false=>exact WL.sreg (by simp[e1];rfl) (by simp;rfl) (mid false (by simp) _ (by simp))
   | true =>
    cases th with
    | false=>exact WL.sreg (by simp[e1,hp,hp',hth];rfl) (by simp;rfl) (mid false (by simp) _ (by simp))
    | true =>
     cases ws with
     | true=>exact WL.sreg (by simp[e1,hp,hp',hth];rfl) (by simp;rfl) (mid false (by simp) _ (by simp))
     | false=>exact WL.sreg (by simp[e1,hp,hp',hth];rfl) (by simp;rfl) (mid true (by simp) _ (by simp))
 by_cases k1:e.op.Kind=1
 ·exact go true (by simp[k1]) (by simp[k1])
 ·exact go false (beq_false_of_ne k1) (by simp[k1])
theorem zqj (l:List Ev)(fl:Int)(p:Nat)(a:Pst)(t:St)(ht:OkSt t)(hp:p < t.There.length)(u:Nat)(hu:u < l.length)(hbs:a.1.length≤100000)(hc0:0≤l[u].Client)(hc1:l[u].Client < t.Handles.length) :
  FnC Try.prog 154 [.nod (.bx true () [sUU true a.1,bl a.2.1]),.nod (.bx true () [bl a.2.2])] [i64 u,z6l false t,.vptr () [sEv l],.vptr () [i64 fl],.vptr () [i64 p],.ptr 1000000 0 [] 0,.ptr 1000100 0 [] 0]
   [.nod (.bx true () [sUU true (zaa l fl p a u t).1,bl (zaa l fl p a u t).2.1]),.nod (.bx true () [bl (zaa l fl p a u t).2.2])] (.tuple []):=by
 have f1:=z1r (o:=false) (r:=false) hu
 have g1:14≤l.length * 14 - u * 14:=by omega
 have hat:atE l (u:Int)=l[u]:=z59 hu
 refine wc yvl rfl ?_
 refine WL.sreg (by simp;rfl) (by simp;rfl) ?_
 refine WL.lower 10000 5 (by simp;rfl) (by simp) ?_
 refine WL.sreg (by simp[hu,f1,g1];rfl) (by simp;rfl) ?_
 have eP:zaa l fl p a u t=(zte l fl p a u t,yks l fl p a u t,z1f t p):=rfl
 have eB:zte l fl p a u t=if (decide (fl≤l[u].Stamp) && z1f t p)=true then a.1 ++ [t.Body.getD p []] else a.1:=by unfold zte;rw[hat]
 have eT:yks l fl p a u t=(a.2.1 || (decide (fl < l[u].Stamp) && ((decide (l[u].op.Kind=1) && (z1f t p && !a.2.2)) || wrF l[u] t p))):=by unfold yks;rw[hat]
 rw[eP]
 generalize zte l fl p a u t=bs' at eB ⊢
 generalize yks l fl p a u t=tn' at eT ⊢
 obtain⟨bs,tn,ws⟩:=a
 simp only at eB eT hbs ⊢
 clear f1 g1 hat eP
 generalize l[u]=e at *
 have rest:=fun bs r hr=>zix fl p bs tn ws t ht hp e hc0 hc1 tn' r hr eT
 have hp':p+1≤t.There.length:=hp
 have hpb:p < t.Body.length:=by rw[ht.bn];exact hp
 have hpb':p+1≤t.Body.length:=hpb
 obtain⟨th,hth⟩:∃ th,t.There[p]=th:=⟨_,rfl⟩
 have eth:z1f t p=th:=by simp[z1f,hp,hth]
 have hbd:t.Body.getD p []=t.Body[p]:=by simp[hpb]
 rw[eth,hbd] at eB
 have no:bs'=bs→∀ L,L=psS fl p bs tn ws t e [(2500,0,bl false)]→WL Try.prog zed.nt zv7 L (wg (fun L'=>WL Try.prog zed.nt zka L' (psQ (bs',tn',z1f t p))) (psQ (bs',tn',z1f t p))):=fun hb L hL=>by
  subst hL hb
  refine WL.cond (t:=false) (by simp) (by simp) fun _=>WL.skip ?_
  exact rest bs' _ (.inr rfl)
 by_cases k:fl≤e.Stamp
 ·cases th with
  | true =>
   refine WL.seq (WL.sreg (by simp[k,hp,hp',hth];rfl) (by simp;rfl) ?_)
   refine WL.cond (t:=true) (by simp) (fun _=>?_) (by simp)
   have hb1:z0c (t.Body[p]).length:=by have:=ht.b16 _ (qb hpb);unfold z0c;omega
   have hm1:(bs.length+1) * 24≤140737488355328:=by omega
   have hm2:bs.length+1≤maxLen:=by unfold maxLen;omega
   have eB':bs'=bs ++ [t.Body[p]]:=by rw[eB];simp[k]
   refine WL.draw z0t (by simp[z0b,noH]) (DL.o (by simp[hp,hp',hpb,hpb'];exact⟨rfl,rfl⟩) ?_)
   refine DL.call0 false (z5j t.Body[p] hb1) (by simp) (by simp) ?_
   refine DL.o (by simp[hm1,hm2];exact⟨rfl,rfl⟩) (DL.nil ⟨by kernel_rfl,_,by simp;rfl,?_⟩)
   refine WL.eqL ?_ (rest bs' [] (.inl rfl))
   simp[eB']
   exact pp (by simp)
  | false=>refine WL.seq (WL.sreg (by simp[k,hp,hp',hth];rfl) (by simp;rfl) (no (by simp[eB]) _ (by simp)))
 ·refine WL.seq (WL.sreg (by simp[k];rfl) (by simp;rfl) (no (by simp[eB,k]) _ (by simp)))
theorem zvb {σ:Type}(l:List Ev)(see:σ→Int→St→σ):∀ (o:List Int) (s:St) (a:σ),OkSt s→OkSt (goW l see s a o).2.1
 | [],s,a,h=>h
 | x :: r,s,a,h=>by
  simp only[goW]
  split
  ·exact zvb l see r _ _ (z6i h _)
  ·exact h
theorem y1j {l:List Ev}{p c:Int}(h:(zhb l p c).2=true):OkSt (zhb l p c).1:=by
 unfold zhb at h ⊢
 split at h
 ·rename_i h0
  rw[if_pos h0]
  cases hb:z0v p c with
  | true=>unfold za8 z18 at h0;rw[hb] at h0;simp at h0
  | false =>
   have hok:=z3u hb
   unfold z18
   rw[hb]
   simp only[pu,if_false]
   split
   ·exact hok
   ·exact zvb _ _ _ _ _ hok
 ·cases h
theorem zgz {α:Type}(f:α→AU)(h:∀ a,z17 (f a)=true):∀ l:List α,z1v (l.map f)=true
 | []=>rfl
 | a :: l=>by simp only[List.map_cons,z1v,h a,zgz f h l,tj]
theorem zqk (s:St)(c:Nat)(q:Op):(z4m s c q).1.Handles.length=s.Handles.length:=by
 simp only[z4m]
 repeat' split
 all_goals simp
theorem ztf (s:St)(cl:Int)(q:Op):(DoB s cl q).2.1.Handles.length=s.Handles.length:=by
 unfold DoB
 repeat' split
 all_goals first | rfl | exact zqk _ _ _
theorem z90 (s:St)(e:Ev):(z1g s e).2.Handles.length=s.Handles.length:=by
 unfold z1g
 split
 ·rfl
 ·exact ztf _ _ _
theorem z9b {l:List Ev}{u:Nat}{c:Int}(hu:u < l.length)(h:z2a l u c=true):0≤l[u].Client∧l[u].Client < c:=by
 rw[z88 hu] at h
 simp only[z3z,pm,qm] at h
 have h1:=h.1
 simp only[z87,qx,decide_eq_false_iff_not] at h1
 omega
theorem zm6 (l:List Ev)(c fl:Int)(q:Nat):SeeN l c 154 [.vptr () [sEv l],.vptr () [i64 fl],.vptr () [i64 q],.ptr 1000000 0 [] 0,.ptr 1000100 0 [] 0] (fun a:Pst=>[sUU true a.1,bl a.2.1]) (fun a=>[bl a.2.2]) (zaa l fl q)
  (fun j a s=>a.1.length≤j∧q < s.There.length∧(s.Handles.length:Int)=c∧l.length≤1000) :=
 ⟨rfl,rfl,rfl,by simp,fun X k h=>by
  obtain⟨h1,b,h2⟩:=h (1000000,[]) (by simp)
  obtain⟨h3,d,h4⟩:=h (1000100,[]) (by simp)
  simp at h1 h2 h3 h4
  simp[h1,h2,h3,h4,z36],fun j a s u hu ht hok hi hr=>by
  obtain⟨h1,h2,h3,h4⟩:=hi
  refine⟨?_,by rw[z8z];exact h2,by rw[z90];exact h3,h4⟩
  simp only[zaa,zte]
  split
  ·simp;omega
  ·omega,fun j a s u hu hj ht hok hi hr=>by
  obtain⟨h1,h2,h3,h4⟩:=hi
  have hc:=z9b hu ht
  exact zqj l fl q a (z1g s l[u]).2 (z6i hok _) (by rw[z8z];exact h2) u hu (by omega) hc.1 (by rw[z90,h3];exact hc.2)⟩
theorem zkk {σ:Type}(l:List Ev)(see:σ→Int→St→σ):∀ (o:List Int) (s:St) (a:σ),(goW l see s a o).2.1.Handles.length=s.Handles.length
 | [],s,a=>rfl
 | x :: r,s,a=>by
  simp only[goW]
  split
  ·rw[zkk l see r,z90]
  ·rfl
def z89 (l:List Ev)(p c fl:Int)(q:Nat):List (List UInt8) × Bool :=
 ((z18 (zaa l fl q) ([],false,false) l p c).2.2.1,(z18 (zaa l fl q) ([],false,false) l p c).2.2.2.1 || l.any fun e=>decide (e.Stamp=0) && wrF e (zhb l p c).1 q)
theorem y1k (l:List (List UInt8)):z1v (l.map (sU true))=true:=zgz (sU true) (fun a=>by simp only[z17,zga,tj]) l
abbrev ptS (l:List Ev)(p c:Int)(q:Nat)(bs:List (List UInt8))(tn:Bool)(S:St)(fb:Bool)(i:Nat):SL :=
 [(800,0,.bptr 8 1 0),(801,0,i64 q),(899,1,.non),(1000,0,.bptr 10 1 0),(1001,0,.sl true () 1 0 []),(1002,0,bl false),(1099,1,.non),(1100,0,.bx true () [sUU true bs,bl tn])] ++ (rcF 13 S ++ [(2900,0,sEv l),(3000,0,i64 l.length),(3100,0,i64 i)])
theorem y1l (l:List Ev)(hE:EvOk l)(p c:Int)(h0:za8 l p c=0)(q:Nat)(hq:(q:Int) < p)(fl:Int):FnC Try.prog 116 [] [sEv l,i64 p,i64 c,i64 q,i64 fl] [] (.agg [sUU true (z89 l p c fl q).1,bl (z89 l p c fl q).2]):=by
 have hn:=hE.n
 obtain⟨hb,hw0,hg0,htm⟩:=za9 (zaa l fl q) ([],false,false) h0
 have hp1:1≤p∧p≤48∧1≤c∧c≤6:=by
  simp only[z0v,qx,decide_eq_false_iff_not] at hb
  omega
 have en:z1c p c=⟨List.replicate p.toNat false,List.replicate p.toNat z16,List.replicate c.toNat [-1,-1,-1,-1,-1,-1]⟩:=by unfold z1c;rw[hb];rfl
 have hw:=zqi hE (zm6 l c fl q) p ([],false,false) (fun _=>⟨by simp,by rw[en];simp;omega,by rw[en];simp;omega,hE.n⟩)
 have hf:=ykr l hE p c
 have eP:z89 l p c fl q=((z18 (zaa l fl q) ([],false,false) l p c).2.2.1,(z18 (zaa l fl q) ([],false,false) l p c).2.2.2.1 || l.any fun e=>decide (e.Stamp=0) && wrF e (zhb l p c).1 q):=rfl
 have hSok:OkSt (zhb l p c).1:=y1j (by unfold zhb;rw[if_pos h0])
 have hSh:((zhb l p c).1.Handles.length:Int)=c:=by
  have:=(za9 z8y () h0).2.1
  unfold zhb
  rw[if_pos h0,this]
  simp only[zkk,en,List.length_replicate]
  omega
 rw[eP]
 clear eP
 have hcode:=z5a (zaa l fl q) ([],false,false) l p c
 generalize z18 (zaa l fl q) ([],false,false) l p c=W at hw hcode ⊢
 obtain⟨code,sw,bs,tn,ws⟩:=W
 generalize zhb l p c=F at hf hSok hSh ⊢
 obtain⟨S,fb⟩:=F
 simp only at hw hf hSok hSh ⊢
 simp only[Sh.gs,Sh.fv] at hw
 refine wc yve rfl ?_
 refine WL.sreg (by simp;rfl) (by simp;rfl) ?_
 refine WL.sreg (by simp;rfl) (by simp;rfl) ?_
 refine WL.sreg (by simp;rfl) (by simp;rfl) ?_
 refine WL.raise 11 2 (by simp) (by simp;rfl) (by simp) ?_
 refine WL.raise 12 1 (by simp) (by simp;rfl) (by simp) ?_
 refine w7 (RL.o (by simp;rfl) (wn true [(1100,[]),(1200,[])] hw (by simp) (by simp) (by simp[z36,y1h]) (by simp[y1k]) (by simp) (RL.nil ⟨_,by simp;rfl,?_⟩)))
 refine w7 (RL.o (by simp;rfl) (RL.call0 false hf (by simp) (by simp) (RL.o (by simp;rfl) (RL.nil ⟨_,by simp;rfl,?_⟩))))
 refine WL.seq (WL.sreg (by simp;rfl) (by simp;rfl) ?_)
 refine WL.block (we l.length (fun i=>ptS l p c q bs (tn || (l.take i).any fun e=>decide (e.Stamp=0) && wrF e S q) S fb i) (fun _=>True) (by simp) trivial fun i hi _=>?_)
 by_cases h:i < l.length
 ·have w:IntKind.wrap .i64 ((i:Int)+1)=((i+1:Nat):Int):=by rw[z01 (by omega) (by omega)];omega
  have f1:=z1r (o:=false) (r:=false) h
  have g1:14≤l.length * 14 - i * 14:=by omega
  have hcl:=z9b h (htm i h)
  have hwr:=zkj l[i] S hSok hcl.1 (by omega) (q:Int)
  have e1:(tn || (l.take (i+1)).any fun e=>decide (e.Stamp=0) && wrF e S q)=((tn || (l.take i).any fun e=>decide (e.Stamp=0) && wrF e S q) || (decide (l[i].Stamp=0) && wrF l[i] S q)):=by
   rw[r6 h,List.any_append]
   simp[Bool.or_assoc]
  rw[e1]
  generalize (tn || (l.take i).any fun e=>decide (e.Stamp=0) && wrF e S q)=x
  refine WL.sreg (by simp[h];rfl) (by simp;rfl) ?_
  refine WL.seq (WL.cond (t:=true) (by simp[h]) (fun _=>WL.skip ?_) (by simp))
  refine WL.seq (WL.block (WL.sreg (by simp[h,f1,g1];rfl) (by simp;rfl) ?_))
  generalize l[i]=e at *
  have fin:∀ x',x'=(x || (decide (e.Stamp=0) && wrF e S q))→∀ L,L=ptS l p c q bs x' S fb i→WL Try.prog zlt.nt zv3 L (wg (fun L'=>i < l.length∧L'=ptS l p c q bs (x || (decide (e.Stamp=0) && wrF e S q)) S fb (i+1)∧True) (wj 0 (wg (fun L'=>WL Try.prog zlt.nt zv4 L' fun e L=>(e=Ex.nrm∨e=Ex.ret)∧RetOk zlt.rs [] (AV.agg [sUU true bs,bl (tn || l.any fun e=>decide (e.Stamp=0) && wrF e S q)]) L) fun e L=>(e=Ex.nrm∨e=Ex.ret)∧RetOk zlt.rs [] (AV.agg [sUU true bs,bl (tn || l.any fun e=>decide (e.Stamp=0) && wrF e S q)]) L))):=fun x' hx L hL=>by
   subst hL hx
   exact WL.reg (RL.run (by simp[w];rfl) ⟨_,by simp;rfl,h,by simp,trivial⟩)
  cases x with
  | true =>
   refine WL.reg (RL.o (by simp;rfl) (RL.g (by simp;rfl) (RL.g (by simp;rfl) (RL.callN (by simp) (RL.g (by simp;rfl) (RL.o (by simp;rfl) (RL.nil ⟨_,by simp;rfl,fin true (by simp) _ ?_⟩)))))))
   simp
  | false =>
   by_cases k:e.Stamp=0
   ·have k':(e.Stamp == 0)=true:=by simp[k]
    refine WL.reg (RL.o (by simp;rfl) (RL.g (by simp[k'];rfl) (RL.g (by simp;rfl) (RL.callY0 false (by simp) hwr (by simp) (by simp) (RL.g (by simp;rfl) (RL.o (by simp;rfl) (RL.nil ⟨_,by simp;rfl,fin (wrF e S q) (by simp[k]) _ ?_⟩)))))))
    simp
   ·have k':(e.Stamp == 0)=false:=beq_false_of_ne k
    refine WL.reg (RL.o (by simp;rfl) (RL.g (by simp[k'];rfl) (RL.g (by simp;rfl) (RL.callN (by simp) (RL.g (by simp;rfl) (RL.o (by simp;rfl) (RL.nil ⟨_,by simp;rfl,fin false (by simp[k]) _ ?_⟩)))))))
    simp
 ·obtain rfl:i=l.length:=by omega
  rw[List.take_length]
  generalize (tn || l.any fun e=>decide (e.Stamp=0) && wrF e S q)=x
  refine WL.sreg (by simp;rfl) (by simp;rfl) ?_
  refine WL.seq (WL.cond (t:=false) (by simp) (by simp) fun _=>WL.exit ?_)
  refine WL.sreg (by simp;rfl) (by simp;rfl) (WL.ret ⟨.inr rfl,?_⟩)
  simp[zlt]
theorem zkl (l:List Ev)(fl:Int)(q:Nat):∀ (o:List Int) (s:St) (a:Pst),OkSt s→q < s.There.length→(∀ x ∈ a.1,x.length=16) →
  (∀ x ∈ (goW l (zaa l fl q) s a o).2.2.1,x.length=16)∧(goW l (zaa l fl q) s a o).2.2.1.length≤a.1.length+o.length
 | [],s,a,_,_,h=>⟨h,by simp[goW]⟩
 | x :: r,s,a,hs,hq,h=>by
  simp only[goW]
  split
  ·have hs':=z6i hs (atE l x)
   have hq':q < (z1g s (atE l x)).2.There.length:=by rw[z8z];exact hq
   generalize (z1g s (atE l x)).2=t at *
   have hqb:q < t.Body.length:=by rw[hs'.bn];exact hq'
   have h2:∀ y ∈ (zaa l fl q a x t).1,y.length=16:=fun y hy=>by
    simp only[zaa,zte] at hy
    split at hy
    ·rcases qh.1 hy with hy | hy
     ·exact h y hy
     ·rw[rm.1 hy,ph,pi hqb]
      exact hs'.b16 _ (qb hqb)
    ·exact h y hy
   have h3:(zaa l fl q a x t).1.length≤a.1.length+1:=by
    simp only[zaa,zte]
    split<;>simp
   have ih:=zkl l fl q r t (zaa l fl q a x t) hs' hq' h2
   exact⟨ih.1,by have:=ih.2;simp only[sd];omega⟩
  ·exact⟨h,by simp⟩
theorem y1m (l:List Ev)(p c:Int)(h0:za8 l p c=0)(hn:l.length≤1000)(q:Nat)(hq:(q:Int) < p)(fl:Int):(∀ x ∈ (z89 l p c fl q).1,x.length=16)∧(z89 l p c fl q).1.length≤1000:=by
 obtain⟨hb,hw0,hg0,htm⟩:=za9 (zaa l fl q) ([],false,false) h0
 have en:z1c p c=⟨List.replicate p.toNat false,List.replicate p.toNat z16,List.replicate c.toNat [-1,-1,-1,-1,-1,-1]⟩:=by unfold z1c;rw[hb];rfl
 have:=zkl l fl q (z1t l) (z1c p c) ([],false,false) (z3u hb) (by rw[en];simp;omega) (by simp)
 unfold z89
 rw[hw0]
 have hO:=z86 l
 refine⟨this.1,?_⟩
 have h2:=this.2
 simp only[List.length_nil,sy] at h2 ⊢
 omega
theorem ztg {id:Int}{b:List UInt8}(h:(z3x id b).2=0):(z3x id b).1.length=16:=by
 unfold z3x at h ⊢
 split
 ·rename_i hc
  rw[if_pos hc] at h
  split
  ·rename_i hz;rw[if_pos hz] at h;simp at h
  ·rename_i hz
   rw[if_neg hz] at h
   split
   ·simp[hc.2]
   ·rename_i hi;rw[if_neg hi] at h;simp at h
 ·rename_i hc;rw[if_neg hc] at h;simp at h
def okP (l:List Ev)(p c:Int)(q:Nat)(b:List UInt8):Bool :=
 (decide ((z3x q b).2=0) && zqg (z89 l p c (z2k l p c q) q).1 (z3x q b).1) || ((decide ((z3x q b).2=11) && decide (z2k l p c q=0)) || (decide ((z3x q b).2=10) && (z89 l p c (z2k l p c q) q).2))
def z64 (l:List Ev)(p c:Int)(im:List (List UInt8)):Option Nat:=(List.range im.length).find? fun q=>!okP l p c q (im.getD q [])
def z22 (l:List Ev)(p c:Int)(im:List (List UInt8)):Int:=if za8 l p c ≠ 0∨(im.length:Int) ≠ p then -1 else match z64 l p c im with
 | some q=>q+1
 | none=>0
abbrev wcS (l:List Ev)(p c:Int)(im:List (List UInt8))(i:Nat)(m r:SL):SL:=[(0,0,sEv l),(100,0,i64 p),(200,0,i64 c)] ++ (m ++ ([(2700,0,sUU false im),(2800,0,i64 im.length),(2900,0,i64 i)] ++ r))
abbrev wcQ (v:Int):Ex→SL→Prop:=fun e L=>e=Ex.ret∧RetOk zt6.rs [] (i64 v) L
theorem zm7 (l:List Ev)(hE:EvOk l)(p c:Int)(h0:za8 l p c=0)(hp48:p≤48)(im:List (List UInt8))(i:Nat)(h:i < im.length)(hi:(i:Int) < p)(hb:im[i].length≤1000000)(Q:Ex→SL→Prop)
  (hK:∀ L,L=wcS l p c im i [(900,0,i64 i)] [(7500,0,bl (!okP l p c i im[i]))]→WL Try.prog zt6.nt yhm L Q) :
  WL Try.prog zt6.nt yho (wcS l p c im i [(900,0,i64 i),(1000,0,sU false im[i])] []) Q:=by
 have hfl:=zem l hE p c i
 have hps:=y1l l hE p c h0 i hi (z2k l p c i)
 have hop:=y1g i im[i] hb
 obtain⟨hk1,hk2⟩:=y1m l p c h0 hE.n i hi (z2k l p c i)
 have hol:=ztg (id:=i) (b:=im[i])
 have eO:okP l p c i im[i]=((decide ((z3x i im[i]).2=0) && zqg (z89 l p c (z2k l p c i) i).1 (z3x i im[i]).1) || ((decide ((z3x i im[i]).2=11) && decide (z2k l p c i=0)) || (decide ((z3x i im[i]).2=10) && (z89 l p c (z2k l p c i) i).2))):=rfl
 generalize okP l p c i im[i]=ok at eO hK
 generalize z2k l p c i=fl at *
 generalize z89 l p c fl i=ps at *
 obtain⟨bs,tn⟩:=ps
 generalize z3x (i:Int) im[i]=o at *
 obtain⟨bd,code⟩:=o
 simp only at hps hop hk1 hk2 hol eO
 refine w7 (RL.o (by simp;rfl) (RL.call0 false hfl (by simp) (by simp) (RL.o (by simp;rfl) (RL.nil ⟨_,by simp;rfl,?_⟩))))
 refine w7 (RL.o (by simp;rfl) (RL.call0 false hps (by simp) (by simp) (RL.freeze 4400 (RL.o (by simp;rfl) (RL.nil ⟨_,by simp;rfl,?_⟩)))))
 refine w7 (RL.o (by simp;rfl) (RL.call0 false hop (by simp) (by simp) (n6 (by decide) (RL.o (by simp;rfl) (RL.nil ⟨_,by simp;rfl,?_⟩)))))
 have fin:∀ L,L=wcS l p c im i [(900,0,i64 i),(1500,0,bl ok)] []→WL Try.prog zt6.nt yhn L Q:=fun L hL=>by
  subst hL
  exact WL.sreg (by simp;rfl) (by simp;rfl) (hK _ (by simp))
 by_cases z0:code=0
 ·subst z0
  have hm:=y1i bs (by omega) hk1 tn bd (hol rfl)
  have eO':ok=zqg bs bd:=by rw[eO];simp
  rw[← eO'] at hm
  have tk:List.take bd.length (bm bd)=bm bd:=pp (by simp)
  refine w7 (RL.o (by simp;rfl) (RL.g (by simp;rfl) (RL.callY0 true (by simp) hm (by simp[tk]) (by simp) ?_)))
  cases ok with
  | true=>exact RL.o (by simp;rfl) (RL.g (by simp;rfl) (RL.g (by simp;rfl) (RL.g (by simp;rfl) (RL.o (by simp;rfl) (RL.g (by simp;rfl) (RL.g (by simp;rfl) (RL.g (by simp;rfl) (RL.o (by simp;rfl) (RL.nil ⟨_,by simp;rfl,fin _ (by simp)⟩)))))))))
  | false=>exact RL.o (by simp;rfl) (RL.g (by simp;rfl) (RL.g (by simp;rfl) (RL.g (by simp;rfl) (RL.o (by simp;rfl) (RL.g (by simp;rfl) (RL.g (by simp;rfl) (RL.g (by simp;rfl) (RL.o (by simp;rfl) (RL.nil ⟨_,by simp;rfl,fin _ (by simp)⟩)))))))))
 ·have z0':(code == 0)=false:=beq_false_of_ne z0
  by_cases z11:code=11
  ·subst z11
   by_cases zf:fl=0
   ·have zf':(fl == 0)=true:=by simp[zf]
    have eO':ok=true:=by rw[eO];simp[zf]
    refine w7 (RL.o (by simp;rfl) (RL.g (by simp;rfl) (RL.callN (by simp) (RL.o (by simp;rfl) (RL.g (by simp;rfl) (RL.g (by simp[zf'];rfl) (RL.g (by simp;rfl) (RL.o (by simp;rfl) (RL.g (by simp;rfl) (RL.g (by simp;rfl) (RL.g (by simp;rfl) (RL.o (by simp;rfl) (RL.nil ⟨_,by simp;rfl,fin _ ?_⟩)))))))))))))
    simp[eO']
   ·have zf':(fl == 0)=false:=beq_false_of_ne zf
    have eO':ok=false:=by rw[eO];simp[zf]
    refine w7 (RL.o (by simp;rfl) (RL.g (by simp;rfl) (RL.callN (by simp) (RL.o (by simp;rfl) (RL.g (by simp;rfl) (RL.g (by simp[zf'];rfl) (RL.g (by simp;rfl) (RL.o (by simp;rfl) (RL.g (by simp;rfl) (RL.g (by simp;rfl) (RL.g (by simp;rfl) (RL.o (by simp;rfl) (RL.nil ⟨_,by simp;rfl,fin _ ?_⟩)))))))))))))
    simp[eO']
  ·have z11':(code == 11)=false:=beq_false_of_ne z11
   by_cases z10:code=10
   ·subst z10
    have eO':ok=tn:=by rw[eO];simp
    subst eO'
    refine w7 (RL.o (by simp;rfl) (RL.g (by simp;rfl) (RL.callN (by simp) (RL.o (by simp;rfl) (RL.g (by simp;rfl) (RL.g (by simp;rfl) (RL.g (by simp;rfl) (RL.o (by simp;rfl) (RL.g (by simp;rfl) (RL.g (by simp;rfl) (RL.g (by simp;rfl) (RL.o (by simp;rfl) (RL.nil ⟨_,by simp;rfl,fin _ ?_⟩)))))))))))))
    simp
   ·have z10':(code == 10)=false:=beq_false_of_ne z10
    have eO':ok=false:=by rw[eO];simp[z0,z11,z10]
    refine w7 (RL.o (by simp[z0'];rfl) (RL.g (by simp;rfl) (RL.callN (by simp) (RL.o (by simp;rfl) (RL.g (by simp[z11'];rfl) (RL.g (by simp;rfl) (RL.g (by simp;rfl) (RL.o (by simp;rfl) (RL.g (by simp[z10'];rfl) (RL.g (by simp;rfl) (RL.g (by simp;rfl) (RL.o (by simp;rfl) (RL.nil ⟨_,by simp;rfl,fin _ ?_⟩)))))))))))))
    simp[eO']
theorem z35 (l:List Ev)(hE:EvOk l)(p c:Int)(im:List (List UInt8))(hn:im.length≤9223372036854775807)(hb:∀ b ∈ im,b.length≤1000000):FnC Try.prog 69 [] [sEv l,i64 p,i64 c,sUU false im] [] (i64 (z22 l p c im)):=by
 have hc:=ykq l hE p c
 refine wc yyf rfl ?_
 refine WL.mono (Q':=wcQ (z22 l p c im)) ?_ fun e L h=>⟨.inr h.1,h.2⟩
 refine WL.sreg (by simp;rfl) (by simp;rfl) ?_
 refine WL.seq (w7 (RL.o (by simp;rfl) (RL.call0 false hc (by simp) (by simp) ?_)))
 by_cases h0:za8 l p c=0
 ·have z:(za8 l p c != 0)=false:=by simp[h0]
  by_cases hl:(im.length:Int)=p
  ·have zl:((im.length:Int) != p)=false:=by simp[hl]
   have hp48:p≤48:=by
    have hb:=(za9 z8y () h0).1
    simp only[z0v,qx,decide_eq_false_iff_not] at hb
    omega
   have eW:z22 l p c im=match z64 l p c im with | some q=>(q:Int)+1 | none=>0:=by unfold z22;rw[if_neg (by simp[h0,hl])]
   rw[eW]
   clear eW
   refine RL.o (by simp[z];rfl) (RL.g (by simp[zl];rfl) (RL.o (by simp;rfl) (RL.nil ⟨_,by simp;rfl,?_⟩)))
   refine WL.cond (t:=false) (by simp) (by simp) fun _=>WL.skip ?_
   refine WL.seq (WL.sreg (by simp;rfl) (by simp;rfl) ?_)
   refine WL.block (we im.length (fun i=>wcS l p c im i [] []) (fun i=>∀ j,j < i→okP l p c j (im.getD j [])=true) (by simp) (fun j h=>absurd h (ra _)) fun i hi hp=>?_)
   by_cases h:i < im.length
   ·have w:IntKind.wrap .i64 ((i:Int)+1)=((i+1:Nat):Int):=by rw[z01 (by omega) (by omega)];omega
    have w2:IntKind.wrap .i64 ((i:Int)+1)=(i:Int)+1:=by rw[z01 (by omega) (by omega)]
    have eg:im.getD i []=im[i]:=by simp[h]
    refine WL.sreg (by simp[h];rfl) (by simp;rfl) ?_
    refine WL.seq (WL.cond (t:=true) (by simp[h]) (fun _=>WL.skip ?_) (by simp))
    refine WL.seq (WL.block (WL.sreg (by simp[h];rfl) (by simp;rfl) ?_))
    refine WL.eqL (L':=wcS l p c im i [(900,0,i64 i),(1000,0,sU false im[i])] []) (by simp) (zm7 l hE p c h0 hp48 im i h (by omega) (hb _ (qb h)) _ fun L hL=>?_)
    subst hL
    cases ho:okP l p c i im[i] with
    | true =>
     refine WL.cond (t:=false) (by simp[ho]) (by simp) fun _=>WL.skip ?_
     refine WL.reg (RL.run (by simp[w];rfl) ⟨_,by simp;rfl,h,by simp,fun j hj=>?_⟩)
     by_cases e:j=i
     ·subst e;rw[eg];exact ho
     ·exact hp j (by omega)
    | false =>
     have hf:z64 l p c im=some i:=by
      unfold z64
      rw[List.find?_range_eq_some]
      exact⟨by rw[eg,ho];rfl,ql.2 h,fun j hj=>by rw[hp j hj];rfl⟩
     refine WL.cond (t:=true) (by simp[ho]) (fun _=>?_) (by simp)
     refine WL.sreg (by simp[w2];rfl) (by simp;rfl) (WL.ret ⟨rfl,?_⟩)
     simp[zt6,hf]
   ·obtain rfl:i=im.length:=by omega
    have hf:z64 l p c im=none:=by
     unfold z64
     rw[List.find?_eq_none]
     intro j hj
     rw[hp j (ql.1 hj)];simp
    rw[hf]
    refine WL.sreg (by simp;rfl) (by simp;rfl) ?_
    refine WL.seq (WL.cond (t:=false) (by simp) (by simp) fun _=>WL.exit ?_)
    refine WL.sreg (by simp;rfl) (by simp;rfl) (WL.ret ⟨rfl,?_⟩)
    simp[zt6]
  ·have zl:((im.length:Int) != p)=true:=by simp[hl]
   have eW:z22 l p c im=-1:=by unfold z22;rw[if_pos (.inr hl)]
   refine RL.o (by simp[z];rfl) (RL.g (by simp[zl];rfl) (RL.o (by simp;rfl) (RL.nil ⟨_,by simp;rfl,?_⟩)))
   refine WL.cond (t:=true) (by simp[hl]) (fun _=>?_) (by simp)
   refine WL.sreg (by simp;rfl) (by simp;rfl) (WL.ret ⟨rfl,?_⟩)
   simp[zt6,eW]
 ·have z:(za8 l p c != 0)=true:=by simp[h0]
  have eW:z22 l p c im=-1:=by unfold z22;rw[if_pos (.inl h0)]
  refine RL.o (by simp[z];rfl) (RL.g (by simp;rfl) (RL.o (by simp;rfl) (RL.nil ⟨_,by simp;rfl,?_⟩)))
  refine WL.cond (t:=true) (by simp) (fun _=>?_) (by simp)
  refine WL.sreg (by simp;rfl) (by simp;rfl) (WL.ret ⟨rfl,?_⟩)
  simp[zt6,eW]
abbrev wvA:Ev:=⟨0,⟨1,0,0,0,0,[]⟩,⟨0,0,0,[]⟩,1,2,3⟩
abbrev wvB:Ev:=⟨0,⟨6,0,0,0,0,[]⟩,⟨0,0,0,[]⟩,4,5,6⟩
abbrev yvu:List UInt8:=[48,49,50,51,52,53,54,55,56,57,97,98,99,100,101,102]
def wz:List UInt8:=(z4i 0 z16).1
def wy:List UInt8:=(z4i 0 yvu).1
def wt:List UInt8:=wz.set 20 9
theorem zql:z4i 0 z16=(wz,0)∧wz.length=24:=⟨by kernel_rfl,by kernel_rfl⟩
theorem zqm:z4i 0 yvu=(wy,0)∧wy.length=24:=⟨by kernel_rfl,by kernel_rfl⟩
theorem y1n:z2k [wvA,wvB] 1 1 0=5:=by kernel_rfl
theorem y1o:z2k [wvA] 1 1 0=0:=by kernel_rfl
theorem y1p:z22 [wvA,wvB] 1 1 [wz]=0:=by kernel_rfl
theorem y1q:z22 [wvA,wvB] 1 1 [z24]=1:=by kernel_rfl
theorem y1r:z22 [wvA] 1 1 [z24]=0:=by kernel_rfl
theorem y1s:z22 [wvA,wvB] 1 1 [wy]=1:=by kernel_rfl
theorem y1t:z22 [wvA,wvB] 1 1 [wt]=1:=by kernel_rfl
theorem y1u:z22 [wvA] 1 1 [wt]=0:=by kernel_rfl
theorem y1v:z22 [wvB] 1 1 [wz]=-1:=by kernel_rfl
set_option maxRecDepth 20000 in
theorem z4x:FnC Try.prog 66 [] [] [] (bl true):=by
 have hz:=zim 0 z16 (by decide)
 have hy:=zim 0 yvu (by simp)
 rw[zql.1] at hz
 rw[zqm.1] at hy
 have lz:=zql.2
 have ly:=zqm.2
 have lt:wt.length=24:=by unfold wt;rw[List.length_set];exact lz
 have E2:EvOk [wvA,wvB]:=ziw (by simp) (by simp)
 have EA:EvOk [wvA]:=ziw (by simp) (by simp)
 have EB:EvOk [wvB]:=ziw (by simp) (by simp)
 have h0:=zem _ E2 1 1 0
 have h1:=zem _ EA 1 1 0
 have h2:=z35 _ E2 1 1 [wz] (by simp) (by simp[lz])
 have h3:=z35 _ E2 1 1 [z24] (by simp) (by simp)
 have h4:=z35 _ EA 1 1 [z24] (by simp) (by simp)
 have h5:=z35 _ E2 1 1 [wy] (by simp) (by simp[ly])
 have h6:=z35 _ E2 1 1 [wt] (by simp) (by simp[lt])
 have h7:=z35 _ EA 1 1 [wt] (by simp) (by simp[lt])
 have h8:=z35 _ EB 1 1 [wz] (by simp) (by simp[lz])
 rw[y1n] at h0;rw[y1o] at h1;rw[y1p] at h2;rw[y1q] at h3;rw[y1r] at h4;rw[y1s] at h5;rw[y1t] at h6;rw[y1u] at h7;rw[y1v] at h8
 have eT:wt=wz.set 20 9:=rfl
 refine wc yyd rfl ?_
 refine WL.sreg (by simp;rfl) (by simp;rfl) ?_
 refine WL.sreg (by simp;rfl) (by simp;rfl) (WL.nil1 107 false 1 (by simp) (WL.nil1 111 false 1 (by simp) ?_))
 refine WL.sreg (by simp;rfl) (by simp;rfl) (WL.nil1 207 false 1 (by simp) (WL.nil1 211 false 1 (by simp) ?_))
 have tk16:List.take 16 (z16.map (fun b=>u8 (b.toNat:Int)))=z16.map (fun b=>u8 (b.toNat:Int)):=rfl
 refine w7 (RL.o (by simp[yd1];rfl) (RL.freeze 1500 (RL.call0 false hz (by simp[yd2]) (by simp) (n6 (by decide) (RL.o (by simp;rfl) (RL.nil ⟨_,by simp;rfl,?_⟩))))))
 refine WL.freeze 300 ?_
 refine w7 (RL.o (by simp;rfl) (RL.freeze 2000 (RL.call0 false hy (by simp) (by simp) (n6 (by decide) (RL.o (by simp;rfl) (RL.nil ⟨_,by simp;rfl,?_⟩))))))
 refine WL.freeze 500 ?_
 refine WL.sreg (by simp;rfl) (by simp;rfl) ?_
 refine WL.freeze 700 ?_
 refine w7 (RL.call0 false zkb (by simp) (by simp) (RL.o (by simp;rfl) (RL.nil ⟨_,by simp;rfl,?_⟩)))
 refine WL.freeze 800 ?_
 have m1:wz.length≤140737488355328:=by omega
 have m2:wz.length≤maxLen:=by unfold maxLen;omega
 have hpz:(bm wz).all z1b=true:=by rw[qe];intro x hx;obtain ⟨b,_,rfl⟩:=sg.1 hx;rfl
 have tkz:List.take 24 (bm wz)=bm wz:=pp (by simp[lz])
 obtain⟨b20,hb20⟩:∃ b:UInt8,(bm wz)[20]?=some (u8 b.toNat):=⟨wz[20],by rw[bm,qa,pi (by omega)];rfl⟩
 have hb20':∀ hh,(bm wz)[20]'hh=u8 b20.toNat:=fun hh=>by rw[pi hh] at hb20;exact Option.some.inj hb20
 refine WL.eqL (L':=[(300,0,sU false wz),(500,0,sU false wy),(700,0,sEv [wvA,wvB]),(800,0,sU false z24)]) (by simp) ?_
 refine WL.sreg (by simp[m1,m2,hpz,lz];rfl) (by simp;rfl) ?_
 refine WL.eqL (L':=[(300,0,sU false wz),(500,0,sU false wy),(700,0,sEv [wvA,wvB]),(800,0,sU false z24),(900,0,.sl true () 1 24 (bm wz))]) (by rw[tkz]) ?_
 have ebt:bm wt=(bm wz).set 20 (u8 9):=by rw[eT,bm,sq];rfl
 refine WL.seq (WL.sreg (by simp;rfl) (by simp;rfl) ?_)
 refine WL.cond (t:=false) (by simp) (by simp) fun _=>WL.skip ?_
 refine WL.sreg (by simp[lz,hb20'];rfl) (by simp;rfl) ?_
 refine WL.eqL (L':=[(300,0,sU false wz),(500,0,sU false wy),(700,0,sEv [wvA,wvB]),(800,0,sU false z24),(900,0,.sl true () 1 24 (bm wt))]) (by rw[ebt]) ?_
 refine WL.freeze 900 ?_
 refine WL.eqL (L':=[(300,0,sU false wz),(500,0,sU false wy),(700,0,sEv [wvA,wvB]),(800,0,sU false z24),(900,0,sU false wt)]) (by simp[lt]) ?_
 clear hz hy eT hpz tkz hb20 hb20' ebt m1 m2 tk16
 generalize wz=z at *
 generalize wy=y at *
 generalize wt=v at *
 refine w7 (RL.o (by simp;rfl) (RL.call0 false h0 (by simp) (by simp) (RL.o (by simp;rfl) ?_)))
 refine RL.g (by simp;rfl) (RL.callY0 false (by simp) h1 (by simp) (by simp) (RL.g (by simp;rfl) (RL.o (by simp;rfl) ?_)))
 refine RL.fin [37,38,39,40,41,42,43,44,45] (by simp;rfl) ?_
 refine RL.g (by simp;rfl) (RL.freeze 4900 (RL.callY0 false (by simp) h2 (by simp) (by simp) (RL.g (by simp;rfl) (RL.o (by simp;rfl) ?_))))
 refine RL.fin [46,47,48,49,50,51,52] (by simp;rfl) ?_
 refine RL.g (by simp;rfl) (RL.freeze 5600 (RL.callY0 false (by simp) h3 (by simp) (by simp) (RL.g (by simp;rfl) (RL.o (by simp;rfl) ?_))))
 refine RL.fin [53,54,55,56,57,58,59] (by simp;rfl) ?_
 refine RL.g (by simp;rfl) (RL.freeze 6400 (RL.callY0 false (by simp) h4 (by simp) (by simp) (RL.g (by simp;rfl) (RL.o (by simp;rfl) ?_))))
 refine RL.fin [60,61,62,63,64,65,66,67] (by simp;rfl) ?_
 refine RL.g (by simp;rfl) (RL.freeze 7100 (RL.callY0 false (by simp) h5 (by simp) (by simp) (RL.g (by simp;rfl) (RL.o (by simp;rfl) ?_))))
 refine RL.fin [68,69,70,71,72,73,74] (by simp;rfl) ?_
 refine RL.g (by simp;rfl) (RL.freeze 7800 (RL.callY0 false (by simp) h6 (by simp) (by simp) (RL.g (by simp;rfl) (RL.o (by simp;rfl) ?_))))
 refine RL.fin [75,76,77,78,79,80,81] (by simp;rfl) ?_
 refine RL.g (by simp;rfl) (RL.freeze 8600 (RL.callY0 false (by simp) h7 (by simp) (by simp) (RL.g (by simp;rfl) (RL.o (by simp;rfl) ?_))))
 refine RL.fin [82,83,84,85,86,87,88,89] (by simp;rfl) ?_
 refine RL.g (by simp;rfl) (RL.freeze 9400 (RL.callY0 false (by simp) h8 (by simp) (by simp) (RL.g (by simp;rfl) (RL.o (by simp;rfl) (RL.nil ⟨_,by simp;rfl,WL.ret ⟨.inr rfl,?_⟩⟩)))))
 simp[ywz]
def z2j (l:List Cl)(i:Nat):Cl:=z7x (l.getD i ⟨0,⟨0,0,0,0,0,[]⟩⟩) 5 3
def z2g (l:List Cl):Nat→St
 | 0=>z1c 5 3
 | i+1=>(DoB (z2g l i) (z2j l i).Client (z2j l i).op).2.1
def z4q (l:List Cl)(i:Nat):Ev:=⟨(z2j l i).Client,(z2j l i).op,(DoB (z2g l i) (z2j l i).Client (z2j l i).op).2.2,3 * (i:Int)+1,3 * (i:Int)+2,3 * (i:Int)+3⟩
def z4j (l:List Cl)(n:Nat):List Ev:=(List.range n).map (z4q l)
theorem z5m (l:List Cl):∀ n,OkSt (z2g l n)
 | 0=>z3u (by kernel_rfl)
 | n+1=>(z5m l n).doB _ _
theorem z1k (l:List Cl)(n:Nat):(z4j l n).length=n:=by simp[z4j]
theorem z52 (l:List Cl)(n:Nat){i:Nat}(h:i < n):(z4j l n)[i]'(by rw[z1k];exact h)=z4q l i:=by simp[z4j]
theorem zen (l:List Cl)(i:Nat):0≤(z2j l i).Client∧(z2j l i).Client < 3:=by
 have:=(z50 (l.getD i ⟨0,⟨0,0,0,0,0,[]⟩⟩).Client 3 (by decide) (by decide)).1
 simp only[z2j,z7x]
 exact⟨by omega,by omega⟩
theorem z91 (l:List Cl)(i:Nat):(z2j l i).op.Data.length≤8:=by
 simp only[z2j,z7x,s7];omega
theorem zd7 (l:List Cl)(n j:Nat)(h:j < n):z2a (z4j l n) j 3=true:=by
 have hj:j < (z4j l n).length:=by rw[z1k];exact h
 rw[z88 hj,z52 l n h]
 have hc:=zen l j
 have h1:z87 (z4j l n) j 3 (z4q l j)=false:=by
  have hp:z63 (z4j l n) j (z4q l j)=false:=by
   unfold z63
   by_cases h0:0 < j
   ·have hl:j - 1 < (z4j l n).length:=by rw[z1k];omega
    have:(z4j l n).getD (j - 1) (z4q l j)=z4q l (j - 1):=by
     rw[ph,pi hl]
     simp only[ro]
     exact z52 l n (by omega)
    rw[this]
    simp[z4q]
    try omega
   ·simp[h0]
  have b1:¬ (z4q l j).Client < 0:=by show ¬ (z2j l j).Client < 0;omega
  have b2:¬ 3≤(z4q l j).Client:=by show ¬ 3≤(z2j l j).Client;omega
  have b3:¬ (z4q l j).Begin < 1:=by show ¬ 3 * (j:Int)+1 < 1;omega
  have b4:¬ (z4q l j).End < 0:=by show ¬ 3 * (j:Int)+3 < 0;omega
  simp only[z87,hp,b1,b2,b3,b4,decide_false,Bool.or_self]
 have h2:z3i (z4q l j)=false:=by simp[z3i,z4q]
 have h3:(((z4j l n).take j).any (z3t (z4q l j)))=false:=by
  rw[List.any_eq_false]
  intro e he
  obtain⟨k,hk,rfl⟩:=List.mem_iff_getElem.1 he
  have hkj:k < j:=by simp at hk;omega
  rw[List.getElem_take,z52 l n (by omega)]
  have a1:¬ (z4q l k).End < 1:=by simp only[z4q];omega
  have a2:¬ (z4q l j).Begin≤(z4q l k).End:=by simp only[z4q];omega
  simp[z3t,a1,a2]
 simp[z3z,h1,h2,h3]
theorem zd8 (l:List Cl)(n:Nat){i:Nat}(h:i < n):((z4j l n).map (·.Stamp)).getD i 0=3 * (i:Int)+2:=by
 rw[ph,qa,pi (by rw[z1k];exact h),z52 l n h]
 rfl
theorem zkm (l:List Cl)(n:Nat):z1t (z4j l n)=(List.range n).map fun i=>(Int.ofNat i):=by
 have hp:y3a (z4j l n)=(List.range n).map fun i=>(Int.ofNat i):=by
  unfold y3a z9m
  rw[z1k]
  congr 1
  rw[List.filter_eq_self]
  intro i hi
  rw[zd8 l n (ql.1 hi)]
  simp;omega
 unfold z1t
 rw[← hp]
 symm
 refine zid (z9a (z4j l n)) (z85 _ _) (List.Perm.refl _) ?_
 rw[hp,List.pairwise_map]
 refine List.pairwise_lt_range.imp_of_mem ?_
 intro a b ha hb hab
 left
 have e:∀ {i},i < n→z9a (z4j l n) (Int.ofNat i)=3 * (i:Int)+2:=fun {i} h=>by
  have:=zd8 l n h
  simpa [z9a] using this
 rw[e (ql.1 ha),e (ql.1 hb)]
 omega
theorem zh0 (l:List Cl)(i:Nat):z1g (z2g l i) (z4q l i)=(true,z2g l (i+1)):=by
 have hb:zeh (z4q l i).op.Kind (z4q l i).res.Code=false:=by
  cases h:zeh (z4q l i).op.Kind (z4q l i).res.Code with
  | false=>rfl
  | true =>
   have:=zgw h
   have:=(zkd (z2g l i) (z2j l i).Client (z2j l i).op).2
   simp only[z4q] at *
   omega
 unfold z1g
 rw[hb]
 simp[z4q,z2g,z1z]
theorem zqn (l:List Cl)(n:Nat):∀ k j:Nat,j+k=n→goW (z4j l n) z8y (z2g l j) () (((List.range n).map fun i=>(Int.ofNat i)).drop j)=(0,z2g l n,())
 | 0,j,h=>by
  obtain rfl:j=n:=by omega
  rw[rx (by simp)]
  rfl
 | k+1,j,h=>by
  have hj:j < ((List.range n).map fun i=>(Int.ofNat i)).length:=by simp;omega
  rw[s6 hj]
  have e1:((List.range n).map fun i=>(Int.ofNat i))[j]=(j:Int):=by simp
  have e2:atE (z4j l n) (j:Int)=z4q l j:=by
   rw[z59 (by rw[z1k];omega),z52 l n (by omega)]
  simp only[e1,goW,e2,zh0,if_true]
  exact zqn l n k (j+1) (by omega)
theorem zqo (l:List Cl)(n:Nat):z18 z8y () (z4j l n) 5 3=(0,z2g l n,()):=by
 have hb:z0v 5 3=false:=by kernel_rfl
 unfold z18
 rw[hb,z34 (fun j hj=>zd7 l n j (by rw[z1k] at hj;exact hj)),zkm]
 simp only[pu,if_false]
 have:=zqn l n n 0 (by omega)
 rw[List.drop_zero] at this
 exact this
theorem zkn (l:List Cl)(n:Nat):za8 (z4j l n) 5 3=0:=by unfold za8;rw[zqo]
theorem y1w (l:List Cl)(n:Nat)(hn:n≤1000):EvOk (z4j l n):=⟨by rw[z1k];exact hn,fun e he=>by
 obtain⟨k,hk,rfl⟩:=List.mem_iff_getElem.1 he
 rw[z52 l n (by rw[z1k] at hk;exact hk)]
 have:=z91 l k
 simp only[z4q];omega⟩
@[simp] theorem ymv (l:List Ev):z0x (l.flatMap (z02 false false))=l.flatMap (z02 false false):=by
 induction l with
 | nil=>rfl
 | cons e l ih =>
  rw[qw,z3n,sj,← z3n (l.flatMap _),ih]
  simp
abbrev hEv (l:List Ev):AU:=.sl true () 14 l.length (l.flatMap (z02 false false))
theorem z65 {l:List Ev}{k:Nat}(h:k < l.length):l.flatMap (z02 false false)=(l.take k).flatMap (z02 false false) ++ (z02 false false l[k] ++ (l.drop (k+1)).flatMap (z02 false false)):=by
 conv=>lhs;rw[← List.take_append_drop k l,s6 h]
 rw[tq,qw]
theorem z2z {l:List Ev}{k:Nat}(h:k < l.length):((l.take k).flatMap (z02 false false)).length=k * 14:=by
 rw[z27,s7,ti (by omega)]
theorem z1s {l:List Ev}{k j:Nat}(h:k < l.length)(hj:j < 14):(l.flatMap (z02 false false))[k * 14+j]?=(z02 false false l[k])[j]?:=by
 rw[z65 h,qf (by rw[z2z h];omega),z2z h,show k * 14+j - k * 14=j by omega,qc (by simpa using hj)]
theorem z0i {l:List Ev}{k j:Nat}(h:k < l.length)(hj:j < 14){v:AU}(hv:(z02 false false l[k])[j]?=some v):∀ hh,(l.flatMap (z02 false false))[k * 14+j]'hh=v:=fun hh=>by
 have:=z1s h hj
 rw[pi hh,hv] at this
 exact Option.some.inj this
theorem zeo {l:List Ev}{k:Nat}(h:k < l.length)(e':Ev):(l.set k e').flatMap (z02 false false)=(l.take k).flatMap (z02 false false) ++ (z02 false false e' ++ (l.drop (k+1)).flatMap (z02 false false)):=by
 rw[List.set_eq_take_append_cons_drop,if_pos h,tq,qw]
theorem zbt {α:Type}(A X:List α)(b j:Nat)(v:α)(hA:A.length=b):(A ++ X).set (b+j) v=A ++ X.set j v:=by
 subst hA;rw[List.set_append_right _ _ (by omega)];congr 2;omega
theorem zko {l:List Ev}{k j:Nat}(h:k < l.length){v:AU}{e':Ev}(he:∀ B:List AU,(z02 false false l[k] ++ B).set j v=z02 false false e' ++ B):(l.flatMap (z02 false false)).set (k * 14+j) v=(l.set k e').flatMap (z02 false false):=by
 rw[zeo h,z65 h,zbt _ _ _ _ _ (z2z h),he]
theorem zab {l:List Ev}{k:Nat}(h:k < l.length)(r:Rs):(((((l.flatMap (z02 false false)).set (k * 14+10) .dead).set (k * 14+7) (i64 r.Code)).set (k * 14+8) (i64 r.Page)).set (k * 14+9) (i64 r.Handle)).set (k * 14+10) (sU false r.Data)=(l.set k { l[k] with res:=r }).flatMap (z02 false false):=by
 rw[zeo h,z65 h]
 simp only[zbt _ _ _ _ _ (z2z h)]
 rfl
theorem zqp {l:List Ev}{k:Nat}(h:k < l.length)(j:Nat):((l.flatMap (z02 false false)).set (k * 14+10) .dead).drop (k * 14+j)=((z02 false false l[k]).set 10 .dead ++ (l.drop (k+1)).flatMap (z02 false false)).drop j:=by
 rw[z65 h,zbt _ _ _ _ _ (z2z h)]
 have e:((l.take k).flatMap (z02 false false)).length=k * 14:=z2z h
 rw[← e,List.drop_length_add_append]
 rfl
def zth (s:St)(e:Ev):St:=if e.Stamp=0 then (DoB s e.Client e.op).2.1 else s
def zew (e:Ev)(now:Int)(en:Bool):Int:=(if e.Stamp=0 then now+1 else now)+(if en=true then 1 else 0)
def zc9 (s:St)(e:Ev)(now:Int)(en:Bool):Ev :=
 let e1:Ev:=if e.Stamp=0 then { e with Stamp:=now+1,res:=(DoB s e.Client e.op).2.2 } else e
 if en=true then { e1 with End:=zew e now en } else { e1 with res:=⟨0,0,0,[]⟩ }
abbrev fsB (g:Nat)(s:St)(l:List Ev)(r:SL):SL:=[(100,0,.view 1000300 0 [] 0 l.length)] ++ (r ++ ([(1000000,g,sB true s.There),(1000100,g,sS true s.Body),(1000200,g,sII true s.Handles)] ++ [(1000300,0,hEv l)]))
abbrev fsX (s:St):SL:=[(500,0,.bptr 5 1 0),(501,0,.view 1000000 0 [] 0 s.There.length),(502,0,.view 1000100 0 [] 0 s.Body.length),(503,0,.view 1000200 0 [] 0 s.Handles.length),(599,1,.non)]
abbrev fsQ (s:St)(l:List Ev)(now:Int):Ex→SL→Prop:=fun e L=>e=Ex.ret∧RetOk zuk.rs (gsT s ++ [.nod (hEv l)]) (i64 now) L
theorem zm8 (g:Nat)(s:St)(l:List Ev)(hn:l.length≤1000)(k:Nat)(hk:k < l.length)(now:Int)(h0:0≤now)(h1:now≤1000000000)(en:Bool) :
  WL Try.prog zuk.nt yep (fsB g s l [(200,0,i64 k),(300,0,i64 now),(4900,0,bl en)]) (wg (fun L'=>WL Try.prog zuk.nt zui L' (fsQ s (l.set k (if en=true then { l[k] with End:=now+1 } else { l[k] with res:=⟨0,0,0,[]⟩ })) (if en=true then now+1 else now))) (fsQ s (l.set k (if en=true then { l[k] with End:=now+1 } else { l[k] with res:=⟨0,0,0,[]⟩ })) (if en=true then now+1 else now))):=by
 have w:IntKind.wrap .i64 (now+1)=now+1:=by rw[z01 (by omega) (by omega)]
 have hL:=z27 false false l
 have i7:k * 14+7 < l.length * 14:=by omega
 have i8:k * 14+8 < l.length * 14:=by omega
 have i9:k * 14+9 < l.length * 14:=by omega
 have i10:k * 14+10 < l.length * 14:=by omega
 have i13:k * 14+13 < l.length * 14:=by omega
 have q13:=z0i (j:=13) (v:=i64 l[k].End) hk (by decide) rfl
 have q7:=z0i (j:=7) (v:=i64 l[k].res.Code) hk (by decide) rfl
 have q8:=z0i (j:=8) (v:=i64 l[k].res.Page) hk (by decide) rfl
 have q9:=z0i (j:=9) (v:=i64 l[k].res.Handle) hk (by decide) rfl
 have q10:=z0i (j:=10) (v:=sU false l[k].res.Data) hk (by decide) rfl
 cases en with
 | true =>
  have hs:=zko (l:=l) (k:=k) (j:=13) hk (v:=i64 (now+1)) (e':={ l[k] with End:=now+1 }) (fun B=>rfl)
  refine WL.cond (t:=true) (by simp) (fun _=>?_) (by simp)
  refine WL.sreg (by simp[w];rfl) (by simp;rfl) ?_
  refine WL.reg (RL.run (by simp[hk,q13,hL,i13];rfl) ⟨_,by simp;rfl,?_⟩)
  refine WL.sreg (by simp;rfl) (by simp;rfl) (WL.ret ⟨rfl,?_⟩)
  simp[zuk,← hs]
 | false =>
  have hs:=zab (l:=l) (k:=k) hk ⟨0,0,0,[]⟩
  refine WL.cond (t:=false) (by simp) (by simp) fun _=>?_
  refine WL.wipe1 1000300 [k * 14+10] (by simp[hk,q10,hL,i10]) ?_
  refine WL.reg ?_
  refine RL.cut (segs':=.o [.mov 57 (.t 1),.mov 58 (.t 2),.build 59 [(.sc (.int .i64 0)),(.sc (.int .i64 0)),(.sc (.int .i64 0)),(.sc (.slice none 0 0))] []] :: .o [.iaddr 60 14 (.t 57) (.t 58),.faddr 61 7 (.t 60),.st 4 (.t 61) (.t 59)] :: []) rfl ?_
  refine RL.o (by simp;rfl) (RL.nilA 59 3 1 (by simp;rfl) rfl rfl ?_)
  refine RL.o (by simp[hk,q7,q8,q9,hL,i7,i8,i9,i10];rfl) (RL.nil ⟨_,by simp;rfl,?_⟩)
  refine WL.sreg (by simp;rfl) (by simp;rfl) (WL.ret ⟨rfl,?_⟩)
  simp[zuk,← hs]
  rfl
theorem zqq (s:St)(hok:OkSt s)(l:List Ev)(hn:l.length≤1000)(k:Nat)(hk:k < l.length)(hD:l[k].op.Data.length≤1000)(now:Int)(h0:0≤now)(h1:now≤1000000000)(en:Bool)(K:Ex→SL→Prop)
  (hK:K .nrm (fsB 1 (DoB s l[k].Client l[k].op).2.1 (l.set k { l[k] with Stamp:=now+1,res:=(DoB s l[k].Client l[k].op).2.2 }) [(200,0,i64 k),(300,0,i64 (now+1)),(400,0,bl en)])) :
  WL Try.prog zuk.nt yeo (fsB 0 s l ([(200,0,i64 k),(300,0,i64 now),(400,0,bl en)] ++ (fsX s ++ [(2500,0,bl true)]))) K:=by
 have w:IntKind.wrap .i64 (now+1)=now+1:=by rw[z01 (by omega) (by omega)]
 have hdo:=z83 s hok l[k].Client l[k].op (by unfold z0c;omega)
 have hL:=z27 false false l
 have i0:k * 14+0 < l.length * 14:=by omega
 have i12:k * 14+12 < l.length * 14:=by omega
 have q12:=z0i (j:=12) (v:=i64 l[k].Stamp) hk (by decide) rfl
 have hs1:=zko (l:=l) (k:=k) (j:=12) hk (v:=i64 (now+1)) (e':={ l[k] with Stamp:=now+1 }) (fun B=>rfl)
 refine WL.sreg (by simp[w];rfl) (by simp;rfl) ?_
 refine WL.sreg (by simp[hk,q12,hL,i12];rfl) (by simp;rfl) ?_
 rw[hs1]
 have hk1:k < (l.set k { l[k] with Stamp:=now+1 }).length:=by simpa using hk
 have hg1:(l.set k { l[k] with Stamp:=now+1 })[k]={ l[k] with Stamp:=now+1 }:=by simp
 have hL1:(l.set k { l[k] with Stamp:=now+1 }).length=l.length:=by simp
 have hset:∀ r:Rs,(l.set k { l[k] with Stamp:=now+1 }).set k { ({ l[k] with Stamp:=now+1 }:Ev) with res:=r }=l.set k { l[k] with Stamp:=now+1,res:=r }:=fun r=>by simp
 have hs5:=fun r=>zab hk1 r
 have hdr:=fun j=>zqp hk1 j
 have hp:=fun j (h:j < 14)=>z1s (l:=l.set k { l[k] with Stamp:=now+1 }) (j:=j) hk1 h
 have hq:=fun j v (h:j < 14)=>z0i (l:=l.set k { l[k] with Stamp:=now+1 }) (j:=j) (v:=v) hk1 h
 rw[hg1] at hs5 hdr hq hp
 have hL2:=z27 false false (l.set k { l[k] with Stamp:=now+1 })
 rw[hL1] at hL2
 clear hs1 q12 hL
 generalize l[k]=e at *
 obtain⟨ec,eo,er,eb,es,ee⟩:=e
 simp only at hdo hK hset hs5 hdr hq hp hk1 hg1 hL1 hL2 ⊢
 generalize (l.set k ⟨ec,eo,er,eb,now+1,ee⟩)=l1 at *
 have q0:∀ (hh:k * 14 < (l1.flatMap (z02 false false)).length),(l1.flatMap (z02 false false))[k * 14]'hh=i64 ec:=hq 0 (i64 ec) (by decide) rfl
 have q1:∀ (hh:k * 14+1 < (l1.flatMap (z02 false false)).length),(l1.flatMap (z02 false false))[k * 14+1]'hh=i64 eo.Kind:=hq 1 (i64 eo.Kind) (by decide) rfl
 have q2:∀ (hh:k * 14+1+1 < (l1.flatMap (z02 false false)).length),(l1.flatMap (z02 false false))[k * 14+1+1]'hh=i64 eo.Page:=hq 2 (i64 eo.Page) (by decide) rfl
 have q3:∀ (hh:k * 14+1+2 < (l1.flatMap (z02 false false)).length),(l1.flatMap (z02 false false))[k * 14+1+2]'hh=i64 eo.Handle:=hq 3 (i64 eo.Handle) (by decide) rfl
 have q4:∀ (hh:k * 14+1+3 < (l1.flatMap (z02 false false)).length),(l1.flatMap (z02 false false))[k * 14+1+3]'hh=i64 eo.Off:=hq 4 (i64 eo.Off) (by decide) rfl
 have q5:∀ (hh:k * 14+1+4 < (l1.flatMap (z02 false false)).length),(l1.flatMap (z02 false false))[k * 14+1+4]'hh=i64 eo.N:=hq 5 (i64 eo.N) (by decide) rfl
 have q6:∀ (hh:k * 14+1+5 < (l1.flatMap (z02 false false)).length),(l1.flatMap (z02 false false))[k * 14+1+5]'hh=sU false eo.Data:=hq 6 (sU false eo.Data) (by decide) rfl
 have q7:∀ (hh:k * 14+7 < (l1.flatMap (z02 false false)).length),(l1.flatMap (z02 false false))[k * 14+7]'hh=i64 er.Code:=hq 7 (i64 er.Code) (by decide) rfl
 have q8:∀ (hh:k * 14+7+1 < (l1.flatMap (z02 false false)).length),(l1.flatMap (z02 false false))[k * 14+7+1]'hh=i64 er.Page:=hq 8 (i64 er.Page) (by decide) rfl
 have q9:∀ (hh:k * 14+7+2 < (l1.flatMap (z02 false false)).length),(l1.flatMap (z02 false false))[k * 14+7+2]'hh=i64 er.Handle:=hq 9 (i64 er.Handle) (by decide) rfl
 have q10:∀ (hh:k * 14+10 < (l1.flatMap (z02 false false)).length),(l1.flatMap (z02 false false))[k * 14+10]'hh=sU false er.Data:=hq 10 (sU false er.Data) (by decide) rfl
 have p1:(l1.flatMap (z02 false false))[k * 14+1]?=some (i64 eo.Kind):=hp 1 (by decide)
 have p2:(l1.flatMap (z02 false false))[k * 14+1+1]?=some (i64 eo.Page):=hp 2 (by decide)
 have p3:(l1.flatMap (z02 false false))[k * 14+1+2]?=some (i64 eo.Handle):=hp 3 (by decide)
 have p4:(l1.flatMap (z02 false false))[k * 14+1+3]?=some (i64 eo.Off):=hp 4 (by decide)
 have p5:(l1.flatMap (z02 false false))[k * 14+1+4]?=some (i64 eo.N):=hp 5 (by decide)
 have p6:(l1.flatMap (z02 false false))[k * 14+1+5]?=some (sU false eo.Data):=hp 6 (by decide)
 have i7:k * 14+7 < l.length * 14:=by omega
 have i8:k * 14+8 < l.length * 14:=by omega
 have i9:k * 14+9 < l.length * 14:=by omega
 have i10:k * 14+10 < l.length * 14:=by omega
 have b1:k * 14+1≤l.length * 14:=by omega
 have b2:k * 14+1+6≤l.length * 14:=by omega
 refine WL.wipe1 1000300 [k * 14+10] (by simp[q10,hL2,i10]) ?_
 refine WL.draw z0t (by simp[z0b,noH]) (DL.o (by simp[hk,q0,q1,q2,q3,q4,q5,q6,p1,p2,p3,p4,p5,p6,hL2,i10,b1,b2];exact⟨rfl,rfl⟩) ?_)
 generalize DoB s ec eo=dd at hdo hK
 obtain⟨o',t,r⟩:=dd
 simp only at hdo hK
 have hs5':=hs5 r
 rw[hset] at hs5'
 refine n3 true [(1000000,[]),(1000100,[]),(1000200,[])] hdo (by simp) (by simp) (by simp[z36]) (zbp s t r) (by simp[z0b,noH]) ?_
 refine DL.o (by simp[hk,q7,q8,q9,hL2,i7,i8,i9,i10];exact⟨rfl,rfl⟩) (DL.nil ⟨by kernel_rfl,_,by simp;rfl,?_⟩)
 unfold fsB hEv at hK
 rw[← hs5',List.length_set] at hK
 exact hK
theorem zbu (g:Nat)(s:St)(l:List Ev)(hn:l.length≤1000)(k:Nat)(hk:k < l.length)(now:Int)(h0:0≤now)(h1:now≤1000000000)(en:Bool)(r:SL)(hr:r=[]∨(g=0∧r=fsX s ++ [(2500,0,bl false)])) :
  WL Try.prog zuk.nt zuj (fsB g s l ([(200,0,i64 k),(300,0,i64 now),(400,0,bl en)] ++ r)) (fsQ s (l.set k (if en=true then { l[k] with End:=now+1 } else { l[k] with res:=⟨0,0,0,[]⟩ })) (if en=true then now+1 else now)):=by
 have:=zm8 0 s l hn k hk now h0 h1 en
 rcases hr with rfl | ⟨rfl,rfl⟩
 ·refine WL.seq (WL.sreg (by simp;rfl) (by simp;rfl) ?_)
  exact this
 ·refine WL.seq (WL.sreg (by simp;rfl) (by simp;rfl) ?_)
  exact this
theorem zh1 (s:St)(hok:OkSt s)(l:List Ev)(hn:l.length≤1000)(k:Nat)(hk:k < l.length)(hD:l[k].op.Data.length≤1000)(now:Int)(h0:0≤now)(h1:now≤100000000)(en:Bool) :
  FnC Try.prog 95 (gsT s ++ [.nod (hEv l)]) [vwT s,.view 1000300 0 [] 0 l.length,i64 k,i64 now,bl en] (gsT (zth s l[k]) ++ [.nod (hEv (l.set k (zc9 s l[k] now en)))]) (i64 (zew l[k] now en)):=by
 have hL:=z27 false false l
 have i12:k * 14+12 < l.length * 14:=by omega
 have j12:k * 14+12+1≤l.length * 14:=by omega
 have q12:=z0i (j:=12) (v:=i64 l[k].Stamp) hk (by decide) rfl
 have p1:¬ (k:Int) < 0:=by omega
 have p2:¬ (l.length:Int)≤k:=by omega
 have p2':¬ l.length≤k:=by omega
 refine wc yy8 rfl ?_
 refine WL.mono (Q':=fsQ (zth s l[k]) (l.set k (zc9 s l[k] now en)) (zew l[k] now en)) ?_ fun x L h=>⟨.inr h.1,h.2⟩
 refine w7 (ng (by simp;rfl) (by simp) (by simp[zhc]) (by simp) (RL.o (by simp;rfl) (RL.nil ⟨_,by simp;rfl,?_⟩)))
 refine WL.seq (WL.sreg (by simp[p1,p2,p2'];rfl) (by simp;rfl) ?_)
 refine WL.cond (t:=false) (by simp[p2,p2']) (by simp) fun _=>WL.skip ?_
 refine WL.seq ?_
 by_cases z:l[k].Stamp=0
 ·have z':(l[k].Stamp == 0)=true:=by simp[z]
  refine WL.sreg (by simp[hk,q12,hL,i12,j12,z'];rfl) (by simp;rfl) ?_
  refine WL.cond (t:=true) (by simp) (fun _=>?_) (by simp)
  refine zqq s hok l hn k hk hD now h0 (by omega) en _ ?_
  have ht:=zbu 1 (DoB s l[k].Client l[k].op).2.1 (l.set k { l[k] with Stamp:=now+1,res:=(DoB s l[k].Client l[k].op).2.2 }) (by simpa using hn) k (by simpa using hk) (now+1) (by omega) (by omega) en [] (.inl rfl)
  have e1:zth s l[k]=(DoB s l[k].Client l[k].op).2.1:=by simp[zth,z]
  have e2:(l.set k { l[k] with Stamp:=now+1,res:=(DoB s l[k].Client l[k].op).2.2 }).set k (if en=true then { (l.set k { l[k] with Stamp:=now+1,res:=(DoB s l[k].Client l[k].op).2.2 })[k]'(by simpa using hk) with End:=now+1+1 } else { (l.set k { l[k] with Stamp:=now+1,res:=(DoB s l[k].Client l[k].op).2.2 })[k]'(by simpa using hk) with res:=⟨0,0,0,[]⟩ })=l.set k (zc9 s l[k] now en):=by
   cases en<;>simp [zc9,zew,z]
  have e3:(if en=true then now+1+1 else now+1)=zew l[k] now en:=by cases en<;>simp [zew,z]
  rw[e2,e3] at ht
  rw[e1]
  simpa using ht
 ·have z':(l[k].Stamp == 0)=false:=beq_false_of_ne z
  refine WL.sreg (by simp[hk,q12,hL,i12,j12,z'];rfl) (by simp;rfl) ?_
  refine WL.cond (t:=false) (by simp) (by simp) fun _=>WL.skip ?_
  have ht:=zbu 0 s l hn k hk now h0 (by omega) en (fsX s ++ [(2500,0,bl false)]) (.inr ⟨rfl,rfl⟩)
  have e1:zth s l[k]=s:=by simp[zth,z]
  have e2:(if en=true then { l[k] with End:=now+1 } else { l[k] with res:=⟨0,0,0,[]⟩ })=zc9 s l[k] now en:=by
   cases en<;>simp [zc9,zew,z]
  have e3:(if en=true then now+1 else now)=zew l[k] now en:=by cases en<;>simp [zew,z]
  rw[e2,e3] at ht
  rw[e1]
  exact ht
structure Mk where
 s:St
 out:List Ev
 op:List Int
 now:Int
def mkF (m:Mk)(k:Int)(en:Bool):Mk:=⟨zth m.s (atE m.out k),m.out.set k.toNat (zc9 m.s (atE m.out k) m.now en),m.op,zew (atE m.out k) m.now en⟩
def mkO (m:Mk)(c:Nat)(v:Int):Mk:=⟨m.s,m.out,m.op.set c v,m.now⟩
def z8a (m:Mk)(c:Nat):Mk:=if 0≤m.op.getD c 0 then mkO (mkF m (m.op.getD c 0) true) c (-1) else m
def z3y (m:Mk)(c:Nat)(q:Op):Mk:=⟨m.s,m.out ++ [⟨c,q,⟨0,0,0,[]⟩,m.now+1,0,0⟩],m.op.set c m.out.length,m.now+1⟩
def an1 (w:Int):Int:=IntKind.wrap .i64 (((w % 2 ^ IntKind.i64.bits).toNat &&& 1 % 2 ^ IntKind.i64.bits:Nat):Int)
def an2 (w:Int):Int:=IntKind.wrap .i64 (((w % 2 ^ IntKind.i64.bits).toNat &&& 2 % 2 ^ IntKind.i64.bits:Nat):Int)
def fl1 (w:Int):Bool:=an1 w == 1
def fl2 (w:Int):Bool:=an2 w == 2
def z9c (m:Mk)(c:Nat)(en:Bool):Mk:=if en=true then mkO (mkF m (m.out.length - 1:Nat) true) c (-1) else mkF m (m.out.length - 1:Nat) false
def z53 (m:Mk)(x:Cl)(w:Int):Mk :=
 if fl1 w=true then z9c (z3y (z8a m x.Client.toNat) x.Client.toNat x.op) x.Client.toNat (fl2 w) else z3y (z8a m x.Client.toNat) x.Client.toNat x.op
def z43 (l:List Cl)(wt:List Int):Nat→Mk
 | 0=>⟨z1c 5 3,[],[-1,-1,-1],0⟩
 | i+1=>z53 (z43 l wt i) (z2j l i) (wt.getD i 0)
structure MkOk (m:Mk) (i:Nat):Prop where
 s:OkSt m.s
 n:m.out.length=i
 o:m.op.length=3
 r:∀ x ∈ m.op,x=-1∨(0≤x∧x < m.out.length)
 n0:0≤m.now
 n1:m.now≤10 * i
 d:∀ e ∈ m.out,e.op.Data.length≤8
theorem y1x {s:St}(h:OkSt s)(e:Ev):OkSt (zth s e):=by unfold zth;split;exact h.doB _ _;exact h
theorem y1y (s:St)(e:Ev)(now:Int)(en:Bool):(zc9 s e now en).op=e.op:=by
 unfold zc9;cases en<;>by_cases z:e.Stamp=0<;>simp [z]
theorem ziy (e:Ev)(now:Int)(en:Bool):now≤zew e now en∧zew e now en≤now+2:=by
 unfold zew;split<;>split<;>omega
structure MkK (m:Mk) (n:Nat) (t:Int):Prop where
 s:OkSt m.s
 n:m.out.length=n
 o:m.op.length=3
 r:∀ x ∈ m.op,x=-1∨(0≤x∧x < m.out.length)
 n0:0≤m.now
 n1:m.now≤t
 d:∀ e ∈ m.out,e.op.Data.length≤8
theorem MkK.f {m:Mk}{n:Nat}{t:Int}(h:MkK m n t){k:Nat}(hk:k < n)(en:Bool):MkK (mkF m (k:Int) en) n (t+2):=by
 have hk':k < m.out.length:=by rw[h.n];exact hk
 have ha:atE m.out (k:Int)=m.out[k]:=z59 hk'
 have hN:=ziy (atE m.out (k:Int)) m.now en
 refine⟨y1x h.s _,by simp[mkF,h.n],h.o,fun x hx=>?_,?_,?_,fun e he=>?_⟩
 ·have:=h.r x hx
  simpa [mkF] using this
 ·have:=h.n0;simp only[mkF];omega
 ·have:=h.n1;simp only[mkF];omega
 ·simp only[mkF] at he
  rcases si he with he | rfl
  ·exact h.d e he
  ·rw[y1y,ha];exact h.d _ (qb hk')
theorem MkK.set {m:Mk}{n:Nat}{t:Int}(h:MkK m n t)(c:Nat){v:Int}(hv:v=-1∨(0≤v∧v < n)):MkK (mkO m c v) n t:=by
 refine⟨h.s,h.n,by simp[mkO,h.o],fun x hx=>?_,h.n0,h.n1,h.d⟩
 simp only[mkO] at hx
 rcases si hx with hx | rfl
 ·exact h.r x hx
 ·rw[show (mkO m c x).out.length=n from h.n];exact hv
theorem MkK.mono {m:Mk}{n:Nat}{t u:Int}(h:MkK m n t)(hu:t≤u):MkK m n u:=⟨h.s,h.n,h.o,h.r,h.n0,by have:=h.n1;omega,h.d⟩
theorem MkK.add {m:Mk}{n:Nat}{t:Int}(h:MkK m n t)(c:Nat)(q:Op)(hq:q.Data.length≤8):MkK (z3y m c q) (n+1) (t+1):=by
 refine⟨h.s,by simp[z3y,h.n],by simp[z3y,h.o],fun x hx=>?_,by have:=h.n0;simp only[z3y];omega,by have:=h.n1;simp only[z3y];omega,fun e he=>?_⟩
 ·simp only[z3y] at hx ⊢
  rw[qr]
  rcases si hx with hx | rfl
  ·have:=h.r x hx;simp;omega
  ·right;simp;omega
 ·simp only[z3y,qh,rm] at he
  rcases he with he | rfl
  ·exact h.d e he
  ·exact hq
theorem MkK.op {m:Mk}{n:Nat}{t:Int}(h:MkK m n t){c:Nat}(hc:c < 3)(h0:0≤m.op.getD c 0):∃ k:Nat,k < n∧m.op.getD c 0=(k:Int):=by
 have hc':c < m.op.length:=by rw[h.o];exact hc
 have e:m.op.getD c 0=m.op[c]:=by simp[hc']
 rw[e] at h0 ⊢
 have:=h.r _ (qb hc')
 rw[h.n] at this
 obtain⟨k,hk⟩:=pt h0
 exact⟨k,by omega,hk⟩
theorem MkK.fin {m:Mk}{n:Nat}{t:Int}(h:MkK m n t){c:Nat}(hc:c < 3):MkK (z8a m c) n (t+2):=by
 unfold z8a
 split
 ·rename_i h0
  obtain⟨k,hk,e⟩:=h.op hc h0
  rw[e]
  exact (h.f hk true).set c (.inl rfl)
 ·exact h.mono (by omega)
end Go.OT
