/- Part 11 of the proof: see its last file. -/
import Derived.Orders
import Derived.Below
import Derived.Laws.Entries
import Derived.Laws.Cells
import Derived.Laws.IdiomCopy
import Derived.Scope
import Derived.Calls
import Derived.Laws.Tables
import Derived.Laws.MakeOwn
import Derived.Laws.BytesString
import Derived.ArgAppend
import Derived.WalkSpells
import Derived.Lib.SlBytesConst
import Derived.Lib.ConvBytes
import Derived.WalkKit
import Derived.ProofKit
import Derived.OpenShut
import Derived.ShutString
import Derived.ChangeOld
import Derived.Lib.SmallJoins
import Derived.Test.YtlcemfnjhdcmoaaProg
import Derived.KernelRfl
import Derived.IntWalk
import Derived.Lib.Strings
import Derived.Test.YtlcemfnjhdcmoaaRows
import Derived.Test.YtlcemfnjhdcmoaaWl10
set_option linter.unusedSimpArgs false
set_option linter.unusedVariables false
namespace Go.OT
open Go.Proofs
theorem z8e {l:List Ev}{k:Nat}(h:k < l.length):l.flatMap (z02 false false)=(l.take k).flatMap (z02 false false) ++ (z02 false false l[k] ++ (l.drop (k+1)).flatMap (z02 false false)):=by
 conv=>lhs;rw[← List.take_append_drop k l,List.drop_eq_getElem_cons h]
 rw[List.flatMap_append,List.flatMap_cons]
theorem z3j {l:List Ev}{k:Nat}(h:k < l.length):((l.take k).flatMap (z02 false false)).length=k * 14:=by
 rw[z32,List.length_take,Nat.min_eq_left (by omega)]
theorem z65 {l:List Ev}{k j:Nat}(h:k < l.length)(hj:j < 14):(l.flatMap (z02 false false))[k * 14+j]?=(z02 false false l[k])[j]?:=by
 rw[z8e h,List.getElem?_append_right (by rw[z3j h];omega),z3j h,show k * 14+j - k * 14=j by omega,List.getElem?_append_left (by simpa using hj)]
theorem z1e {l:List Ev}{k j:Nat}(h:k < l.length)(hj:j < 14){v:AU}(hv:(z02 false false l[k])[j]?=some v):∀ hh,(l.flatMap (z02 false false))[k * 14+j]'hh=v:=fun hh=>by
 have:=z65 h hj
 rw[List.getElem?_eq_getElem hh,hv] at this
 exact Option.some.inj this
theorem zkc {l:List Ev}{k:Nat}(h:k < l.length)(e':Ev):(l.set k e').flatMap (z02 false false)=(l.take k).flatMap (z02 false false) ++ (z02 false false e' ++ (l.drop (k+1)).flatMap (z02 false false)):=by
 rw[List.set_eq_take_append_cons_drop,if_pos h,List.flatMap_append,List.flatMap_cons]
theorem ziq {α:Type}(A X:List α)(b j:Nat)(v:α)(hA:A.length=b):(A ++ X).set (b+j) v=A ++ X.set j v:=by
 subst hA;rw[List.set_append_right _ _ (by omega)];congr 2;omega
theorem zkd {l:List Ev}{k j:Nat}(h:k < l.length){v:AU}{e':Ev}(he:∀ B:List AU,(z02 false false l[k] ++ B).set j v=z02 false false e' ++ B):(l.flatMap (z02 false false)).set (k * 14+j) v=(l.set k e').flatMap (z02 false false):=by
 rw[zkc h,z8e h,ziq _ _ _ _ _ (z3j h),he]
theorem zeg {l:List Ev}{k:Nat}(h:k < l.length)(r:Rs):(((((l.flatMap (z02 false false)).set (k * 14+10) .dead).set (k * 14+7) (i64 r.Code)).set (k * 14+8) (i64 r.Page)).set (k * 14+9) (i64 r.Handle)).set (k * 14+10) (sU false r.Data)=(l.set k { l[k] with res:=r }).flatMap (z02 false false):=by
 rw[zkc h,z8e h]
 simp only[ziq _ _ _ _ _ (z3j h)]
 rfl
theorem zqf {l:List Ev}{k:Nat}(h:k < l.length)(j:Nat):((l.flatMap (z02 false false)).set (k * 14+10) .dead).drop (k * 14+j)=((z02 false false l[k]).set 10 .dead ++ (l.drop (k+1)).flatMap (z02 false false)).drop j:=by
 rw[z8e h,ziq _ _ _ _ _ (z3j h)]
 have e:((l.take k).flatMap (z02 false false)).length=k * 14:=z3j h
 rw[← e,List.drop_length_add_append]
 rfl
def ztf (s:St)(e:Ev):St:=if e.Stamp=0 then (DoB s e.Client e.op).2.1 else s
def zeq (e:Ev)(now:Int)(en:Bool):Int:=(if e.Stamp=0 then now+1 else now)+(if en=true then 1 else 0)
def zd7 (s:St)(e:Ev)(now:Int)(en:Bool):Ev :=
 let e1:Ev:=if e.Stamp=0 then { e with Stamp:=now+1,res:=(DoB s e.Client e.op).2.2 } else e
 if en=true then { e1 with End:=zeq e now en } else { e1 with res:=⟨0,0,0,[]⟩ }
abbrev fsB (g:Nat)(s:St)(l:List Ev)(r:SL):SL:=[(100,0,.view 1000300 0 [] 0 l.length)] ++ (r ++ ([(1000000,g,sB true s.There),(1000100,g,sS true s.Body),(1000200,g,sII true s.Handles)] ++ [(1000300,0,hEv l)]))
abbrev fsX (s:St):SL:=[(500,0,.bptr 5 1 0),(501,0,.view 1000000 0 [] 0 s.There.length),(502,0,.view 1000100 0 [] 0 s.Body.length),(503,0,.view 1000200 0 [] 0 s.Handles.length),(599,1,.non)]
abbrev fsQ (s:St)(l:List Ev)(now:Int):Ex→SL→Prop:=fun e L=>e=Ex.ret∧RetOk zuh.rs (gsT s ++ [.nod (hEv l)]) (i64 now) L
set_option maxHeartbeats 16000000 in
theorem zlv (g:Nat)(s:St)(l:List Ev)(hn:l.length≤1000)(k:Nat)(hk:k < l.length)(now:Int)(h0:0≤now)(h1:now≤1000000000)(en:Bool) :
  WL Try.prog zuh.nt yex (fsB g s l [(200,0,i64 k),(300,0,i64 now),(4900,0,bl en)]) (Ex.thenL (fun L'=>WL Try.prog zuh.nt zuf L' (fsQ s (l.set k (if en=true then { l[k] with End:=now+1 } else { l[k] with res:=⟨0,0,0,[]⟩ })) (if en=true then now+1 else now))) (fsQ s (l.set k (if en=true then { l[k] with End:=now+1 } else { l[k] with res:=⟨0,0,0,[]⟩ })) (if en=true then now+1 else now))):=by
 have w:IntKind.wrap .i64 (now+1)=now+1:=by rw[z01 (by omega) (by omega)]
 have hL:=z32 false false l
 have i7:k * 14+7 < l.length * 14:=by omega
 have i8:k * 14+8 < l.length * 14:=by omega
 have i9:k * 14+9 < l.length * 14:=by omega
 have i10:k * 14+10 < l.length * 14:=by omega
 have i13:k * 14+13 < l.length * 14:=by omega
 have q13:=z1e (j:=13) (v:=i64 l[k].End) hk (by decide) rfl
 have q7:=z1e (j:=7) (v:=i64 l[k].res.Code) hk (by decide) rfl
 have q8:=z1e (j:=8) (v:=i64 l[k].res.Page) hk (by decide) rfl
 have q9:=z1e (j:=9) (v:=i64 l[k].res.Handle) hk (by decide) rfl
 have q10:=z1e (j:=10) (v:=sU false l[k].res.Data) hk (by decide) rfl
 cases en with
 | true =>
  have hs:=zkd (l:=l) (k:=k) (j:=13) hk (v:=i64 (now+1)) (e':={ l[k] with End:=now+1 }) (fun B=>rfl)
  refine WL.cond (t:=true) (by simp) (fun _=>?_) (by simp)
  refine WL.sreg (by simp[w];rfl) (by simp;rfl) ?_
  refine WL.reg (RL.run (by simp[hk,q13,hL,i13];rfl) ⟨_,by simp;rfl,?_⟩)
  refine WL.sreg (by simp;rfl) (by simp;rfl) (WL.ret ⟨rfl,?_⟩)
  simp[zuh,← hs]
 | false =>
  have hs:=zeg (l:=l) (k:=k) hk ⟨0,0,0,[]⟩
  refine WL.cond (t:=false) (by simp) (by simp) fun _=>?_
  refine WL.wipe1 1000300 [k * 14+10] (by simp[hk,q10,hL,i10]) ?_
  refine WL.reg ?_
  refine RL.cut (segs':=.o [.mov 57 (.t 1),.mov 58 (.t 2),.build 59 [(.sc (.int .i64 0)),(.sc (.int .i64 0)),(.sc (.int .i64 0)),(.sc (.slice none 0 0))] []] :: .o [.iaddr 60 14 (.t 57) (.t 58),.faddr 61 7 (.t 60),.st 4 (.t 61) (.t 59)] :: []) rfl ?_
  refine RL.o (by simp;rfl) (RL.nilA 59 3 1 (by simp;rfl) rfl rfl ?_)
  refine RL.o (by simp[hk,q7,q8,q9,hL,i7,i8,i9,i10];rfl) (RL.nil ⟨_,by simp;rfl,?_⟩)
  refine WL.sreg (by simp;rfl) (by simp;rfl) (WL.ret ⟨rfl,?_⟩)
  simp[zuh,← hs]
  rfl
set_option maxHeartbeats 16000000 in
theorem zqg (s:St)(hok:OkSt s)(l:List Ev)(hn:l.length≤1000)(k:Nat)(hk:k < l.length)(hD:l[k].op.Data.length≤1000)(now:Int)(h0:0≤now)(h1:now≤1000000000)(en:Bool)(K:Ex→SL→Prop)
  (hK:K .nrm (fsB 1 (DoB s l[k].Client l[k].op).2.1 (l.set k { l[k] with Stamp:=now+1,res:=(DoB s l[k].Client l[k].op).2.2 }) [(200,0,i64 k),(300,0,i64 (now+1)),(400,0,bl en)])) :
  WL Try.prog zuh.nt yew (fsB 0 s l ([(200,0,i64 k),(300,0,i64 now),(400,0,bl en)] ++ (fsX s ++ [(2500,0,bl true)]))) K:=by
 have w:IntKind.wrap .i64 (now+1)=now+1:=by rw[z01 (by omega) (by omega)]
 have hdo:=zeb s hok l[k].Client l[k].op (by unfold z0c;omega)
 have hL:=z32 false false l
 have i0:k * 14+0 < l.length * 14:=by omega
 have i12:k * 14+12 < l.length * 14:=by omega
 have q12:=z1e (j:=12) (v:=i64 l[k].Stamp) hk (by decide) rfl
 have hs1:=zkd (l:=l) (k:=k) (j:=12) hk (v:=i64 (now+1)) (e':={ l[k] with Stamp:=now+1 }) (fun B=>rfl)
 refine WL.sreg (by simp[w];rfl) (by simp;rfl) ?_
 refine WL.sreg (by simp[hk,q12,hL,i12];rfl) (by simp;rfl) ?_
 rw[hs1]
 have hk1:k < (l.set k { l[k] with Stamp:=now+1 }).length:=by simpa using hk
 have hg1:(l.set k { l[k] with Stamp:=now+1 })[k]={ l[k] with Stamp:=now+1 }:=by simp
 have hL1:(l.set k { l[k] with Stamp:=now+1 }).length=l.length:=by simp
 have hset:∀ r:Rs,(l.set k { l[k] with Stamp:=now+1 }).set k { ({ l[k] with Stamp:=now+1 }:Ev) with res:=r }=l.set k { l[k] with Stamp:=now+1,res:=r }:=fun r=>by simp
 have hs5:=fun r=>zeg hk1 r
 have hdr:=fun j=>zqf hk1 j
 have hp:=fun j (h:j < 14)=>z65 (l:=l.set k { l[k] with Stamp:=now+1 }) (j:=j) hk1 h
 have hq:=fun j v (h:j < 14)=>z1e (l:=l.set k { l[k] with Stamp:=now+1 }) (j:=j) (v:=v) hk1 h
 rw[hg1] at hs5 hdr hq hp
 have hL2:=z32 false false (l.set k { l[k] with Stamp:=now+1 })
 rw[hL1] at hL2
 clear hs1 q12 hL
 generalize l[k]=e at *
 obtain⟨ec,eo,er,eb,es,ee⟩:=e
 simp only at hdo hK hset hs5 hdr hq hp hk1 hg1 hL1 hL2 ⊢
 generalize (l.set k ⟨ec,eo,er,eb,now+1,ee⟩)=l1 at *
 have q0:∀ (hh:k * 14 < (l1.flatMap (z02 false false)).length),(l1.flatMap (z02 false false))[k * 14]'hh=i64 ec:=hq 0 (i64 ec) (by decide) rfl
 have q1:∀ (hh:k * 14+1 < (l1.flatMap (z02 false false)).length),(l1.flatMap (z02 false false))[k * 14+1]'hh=i64 eo.Kind:=hq 1 (i64 eo.Kind) (by decide) rfl
 have q2:∀ (hh:k * 14+1+1 < (l1.flatMap (z02 false false)).length),(l1.flatMap (z02 false false))[k * 14+1+1]'hh=i64 eo.Page:=hq 2 (i64 eo.Page) (by decide) rfl
 have q3:∀ (hh:k * 14+1+2 < (l1.flatMap (z02 false false)).length),(l1.flatMap (z02 false false))[k * 14+1+2]'hh=i64 eo.Handle:=hq 3 (i64 eo.Handle) (by decide) rfl
 have q4:∀ (hh:k * 14+1+3 < (l1.flatMap (z02 false false)).length),(l1.flatMap (z02 false false))[k * 14+1+3]'hh=i64 eo.Off:=hq 4 (i64 eo.Off) (by decide) rfl
 have q5:∀ (hh:k * 14+1+4 < (l1.flatMap (z02 false false)).length),(l1.flatMap (z02 false false))[k * 14+1+4]'hh=i64 eo.N:=hq 5 (i64 eo.N) (by decide) rfl
 have q6:∀ (hh:k * 14+1+5 < (l1.flatMap (z02 false false)).length),(l1.flatMap (z02 false false))[k * 14+1+5]'hh=sU false eo.Data:=hq 6 (sU false eo.Data) (by decide) rfl
 have q7:∀ (hh:k * 14+7 < (l1.flatMap (z02 false false)).length),(l1.flatMap (z02 false false))[k * 14+7]'hh=i64 er.Code:=hq 7 (i64 er.Code) (by decide) rfl
 have q8:∀ (hh:k * 14+7+1 < (l1.flatMap (z02 false false)).length),(l1.flatMap (z02 false false))[k * 14+7+1]'hh=i64 er.Page:=hq 8 (i64 er.Page) (by decide) rfl
 have q9:∀ (hh:k * 14+7+2 < (l1.flatMap (z02 false false)).length),(l1.flatMap (z02 false false))[k * 14+7+2]'hh=i64 er.Handle:=hq 9 (i64 er.Handle) (by decide) rfl
 have q10:∀ (hh:k * 14+10 < (l1.flatMap (z02 false false)).length),(l1.flatMap (z02 false false))[k * 14+10]'hh=sU false er.Data:=hq 10 (sU false er.Data) (by decide) rfl
 have p1:(l1.flatMap (z02 false false))[k * 14+1]?=some (i64 eo.Kind):=hp 1 (by decide)
 have p2:(l1.flatMap (z02 false false))[k * 14+1+1]?=some (i64 eo.Page):=hp 2 (by decide)
 have p3:(l1.flatMap (z02 false false))[k * 14+1+2]?=some (i64 eo.Handle):=hp 3 (by decide)
 have p4:(l1.flatMap (z02 false false))[k * 14+1+3]?=some (i64 eo.Off):=hp 4 (by decide)
 have p5:(l1.flatMap (z02 false false))[k * 14+1+4]?=some (i64 eo.N):=hp 5 (by decide)
 have p6:(l1.flatMap (z02 false false))[k * 14+1+5]?=some (sU false eo.Data):=hp 6 (by decide)
 have i7:k * 14+7 < l.length * 14:=by omega
 have i8:k * 14+8 < l.length * 14:=by omega
 have i9:k * 14+9 < l.length * 14:=by omega
 have i10:k * 14+10 < l.length * 14:=by omega
 have b1:k * 14+1≤l.length * 14:=by omega
 have b2:k * 14+1+6≤l.length * 14:=by omega
 refine WL.wipe1 1000300 [k * 14+10] (by simp[q10,hL2,i10]) ?_
 refine WL.draw z0t (by simp[z09,noH]) (DL.o (by simp[hk,q0,q1,q2,q3,q4,q5,q6,p1,p2,p3,p4,p5,p6,hL2,i10,b1,b2];exact⟨rfl,rfl⟩) ?_)
 generalize DoB s ec eo=dd at hdo hK
 obtain⟨o',t,r⟩:=dd
 simp only at hdo hK
 have hs5':=hs5 r
 rw[hset] at hs5'
 refine DL.callLF true [(1000000,[]),(1000100,[]),(1000200,[])] hdo (by simp) (by simp) (by simp[z35]) (zia s t r) (by simp[z09,noH]) ?_
 refine DL.o (by simp[hk,q7,q8,q9,hL2,i7,i8,i9,i10];exact⟨rfl,rfl⟩) (DL.nil ⟨by kernel_rfl,_,by simp;rfl,?_⟩)
 unfold fsB hEv at hK
 rw[← hs5',List.length_set] at hK
 exact hK
set_option maxHeartbeats 16000000 in
theorem zbt (g:Nat)(s:St)(l:List Ev)(hn:l.length≤1000)(k:Nat)(hk:k < l.length)(now:Int)(h0:0≤now)(h1:now≤1000000000)(en:Bool)(r:SL)(hr:r=[]∨(g=0∧r=fsX s ++ [(2500,0,bl false)])) :
  WL Try.prog zuh.nt zug (fsB g s l ([(200,0,i64 k),(300,0,i64 now),(400,0,bl en)] ++ r)) (fsQ s (l.set k (if en=true then { l[k] with End:=now+1 } else { l[k] with res:=⟨0,0,0,[]⟩ })) (if en=true then now+1 else now)):=by
 have:=zlv 0 s l hn k hk now h0 h1 en
 rcases hr with rfl | ⟨rfl,rfl⟩
 ·refine WL.seq (WL.sreg (by simp;rfl) (by simp;rfl) ?_)
  exact this
 ·refine WL.seq (WL.sreg (by simp;rfl) (by simp;rfl) ?_)
  exact this
set_option maxHeartbeats 16000000 in
theorem zgv (s:St)(hok:OkSt s)(l:List Ev)(hn:l.length≤1000)(k:Nat)(hk:k < l.length)(hD:l[k].op.Data.length≤1000)(now:Int)(h0:0≤now)(h1:now≤100000000)(en:Bool) :
  FnC Try.prog 95 (gsT s ++ [.nod (hEv l)]) [vwT s,.view 1000300 0 [] 0 l.length,i64 k,i64 now,bl en] (gsT (ztf s l[k]) ++ [.nod (hEv (l.set k (zd7 s l[k] now en)))]) (i64 (zeq l[k] now en)):=by
 have hL:=z32 false false l
 have i12:k * 14+12 < l.length * 14:=by omega
 have j12:k * 14+12+1≤l.length * 14:=by omega
 have q12:=z1e (j:=12) (v:=i64 l[k].Stamp) hk (by decide) rfl
 have p1:¬ (k:Int) < 0:=by omega
 have p2:¬ (l.length:Int)≤k:=by omega
 have p2':¬ l.length≤k:=by omega
 refine FnC.go yz7 rfl ?_
 refine WL.mono (Q':=fsQ (ztf s l[k]) (l.set k (zd7 s l[k] now en)) (zeq l[k] now en)) ?_ fun x L h=>⟨.inr h.1,h.2⟩
 refine WL.sregC (RL.boxW (by simp;rfl) (by simp) (by simp[zh2]) (by simp) (RL.o (by simp;rfl) (RL.nil ⟨_,by simp;rfl,?_⟩)))
 refine WL.seq (WL.sreg (by simp[p1,p2,p2'];rfl) (by simp;rfl) ?_)
 refine WL.cond (t:=false) (by simp[p2,p2']) (by simp) fun _=>WL.skip ?_
 refine WL.seq ?_
 by_cases z:l[k].Stamp=0
 ·have z':(l[k].Stamp == 0)=true:=by simp[z]
  refine WL.sreg (by simp[hk,q12,hL,i12,j12,z'];rfl) (by simp;rfl) ?_
  refine WL.cond (t:=true) (by simp) (fun _=>?_) (by simp)
  refine zqg s hok l hn k hk hD now h0 (by omega) en _ ?_
  have ht:=zbt 1 (DoB s l[k].Client l[k].op).2.1 (l.set k { l[k] with Stamp:=now+1,res:=(DoB s l[k].Client l[k].op).2.2 }) (by simpa using hn) k (by simpa using hk) (now+1) (by omega) (by omega) en [] (.inl rfl)
  have e1:ztf s l[k]=(DoB s l[k].Client l[k].op).2.1:=by simp[ztf,z]
  have e2:(l.set k { l[k] with Stamp:=now+1,res:=(DoB s l[k].Client l[k].op).2.2 }).set k (if en=true then { (l.set k { l[k] with Stamp:=now+1,res:=(DoB s l[k].Client l[k].op).2.2 })[k]'(by simpa using hk) with End:=now+1+1 } else { (l.set k { l[k] with Stamp:=now+1,res:=(DoB s l[k].Client l[k].op).2.2 })[k]'(by simpa using hk) with res:=⟨0,0,0,[]⟩ })=l.set k (zd7 s l[k] now en):=by
   cases en<;>simp [zd7,zeq,z]
  have e3:(if en=true then now+1+1 else now+1)=zeq l[k] now en:=by cases en<;>simp [zeq,z]
  rw[e2,e3] at ht
  rw[e1]
  simpa using ht
 ·have z':(l[k].Stamp == 0)=false:=beq_false_of_ne z
  refine WL.sreg (by simp[hk,q12,hL,i12,j12,z'];rfl) (by simp;rfl) ?_
  refine WL.cond (t:=false) (by simp) (by simp) fun _=>WL.skip ?_
  have ht:=zbt 0 s l hn k hk now h0 (by omega) en (fsX s ++ [(2500,0,bl false)]) (.inr ⟨rfl,rfl⟩)
  have e1:ztf s l[k]=s:=by simp[ztf,z]
  have e2:(if en=true then { l[k] with End:=now+1 } else { l[k] with res:=⟨0,0,0,[]⟩ })=zd7 s l[k] now en:=by
   cases en<;>simp [zd7,zeq,z]
  have e3:(if en=true then now+1 else now)=zeq l[k] now en:=by cases en<;>simp [zeq,z]
  rw[e2,e3] at ht
  rw[e1]
  exact ht
end Go.OT
namespace Go.OT
open Go.Proofs
structure Mk where
 s:St
 out:List Ev
 op:List Int
 now:Int
def mkF (m:Mk)(k:Int)(en:Bool):Mk:=⟨ztf m.s (atE m.out k),m.out.set k.toNat (zd7 m.s (atE m.out k) m.now en),m.op,zeq (atE m.out k) m.now en⟩
def mkO (m:Mk)(c:Nat)(v:Int):Mk:=⟨m.s,m.out,m.op.set c v,m.now⟩
def z6o (m:Mk)(c:Nat):Mk:=if 0≤m.op.getD c 0 then mkO (mkF m (m.op.getD c 0) true) c (-1) else m
def z3w (m:Mk)(c:Nat)(q:Op):Mk:=⟨m.s,m.out ++ [⟨c,q,⟨0,0,0,[]⟩,m.now+1,0,0⟩],m.op.set c m.out.length,m.now+1⟩
def an1 (w:Int):Int:=IntKind.wrap .i64 (((w % 2 ^ IntKind.i64.bits).toNat &&& 1 % 2 ^ IntKind.i64.bits:Nat):Int)
def an2 (w:Int):Int:=IntKind.wrap .i64 (((w % 2 ^ IntKind.i64.bits).toNat &&& 2 % 2 ^ IntKind.i64.bits:Nat):Int)
def fl1 (w:Int):Bool:=an1 w == 1
def fl2 (w:Int):Bool:=an2 w == 2
def zbu (m:Mk)(c:Nat)(en:Bool):Mk:=if en=true then mkO (mkF m (m.out.length - 1:Nat) true) c (-1) else mkF m (m.out.length - 1:Nat) false
def z4f (m:Mk)(x:Cl)(w:Int):Mk :=
 if fl1 w=true then zbu (z3w (z6o m x.Client.toNat) x.Client.toNat x.op) x.Client.toNat (fl2 w) else z3w (z6o m x.Client.toNat) x.Client.toNat x.op
def z2x (l:List Cl)(wt:List Int):Nat→Mk
 | 0=>⟨z0p 5 3,[],[-1,-1,-1],0⟩
 | i+1=>z4f (z2x l wt i) (zkb l i) (wt.getD i 0)
structure MkOk (m:Mk) (i:Nat):Prop where
 s:OkSt m.s
 n:m.out.length=i
 o:m.op.length=3
 r:∀ x ∈ m.op,x=-1∨(0≤x∧x < m.out.length)
 n0:0≤m.now
 n1:m.now≤10 * i
 d:∀ e ∈ m.out,e.op.Data.length≤8
theorem y1o {s:St}(h:OkSt s)(e:Ev):OkSt (ztf s e):=by unfold ztf;split;exact h.doB _ _;exact h
theorem y1p (s:St)(e:Ev)(now:Int)(en:Bool):(zd7 s e now en).op=e.op:=by
 unfold zd7;cases en<;>by_cases z:e.Stamp=0<;>simp [z]
theorem zeh (e:Ev)(now:Int)(en:Bool):now≤zeq e now en∧zeq e now en≤now+2:=by
 unfold zeq;split<;>split<;>omega
structure MkK (m:Mk) (n:Nat) (t:Int):Prop where
 s:OkSt m.s
 n:m.out.length=n
 o:m.op.length=3
 r:∀ x ∈ m.op,x=-1∨(0≤x∧x < m.out.length)
 n0:0≤m.now
 n1:m.now≤t
 d:∀ e ∈ m.out,e.op.Data.length≤8
theorem MkK.f {m:Mk}{n:Nat}{t:Int}(h:MkK m n t){k:Nat}(hk:k < n)(en:Bool):MkK (mkF m (k:Int) en) n (t+2):=by
 have hk':k < m.out.length:=by rw[h.n];exact hk
 have ha:atE m.out (k:Int)=m.out[k]:=z56 hk'
 have hN:=zeh (atE m.out (k:Int)) m.now en
 refine⟨y1o h.s _,by simp[mkF,h.n],h.o,fun x hx=>?_,?_,?_,fun e he=>?_⟩
 ·have:=h.r x hx
  simpa [mkF] using this
 ·have:=h.n0;simp only[mkF];omega
 ·have:=h.n1;simp only[mkF];omega
 ·simp only[mkF] at he
  rcases List.mem_or_eq_of_mem_set he with he | rfl
  ·exact h.d e he
  ·rw[y1p,ha];exact h.d _ (List.getElem_mem hk')
theorem MkK.set {m:Mk}{n:Nat}{t:Int}(h:MkK m n t)(c:Nat){v:Int}(hv:v=-1∨(0≤v∧v < n)):MkK (mkO m c v) n t:=by
 refine⟨h.s,h.n,by simp[mkO,h.o],fun x hx=>?_,h.n0,h.n1,h.d⟩
 simp only[mkO] at hx
 rcases List.mem_or_eq_of_mem_set hx with hx | rfl
 ·exact h.r x hx
 ·rw[show (mkO m c x).out.length=n from h.n];exact hv
theorem MkK.mono {m:Mk}{n:Nat}{t u:Int}(h:MkK m n t)(hu:t≤u):MkK m n u:=⟨h.s,h.n,h.o,h.r,h.n0,by have:=h.n1;omega,h.d⟩
theorem MkK.add {m:Mk}{n:Nat}{t:Int}(h:MkK m n t)(c:Nat)(q:Op)(hq:q.Data.length≤8):MkK (z3w m c q) (n+1) (t+1):=by
 refine⟨h.s,by simp[z3w,h.n],by simp[z3w,h.o],fun x hx=>?_,by have:=h.n0;simp only[z3w];omega,by have:=h.n1;simp only[z3w];omega,fun e he=>?_⟩
 ·simp only[z3w] at hx ⊢
  rw[List.length_append]
  rcases List.mem_or_eq_of_mem_set hx with hx | rfl
  ·have:=h.r x hx;simp;omega
  ·right;simp;omega
 ·simp only[z3w,List.mem_append,List.mem_singleton] at he
  rcases he with he | rfl
  ·exact h.d e he
  ·exact hq
theorem MkK.op {m:Mk}{n:Nat}{t:Int}(h:MkK m n t){c:Nat}(hc:c < 3)(h0:0≤m.op.getD c 0):∃ k:Nat,k < n∧m.op.getD c 0=(k:Int):=by
 have hc':c < m.op.length:=by rw[h.o];exact hc
 have e:m.op.getD c 0=m.op[c]:=by simp[hc']
 rw[e] at h0 ⊢
 have:=h.r _ (List.getElem_mem hc')
 rw[h.n] at this
 obtain⟨k,hk⟩:=Int.eq_ofNat_of_zero_le h0
 exact⟨k,by omega,hk⟩
theorem MkK.fin {m:Mk}{n:Nat}{t:Int}(h:MkK m n t){c:Nat}(hc:c < 3):MkK (z6o m c) n (t+2):=by
 unfold z6o
 split
 ·rename_i h0
  obtain⟨k,hk,e⟩:=h.op hc h0
  rw[e]
  exact (h.f hk true).set c (.inl rfl)
 ·exact h.mono (by omega)
end Go.OT
namespace Go.OT
open Go.Proofs
abbrev rcO (b:Nat)(s:St):SL:=[(100 * b,0,.bptr b 1 0),(100 * b+1,0,sB true s.There),(100 * b+2,0,sS true s.Body),(100 * b+3,0,sII true s.Handles),(100 * b+99,1,.non)]
abbrev mkT (l:List Cl)(wt:List Int)(m:Mk)(i:Nat)(r:SL):SL:=[(0,0,sCl l),(100,0,sI false wt)] ++ (rcO 5 m.s ++ ([(600,0,hEv m.out),(700,0,sI true m.op),(800,0,i64 m.now),(900,0,i64 i)] ++ r))
abbrev zm7 (c:Cl):SL:=[(1000,0,.bptr 10 1 0),(1001,0,i64 c.Client),(1002,0,i64 c.op.Kind),(1003,0,i64 c.op.Page),(1004,0,i64 c.op.Handle),(1005,0,i64 c.op.Off),(1006,0,i64 c.op.N),(1007,0,sU false c.op.Data),(1099,1,.non)]
set_option maxHeartbeats 16000000 in
theorem ykg (l:List Cl)(wt:List Int)(m:Mk)(i:Nat)(hi:i≤100)(h:MkK m i (10 * i))(x:Cl)(c:Nat)(hc:c < 3)(ex:x.Client=c)(w:Int)(K:Ex→SL→Prop)
  (hK:∀ L,L=mkT l wt (z6o m c) i (zm7 x ++ [(1100,0,i64 w)])→WL Try.prog zsm.nt zos L K) :
  WL Try.prog zsm.nt zot (mkT l wt m i (zm7 x ++ [(1100,0,i64 w)])) K:=by
 have hn:=h.n
 have ho:=h.o
 have hc':c < m.op.length:=by omega
 have e0:m.op.getD c 0=m.op[c]:=by simp[hc']
 have c1:c+1≤3:=hc
 have cI:(c:Int) < 3:=by omega
 refine WL.seq (WL.sreg (by simp[ex,ho,hc,hc',c1,cI];rfl) (by simp;rfl) ?_)
 by_cases p:0≤m.op[c]
 ·obtain⟨k,hk,ek⟩:=h.op hc (by rw[e0];exact p)
  have ek':m.op[c]=(k:Int):=by rw[← e0];exact ek
  have hk':k < m.out.length:=by omega
  have hf:=zgv m.s h.s m.out (by omega) k hk' (by have:=h.d _ (List.getElem_mem hk');omega) m.now h.n0 (by have:=h.n1;omega) true
  have eM:z6o m c=mkO (mkF m (k:Int) true) c (-1):=by unfold z6o;rw[e0,ek',if_pos (by omega)]
  have eA:atE m.out (k:Int)=m.out[k]:=z56 hk'
  refine WL.sreg (by simp[p];rfl) (by simp;rfl) ?_
  refine WL.cond (t:=true) (by simp[p]) (fun _=>?_) (by simp)
  rw[ek']
  refine WL.sregC (RL.o (by simp;rfl) (RL.call false [(501,[]),(502,[]),(503,[]),(600,[])] hf (by simp) (by simp) (by simp[z35]) (by simp) ?_))
  refine RL.o (by simp;rfl) (RL.nil ⟨_,by simp;rfl,?_⟩)
  refine WL.reg (RL.run (by simp[ex,ho,hc,hc',c1,cI];rfl) ⟨_,by simp;rfl,hK _ ?_⟩)
  rw[eM]
  simp[mkO,mkF,eA,ho,ex]
 ·have eM:z6o m c=m:=by unfold z6o;rw[e0,if_neg p]
  refine WL.sreg (by simp[p];rfl) (by simp;rfl) ?_
  refine WL.cond (t:=false) (by simp[p]) (by simp) fun _=>WL.skip ?_
  rw[eM] at hK
  refine WL.fin [12,40] (by simp;rfl) (hK _ ?_)
  simp[ex,ho]
set_option maxHeartbeats 16000000 in
theorem ykh (l:List Cl)(wt:List Int)(m:Mk)(i:Nat)(hi:i≤100)(h:MkK m i (10 * i+2))(x:Cl)(c:Nat)(hc:c < 3)(ex:x.Client=c)(w:Int)(K:Ex→SL→Prop)
  (hK:∀ L,L=mkT l wt (z3w m c x.op) i (zm7 x ++ [(1100,0,i64 w)])→WL Try.prog zsm.nt zor L K) :
  WL Try.prog zsm.nt zos (mkT l wt m i (zm7 x ++ [(1100,0,i64 w)])) K:=by
 have hn:=h.n
 have ho:=h.o
 have hc':c < m.op.length:=by omega
 have c1:c+1≤3:=hc
 have cI:(c:Int) < 3:=by omega
 have w1:IntKind.wrap .i64 (m.now+1)=m.now+1:=by rw[z01 (by have:=h.n0;omega) (by have:=h.n1;omega)]
 have m1:(m.out.length+1) * 144≤140737488355328:=by omega
 have m2:m.out.length+1≤maxLen:=by unfold maxLen;omega
 have w2:IntKind.wrap .i64 ((m.out.length:Int)+1 - 1)=(m.out.length:Int):=by rw[z01 (by omega) (by omega)];omega
 have w3:IntKind.wrap .i64 (m.out.length:Int)=(m.out.length:Int):=by rw[z01 (by omega) (by omega)]
 have tk:List.take (m.out.length * 14) (m.out.flatMap (z02 false false))=m.out.flatMap (z02 false false):=List.take_of_length_le (by rw[z32];exact Nat.le_refl _)
 refine WL.sreg (by simp[w1];rfl) (by simp;rfl) ?_
 refine WL.sregC ?_
 refine RL.cut (segs':=.o [.mov 52 (.t 6),.faddr 53 0 (.t 10),.ld 54 1 false (.t 53),.faddr 55 1 (.t 10),.ld 56 6 true (.t 55),.mov 57 (.t 8),.build 58 [(.sc (.int .i64 0)),(.sc (.int .i64 0)),(.sc (.int .i64 0)),(.sc (.int .i64 0)),(.sc (.int .i64 0)),(.sc (.int .i64 0)),(.sc (.slice none 0 0)),(.sc (.int .i64 0)),(.sc (.int .i64 0)),(.sc (.int .i64 0)),(.sc (.slice none 0 0)),(.sc (.int .i64 0)),(.sc (.int .i64 0)),(.sc (.int .i64 0))] [(0,1,(.t 54)),(1,6,(.t 56)),(11,1,(.t 57))]] :: .o [.bs1 59 14 (.t 58),.app 60 14 144 (.t 52) (.t 59),.asg 6 (.t 60)] :: []) rfl ?_
 refine RL.o (by simp;rfl) (RL.nilA 58 10 1 (by simp;rfl) rfl rfl ?_)
 refine RL.o (by simp[m1,m2];rfl) (RL.nil ⟨_,by simp;rfl,?_⟩)
 refine WL.sreg (by simp[ex,ho,hc,hc',c1,cI,w2,w3];rfl) (by simp;rfl) (hK _ ?_)
 have tk2:List.take ((m.out.length+1) * 14) (m.out.flatMap (z02 false false) ++ z02 false false ⟨c,x.op,⟨0,0,0,[]⟩,m.now+1,0,0⟩)=m.out.flatMap (z02 false false) ++ z02 false false ⟨c,x.op,⟨0,0,0,[]⟩,m.now+1,0,0⟩:=List.take_of_length_le (by rw[List.length_append,z32];simp;omega)
 simp[z3w,ho,ex,tk,List.flatMap_append]
 exact tk2
set_option maxHeartbeats 16000000 in
theorem y1q (l:List Cl)(wt:List Int)(m:Mk)(i:Nat)(hi:i≤100)(h:MkK m (i+1) (10 * i+3))(x:Cl)(c:Nat)(hc:c < 3)(ex:x.Client=c)(w:Int)(K:Ex→SL→Prop)
  (hK:∀ L,(∃ r,L=mkT l wt (if fl1 w=true then zbu m c (fl2 w) else m) i r∧(r=zm7 x ++ [(1100,0,i64 w),(7000,0,bl false)]∨r=zm7 x ++ [(8300,0,bl false)]∨r=[]))→K .nrm L) :
  WL Try.prog zsm.nt zor (mkT l wt m i (zm7 x ++ [(1100,0,i64 w)])) K:=by
 have hn:=h.n
 have ho:=h.o
 have hc':c < m.op.length:=by omega
 have c1:c+1≤3:=hc
 have cI:(c:Int) < 3:=by omega
 have hk':i < m.out.length:=by omega
 have wl:IntKind.wrap .i64 ((m.out.length:Int) - 1)=(i:Int):=by rw[z01 (by omega) (by omega)];omega
 have eA:atE m.out (i:Int)=m.out[i]:=z56 hk'
 have el:m.out.length - 1=i:=by omega
 have hf:=fun en=>zgv m.s h.s m.out (by omega) i hk' (by have:=h.d _ (List.getElem_mem hk');omega) m.now h.n0 (by have:=h.n1;omega) en
 cases q1:fl1 w with
 | false =>
  have v1:¬ an1 w=1:=beq_eq_false_iff_ne.1 q1
  refine WL.sreg (by simp;rfl) (by simp;rfl) ?_
  refine WL.cond (t:=false) (by simp;exact v1) (by simp) fun _=>WL.skip ?_
  refine hK _ ⟨_,?_,.inl rfl⟩
  rw[q1]
  simp[ex,ho]
  exact v1
 | true =>
  have v1:an1 w=1:=beq_iff_eq.1 q1
  refine WL.sreg (by simp;rfl) (by simp;rfl) ?_
  refine WL.cond (t:=true) (by simp;exact v1) (fun _=>?_) (by simp)
  have hf':=hf (fl2 w)
  refine WL.sregC (RL.o (by simp[wl];rfl) ?_)
  refine RL.call false [(501,[]),(502,[]),(503,[]),(600,[])] hf' (by simp) (by simp) (by simp[z35];rfl) (by simp) ?_
  refine RL.o (by simp;rfl) (RL.nil ⟨_,by simp;rfl,?_⟩)
  cases q2:fl2 w with
  | false =>
   have v2:¬ an2 w=2:=beq_eq_false_iff_ne.1 q2
   refine WL.sreg (by simp;rfl) (by simp;rfl) ?_
   refine WL.cond (t:=false) (by simp;exact v2) (by simp) fun _=>WL.skip ?_
   refine hK _ ⟨_,?_,.inr (.inl rfl)⟩
   rw[q1,q2]
   simp[zbu,mkF,ex,ho,el,eA]
   exact v2
  | true =>
   have v2:an2 w=2:=beq_iff_eq.1 q2
   refine WL.sreg (by simp;rfl) (by simp;rfl) ?_
   refine WL.cond (t:=true) (by simp;exact v2) (fun _=>?_) (by simp)
   refine WL.reg (RL.run (by simp[ex,ho,hc,hc',c1,cI];rfl) ⟨_,by simp;rfl,?_⟩)
   refine hK _ ⟨_,?_,.inr (.inr rfl)⟩
   rw[q1,q2]
   simp[zbu,mkF,mkO,ex,ho,el,eA]
theorem zqh {m:Mk}{n:Nat}{t:Int}(h:MkK m (n+1) t)(c:Nat)(en:Bool):MkK (zbu m c en) (n+1) (t+2):=by
 have e:((m.out.length - 1:Nat):Int)=((n:Nat):Int):=by rw[h.n];rfl
 unfold zbu
 rw[e]
 split
 ·exact (h.f (Nat.lt_succ_self n) true).set c (.inl rfl)
 ·exact h.f (Nat.lt_succ_self n) false
theorem zd8 {m:Mk}{i:Nat}(h:MkK m i (10 * (i:Int)))(x:Cl)(w:Int){c:Nat}(hc:c < 3)(ec:x.Client.toNat=c)(hd:x.op.Data.length≤8):MkK (z4f m x w) (i+1) (10 * ((i+1:Nat):Int)):=by
 unfold z4f
 rw[ec]
 have h2:=(h.fin hc).add c x.op hd
 split
 ·exact (zqh h2 c _).mono (by omega)
 ·exact h2.mono (by omega)
theorem zgw (l:List Cl)(wt:List Int):MkK (z2x l wt 0) 0 (10 * ((0:Nat):Int)) :=
 ⟨zqd l 0,rfl,rfl,fun x hx=>by left;simpa [z2x] using hx,Int.le_refl _,Int.le_refl _,fun e he=>by simp[z2x] at he⟩
set_option maxHeartbeats 16000000 in
theorem y1r (l:List Cl)(hl:l.length≤50)(hD:∀ x ∈ l,x.op.Data.length≤1000)(wt:List Int):FnC Try.prog 39 [] [sCl l,sI false wt] [] (hEv (z2x l wt l.length).out):=by
 refine FnC.go yyy rfl ?_
 refine WL.sreg (by simp;rfl) (by simp;rfl) ?_
 refine WL.sregC (RL.call0 false (z8b 5 3) (by simp) (by simp) (RL.o (by simp;rfl) (RL.nil ⟨_,by simp;rfl,?_⟩)))
 refine WL.sreg (by simp;rfl) (by simp;rfl) ?_
 refine WL.sreg (by simp;rfl) (by simp;rfl) ?_
 refine WL.sreg (by simp;rfl) (by simp;rfl) ?_
 refine WL.seq (WL.sreg (by simp;rfl) (by simp;rfl) ?_)
 refine WL.block (WL.count l.length (fun i=>mkT l wt (z2x l wt i) i []) (fun i=>MkK (z2x l wt i) i (10 * i)) (by simp[z2x]) (zgw l wt) fun i hi hm=>?_)
 by_cases h:i < l.length
 ·have w:IntKind.wrap .i64 ((i:Int)+1)=((i+1:Nat):Int):=by rw[z01 (by omega) (by omega)];omega
  have f1:=zph h
  have g1:7≤l.length * 7 - i * 7:=by omega
  have hnear:=zxv l[i] 5 3 (by decide) (by decide) (by decide) (by decide) (hD _ (List.getElem_mem h))
  have eC:ze2 l[i] 5 3=zkb l i:=by simp[zkb,h]
  rw[eC] at hnear
  have hcl:=zio l i
  have hdl:=zqe l i
  have eR:z2x l wt (i+1)=z4f (z2x l wt i) (zkb l i) (wt.getD i 0):=rfl
  rw[eR]
  generalize z2x l wt i=m at hm ⊢
  generalize zkb l i=x at hnear hcl hdl ⊢
  obtain⟨c,ex⟩:=Int.eq_ofNat_of_zero_le hcl.1
  have hc:c < 3:=by omega
  have ec:x.Client.toNat=c:=by omega
  have h1:=hm.fin hc
  have h2:=h1.add c x.op hdl
  have rest:∀ (wv:Int),wv=wt.getD i 0→∀ Q,(∀ L,(∃ r,L=mkT l wt (z4f m x (wt.getD i 0)) i r∧(r=zm7 x ++ [(1100,0,i64 wv),(7000,0,bl false)]∨r=zm7 x ++ [(8300,0,bl false)]∨r=[]))→Q Ex.nrm L)→WL Try.prog zsm.nt zot (mkT l wt m i (zm7 x ++ [(1100,0,i64 wv)])) Q:=by
   intro wv ew Q hQ
   refine ykg l wt m i (by omega) hm x c hc ex wv Q fun L eL=>?_
   subst eL
   refine ykh l wt (z6o m c) i (by omega) h1 x c hc ex wv Q fun L eL=>?_
   subst eL
   refine y1q l wt (z3w (z6o m c) c x.op) i (by omega) (h2.mono (by omega)) x c hc ex wv Q fun L ⟨r,eL,hr⟩=>?_
   refine hQ L ⟨r,?_,hr⟩
   rw[eL]
   simp only[z4f,ec,ew]
  refine WL.seq (WL.sreg (by simp[h];rfl) (by simp;rfl) ?_)
  refine WL.cond (t:=true) (by simp[h]) (fun _=>WL.skip ?_) (by simp)
  refine WL.seq (WL.block (WL.sregC (RL.o (by simp[h,f1,g1];rfl) (RL.call0 false hnear (by simp) (by simp) (RL.o (by simp;rfl) (RL.nil ⟨_,by simp;rfl,?_⟩))))))
  refine WL.sreg (by simp;rfl) (by simp;rfl) ?_
  have hK:=zd8 hm x (wt.getD i 0) hc ec hdl
  have done:∀ L,(∃ r,L=mkT l wt (z4f m x (wt.getD i 0)) i r∧∃ wv:Int,(r=zm7 x ++ [(1100,0,i64 wv),(7000,0,bl false)]∨r=zm7 x ++ [(8300,0,bl false)]∨r=[]))→∀ Q,(∀ L',(i < l.length∧L'=mkT l wt (z4f m x (wt.getD i 0)) (i+1) []∧MkK (z4f m x (wt.getD i 0)) (i+1) (10 * ((i+1:Nat):Int)))→Q Ex.nrm L')→WL Try.prog zsm.nt zud L Q:=by
   rintro L ⟨r,rfl,wv,hr⟩ Q hQ
   rcases hr with rfl | rfl | rfl
   ·exact WL.reg (RL.run (by simp[w];rfl) ⟨_,by simp;rfl,hQ _ ⟨h,by simp,hK⟩⟩)
   ·exact WL.reg (RL.run (by simp[w];rfl) ⟨_,by simp;rfl,hQ _ ⟨h,by simp,hK⟩⟩)
   ·exact WL.reg (RL.run (by simp[w];rfl) ⟨_,by simp;rfl,hQ _ ⟨h,by simp,hK⟩⟩)
  by_cases hw:i < wt.length
  ·have ew:wt[i]=wt.getD i 0:=by simp[hw]
   refine WL.seq (WL.sreg (by simp[hw];rfl) (by simp;rfl) ?_)
   refine WL.cond (t:=true) (by simp[hw]) (fun _=>?_) (by simp)
   refine WL.reg (RL.run (by simp[hw];rfl) ⟨_,by simp;rfl,?_⟩)
   exact rest wt[i] ew _ fun L ⟨r,eL,hr⟩=>done L ⟨r,eL,_,hr⟩ _ fun L' h'=>h'
  ·have ew:(0:Int)=wt.getD i 0:=by simp[hw]
   refine WL.seq (WL.sreg (by simp[hw];rfl) (by simp;rfl) ?_)
   refine WL.cond (t:=false) (by simp[hw]) (by simp) fun _=>WL.skip ?_
   refine WL.fin [29] (by simp;rfl) ?_
   exact rest 0 ew _ fun L ⟨r,eL,hr⟩=>done L ⟨r,eL,_,hr⟩ _ fun L' h'=>h'
 ·obtain rfl:i=l.length:=by omega
  refine WL.seq (WL.sreg (by simp;rfl) (by simp;rfl) ?_)
  refine WL.cond (t:=false) (by simp) (by simp) fun _=>WL.exit ?_
  refine WL.sregC (RL.mv (by decide) (RL.o (by simp;rfl) (RL.nil ⟨_,by simp;rfl,WL.ret ⟨.inr rfl,?_⟩⟩)))
  simp[zsm]
  have tk:List.take ((z2x l wt l.length).out.length * 14) (List.flatMap (z02 false false) (z2x l wt l.length).out)=List.flatMap (z02 false false) (z2x l wt l.length).out:=List.take_of_length_le (by rw[z32];exact Nat.le_refl _)
  rw[tk,tk]
end Go.OT
namespace Go.OT
open Go.Proofs
def z58 (s:St)(out:List Ev)(o:Int):List Ev :=
 if 0 < (atE out o).End then out.set o.toNat { atE out o with res:=(DoB s (atE out o).Client (atE out o).op).2.2 } else out
def zgx:List Int→St→List Ev→St × List Ev
 | [],s,out=>(s,out)
 | o :: r,s,out=>zgx r (DoB s (atE out o).Client (atE out o).op).2.1 (z58 s out o)
def zgy (l:List Ev):List Ev:=(zgx (z0r l) (z0p 5 3) l).2
theorem zqi (s:St)(out:List Ev)(o:Int):(z58 s out o).length=out.length:=by unfold z58;split<;>simp
theorem ztg (s:St)(out:List Ev)(o:Int):∀ e ∈ z58 s out o,∃ e' ∈ out,e.op=e'.op∨e.op.Data=[]:=by
 intro e he
 unfold z58 at he
 split at he
 ·rcases List.mem_or_eq_of_mem_set he with he | rfl
  ·exact⟨e,he,.inl rfl⟩
  ·by_cases h:o.toNat < out.length
   ·exact⟨out[o.toNat],List.getElem_mem h,.inl (by simp[atE,h])⟩
   ·rw[List.set_eq_of_length_le (by omega)] at he
    exact⟨_,he,.inl rfl⟩
 ·exact⟨e,he,.inl rfl⟩
theorem y1s (l:List Ev):(l.flatMap (z02 false false)).all z1k=true:=by
 rw[List.all_eq_true]
 intro c hc
 obtain⟨e,he,hc⟩:=List.mem_flatMap.1 hc
 have h:(z02 false false e).all z1k=true:=rfl
 exact List.all_eq_true.1 h c hc
@[simp] theorem y1t (L:SL) (d:Nat) (zs:List AU):z60 L (.alloc d zs)=true:=rfl
abbrev rsT (out:List Ev)(s:St)(o:List Int)(j:Nat)(r:SL):SL:=[(300,0,hEv out)] ++ (rcO 4 s ++ ([(500,0,sI true o),(600,0,i64 j)] ++ r))
set_option maxHeartbeats 16000000 in
theorem zlw (l:List Ev)(hn:l.length≤1000)(hD:∀ e ∈ l,e.op.Data.length≤1000):FnC Try.prog 40 [] [sEv l] [] (hEv (zgy l)):=by
 have hL:=z32 false false l
 have hp:=y1s l
 have m1:l.length * 144≤140737488355328:=by omega
 have m2:l.length≤maxLen:=by unfold maxLen;omega
 have hO:=z5k l
 have tk:List.take (l.length * 14) (l.flatMap (z02 false false))=l.flatMap (z02 false false):=List.take_of_length_le (by rw[z32];exact Nat.le_refl _)
 refine FnC.go yyz rfl ?_
 refine WL.sreg (by simp;rfl) (by simp;rfl) ?_
 refine WL.sreg (by simp[hL,hp,m1,m2];rfl) (by simp;rfl) ?_
 refine WL.sregC (RL.call0 false (z8b 5 3) (by simp) (by simp) (RL.o (by simp;rfl) (RL.nil ⟨_,by simp;rfl,?_⟩)))
 refine WL.sregC (RL.o (by simp;rfl) (RL.call0 true (z7b l hn) (by simp[tk]) (by simp[yme]) (RL.o (by simp;rfl) (RL.nil ⟨_,by simp;rfl,?_⟩))))
 have s0:=z2p (p:=5) (c:=3) (by kernel_rfl)
 have hR:zgy l=(zgx (z0r l) (z0p 5 3) l).2:=rfl
 generalize z0p 5 3=st0 at s0 hR ⊢
 refine WL.seq (WL.sreg (by simp;rfl) (by simp;rfl) ?_)
 refine WL.block (WL.loop (ι:={x:Nat × St × List Ev // x.1≤(z0r l).length∧OkSt x.2.1∧x.2.2.length=l.length∧(∀ e ∈ x.2.2,e.op.Data.length≤1000)∧zgx ((z0r l).drop x.1) x.2.1 x.2.2=zgx (z0r l) st0 l}) (fun x=>rsT x.1.2.2 x.1.2.1 (z0r l) x.1.1 []) (fun x=>(z0r l).length - x.1.1) ⟨(0,st0,l),Nat.zero_le _,s0,rfl,hD,rfl⟩ (by simp[tk]) fun x=>?_)
 obtain⟨⟨j,s,out⟩,hj,hs,hlen,hDo,hg⟩:=x
 simp only at hj hs hlen hDo hg ⊢
 by_cases hlt:j < (z0r l).length
 ·obtain⟨u,hu,eu⟩:=z94 hlt
  have hlt':j+1≤(z0r l).length:=hlt
  have hu':u < out.length:=by omega
  have w:IntKind.wrap .i64 ((j:Int)+1)=((j+1:Nat):Int):=by rw[z01 (by omega) (by omega)];omega
  have hdo:=zeb s hs out[u].Client out[u].op (by have:=hDo _ (List.getElem_mem hu');unfold z0c;omega)
  have hL2:=z32 false false out
  have hsd:=hs.doB out[u].Client out[u].op
  rw[List.drop_eq_getElem_cons hlt] at hg
  simp only[zgx,eu,z56 hu'] at hg
  have hlen2:=zqi s out (u:Int)
  have hop2:=ztg s out (u:Int)
  have hro:z58 s out (u:Int)=if 0 < out[u].End then out.set u { out[u] with res:=(DoB s out[u].Client out[u].op).2.2 } else out:=by simp only[z58,z56 hu',Int.toNat_natCast]
  have hs5:=fun r=>zeg hu' r
  have q0:∀ (hh:u * 14 < (out.flatMap (z02 false false)).length),(out.flatMap (z02 false false))[u * 14]'hh=i64 out[u].Client:=z1e (j:=0) (v:=i64 out[u].Client) hu' (by decide) rfl
  have q1:∀ (hh:u * 14+1 < (out.flatMap (z02 false false)).length),(out.flatMap (z02 false false))[u * 14+1]'hh=i64 out[u].op.Kind:=z1e (j:=1) (v:=i64 out[u].op.Kind) hu' (by decide) rfl
  have p1:(out.flatMap (z02 false false))[u * 14+1]?=some (i64 out[u].op.Kind):=z65 (j:=1) hu' (by decide)
  have q2:∀ (hh:u * 14+1+1 < (out.flatMap (z02 false false)).length),(out.flatMap (z02 false false))[u * 14+1+1]'hh=i64 out[u].op.Page:=z1e (j:=2) (v:=i64 out[u].op.Page) hu' (by decide) rfl
  have p2:(out.flatMap (z02 false false))[u * 14+1+1]?=some (i64 out[u].op.Page):=z65 (j:=2) hu' (by decide)
  have q3:∀ (hh:u * 14+1+2 < (out.flatMap (z02 false false)).length),(out.flatMap (z02 false false))[u * 14+1+2]'hh=i64 out[u].op.Handle:=z1e (j:=3) (v:=i64 out[u].op.Handle) hu' (by decide) rfl
  have p3:(out.flatMap (z02 false false))[u * 14+1+2]?=some (i64 out[u].op.Handle):=z65 (j:=3) hu' (by decide)
  have q4:∀ (hh:u * 14+1+3 < (out.flatMap (z02 false false)).length),(out.flatMap (z02 false false))[u * 14+1+3]'hh=i64 out[u].op.Off:=z1e (j:=4) (v:=i64 out[u].op.Off) hu' (by decide) rfl
  have p4:(out.flatMap (z02 false false))[u * 14+1+3]?=some (i64 out[u].op.Off):=z65 (j:=4) hu' (by decide)
  have q5:∀ (hh:u * 14+1+4 < (out.flatMap (z02 false false)).length),(out.flatMap (z02 false false))[u * 14+1+4]'hh=i64 out[u].op.N:=z1e (j:=5) (v:=i64 out[u].op.N) hu' (by decide) rfl
  have p5:(out.flatMap (z02 false false))[u * 14+1+4]?=some (i64 out[u].op.N):=z65 (j:=5) hu' (by decide)
  have q6:∀ (hh:u * 14+1+5 < (out.flatMap (z02 false false)).length),(out.flatMap (z02 false false))[u * 14+1+5]'hh=sU false out[u].op.Data:=z1e (j:=6) (v:=sU false out[u].op.Data) hu' (by decide) rfl
  have p6:(out.flatMap (z02 false false))[u * 14+1+5]?=some (sU false out[u].op.Data):=z65 (j:=6) hu' (by decide)
  have q13:∀ (hh:u * 14+13 < (out.flatMap (z02 false false)).length),(out.flatMap (z02 false false))[u * 14+13]'hh=i64 out[u].End:=z1e (j:=13) (v:=i64 out[u].End) hu' (by decide) rfl
  have q7:∀ (hh:u * 14+7 < (out.flatMap (z02 false false)).length),(out.flatMap (z02 false false))[u * 14+7]'hh=i64 out[u].res.Code:=z1e (j:=7) (v:=i64 out[u].res.Code) hu' (by decide) rfl
  have q8:∀ (hh:u * 14+7+1 < (out.flatMap (z02 false false)).length),(out.flatMap (z02 false false))[u * 14+7+1]'hh=i64 out[u].res.Page:=z1e (j:=8) (v:=i64 out[u].res.Page) hu' (by decide) rfl
  have q9:∀ (hh:u * 14+7+2 < (out.flatMap (z02 false false)).length),(out.flatMap (z02 false false))[u * 14+7+2]'hh=i64 out[u].res.Handle:=z1e (j:=9) (v:=i64 out[u].res.Handle) hu' (by decide) rfl
  have q10:∀ (hh:u * 14+10 < (out.flatMap (z02 false false)).length),(out.flatMap (z02 false false))[u * 14+10]'hh=sU false out[u].res.Data:=z1e (j:=10) (v:=sU false out[u].res.Data) hu' (by decide) rfl
  have i7:u * 14+7 < out.length * 14:=by omega
  have i8:u * 14+8 < out.length * 14:=by omega
  have i9:u * 14+9 < out.length * 14:=by omega
  have i10:u * 14+10 < out.length * 14:=by omega
  have b1:u * 14+1≤out.length * 14:=by omega
  have b2:u * 14+1+6≤out.length * 14:=by omega
  refine WL.seq (WL.sreg (by simp[hlt];rfl) (by simp;rfl) ?_)
  refine WL.cond (t:=true) (by simp[hlt]) (fun _=>WL.skip ?_) (by simp)
  refine WL.seq (WL.block (WL.seq ?_))
  refine WL.draw z0t (by simp[z09,noH]) (DL.o (by simp[hlt,hlt',eu,hu',q0,q1,q2,q3,q4,q5,q6,p1,p2,p3,p4,p5,p6,hL2,b1,b2];exact⟨rfl,rfl⟩) ?_)
  generalize DoB s out[u].Client out[u].op=dd at hdo hsd hg hro
  obtain⟨o',t,r⟩:=dd
  simp only at hdo hsd hg hro
  refine DL.callLF true [(401,[]),(402,[]),(403,[])] hdo (by simp) (by simp) (by simp[z35]) (zia s t r) (by simp[z09,noH]) ?_
  refine DL.o (by simp;exact⟨rfl,rfl⟩) (DL.nil ⟨by kernel_rfl,_,by simp;rfl,?_⟩)
  have b13:u * 14+13 < out.length * 14:=by omega
  have b14:u * 14+13+1≤out.length * 14:=by omega
  by_cases hE:0 < out[u].End
  ·refine WL.sreg (by simp[hlt,hlt',eu,hu',q13,hL2,b13,b14,hE];rfl) (by simp;rfl) ?_
   refine WL.cond (t:=true) (by simp[hE]) (fun _=>?_) (by simp)
   refine WL.wipe1 300 [u * 14+10] (by simp[q10,hL2,i10]) ?_
   refine WL.draw z0t (by simp[z09,noH]) (DL.o (by simp[hlt,hlt',eu,hu',q7,q8,q9,q10,hL2,i7,i8,i9,i10];exact⟨rfl,rfl⟩) (DL.nil ⟨by kernel_rfl,_,by simp;rfl,?_⟩))
   rw[if_pos hE] at hro
   have h5:=hs5 r
   rw[← hro] at h5
   refine WL.reg (RL.run (by simp[w];rfl) ⟨_,by simp;rfl,?_⟩)
   refine⟨⟨(j+1,t,z58 s out u),hlt,hsd,by rw[hlen2,hlen],fun e he=>?_,hg⟩,?_,by simp only;omega⟩
   ·obtain⟨e',he',h6⟩:=hop2 e he
    rcases h6 with h6 | h6
    ·rw[h6];exact hDo e' he'
    ·rw[h6];simp
   ·simp[← h5,hlen2]
  ·refine WL.sreg (by simp[hlt,hlt',eu,hu',q13,hL2,b13,b14,hE];rfl) (by simp;rfl) ?_
   refine WL.cond (t:=false) (by simp[hE]) (by simp) fun _=>WL.skip ?_
   rw[if_neg hE] at hro
   rw[hro] at hg
   refine WL.reg (RL.run (by simp[w];rfl) ⟨_,by simp;rfl,?_⟩)
   exact⟨⟨(j+1,t,out),hlt,hsd,hlen,hDo,hg⟩,by simp,by simp only;omega⟩
 ·obtain rfl:j=(z0r l).length:=by omega
  rw[List.drop_length] at hg
  simp only[zgx] at hg
  rw[hR,← hg]
  refine WL.seq (WL.sreg (by simp;rfl) (by simp;rfl) ?_)
  refine WL.cond (t:=false) (by simp) (by simp) fun _=>WL.exit ?_
  have tk2:List.take (out.length * 14) (out.flatMap (z02 false false))=out.flatMap (z02 false false):=List.take_of_length_le (by rw[z32];exact Nat.le_refl _)
  refine WL.sregC (RL.mv (by decide) (RL.o (by simp;rfl) (RL.nil ⟨_,by simp;rfl,WL.ret ⟨.inr rfl,?_⟩⟩)))
  simp[yxl,tk2]
end Go.OT
namespace Go.OT
open Go.Proofs
structure Tm (l:List Ev) (now:Int):Prop where
 c:∀ (i:Nat) (e:Ev),l[i]?=some e→0≤e.Client∧e.Client < 3
 b:∀ (i:Nat) (e:Ev),l[i]?=some e→1≤e.Begin∧e.Begin≤now
 s:∀ (i:Nat) (e:Ev),l[i]?=some e→e.Stamp=0∨(e.Begin < e.Stamp∧e.Stamp≤now)
 e:∀ (i:Nat) (e:Ev),l[i]?=some e→e.End=0∨(e.Begin < e.Stamp∧e.Stamp < e.End∧e.End≤now)
 inc:∀ (i j:Nat) (e f:Ev),l[i]?=some e→l[j]?=some f→i < j→e.Begin < f.Begin
 al:∀ (i j:Nat) (e f:Ev),l[i]?=some e→l[j]?=some f→i < j→e.Client=f.Client→1≤e.End∧e.End < f.Begin
theorem Tm.times {l:List Ev}{now:Int}(h:Tm l now)(j:Nat)(hj:j < l.length):z1u l j 3=true:=by
 rw[z63 hj]
 have e0:l[j]?=some l[j]:=List.getElem?_eq_getElem hj
 have hc:=h.c j _ e0
 have hb:=h.b j _ e0
 have hs:=h.s j _ e0
 have he:=h.e j _ e0
 have h1:z4z l j 3 l[j]=false:=by
  have hp:z3s l j l[j]=false:=by
   unfold z3s
   by_cases z:0 < j
   ·have hl:j - 1 < l.length:=by omega
    have e1:l[j - 1]?=some l[j - 1]:=List.getElem?_eq_getElem hl
    have:=h.inc (j - 1) j _ _ e1 e0 (by omega)
    rw[List.getD_eq_getElem?_getD,e1]
    simp;omega
   ·simp[z]
  have b1:¬ l[j].Client < 0:=by omega
  have b2:¬ 3≤l[j].Client:=by omega
  have b3:¬ l[j].Begin < 1:=by omega
  have b4:¬ l[j].End < 0:=by omega
  simp only[z4z,hp,b1,b2,b3,b4,decide_false,Bool.or_self]
 have h2:z1h l[j]=false:=by
  by_cases p:0 < l[j].End
  ·have a1:¬ l[j].Stamp < l[j].Begin:=by omega
   have a2:¬ l[j].End < l[j].Stamp:=by omega
   have a3:l[j].End ≠ 0:=by omega
   simp[z1h,p,a1,a2,a3]
  ·have a3:l[j].End=0:=by omega
   by_cases q:l[j].Stamp=0
   ·simp[z1h,a3,q]
   ·have a1:¬ l[j].Stamp < l[j].Begin:=by omega
    simp[z1h,a3,q,a1]
 have h3:((l.take j).any (z1t l[j]))=false:=by
  rw[List.any_eq_false]
  intro e hm
  obtain⟨k,hk,rfl⟩:=List.mem_iff_getElem.1 hm
  have hkj:k < j:=by simp at hk;omega
  rw[List.getElem_take]
  have ek:l[k]?=some l[k]:=List.getElem?_eq_getElem (by omega)
  by_cases q:l[k].Client=l[j].Client
  ·have:=h.al k j _ _ ek e0 hkj q
   have a1:¬ l[k].End < 1:=by omega
   have a2:¬ l[j].Begin≤l[k].End:=by omega
   simp[z1t,q,a1,a2]
  ·simp[z1t,q]
 simp[z26,h1,h2,h3]
structure MkI (m:Mk):Prop where
 t:Tm m.out m.now
 n0:0≤m.now
 o:m.op.length=3
 oc:∀ c k:Nat,c < 3→m.op.getD c 0=(k:Int)→∃ e,m.out[k]?=some e∧e.Client=c∧e.End=0
 on:∀ c i:Nat,c < 3→∀ e,m.out[i]?=some e→e.Client=c→e.End=0→m.op.getD c 0=(i:Int)
theorem z6k {l:List Int}{c d:Nat}{v:Int}(hc:c < l.length):(l.set c v).getD d 0=if d=c then v else l.getD d 0:=by
 rw[List.getD_eq_getElem?_getD,List.getElem?_set,List.getD_eq_getElem?_getD]
 by_cases h:c=d
 ·subst h;simp[hc]
 ·have h':¬ d=c:=fun x=>h x.symm
  simp[h,h']
theorem zir (s:St)(e:Ev)(now:Int)(en:Bool):(zd7 s e now en).Client=e.Client∧(zd7 s e now en).Begin=e.Begin∧(zd7 s e now en).Stamp=(if e.Stamp=0 then now+1 else e.Stamp)∧(zd7 s e now en).End=(if en=true then zeq e now en else e.End):=by
 unfold zd7;cases en<;>by_cases z:e.Stamp=0<;>simp [z]
theorem Tm.fin {s:St}{l:List Ev}{now:Int}(h:Tm l now){k:Nat}{e:Ev}(hk:l[k]?=some e)(h0:e.End=0)(en:Bool):Tm (l.set k (zd7 s e now en)) (zeq e now en):=by
 have hl:k < l.length:=by
  rcases Nat.lt_or_ge k l.length with h | h
  ·exact h
  ·rw[List.getElem?_eq_none h] at hk;cases hk
 have hN:=zeh e now en
 obtain⟨q1,q2,q3,q4⟩:=zir s e now en
 have hg:∀ (i:Nat) (x:Ev),(l.set k (zd7 s e now en))[i]?=some x→(i=k∧x=zd7 s e now en)∨(i ≠ k∧l[i]?=some x):=fun i x hx=>by
  rw[List.getElem?_set] at hx
  by_cases z:k=i
  ·subst z;simp[hl] at hx;exact .inl ⟨rfl,hx.symm⟩
  ·simp[z] at hx;exact .inr ⟨fun y=>z y.symm,hx⟩
 generalize zd7 s e now en=e' at q1 q2 q3 q4 hg ⊢
 have hc:=h.c k e hk
 have hb:=h.b k e hk
 have hs:=h.s k e hk
 refine⟨fun i x hx=>?_,fun i x hx=>?_,fun i x hx=>?_,fun i x hx=>?_,fun i j x y hx hy hij=>?_,fun i j x y hx hy hij hcl=>?_⟩
 ·rcases hg i x hx with ⟨rfl,rfl⟩ | ⟨_,hx1⟩
  ·rw[q1];exact hc
  ·exact h.c i x hx1
 ·rcases hg i x hx with ⟨rfl,rfl⟩ | ⟨_,hx1⟩
  ·rw[q2];omega
  ·have:=h.b i x hx1;omega
 ·rcases hg i x hx with ⟨rfl,rfl⟩ | ⟨_,hx1⟩
  ·rw[q2,q3]
   right
   unfold zeq
   by_cases z:e.Stamp=0
   ·simp only[z,if_true];cases en<;>simp<;>omega
   ·simp only[z,if_false];cases en<;>simp<;>omega
  ·have:=h.s i x hx1;omega
 ·rcases hg i x hx with ⟨rfl,rfl⟩ | ⟨_,hx1⟩
  ·cases en with
   | false=>left;rw[q4];simpa using h0
   | true =>
    right
    rw[q2,q3,q4]
    unfold zeq
    by_cases z:e.Stamp=0
    ·simp only[z,if_true];omega
    ·simp only[z,if_false,if_true];omega
  ·have:=h.e i x hx1;omega
 ·rcases hg i x hx with ⟨rfl,rfl⟩ | ⟨_,hx1⟩
  ·rcases hg j y hy with ⟨rfl,rfl⟩ | ⟨_,hy1⟩
   ·omega
   ·rw[q2];exact h.inc _ j e y hk hy1 hij
  ·rcases hg j y hy with ⟨rfl,rfl⟩ | ⟨_,hy1⟩
   ·rw[q2];exact h.inc i _ x e hx1 hk hij
   ·exact h.inc i j x y hx1 hy1 hij
 ·rcases hg i x hx with ⟨rfl,rfl⟩ | ⟨_,hx1⟩
  ·rcases hg j y hy with ⟨rfl,rfl⟩ | ⟨_,hy1⟩
   ·omega
   ·have:=h.al _ j e y hk hy1 hij (by rw[← hcl,q1]);omega
  ·rcases hg j y hy with ⟨rfl,rfl⟩ | ⟨_,hy1⟩
   ·rw[q2];exact h.al i _ x e hx1 hk hij (by rw[hcl,q1])
   ·exact h.al i j x y hx1 hy1 hij hcl
theorem zke {α:Type}{l:List α}{k:Nat}{e:α}(hk:l[k]?=some e):k < l.length:=by
 rcases Nat.lt_or_ge k l.length with h | h
 ·exact h
 ·rw[List.getElem?_eq_none h] at hk;cases hk
theorem zqj {l:List Ev}{k:Nat}{e:Ev}(hk:l[k]?=some e):atE l (k:Int)=e:=by simp[atE,hk]
theorem zqk {l:List Ev}{k i:Nat}{v x:Ev}(hl:k < l.length)(hx:(l.set k v)[i]?=some x):(i=k∧x=v)∨(i ≠ k∧l[i]?=some x):=by
 rw[List.getElem?_set] at hx
 by_cases z:k=i
 ·subst z;simp[hl] at hx;exact .inl ⟨rfl,hx.symm⟩
 ·simp[z] at hx;exact .inr ⟨fun y=>z y.symm,hx⟩
theorem MkI.stamp {m:Mk}(h:MkI m){c k:Nat}(hc:c < 3)(ho:m.op.getD c 0=(k:Int)):MkI (mkF m (k:Int) false):=by
 obtain⟨e,hk,ec,h0⟩:=h.oc c k hc ho
 have hl:=zke hk
 have ea:=zqj hk
 have hN:=zeh e m.now false
 obtain⟨q1,q2,q3,q4⟩:=zir m.s e m.now false
 refine⟨?_,?_,h.o,fun c' k' hc' ho'=>?_,fun c' i hc' x hx hcl hx0=>?_⟩
 ·simp only[mkF,ea,Int.toNat_natCast];exact h.t.fin hk h0 false
 ·have:=h.n0;simp only[mkF,ea];omega
 ·simp only[mkF] at ho' ⊢
  obtain⟨x,hx,hxc,hx0⟩:=h.oc c' k' hc' ho'
  simp only[ea,Int.toNat_natCast,List.getElem?_set]
  by_cases z:k=k'
  ·subst z
   refine⟨zd7 m.s e m.now false,by simp[hl],?_,?_⟩
   ·rw[q1];rw[hk] at hx;cases hx;exact hxc
   ·rw[q4];simpa using h0
  ·exact⟨x,by simp[z,hx],hxc,hx0⟩
 ·simp only[mkF,ea,Int.toNat_natCast] at hx ⊢
  rcases zqk hl hx with ⟨rfl,rfl⟩ | ⟨_,hx⟩
  ·exact h.on c' _ hc' e hk (by rw[← hcl,q1]) h0
  ·exact h.on c' i hc' x hx hcl hx0
theorem MkI.done {m:Mk}(h:MkI m){c k:Nat}(hc:c < 3)(ho:m.op.getD c 0=(k:Int)):MkI (mkO (mkF m (k:Int) true) c (-1)):=by
 obtain⟨e,hk,ec,h0⟩:=h.oc c k hc ho
 have hl:=zke hk
 have ea:=zqj hk
 have hN:=zeh e m.now true
 obtain⟨q1,q2,q3,q4⟩:=zir m.s e m.now true
 have hn:=h.n0
 have hop:c < m.op.length:=by rw[h.o];exact hc
 have hEnd:(zd7 m.s e m.now true).End ≠ 0:=by
  rw[q4];simp only[if_true]
  unfold zeq
  by_cases z:e.Stamp=0
  ·simp only[z,if_true];omega
  ·simp only[z,if_false,if_true];omega
 refine⟨?_,?_,by simp[mkO,mkF,h.o],fun c' k' hc' ho'=>?_,fun c' i hc' x hx hcl hx0=>?_⟩
 ·simp only[mkO,mkF,ea,Int.toNat_natCast];exact h.t.fin hk h0 true
 ·simp only[mkO,mkF,ea];omega
 ·simp only[mkO,mkF] at ho' ⊢
  rw[z6k hop] at ho'
  by_cases z:c'=c
  ·simp only[z,if_true] at ho';omega
  ·simp only[z,if_false] at ho'
   obtain⟨x,hx,hxc,hx0⟩:=h.oc c' k' hc' ho'
   have hne:k ≠ k':=fun y=>by
    subst y
    rw[hk] at hx;cases hx
    omega
   exact⟨x,by simp only[ea,Int.toNat_natCast,List.getElem?_set];simp[hne,hx],hxc,hx0⟩
 ·simp only[mkO,mkF,ea,Int.toNat_natCast] at hx ⊢
  rw[z6k hop]
  rcases zqk hl hx with ⟨rfl,rfl⟩ | ⟨hne,hx⟩
  ·exact absurd hx0 hEnd
  ·have:=h.on c' i hc' x hx hcl hx0
   by_cases z:c'=c
   ·subst z;rw[ho] at this;omega
   ·simp only[z,if_false];exact this
theorem MkI.endd {m:Mk}(h:MkI m){c:Nat}(hc:c < 3):MkI (z6o m c)∧(z6o m c).op.getD c 0 < 0:=by
 have hop:c < m.op.length:=by rw[h.o];exact hc
 unfold z6o
 split
 ·rename_i h0
  obtain⟨k,hk⟩:=Int.eq_ofNat_of_zero_le h0
  rw[hk]
  refine⟨h.done hc hk,?_⟩
  simp only[mkO,mkF]
  rw[z6k hop]
  simp
 ·exact⟨h,by omega⟩
theorem MkI.add {m:Mk}(h:MkI m){c:Nat}(hc:c < 3)(hop0:m.op.getD c 0 < 0)(q:Op):MkI (z3w m c q)∧(z3w m c q).op.getD c 0=(m.out.length:Int):=by
 have hop:c < m.op.length:=by rw[h.o];exact hc
 have hn:=h.n0
 have hg:∀ (i:Nat) (x:Ev),(m.out ++ [⟨c,q,⟨0,0,0,[]⟩,m.now+1,0,0⟩])[i]?=some x→(i=m.out.length∧x=⟨c,q,⟨0,0,0,[]⟩,m.now+1,0,0⟩)∨(i < m.out.length∧m.out[i]?=some x):=fun i x hx=>by
  rcases Nat.lt_or_ge i m.out.length with hi | hi
  ·rw[List.getElem?_append_left hi] at hx;exact .inr ⟨hi,hx⟩
  ·rw[List.getElem?_append_right hi] at hx
   have hz:=zke hx
   simp at hz
   have e:i=m.out.length:=by omega
   subst e
   simp at hx
   exact .inl ⟨rfl,hx.symm⟩
 have hend:∀ (i:Nat) (x:Ev),m.out[i]?=some x→x.Client=c→1≤x.End∧x.End≤m.now:=fun i x hx hxc=>by
  have:=h.t.e i x hx
  have hs:=h.t.b i x hx
  by_cases z:x.End=0
  ·have:=h.on c i hc x hx hxc z;omega
  ·omega
 refine⟨⟨⟨fun i x hx=>?_,fun i x hx=>?_,fun i x hx=>?_,fun i x hx=>?_,fun i j x y hx hy hij=>?_,fun i j x y hx hy hij hcl=>?_⟩,by simp only[z3w];omega,by simp[z3w,h.o],fun c' k' hc' ho'=>?_,fun c' i hc' x hx hcl hx0=>?_⟩,by simp only[z3w];rw[z6k hop];simp⟩
 ·rcases hg i x hx with ⟨rfl,rfl⟩ | ⟨_,hx1⟩
  ·simp only;omega
  ·exact h.t.c i x hx1
 ·rcases hg i x hx with ⟨rfl,rfl⟩ | ⟨_,hx1⟩
  ·simp only[z3w];omega
  ·have:=h.t.b i x hx1;simp only[z3w];omega
 ·rcases hg i x hx with ⟨rfl,rfl⟩ | ⟨_,hx1⟩
  ·exact .inl rfl
  ·have:=h.t.s i x hx1;simp only[z3w];omega
 ·rcases hg i x hx with ⟨rfl,rfl⟩ | ⟨_,hx1⟩
  ·exact .inl rfl
  ·have:=h.t.e i x hx1;simp only[z3w];omega
 ·rcases hg i x hx with ⟨rfl,rfl⟩ | ⟨hi,hx1⟩
  ·rcases hg j y hy with ⟨rfl,rfl⟩ | ⟨_,hy1⟩<;>omega
  ·rcases hg j y hy with ⟨rfl,rfl⟩ | ⟨_,hy1⟩
   ·have:=h.t.b i x hx1;simp only;omega
   ·exact h.t.inc i j x y hx1 hy1 hij
 ·rcases hg i x hx with ⟨rfl,rfl⟩ | ⟨hi,hx1⟩
  ·rcases hg j y hy with ⟨rfl,rfl⟩ | ⟨_,hy1⟩<;>omega
  ·rcases hg j y hy with ⟨rfl,rfl⟩ | ⟨_,hy1⟩
   ·have:=hend i x hx1 hcl;simp only;omega
   ·exact h.t.al i j x y hx1 hy1 hij hcl
 ·simp only[z3w] at ho' ⊢
  rw[z6k hop] at ho'
  by_cases z:c'=c
  ·simp only[z,if_true] at ho'
   have e:k'=m.out.length:=by omega
   subst e
   exact⟨⟨c,q,⟨0,0,0,[]⟩,m.now+1,0,0⟩,by simp,by simp[z],rfl⟩
  ·simp only[z,if_false] at ho'
   obtain⟨x,hx,hxc,hx0⟩:=h.oc c' k' hc' ho'
   exact⟨x,by rw[List.getElem?_append_left (zke hx)];exact hx,hxc,hx0⟩
 ·simp only[z3w] at hx ⊢
  rw[z6k hop]
  rcases hg i x hx with ⟨rfl,rfl⟩ | ⟨hi,hx1⟩
  ·have e:c'=c:=by simp only at hcl;omega
   simp[e]
  ·by_cases z:c'=c
   ·subst z;have:=hend i x hx1 hcl;omega
   ·simp only[z,if_false];exact h.on c' i hc' x hx1 hcl hx0
theorem MkI.round {m:Mk}(h:MkI m)(x:Cl)(w:Int)(h0:0≤x.Client∧x.Client < 3):MkI (z4f m x w):=by
 have hc:x.Client.toNat < 3:=by omega
 unfold z4f
 obtain⟨h1,n1⟩:=h.endd hc
 obtain⟨h2,n2⟩:=h1.add hc n1 x.op
 have eL:(((z3w (z6o m x.Client.toNat) x.Client.toNat x.op).out.length - 1:Nat):Int)=((z6o m x.Client.toNat).out.length:Int):=by simp[z3w]
 split
 ·unfold zbu
  rw[eL]
  split
  ·exact h2.done hc n2
  ·exact h2.stamp hc n2
 ·exact h2
theorem zql (l:List Cl)(wt:List Int):∀ i,MkI (z2x l wt i)
 | 0=>⟨⟨fun i e h=>by simp[z2x] at h,fun i e h=>by simp[z2x] at h,fun i e h=>by simp[z2x] at h,fun i e h=>by simp[z2x] at h,fun i j e f h=>by simp[z2x] at h,fun i j e f h=>by simp[z2x] at h⟩,Int.le_refl _,rfl,fun c k hc h=>by
   have:(z2x l wt 0).op.getD c 0=-1:=by
    match c,hc with
    | 0,_=>rfl
    | 1,_=>rfl
    | 2,_=>rfl
   omega,fun c i hc e h=>by simp[z2x] at h⟩
 | i+1=>(zql l wt i).round _ _ (zio l i)
def sk (e:Ev):Ev:={ e with res:=⟨0,0,0,[]⟩ }
theorem zkf (s:St)(out:List Ev)(o:Int):(z58 s out o).map sk=out.map sk:=by
 unfold z58
 split
 ·rw[List.map_set]
  by_cases h:o.toNat < out.length
  ·have e:sk { atE out o with res:=(DoB s (atE out o).Client (atE out o).op).2.2 }=(out.map sk)[o.toNat]'(by simpa using h):=by simp[sk,atE,h]
   rw[e,List.set_getElem_self]
  ·rw[List.set_eq_of_length_le (by simpa using h)]
 ·rfl
theorem zqm:∀ (o:List Int) (s:St) (out:List Ev),(zgx o s out).2.map sk=out.map sk
 | [],s,out=>rfl
 | x :: r,s,out=>by simp only[zgx];rw[zqm r,zkf]
theorem zab (l:List Ev):(zgy l).map sk=l.map sk:=zqm _ _ _
theorem z8f {l l':List Ev}(h:l.map sk=l'.map sk){i:Nat}{e:Ev}(he:l[i]?=some e):∃ e',l'[i]?=some e'∧sk e'=sk e:=by
 have:(l.map sk)[i]?=(l'.map sk)[i]?:=by rw[h]
 rw[List.getElem?_map,List.getElem?_map,he] at this
 cases hh:l'[i]? with
 | none=>rw [hh] at this;cases this
 | some e'=>rw [hh] at this;exact⟨e',rfl,(Option.some.inj this).symm⟩
theorem zr1 {e e':Ev}(h:sk e'=sk e):e'.Client=e.Client∧e'.op=e.op∧e'.Begin=e.Begin∧e'.Stamp=e.Stamp∧e'.End=e.End:=by
 have h1:=congrArg Ev.Client h;have h2:=congrArg Ev.op h;have h3:=congrArg Ev.Begin h;have h4:=congrArg Ev.Stamp h;have h5:=congrArg Ev.End h
 exact⟨h1,h2,h3,h4,h5⟩
theorem Tm.sk {l l':List Ev}{now:Int}(h:Tm l now)(e:l'.map sk=l.map sk):Tm l' now:=by
 refine⟨fun i x hx=>?_,fun i x hx=>?_,fun i x hx=>?_,fun i x hx=>?_,fun i j x y hx hy hij=>?_,fun i j x y hx hy hij hcl=>?_⟩
 ·obtain⟨x',hx',s⟩:=z8f e hx
  obtain⟨f1,f2,f3,f4,f5⟩:=zr1 s
  have:=h.c i x' hx';omega
 ·obtain⟨x',hx',s⟩:=z8f e hx
  obtain⟨f1,f2,f3,f4,f5⟩:=zr1 s
  have:=h.b i x' hx';omega
 ·obtain⟨x',hx',s⟩:=z8f e hx
  obtain⟨f1,f2,f3,f4,f5⟩:=zr1 s
  have:=h.s i x' hx';omega
 ·obtain⟨x',hx',s⟩:=z8f e hx
  obtain⟨f1,f2,f3,f4,f5⟩:=zr1 s
  have:=h.e i x' hx';omega
 ·obtain⟨x',hx',s⟩:=z8f e hx
  obtain⟨f1,f2,f3,f4,f5⟩:=zr1 s
  obtain⟨y',hy',t⟩:=z8f e hy
  obtain⟨g1,g2,g3,g4,g5⟩:=zr1 t
  have:=h.inc i j x' y' hx' hy' hij;omega
 ·obtain⟨x',hx',s⟩:=z8f e hx
  obtain⟨f1,f2,f3,f4,f5⟩:=zr1 s
  obtain⟨y',hy',t⟩:=z8f e hy
  obtain⟨g1,g2,g3,g4,g5⟩:=zr1 t
  have:=h.al i j x' y' hx' hy' hij (by omega);omega
theorem zlx {l l':List Ev}(h:l.map (·.Stamp)=l'.map (·.Stamp)):z0r l=z0r l':=by
 have hl:l.length=l'.length:=by simpa using congrArg List.length h
 have hk:z6t l=z6t l':=funext fun x=>by simp only[z6t,h]
 unfold z0r ygr z9p
 rw[h,hl,hk]
theorem zqn {l l':List Ev}(h:l.map sk=l'.map sk):l.map (·.Stamp)=l'.map (·.Stamp):=by
 have:=congrArg (List.map (·.Stamp)) h
 simpa [List.map_map,Function.comp_def,sk] using this
theorem zqo (l:List Ev):z0r (zgy l)=z0r l:=zlx (zqn (zab l))
theorem zqp (l:List Ev):(zgy l).length=l.length:=by simpa using congrArg List.length (zab l)
theorem zly (l:List Ev):(z0r l).Nodup:=by
 have h:=z4b (z6t l) (z5j l l.length)
 refine (h.1.nodup_iff).2 ?_
 exact (z5j l l.length).imp fun hab=>Int.ne_of_lt hab
theorem yki {l l':List Ev}(h:l.map sk=l'.map sk)(y:Int):sk (atE l y)=sk (atE l' y):=by
 have e:∀ m:List Ev,sk (atE m y)=((m.map sk)[y.toNat]?).getD ⟨0,⟨0,0,0,0,0,[]⟩,⟨0,0,0,[]⟩,0,0,0⟩:=fun m=>by
  rw[List.getElem?_map]
  unfold atE
  cases m[y.toNat]?<;>rfl
 rw[e,e,h]
theorem zqq {l l':List Ev}{x:Int}(h:l[x.toNat]?=l'[x.toNat]?):atE l x=atE l' x:=by unfold atE;rw[h]
theorem zis (r:Rs):z1b r r=true:=by simp[z1b]
theorem zgz:∀ (o:List Int) (s:St) (out:List Ev),o.Nodup→(∀ x ∈ o,0≤x)→(∀ y,0≤(atE out y).End) →
  (∀ y:Nat,(y:Int) ∉ o→(zgx o s out).2[y]?=out[y]?)∧goW (zgx o s out).2 z36 s () o=(0,(zgx o s out).1,())
 | [],s,out,hn,hx,hE0=>⟨fun y _=>rfl,rfl⟩
 | x :: r,s,out,hn,hx,hE0=>by
  obtain⟨k,ek⟩:=Int.eq_ofNat_of_zero_le (hx x (List.mem_cons_self ..))
  have hn':=List.nodup_cons.1 hn
  have ih:=zgz r (DoB s (atE out x).Client (atE out x).op).2.1 (z58 s out x) hn'.2 (fun y hy=>hx y (List.mem_cons_of_mem _ hy)) fun y=>by
   have:=(zr1 (yki (zkf s out x) y)).2.2.2.2
   rw[this];exact hE0 y
  have ho:∀ y:Nat,y ≠ k→(z58 s out x)[y]?=out[y]?:=fun y hy=>by
   unfold z58
   split
   ·rw[List.getElem?_set]
    have:¬ x.toNat=y:=by omega
    simp[this]
   ·rfl
  refine⟨fun y hy=>?_,?_⟩
  ·simp only[zgx]
   have h1:(y:Int) ∉ r:=fun z=>hy (List.mem_cons_of_mem _ z)
   have h2:y ≠ k:=fun z=>hy (by rw[z,← ek];exact List.mem_cons_self ..)
   rw[ih.1 y h1,ho y h2]
  ·simp only[zgx,goW]
   have e1:atE (zgx r (DoB s (atE out x).Client (atE out x).op).2.1 (z58 s out x)).2 x=atE (z58 s out x) x:=by
    have:=ih.1 k (by rw[← ek];exact hn'.1)
    have ek':x.toNat=k:=by omega
    exact zqq (by rw[ek'];exact this)
   have e2:z0u s (atE (z58 s out x) x)=(true,(DoB s (atE out x).Client (atE out x).op).2.1):=by
    by_cases hE:0 < (atE out x).End
    ·have hk:x.toNat < out.length:=by
      rcases Nat.lt_or_ge x.toNat out.length with h | h
      ·exact h
      ·simp[atE,List.getElem?_eq_none h] at hE
     have e3:atE (z58 s out x) x={ atE out x with res:=(DoB s (atE out x).Client (atE out x).op).2.2 }:=by
      simp only[z58,if_pos hE]
      simp[atE,hk]
     rw[e3]
     have hb:z8c (atE out x).op.Kind (DoB s (atE out x).Client (atE out x).op).2.2.Code=false:=by
      cases h:z8c (atE out x).op.Kind (DoB s (atE out x).Client (atE out x).op).2.2.Code with
      | false=>rfl
      | true =>
       have:=zgp h
       have:=(zk3 s (atE out x).Client (atE out x).op).2
       omega
     simp[z0u,hb,zis]
    ·have e3:z58 s out x=out:=by simp only[z58,if_neg hE]
     rw[e3]
     by_cases z:(atE out x).End=0
     ·simp[z0u,z]
     ·have:=hE0 x;omega
   simp only[e1,e2,if_true]
   exact ih.2
theorem zqr {l:List Ev}{now:Int}(h:Tm l now):z12 z36 () (zgy l) 5 3=(0,(zgx (z0r l) (z0p 5 3) l).1,()):=by
 have hb:z0q 5 3=false:=by kernel_rfl
 have ht:=h.sk (zab l)
 unfold z12
 rw[hb,z33 (fun j hj=>ht.times j hj),zqo]
 simp only[Bool.false_eq_true,if_false]
 refine (zgz (z0r l) (z0p 5 3) l (zly l) (fun x hx=>?_) fun y=>?_).2
 ·obtain⟨i,_,e,_⟩:=za6 hx
  omega
 ·unfold atE
  cases hy:l[y.toNat]? with
  | none=>exact Int.le_refl _
  | some e =>
   have:=h.e _ e hy
   have:=h.b _ e hy
   simp only[Option.getD_some];omega
end Go.OT
namespace Go.OT
open Go.Proofs
@[simp] theorem yws (l:List Ev):List.take (l.length * 14) (l.flatMap (z02 false false))=l.flatMap (z02 false false):=List.take_of_length_le (by rw[z32];exact Nat.le_refl _)
theorem zei (l:List Cl)(wt:List Int):∀ i:Nat,MkK (z2x l wt i) i (10 * (i:Int))
 | 0=>zgw l wt
 | i+1=>zd8 (zei l wt i) (zkb l i) (wt.getD i 0) (c:=(zkb l i).Client.toNat) (by have:=zio l i;omega) rfl (zqe l i)
def z7c (l:List Cl)(wt:List Int):List Ev:=zgy (z2x l wt l.length).out
def zlz (l:List Cl)(wt:List Int):St:=(zgx (z0r (z2x l wt l.length).out) (z0p 5 3) (z2x l wt l.length).out).1
theorem zth (l:List Cl)(wt:List Int):(z7c l wt).length=l.length:=by
 unfold z7c;rw[zqp,(zei l wt l.length).n]
theorem zbv (l:List Cl)(wt:List Int):z12 z36 () (z7c l wt) 5 3=(0,zlz l wt,()):=zqr (zql l wt l.length).t
theorem zkg (l:List Cl)(wt:List Int):z5m (z7c l wt) 5 3=0:=by unfold z5m;rw[zbv]
theorem zej (l:List Cl)(wt:List Int):z50 (z7c l wt) 5 3=(zlz l wt,true):=by unfold z50;rw[zkg,zbv];simp
theorem zqs {l:List Cl}(wt:List Int):∀ e ∈ (z2x l wt l.length).out,e.op.Data.length≤1000:=fun e he=>by
 have:=(zei l wt l.length).d e he;omega
theorem ykj (l:List Cl)(wt:List Int):∀ e ∈ z7c l wt,e.op.Data.length≤1000:=fun e he=>by
 obtain⟨k,hk,rfl⟩:=List.mem_iff_getElem.1 he
 obtain⟨e',he',s⟩:=z8f (zab (z2x l wt l.length).out) (List.getElem?_eq_getElem hk)
 have h1:=(zr1 s).2.1
 have h2:=zqs wt e' (List.mem_iff_getElem?.2 ⟨k,he'⟩)
 rw[h1] at h2
 exact h2
theorem y1u (l:List Cl)(wt:List Int)(hl:l.length≤1000):EvOk (z7c l wt):=⟨by rw[zth];exact hl,ykj l wt⟩
theorem zti (l:List Cl)(wt:List Int):OkSt (zlz l wt):=by
 have:=zin (l:=z7c l wt) (p:=5) (c:=3) (by rw[zej])
 rw[zej] at this
 exact this
set_option maxHeartbeats 16000000 in
theorem y1v (l:List Cl)(hl:l.length≤50)(hD:∀ x ∈ l,x.op.Data.length≤1000)(wt:List Int):FnC Try.prog 41 [] [sCl l,sI false wt] [] (hEv (z7c l wt)):=by
 have hm:=y1r l hl hD wt
 have hr:=zlw (z2x l wt l.length).out (by rw[(zei l wt l.length).n];omega) (zqs wt)
 have eg:z7c l wt=zgy (z2x l wt l.length).out:=rfl
 rw[← eg] at hr
 refine FnC.go yz0 rfl ?_
 refine WL.sreg (by simp;rfl) (by simp;rfl) ?_
 refine WL.sregC (RL.o (by simp;rfl) (RL.call0 false hm (by simp) (by simp) (RL.freeze 700 ?_)))
 refine RL.call0 false hr (by simp) (by simp) (RL.o (by simp;rfl) (RL.nil ⟨_,by simp;rfl,WL.ret ⟨.inr rfl,?_⟩⟩))
 simp[yxm]
end Go.OT
namespace Go.OT
open Go.Proofs
theorem zqt (p:Nat)(hp:p < 48)(b:List UInt8)(hb:b.length=16):z3v p (z9s p b)=(b,0):=by
 have h1:isP (p:Int)=true:=by simp[isP];omega
 have hl:=za8 (p:Int) b
 have hd:(z9s (p:Int) b).drop 8=b:=by
  have e:z9s (p:Int) b=(z9r (ofF (z3z p b)) 4 ++ (z9r ((p:Int)+1) 2 ++ [90,165])) ++ b:=by simp[z9s,z3z]
  rw[e]
  exact List.drop_left' (by simp[z25])
 have hne:z9s (p:Int) b ≠ z24:=fun e=>by
  have e6:(z9s (p:Int) b)[6]?=some 90:=by
   have e:z9s (p:Int) b=(z9r (ofF (z3z p b)) 4 ++ z9r ((p:Int)+1) 2) ++ (90 :: 165 :: b):=by simp[z9s,z3z]
   rw[e,List.getElem?_append_right (by simp[z25])]
   simp[z25]
  rw[e] at e6
  revert e6;decide
 unfold z3v
 rw[if_pos ⟨h1,by rw[hl,hb]⟩,if_neg hne,hd,if_pos rfl]
theorem zm0 (p:Nat)(hp:p < 48):z3v p z24=([],11):=by
 have h1:isP (p:Int)=true:=by simp[isP];omega
 unfold z3v
 rw[if_pos ⟨h1,rfl⟩,if_pos rfl]
theorem zh0 (l:List Ev)(q:Int):∀ (o:List Int) (s:St) (a:Int),a≤(goW l (zep l q) s a o).2.2∧((goW l (zep l q) s a o).2.2=a∨∃ x ∈ o,(goW l (zep l q) s a o).2.2=(atE l x).Stamp)
 | [],s,a=>⟨Int.le_refl _,.inl rfl⟩
 | x :: r,s,a=>by
  simp only[goW]
  split
  ·have ih:=zh0 l q r (z0u s (atE l x)).2 (zep l q a x (z0u s (atE l x)).2)
   have h1:a≤zep l q a x (z0u s (atE l x)).2∧(zep l q a x (z0u s (atE l x)).2=a∨zep l q a x (z0u s (atE l x)).2=(atE l x).Stamp):=by
    unfold zep
    split
    ·omega
    ·exact⟨Int.le_refl _,.inl rfl⟩
   refine⟨by omega,?_⟩
   rcases ih.2 with h | ⟨y,hy,h⟩
   ·rw[h]
    rcases h1.2 with h | h
    ·exact .inl h
    ·exact .inr ⟨x,List.mem_cons_self ..,h⟩
   ·exact .inr ⟨y,List.mem_cons_of_mem _ hy,h⟩
  ·exact⟨Int.le_refl _,.inl rfl⟩
theorem z8g (l:List Ev)(fl:Int)(q:Nat):∀ (o:List Int) (s:St) (a:Pst),o ≠ []→(goW l (z6u l fl q) s a o).1=0→(∀ x ∈ o,0≤x)→(∀ x,o.getLast?=some x→fl≤(atE l x).Stamp)→z1z (goW l (z6u l fl q) s a o).2.1 q=true →
  (goW l (z6u l fl q) s a o).2.1.Body.getD q [] ∈ (goW l (z6u l fl q) s a o).2.2.1
 | [],s,a,h,_,_,_,_=>absurd rfl h
 | [x],s,a,_,hc,h0,hl,ht=>by
  simp only[goW] at hc ht ⊢
  split at hc
  ·rename_i hr
   rw[if_pos hr] at ht ⊢
   have:=hl x rfl
   simp only[z6u,ztc]
   rw[if_pos (by simp only[Bool.and_eq_true,decide_eq_true_eq];exact⟨this,ht⟩)]
   exact List.mem_append_right _ (List.mem_singleton.2 rfl)
  ·have:=h0 x (List.mem_cons_self ..)
   simp only at hc;omega
 | x :: y :: r,s,a,_,hc,h0,hl,ht=>by
  rw[goW] at hc ht ⊢
  split at hc
  ·rename_i hr
   rw[if_pos hr] at ht ⊢
   exact z8g l fl q (y :: r) _ _ (by simp) hc (fun z hz=>h0 z (List.mem_cons_of_mem _ hz)) (fun z hz=>hl z (by rw[List.getLast?_cons_cons];exact hz)) ht
  ·have:=h0 x (List.mem_cons_self ..)
   simp only at hc;omega
theorem zbw {l:List Ev}{x:Int}(h:x ∈ z0r l):(atE l x).Stamp=z6t l x∧0 < z6t l x:=by
 obtain⟨i,hi,rfl,hp⟩:=za6 h
 rw[z56 hi,z93 hi]
 refine⟨rfl,?_⟩
 have e:=z93 hi
 simp only[z6t,Int.toNat_natCast] at e
 rw[e] at hp;exact hp
theorem ztj {l:List Ev}{x y:Int}(hx:x ∈ z0r l)(hy:(z0r l).getLast?=some y):(atE l x).Stamp≤(atE l y).Stamp:=by
 have hs:=(z4b (z6t l) (z5j l l.length)).2
 have hym:y ∈ z0r l:=List.mem_of_getLast? hy
 rw[(zbw hx).1,(zbw hym).1]
 obtain⟨i,hi,rfl⟩:=List.mem_iff_getElem.1 hx
 have hl:=List.getLast?_eq_getElem? (l:=z0r l)
 rw[hy] at hl
 have hj:(z0r l).length - 1 < (z0r l).length:=by omega
 rw[List.getElem?_eq_getElem hj] at hl
 have ey:y=(z0r l)[(z0r l).length - 1]:=Option.some.inj hl
 by_cases e:i=(z0r l).length - 1
 ·subst e;rw[ey];exact Int.le_refl _
 ·have hlt:i < (z0r l).length - 1:=by omega
  have:lexLt (z6t l) ((z0r l)[i]) ((z0r l)[(z0r l).length - 1]):=List.pairwise_iff_getElem.1 hs i ((z0r l).length - 1) hi hj hlt
  rw[ey]
  unfold lexLt at this
  omega
theorem z9f {l:List Ev}{p c:Int}(q:Int)(h0:z5m l p c=0):0≤z13 l p c q∧∀ y,(z0r l).getLast?=some y→z13 l p c q≤(atE l y).Stamp:=by
 obtain⟨_,hw,_,_⟩:=z4v (zep l q) 0 h0
 have e:z13 l p c q=(goW l (zep l q) (z0p p c) 0 (z0r l)).2.2:=by unfold z13;rw[if_neg (by simpa using h0),hw]
 rw[e]
 have h:=zh0 l q (z0r l) (z0p p c) 0
 refine⟨h.1,fun y hy=>?_⟩
 have hym:y ∈ z0r l:=List.mem_of_getLast? hy
 rcases h.2 with h | ⟨x,hx,h⟩
 ·rw[h]
  have:=zbw hym
  omega
 ·rw[h];exact ztj hx hy
theorem zbx {l:List Ev}{p c:Int}(h0:z5m l p c=0)(im:List (List UInt8))(hl:(im.length:Int)=p):z2f l p c im=0 ↔ ∀ j,j < im.length→okP l p c j (im.getD j [])=true:=by
 have e:z2f l p c im=match z64 l p c im with | some q=>(q:Int)+1 | none=>0:=by
  unfold z2f;rw[if_neg (by simp[h0,hl])];cases z64 l p c im<;>rfl
 rw[e]
 cases hf:z64 l p c im with
 | none =>
  refine⟨fun _ j hj=>?_,fun _=>rfl⟩
  unfold z64 at hf
  rw[List.find?_eq_none] at hf
  simpa using hf j (List.mem_range.2 hj)
 | some q =>
  unfold z64 at hf
  rw[List.find?_range_eq_some] at hf
  refine⟨fun h=>by simp only at h;omega,fun h=>?_⟩
  have:=h q (List.mem_range.1 hf.2.1)
  rw[this] at hf
  simp at hf
theorem zby (l:List Ev)(p c:Int)(q:Nat)(hq:q < 48):okP l p c q z24=decide (z13 l p c q=0):=by
 unfold okP
 rw[zm0 q hq]
 simp
theorem ztk {l:List Ev}{p c:Int}(h0:z5m l p c=0)(q:Nat)(hq:(q:Int) < p)(ht:z1z (z50 l p c).1 q=true):okP l p c q (z9s q ((z50 l p c).1.Body.getD q []))=true:=by
 obtain⟨hnb,hw0,hg0,htm⟩:=z4v (z6u l (z13 l p c q) q) ([],false,false) h0
 have hp48:p≤48:=by
  have:=hnb
  simp only[z0q,Bool.or_eq_false_iff,decide_eq_false_iff_not] at this
  omega
 have en:z0p p c=⟨List.replicate p.toNat false,List.replicate p.toNat z16,List.replicate c.toNat [-1,-1,-1,-1,-1,-1]⟩:=by unfold z0p;rw[hnb];rfl
 have hfin:(z50 l p c).1=(goW l (z6u l (z13 l p c q) q) (z0p p c) ([],false,false) (z0r l)).2.1:=by
  have h1:=(z4v z36 () h0).2.1
  unfold z50
  rw[if_pos h0,h1]
  exact (za9 l z36 (z6u l (z13 l p c q) q) (z0r l) (z0p p c) () ([],false,false)).2
 have hSok:OkSt (z50 l p c).1:=zin (by unfold z50;rw[if_pos h0])
 have hlen:q < (z50 l p c).1.There.length:=by
  unfold z1z at ht
  rcases Nat.lt_or_ge q (z50 l p c).1.There.length with h | h
  ·exact h
  ·rw[List.getD_eq_getElem?_getD,List.getElem?_eq_none h] at ht;cases ht
 have hqb:q < (z50 l p c).1.Body.length:=by rw[hSok.bn];exact hlen
 have h16:((z50 l p c).1.Body.getD q []).length=16:=by
  rw[List.getD_eq_getElem?_getD,List.getElem?_eq_getElem hqb]
  exact hSok.b16 _ (List.getElem_mem hqb)
 have hne:z0r l ≠ []:=fun e=>by
  rw[hfin,e] at ht
  simp only[goW,en,z1z,List.getD_eq_getElem?_getD,List.getElem?_replicate] at ht
  split at ht<;>cases ht
 have hmem:=z8g l (z13 l p c q) q (z0r l) (z0p p c) ([],false,false) hne hg0 (fun x hx=>by obtain ⟨i,_,rfl,_⟩:=za6 hx;omega) (fun x hx=>(z9f q h0).2 x hx) (by rw[← hfin];exact ht)
 rw[← hfin] at hmem
 unfold okP
 rw[zqt q (by omega) _ h16]
 have hps:(z96 l p c (z13 l p c q) q).1=(goW l (z6u l (z13 l p c q) q) (z0p p c) ([],false,false) (z0r l)).2.2.1:=by unfold z96;rw[hw0]
 rw[hps]
 have:zq6 (goW l (z6u l (z13 l p c q) q) (z0p p c) ([],false,false) (z0r l)).2.2.1 ((z50 l p c).1.Body.getD q [])=true:=by
  unfold zq6
  have:((goW l (z6u l (z13 l p c q) q) (z0p p c) ([],false,false) (z0r l)).2.2.1).any (· == (z50 l p c).1.Body.getD q [])=true:=List.any_eq_true.2 ⟨_,hmem,by simp⟩
  rw[this];rfl
 rw[this]
 simp
end Go.OT
namespace Go.OT
open Go.Proofs
def zr2 (S:St)(p:Nat):List UInt8:=if z1z S p=true then z9s p (S.Body.getD p []) else z24
def zh1 (S:St)(i:Nat):List (List UInt8):=(List.range i).map (zr2 S)
theorem zqu (S:St)(i:Nat):zh1 S (i+1)=zh1 S i ++ [zr2 S i]:=by simp[zh1,List.range_succ]
theorem zac (S:St)(i:Nat):(zh1 S i).length=i:=by simp[zh1]
theorem zqv (i:Nat):List.replicate (i+1) z24=List.replicate i z24 ++ [z24]:=List.replicate_succ'
def z8h (h:List Ev)(i:Nat):Bool:=(List.range i).any fun p=>decide (0 < z13 h 5 3 p)
theorem zm1 (h:List Ev)(i:Nat):z8h h (i+1)=(z8h h i || decide (0 < z13 h 5 3 i)):=by simp[z8h,List.range_succ]
abbrev wlQ:Ex→SL→Prop:=fun e L=>e=Ex.ret∧RetOk zeo.rs [] (bl true) L
abbrev wlS (l:List Cl)(wt:List Int)(i:Nat):SL:=[(0,0,sCl l),(100,0,sI false wt),(500,0,i64 i)]
abbrev wlT (h:List Ev)(S:St)(nw bk:List (List UInt8))(fl:Bool)(i:Nat)(r:SL):SL:=[(600,0,sEv h)] ++ (rcB 7 S ++ ([(900,0,sUU true nw),(1000,0,sUU true bk),(1100,0,bl fl),(1200,0,i64 i)] ++ r))
theorem ztl {h:List Ev}(h0:z5m h 5 3=0)(hno:∀ p:Nat,p < 5→¬ (z1z (z50 h 5 3).1 p=false∧0 < z13 h 5 3 p)) :
  z2f h 5 3 (zh1 (z50 h 5 3).1 5)=0∧(decide (z2f h 5 3 (List.replicate 5 z24)=0)=!z8h h 5):=by
 have hg:∀ j:Nat,j < 5→(zh1 (z50 h 5 3).1 5).getD j []=zr2 (z50 h 5 3).1 j:=fun j hj=>by
  rw[zh1,List.getD_eq_getElem?_getD,List.getElem?_map,List.getElem?_range hj];rfl
 have hr:∀ j:Nat,j < 5→(List.replicate 5 z24).getD j []=z24:=fun j hj=>by
  rw[List.getD_eq_getElem?_getD,List.getElem?_replicate,if_pos hj];rfl
 have hf0:∀ j:Nat,0≤z13 h 5 3 j:=fun j=>(z9f (j:Int) h0).1
 refine⟨(zbx h0 _ (by rw[zac];rfl)).2 fun j hj=>?_,?_⟩
 ·rw[zac] at hj
  rw[hg j hj]
  unfold zr2
  cases ht:z1z (z50 h 5 3).1 j with
  | true=>rw [if_pos rfl];exact ztk h0 j (by omega) ht
  | false =>
   rw[if_neg (by simp),zby h 5 3 j (by omega)]
   have:=hno j hj
   have h1:=hf0 j
   have:¬ 0 < z13 h 5 3 j:=fun z=>this ⟨ht,z⟩
   simp;omega
 ·have hz:=zbx h0 (List.replicate 5 z24) (by rfl)
  rw[Bool.eq_iff_iff,decide_eq_true_eq,hz,Bool.not_eq_true',z8h,List.any_eq_false]
  refine⟨fun hh p hp=>?_,fun hh j hj=>?_⟩
  ·have hp5:=List.mem_range.1 hp
   have:=hh p (by simpa using hp5)
   rw[hr p hp5,zby h 5 3 p (by omega)] at this
   simp at this
   simp[this]
  ·have hj5:j < 5:=by simpa using hj
   rw[hr j hj5,zby h 5 3 j (by omega)]
   have:=hh j (List.mem_range.2 hj5)
   have h1:=hf0 j
   simp at this ⊢
   omega
set_option maxHeartbeats 32000000 in
theorem ykk (h:List Ev)(hE:EvOk h)(S:St)(nw bk:List (List UInt8))(fl:Bool)(h1:z2f h 5 3 nw=0)(h2:decide (z2f h 5 3 bk=0)=!fl)(hn:nw.length≤100∧∀ b ∈ nw,b.length≤100)(hb:bk.length≤100∧∀ b ∈ bk,b.length≤100)(i:Nat)(x:Bool) :
  WL Try.prog zeo.nt zk0 (wlT h S nw bk fl i [(4600,0,bl x)]) wlQ:=by
 have c1:=z34 h hE 5 3 nw (by omega) (fun b hb'=>by have:=hn.2 b hb';omega)
 have c2:=z34 h hE 5 3 bk (by omega) (fun b hb'=>by have:=hb.2 b hb';omega)
 rw[h1] at c1
 generalize z2f h 5 3 bk=v at c2 h2
 have hv:(v == 0)=!fl:=by rw[← h2];rfl
 refine WL.freeze 900 (WL.freeze 1000 ?_)
 have t1:List.take nw.length (nw.map (sU true:List UInt8→AU))=nw.map (sU true):=List.take_of_length_le (by simp)
 refine WL.sregC (RL.call0 false z4w (by simp) (by simp) (RL.o (by simp;rfl) (RL.g (by simp;rfl) ?_)))
 refine RL.callY0 false (by simp) c1 (by simp) (by simp) (RL.g (by simp;rfl) (RL.o (by simp;rfl) (RL.g (by simp;rfl) ?_)))
 refine RL.callY0 false (by simp) c2 (by simp) (by simp) (RL.g (by simp[hv];rfl) (RL.o (by simp[hv];rfl) (RL.nil ⟨_,by simp;rfl,WL.ret ⟨rfl,?_⟩⟩)))
 simp[zeo,hv]
abbrev wlN (h:List Ev)(S:St)(nl rl:List (List UInt8))(g:Bool)(i:Nat):SL→Prop:=fun L'=>i < 5∧L'=wlT h S nl rl g (i+1) []∧∀ p:Nat,p < i+1→¬ (z1z S p=false∧0 < z13 h 5 3 p)
abbrev wlK (h:List Ev)(S:St)(nl rl:List (List UInt8))(g:Bool)(i:Nat):Ex→SL→Prop:=Ex.blkL 3 (Ex.thenL (fun L'=>WL Try.prog zeo.nt zuw L' (Ex.thenL (wlN h S nl rl g i) (Ex.blkL 2 (Ex.thenL (fun L'=>WL Try.prog zeo.nt zk0 L' wlQ) wlQ)))) (Ex.thenL (wlN h S nl rl g i) (Ex.blkL 2 (Ex.thenL (fun L'=>WL Try.prog zeo.nt zk0 L' wlQ) wlQ))))
set_option maxHeartbeats 32000000 in
theorem y1w (h:List Ev)(hE:EvOk h)(h0:z5m h 5 3=0)(S:St)(hS:OkSt S)(eS:S=(z50 h 5 3).1)(h5:S.There.length=5):WL Try.prog zeo.nt zux ([(600,0,sEv h)] ++ (rcB 7 S ++ [(900,0,.sl true () 1 0 []),(1000,0,.sl true () 1 0 []),(1100,0,bl false)])) wlQ:=by
 refine WL.seq (WL.sreg (by simp;rfl) (by simp;rfl) ?_)
 refine WL.block (WL.count 5 (fun i=>wlT h S (zh1 S i) (List.replicate i z24) (z8h h i) i []) (fun i=>∀ p:Nat,p < i→¬ (z1z S p=false∧0 < z13 h 5 3 p)) (by simp[zh1,z8h]) (fun p hp=>absurd hp (Nat.not_lt_zero _)) fun i hi hno=>?_)
 by_cases hlt:i < 5
 ·have h':(i:Int) < 5:=by omega
  have w:IntKind.wrap .i64 ((i:Int)+1)=((i+1:Nat):Int):=by rw[z01 (by omega) (by omega)];omega
  have hb5:S.Body.length=5:=by rw[hS.bn];exact h5
  have hbl:i < S.Body.length:=by omega
  have hbl':i+1≤S.Body.length:=hbl
  have htl:i < S.There.length:=by omega
  have htl':i+1≤S.There.length:=htl
  have h16:S.Body[i].length=16:=hS.b16 _ (List.getElem_mem hbl)
  have hsl:=zlj i S.Body[i] (by omega)
  have eS2:z4e i S.Body[i]=(z9s i S.Body[i],0):=by
   have:isP (i:Int)=true:=by simp[isP];omega
   simp[z4e,this,h16]
  rw[eS2] at hsl
  have hfl:=zaa h hE 5 3 i
  obtain⟨th,hth⟩:∃ th,S.There[i]=th:=⟨_,rfl⟩
  have eth:z1z S i=th:=by simp[z1z,htl,hth]
  have en:zr2 S i=if th=true then z9s i S.Body[i] else z24:=by unfold zr2;rw[eth];simp[hbl]
  refine WL.seq (WL.sreg (by simp[h'];rfl) (by simp;rfl) ?_)
  refine WL.cond (t:=true) (by simp[h']) (fun _=>WL.skip ?_) (by simp)
  refine WL.seq (WL.block (WL.sregC (RL.o (by simp[hbl,hbl'];rfl) (RL.call0 false hsl (by simp) (by simp) (RL.o (by simp;rfl) (RL.nil ⟨_,by simp;rfl,?_⟩))))))
  have rest:∀ r L,(r=[]∨r=[(6400,0,bl false)])→L=wlT h S (zh1 S i) (List.replicate i z24) (z8h h i) i ((1300,0,str (zr2 S i)) :: r)→WL Try.prog zeo.nt zuu L (wlK h S (zh1 S (i+1)) (List.replicate (i+1) z24) (z8h h (i+1)) i):=fun r L hr hL=>by
   subst hL
   have hf1:=zm1 h i
   have hnl:=zqu S i
   have hrl:=zqv i
   have hll:=zac S i
   have hlr:(List.replicate i z24).length=i:=by simp
   have hlp:(zr2 S i).length=24:=by rw[en];split<;>simp [za8,h16]
   have hno':¬ (th=false∧0 < z13 h 5 3 i)→∀ p:Nat,p < i+1→¬ (z1z S p=false∧0 < z13 h 5 3 p):=fun hh p hp=>by
    by_cases e:p=i
    ·subst e;rw[eth];exact hh
    ·exact hno p (by omega)
   generalize z13 h 5 3 i=f at hfl hf1 hno'
   generalize zr2 S i=np at hnl hlp ⊢
   generalize zh1 S (i+1)=nl1 at hnl ⊢
   generalize zh1 S i=nl at hnl hll ⊢
   generalize List.replicate (i+1) z24=rl1 at hrl ⊢
   generalize List.replicate i z24=rl at hrl hlr ⊢
   generalize z8h h (i+1)=g1 at hf1 ⊢
   generalize z8h h i=g at hf1 ⊢
   subst hnl hrl hf1
   have tail:∀ L,L=wlT h S nl rl g i [(1300,0,str np),(1500,0,i64 f),(7800,0,bl false)]→¬ (th=false∧0 < f)→WL Try.prog zeo.nt zus L (wlK h S (nl ++ [np]) (rl ++ [z24]) (g || decide (0 < f)) i):=fun L hL hh=>by
    subst hL
    have app:∀ g',g'=(g || decide (0 < f))→∀ L,L=wlT h S nl rl g' i [(1300,0,str np)]→WL Try.prog zeo.nt zur L (wlK h S (nl ++ [np]) (rl ++ [z24]) (g || decide (0 < f)) i):=fun g' hg L hL=>by
     subst hL hg
     have m1:(i+1) * 24≤140737488355328:=by omega
     have m2:i+1≤maxLen:=by unfold maxLen;omega
     refine WL.reg (RL.o (by simp[hll,hlr,m1,m2,zi8,z2h];rfl) (RL.call0 false zed (by simp) (by simp) (RL.o (by simp[hll,hlr,m1,m2];rfl) (RL.nil ⟨_,by simp;rfl,?_⟩))))
     refine WL.reg (RL.run (by simp[w];rfl) ⟨_,by simp;rfl,hlt,?_,hno' hh⟩)
     have t1:∀ (k:List (List UInt8)) (x:AU),k.length=i→List.take (i+1) (List.take i (List.map (sU true) k) ++ [x])=List.map (sU true) k ++ [x]:=fun k x hk=>by
      rw[List.take_of_length_le (l:=List.map _ k) (by simp[hk]),List.take_of_length_le (by simp[hk])]
     rw[t1 nl _ hll,t1 rl _ hlr]
     simp[hll,hlr]
    cases g with
    | true=>exact WL.sreg (by simp;rfl) (by simp;rfl) (app true (by simp) _ (by simp))
    | false=>exact WL.sreg (by simp;rfl) (by simp;rfl) (app (decide (0 < f)) (by simp) _ (by simp))
   have told:∀ L,L=wlT h S nl rl g i [(1300,0,str np),(1500,0,i64 f),(7800,0,bl true)]→∀ Q,(∀ L',wlQ Ex.ret L'→Q Ex.ret L')→WL Try.prog zeo.nt zuq L Q:=fun L hL Q hQ=>by
    subst hL
    refine WL.cond (t:=true) (by simp) (fun _=>?_) (by simp)
    refine WL.sregC (RL.call0 false z4w (by simp) (by simp) (RL.o (by simp;rfl) (RL.nil ⟨_,by simp;rfl,WL.ret (hQ _ ⟨rfl,?_⟩)⟩)))
    simp[zeo]
   have go:∀ L,L=wlT h S nl rl g i [(1300,0,str np),(1500,0,i64 f)]→WL Try.prog zeo.nt zut L (wlK h S (nl ++ [np]) (rl ++ [z24]) (g || decide (0 < f)) i):=fun L hL=>by
    subst hL
    cases th with
    | true =>
     refine WL.seq (WL.sreg (by simp[htl,htl',hth];rfl) (by simp;rfl) ?_)
     refine WL.cond (t:=false) (by simp) (by simp) fun _=>WL.skip (tail _ (by simp) (by simp))
    | false =>
     by_cases hf:0 < f
     ·refine WL.seq (WL.sreg (by simp[htl,htl',hth,hf];rfl) (by simp;rfl) ?_)
      exact told _ (by simp) _ fun L' h=>h
     ·refine WL.seq (WL.sreg (by simp[htl,htl',hth,hf];rfl) (by simp;rfl) ?_)
      refine WL.cond (t:=false) (by simp) (by simp) fun _=>WL.skip (tail _ (by simp) (by simp[hf]))
   rcases hr with rfl | rfl
   ·exact WL.sregC (RL.o (by simp;rfl) (RL.call0 false hfl (by simp) (by simp) (RL.o (by simp;rfl) (RL.nil ⟨_,by simp;rfl,go _ (by simp)⟩))))
   ·exact WL.sregC (RL.o (by simp;rfl) (RL.call0 false hfl (by simp) (by simp) (RL.o (by simp;rfl) (RL.nil ⟨_,by simp;rfl,go _ (by simp)⟩))))
  have hz:WL Try.prog zeo.nt zuv (wlT h S (zh1 S i) (List.replicate i z24) (z8h h i) i [(1300,0,str (z9s i S.Body[i]))]) (wlK h S (zh1 S (i+1)) (List.replicate (i+1) z24) (z8h h (i+1)) i):=by
   cases th with
   | true =>
    refine WL.seq (WL.sreg (by simp[htl,htl',hth];rfl) (by simp;rfl) ?_)
    refine WL.cond (t:=false) (by simp) (by simp) fun _=>WL.skip ?_
    exact rest [(6400,0,bl false)] _ (.inr rfl) (by rw[en];simp)
   | false =>
    refine WL.seq (WL.sreg (by simp[htl,htl',hth];rfl) (by simp;rfl) ?_)
    refine WL.cond (t:=true) (by simp) (fun _=>?_) (by simp)
    refine WL.reg (RL.call0 false zic (by simp) (by simp) (RL.o (by simp;rfl) (RL.nil ⟨_,by simp;rfl,?_⟩)))
    exact rest [] _ (.inl rfl) (by rw[en];simp)
  exact WL.eqL (by simp) hz
 ·obtain rfl:i=5:=by omega
  refine WL.seq (WL.sreg (by simp;rfl) (by simp;rfl) ?_)
  refine WL.cond (t:=false) (by simp) (by simp) fun _=>WL.exit ?_
  have hp:=ztl h0 (fun p hp=>by rw[← eS];exact hno p hp)
  rw[← eS] at hp
  refine WL.eqL (by simp) (ykk h hE S (zh1 S 5) (List.replicate 5 z24) (z8h h 5) hp.1 hp.2 ⟨by rw[zac];decide,fun b hb=>?_⟩ ⟨by simp,fun b hb=>by rw[(List.mem_replicate.1 hb).2];decide⟩ 5 false)
  obtain⟨p,hp5,rfl⟩:=List.mem_map.1 hb
  have hp5:=List.mem_range.1 hp5
  unfold zr2
  split
  ·rw[za8]
   have hpb:p < S.Body.length:=by rw[hS.bn];omega
   have:(S.Body.getD p []).length=16:=by
    rw[List.getD_eq_getElem?_getD,List.getElem?_eq_getElem hpb]
    exact hS.b16 _ (List.getElem_mem hpb)
   omega
  ·decide
end Go.OT
namespace Go.OT
open Go.Proofs
set_option maxHeartbeats 32000000 in
theorem ykl (l:List Cl)(hl:l.length≤40)(hD:∀ x ∈ l,x.op.Data.length≤1000)(wt:List Int)(i:Nat):WL Try.prog zeo.nt zuy (wlS l wt i ++ [(2300,0,bl false)]) wlQ:=by
 have hg:=y1v l (by omega) hD wt
 have hE:=y1u l wt (by omega)
 have h0:=zkg l wt
 have hf:=zej l wt
 have hrf:=zq3 (z7c l wt) hE 5 3
 have hok:=zti l wt
 have h5:(zlz l wt).There.length=5:=by
  have h1:=(z4v z36 () h0).2.1
  have h2:=zbv l wt
  rw[h1] at h2
  have h3:∀ (o:List Int) (s:St),(goW (z7c l wt) z36 s () o).2.1.There.length=s.There.length:=by
   intro o
   induction o with
   | nil=>intro s;rfl
   | cons x r ih =>
    intro s
    simp only[goW]
    split
    ·rw[ih,z6j]
    ·rfl
  have h4:=h3 (z0r (z7c l wt)) (z0p 5 3)
  rw[h2] at h4
  exact h4
 rw[hf] at hrf
 have eS:zlz l wt=(z50 (z7c l wt) 5 3).1:=by rw[hf]
 simp only at hrf
 generalize zlz l wt=S at *
 generalize z7c l wt=h at *
 refine WL.sregC (RL.o (by simp;rfl) (RL.call0 false hg (by simp) (by simp) (RL.o (by simp;rfl) (RL.nil ⟨_,by simp;rfl,?_⟩))))
 refine WL.freeze 600 ?_
 refine WL.sregC (RL.o (by simp;rfl) (RL.call0 false hrf (by simp) (by simp) (RL.mv (by decide) (RL.o (by simp;rfl) (RL.nil ⟨_,by simp;rfl,?_⟩)))))
 refine WL.seq (WL.sreg (by simp;rfl) (by simp;rfl) ?_)
 refine WL.cond (t:=false) (by simp) (by simp) fun _=>WL.skip ?_
 refine WL.sreg (by simp;rfl) (by simp;rfl) ?_
 refine WL.sreg (by simp;rfl) (by simp;rfl) ?_
 exact WL.eqL (by simp) (y1w h hE h0 S hok eS h5)
set_option maxHeartbeats 32000000 in
theorem zek (l:List Cl)(hl:l.length≤9223372036854775807)(wt:List Int)(hw:wt.length≤9223372036854775807):FnC Try.prog 19 [] [sCl l,sI false wt] [] (bl true):=by
 refine FnC.go yzd rfl ?_
 refine WL.mono (Q':=wlQ) ?_ fun e L h=>⟨.inr h.1,h.2⟩
 refine WL.sreg (by simp;rfl) (by simp;rfl) ?_
 by_cases h40:l.length≤40
 ·have q:¬ (40:Int) < l.length:=by omega
  refine WL.seq (WL.sreg (by simp[q];rfl) (by simp;rfl) ?_)
  refine WL.cond (t:=false) (by simp[q]) (by simp) fun _=>WL.skip ?_
  refine WL.seq (WL.sreg (by simp;rfl) (by simp;rfl) ?_)
  refine WL.block (WL.count l.length (fun i=>wlS l wt i) (fun i=>∀ x ∈ l.take i,x.op.Data.length≤40) (by simp) (by simp) fun i hi hp=>?_)
  by_cases h:i < l.length
  ·have w:IntKind.wrap .i64 ((i:Int)+1)=((i+1:Nat):Int):=by rw[z01 (by omega) (by omega)];omega
   have f1:=zph h
   have g1:7≤l.length * 7 - i * 7:=by omega
   refine WL.seq (WL.sreg (by simp[h];rfl) (by simp;rfl) ?_)
   refine WL.cond (t:=true) (by simp[h]) (fun _=>WL.skip ?_) (by simp)
   refine WL.seq (WL.block ?_)
   by_cases z:40 < l[i].op.Data.length
   ·have z':(40:Int) < l[i].op.Data.length:=by omega
    refine WL.sreg (by simp[h,f1,g1,z,z'];rfl) (by simp;rfl) ?_
    refine WL.cond (t:=true) (by simp[z,z']) (fun _=>?_) (by simp)
    refine WL.sregC (RL.call0 false z4w (by simp) (by simp) (RL.o (by simp;rfl) (RL.nil ⟨_,by simp;rfl,WL.ret ⟨rfl,?_⟩⟩)))
    simp[zeo]
   ·have z':¬ (40:Int) < l[i].op.Data.length:=by omega
    refine WL.sreg (by simp[h,f1,g1,z,z'];rfl) (by simp;rfl) ?_
    refine WL.cond (t:=false) (by simp[z,z']) (by simp) fun _=>WL.skip ?_
    refine WL.reg (RL.run (by simp[w];rfl) ⟨_,by simp;rfl,h,by simp,fun x hx=>?_⟩)
    rw[List.take_succ_eq_append_getElem h] at hx
    rcases List.mem_append.1 hx with hx | hx
    ·exact hp x hx
    ·rw[List.mem_singleton.1 hx];omega
  ·obtain rfl:i=l.length:=by omega
   refine WL.seq (WL.sreg (by simp;rfl) (by simp;rfl) ?_)
   refine WL.cond (t:=false) (by simp) (by simp) fun _=>WL.exit ?_
   rw[List.take_length] at hp
   exact WL.eqL (by simp) (ykl l h40 (fun x hx=>by have:=hp x hx;omega) wt l.length)
 ·have q:(40:Int) < l.length:=by omega
  refine WL.seq (WL.sreg (by simp[q];rfl) (by simp;rfl) ?_)
  refine WL.cond (t:=true) (by simp[q]) (fun _=>?_) (by simp)
  refine WL.sregC (RL.call0 false z4w (by simp) (by simp) (RL.o (by simp;rfl) (RL.nil ⟨_,by simp;rfl,WL.ret ⟨rfl,?_⟩⟩)))
  simp[zeo]
end Go.OT
namespace Go.Proofs.Ytlcemfnjhdcmoaa
open Go.ChangeShapes Go.WideShapes Go.ChangeAt Go.RowKit Go.Joins Go.OT
theorem zel:ownKnob Try.prog.godebug=none:=by kernel_rfl
theorem zc9:laidOutB Try.prog=true:=by kernel_rfl
theorem zca:((Try.f19.params.toList).all fun t=>Try.prog.readableRec t && decide (t < Try.prog.types.size))=true:=by kernel_rfl
set_option maxRecDepth 100000 in
theorem wreckLast_lifted (os:Os)(started:os.Started)(H:Type)(enc:TypeId × Value→H) :
  ReturnsInHanded {} Try.checked os 19 .any (Rows.wreckLastSpec.pre6 enc Try.prog Try.f19 Rows.wreckLastRow.domain false) (Rows.wreckLastSpec.post enc Try.prog Try.f19 false true false false):=by
 refine returnsInHanded_of_change (C:=Try.checked) zel started (by kernel_rfl) Try.func19
  (ChangeSpec.witness6 (enc:=enc) (C:=Try.checked) false ⟨#[],#[.slice none 0 0,.slice none 0 0],[]⟩ 8 (by kernel_rfl) (by kernel_rfl) (by kernel_rfl) (by kernel_rfl)) ?_
 intro W base args ds gs before hval0 hW hcnd _
 have hval:∀ (j:Nat) t v,Try.f19.params[j]?=some t→args[j]?=some v→Value.okWide Try.prog W .any base t v:=hval0
 have hW':=hW
 obtain⟨p,q,hA0,hV,rfl,hfz,hnd⟩:=hW
 have hA:DataW.TrodAll enc Try.prog W 0 (fun _=>true) true Try.f19.params.toList args.toList ds p:=hA0
 have hB:=hA
 rw[Try.params19] at hA hval
 obtain⟨v0,vs0,d0,ds0,p0,q0,hargs,rfl,rfl,h0,r0⟩:=trodAll_cons hA
 obtain⟨v1,vs1,d1,ds1,p1,q1,rfl,rfl,rfl,h1,r1⟩:=trodAll_cons r0
 obtain⟨rfl,rfl,rfl⟩:=trodAll_nil r1
 obtain rfl:args=#[v0,v1]:=by cases args;simp_all
 obtain⟨rfl,rfl⟩:=trodVars_none hV
 obtain⟨a0,l0,e0,k0,rr0,mm0,no0,ro0⟩:=yyp H enc W .any base v0 d0 p0 (hval 0 _ v0 rfl rfl) h0
 obtain⟨a1,l1,e1,k1,rr1,mm1,no1,ro1⟩:=yzc H enc W .any base v1 d1 p1 (hval 1 _ v1 rfl rfl) h1
 have hwalk:Calls Try.prog 19 #[v0,v1] W fun e w'=>e=.returned (.bool true)∧Below W.heap.size W w':=by
  refine Fn.law ((fun (l:List Cl) (wt:List Int) (h:l.length≤9223372036854775807∧∀ c ∈ l,c.op.Data.length≤9223372036854775807) (h2:wt.length≤9223372036854775807)=>zek l h.1 wt h2) a0 a1 k0 k1).1 (Wc W) [l0,l1] (fun _ _ h=>ymp h) rfl (by simp) (by simp only[List.map_cons,List.map_nil,e0,e1]) fun t la h=>?_
  match t,h with
  | 0,h=>simp at h;subst h;exact⟨rr0,mm0,no0,ro0⟩
  | 1,h=>simp at h;subst h;exact⟨rr1,mm1,no1,ro1⟩
  | t+2,h=>simp at h
 clear hA0 hval0
 refine hwalk.mono fun e W' ⟨he,bel⟩=>?_
 subst he
 exact⟨_,rfl,_,_,_,[],_,[],hW',trodAll_mk1 (shut_bool Try.underlying4 _),zfj zc9 bel zca hB,rfl,bel.frame _,fun h=>by cases h⟩
end Go.Proofs.Ytlcemfnjhdcmoaa
