/- Part 10 of the proof: see its last file. -/
import Derived.Orders
import Derived.Below
import Derived.Laws.Entries
import Derived.Laws.Cells
import Derived.Laws.IdiomCopy
import Derived.Scope
import Derived.Calls
import Derived.Laws.Tables
import Derived.Laws.MakeOwn
import Derived.Laws.BytesString
import Derived.ArgAppend
import Derived.WalkSpells
import Derived.Lib.SlBytesConst
import Derived.Lib.ConvBytes
import Derived.WalkKit
import Derived.ProofKit
import Derived.OpenShut
import Derived.ShutString
import Derived.ChangeOld
import Derived.Lib.SmallJoins
import Derived.Test.YtlcemfnjhdcmoaaProg
import Derived.KernelRfl
import Derived.IntWalk
import Derived.Lib.Strings
import Derived.Test.YtlcemfnjhdcmoaaHd09
set_option linter.unusedSimpArgs false
set_option linter.unusedVariables false
namespace Go.OT
open Go.Proofs
inductive Sh | nil | one | two
@[simp] def Sh.fv:Sh→Nat→List AU→AU
 | .nil,_,_=>.sc .nilFunc
 | _,f,cps=>.clos f cps
@[simp] def Sh.gh:Sh→List AU→List AU→SL
 | .nil,_,_=>[]
 | .one,b,_=>[(1000000,0,.bx true () b)]
 | .two,b,d=>[(1000000,0,.bx true () b),(1000100,0,.bx true () d)]
@[simp] def Sh.gs:Sh→List AU→List AU→List (Gh Unit)
 | .nil,_,_=>[]
 | .one,b,_=>[.nod (.bx true () b)]
 | .two,b,d=>[.nod (.bx true () b),.nod (.bx true () d)]
@[simp] def Sh.ks:Sh→List (Nat × List Nat)
 | .nil=>[]
 | .one=>[(1000000,[])]
 | .two=>[(1000000,[]),(1000100,[])]
theorem May_new (p c:Int):May (newSt p c)=!newBad p c:=by
 cases h:newBad p c with
 | false=>exact (May_iff _).2 (newSt_ok' h)
 | true=>unfold newSt;rw[h];rfl
theorem times_end {l:List Ev}{u:Nat}{c:Int}(hu:u < l.length)(h:timesF l u c=true):0≤l[u].End:=by
 rw[timesF_at hu] at h
 simp only[timesE,tmBad,Bool.and_eq_true,Bool.not_eq_true',Bool.or_eq_false_iff,decide_eq_false_iff_not] at h
 omega
structure SeeOk {σ:Type} (l:List Ev) (sh:Sh) (f:Nat) (cps:List AU) (B D:σ→List AU) (see:σ→Int→St→σ) (Inv:σ→St→Prop):Prop where
 no:noOwnL cps=true
 root:rootRL (sh.ks.map (·.1)) cps=true
 roots:rootsL cps=sh.ks.map (·.1)
 len:cps.length≤1000
 tr:∀ (X:XF Unit) (k:Nat),(∀ e ∈ sh.ks,(X e.1).1=0∧∃ b,(X e.1).2=.bx true () b)→trL X sh.ks false k cps=some cps
 inv:∀ a s (u:Nat) (hu:u < l.length),OkSt s→Inv a s→(stepR s l[u]).1=true→Inv (see a u (stepR s l[u]).2) (stepR s l[u]).2
 fn:sh ≠ .nil→∀ a s (u:Nat) (hu:u < l.length),OkSt s→Inv a s→(stepR s l[u]).1=true →
  FnC Try.prog f (sh.gs (B a) (D a)) ([i64 u,encS false (stepR s l[u]).2] ++ cps) (sh.gs (B (see a u (stepR s l[u]).2)) (D (see a u (stepR s l[u]).2))) (.tuple [])
abbrev rcF (b:Nat)(s:St):SL:=[(100 * b,0,.bptr b 1 0),(100 * b+1,0,sB false s.There),(100 * b+2,0,sUU false s.Body),(100 * b+3,0,sII false s.Handles),(100 * b+99,1,.non)]
abbrev wkS (l:List Ev)(c:Int)(fv:AU)(s:St)(r:SL):SL:=[(0,0,sEv l),(200,0,i64 c),(300,0,fv)] ++ (rcF 9 s ++ r)
abbrev wkT (l:List Ev)(fv:AU)(s:St)(j:Nat)(r:SL):SL:=[(0,0,sEv l),(300,0,fv)] ++ (rcF 9 s ++ ([(3600,0,sI true (ordF l)),(3700,0,i64 (ordF l).length),(3800,0,i64 j)] ++ r))
abbrev wkQ (gs:List (Gh Unit))(v:Int):Ex→SL→Prop:=fun e L=>e=Ex.ret∧RetOk fi88.rs gs (i64 v) L
section
variable {σ:Type} {l:List Ev} {sh:Sh} {f:Nat} {cps:List AU} {B D:σ→List AU} {see:σ→Int→St→σ} {Inv:σ→St→Prop}
theorem walk_see (hS:SeeOk l sh f cps B D see Inv)(s:St)(h:OkSt s)(a:σ)(hi:Inv a s)(u:Nat)(hu:u < l.length)(hr:(stepR s l[u]).1=true)(j:Nat)(K:SL→Prop)
  (hK:K (wkT l (sh.fv f cps) (stepR s l[u]).2 j (sh.gh (B (see a u (stepR s l[u]).2)) (D (see a u (stepR s l[u]).2))))) :
  WL Try.prog fi88.nt c88_17 ([(0,0,sEv l),(300,0,sh.fv f cps)] ++ (rcF 9 (stepR s l[u]).2 ++ ([(1200,0,i64 u),(3600,0,sI true (ordF l)),(3700,0,i64 (ordF l).length),(3800,0,i64 j)] ++ sh.gh (B a) (D a)))) (fun e L=>(e=.nrm∨e=.ext 3)∧K L):=by
 have e1:=hS.no
 have e2:=hS.root
 have e3:=hS.tr
 have e4:=hS.len
 have e5:=hS.roots
 have hf:=fun h'=>hS.fn h' a s u hu h hi hr
 generalize (stepR s l[u]).2=t at *
 cases sh with
 | nil =>
  refine WL.seq (WL.sreg (by simp;rfl) (by simp;rfl) ?_)
  refine WL.cond (t:=true) (by simp) (fun _=>?_) (by simp)
  refine WL.fin [12,87] (by simp;rfl) (WL.exit ⟨.inr rfl,?_⟩)
  simpa using hK
 | one =>
  have hf:=hf (by simp)
  simp at e2 e3 e5 hf
  refine WL.seq (WL.sreg (by simp[e1];rfl) (by simp[e5];rfl) ?_)
  refine WL.cond (t:=false) (by simp) (by simp) fun _=>WL.skip ?_
  refine WL.reg (RL.o (by simp[e1];rfl) (RL.cloK (f:=f) (cps:=cps) false [(1000000,[])] (by simp) hf (by simp) (by simp) ?_ (by simp;omega) ?_ ?_ (RL.nil ⟨_,by simp[e5];rfl,?_⟩)))
  ·simp[e1]
   rw[e3 _ _ (by simp) _ (by simp;rfl)]
   simp
  ·simp
  ·simp[e2]
  ·simpa using hK
 | two =>
  have hf:=hf (by simp)
  simp at e2 e3 e5 hf
  refine WL.seq (WL.sreg (by simp[e1];rfl) (by simp[e5];rfl) ?_)
  refine WL.cond (t:=false) (by simp) (by simp) fun _=>WL.skip ?_
  refine WL.reg (RL.o (by simp[e1];rfl) (RL.cloK (f:=f) (cps:=cps) false [(1000000,[]),(1000100,[])] (by simp) hf (by simp) (by simp) ?_ (by simp;omega) ?_ ?_ (RL.nil ⟨_,by simp[e5];rfl,?_⟩)))
  ·simp[e1]
   rw[e3 _ _ (by simp) _ (by simp;rfl) (by simp) _ (by simp;rfl)]
   simp
  ·simp
  ·simp[e2]
  ·simpa using hK
theorem stepW_some {s t:St}{e:Ev}(h0:0≤e.End)(h:stepW s e=some t):(stepR s e).1=true∧(stepR s e).2=t:=by
 rw[stepW_eq s e h0] at h
 split at h
 ·rename_i h1;exact⟨h1,by simpa using h⟩
 ·cases h
theorem stepW_none {s:St}{e:Ev}(h0:0≤e.End)(h:stepW s e=none):(stepR s e).1=false:=by
 rw[stepW_eq s e h0] at h
 split at h
 ·cases h
 ·rename_i h1;simpa using h1
set_option maxHeartbeats 16000000 in
theorem walk_stepsN (hE:EvOk l)(hS:SeeOk l Sh.nil f cps B D see Inv)(s0:St)(h0:OkSt s0)(a0:σ)(i0:Inv a0 s0)(c:Int)(hT:∀ j,j < l.length→timesF l j c=true)(n:Nat) :
  WL Try.prog fi88.nt c88_27 (wkS l c (Sh.nil.fv f cps) s0 ([(2300,0,i64 n),(2400,0,i64 n),(2500,0,bl false)] ++ Sh.nil.gh (B a0) (D a0))) (wkQ (Sh.nil.gs (B (goW l see s0 a0 (ordF l)).2.2) (D (goW l see s0 a0 (ordF l)).2.2)) (goW l see s0 a0 (ordF l)).1):=by
 have hn:=hE.n
 have hOl:=ordF_len l
 have hsee:=fun s h a hi u hu hr j=>walk_see hS s h a hi u hu hr j
 have hI:=fun a s u hu h hi hr=>hS.inv a s u hu h hi hr
 refine WL.seq (WL.sregC (RL.o (by simp;rfl) (RL.call0 false (order_fn l hn) (by simp) (by simp) (RL.o (by simp;rfl) (RL.nil ⟨_,by simp;rfl,?_⟩)))))
 refine WL.block (WL.loop (ι:={x:Nat × St × σ // x.1≤(ordF l).length∧OkSt x.2.1∧Inv x.2.2 x.2.1∧goW l see x.2.1 x.2.2 ((ordF l).drop x.1)=goW l see s0 a0 (ordF l)}) (fun x=>wkT l (Sh.nil.fv f cps) x.1.2.1 x.1.1 (Sh.nil.gh (B x.1.2.2) (D x.1.2.2))) (fun x=>(ordF l).length - x.1.1) ⟨(0,s0,a0),Nat.zero_le _,h0,i0,rfl⟩ (by simp) fun x=>?_)
 obtain⟨⟨j,s,a⟩,hj,hs,hia,hg⟩:=x
 simp only at hj hs hg hia ⊢
 by_cases hlt:j < (ordF l).length
 ·obtain⟨u,hu,eu⟩:=ordF_at hlt
  have f1:=fmE_drop (o:=false) (r:=false) hu
  have g1:14≤l.length * 14 - u * 14:=by omega
  have hlt':j+1≤(ordF l).length:=hlt
  have w:IntKind.wrap .i64 ((j:Int)+1)=((j+1:Nat):Int):=by rw[wrap_small (by omega) (by omega)];omega
  have w2:IntKind.wrap .i64 ((u:Int)+1)=(u:Int)+1:=by rw[wrap_small (by omega) (by omega)]
  have hE0:=times_end hu (hT u hu)
  have hse:=hsee s hs a hia u hu
  have hI':=hI a s u hu hs hia
  rw[List.drop_eq_getElem_cons hlt] at hg
  simp only[goW,eu,atE_at hu] at hg
  have hok:=stepR_ok hs l[u]
  have tail:∀ t,stepW s l[u]=some t→∀ Q,(∀ e,(e=.nrm∨e=.ext 3)→Q e (wkT l (Sh.nil.fv f cps) t j (Sh.nil.gh (B (see a u t)) (D (see a u t)))))→WL Try.prog fi88.nt c88_17 ([(0,0,sEv l),(300,0,Sh.nil.fv f cps)] ++ (rcF 9 t ++ ([(1200,0,i64 u),(3600,0,sI true (ordF l)),(3700,0,i64 (ordF l).length),(3800,0,i64 j)] ++ Sh.nil.gh (B a) (D a)))) Q:=by
   intro t ht Q hQ
   obtain⟨q1,q2⟩:=stepW_some hE0 ht
   have:=hse q1 j (fun L=>L=wkT l (Sh.nil.fv f cps) t j (Sh.nil.gh (B (see a u t)) (D (see a u t)))) (by rw[q2])
   rw[q2] at this
   refine WL.mono this ?_
   rintro e L ⟨he,rfl⟩
   exact hQ e he
  refine WL.sreg (by simp[hlt];rfl) (by simp;rfl) ?_
  refine WL.seq (WL.cond (t:=true) (by simp[hlt]) (fun _=>WL.skip ?_) (by simp))
  refine WL.seq (WL.block (WL.sreg (by simp[hlt,hlt',eu];rfl) (by simp;rfl) ?_))
  refine WL.sreg (by simp[hlt,hlt',eu,hu,f1,g1];rfl) (by simp;rfl) ?_
  refine WL.sregC (RL.o (by simp;rfl) (RL.doC s hs.sized l[u].Client l[u].op (by simp) (RL.o (by simp;rfl) (RL.nil ⟨_,by simp;rfl,?_⟩))))
  have adv:∀ t,stepW s l[u]=some t→∀ Q,(∀ L,(∃ y:{x:Nat × St × σ // x.1≤(ordF l).length∧OkSt x.2.1∧Inv x.2.2 x.2.1∧goW l see x.2.1 x.2.2 ((ordF l).drop x.1)=goW l see s0 a0 (ordF l)},L=wkT l (Sh.nil.fv f cps) y.1.2.1 y.1.1 (Sh.nil.gh (B y.1.2.2) (D y.1.2.2))∧(ordF l).length - y.1.1 < (ordF l).length - j)→Q Ex.nrm L)→WL Try.prog fi88.nt c88_21 (wkT l (Sh.nil.fv f cps) t j (Sh.nil.gh (B (see a u t)) (D (see a u t)))) Q:=by
   intro t ht Q hQ
   obtain⟨q1,q2⟩:=stepW_some hE0 ht
   have hI2:=hI' q1
   rw[q1] at hg
   simp only[if_true] at hg
   rw[q2] at hg hI2 hok
   refine WL.reg (RL.run (by simp[w];rfl) ⟨_,by simp;rfl,hQ _ ?_⟩)
   exact⟨⟨(j+1,t,see a u t),hlt,hok,hI2,hg⟩,by simp,by simp only;omega⟩
  refine WL.seq ?_
  by_cases p:l[u].End=0
  ·have z:(l[u].End == 0)=true:=by simp[p]
   have ht:stepW s l[u]=some (DoB s l[u].Client l[u].op).2.1:=by simp[stepW,p]
   refine WL.block (WL.sregC (RL.o (by simp[z];rfl) (RL.g (by simp;rfl) (RL.callN (by simp) (RL.o (by simp;rfl) (RL.nil ⟨_,by simp;rfl,?_⟩))))))
   refine WL.cond (t:=true) (by simp) (fun _=>?_) (by simp)
   refine WL.reg (RL.run (by simp;rfl) ⟨_,by simp;rfl,?_⟩)
   refine tail _ ht _ ?_
   intro e he
   rcases he with rfl | rfl
   ·exact adv _ ht _ fun L h=>h
   ·exact adv _ ht _ fun L h=>h
  ·have z:(l[u].End == 0)=false:=beq_false_of_ne p
   have hsr:=sameres_fn (DoB s l[u].Client l[u].op).2.2 l[u].res
   cases hv:SameRes (DoB s l[u].Client l[u].op).2.2 l[u].res with
   | true =>
    rw[hv] at hsr
    have ht:stepW s l[u]=some (DoB s l[u].Client l[u].op).2.1:=by simp[stepW,hv]
    refine WL.block (WL.sregC (RL.o (by simp[z];rfl) (RL.g (by simp;rfl) (RL.callY0 false (by simp) hsr (by simp) (by simp) (RL.o (by simp;rfl) (RL.nil ⟨_,by simp;rfl,?_⟩))))))
    refine WL.cond (t:=true) (by simp) (fun _=>?_) (by simp)
    refine WL.reg (RL.run (by simp;rfl) ⟨_,by simp;rfl,?_⟩)
    refine tail _ ht _ ?_
    intro e he
    rcases he with rfl | rfl
    ·exact adv _ ht _ fun L h=>h
    ·exact adv _ ht _ fun L h=>h
   | false =>
    rw[hv] at hsr
    refine WL.block (WL.sregC (RL.o (by simp[z];rfl) (RL.g (by simp;rfl) (RL.callY0 false (by simp) hsr (by simp) (by simp) (RL.o (by simp;rfl) (RL.nil ⟨_,by simp;rfl,?_⟩))))))
    refine WL.cond (t:=false) (by simp) (by simp) fun _=>?_
    have hb:=bad_fn l[u].op l[u].res.Code
    have hp:=sameres_fn l[u].res (rsE l[u].res.Code)
    cases hbad:badF l[u].op.Kind l[u].res.Code with
    | false =>
     rw[hbad] at hb
     have ht:stepW s l[u]=none:=by simp[stepW,p,hv,hbad]
     have hr:=stepW_none hE0 ht
     rw[hr] at hg
     simp only[Bool.false_eq_true,if_false] at hg
     refine WL.sregC (RL.o (by simp;rfl) (RL.call0 false hb (by simp) (by simp) (RL.o (by simp;rfl) (RL.g (by simp;rfl) (RL.callN (by simp) (RL.g (by simp;rfl) (RL.o (by simp;rfl) (RL.nil ⟨_,by simp;rfl,?_⟩))))))))
     refine WL.cond (t:=true) (by simp) (fun _=>?_) (by simp)
     refine WL.sreg (by simp[w2];rfl) (by simp;rfl) (WL.ret ⟨rfl,?_⟩)
     simp[fi88,← hg]
    | true =>
     rw[hbad] at hb
     cases hpl:SameRes l[u].res (rsE l[u].res.Code) with
     | false =>
      rw[hpl] at hp
      have ht:stepW s l[u]=none:=by simp[stepW,p,hv,hbad,hpl]
      have hr:=stepW_none hE0 ht
      rw[hr] at hg
      simp only[Bool.false_eq_true,if_false] at hg
      refine WL.sregC (RL.o (by simp;rfl) (RL.call0 false hb (by simp) (by simp) (RL.o (by simp;rfl) (RL.g (by simp;rfl) (RL.nilA 80 3 1 (by simp;rfl) rfl rfl (RL.callY0 false (by simp) hp (by simp[rsE]) (by simp) (RL.g (by simp;rfl) (RL.o (by simp;rfl) (RL.nil ⟨_,by simp;rfl,?_⟩)))))))))
      refine WL.cond (t:=true) (by simp) (fun _=>?_) (by simp)
      refine WL.sreg (by simp[w2];rfl) (by simp;rfl) (WL.ret ⟨rfl,?_⟩)
      simp[fi88,← hg]
     | true =>
      rw[hpl] at hp
      have ht:stepW s l[u]=some s:=by simp[stepW,p,hv,hbad,hpl]
      refine WL.sregC (RL.o (by simp;rfl) (RL.call0 false hb (by simp) (by simp) (RL.o (by simp;rfl) (RL.g (by simp;rfl) (RL.nilA 80 3 1 (by simp;rfl) rfl rfl (RL.callY0 false (by simp) hp (by simp[rsE]) (by simp) (RL.g (by simp;rfl) (RL.o (by simp;rfl) (RL.nil ⟨_,by simp;rfl,?_⟩)))))))))
      refine WL.cond (t:=false) (by simp) (by simp) fun _=>WL.skip ?_
      refine WL.fin [66] (by simp) (tail _ ht _ ?_)
      intro e he
      rcases he with rfl | rfl
      ·exact adv _ ht _ fun L h=>h
      ·exact adv _ ht _ fun L h=>h
 ·obtain rfl:j=(ordF l).length:=by omega
  rw[List.drop_length] at hg
  simp only[goW] at hg
  refine WL.sreg (by simp;rfl) (by simp;rfl) ?_
  refine WL.seq (WL.cond (t:=false) (by simp) (by simp) fun _=>WL.exit ?_)
  refine WL.sreg (by simp;rfl) (by simp;rfl) (WL.ret ⟨rfl,?_⟩)
  simp[fi88,← hg]
set_option maxHeartbeats 16000000 in
theorem walk_stepsO (hE:EvOk l)(hS:SeeOk l Sh.one f cps B D see Inv)(s0:St)(h0:OkSt s0)(a0:σ)(i0:Inv a0 s0)(c:Int)(hT:∀ j,j < l.length→timesF l j c=true)(n:Nat) :
  WL Try.prog fi88.nt c88_27 (wkS l c (Sh.one.fv f cps) s0 ([(2300,0,i64 n),(2400,0,i64 n),(2500,0,bl false)] ++ Sh.one.gh (B a0) (D a0))) (wkQ (Sh.one.gs (B (goW l see s0 a0 (ordF l)).2.2) (D (goW l see s0 a0 (ordF l)).2.2)) (goW l see s0 a0 (ordF l)).1):=by
 have hn:=hE.n
 have hOl:=ordF_len l
 have e1:=hS.no
 have e5:=hS.roots
 simp at e5
 have hsee:=fun s h a hi u hu hr j=>walk_see hS s h a hi u hu hr j
 have hI:=fun a s u hu h hi hr=>hS.inv a s u hu h hi hr
 refine WL.seq (WL.sregC (RL.o (by simp;rfl) (RL.call0 false (order_fn l hn) (by simp) (by simp) (RL.o (by simp;rfl) (RL.nil ⟨_,by simp[e5];rfl,?_⟩)))))
 refine WL.block (WL.loop (ι:={x:Nat × St × σ // x.1≤(ordF l).length∧OkSt x.2.1∧Inv x.2.2 x.2.1∧goW l see x.2.1 x.2.2 ((ordF l).drop x.1)=goW l see s0 a0 (ordF l)}) (fun x=>wkT l (Sh.one.fv f cps) x.1.2.1 x.1.1 (Sh.one.gh (B x.1.2.2) (D x.1.2.2))) (fun x=>(ordF l).length - x.1.1) ⟨(0,s0,a0),Nat.zero_le _,h0,i0,rfl⟩ (by simp) fun x=>?_)
 obtain⟨⟨j,s,a⟩,hj,hs,hia,hg⟩:=x
 simp only at hj hs hg hia ⊢
 by_cases hlt:j < (ordF l).length
 ·obtain⟨u,hu,eu⟩:=ordF_at hlt
  have f1:=fmE_drop (o:=false) (r:=false) hu
  have g1:14≤l.length * 14 - u * 14:=by omega
  have hlt':j+1≤(ordF l).length:=hlt
  have w:IntKind.wrap .i64 ((j:Int)+1)=((j+1:Nat):Int):=by rw[wrap_small (by omega) (by omega)];omega
  have w2:IntKind.wrap .i64 ((u:Int)+1)=(u:Int)+1:=by rw[wrap_small (by omega) (by omega)]
  have hE0:=times_end hu (hT u hu)
  have hse:=hsee s hs a hia u hu
  have hI':=hI a s u hu hs hia
  rw[List.drop_eq_getElem_cons hlt] at hg
  simp only[goW,eu,atE_at hu] at hg
  have hok:=stepR_ok hs l[u]
  have tail:∀ t,stepW s l[u]=some t→∀ Q,(∀ e,(e=.nrm∨e=.ext 3)→Q e (wkT l (Sh.one.fv f cps) t j (Sh.one.gh (B (see a u t)) (D (see a u t)))))→WL Try.prog fi88.nt c88_17 ([(0,0,sEv l),(300,0,Sh.one.fv f cps)] ++ (rcF 9 t ++ ([(1200,0,i64 u),(3600,0,sI true (ordF l)),(3700,0,i64 (ordF l).length),(3800,0,i64 j)] ++ Sh.one.gh (B a) (D a)))) Q:=by
   intro t ht Q hQ
   obtain⟨q1,q2⟩:=stepW_some hE0 ht
   have:=hse q1 j (fun L=>L=wkT l (Sh.one.fv f cps) t j (Sh.one.gh (B (see a u t)) (D (see a u t)))) (by rw[q2])
   rw[q2] at this
   refine WL.mono this ?_
   rintro e L ⟨he,rfl⟩
   exact hQ e he
  refine WL.sreg (by simp[hlt];rfl) (by simp[e5];rfl) ?_
  refine WL.seq (WL.cond (t:=true) (by simp[hlt]) (fun _=>WL.skip ?_) (by simp))
  refine WL.seq (WL.block (WL.sreg (by simp[hlt,hlt',eu];rfl) (by simp[e5];rfl) ?_))
  refine WL.sreg (by simp[hlt,hlt',eu,hu,f1,g1];rfl) (by simp[e5];rfl) ?_
  refine WL.sregC (RL.o (by simp;rfl) (RL.doC s hs.sized l[u].Client l[u].op (by simp) (RL.o (by simp;rfl) (RL.nil ⟨_,by simp[e5];rfl,?_⟩))))
  have adv:∀ t,stepW s l[u]=some t→∀ Q,(∀ L,(∃ y:{x:Nat × St × σ // x.1≤(ordF l).length∧OkSt x.2.1∧Inv x.2.2 x.2.1∧goW l see x.2.1 x.2.2 ((ordF l).drop x.1)=goW l see s0 a0 (ordF l)},L=wkT l (Sh.one.fv f cps) y.1.2.1 y.1.1 (Sh.one.gh (B y.1.2.2) (D y.1.2.2))∧(ordF l).length - y.1.1 < (ordF l).length - j)→Q Ex.nrm L)→WL Try.prog fi88.nt c88_21 (wkT l (Sh.one.fv f cps) t j (Sh.one.gh (B (see a u t)) (D (see a u t)))) Q:=by
   intro t ht Q hQ
   obtain⟨q1,q2⟩:=stepW_some hE0 ht
   have hI2:=hI' q1
   rw[q1] at hg
   simp only[if_true] at hg
   rw[q2] at hg hI2 hok
   refine WL.reg (RL.run (by simp[w];rfl) ⟨_,by simp[e5];rfl,hQ _ ?_⟩)
   exact⟨⟨(j+1,t,see a u t),hlt,hok,hI2,hg⟩,by simp,by simp only;omega⟩
  refine WL.seq ?_
  by_cases p:l[u].End=0
  ·have z:(l[u].End == 0)=true:=by simp[p]
   have ht:stepW s l[u]=some (DoB s l[u].Client l[u].op).2.1:=by simp[stepW,p]
   refine WL.block (WL.sregC (RL.o (by simp[z];rfl) (RL.g (by simp;rfl) (RL.callN (by simp) (RL.o (by simp;rfl) (RL.nil ⟨_,by simp[e5];rfl,?_⟩))))))
   refine WL.cond (t:=true) (by simp) (fun _=>?_) (by simp)
   refine WL.reg (RL.run (by simp;rfl) ⟨_,by simp[e5];rfl,?_⟩)
   refine tail _ ht _ ?_
   intro e he
   rcases he with rfl | rfl
   ·exact adv _ ht _ fun L h=>h
   ·exact adv _ ht _ fun L h=>h
  ·have z:(l[u].End == 0)=false:=beq_false_of_ne p
   have hsr:=sameres_fn (DoB s l[u].Client l[u].op).2.2 l[u].res
   cases hv:SameRes (DoB s l[u].Client l[u].op).2.2 l[u].res with
   | true =>
    rw[hv] at hsr
    have ht:stepW s l[u]=some (DoB s l[u].Client l[u].op).2.1:=by simp[stepW,hv]
    refine WL.block (WL.sregC (RL.o (by simp[z];rfl) (RL.g (by simp;rfl) (RL.callY0 false (by simp) hsr (by simp) (by simp) (RL.o (by simp;rfl) (RL.nil ⟨_,by simp[e5];rfl,?_⟩))))))
    refine WL.cond (t:=true) (by simp) (fun _=>?_) (by simp)
    refine WL.reg (RL.run (by simp;rfl) ⟨_,by simp[e5];rfl,?_⟩)
    refine tail _ ht _ ?_
    intro e he
    rcases he with rfl | rfl
    ·exact adv _ ht _ fun L h=>h
    ·exact adv _ ht _ fun L h=>h
   | false =>
    rw[hv] at hsr
    refine WL.block (WL.sregC (RL.o (by simp[z];rfl) (RL.g (by simp;rfl) (RL.callY0 false (by simp) hsr (by simp) (by simp) (RL.o (by simp;rfl) (RL.nil ⟨_,by simp[e5];rfl,?_⟩))))))
    refine WL.cond (t:=false) (by simp) (by simp) fun _=>?_
    have hb:=bad_fn l[u].op l[u].res.Code
    have hp:=sameres_fn l[u].res (rsE l[u].res.Code)
    cases hbad:badF l[u].op.Kind l[u].res.Code with
    | false =>
     rw[hbad] at hb
     have ht:stepW s l[u]=none:=by simp[stepW,p,hv,hbad]
     have hr:=stepW_none hE0 ht
     rw[hr] at hg
     simp only[Bool.false_eq_true,if_false] at hg
     refine WL.sregC (RL.o (by simp;rfl) (RL.call0 false hb (by simp) (by simp) (RL.o (by simp;rfl) (RL.g (by simp;rfl) (RL.callN (by simp) (RL.g (by simp;rfl) (RL.o (by simp;rfl) (RL.nil ⟨_,by simp[e5];rfl,?_⟩))))))))
     refine WL.cond (t:=true) (by simp) (fun _=>?_) (by simp)
     refine WL.sreg (by simp[w2];rfl) (by simp[e5];rfl) (WL.ret ⟨rfl,?_⟩)
     simp[fi88,← hg]
    | true =>
     rw[hbad] at hb
     cases hpl:SameRes l[u].res (rsE l[u].res.Code) with
     | false =>
      rw[hpl] at hp
      have ht:stepW s l[u]=none:=by simp[stepW,p,hv,hbad,hpl]
      have hr:=stepW_none hE0 ht
      rw[hr] at hg
      simp only[Bool.false_eq_true,if_false] at hg
      refine WL.sregC (RL.o (by simp;rfl) (RL.call0 false hb (by simp) (by simp) (RL.o (by simp;rfl) (RL.g (by simp;rfl) (RL.nilA 80 3 1 (by simp;rfl) rfl rfl (RL.callY0 false (by simp) hp (by simp[rsE]) (by simp) (RL.g (by simp;rfl) (RL.o (by simp;rfl) (RL.nil ⟨_,by simp[e5];rfl,?_⟩)))))))))
      refine WL.cond (t:=true) (by simp) (fun _=>?_) (by simp)
      refine WL.sreg (by simp[w2];rfl) (by simp[e5];rfl) (WL.ret ⟨rfl,?_⟩)
      simp[fi88,← hg]
     | true =>
      rw[hpl] at hp
      have ht:stepW s l[u]=some s:=by simp[stepW,p,hv,hbad,hpl]
      refine WL.sregC (RL.o (by simp;rfl) (RL.call0 false hb (by simp) (by simp) (RL.o (by simp;rfl) (RL.g (by simp;rfl) (RL.nilA 80 3 1 (by simp;rfl) rfl rfl (RL.callY0 false (by simp) hp (by simp[rsE]) (by simp) (RL.g (by simp;rfl) (RL.o (by simp;rfl) (RL.nil ⟨_,by simp[e5];rfl,?_⟩)))))))))
      refine WL.cond (t:=false) (by simp) (by simp) fun _=>WL.skip ?_
      refine WL.fin [66] (by simp[e5]) (tail _ ht _ ?_)
      intro e he
      rcases he with rfl | rfl
      ·exact adv _ ht _ fun L h=>h
      ·exact adv _ ht _ fun L h=>h
 ·obtain rfl:j=(ordF l).length:=by omega
  rw[List.drop_length] at hg
  simp only[goW] at hg
  refine WL.sreg (by simp;rfl) (by simp[e5];rfl) ?_
  refine WL.seq (WL.cond (t:=false) (by simp) (by simp) fun _=>WL.exit ?_)
  refine WL.sreg (by simp;rfl) (by simp[e5];rfl) (WL.ret ⟨rfl,?_⟩)
  simp[fi88,← hg]
set_option maxHeartbeats 16000000 in
theorem walk_fnN (hE:EvOk l)(hS:SeeOk l Sh.nil f cps B D see Inv)(p c:Int)(a:σ)(hI:newBad p c=false→Inv a (newSt p c)) :
  FnC Try.prog 88 (Sh.nil.gs (B a) (D a)) [sEv l,i64 p,i64 c,Sh.nil.fv f cps] (Sh.nil.gs (B (walkF see a l p c).2.2) (D (walkF see a l p c).2.2)) (i64 (walkF see a l p c).1):=by
 have hn:=hE.n
 have hms:=may_fn (newSt p c) (newSt_sized p c)
 rw[May_new] at hms
 refine FnC.go ok88 rfl ?_
 refine WL.mono (Q':=wkQ (Sh.nil.gs (B (walkF see a l p c).2.2) (D (walkF see a l p c).2.2)) (walkF see a l p c).1) ?_ fun x L h=>⟨.inr h.1,h.2⟩
 refine WL.sreg (by simp;rfl) (by simp;rfl) ?_
 refine WL.scope ?_
 refine WL.sregC (RL.o (by simp;rfl) (RL.newC p c (by simp) (RL.o (by simp;rfl) (RL.nil ⟨_,by simp;rfl,?_⟩))))
 cases hb:newBad p c with
 | true =>
  rw[hb] at hms
  refine WL.seq (WL.sregC (RL.o (by simp;rfl) (RL.call0 false hms (by simp) (by simp) (RL.o (by simp;rfl) (RL.nil ⟨_,by simp;rfl,?_⟩)))))
  refine WL.cond (t:=true) (by simp) (fun _=>?_) (by simp)
  refine WL.sreg (by simp;rfl) (by simp;rfl) (WL.ret ⟨rfl,?_⟩)
  simp[fi88,walkF,hb]
 | false =>
  rw[hb] at hms
  have hok:=newSt_ok' hb
  have i0:=hI hb
  refine WL.seq (WL.sregC (RL.o (by simp;rfl) (RL.call0 false hms (by simp) (by simp) (RL.o (by simp;rfl) (RL.nil ⟨_,by simp;rfl,?_⟩)))))
  refine WL.cond (t:=false) (by simp) (by simp) fun _=>WL.skip ?_
  refine WL.seq (WL.sreg (by simp;rfl) (by simp;rfl) ?_)
  unfold walkF
  rw[hb]
  simp only[Bool.false_eq_true,if_false]
  generalize newSt p c=s0 at hok i0 ⊢
  refine WL.block (WL.count l.length (fun i=>wkS l c (Sh.nil.fv f cps) s0 ([(2300,0,i64 l.length),(2400,0,i64 i)] ++ Sh.nil.gh (B a) (D a))) (fun i=>∀ j,j < i→timesF l j c=true) rfl (fun j h=>absurd h (Nat.not_lt_zero _)) fun i hi hp=>?_)
  by_cases hlt:i < l.length
  ·have w:IntKind.wrap .i64 ((i:Int)+1)=((i+1:Nat):Int):=by rw[wrap_small (by omega) (by omega)];omega
   have ha:=times_fn l hn i hlt c
   refine WL.sreg (by simp[hlt];rfl) (by simp;rfl) ?_
   refine WL.seq (WL.cond (t:=true) (by simp[hlt]) (fun _=>WL.skip ?_) (by simp))
   refine WL.seq (WL.block (WL.sreg (by simp[hlt];rfl) (by simp;rfl) ?_))
   cases ht:timesF l i c with
   | true =>
    rw[ht] at ha
    refine WL.sregC (RL.o (by simp;rfl) (RL.call0 false ha (by simp) (by simp) (RL.o (by simp;rfl) (RL.nil ⟨_,by simp;rfl,?_⟩))))
    refine WL.cond (t:=false) (by simp) (by simp) fun _=>WL.skip ?_
    refine WL.reg (RL.run (by simp[w];rfl) ⟨_,by simp;rfl,hlt,?_,fun j hj=>?_⟩)
    ·simp
    ·by_cases e:j=i
     ·subst e;exact ht
     ·exact hp j (by omega)
   | false =>
    rw[ht] at ha
    have hf:=firstBad_some hlt hp ht
    refine WL.sregC (RL.o (by simp;rfl) (RL.call0 false ha (by simp) (by simp) (RL.o (by simp;rfl) (RL.nil ⟨_,by simp;rfl,?_⟩))))
    refine WL.cond (t:=true) (by simp) (fun _=>?_) (by simp)
    refine WL.sreg (by simp[w];rfl) (by simp;rfl) (WL.ret ⟨rfl,?_⟩)
    simp[fi88,hf]
  ·obtain rfl:i=l.length:=by omega
   have hf:=firstBad_none hp
   rw[hf]
   refine WL.sreg (by simp;rfl) (by simp;rfl) ?_
   refine WL.seq (WL.cond (t:=false) (by simp) (by simp) fun _=>WL.exit ?_)
   refine WL.seq (WL.label ?_)
   exact walk_stepsN hE hS s0 hok a i0 c hp l.length
set_option maxHeartbeats 16000000 in
theorem walk_fnO (hE:EvOk l)(hS:SeeOk l Sh.one f cps B D see Inv)(p c:Int)(a:σ)(hI:newBad p c=false→Inv a (newSt p c)) :
  FnC Try.prog 88 (Sh.one.gs (B a) (D a)) [sEv l,i64 p,i64 c,Sh.one.fv f cps] (Sh.one.gs (B (walkF see a l p c).2.2) (D (walkF see a l p c).2.2)) (i64 (walkF see a l p c).1):=by
 have hn:=hE.n
 have e5:=hS.roots
 simp at e5
 have hms:=may_fn (newSt p c) (newSt_sized p c)
 rw[May_new] at hms
 refine FnC.go ok88 rfl ?_
 refine WL.mono (Q':=wkQ (Sh.one.gs (B (walkF see a l p c).2.2) (D (walkF see a l p c).2.2)) (walkF see a l p c).1) ?_ fun x L h=>⟨.inr h.1,h.2⟩
 refine WL.sreg (by simp;rfl) (by simp[e5];rfl) ?_
 refine WL.scope ?_
 refine WL.sregC (RL.o (by simp;rfl) (RL.newC p c (by simp) (RL.o (by simp;rfl) (RL.nil ⟨_,by simp[e5];rfl,?_⟩))))
 cases hb:newBad p c with
 | true =>
  rw[hb] at hms
  refine WL.seq (WL.sregC (RL.o (by simp;rfl) (RL.call0 false hms (by simp) (by simp) (RL.o (by simp;rfl) (RL.nil ⟨_,by simp[e5];rfl,?_⟩)))))
  refine WL.cond (t:=true) (by simp) (fun _=>?_) (by simp)
  refine WL.sreg (by simp;rfl) (by simp[e5];rfl) (WL.ret ⟨rfl,?_⟩)
  simp[fi88,walkF,hb]
 | false =>
  rw[hb] at hms
  have hok:=newSt_ok' hb
  have i0:=hI hb
  refine WL.seq (WL.sregC (RL.o (by simp;rfl) (RL.call0 false hms (by simp) (by simp) (RL.o (by simp;rfl) (RL.nil ⟨_,by simp[e5];rfl,?_⟩)))))
  refine WL.cond (t:=false) (by simp) (by simp) fun _=>WL.skip ?_
  refine WL.seq (WL.sreg (by simp;rfl) (by simp[e5];rfl) ?_)
  unfold walkF
  rw[hb]
  simp only[Bool.false_eq_true,if_false]
  generalize newSt p c=s0 at hok i0 ⊢
  refine WL.block (WL.count l.length (fun i=>wkS l c (Sh.one.fv f cps) s0 ([(2300,0,i64 l.length),(2400,0,i64 i)] ++ Sh.one.gh (B a) (D a))) (fun i=>∀ j,j < i→timesF l j c=true) rfl (fun j h=>absurd h (Nat.not_lt_zero _)) fun i hi hp=>?_)
  by_cases hlt:i < l.length
  ·have w:IntKind.wrap .i64 ((i:Int)+1)=((i+1:Nat):Int):=by rw[wrap_small (by omega) (by omega)];omega
   have ha:=times_fn l hn i hlt c
   refine WL.sreg (by simp[hlt];rfl) (by simp[e5];rfl) ?_
   refine WL.seq (WL.cond (t:=true) (by simp[hlt]) (fun _=>WL.skip ?_) (by simp))
   refine WL.seq (WL.block (WL.sreg (by simp[hlt];rfl) (by simp[e5];rfl) ?_))
   cases ht:timesF l i c with
   | true =>
    rw[ht] at ha
    refine WL.sregC (RL.o (by simp;rfl) (RL.call0 false ha (by simp) (by simp) (RL.o (by simp;rfl) (RL.nil ⟨_,by simp[e5];rfl,?_⟩))))
    refine WL.cond (t:=false) (by simp) (by simp) fun _=>WL.skip ?_
    refine WL.reg (RL.run (by simp[w];rfl) ⟨_,by simp[e5];rfl,hlt,?_,fun j hj=>?_⟩)
    ·simp
    ·by_cases e:j=i
     ·subst e;exact ht
     ·exact hp j (by omega)
   | false =>
    rw[ht] at ha
    have hf:=firstBad_some hlt hp ht
    refine WL.sregC (RL.o (by simp;rfl) (RL.call0 false ha (by simp) (by simp) (RL.o (by simp;rfl) (RL.nil ⟨_,by simp[e5];rfl,?_⟩))))
    refine WL.cond (t:=true) (by simp) (fun _=>?_) (by simp)
    refine WL.sreg (by simp[w];rfl) (by simp[e5];rfl) (WL.ret ⟨rfl,?_⟩)
    simp[fi88,hf]
  ·obtain rfl:i=l.length:=by omega
   have hf:=firstBad_none hp
   rw[hf]
   refine WL.sreg (by simp;rfl) (by simp[e5];rfl) ?_
   refine WL.seq (WL.cond (t:=false) (by simp) (by simp) fun _=>WL.exit ?_)
   refine WL.seq (WL.label ?_)
   exact walk_stepsO hE hS s0 hok a i0 c hp l.length
end
end Go.OT
namespace Go.OT
def deadL (n:Nat):List AL:=List.replicate n .dead
theorem fpL_dead (n b o:Nat):¬ fpL (deadL n) b o:=by
 rw[fpL_iff]
 rintro⟨c,hc,h⟩
 rw[List.eq_of_mem_replicate hc] at h
 simp[fp] at h
theorem SepL_dead:∀ n,SepL (deadL n)
 | 0=>trivial
 | n+1=>by
  show SepL (.dead :: deadL n)
  exact⟨trivial,SepL_dead n,fun _ _ h=>by simp[fp] at h⟩
theorem MemL_dead {w:World}{I:ASet}:∀ {cs:List AL} {b o:Nat},MemL w I true cs b o→MemL w I true (deadL cs.length) b o
 | [],_,_,_=>by show MemL w I true [] _ _;simp only[MemL]
 | c :: cs,b,o,h=>by
  simp only[MemL] at h
  obtain⟨⟨y,h1,_⟩,_,_,h4⟩:=h
  show MemL w I true (.dead :: deadL cs.length) b o
  have:=MemL_dead h4
  simp only[MemL,CR,Mem]
  exact⟨⟨y,h1,trivial⟩,trivial,(fun e=>by cases e),this⟩
theorem RelL.wipeS {C:Ctx}{X:XF LO} {β:Nat→Nat × Nat}{I:ASet}{rg:Nat→Value}{w:World}(R:RelL C X β I rg w)(k:Nat)(hk:k % 100=0){l:Loc}{cs:List AL}(hX:(X k).2=.bx true (some l) cs) :
  RelL C (X.set k (.bx true (some l) (deadL cs.length))) β I rg w:=by
 have hkp:=keeps_set X β k (.bx true (some l) (deadL cs.length))
 have hf:∀ k' b o,kfp β (X.set k (.bx true (some l) (deadL cs.length))) k' b o→kfp β X k' b o:=by
  intro k' b o h
  by_cases e:k'=k
  ·subst e
   simp only[kfp,XF.set_self] at h
   rcases h with h | ⟨h,_⟩
   ·left;rw[hX]
    simp only[fp] at h ⊢
    rcases h with h | h
    ·left;simpa [deadL] using h
    ·exact absurd h (fpL_dead _ _ _)
   ·unfold isCell at h;omega
  ·simpa only [kfp,XF.set_ne _ _ e] using h
 refine⟨fun t=>?_,fun k'=>?_,fun a b hne b' o h1 h2=>R.disj a b hne b' o (hf _ _ _ h1) (hf _ _ _ h2),fun b o h=>⟨(R.imm b o h).1,fun a ha=>(R.imm b o h).2 a (hf _ _ _ ha)⟩,fun a b o h=>R.frK a b o (hf _ _ _ h),R.frI,R.frI0,R.fr,R.gh,R.gr⟩
 ·by_cases e:100 * t=k
  ·have:=R.reg t
   rw[e] at this ⊢
   rw[hX] at this
   rw[XF.set_self]
   simp only[RR,CR] at this ⊢
   exact this
  ·rw[XF.set_ne _ _ e];exact RR_keep hkp _ _ (R.reg t)
 ·by_cases e:k'=k
  ·subst e
   have h:=R.key k'
   have hm:=h.mem
   rw[hX] at hm
   simp only[Mem] at hm
   refine⟨by rw[XF.set_self];simp only[Mem];exact MemL_dead hm,by rw[XF.set_self];simp only[Sep];exact⟨fun _ _=>fpL_dead _ _ _,SepL_dead _⟩,fun hc=>by unfold isCell at hc;omega,fun b o hb=>h.live b o (hf k' b o hb),fun h99=>by omega⟩
  ·have h:=R.key k'
   refine⟨by rw[XF.set_ne _ _ e];exact h.mem,by rw[XF.set_ne _ _ e];exact h.sep,by rw[XF.set_ne _ _ e];exact fun h1 h2=>⟨(h.cell h1 h2).1.imp fun y hy=>⟨hy.1,hy.2.imp id fun h=>⟨h.1,RR_keep hkp _ _ h.2⟩⟩,(h.cell h1 h2).2⟩,fun b o hb=>h.live b o (hf k' b o hb),by rw[XF.set_ne _ _ e];exact h.last⟩
theorem RelT.wipe {C:Ctx}{X:XF Unit}{tm:Array Value}{w:World}(h:RelT C X tm w)(k:Nat)(hk:k % 100=0)(hkH:k ≠ 100 * H)(hH:roots (X (100 * H)).2=[]){cs:List AU}(hX:(X k).2=.bx true () cs)
  (h2:∀ t,rootR [k] (X (100 * t)).2=true) (h3:∀ k',isCell k'→noR [k] (X k').2=true):RelT C (X.upd k (.bx true () (List.replicate cs.length .dead))) tm w:=by
 obtain⟨XL,β,I,rg,he,R,hs,ht⟩:=h
 subst he
 obtain⟨l,lcs,hl,hlcs⟩:∃ l lcs,(XL k).2=.bx true l lcs∧lcs.map er=cs:=by
  have:er (XL k).2=.bx true () cs:=hX
  revert this
  generalize (XL k).2=v
  intro this
  cases v<;>simp [er] at this
  rename_i o l lcs
  exact⟨l,lcs,by rw[this.1],by rw[← erL_eq];exact this.2⟩
 have hmem:=(R.key k).mem
 rw[hl] at hmem
 cases l with
 | none=>simp [Mem] at hmem
 | some l =>
  have R1:=R.wipeS k hk hl
  have e1:(XL.set k (.bx true (some l) (deadL lcs.length)) k).2=.bx true (some l) (deadL lcs.length):=by rw[XF.set_self]
  have hne:∀ j,j ≠ k→(XL.set k (.bx true (some l) (deadL lcs.length))) j=XL j:=fun j hj=>XF.set_ne _ _ hj
  have hlen:lcs.length=cs.length:=by rw[← hlcs];simp
  have R2:=R.regen R1 [k] H (fun j hj=>by simp at hj;subst hj;exact⟨hk,hkH⟩) (fun _ _=>rfl) (by
    rw[hne _ (Ne.symm hkH)]
    have:roots (er (XL (100 * H)).2)=[]:=hH
    rwa [er_roots] at this) (fun j hj _=>by
    rw[hne j (by intro e;subst e;simp at hj)]) (fun t=>by
    by_cases e:100 * t=k
    ·rw[e,e1];rfl
    ·rw[hne _ e,← er_rootR];exact h2 t) (fun j hj=>by
    have:j ≠ k:=by intro e;subst e;unfold isCell at hj;omega
    rw[hne _ this,← er_noR];exact h3 j hj) (fun j hj=>by
    simp at hj;subst hj;rw[hl,e1];rfl)
  refine⟨_,β,I,rg,?_,R2,hs,ht⟩
  rw[erF_ungen]
  funext j
  by_cases e:j=k
  ·subst e
   simp only[ungen,List.contains_cons,beq_self_eq_true,Bool.true_or,if_true,XF.upd_self,erF]
   rw[e1]
   simp only[er,erL_eq,deadL,List.map_replicate,hlen]
  ·have hc:[k].contains j=false:=by simp[e]
   simp only[ungen,hc,Bool.false_eq_true,if_false,XF.upd_ne _ _ e,erF,hne j e]
section
variable {P:Program} {nt:Nat} {L:SL} {Q:Ex→SL→Prop}
def wipeB (k:Nat)(L:SL):Bool:=decide (k % 100=0) && (!decide (k=100 * H) && ((roots (fnL L (100 * H)).2).isEmpty && L.all fun e=>rootR [k] e.2.2 && (decide (e.1 % 100=0) || noR [k] e.2.2)))
theorem RelT.wipeL {C:Ctx}{tm:Array Value}{w:World}(h:RelT C (fnL L) tm w)(k:Nat){cs:List AU}(hX:(fnL L k).2=.bx true () cs)(hB:wipeB k L=true):RelT C (fnL (updL L k (.bx true () (List.replicate cs.length .dead)))) tm w:=by
 simp only[wipeB,Bool.and_eq_true,decide_eq_true_eq,Bool.not_eq_true',decide_eq_false_iff_not,List.all_eq_true,Bool.or_eq_true,List.isEmpty_iff] at hB
 obtain⟨a1,a2,a3,a4⟩:=hB
 have:=h.wipe k a1 a2 a3 hX (fun t=>?_) (fun k' hc=>?_)
 ·rwa [fnL_upd] at this
 ·rcases fnL_mem L (100 * t) with h | ⟨e,he,_,h⟩
  ·rw[h];rfl
  ·rw[h];exact (a4 e he).1
 ·rcases fnL_mem L k' with h | ⟨e,he,e1,h⟩
  ·rw[h];rfl
  ·rw[h]
   rcases (a4 e he).2 with q | q
   ·rw[e1] at q;exact absurd q hc.1
   ·exact q
theorem WL.wipe {cc:Cd}(k:Nat){cs:List AU}(hX:(fnL L k).2=.bx true () cs)(hB:wipeB k L=true)(h:WL P nt cc (updL L k (.bx true () (List.replicate cs.length .dead))) Q):WL P nt cc L Q:=by
 intro C code hP hn hc a w hd hR
 exact h C code hP hn hc a w hd (hR.wipeL k hX hB)
theorem RL.wipe {K:SL→Prop}{segs:List Sg}(k:Nat){cs:List AU}(hX:(fnL L k).2=.bx true () cs)(hB:wipeB k L=true)(h:RL P nt segs (updL L k (.bx true () (List.replicate cs.length .dead))) K):RL P nt segs L K:=by
 intro C ops idx hP hnt hc a w Q hd hR hK
 exact h C ops idx hP hnt hc a w Q hd (hR.wipeL k hX hB) hK
end
attribute [simp] wipeB
end Go.OT
namespace Go.OT
open Go.Proofs
theorem noSee_ok (l:List Ev):SeeOk l .nil 0 [] (fun _:Unit=>[]) (fun _=>[]) noSee (fun _ _=>True) :=
 ⟨rfl,rfl,rfl,by simp,fun _ _ _=>rfl,fun _ _ _ _ _ _ _=>trivial,fun h=>absurd rfl h⟩
set_option maxHeartbeats 8000000 in
theorem chk_fn (l:List Ev)(hE:EvOk l)(p c:Int):FnC Try.prog 28 [] [sEv l,i64 p,i64 c] [] (i64 (chkF l p c)):=by
 have hw:=walk_fnN hE (noSee_ok l) p c () (fun _=>trivial)
 rw[walkF_code] at hw
 simp only[Sh.gs,Sh.fv] at hw
 refine FnC.go ok28 rfl ?_
 refine WL.sreg (by simp;rfl) (by simp;rfl) ?_
 refine WL.sregC (RL.o (by simp;rfl) (RL.call0 false hw (by simp) (by simp) (RL.o (by simp;rfl) (RL.nil ⟨_,by simp;rfl,WL.ret ⟨.inr rfl,?_⟩⟩))))
 simp[fi28]
set_option maxHeartbeats 8000000 in
theorem final1_fn (i:Int)(s t:St):FnC Try.prog 89 [.nod (.bx true () (cellsS false s))] [i64 i,encS false t,.ptr 1000000 0 [] 0] [.nod (.bx true () (cellsS false t))] (.tuple []):=by
 refine FnC.go ok89 rfl ?_
 refine WL.sreg (by simp;rfl) (by simp;rfl) ?_
 refine WL.wipe 1000000 (by simp;rfl) (by simp) ?_
 refine WL.reg (RL.run (by simp;rfl) ⟨_,by simp;rfl,?_⟩)
 refine⟨.inl rfl,?_⟩
 simp[fi89]
theorem lastSee_ok (l:List Ev):SeeOk l .one 89 [.ptr 1000000 0 [] 0] (fun s:St=>cellsS false s) (fun _=>[]) (fun _ _ t=>t) (fun _ _=>True) :=
 ⟨rfl,rfl,rfl,by simp,fun X k h=>by
  obtain⟨h1,b,h2⟩:=h (1000000,[]) (by simp)
  simp at h1 h2
  simp[h1,h2,gkey],fun _ _ _ _ _ _ _=>trivial,fun _ a s u hu _ _ _=>final1_fn u a (stepR s l[u]).2⟩
set_option maxHeartbeats 16000000 in
theorem fin_fn (l:List Ev)(hE:EvOk l)(p c:Int):FnC Try.prog 30 [] [sEv l,i64 p,i64 c] [] (.tuple [encS false (finF l p c).1,bl (finF l p c).2]):=by
 have hw:=walk_fnO hE (lastSee_ok l) p c (newSt p c) (fun _=>trivial)
 rw[walkF_code] at hw
 simp only[Sh.gs,Sh.fv] at hw
 refine FnC.go ok30 rfl ?_
 refine WL.sreg (by simp;rfl) (by simp;rfl) ?_
 refine WL.sregC (RL.o (by simp;rfl) (RL.newC p c (by simp) (RL.o (by simp;rfl) (RL.nil ⟨_,by simp;rfl,?_⟩))))
 rw[walkF_last] at hw
 refine WL.raise 8 3 (by simp) (by simp;rfl) (by simp) ?_
 by_cases h0:chkF l p c=0
 ·have z:(chkF l p c != 0)=false:=by simp[h0]
  have hfin:finF l p c=((walkF noSee () l p c).2.1,true):=by unfold finF;rw[if_pos h0]
  rw[hfin]
  generalize (walkF noSee () l p c).2.1=s at hw ⊢
  generalize newSt p c=s0 at hw ⊢
  refine WL.seq (WL.sregC (RL.o (by simp;rfl) (RL.callK false [(800,[])] hw (by simp) (by simp) (by simp[gkey]) (by simp) (by simp) (RL.o (by simp[z];rfl) (RL.nil ⟨_,by simp;rfl,?_⟩)))))
  refine WL.cond (t:=false) (by simp) (by simp) fun _=>WL.skip ?_
  refine WL.sreg (by simp;rfl) (by simp;rfl) (WL.ret ⟨.inr rfl,?_⟩)
  simp[fi30]
 ·have z:(chkF l p c != 0)=true:=by simp[h0]
  have hfin:finF l p c=(⟨[],[],[]⟩,false):=by unfold finF;rw[if_neg h0]
  rw[hfin]
  generalize (walkF noSee () l p c).2.1=s at hw ⊢
  generalize newSt p c=s0 at hw ⊢
  refine WL.seq (WL.sregC (RL.o (by simp;rfl) (RL.callK false [(800,[])] hw (by simp) (by simp) (by simp[gkey]) (by simp) (by simp) (RL.o (by simp[z];rfl) (RL.nil ⟨_,by simp;rfl,?_⟩)))))
  refine WL.cond (t:=true) (by simp) (fun _=>?_) (by simp)
  refine WL.sreg (by simp;rfl) (by simp;rfl) (WL.nil1 601 false 1 (by simp) (WL.nil1 602 false 1 (by simp) (WL.nil1 603 false 1 (by simp) (WL.ret ⟨.inr rfl,?_⟩))))
  simp[fi30]
end Go.OT
namespace Go.OT
open Go.Proofs
theorem RL.cut {P:Program}{nt:Nat}{L:SL}{K:SL→Prop}{segs segs':List Sg}(e:flatS segs=flatS segs')(h:RL P nt segs' L K):RL P nt segs L K:=by
 intro C ops idx hP hn hc
 rw[e] at hc
 exact h C ops idx hP hn hc
@[simp] theorem rng14:List.range 14=[0,1,2,3,4,5,6,7,8,9,10,11,12,13]:=rfl
abbrev evA:Ev:=⟨0,⟨1,0,0,0,0,[]⟩,⟨0,0,0,[]⟩,1,2,3⟩
abbrev evB:Ev:=⟨1,⟨2,0,0,0,0,[]⟩,⟨0,0,0,[]⟩,1,2,2⟩
abbrev evC:Ev:=⟨1,⟨2,0,0,0,0,[]⟩,⟨2,0,0,[]⟩,1,1,2⟩
abbrev evD:Ev:=⟨0,⟨1,0,0,0,0,[]⟩,⟨0,0,0,[]⟩,1,5,3⟩
theorem told_v0:chkF [] 2 2=0:=by kernel_rfl
theorem told_v1:chkF [evA,evB] 2 2=0:=by kernel_rfl
theorem told_v2:chkF [evA,evC] 2 2=0:=by kernel_rfl
theorem told_v3:chkF [evA] 0 2=-1:=by kernel_rfl
theorem told_v4:chkF [evD] 2 2=1:=by kernel_rfl
theorem told_v5:chkF [evB] 2 2=1:=by kernel_rfl
theorem told_v6:ordF [evA,evC]=[1,0]:=by kernel_rfl
theorem told_v7:(finF [evA] 2 2).2=true:=by kernel_rfl
theorem told_v8:badF 1 8=true∧badF 1 10=false:=⟨by kernel_rfl,by kernel_rfl⟩
theorem evOk_of {l:List Ev}(hn:l.length≤1000)(hd:∀ e ∈ l,e.op.Data=[]):EvOk l:=⟨hn,fun e he=>by rw[hd e he];simp⟩
set_option maxRecDepth 20000 in
set_option maxHeartbeats 32000000 in
theorem histTold_fn:FnC Try.prog 27 [] [] [] (bl true):=by
 have h0:=chk_fn [] (evOk_of (by simp) (by simp)) 2 2
 have h1:=chk_fn [evA,evB] (evOk_of (by simp) (by simp)) 2 2
 have h2:=chk_fn [evA,evC] (evOk_of (by simp) (by simp)) 2 2
 have h3:=chk_fn [evA] (evOk_of (by simp) (by simp)) 0 2
 have h4:=chk_fn [evD] (evOk_of (by simp) (by simp)) 2 2
 have h5:=chk_fn [evB] (evOk_of (by simp) (by simp)) 2 2
 have h6:=order_fn [evA,evC] (by simp)
 have h7:=fin_fn [evA] (evOk_of (by simp) (by simp)) 2 2
 have h8:=bad_fn ⟨1,0,0,0,0,[]⟩ 8
 have h9:=bad_fn ⟨1,0,0,0,0,[]⟩ 10
 rw[told_v0] at h0;rw[told_v1] at h1;rw[told_v2] at h2;rw[told_v3] at h3;rw[told_v4] at h4;rw[told_v5] at h5;rw[told_v6] at h6;rw[told_v7] at h7;rw[told_v8.1] at h8;rw[told_v8.2] at h9
 generalize (finF [evA] 2 2).1=s at h7
 refine FnC.go ok27 rfl ?_
 refine WL.sreg (by simp;rfl) (by simp;rfl) ?_
 refine WL.sreg (by simp;rfl) (by simp;rfl) (WL.nil1 107 false 1 (by simp) (WL.nil1 111 false 1 (by simp) ?_))
 refine WL.sreg (by simp;rfl) (by simp;rfl) (WL.nil1 207 false 1 (by simp) (WL.nil1 211 false 1 (by simp) ?_))
 refine WL.sreg (by simp;rfl) (by simp;rfl) (WL.nil1 307 false 1 (by simp) (WL.nil1 311 false 1 (by simp) ?_))
 refine WL.sregC (RL.o (by simp;rfl) (RL.freeze 1500 (RL.call0 false h7 (by simp) (by simp) (RL.o (by simp;rfl) (RL.nil ⟨_,by simp;rfl,?_⟩)))))
 refine WL.sregC ?_
 refine RL.call0 false h0 (by simp) (by simp) (RL.o (by simp;rfl) ?_)
 refine RL.g (by simp;rfl) (RL.freeze 2400 (RL.callY0 false (by simp) h1 (by simp) (by simp) (RL.g (by simp;rfl) (RL.o (by simp;rfl) ?_))))
 refine RL.fin [19,20,21,22,23,24,25,26,27] (by simp;rfl) ?_
 refine RL.g (by simp;rfl) (RL.freeze 3100 (RL.callY0 false (by simp) h2 (by simp) (by simp) (RL.g (by simp;rfl) (RL.o (by simp;rfl) ?_))))
 refine RL.fin [28,29,30,31,32,33,34] (by simp;rfl) ?_
 refine RL.g (by simp;rfl) (RL.freeze 3700 (RL.callY0 false (by simp) h3 (by simp) (by simp) (RL.g (by simp;rfl) (RL.o (by simp;rfl) ?_))))
 refine RL.fin [35,36,37,38,39,40] (by simp;rfl) ?_
 refine RL.cut (segs':=.g 41 true [.faddr 42 1 (.t 1),.ld 43 6 true (.t 42),.build 44 [(.sc (.int .i64 0)),(.sc (.int .i64 0)),(.sc (.int .i64 0)),(.sc (.int .i64 0)),(.sc (.int .i64 0)),(.sc (.int .i64 0)),(.sc (.slice none 0 0)),(.sc (.int .i64 0)),(.sc (.int .i64 0)),(.sc (.int .i64 0)),(.sc (.slice none 0 0)),(.sc (.int .i64 0)),(.sc (.int .i64 0)),(.sc (.int .i64 0))] [(1,6,(.t 43)),(11,1,(cI 1)),(12,1,(cI 5)),(13,1,(cI 3))]] :: .g 41 true [.bs1 45 14 (.t 44)] :: _) rfl ?_
 refine RL.g (by simp;rfl) (RL.nilA 44 10 1 (by simp;rfl) rfl rfl ?_)
 refine RL.g (by simp;rfl) (RL.freeze 4500 (RL.callY0 false (by simp) h4 (by simp) (by simp) (RL.g (by simp;rfl) (RL.o (by simp;rfl) ?_))))
 refine RL.fin [41,42,43,44,45,46,47,48] (by simp;rfl) ?_
 refine RL.g (by simp;rfl) (RL.freeze 5100 (RL.callY0 false (by simp) h5 (by simp) (by simp) (RL.g (by simp;rfl) (RL.o (by simp;rfl) ?_))))
 refine RL.fin [49,50,51,52,53,54] (by simp;rfl) ?_
 refine RL.g (by simp;rfl) (RL.freeze 5800 (RL.callY0 false (by simp) h6 (by simp) (by simp) (RL.g (by simp;rfl) (RL.o (by simp;rfl) ?_))))
 refine RL.fin [55,56,57,58,59,60,61,62] (by simp;rfl) ?_
 refine RL.g (by simp;rfl) (RL.freeze 6600 (RL.callY0 false (by simp) h6 (by simp) (by simp) (RL.g (by simp;rfl) (RL.o (by simp;rfl) ?_))))
 refine RL.fin [63,64,65,66,67,68,69,70,71] (by simp;rfl) ?_
 refine RL.g (by simp;rfl) (RL.o (by simp;rfl) ?_)
 refine RL.g (by simp;rfl) (RL.callY0 false (by simp) h8 (by simp) (by simp) (RL.o (by simp;rfl) ?_))
 refine RL.g (by simp;rfl) (RL.callY0 false (by simp) h9 (by simp) (by simp) (RL.g (by simp;rfl) (RL.o (by simp;rfl) (RL.nil ⟨_,by simp;rfl,WL.ret ⟨.inr rfl,?_⟩⟩))))
 simp[fi27]
end Go.OT
namespace Go.OT
open Go.Proofs
end Go.OT
namespace Go.OT
open Go.Proofs
theorem goW_ok {σ:Type}(l:List Ev)(see:σ→Int→St→σ):∀ (o:List Int) (s:St) (a:σ),OkSt s→OkSt (goW l see s a o).2.1
 | [],s,a,h=>h
 | x :: r,s,a,h=>by
  simp only[goW]
  split
  ·exact goW_ok l see r _ _ (stepR_ok h _)
  ·exact h
theorem finF_ok {l:List Ev}{p c:Int}(h:(finF l p c).2=true):OkSt (finF l p c).1:=by
 unfold finF at h ⊢
 split at h
 ·rename_i h0
  rw[if_pos h0]
  cases hb:newBad p c with
  | true=>unfold chkF walkF at h0;rw[hb] at h0;simp at h0
  | false =>
   have hok:=newSt_ok' hb
   unfold walkF
   rw[hb]
   simp only[Bool.false_eq_true,if_false]
   split
   ·exact hok
   ·exact goW_ok _ _ _ _ _ hok
 ·cases h
end Go.OT
namespace Go.OT
open Go.Proofs
def serC (l:List Cl)(i:Nat):Cl:=nearC (l.getD i ⟨0,⟨0,0,0,0,0,[]⟩⟩) 5 3
def serS (l:List Cl):Nat→St
 | 0=>newSt 5 3
 | i+1=>(DoB (serS l i) (serC l i).Client (serC l i).op).2.1
theorem serS_ok (l:List Cl):∀ n,OkSt (serS l n)
 | 0=>newSt_ok' (by kernel_rfl)
 | n+1=>(serS_ok l n).doB _ _
theorem serC_cl (l:List Cl)(i:Nat):0≤(serC l i).Client∧(serC l i).Client < 3:=by
 have:=(um_spec (l.getD i ⟨0,⟨0,0,0,0,0,[]⟩⟩).Client 3 (by decide) (by decide)).1
 simp only[serC,nearC]
 exact⟨by omega,by omega⟩
theorem serC_dl (l:List Cl)(i:Nat):(serC l i).op.Data.length≤8:=by
 simp only[serC,nearC,List.length_take];omega
@[simp] theorem lendL_ev (l:List Ev):lendL (l.flatMap (cellsEv false false))=l.flatMap (cellsEv false false):=by
 induction l with
 | nil=>rfl
 | cons e l ih =>
  rw[List.flatMap_cons,lendL_eq,List.map_append,← lendL_eq (l.flatMap _),ih]
  simp
abbrev hEv (l:List Ev):AU:=.sl true () 14 l.length (l.flatMap (cellsEv false false))
end Go.OT
namespace Go.OT
theorem RelT.wipe1 {C:Ctx}{X:XF Unit}{tm:Array Value}{w:World}(h:RelT C X tm w)(k:Nat)(p:List Nat)(hk:k % 100=0)(hkH:k ≠ 100 * H)(hH:(X (100 * H)).2=.non){N:AU}(hN:getN (X k).2 p=some N)(hn:N.isNode=true)(ho:ownQ (X k).2 p=true)
  (hsm:hdSame (X k).2 (setN (X k).2 p .dead)=true) (h2:∀ t,rootR [k] (X (100 * t)).2=true) (h3:∀ k',isCell k'→noR [k] (X k').2=true):RelT C (X.upd k (setN (X k).2 p .dead)) tm w:=by
 obtain⟨XL,β,I,rg,he,R,hs,ht⟩:=h
 subst he
 obtain⟨NL,hNL,hNe⟩:∃ NL,getN (XL k).2 p=some NL∧er NL=N:=by
  have:=hN
  simp only[erF,er_getN] at this
  cases hc:getN (XL k).2 p with
  | none=>simp [hc] at this
  | some NL =>
   rw[hc] at this
   exact⟨NL,rfl,by simpa using this⟩
 have hnL:NL.isNode=true:=by rw[← hNe,er_isNode] at hn;exact hn
 have hoL:ownQ (XL k).2 p=true:=by rw[← er_ownQ];exact ho
 have hHL:(XL (100 * H)).2=.non:=by
  have:er (XL (100 * H)).2=.non:=hH
  revert this
  generalize (XL (100 * H)).2=v
  intro h;cases v<;>simp [er] at h;rfl
 have R1:=R.takeP k H (by decide) p hkH (v:=.non) (x:=rg H) hNL hnL hoL (by simp[Mem]) (by simp[Sep]) (fun b o hb=>by simp[fp] at hb) (by simp[RR])
 have erg:(fun s=>if s=H then rg H else rg s)=rg:=by funext s;split<;>simp_all
 rw[erg] at R1
 have hM1:∀ j,j ≠ k→((XL.set k (setN (XL k).2 p .dead)).set (100 * H) .non) j=XL j:=fun j hj=>by
  by_cases e:j=100 * H
  ·subst e
   rw[XF.set_self,XF.set_ne _ _ hj]
   have:XL (100 * H)=((XL (100 * H)).1,.non):=by rw[← hHL]
   rw[this];rfl
  ·rw[XF.set_ne _ _ e,XF.set_ne _ _ hj]
 have hM2:(((XL.set k (setN (XL k).2 p .dead)).set (100 * H) .non) k).2=setN (XL k).2 p .dead:=by
  rw[XF.set_ne _ _ hkH,XF.set_self]
 have hsmL:hdSame (er (XL k).2) (er (setN (XL k).2 p .dead))=true:=by rw[er_setN];exact hsm
 have hroot:rootR [k] (setN (XL k).2 p .dead)=true:=by
  rw[← er_rootR]
  revert hsmL
  generalize er (setN (XL k).2 p .dead)=z
  generalize er (XL k).2=y
  intro h
  cases y<;>cases z<;>simp [hdSame] at h<;>rfl
 have R2:=R.regen R1 [k] H (fun j hj=>by simp at hj;subst hj;exact⟨hk,hkH⟩) (fun _ _=>rfl) (by
   rw[hM1 _ (Ne.symm hkH),hHL];rfl) (fun j hj _=>by
   rw[hM1 j (by intro e;subst e;simp at hj)]) (fun t=>by
   by_cases e:100 * t=k
   ·rw[e,hM2];exact hroot
   ·rw[hM1 _ e,← er_rootR];exact h2 t) (fun j hj=>by
   have:j ≠ k:=by intro e;subst e;unfold isCell at hj;omega
   rw[hM1 _ this,← er_noR];exact h3 j hj) (fun j hj=>by
   simp at hj;subst hj;rw[hM2];exact hsmL)
 refine⟨_,β,I,rg,?_,R2,hs,ht⟩
 rw[erF_ungen]
 funext j
 by_cases e:j=k
 ·subst e
  simp only[ungen,List.contains_cons,beq_self_eq_true,Bool.true_or,if_true,XF.upd_self,erF]
  rw[hM2,er_setN];rfl
 ·have hc:[k].contains j=false:=by simp[e]
  simp only[ungen,hc,Bool.false_eq_true,if_false,XF.upd_ne _ _ e,erF,hM1 j e]
section
variable {P:Program} {nt:Nat} {L:SL} {Q:Ex→SL→Prop}
def nodQ:Option AU→Bool
 | some N=>N.isNode
 | none=>false
@[simp] theorem nodQ_some (N:AU):nodQ (some N)=N.isNode:=rfl
def wipe1B (k:Nat)(p:List Nat)(L:SL):Bool:=decide (k % 100=0) && (!decide (k=100 * H) && ((fnL L (100 * H)).2.isNon && (nodQ (getN (fnL L k).2 p) && (ownQ (fnL L k).2 p && (hdSame (fnL L k).2 (setN (fnL L k).2 p .dead) && L.all fun e=>rootR [k] e.2.2 && (decide (e.1 % 100=0) || noR [k] e.2.2))))))
theorem RelT.wipe1L {C:Ctx}{tm:Array Value}{w:World}(h:RelT C (fnL L) tm w)(k:Nat)(p:List Nat)(hB:wipe1B k p L=true):RelT C (fnL (updL L k (setN (fnL L k).2 p .dead))) tm w:=by
 simp only[wipe1B,Bool.and_eq_true,decide_eq_true_eq,Bool.not_eq_true',decide_eq_false_iff_not,List.all_eq_true,Bool.or_eq_true] at hB
 obtain⟨a1,a2,a3,a5,a6,a7,a4⟩:=hB
 have a3':(fnL L (100 * H)).2=.non:=by
  revert a3
  generalize (fnL L (100 * H)).2=v
  intro h;cases v<;>simp [AV.isNon] at h;rfl
 obtain⟨N,hN,hn⟩:∃ N,getN (fnL L k).2 p=some N∧N.isNode=true:=by
  revert a5
  generalize getN (fnL L k).2 p=o
  intro h
  cases o with
  | none=>simp [nodQ] at h
  | some N=>exact ⟨N,rfl,h⟩
 have:=h.wipe1 k p a1 a2 a3' hN hn a6 a7 (fun t=>?_) (fun k' hc=>?_)
 ·rwa [fnL_upd] at this
 ·rcases fnL_mem L (100 * t) with h | ⟨e,he,_,h⟩
  ·rw[h];rfl
  ·rw[h];exact (a4 e he).1
 ·rcases fnL_mem L k' with h | ⟨e,he,e1,h⟩
  ·rw[h];rfl
  ·rw[h]
   rcases (a4 e he).2 with q | q
   ·rw[e1] at q;exact absurd q hc.1
   ·exact q
theorem WL.wipe1 {cc:Cd}(k:Nat)(p:List Nat)(hB:wipe1B k p L=true)(h:WL P nt cc (updL L k (setN (fnL L k).2 p .dead)) Q):WL P nt cc L Q:=by
 intro C code hP hn hc a w hd hR
 exact h C code hP hn hc a w hd (hR.wipe1L k p hB)
theorem RL.wipe1 {K:SL→Prop}{segs:List Sg}(k:Nat)(p:List Nat)(hB:wipe1B k p L=true)(h:RL P nt segs (updL L k (setN (fnL L k).2 p .dead)) K):RL P nt segs L K:=by
 intro C ops idx hP hnt hc a w Q hd hR hK
 exact h C ops idx hP hnt hc a w Q hd (hR.wipe1L k p hB) hK
theorem DL.callLF {K:SL→Fs→Prop}{rest:List Sg}{d f:Nat}{cs:List COd}{gs gs':List (Gh Unit)}{vs:List AU}{r:AU}{fs:Fs}(own:Bool)(ls:List (Nat × List Nat))(hfn:FnC P f gs vs gs' r)(hgs:ls.mapM (ghAt (fnL L))=some gs)(hnd:(ls.map (·.1)).Nodup)
  (has:trArgs (fnL L) ls own cs=some vs) (hs:sideOk own gs gs' r=true) (hcl:cleanL (setL (backL L (ls.zip gs')) (100 * d) (lend r))=true)
  (h:DL P nt rest (setL (backL L (ls.zip gs')) (100 * d) (lend r)) ((2 * d :: (ls.map (fun e=>unitK e.1) ++ (uOs (fnL L) cs ++ luOs (fnL L) own cs)),2 * d :: ls.map (fun e=>unitK e.1)) :: fs) K):DL P nt (.call none d f cs :: rest) L fs K:=by
 refine DL.cons (it:=.call none d f cs) (rest:=rest) (by simp[flatS]) (fun C ops i o hP hn hc0 hi hit=>?_) h
 have hzip:∀ e ∈ ls.zip gs',e.1 ∈ ls:=fun e he=>(List.of_mem_zip (a:=e.1) (b:=e.2) he).1
 have hcx:=cleanL_ok hcl
 have e0:fnL (setL (backL L (ls.zip gs')) (100 * d) (lend r))=(backU (fnL L) (ls.zip gs')).set (100 * d) (lend r):=by rw[← fnL_set,fnL_back]
 rw[e0] at hcx ⊢
 refine⟨fun u hu=>?_,fun k hk=>?_,hcx,fun X hX ha=>?_⟩
 ·simp only[List.mem_cons,List.mem_append] at hu ⊢
  rcases hu with hu | hu
  ·exact .inl hu
  ·exact .inr (.inl hu)
 ·have h1:k ≠ 100 * d:=fun e=>hk (by rw[e,unit_reg];simp)
  rw[XF.set_ne _ _ h1]
  refine backU_ne fun e he e'=>hk ?_
  rw[← e']
  exact List.mem_cons_of_mem _ (List.mem_map.2 ⟨e.1,hzip e he,rfl⟩)
 ·have hls:∀ e ∈ ls,X e.1=fnL L e.1:=fun e he=>ha e.1 (by
   simp only[List.mem_cons,List.mem_append]
   exact .inr (.inl (List.mem_map.2 ⟨e,he,rfl⟩)))
  have hzs:∀ e ∈ ls.zip gs',X e.1.1=fnL L e.1.1:=fun e he=>hls _ (hzip e he)
  have hag:agr (uOs (fnL L) cs ++ luOs (fnL L) own cs) X (fnL L):=fun k hk=>ha k (by
   simp only[List.mem_cons,List.mem_append] at hk ⊢
   exact .inr (.inr hk))
  have hd0:X (100 * d)=fnL L (100 * d):=ha _ (by rw[unit_reg];simp)
  have hsk0:=sok_call (ls:=ls) (gs:=gs) (gs':=gs') own hP hn hi hit hfn (by rw[mapM_agr hls];exact hgs) hnd (by rw[trArgs_agr hag];exact has) hs
  have hsk:SOk C ops i X ((backU X (ls.zip gs')).set (100 * d) (lend r)):=hsk0.weak fun tm w hR=>by
   have h2:=hR.freeze (100 * d)
   have e:((backU X (ls.zip gs')).set (100 * d) r).upd (100 * d) (lend (((backU X (ls.zip gs')).set (100 * d) r) (100 * d)).2)=(backU X (ls.zip gs')).set (100 * d) (lend r):=by
    funext j
    by_cases ej:j=100 * d
    ·subst ej;simp[XF.upd_self,XF.set_self,XF.set,XF.upd]
    ·rw[XF.upd_ne _ _ ej,XF.set_ne _ _ ej,XF.set_ne _ _ ej]
   rw[e] at h2
   exact h2
  have:mix (2 * d :: ls.map (fun e=>unitK e.1)) ((backU (fnL L) (ls.zip gs')).set (100 * d) (lend r)) X=(backU X (ls.zip gs')).set (100 * d) (lend r):=by
   funext k
   unfold mix
   by_cases hk:unitK k ∈ 2 * d :: ls.map (fun e=>unitK e.1)
   ·rw[if_pos hk]
    have hXk:X k=fnL L k:=by
     rcases List.mem_cons.1 hk with hk | hk
     ·rw[← unit_reg d] at hk
      rw[unitK_inj hk]
      exact hd0
     ·obtain⟨e,he,hke⟩:=List.mem_map.1 hk
      rw[← unitK_inj hke]
      exact hls e he
    have hb:=backU_agr hzs k hXk
    by_cases e:k=100 * d
    ·subst e
     simp only[XF.set,if_true,hb]
    ·rw[XF.set_ne _ _ e,XF.set_ne _ _ e,hb]
   ·rw[if_neg hk]
    have h1:k ≠ 100 * d:=fun e=>hk (by rw[e,unit_reg];simp)
    rw[XF.set_ne _ _ h1,backU_ne fun e he e'=>hk (by
     rw[← e']
     exact List.mem_cons_of_mem _ (List.mem_map.2 ⟨e.1,hzip e he,rfl⟩))]
  rw[this]
  exact hsk
end
attribute [simp] wipe1B
end Go.OT
namespace Go.OT
open Go.Proofs
theorem fmE_split {l:List Ev}{k:Nat}(h:k < l.length):l.flatMap (cellsEv false false)=(l.take k).flatMap (cellsEv false false) ++ (cellsEv false false l[k] ++ (l.drop (k+1)).flatMap (cellsEv false false)):=by
 conv=>lhs;rw[← List.take_append_drop k l,List.drop_eq_getElem_cons h]
 rw[List.flatMap_append,List.flatMap_cons]
theorem fmE_takeLen {l:List Ev}{k:Nat}(h:k < l.length):((l.take k).flatMap (cellsEv false false)).length=k * 14:=by
 rw[fmE_len,List.length_take,Nat.min_eq_left (by omega)]
theorem fmE_get {l:List Ev}{k j:Nat}(h:k < l.length)(hj:j < 14):(l.flatMap (cellsEv false false))[k * 14+j]?=(cellsEv false false l[k])[j]?:=by
 rw[fmE_split h,List.getElem?_append_right (by rw[fmE_takeLen h];omega),fmE_takeLen h,show k * 14+j - k * 14=j by omega,List.getElem?_append_left (by simpa using hj)]
theorem fmE_getE {l:List Ev}{k j:Nat}(h:k < l.length)(hj:j < 14){v:AU}(hv:(cellsEv false false l[k])[j]?=some v):∀ hh,(l.flatMap (cellsEv false false))[k * 14+j]'hh=v:=fun hh=>by
 have:=fmE_get h hj
 rw[List.getElem?_eq_getElem hh,hv] at this
 exact Option.some.inj this
theorem fmE_setk {l:List Ev}{k:Nat}(h:k < l.length)(e':Ev):(l.set k e').flatMap (cellsEv false false)=(l.take k).flatMap (cellsEv false false) ++ (cellsEv false false e' ++ (l.drop (k+1)).flatMap (cellsEv false false)):=by
 rw[List.set_eq_take_append_cons_drop,if_pos h,List.flatMap_append,List.flatMap_cons]
theorem set_mid {α:Type}(A X:List α)(b j:Nat)(v:α)(hA:A.length=b):(A ++ X).set (b+j) v=A ++ X.set j v:=by
 subst hA;rw[List.set_append_right _ _ (by omega)];congr 2;omega
theorem fmE_set1 {l:List Ev}{k j:Nat}(h:k < l.length){v:AU}{e':Ev}(he:∀ B:List AU,(cellsEv false false l[k] ++ B).set j v=cellsEv false false e' ++ B):(l.flatMap (cellsEv false false)).set (k * 14+j) v=(l.set k e').flatMap (cellsEv false false):=by
 rw[fmE_setk h,fmE_split h,set_mid _ _ _ _ _ (fmE_takeLen h),he]
theorem fmE_set5 {l:List Ev}{k:Nat}(h:k < l.length)(r:Rs):(((((l.flatMap (cellsEv false false)).set (k * 14+10) .dead).set (k * 14+7) (i64 r.Code)).set (k * 14+8) (i64 r.Page)).set (k * 14+9) (i64 r.Handle)).set (k * 14+10) (sU false r.Data)=(l.set k { l[k] with res:=r }).flatMap (cellsEv false false):=by
 rw[fmE_setk h,fmE_split h]
 simp only[set_mid _ _ _ _ _ (fmE_takeLen h)]
 rfl
theorem fmE_dropD {l:List Ev}{k:Nat}(h:k < l.length)(j:Nat):((l.flatMap (cellsEv false false)).set (k * 14+10) .dead).drop (k * 14+j)=((cellsEv false false l[k]).set 10 .dead ++ (l.drop (k+1)).flatMap (cellsEv false false)).drop j:=by
 rw[fmE_split h,set_mid _ _ _ _ _ (fmE_takeLen h)]
 have e:((l.take k).flatMap (cellsEv false false)).length=k * 14:=fmE_takeLen h
 rw[← e,List.drop_length_add_append]
 rfl
def finS (s:St)(e:Ev):St:=if e.Stamp=0 then (DoB s e.Client e.op).2.1 else s
def finN (e:Ev)(now:Int)(en:Bool):Int:=(if e.Stamp=0 then now+1 else now)+(if en=true then 1 else 0)
def finE (s:St)(e:Ev)(now:Int)(en:Bool):Ev :=
 let e1:Ev:=if e.Stamp=0 then { e with Stamp:=now+1,res:=(DoB s e.Client e.op).2.2 } else e
 if en=true then { e1 with End:=finN e now en } else { e1 with res:=⟨0,0,0,[]⟩ }
abbrev fsB (g:Nat)(s:St)(l:List Ev)(r:SL):SL:=[(100,0,.view 1000300 0 [] 0 l.length)] ++ (r ++ ([(1000000,g,sB true s.There),(1000100,g,sS true s.Body),(1000200,g,sII true s.Handles)] ++ [(1000300,0,hEv l)]))
abbrev fsX (s:St):SL:=[(500,0,.bptr 5 1 0),(501,0,.view 1000000 0 [] 0 s.There.length),(502,0,.view 1000100 0 [] 0 s.Body.length),(503,0,.view 1000200 0 [] 0 s.Handles.length),(599,1,.non)]
abbrev fsQ (s:St)(l:List Ev)(now:Int):Ex→SL→Prop:=fun e L=>e=Ex.ret∧RetOk fi95.rs (gsT s ++ [.nod (hEv l)]) (i64 now) L
set_option maxHeartbeats 16000000 in
theorem finish_end (g:Nat)(s:St)(l:List Ev)(hn:l.length≤1000)(k:Nat)(hk:k < l.length)(now:Int)(h0:0≤now)(h1:now≤1000000000)(en:Bool) :
  WL Try.prog fi95.nt c95_9 (fsB g s l [(200,0,i64 k),(300,0,i64 now),(4900,0,bl en)]) (Ex.thenL (fun L'=>WL Try.prog fi95.nt c95_10 L' (fsQ s (l.set k (if en=true then { l[k] with End:=now+1 } else { l[k] with res:=⟨0,0,0,[]⟩ })) (if en=true then now+1 else now))) (fsQ s (l.set k (if en=true then { l[k] with End:=now+1 } else { l[k] with res:=⟨0,0,0,[]⟩ })) (if en=true then now+1 else now))):=by
 have w:IntKind.wrap .i64 (now+1)=now+1:=by rw[wrap_small (by omega) (by omega)]
 have hL:=fmE_len false false l
 have i7:k * 14+7 < l.length * 14:=by omega
 have i8:k * 14+8 < l.length * 14:=by omega
 have i9:k * 14+9 < l.length * 14:=by omega
 have i10:k * 14+10 < l.length * 14:=by omega
 have i13:k * 14+13 < l.length * 14:=by omega
 have q13:=fmE_getE (j:=13) (v:=i64 l[k].End) hk (by decide) rfl
 have q7:=fmE_getE (j:=7) (v:=i64 l[k].res.Code) hk (by decide) rfl
 have q8:=fmE_getE (j:=8) (v:=i64 l[k].res.Page) hk (by decide) rfl
 have q9:=fmE_getE (j:=9) (v:=i64 l[k].res.Handle) hk (by decide) rfl
 have q10:=fmE_getE (j:=10) (v:=sU false l[k].res.Data) hk (by decide) rfl
 cases en with
 | true =>
  have hs:=fmE_set1 (l:=l) (k:=k) (j:=13) hk (v:=i64 (now+1)) (e':={ l[k] with End:=now+1 }) (fun B=>rfl)
  refine WL.cond (t:=true) (by simp) (fun _=>?_) (by simp)
  refine WL.sreg (by simp[w];rfl) (by simp;rfl) ?_
  refine WL.reg (RL.run (by simp[hk,q13,hL,i13];rfl) ⟨_,by simp;rfl,?_⟩)
  refine WL.sreg (by simp;rfl) (by simp;rfl) (WL.ret ⟨rfl,?_⟩)
  simp[fi95,← hs]
 | false =>
  have hs:=fmE_set5 (l:=l) (k:=k) hk ⟨0,0,0,[]⟩
  refine WL.cond (t:=false) (by simp) (by simp) fun _=>?_
  refine WL.wipe1 1000300 [k * 14+10] (by simp[hk,q10,hL,i10]) ?_
  refine WL.reg ?_
  refine RL.cut (segs':=.o [.mov 57 (.t 1),.mov 58 (.t 2),.build 59 [(.sc (.int .i64 0)),(.sc (.int .i64 0)),(.sc (.int .i64 0)),(.sc (.slice none 0 0))] []] :: .o [.iaddr 60 14 (.t 57) (.t 58),.faddr 61 7 (.t 60),.st 4 (.t 61) (.t 59)] :: []) rfl ?_
  refine RL.o (by simp;rfl) (RL.nilA 59 3 1 (by simp;rfl) rfl rfl ?_)
  refine RL.o (by simp[hk,q7,q8,q9,hL,i7,i8,i9,i10];rfl) (RL.nil ⟨_,by simp;rfl,?_⟩)
  refine WL.sreg (by simp;rfl) (by simp;rfl) (WL.ret ⟨rfl,?_⟩)
  simp[fi95,← hs]
  rfl
set_option maxHeartbeats 16000000 in
theorem finish_do (s:St)(hok:OkSt s)(l:List Ev)(hn:l.length≤1000)(k:Nat)(hk:k < l.length)(hD:l[k].op.Data.length≤1000)(now:Int)(h0:0≤now)(h1:now≤1000000000)(en:Bool)(K:Ex→SL→Prop)
  (hK:K .nrm (fsB 1 (DoB s l[k].Client l[k].op).2.1 (l.set k { l[k] with Stamp:=now+1,res:=(DoB s l[k].Client l[k].op).2.2 }) [(200,0,i64 k),(300,0,i64 (now+1)),(400,0,bl en)])) :
  WL Try.prog fi95.nt c95_4 (fsB 0 s l ([(200,0,i64 k),(300,0,i64 now),(400,0,bl en)] ++ (fsX s ++ [(2500,0,bl true)]))) K:=by
 have w:IntKind.wrap .i64 (now+1)=now+1:=by rw[wrap_small (by omega) (by omega)]
 have hdo:=refdo_fn s hok l[k].Client l[k].op (by unfold Small;omega)
 have hL:=fmE_len false false l
 have i0:k * 14+0 < l.length * 14:=by omega
 have i12:k * 14+12 < l.length * 14:=by omega
 have q12:=fmE_getE (j:=12) (v:=i64 l[k].Stamp) hk (by decide) rfl
 have hs1:=fmE_set1 (l:=l) (k:=k) (j:=12) hk (v:=i64 (now+1)) (e':={ l[k] with Stamp:=now+1 }) (fun B=>rfl)
 refine WL.sreg (by simp[w];rfl) (by simp;rfl) ?_
 refine WL.sreg (by simp[hk,q12,hL,i12];rfl) (by simp;rfl) ?_
 rw[hs1]
 have hk1:k < (l.set k { l[k] with Stamp:=now+1 }).length:=by simpa using hk
 have hg1:(l.set k { l[k] with Stamp:=now+1 })[k]={ l[k] with Stamp:=now+1 }:=by simp
 have hL1:(l.set k { l[k] with Stamp:=now+1 }).length=l.length:=by simp
 have hset:∀ r:Rs,(l.set k { l[k] with Stamp:=now+1 }).set k { ({ l[k] with Stamp:=now+1 }:Ev) with res:=r }=l.set k { l[k] with Stamp:=now+1,res:=r }:=fun r=>by simp
 have hs5:=fun r=>fmE_set5 hk1 r
 have hdr:=fun j=>fmE_dropD hk1 j
 have hp:=fun j (h:j < 14)=>fmE_get (l:=l.set k { l[k] with Stamp:=now+1 }) (j:=j) hk1 h
 have hq:=fun j v (h:j < 14)=>fmE_getE (l:=l.set k { l[k] with Stamp:=now+1 }) (j:=j) (v:=v) hk1 h
 rw[hg1] at hs5 hdr hq hp
 have hL2:=fmE_len false false (l.set k { l[k] with Stamp:=now+1 })
 rw[hL1] at hL2
 clear hs1 q12 hL
 generalize l[k]=e at *
 obtain⟨ec,eo,er,eb,es,ee⟩:=e
 simp only at hdo hK hset hs5 hdr hq hp hk1 hg1 hL1 hL2 ⊢
 generalize (l.set k ⟨ec,eo,er,eb,now+1,ee⟩)=l1 at *
 have q0:∀ (hh:k * 14 < (l1.flatMap (cellsEv false false)).length),(l1.flatMap (cellsEv false false))[k * 14]'hh=i64 ec:=hq 0 (i64 ec) (by decide) rfl
 have q1:∀ (hh:k * 14+1 < (l1.flatMap (cellsEv false false)).length),(l1.flatMap (cellsEv false false))[k * 14+1]'hh=i64 eo.Kind:=hq 1 (i64 eo.Kind) (by decide) rfl
 have q2:∀ (hh:k * 14+1+1 < (l1.flatMap (cellsEv false false)).length),(l1.flatMap (cellsEv false false))[k * 14+1+1]'hh=i64 eo.Page:=hq 2 (i64 eo.Page) (by decide) rfl
 have q3:∀ (hh:k * 14+1+2 < (l1.flatMap (cellsEv false false)).length),(l1.flatMap (cellsEv false false))[k * 14+1+2]'hh=i64 eo.Handle:=hq 3 (i64 eo.Handle) (by decide) rfl
 have q4:∀ (hh:k * 14+1+3 < (l1.flatMap (cellsEv false false)).length),(l1.flatMap (cellsEv false false))[k * 14+1+3]'hh=i64 eo.Off:=hq 4 (i64 eo.Off) (by decide) rfl
 have q5:∀ (hh:k * 14+1+4 < (l1.flatMap (cellsEv false false)).length),(l1.flatMap (cellsEv false false))[k * 14+1+4]'hh=i64 eo.N:=hq 5 (i64 eo.N) (by decide) rfl
 have q6:∀ (hh:k * 14+1+5 < (l1.flatMap (cellsEv false false)).length),(l1.flatMap (cellsEv false false))[k * 14+1+5]'hh=sU false eo.Data:=hq 6 (sU false eo.Data) (by decide) rfl
 have q7:∀ (hh:k * 14+7 < (l1.flatMap (cellsEv false false)).length),(l1.flatMap (cellsEv false false))[k * 14+7]'hh=i64 er.Code:=hq 7 (i64 er.Code) (by decide) rfl
 have q8:∀ (hh:k * 14+7+1 < (l1.flatMap (cellsEv false false)).length),(l1.flatMap (cellsEv false false))[k * 14+7+1]'hh=i64 er.Page:=hq 8 (i64 er.Page) (by decide) rfl
 have q9:∀ (hh:k * 14+7+2 < (l1.flatMap (cellsEv false false)).length),(l1.flatMap (cellsEv false false))[k * 14+7+2]'hh=i64 er.Handle:=hq 9 (i64 er.Handle) (by decide) rfl
 have q10:∀ (hh:k * 14+10 < (l1.flatMap (cellsEv false false)).length),(l1.flatMap (cellsEv false false))[k * 14+10]'hh=sU false er.Data:=hq 10 (sU false er.Data) (by decide) rfl
 have p1:(l1.flatMap (cellsEv false false))[k * 14+1]?=some (i64 eo.Kind):=hp 1 (by decide)
 have p2:(l1.flatMap (cellsEv false false))[k * 14+1+1]?=some (i64 eo.Page):=hp 2 (by decide)
 have p3:(l1.flatMap (cellsEv false false))[k * 14+1+2]?=some (i64 eo.Handle):=hp 3 (by decide)
 have p4:(l1.flatMap (cellsEv false false))[k * 14+1+3]?=some (i64 eo.Off):=hp 4 (by decide)
 have p5:(l1.flatMap (cellsEv false false))[k * 14+1+4]?=some (i64 eo.N):=hp 5 (by decide)
 have p6:(l1.flatMap (cellsEv false false))[k * 14+1+5]?=some (sU false eo.Data):=hp 6 (by decide)
 have i7:k * 14+7 < l.length * 14:=by omega
 have i8:k * 14+8 < l.length * 14:=by omega
 have i9:k * 14+9 < l.length * 14:=by omega
 have i10:k * 14+10 < l.length * 14:=by omega
 have b1:k * 14+1≤l.length * 14:=by omega
 have b2:k * 14+1+6≤l.length * 14:=by omega
 refine WL.wipe1 1000300 [k * 14+10] (by simp[q10,hL2,i10]) ?_
 refine WL.draw mixed (by simp[cleanL,noH]) (DL.o (by simp[hk,q0,q1,q2,q3,q4,q5,q6,p1,p2,p3,p4,p5,p6,hL2,i10,b1,b2];exact⟨rfl,rfl⟩) ?_)
 generalize DoB s ec eo=dd at hdo hK
 obtain⟨o',t,r⟩:=dd
 simp only at hdo hK
 have hs5':=hs5 r
 rw[hset] at hs5'
 refine DL.callLF true [(1000000,[]),(1000100,[]),(1000200,[])] hdo (by simp) (by simp) (by simp[gkey]) (side_do s t r) (by simp[cleanL,noH]) ?_
 refine DL.o (by simp[hk,q7,q8,q9,hL2,i7,i8,i9,i10];exact⟨rfl,rfl⟩) (DL.nil ⟨by kernel_rfl,_,by simp;rfl,?_⟩)
 unfold fsB hEv at hK
 rw[← hs5',List.length_set] at hK
 exact hK
set_option maxHeartbeats 16000000 in
theorem finish_tail (g:Nat)(s:St)(l:List Ev)(hn:l.length≤1000)(k:Nat)(hk:k < l.length)(now:Int)(h0:0≤now)(h1:now≤1000000000)(en:Bool)(r:SL)(hr:r=[]∨(g=0∧r=fsX s ++ [(2500,0,bl false)])) :
  WL Try.prog fi95.nt c95_11 (fsB g s l ([(200,0,i64 k),(300,0,i64 now),(400,0,bl en)] ++ r)) (fsQ s (l.set k (if en=true then { l[k] with End:=now+1 } else { l[k] with res:=⟨0,0,0,[]⟩ })) (if en=true then now+1 else now)):=by
 have:=finish_end 0 s l hn k hk now h0 h1 en
 rcases hr with rfl | ⟨rfl,rfl⟩
 ·refine WL.seq (WL.sreg (by simp;rfl) (by simp;rfl) ?_)
  exact this
 ·refine WL.seq (WL.sreg (by simp;rfl) (by simp;rfl) ?_)
  exact this
set_option maxHeartbeats 16000000 in
theorem finish_fn (s:St)(hok:OkSt s)(l:List Ev)(hn:l.length≤1000)(k:Nat)(hk:k < l.length)(hD:l[k].op.Data.length≤1000)(now:Int)(h0:0≤now)(h1:now≤100000000)(en:Bool) :
  FnC Try.prog 95 (gsT s ++ [.nod (hEv l)]) [vwT s,.view 1000300 0 [] 0 l.length,i64 k,i64 now,bl en] (gsT (finS s l[k]) ++ [.nod (hEv (l.set k (finE s l[k] now en)))]) (i64 (finN l[k] now en)):=by
 have hL:=fmE_len false false l
 have i12:k * 14+12 < l.length * 14:=by omega
 have j12:k * 14+12+1≤l.length * 14:=by omega
 have q12:=fmE_getE (j:=12) (v:=i64 l[k].Stamp) hk (by decide) rfl
 have p1:¬ (k:Int) < 0:=by omega
 have p2:¬ (l.length:Int)≤k:=by omega
 have p2':¬ l.length≤k:=by omega
 refine FnC.go ok95 rfl ?_
 refine WL.mono (Q':=fsQ (finS s l[k]) (l.set k (finE s l[k] now en)) (finN l[k] now en)) ?_ fun x L h=>⟨.inr h.1,h.2⟩
 refine WL.sregC (RL.boxW (by simp;rfl) (by simp) (by simp[isVw]) (by simp) (RL.o (by simp;rfl) (RL.nil ⟨_,by simp;rfl,?_⟩)))
 refine WL.seq (WL.sreg (by simp[p1,p2,p2'];rfl) (by simp;rfl) ?_)
 refine WL.cond (t:=false) (by simp[p2,p2']) (by simp) fun _=>WL.skip ?_
 refine WL.seq ?_
 by_cases z:l[k].Stamp=0
 ·have z':(l[k].Stamp == 0)=true:=by simp[z]
  refine WL.sreg (by simp[hk,q12,hL,i12,j12,z'];rfl) (by simp;rfl) ?_
  refine WL.cond (t:=true) (by simp) (fun _=>?_) (by simp)
  refine finish_do s hok l hn k hk hD now h0 (by omega) en _ ?_
  have ht:=finish_tail 1 (DoB s l[k].Client l[k].op).2.1 (l.set k { l[k] with Stamp:=now+1,res:=(DoB s l[k].Client l[k].op).2.2 }) (by simpa using hn) k (by simpa using hk) (now+1) (by omega) (by omega) en [] (.inl rfl)
  have e1:finS s l[k]=(DoB s l[k].Client l[k].op).2.1:=by simp[finS,z]
  have e2:(l.set k { l[k] with Stamp:=now+1,res:=(DoB s l[k].Client l[k].op).2.2 }).set k (if en=true then { (l.set k { l[k] with Stamp:=now+1,res:=(DoB s l[k].Client l[k].op).2.2 })[k]'(by simpa using hk) with End:=now+1+1 } else { (l.set k { l[k] with Stamp:=now+1,res:=(DoB s l[k].Client l[k].op).2.2 })[k]'(by simpa using hk) with res:=⟨0,0,0,[]⟩ })=l.set k (finE s l[k] now en):=by
   cases en<;>simp [finE,finN,z]
  have e3:(if en=true then now+1+1 else now+1)=finN l[k] now en:=by cases en<;>simp [finN,z]
  rw[e2,e3] at ht
  rw[e1]
  simpa using ht
 ·have z':(l[k].Stamp == 0)=false:=beq_false_of_ne z
  refine WL.sreg (by simp[hk,q12,hL,i12,j12,z'];rfl) (by simp;rfl) ?_
  refine WL.cond (t:=false) (by simp) (by simp) fun _=>WL.skip ?_
  have ht:=finish_tail 0 s l hn k hk now h0 (by omega) en (fsX s ++ [(2500,0,bl false)]) (.inr ⟨rfl,rfl⟩)
  have e1:finS s l[k]=s:=by simp[finS,z]
  have e2:(if en=true then { l[k] with End:=now+1 } else { l[k] with res:=⟨0,0,0,[]⟩ })=finE s l[k] now en:=by
   cases en<;>simp [finE,finN,z]
  have e3:(if en=true then now+1 else now)=finN l[k] now en:=by cases en<;>simp [finN,z]
  rw[e2,e3] at ht
  rw[e1]
  exact ht
end Go.OT
namespace Go.OT
open Go.Proofs
structure Mk where
 s:St
 out:List Ev
 op:List Int
 now:Int
def mkF (m:Mk)(k:Int)(en:Bool):Mk:=⟨finS m.s (atE m.out k),m.out.set k.toNat (finE m.s (atE m.out k) m.now en),m.op,finN (atE m.out k) m.now en⟩
def mkO (m:Mk)(c:Nat)(v:Int):Mk:=⟨m.s,m.out,m.op.set c v,m.now⟩
def mkEnd (m:Mk)(c:Nat):Mk:=if 0≤m.op.getD c 0 then mkO (mkF m (m.op.getD c 0) true) c (-1) else m
def mkAdd (m:Mk)(c:Nat)(q:Op):Mk:=⟨m.s,m.out ++ [⟨c,q,⟨0,0,0,[]⟩,m.now+1,0,0⟩],m.op.set c m.out.length,m.now+1⟩
def an1 (w:Int):Int:=IntKind.wrap .i64 (((w % 2 ^ IntKind.i64.bits).toNat &&& 1 % 2 ^ IntKind.i64.bits:Nat):Int)
def an2 (w:Int):Int:=IntKind.wrap .i64 (((w % 2 ^ IntKind.i64.bits).toNat &&& 2 % 2 ^ IntKind.i64.bits:Nat):Int)
def fl1 (w:Int):Bool:=an1 w == 1
def fl2 (w:Int):Bool:=an2 w == 2
def mkRest (m:Mk)(c:Nat)(en:Bool):Mk:=if en=true then mkO (mkF m (m.out.length - 1:Nat) true) c (-1) else mkF m (m.out.length - 1:Nat) false
def mkRound (m:Mk)(x:Cl)(w:Int):Mk :=
 if fl1 w=true then mkRest (mkAdd (mkEnd m x.Client.toNat) x.Client.toNat x.op) x.Client.toNat (fl2 w) else mkAdd (mkEnd m x.Client.toNat) x.Client.toNat x.op
def mkAll (l:List Cl)(wt:List Int):Nat→Mk
 | 0=>⟨newSt 5 3,[],[-1,-1,-1],0⟩
 | i+1=>mkRound (mkAll l wt i) (serC l i) (wt.getD i 0)
structure MkOk (m:Mk) (i:Nat):Prop where
 s:OkSt m.s
 n:m.out.length=i
 o:m.op.length=3
 r:∀ x ∈ m.op,x=-1∨(0≤x∧x < m.out.length)
 n0:0≤m.now
 n1:m.now≤10 * i
 d:∀ e ∈ m.out,e.op.Data.length≤8
theorem finS_ok {s:St}(h:OkSt s)(e:Ev):OkSt (finS s e):=by unfold finS;split;exact h.doB _ _;exact h
theorem finE_op (s:St)(e:Ev)(now:Int)(en:Bool):(finE s e now en).op=e.op:=by
 unfold finE;cases en<;>by_cases z:e.Stamp=0<;>simp [z]
theorem finN_le (e:Ev)(now:Int)(en:Bool):now≤finN e now en∧finN e now en≤now+2:=by
 unfold finN;split<;>split<;>omega
structure MkK (m:Mk) (n:Nat) (t:Int):Prop where
 s:OkSt m.s
 n:m.out.length=n
 o:m.op.length=3
 r:∀ x ∈ m.op,x=-1∨(0≤x∧x < m.out.length)
 n0:0≤m.now
 n1:m.now≤t
 d:∀ e ∈ m.out,e.op.Data.length≤8
theorem MkK.f {m:Mk}{n:Nat}{t:Int}(h:MkK m n t){k:Nat}(hk:k < n)(en:Bool):MkK (mkF m (k:Int) en) n (t+2):=by
 have hk':k < m.out.length:=by rw[h.n];exact hk
 have ha:atE m.out (k:Int)=m.out[k]:=atE_at hk'
 have hN:=finN_le (atE m.out (k:Int)) m.now en
 refine⟨finS_ok h.s _,by simp[mkF,h.n],h.o,fun x hx=>?_,?_,?_,fun e he=>?_⟩
 ·have:=h.r x hx
  simpa [mkF] using this
 ·have:=h.n0;simp only[mkF];omega
 ·have:=h.n1;simp only[mkF];omega
 ·simp only[mkF] at he
  rcases List.mem_or_eq_of_mem_set he with he | rfl
  ·exact h.d e he
  ·rw[finE_op,ha];exact h.d _ (List.getElem_mem hk')
theorem MkK.set {m:Mk}{n:Nat}{t:Int}(h:MkK m n t)(c:Nat){v:Int}(hv:v=-1∨(0≤v∧v < n)):MkK (mkO m c v) n t:=by
 refine⟨h.s,h.n,by simp[mkO,h.o],fun x hx=>?_,h.n0,h.n1,h.d⟩
 simp only[mkO] at hx
 rcases List.mem_or_eq_of_mem_set hx with hx | rfl
 ·exact h.r x hx
 ·rw[show (mkO m c x).out.length=n from h.n];exact hv
theorem MkK.mono {m:Mk}{n:Nat}{t u:Int}(h:MkK m n t)(hu:t≤u):MkK m n u:=⟨h.s,h.n,h.o,h.r,h.n0,by have:=h.n1;omega,h.d⟩
theorem MkK.add {m:Mk}{n:Nat}{t:Int}(h:MkK m n t)(c:Nat)(q:Op)(hq:q.Data.length≤8):MkK (mkAdd m c q) (n+1) (t+1):=by
 refine⟨h.s,by simp[mkAdd,h.n],by simp[mkAdd,h.o],fun x hx=>?_,by have:=h.n0;simp only[mkAdd];omega,by have:=h.n1;simp only[mkAdd];omega,fun e he=>?_⟩
 ·simp only[mkAdd] at hx ⊢
  rw[List.length_append]
  rcases List.mem_or_eq_of_mem_set hx with hx | rfl
  ·have:=h.r x hx;simp;omega
  ·right;simp;omega
 ·simp only[mkAdd,List.mem_append,List.mem_singleton] at he
  rcases he with he | rfl
  ·exact h.d e he
  ·exact hq
theorem MkK.op {m:Mk}{n:Nat}{t:Int}(h:MkK m n t){c:Nat}(hc:c < 3)(h0:0≤m.op.getD c 0):∃ k:Nat,k < n∧m.op.getD c 0=(k:Int):=by
 have hc':c < m.op.length:=by rw[h.o];exact hc
 have e:m.op.getD c 0=m.op[c]:=by simp[hc']
 rw[e] at h0 ⊢
 have:=h.r _ (List.getElem_mem hc')
 rw[h.n] at this
 obtain⟨k,hk⟩:=Int.eq_ofNat_of_zero_le h0
 exact⟨k,by omega,hk⟩
theorem MkK.fin {m:Mk}{n:Nat}{t:Int}(h:MkK m n t){c:Nat}(hc:c < 3):MkK (mkEnd m c) n (t+2):=by
 unfold mkEnd
 split
 ·rename_i h0
  obtain⟨k,hk,e⟩:=h.op hc h0
  rw[e]
  exact (h.f hk true).set c (.inl rfl)
 ·exact h.mono (by omega)
end Go.OT
namespace Go.OT
open Go.Proofs
abbrev rcO (b:Nat)(s:St):SL:=[(100 * b,0,.bptr b 1 0),(100 * b+1,0,sB true s.There),(100 * b+2,0,sS true s.Body),(100 * b+3,0,sII true s.Handles),(100 * b+99,1,.non)]
abbrev mkT (l:List Cl)(wt:List Int)(m:Mk)(i:Nat)(r:SL):SL:=[(0,0,sCl l),(100,0,sI false wt)] ++ (rcO 5 m.s ++ ([(600,0,hEv m.out),(700,0,sI true m.op),(800,0,i64 m.now),(900,0,i64 i)] ++ r))
abbrev bx10 (c:Cl):SL:=[(1000,0,.bptr 10 1 0),(1001,0,i64 c.Client),(1002,0,i64 c.op.Kind),(1003,0,i64 c.op.Page),(1004,0,i64 c.op.Handle),(1005,0,i64 c.op.Off),(1006,0,i64 c.op.N),(1007,0,sU false c.op.Data),(1099,1,.non)]
set_option maxHeartbeats 16000000 in
theorem mk_end (l:List Cl)(wt:List Int)(m:Mk)(i:Nat)(hi:i≤100)(h:MkK m i (10 * i))(x:Cl)(c:Nat)(hc:c < 3)(ex:x.Client=c)(w:Int)(K:Ex→SL→Prop)
  (hK:∀ L,L=mkT l wt (mkEnd m c) i (bx10 x ++ [(1100,0,i64 w)])→WL Try.prog fi39.nt c39_15 L K) :
  WL Try.prog fi39.nt c39_16 (mkT l wt m i (bx10 x ++ [(1100,0,i64 w)])) K:=by
 have hn:=h.n
 have ho:=h.o
 have hc':c < m.op.length:=by omega
 have e0:m.op.getD c 0=m.op[c]:=by simp[hc']
 have c1:c+1≤3:=hc
 have cI:(c:Int) < 3:=by omega
 refine WL.seq (WL.sreg (by simp[ex,ho,hc,hc',c1,cI];rfl) (by simp;rfl) ?_)
 by_cases p:0≤m.op[c]
 ·obtain⟨k,hk,ek⟩:=h.op hc (by rw[e0];exact p)
  have ek':m.op[c]=(k:Int):=by rw[← e0];exact ek
  have hk':k < m.out.length:=by omega
  have hf:=finish_fn m.s h.s m.out (by omega) k hk' (by have:=h.d _ (List.getElem_mem hk');omega) m.now h.n0 (by have:=h.n1;omega) true
  have eM:mkEnd m c=mkO (mkF m (k:Int) true) c (-1):=by unfold mkEnd;rw[e0,ek',if_pos (by omega)]
  have eA:atE m.out (k:Int)=m.out[k]:=atE_at hk'
  refine WL.sreg (by simp[p];rfl) (by simp;rfl) ?_
  refine WL.cond (t:=true) (by simp[p]) (fun _=>?_) (by simp)
  rw[ek']
  refine WL.sregC (RL.o (by simp;rfl) (RL.call false [(501,[]),(502,[]),(503,[]),(600,[])] hf (by simp) (by simp) (by simp[gkey]) (by simp) ?_))
  refine RL.o (by simp;rfl) (RL.nil ⟨_,by simp;rfl,?_⟩)
  refine WL.reg (RL.run (by simp[ex,ho,hc,hc',c1,cI];rfl) ⟨_,by simp;rfl,hK _ ?_⟩)
  rw[eM]
  simp[mkO,mkF,eA,ho,ex]
 ·have eM:mkEnd m c=m:=by unfold mkEnd;rw[e0,if_neg p]
  refine WL.sreg (by simp[p];rfl) (by simp;rfl) ?_
  refine WL.cond (t:=false) (by simp[p]) (by simp) fun _=>WL.skip ?_
  rw[eM] at hK
  refine WL.fin [12,40] (by simp;rfl) (hK _ ?_)
  simp[ex,ho]
set_option maxHeartbeats 16000000 in
theorem mk_add (l:List Cl)(wt:List Int)(m:Mk)(i:Nat)(hi:i≤100)(h:MkK m i (10 * i+2))(x:Cl)(c:Nat)(hc:c < 3)(ex:x.Client=c)(w:Int)(K:Ex→SL→Prop)
  (hK:∀ L,L=mkT l wt (mkAdd m c x.op) i (bx10 x ++ [(1100,0,i64 w)])→WL Try.prog fi39.nt c39_12 L K) :
  WL Try.prog fi39.nt c39_15 (mkT l wt m i (bx10 x ++ [(1100,0,i64 w)])) K:=by
 have hn:=h.n
 have ho:=h.o
 have hc':c < m.op.length:=by omega
 have c1:c+1≤3:=hc
 have cI:(c:Int) < 3:=by omega
 have w1:IntKind.wrap .i64 (m.now+1)=m.now+1:=by rw[wrap_small (by have:=h.n0;omega) (by have:=h.n1;omega)]
 have m1:(m.out.length+1) * 144≤140737488355328:=by omega
 have m2:m.out.length+1≤maxLen:=by unfold maxLen;omega
 have w2:IntKind.wrap .i64 ((m.out.length:Int)+1 - 1)=(m.out.length:Int):=by rw[wrap_small (by omega) (by omega)];omega
 have w3:IntKind.wrap .i64 (m.out.length:Int)=(m.out.length:Int):=by rw[wrap_small (by omega) (by omega)]
 have tk:List.take (m.out.length * 14) (m.out.flatMap (cellsEv false false))=m.out.flatMap (cellsEv false false):=List.take_of_length_le (by rw[fmE_len];exact Nat.le_refl _)
 refine WL.sreg (by simp[w1];rfl) (by simp;rfl) ?_
 refine WL.sregC ?_
 refine RL.cut (segs':=.o [.mov 52 (.t 6),.faddr 53 0 (.t 10),.ld 54 1 false (.t 53),.faddr 55 1 (.t 10),.ld 56 6 true (.t 55),.mov 57 (.t 8),.build 58 [(.sc (.int .i64 0)),(.sc (.int .i64 0)),(.sc (.int .i64 0)),(.sc (.int .i64 0)),(.sc (.int .i64 0)),(.sc (.int .i64 0)),(.sc (.slice none 0 0)),(.sc (.int .i64 0)),(.sc (.int .i64 0)),(.sc (.int .i64 0)),(.sc (.slice none 0 0)),(.sc (.int .i64 0)),(.sc (.int .i64 0)),(.sc (.int .i64 0))] [(0,1,(.t 54)),(1,6,(.t 56)),(11,1,(.t 57))]] :: .o [.bs1 59 14 (.t 58),.app 60 14 144 (.t 52) (.t 59),.asg 6 (.t 60)] :: []) rfl ?_
 refine RL.o (by simp;rfl) (RL.nilA 58 10 1 (by simp;rfl) rfl rfl ?_)
 refine RL.o (by simp[m1,m2];rfl) (RL.nil ⟨_,by simp;rfl,?_⟩)
 refine WL.sreg (by simp[ex,ho,hc,hc',c1,cI,w2,w3];rfl) (by simp;rfl) (hK _ ?_)
 have tk2:List.take ((m.out.length+1) * 14) (m.out.flatMap (cellsEv false false) ++ cellsEv false false ⟨c,x.op,⟨0,0,0,[]⟩,m.now+1,0,0⟩)=m.out.flatMap (cellsEv false false) ++ cellsEv false false ⟨c,x.op,⟨0,0,0,[]⟩,m.now+1,0,0⟩:=List.take_of_length_le (by rw[List.length_append,fmE_len];simp;omega)
 simp[mkAdd,ho,ex,tk,List.flatMap_append]
 exact tk2
set_option maxHeartbeats 16000000 in
theorem mk_rest (l:List Cl)(wt:List Int)(m:Mk)(i:Nat)(hi:i≤100)(h:MkK m (i+1) (10 * i+3))(x:Cl)(c:Nat)(hc:c < 3)(ex:x.Client=c)(w:Int)(K:Ex→SL→Prop)
  (hK:∀ L,(∃ r,L=mkT l wt (if fl1 w=true then mkRest m c (fl2 w) else m) i r∧(r=bx10 x ++ [(1100,0,i64 w),(7000,0,bl false)]∨r=bx10 x ++ [(8300,0,bl false)]∨r=[]))→K .nrm L) :
  WL Try.prog fi39.nt c39_12 (mkT l wt m i (bx10 x ++ [(1100,0,i64 w)])) K:=by
 have hn:=h.n
 have ho:=h.o
 have hc':c < m.op.length:=by omega
 have c1:c+1≤3:=hc
 have cI:(c:Int) < 3:=by omega
 have hk':i < m.out.length:=by omega
 have wl:IntKind.wrap .i64 ((m.out.length:Int) - 1)=(i:Int):=by rw[wrap_small (by omega) (by omega)];omega
 have eA:atE m.out (i:Int)=m.out[i]:=atE_at hk'
 have el:m.out.length - 1=i:=by omega
 have hf:=fun en=>finish_fn m.s h.s m.out (by omega) i hk' (by have:=h.d _ (List.getElem_mem hk');omega) m.now h.n0 (by have:=h.n1;omega) en
 cases q1:fl1 w with
 | false =>
  have v1:¬ an1 w=1:=beq_eq_false_iff_ne.1 q1
  refine WL.sreg (by simp;rfl) (by simp;rfl) ?_
  refine WL.cond (t:=false) (by simp;exact v1) (by simp) fun _=>WL.skip ?_
  refine hK _ ⟨_,?_,.inl rfl⟩
  rw[q1]
  simp[ex,ho]
  exact v1
 | true =>
  have v1:an1 w=1:=beq_iff_eq.1 q1
  refine WL.sreg (by simp;rfl) (by simp;rfl) ?_
  refine WL.cond (t:=true) (by simp;exact v1) (fun _=>?_) (by simp)
  have hf':=hf (fl2 w)
  refine WL.sregC (RL.o (by simp[wl];rfl) ?_)
  refine RL.call false [(501,[]),(502,[]),(503,[]),(600,[])] hf' (by simp) (by simp) (by simp[gkey];rfl) (by simp) ?_
  refine RL.o (by simp;rfl) (RL.nil ⟨_,by simp;rfl,?_⟩)
  cases q2:fl2 w with
  | false =>
   have v2:¬ an2 w=2:=beq_eq_false_iff_ne.1 q2
   refine WL.sreg (by simp;rfl) (by simp;rfl) ?_
   refine WL.cond (t:=false) (by simp;exact v2) (by simp) fun _=>WL.skip ?_
   refine hK _ ⟨_,?_,.inr (.inl rfl)⟩
   rw[q1,q2]
   simp[mkRest,mkF,ex,ho,el,eA]
   exact v2
  | true =>
   have v2:an2 w=2:=beq_iff_eq.1 q2
   refine WL.sreg (by simp;rfl) (by simp;rfl) ?_
   refine WL.cond (t:=true) (by simp;exact v2) (fun _=>?_) (by simp)
   refine WL.reg (RL.run (by simp[ex,ho,hc,hc',c1,cI];rfl) ⟨_,by simp;rfl,?_⟩)
   refine hK _ ⟨_,?_,.inr (.inr rfl)⟩
   rw[q1,q2]
   simp[mkRest,mkF,mkO,ex,ho,el,eA]
theorem mkRest_ok {m:Mk}{n:Nat}{t:Int}(h:MkK m (n+1) t)(c:Nat)(en:Bool):MkK (mkRest m c en) (n+1) (t+2):=by
 have e:((m.out.length - 1:Nat):Int)=((n:Nat):Int):=by rw[h.n];rfl
 unfold mkRest
 rw[e]
 split
 ·exact (h.f (Nat.lt_succ_self n) true).set c (.inl rfl)
 ·exact h.f (Nat.lt_succ_self n) false
theorem mkRound_ok {m:Mk}{i:Nat}(h:MkK m i (10 * (i:Int)))(x:Cl)(w:Int){c:Nat}(hc:c < 3)(ec:x.Client.toNat=c)(hd:x.op.Data.length≤8):MkK (mkRound m x w) (i+1) (10 * ((i+1:Nat):Int)):=by
 unfold mkRound
 rw[ec]
 have h2:=(h.fin hc).add c x.op hd
 split
 ·exact (mkRest_ok h2 c _).mono (by omega)
 ·exact h2.mono (by omega)
theorem mkAll_ok0 (l:List Cl)(wt:List Int):MkK (mkAll l wt 0) 0 (10 * ((0:Nat):Int)) :=
 ⟨serS_ok l 0,rfl,rfl,fun x hx=>by left;simpa [mkAll] using hx,Int.le_refl _,Int.le_refl _,fun e he=>by simp[mkAll] at he⟩
set_option maxHeartbeats 16000000 in
theorem make_fn (l:List Cl)(hl:l.length≤50)(hD:∀ x ∈ l,x.op.Data.length≤1000)(wt:List Int):FnC Try.prog 39 [] [sCl l,sI false wt] [] (hEv (mkAll l wt l.length).out):=by
 refine FnC.go ok39 rfl ?_
 refine WL.sreg (by simp;rfl) (by simp;rfl) ?_
 refine WL.sregC (RL.call0 false (refnew_fn 5 3) (by simp) (by simp) (RL.o (by simp;rfl) (RL.nil ⟨_,by simp;rfl,?_⟩)))
 refine WL.sreg (by simp;rfl) (by simp;rfl) ?_
 refine WL.sreg (by simp;rfl) (by simp;rfl) ?_
 refine WL.sreg (by simp;rfl) (by simp;rfl) ?_
 refine WL.seq (WL.sreg (by simp;rfl) (by simp;rfl) ?_)
 refine WL.block (WL.count l.length (fun i=>mkT l wt (mkAll l wt i) i []) (fun i=>MkK (mkAll l wt i) i (10 * i)) (by simp[mkAll]) (mkAll_ok0 l wt) fun i hi hm=>?_)
 by_cases h:i < l.length
 ·have w:IntKind.wrap .i64 ((i:Int)+1)=((i+1:Nat):Int):=by rw[wrap_small (by omega) (by omega)];omega
  have f1:=fm_drop h
  have g1:7≤l.length * 7 - i * 7:=by omega
  have hnear:=near_fn l[i] 5 3 (by decide) (by decide) (by decide) (by decide) (hD _ (List.getElem_mem h))
  have eC:nearC l[i] 5 3=serC l i:=by simp[serC,h]
  rw[eC] at hnear
  have hcl:=serC_cl l i
  have hdl:=serC_dl l i
  have eR:mkAll l wt (i+1)=mkRound (mkAll l wt i) (serC l i) (wt.getD i 0):=rfl
  rw[eR]
  generalize mkAll l wt i=m at hm ⊢
  generalize serC l i=x at hnear hcl hdl ⊢
  obtain⟨c,ex⟩:=Int.eq_ofNat_of_zero_le hcl.1
  have hc:c < 3:=by omega
  have ec:x.Client.toNat=c:=by omega
  have h1:=hm.fin hc
  have h2:=h1.add c x.op hdl
  have rest:∀ (wv:Int),wv=wt.getD i 0→∀ Q,(∀ L,(∃ r,L=mkT l wt (mkRound m x (wt.getD i 0)) i r∧(r=bx10 x ++ [(1100,0,i64 wv),(7000,0,bl false)]∨r=bx10 x ++ [(8300,0,bl false)]∨r=[]))→Q Ex.nrm L)→WL Try.prog fi39.nt c39_16 (mkT l wt m i (bx10 x ++ [(1100,0,i64 wv)])) Q:=by
   intro wv ew Q hQ
   refine mk_end l wt m i (by omega) hm x c hc ex wv Q fun L eL=>?_
   subst eL
   refine mk_add l wt (mkEnd m c) i (by omega) h1 x c hc ex wv Q fun L eL=>?_
   subst eL
   refine mk_rest l wt (mkAdd (mkEnd m c) c x.op) i (by omega) (h2.mono (by omega)) x c hc ex wv Q fun L ⟨r,eL,hr⟩=>?_
   refine hQ L ⟨r,?_,hr⟩
   rw[eL]
   simp only[mkRound,ec,ew]
  refine WL.seq (WL.sreg (by simp[h];rfl) (by simp;rfl) ?_)
  refine WL.cond (t:=true) (by simp[h]) (fun _=>WL.skip ?_) (by simp)
  refine WL.seq (WL.block (WL.sregC (RL.o (by simp[h,f1,g1];rfl) (RL.call0 false hnear (by simp) (by simp) (RL.o (by simp;rfl) (RL.nil ⟨_,by simp;rfl,?_⟩))))))
  refine WL.sreg (by simp;rfl) (by simp;rfl) ?_
  have hK:=mkRound_ok hm x (wt.getD i 0) hc ec hdl
  have done:∀ L,(∃ r,L=mkT l wt (mkRound m x (wt.getD i 0)) i r∧∃ wv:Int,(r=bx10 x ++ [(1100,0,i64 wv),(7000,0,bl false)]∨r=bx10 x ++ [(8300,0,bl false)]∨r=[]))→∀ Q,(∀ L',(i < l.length∧L'=mkT l wt (mkRound m x (wt.getD i 0)) (i+1) []∧MkK (mkRound m x (wt.getD i 0)) (i+1) (10 * ((i+1:Nat):Int)))→Q Ex.nrm L')→WL Try.prog fi39.nt c39_19 L Q:=by
   rintro L ⟨r,rfl,wv,hr⟩ Q hQ
   rcases hr with rfl | rfl | rfl
   ·exact WL.reg (RL.run (by simp[w];rfl) ⟨_,by simp;rfl,hQ _ ⟨h,by simp,hK⟩⟩)
   ·exact WL.reg (RL.run (by simp[w];rfl) ⟨_,by simp;rfl,hQ _ ⟨h,by simp,hK⟩⟩)
   ·exact WL.reg (RL.run (by simp[w];rfl) ⟨_,by simp;rfl,hQ _ ⟨h,by simp,hK⟩⟩)
  by_cases hw:i < wt.length
  ·have ew:wt[i]=wt.getD i 0:=by simp[hw]
   refine WL.seq (WL.sreg (by simp[hw];rfl) (by simp;rfl) ?_)
   refine WL.cond (t:=true) (by simp[hw]) (fun _=>?_) (by simp)
   refine WL.reg (RL.run (by simp[hw];rfl) ⟨_,by simp;rfl,?_⟩)
   exact rest wt[i] ew _ fun L ⟨r,eL,hr⟩=>done L ⟨r,eL,_,hr⟩ _ fun L' h'=>h'
  ·have ew:(0:Int)=wt.getD i 0:=by simp[hw]
   refine WL.seq (WL.sreg (by simp[hw];rfl) (by simp;rfl) ?_)
   refine WL.cond (t:=false) (by simp[hw]) (by simp) fun _=>WL.skip ?_
   refine WL.fin [29] (by simp;rfl) ?_
   exact rest 0 ew _ fun L ⟨r,eL,hr⟩=>done L ⟨r,eL,_,hr⟩ _ fun L' h'=>h'
 ·obtain rfl:i=l.length:=by omega
  refine WL.seq (WL.sreg (by simp;rfl) (by simp;rfl) ?_)
  refine WL.cond (t:=false) (by simp) (by simp) fun _=>WL.exit ?_
  refine WL.sregC (RL.mv (by decide) (RL.o (by simp;rfl) (RL.nil ⟨_,by simp;rfl,WL.ret ⟨.inr rfl,?_⟩⟩)))
  simp[fi39]
  have tk:List.take ((mkAll l wt l.length).out.length * 14) (List.flatMap (cellsEv false false) (mkAll l wt l.length).out)=List.flatMap (cellsEv false false) (mkAll l wt l.length).out:=List.take_of_length_le (by rw[fmE_len];exact Nat.le_refl _)
  rw[tk,tk]
end Go.OT
namespace Go.OT
open Go.Proofs
def rsOut (s:St)(out:List Ev)(o:Int):List Ev :=
 if 0 < (atE out o).End then out.set o.toNat { atE out o with res:=(DoB s (atE out o).Client (atE out o).op).2.2 } else out
def rsGo:List Int→St→List Ev→St × List Ev
 | [],s,out=>(s,out)
 | o :: r,s,out=>rsGo r (DoB s (atE out o).Client (atE out o).op).2.1 (rsOut s out o)
def restF (l:List Ev):List Ev:=(rsGo (ordF l) (newSt 5 3) l).2
theorem rsOut_len (s:St)(out:List Ev)(o:Int):(rsOut s out o).length=out.length:=by unfold rsOut;split<;>simp
theorem rsOut_op (s:St)(out:List Ev)(o:Int):∀ e ∈ rsOut s out o,∃ e' ∈ out,e.op=e'.op∨e.op.Data=[]:=by
 intro e he
 unfold rsOut at he
 split at he
 ·rcases List.mem_or_eq_of_mem_set he with he | rfl
  ·exact⟨e,he,.inl rfl⟩
  ·by_cases h:o.toNat < out.length
   ·exact⟨out[o.toNat],List.getElem_mem h,.inl (by simp[atE,h])⟩
   ·rw[List.set_eq_of_length_le (by omega)] at he
    exact⟨_,he,.inl rfl⟩
 ·exact⟨e,he,.inl rfl⟩
theorem plainEv (l:List Ev):(l.flatMap (cellsEv false false)).all plainC=true:=by
 rw[List.all_eq_true]
 intro c hc
 obtain⟨e,he,hc⟩:=List.mem_flatMap.1 hc
 have h:(cellsEv false false e).all plainC=true:=rfl
 exact List.all_eq_true.1 h c hc
@[simp] theorem extra_alloc (L:SL) (d:Nat) (zs:List AU):extra L (.alloc d zs)=true:=rfl
abbrev rsT (out:List Ev)(s:St)(o:List Int)(j:Nat)(r:SL):SL:=[(300,0,hEv out)] ++ (rcO 4 s ++ ([(500,0,sI true o),(600,0,i64 j)] ++ r))
set_option maxHeartbeats 16000000 in
theorem restore_fn (l:List Ev)(hn:l.length≤1000)(hD:∀ e ∈ l,e.op.Data.length≤1000):FnC Try.prog 40 [] [sEv l] [] (hEv (restF l)):=by
 have hL:=fmE_len false false l
 have hp:=plainEv l
 have m1:l.length * 144≤140737488355328:=by omega
 have m2:l.length≤maxLen:=by unfold maxLen;omega
 have hO:=ordF_len l
 have tk:List.take (l.length * 14) (l.flatMap (cellsEv false false))=l.flatMap (cellsEv false false):=List.take_of_length_le (by rw[fmE_len];exact Nat.le_refl _)
 refine FnC.go ok40 rfl ?_
 refine WL.sreg (by simp;rfl) (by simp;rfl) ?_
 refine WL.sreg (by simp[hL,hp,m1,m2];rfl) (by simp;rfl) ?_
 refine WL.sregC (RL.call0 false (refnew_fn 5 3) (by simp) (by simp) (RL.o (by simp;rfl) (RL.nil ⟨_,by simp;rfl,?_⟩)))
 refine WL.sregC (RL.o (by simp;rfl) (RL.call0 true (reforder_fn l hn) (by simp[tk]) (by simp[immI]) (RL.o (by simp;rfl) (RL.nil ⟨_,by simp;rfl,?_⟩))))
 have s0:=newSt_ok' (p:=5) (c:=3) (by kernel_rfl)
 have hR:restF l=(rsGo (ordF l) (newSt 5 3) l).2:=rfl
 generalize newSt 5 3=st0 at s0 hR ⊢
 refine WL.seq (WL.sreg (by simp;rfl) (by simp;rfl) ?_)
 refine WL.block (WL.loop (ι:={x:Nat × St × List Ev // x.1≤(ordF l).length∧OkSt x.2.1∧x.2.2.length=l.length∧(∀ e ∈ x.2.2,e.op.Data.length≤1000)∧rsGo ((ordF l).drop x.1) x.2.1 x.2.2=rsGo (ordF l) st0 l}) (fun x=>rsT x.1.2.2 x.1.2.1 (ordF l) x.1.1 []) (fun x=>(ordF l).length - x.1.1) ⟨(0,st0,l),Nat.zero_le _,s0,rfl,hD,rfl⟩ (by simp[tk]) fun x=>?_)
 obtain⟨⟨j,s,out⟩,hj,hs,hlen,hDo,hg⟩:=x
 simp only at hj hs hlen hDo hg ⊢
 by_cases hlt:j < (ordF l).length
 ·obtain⟨u,hu,eu⟩:=ordF_at hlt
  have hlt':j+1≤(ordF l).length:=hlt
  have hu':u < out.length:=by omega
  have w:IntKind.wrap .i64 ((j:Int)+1)=((j+1:Nat):Int):=by rw[wrap_small (by omega) (by omega)];omega
  have hdo:=refdo_fn s hs out[u].Client out[u].op (by have:=hDo _ (List.getElem_mem hu');unfold Small;omega)
  have hL2:=fmE_len false false out
  have hsd:=hs.doB out[u].Client out[u].op
  rw[List.drop_eq_getElem_cons hlt] at hg
  simp only[rsGo,eu,atE_at hu'] at hg
  have hlen2:=rsOut_len s out (u:Int)
  have hop2:=rsOut_op s out (u:Int)
  have hro:rsOut s out (u:Int)=if 0 < out[u].End then out.set u { out[u] with res:=(DoB s out[u].Client out[u].op).2.2 } else out:=by simp only[rsOut,atE_at hu',Int.toNat_natCast]
  have hs5:=fun r=>fmE_set5 hu' r
  have q0:∀ (hh:u * 14 < (out.flatMap (cellsEv false false)).length),(out.flatMap (cellsEv false false))[u * 14]'hh=i64 out[u].Client:=fmE_getE (j:=0) (v:=i64 out[u].Client) hu' (by decide) rfl
  have q1:∀ (hh:u * 14+1 < (out.flatMap (cellsEv false false)).length),(out.flatMap (cellsEv false false))[u * 14+1]'hh=i64 out[u].op.Kind:=fmE_getE (j:=1) (v:=i64 out[u].op.Kind) hu' (by decide) rfl
  have p1:(out.flatMap (cellsEv false false))[u * 14+1]?=some (i64 out[u].op.Kind):=fmE_get (j:=1) hu' (by decide)
  have q2:∀ (hh:u * 14+1+1 < (out.flatMap (cellsEv false false)).length),(out.flatMap (cellsEv false false))[u * 14+1+1]'hh=i64 out[u].op.Page:=fmE_getE (j:=2) (v:=i64 out[u].op.Page) hu' (by decide) rfl
  have p2:(out.flatMap (cellsEv false false))[u * 14+1+1]?=some (i64 out[u].op.Page):=fmE_get (j:=2) hu' (by decide)
  have q3:∀ (hh:u * 14+1+2 < (out.flatMap (cellsEv false false)).length),(out.flatMap (cellsEv false false))[u * 14+1+2]'hh=i64 out[u].op.Handle:=fmE_getE (j:=3) (v:=i64 out[u].op.Handle) hu' (by decide) rfl
  have p3:(out.flatMap (cellsEv false false))[u * 14+1+2]?=some (i64 out[u].op.Handle):=fmE_get (j:=3) hu' (by decide)
  have q4:∀ (hh:u * 14+1+3 < (out.flatMap (cellsEv false false)).length),(out.flatMap (cellsEv false false))[u * 14+1+3]'hh=i64 out[u].op.Off:=fmE_getE (j:=4) (v:=i64 out[u].op.Off) hu' (by decide) rfl
  have p4:(out.flatMap (cellsEv false false))[u * 14+1+3]?=some (i64 out[u].op.Off):=fmE_get (j:=4) hu' (by decide)
  have q5:∀ (hh:u * 14+1+4 < (out.flatMap (cellsEv false false)).length),(out.flatMap (cellsEv false false))[u * 14+1+4]'hh=i64 out[u].op.N:=fmE_getE (j:=5) (v:=i64 out[u].op.N) hu' (by decide) rfl
  have p5:(out.flatMap (cellsEv false false))[u * 14+1+4]?=some (i64 out[u].op.N):=fmE_get (j:=5) hu' (by decide)
  have q6:∀ (hh:u * 14+1+5 < (out.flatMap (cellsEv false false)).length),(out.flatMap (cellsEv false false))[u * 14+1+5]'hh=sU false out[u].op.Data:=fmE_getE (j:=6) (v:=sU false out[u].op.Data) hu' (by decide) rfl
  have p6:(out.flatMap (cellsEv false false))[u * 14+1+5]?=some (sU false out[u].op.Data):=fmE_get (j:=6) hu' (by decide)
  have q13:∀ (hh:u * 14+13 < (out.flatMap (cellsEv false false)).length),(out.flatMap (cellsEv false false))[u * 14+13]'hh=i64 out[u].End:=fmE_getE (j:=13) (v:=i64 out[u].End) hu' (by decide) rfl
  have q7:∀ (hh:u * 14+7 < (out.flatMap (cellsEv false false)).length),(out.flatMap (cellsEv false false))[u * 14+7]'hh=i64 out[u].res.Code:=fmE_getE (j:=7) (v:=i64 out[u].res.Code) hu' (by decide) rfl
  have q8:∀ (hh:u * 14+7+1 < (out.flatMap (cellsEv false false)).length),(out.flatMap (cellsEv false false))[u * 14+7+1]'hh=i64 out[u].res.Page:=fmE_getE (j:=8) (v:=i64 out[u].res.Page) hu' (by decide) rfl
  have q9:∀ (hh:u * 14+7+2 < (out.flatMap (cellsEv false false)).length),(out.flatMap (cellsEv false false))[u * 14+7+2]'hh=i64 out[u].res.Handle:=fmE_getE (j:=9) (v:=i64 out[u].res.Handle) hu' (by decide) rfl
  have q10:∀ (hh:u * 14+10 < (out.flatMap (cellsEv false false)).length),(out.flatMap (cellsEv false false))[u * 14+10]'hh=sU false out[u].res.Data:=fmE_getE (j:=10) (v:=sU false out[u].res.Data) hu' (by decide) rfl
  have i7:u * 14+7 < out.length * 14:=by omega
  have i8:u * 14+8 < out.length * 14:=by omega
  have i9:u * 14+9 < out.length * 14:=by omega
  have i10:u * 14+10 < out.length * 14:=by omega
  have b1:u * 14+1≤out.length * 14:=by omega
  have b2:u * 14+1+6≤out.length * 14:=by omega
  refine WL.seq (WL.sreg (by simp[hlt];rfl) (by simp;rfl) ?_)
  refine WL.cond (t:=true) (by simp[hlt]) (fun _=>WL.skip ?_) (by simp)
  refine WL.seq (WL.block (WL.seq ?_))
  refine WL.draw mixed (by simp[cleanL,noH]) (DL.o (by simp[hlt,hlt',eu,hu',q0,q1,q2,q3,q4,q5,q6,p1,p2,p3,p4,p5,p6,hL2,b1,b2];exact⟨rfl,rfl⟩) ?_)
  generalize DoB s out[u].Client out[u].op=dd at hdo hsd hg hro
  obtain⟨o',t,r⟩:=dd
  simp only at hdo hsd hg hro
  refine DL.callLF true [(401,[]),(402,[]),(403,[])] hdo (by simp) (by simp) (by simp[gkey]) (side_do s t r) (by simp[cleanL,noH]) ?_
  refine DL.o (by simp;exact⟨rfl,rfl⟩) (DL.nil ⟨by kernel_rfl,_,by simp;rfl,?_⟩)
  have b13:u * 14+13 < out.length * 14:=by omega
  have b14:u * 14+13+1≤out.length * 14:=by omega
  by_cases hE:0 < out[u].End
  ·refine WL.sreg (by simp[hlt,hlt',eu,hu',q13,hL2,b13,b14,hE];rfl) (by simp;rfl) ?_
   refine WL.cond (t:=true) (by simp[hE]) (fun _=>?_) (by simp)
   refine WL.wipe1 300 [u * 14+10] (by simp[q10,hL2,i10]) ?_
   refine WL.draw mixed (by simp[cleanL,noH]) (DL.o (by simp[hlt,hlt',eu,hu',q7,q8,q9,q10,hL2,i7,i8,i9,i10];exact⟨rfl,rfl⟩) (DL.nil ⟨by kernel_rfl,_,by simp;rfl,?_⟩))
   rw[if_pos hE] at hro
   have h5:=hs5 r
   rw[← hro] at h5
   refine WL.reg (RL.run (by simp[w];rfl) ⟨_,by simp;rfl,?_⟩)
   refine⟨⟨(j+1,t,rsOut s out u),hlt,hsd,by rw[hlen2,hlen],fun e he=>?_,hg⟩,?_,by simp only;omega⟩
   ·obtain⟨e',he',h6⟩:=hop2 e he
    rcases h6 with h6 | h6
    ·rw[h6];exact hDo e' he'
    ·rw[h6];simp
   ·simp[← h5,hlen2]
  ·refine WL.sreg (by simp[hlt,hlt',eu,hu',q13,hL2,b13,b14,hE];rfl) (by simp;rfl) ?_
   refine WL.cond (t:=false) (by simp[hE]) (by simp) fun _=>WL.skip ?_
   rw[if_neg hE] at hro
   rw[hro] at hg
   refine WL.reg (RL.run (by simp[w];rfl) ⟨_,by simp;rfl,?_⟩)
   exact⟨⟨(j+1,t,out),hlt,hsd,hlen,hDo,hg⟩,by simp,by simp only;omega⟩
 ·obtain rfl:j=(ordF l).length:=by omega
  rw[List.drop_length] at hg
  simp only[rsGo] at hg
  rw[hR,← hg]
  refine WL.seq (WL.sreg (by simp;rfl) (by simp;rfl) ?_)
  refine WL.cond (t:=false) (by simp) (by simp) fun _=>WL.exit ?_
  have tk2:List.take (out.length * 14) (out.flatMap (cellsEv false false))=out.flatMap (cellsEv false false):=List.take_of_length_le (by rw[fmE_len];exact Nat.le_refl _)
  refine WL.sregC (RL.mv (by decide) (RL.o (by simp;rfl) (RL.nil ⟨_,by simp;rfl,WL.ret ⟨.inr rfl,?_⟩⟩)))
  simp[fi40,tk2]
end Go.OT
namespace Go.OT
open Go.Proofs
structure Tm (l:List Ev) (now:Int):Prop where
 c:∀ (i:Nat) (e:Ev),l[i]?=some e→0≤e.Client∧e.Client < 3
 b:∀ (i:Nat) (e:Ev),l[i]?=some e→1≤e.Begin∧e.Begin≤now
 s:∀ (i:Nat) (e:Ev),l[i]?=some e→e.Stamp=0∨(e.Begin < e.Stamp∧e.Stamp≤now)
 e:∀ (i:Nat) (e:Ev),l[i]?=some e→e.End=0∨(e.Begin < e.Stamp∧e.Stamp < e.End∧e.End≤now)
 inc:∀ (i j:Nat) (e f:Ev),l[i]?=some e→l[j]?=some f→i < j→e.Begin < f.Begin
 al:∀ (i j:Nat) (e f:Ev),l[i]?=some e→l[j]?=some f→i < j→e.Client=f.Client→1≤e.End∧e.End < f.Begin
theorem Tm.times {l:List Ev}{now:Int}(h:Tm l now)(j:Nat)(hj:j < l.length):timesF l j 3=true:=by
 rw[timesF_at hj]
 have e0:l[j]?=some l[j]:=List.getElem?_eq_getElem hj
 have hc:=h.c j _ e0
 have hb:=h.b j _ e0
 have hs:=h.s j _ e0
 have he:=h.e j _ e0
 have h1:tmBad l j 3 l[j]=false:=by
  have hp:tmPrev l j l[j]=false:=by
   unfold tmPrev
   by_cases z:0 < j
   ·have hl:j - 1 < l.length:=by omega
    have e1:l[j - 1]?=some l[j - 1]:=List.getElem?_eq_getElem hl
    have:=h.inc (j - 1) j _ _ e1 e0 (by omega)
    rw[List.getD_eq_getElem?_getD,e1]
    simp;omega
   ·simp[z]
  have b1:¬ l[j].Client < 0:=by omega
  have b2:¬ 3≤l[j].Client:=by omega
  have b3:¬ l[j].Begin < 1:=by omega
  have b4:¬ l[j].End < 0:=by omega
  simp only[tmBad,hp,b1,b2,b3,b4,decide_false,Bool.or_self]
 have h2:tmStamp l[j]=false:=by
  by_cases p:0 < l[j].End
  ·have a1:¬ l[j].Stamp < l[j].Begin:=by omega
   have a2:¬ l[j].End < l[j].Stamp:=by omega
   have a3:l[j].End ≠ 0:=by omega
   simp[tmStamp,p,a1,a2,a3]
  ·have a3:l[j].End=0:=by omega
   by_cases q:l[j].Stamp=0
   ·simp[tmStamp,a3,q]
   ·have a1:¬ l[j].Stamp < l[j].Begin:=by omega
    simp[tmStamp,a3,q,a1]
 have h3:((l.take j).any (tmOver l[j]))=false:=by
  rw[List.any_eq_false]
  intro e hm
  obtain⟨k,hk,rfl⟩:=List.mem_iff_getElem.1 hm
  have hkj:k < j:=by simp at hk;omega
  rw[List.getElem_take]
  have ek:l[k]?=some l[k]:=List.getElem?_eq_getElem (by omega)
  by_cases q:l[k].Client=l[j].Client
  ·have:=h.al k j _ _ ek e0 hkj q
   have a1:¬ l[k].End < 1:=by omega
   have a2:¬ l[j].Begin≤l[k].End:=by omega
   simp[tmOver,q,a1,a2]
  ·simp[tmOver,q]
 simp[timesE,h1,h2,h3]
structure MkI (m:Mk):Prop where
 t:Tm m.out m.now
 n0:0≤m.now
 o:m.op.length=3
 oc:∀ c k:Nat,c < 3→m.op.getD c 0=(k:Int)→∃ e,m.out[k]?=some e∧e.Client=c∧e.End=0
 on:∀ c i:Nat,c < 3→∀ e,m.out[i]?=some e→e.Client=c→e.End=0→m.op.getD c 0=(i:Int)
theorem getD_set {l:List Int}{c d:Nat}{v:Int}(hc:c < l.length):(l.set c v).getD d 0=if d=c then v else l.getD d 0:=by
 rw[List.getD_eq_getElem?_getD,List.getElem?_set,List.getD_eq_getElem?_getD]
 by_cases h:c=d
 ·subst h;simp[hc]
 ·have h':¬ d=c:=fun x=>h x.symm
  simp[h,h']
theorem finE_sk (s:St)(e:Ev)(now:Int)(en:Bool):(finE s e now en).Client=e.Client∧(finE s e now en).Begin=e.Begin∧(finE s e now en).Stamp=(if e.Stamp=0 then now+1 else e.Stamp)∧(finE s e now en).End=(if en=true then finN e now en else e.End):=by
 unfold finE;cases en<;>by_cases z:e.Stamp=0<;>simp [z]
theorem Tm.fin {s:St}{l:List Ev}{now:Int}(h:Tm l now){k:Nat}{e:Ev}(hk:l[k]?=some e)(h0:e.End=0)(en:Bool):Tm (l.set k (finE s e now en)) (finN e now en):=by
 have hl:k < l.length:=by
  rcases Nat.lt_or_ge k l.length with h | h
  ·exact h
  ·rw[List.getElem?_eq_none h] at hk;cases hk
 have hN:=finN_le e now en
 obtain⟨q1,q2,q3,q4⟩:=finE_sk s e now en
 have hg:∀ (i:Nat) (x:Ev),(l.set k (finE s e now en))[i]?=some x→(i=k∧x=finE s e now en)∨(i ≠ k∧l[i]?=some x):=fun i x hx=>by
  rw[List.getElem?_set] at hx
  by_cases z:k=i
  ·subst z;simp[hl] at hx;exact .inl ⟨rfl,hx.symm⟩
  ·simp[z] at hx;exact .inr ⟨fun y=>z y.symm,hx⟩
 generalize finE s e now en=e' at q1 q2 q3 q4 hg ⊢
 have hc:=h.c k e hk
 have hb:=h.b k e hk
 have hs:=h.s k e hk
 refine⟨fun i x hx=>?_,fun i x hx=>?_,fun i x hx=>?_,fun i x hx=>?_,fun i j x y hx hy hij=>?_,fun i j x y hx hy hij hcl=>?_⟩
 ·rcases hg i x hx with ⟨rfl,rfl⟩ | ⟨_,hx1⟩
  ·rw[q1];exact hc
  ·exact h.c i x hx1
 ·rcases hg i x hx with ⟨rfl,rfl⟩ | ⟨_,hx1⟩
  ·rw[q2];omega
  ·have:=h.b i x hx1;omega
 ·rcases hg i x hx with ⟨rfl,rfl⟩ | ⟨_,hx1⟩
  ·rw[q2,q3]
   right
   unfold finN
   by_cases z:e.Stamp=0
   ·simp only[z,if_true];cases en<;>simp<;>omega
   ·simp only[z,if_false];cases en<;>simp<;>omega
  ·have:=h.s i x hx1;omega
 ·rcases hg i x hx with ⟨rfl,rfl⟩ | ⟨_,hx1⟩
  ·cases en with
   | false=>left;rw[q4];simpa using h0
   | true =>
    right
    rw[q2,q3,q4]
    unfold finN
    by_cases z:e.Stamp=0
    ·simp only[z,if_true];omega
    ·simp only[z,if_false,if_true];omega
  ·have:=h.e i x hx1;omega
 ·rcases hg i x hx with ⟨rfl,rfl⟩ | ⟨_,hx1⟩
  ·rcases hg j y hy with ⟨rfl,rfl⟩ | ⟨_,hy1⟩
   ·omega
   ·rw[q2];exact h.inc _ j e y hk hy1 hij
  ·rcases hg j y hy with ⟨rfl,rfl⟩ | ⟨_,hy1⟩
   ·rw[q2];exact h.inc i _ x e hx1 hk hij
   ·exact h.inc i j x y hx1 hy1 hij
 ·rcases hg i x hx with ⟨rfl,rfl⟩ | ⟨_,hx1⟩
  ·rcases hg j y hy with ⟨rfl,rfl⟩ | ⟨_,hy1⟩
   ·omega
   ·have:=h.al _ j e y hk hy1 hij (by rw[← hcl,q1]);omega
  ·rcases hg j y hy with ⟨rfl,rfl⟩ | ⟨_,hy1⟩
   ·rw[q2];exact h.al i _ x e hx1 hk hij (by rw[hcl,q1])
   ·exact h.al i j x y hx1 hy1 hij hcl
theorem get_lt {α:Type}{l:List α}{k:Nat}{e:α}(hk:l[k]?=some e):k < l.length:=by
 rcases Nat.lt_or_ge k l.length with h | h
 ·exact h
 ·rw[List.getElem?_eq_none h] at hk;cases hk
theorem atE_get {l:List Ev}{k:Nat}{e:Ev}(hk:l[k]?=some e):atE l (k:Int)=e:=by simp[atE,hk]
theorem set_get {l:List Ev}{k i:Nat}{v x:Ev}(hl:k < l.length)(hx:(l.set k v)[i]?=some x):(i=k∧x=v)∨(i ≠ k∧l[i]?=some x):=by
 rw[List.getElem?_set] at hx
 by_cases z:k=i
 ·subst z;simp[hl] at hx;exact .inl ⟨rfl,hx.symm⟩
 ·simp[z] at hx;exact .inr ⟨fun y=>z y.symm,hx⟩
theorem MkI.stamp {m:Mk}(h:MkI m){c k:Nat}(hc:c < 3)(ho:m.op.getD c 0=(k:Int)):MkI (mkF m (k:Int) false):=by
 obtain⟨e,hk,ec,h0⟩:=h.oc c k hc ho
 have hl:=get_lt hk
 have ea:=atE_get hk
 have hN:=finN_le e m.now false
 obtain⟨q1,q2,q3,q4⟩:=finE_sk m.s e m.now false
 refine⟨?_,?_,h.o,fun c' k' hc' ho'=>?_,fun c' i hc' x hx hcl hx0=>?_⟩
 ·simp only[mkF,ea,Int.toNat_natCast];exact h.t.fin hk h0 false
 ·have:=h.n0;simp only[mkF,ea];omega
 ·simp only[mkF] at ho' ⊢
  obtain⟨x,hx,hxc,hx0⟩:=h.oc c' k' hc' ho'
  simp only[ea,Int.toNat_natCast,List.getElem?_set]
  by_cases z:k=k'
  ·subst z
   refine⟨finE m.s e m.now false,by simp[hl],?_,?_⟩
   ·rw[q1];rw[hk] at hx;cases hx;exact hxc
   ·rw[q4];simpa using h0
  ·exact⟨x,by simp[z,hx],hxc,hx0⟩
 ·simp only[mkF,ea,Int.toNat_natCast] at hx ⊢
  rcases set_get hl hx with ⟨rfl,rfl⟩ | ⟨_,hx⟩
  ·exact h.on c' _ hc' e hk (by rw[← hcl,q1]) h0
  ·exact h.on c' i hc' x hx hcl hx0
theorem MkI.done {m:Mk}(h:MkI m){c k:Nat}(hc:c < 3)(ho:m.op.getD c 0=(k:Int)):MkI (mkO (mkF m (k:Int) true) c (-1)):=by
 obtain⟨e,hk,ec,h0⟩:=h.oc c k hc ho
 have hl:=get_lt hk
 have ea:=atE_get hk
 have hN:=finN_le e m.now true
 obtain⟨q1,q2,q3,q4⟩:=finE_sk m.s e m.now true
 have hn:=h.n0
 have hop:c < m.op.length:=by rw[h.o];exact hc
 have hEnd:(finE m.s e m.now true).End ≠ 0:=by
  rw[q4];simp only[if_true]
  unfold finN
  by_cases z:e.Stamp=0
  ·simp only[z,if_true];omega
  ·simp only[z,if_false,if_true];omega
 refine⟨?_,?_,by simp[mkO,mkF,h.o],fun c' k' hc' ho'=>?_,fun c' i hc' x hx hcl hx0=>?_⟩
 ·simp only[mkO,mkF,ea,Int.toNat_natCast];exact h.t.fin hk h0 true
 ·simp only[mkO,mkF,ea];omega
 ·simp only[mkO,mkF] at ho' ⊢
  rw[getD_set hop] at ho'
  by_cases z:c'=c
  ·simp only[z,if_true] at ho';omega
  ·simp only[z,if_false] at ho'
   obtain⟨x,hx,hxc,hx0⟩:=h.oc c' k' hc' ho'
   have hne:k ≠ k':=fun y=>by
    subst y
    rw[hk] at hx;cases hx
    omega
   exact⟨x,by simp only[ea,Int.toNat_natCast,List.getElem?_set];simp[hne,hx],hxc,hx0⟩
 ·simp only[mkO,mkF,ea,Int.toNat_natCast] at hx ⊢
  rw[getD_set hop]
  rcases set_get hl hx with ⟨rfl,rfl⟩ | ⟨hne,hx⟩
  ·exact absurd hx0 hEnd
  ·have:=h.on c' i hc' x hx hcl hx0
   by_cases z:c'=c
   ·subst z;rw[ho] at this;omega
   ·simp only[z,if_false];exact this
theorem MkI.endd {m:Mk}(h:MkI m){c:Nat}(hc:c < 3):MkI (mkEnd m c)∧(mkEnd m c).op.getD c 0 < 0:=by
 have hop:c < m.op.length:=by rw[h.o];exact hc
 unfold mkEnd
 split
 ·rename_i h0
  obtain⟨k,hk⟩:=Int.eq_ofNat_of_zero_le h0
  rw[hk]
  refine⟨h.done hc hk,?_⟩
  simp only[mkO,mkF]
  rw[getD_set hop]
  simp
 ·exact⟨h,by omega⟩
theorem MkI.add {m:Mk}(h:MkI m){c:Nat}(hc:c < 3)(hop0:m.op.getD c 0 < 0)(q:Op):MkI (mkAdd m c q)∧(mkAdd m c q).op.getD c 0=(m.out.length:Int):=by
 have hop:c < m.op.length:=by rw[h.o];exact hc
 have hn:=h.n0
 have hg:∀ (i:Nat) (x:Ev),(m.out ++ [⟨c,q,⟨0,0,0,[]⟩,m.now+1,0,0⟩])[i]?=some x→(i=m.out.length∧x=⟨c,q,⟨0,0,0,[]⟩,m.now+1,0,0⟩)∨(i < m.out.length∧m.out[i]?=some x):=fun i x hx=>by
  rcases Nat.lt_or_ge i m.out.length with hi | hi
  ·rw[List.getElem?_append_left hi] at hx;exact .inr ⟨hi,hx⟩
  ·rw[List.getElem?_append_right hi] at hx
   have hz:=get_lt hx
   simp at hz
   have e:i=m.out.length:=by omega
   subst e
   simp at hx
   exact .inl ⟨rfl,hx.symm⟩
 have hend:∀ (i:Nat) (x:Ev),m.out[i]?=some x→x.Client=c→1≤x.End∧x.End≤m.now:=fun i x hx hxc=>by
  have:=h.t.e i x hx
  have hs:=h.t.b i x hx
  by_cases z:x.End=0
  ·have:=h.on c i hc x hx hxc z;omega
  ·omega
 refine⟨⟨⟨fun i x hx=>?_,fun i x hx=>?_,fun i x hx=>?_,fun i x hx=>?_,fun i j x y hx hy hij=>?_,fun i j x y hx hy hij hcl=>?_⟩,by simp only[mkAdd];omega,by simp[mkAdd,h.o],fun c' k' hc' ho'=>?_,fun c' i hc' x hx hcl hx0=>?_⟩,by simp only[mkAdd];rw[getD_set hop];simp⟩
 ·rcases hg i x hx with ⟨rfl,rfl⟩ | ⟨_,hx1⟩
  ·simp only;omega
  ·exact h.t.c i x hx1
 ·rcases hg i x hx with ⟨rfl,rfl⟩ | ⟨_,hx1⟩
  ·simp only[mkAdd];omega
  ·have:=h.t.b i x hx1;simp only[mkAdd];omega
 ·rcases hg i x hx with ⟨rfl,rfl⟩ | ⟨_,hx1⟩
  ·exact .inl rfl
  ·have:=h.t.s i x hx1;simp only[mkAdd];omega
 ·rcases hg i x hx with ⟨rfl,rfl⟩ | ⟨_,hx1⟩
  ·exact .inl rfl
  ·have:=h.t.e i x hx1;simp only[mkAdd];omega
 ·rcases hg i x hx with ⟨rfl,rfl⟩ | ⟨hi,hx1⟩
  ·rcases hg j y hy with ⟨rfl,rfl⟩ | ⟨_,hy1⟩<;>omega
  ·rcases hg j y hy with ⟨rfl,rfl⟩ | ⟨_,hy1⟩
   ·have:=h.t.b i x hx1;simp only;omega
   ·exact h.t.inc i j x y hx1 hy1 hij
 ·rcases hg i x hx with ⟨rfl,rfl⟩ | ⟨hi,hx1⟩
  ·rcases hg j y hy with ⟨rfl,rfl⟩ | ⟨_,hy1⟩<;>omega
  ·rcases hg j y hy with ⟨rfl,rfl⟩ | ⟨_,hy1⟩
   ·have:=hend i x hx1 hcl;simp only;omega
   ·exact h.t.al i j x y hx1 hy1 hij hcl
 ·simp only[mkAdd] at ho' ⊢
  rw[getD_set hop] at ho'
  by_cases z:c'=c
  ·simp only[z,if_true] at ho'
   have e:k'=m.out.length:=by omega
   subst e
   exact⟨⟨c,q,⟨0,0,0,[]⟩,m.now+1,0,0⟩,by simp,by simp[z],rfl⟩
  ·simp only[z,if_false] at ho'
   obtain⟨x,hx,hxc,hx0⟩:=h.oc c' k' hc' ho'
   exact⟨x,by rw[List.getElem?_append_left (get_lt hx)];exact hx,hxc,hx0⟩
 ·simp only[mkAdd] at hx ⊢
  rw[getD_set hop]
  rcases hg i x hx with ⟨rfl,rfl⟩ | ⟨hi,hx1⟩
  ·have e:c'=c:=by simp only at hcl;omega
   simp[e]
  ·by_cases z:c'=c
   ·subst z;have:=hend i x hx1 hcl;omega
   ·simp only[z,if_false];exact h.on c' i hc' x hx1 hcl hx0
theorem MkI.round {m:Mk}(h:MkI m)(x:Cl)(w:Int)(h0:0≤x.Client∧x.Client < 3):MkI (mkRound m x w):=by
 have hc:x.Client.toNat < 3:=by omega
 unfold mkRound
 obtain⟨h1,n1⟩:=h.endd hc
 obtain⟨h2,n2⟩:=h1.add hc n1 x.op
 have eL:(((mkAdd (mkEnd m x.Client.toNat) x.Client.toNat x.op).out.length - 1:Nat):Int)=((mkEnd m x.Client.toNat).out.length:Int):=by simp[mkAdd]
 split
 ·unfold mkRest
  rw[eL]
  split
  ·exact h2.done hc n2
  ·exact h2.stamp hc n2
 ·exact h2
theorem mkAll_I (l:List Cl)(wt:List Int):∀ i,MkI (mkAll l wt i)
 | 0=>⟨⟨fun i e h=>by simp[mkAll] at h,fun i e h=>by simp[mkAll] at h,fun i e h=>by simp[mkAll] at h,fun i e h=>by simp[mkAll] at h,fun i j e f h=>by simp[mkAll] at h,fun i j e f h=>by simp[mkAll] at h⟩,Int.le_refl _,rfl,fun c k hc h=>by
   have:(mkAll l wt 0).op.getD c 0=-1:=by
    match c,hc with
    | 0,_=>rfl
    | 1,_=>rfl
    | 2,_=>rfl
   omega,fun c i hc e h=>by simp[mkAll] at h⟩
 | i+1=>(mkAll_I l wt i).round _ _ (serC_cl l i)
def sk (e:Ev):Ev:={ e with res:=⟨0,0,0,[]⟩ }
theorem rsOut_sk (s:St)(out:List Ev)(o:Int):(rsOut s out o).map sk=out.map sk:=by
 unfold rsOut
 split
 ·rw[List.map_set]
  by_cases h:o.toNat < out.length
  ·have e:sk { atE out o with res:=(DoB s (atE out o).Client (atE out o).op).2.2 }=(out.map sk)[o.toNat]'(by simpa using h):=by simp[sk,atE,h]
   rw[e,List.set_getElem_self]
  ·rw[List.set_eq_of_length_le (by simpa using h)]
 ·rfl
theorem rsGo_sk:∀ (o:List Int) (s:St) (out:List Ev),(rsGo o s out).2.map sk=out.map sk
 | [],s,out=>rfl
 | x :: r,s,out=>by simp only[rsGo];rw[rsGo_sk r,rsOut_sk]
theorem restF_sk (l:List Ev):(restF l).map sk=l.map sk:=rsGo_sk _ _ _
theorem sk_get {l l':List Ev}(h:l.map sk=l'.map sk){i:Nat}{e:Ev}(he:l[i]?=some e):∃ e',l'[i]?=some e'∧sk e'=sk e:=by
 have:(l.map sk)[i]?=(l'.map sk)[i]?:=by rw[h]
 rw[List.getElem?_map,List.getElem?_map,he] at this
 cases hh:l'[i]? with
 | none=>rw [hh] at this;cases this
 | some e'=>rw [hh] at this;exact⟨e',rfl,(Option.some.inj this).symm⟩
theorem sk_f {e e':Ev}(h:sk e'=sk e):e'.Client=e.Client∧e'.op=e.op∧e'.Begin=e.Begin∧e'.Stamp=e.Stamp∧e'.End=e.End:=by
 have h1:=congrArg Ev.Client h;have h2:=congrArg Ev.op h;have h3:=congrArg Ev.Begin h;have h4:=congrArg Ev.Stamp h;have h5:=congrArg Ev.End h
 exact⟨h1,h2,h3,h4,h5⟩
theorem Tm.sk {l l':List Ev}{now:Int}(h:Tm l now)(e:l'.map sk=l.map sk):Tm l' now:=by
 refine⟨fun i x hx=>?_,fun i x hx=>?_,fun i x hx=>?_,fun i x hx=>?_,fun i j x y hx hy hij=>?_,fun i j x y hx hy hij hcl=>?_⟩
 ·obtain⟨x',hx',s⟩:=sk_get e hx
  obtain⟨f1,f2,f3,f4,f5⟩:=sk_f s
  have:=h.c i x' hx';omega
 ·obtain⟨x',hx',s⟩:=sk_get e hx
  obtain⟨f1,f2,f3,f4,f5⟩:=sk_f s
  have:=h.b i x' hx';omega
 ·obtain⟨x',hx',s⟩:=sk_get e hx
  obtain⟨f1,f2,f3,f4,f5⟩:=sk_f s
  have:=h.s i x' hx';omega
 ·obtain⟨x',hx',s⟩:=sk_get e hx
  obtain⟨f1,f2,f3,f4,f5⟩:=sk_f s
  have:=h.e i x' hx';omega
 ·obtain⟨x',hx',s⟩:=sk_get e hx
  obtain⟨f1,f2,f3,f4,f5⟩:=sk_f s
  obtain⟨y',hy',t⟩:=sk_get e hy
  obtain⟨g1,g2,g3,g4,g5⟩:=sk_f t
  have:=h.inc i j x' y' hx' hy' hij;omega
 ·obtain⟨x',hx',s⟩:=sk_get e hx
  obtain⟨f1,f2,f3,f4,f5⟩:=sk_f s
  obtain⟨y',hy',t⟩:=sk_get e hy
  obtain⟨g1,g2,g3,g4,g5⟩:=sk_f t
  have:=h.al i j x' y' hx' hy' hij (by omega);omega
theorem ordF_congr {l l':List Ev}(h:l.map (·.Stamp)=l'.map (·.Stamp)):ordF l=ordF l':=by
 have hl:l.length=l'.length:=by simpa using congrArg List.length h
 have hk:keyE l=keyE l':=funext fun x=>by simp only[keyE,h]
 unfold ordF posL posN
 rw[h,hl,hk]
theorem sk_stamps {l l':List Ev}(h:l.map sk=l'.map sk):l.map (·.Stamp)=l'.map (·.Stamp):=by
 have:=congrArg (List.map (·.Stamp)) h
 simpa [List.map_map,Function.comp_def,sk] using this
theorem restF_ord (l:List Ev):ordF (restF l)=ordF l:=ordF_congr (sk_stamps (restF_sk l))
theorem restF_len (l:List Ev):(restF l).length=l.length:=by simpa using congrArg List.length (restF_sk l)
theorem ordF_nodup (l:List Ev):(ordF l).Nodup:=by
 have h:=ordL_spec (keyE l) (posN_asc l l.length)
 refine (h.1.nodup_iff).2 ?_
 exact (posN_asc l l.length).imp fun hab=>Int.ne_of_lt hab
theorem atE_sk {l l':List Ev}(h:l.map sk=l'.map sk)(y:Int):sk (atE l y)=sk (atE l' y):=by
 have e:∀ m:List Ev,sk (atE m y)=((m.map sk)[y.toNat]?).getD ⟨0,⟨0,0,0,0,0,[]⟩,⟨0,0,0,[]⟩,0,0,0⟩:=fun m=>by
  rw[List.getElem?_map]
  unfold atE
  cases m[y.toNat]?<;>rfl
 rw[e,e,h]
theorem atE_congr {l l':List Ev}{x:Int}(h:l[x.toNat]?=l'[x.toNat]?):atE l x=atE l' x:=by unfold atE;rw[h]
theorem SameRes_rfl (r:Rs):SameRes r r=true:=by simp[SameRes]
theorem rsGo_spec:∀ (o:List Int) (s:St) (out:List Ev),o.Nodup→(∀ x ∈ o,0≤x)→(∀ y,0≤(atE out y).End) →
  (∀ y:Nat,(y:Int) ∉ o→(rsGo o s out).2[y]?=out[y]?)∧goW (rsGo o s out).2 noSee s () o=(0,(rsGo o s out).1,())
 | [],s,out,hn,hx,hE0=>⟨fun y _=>rfl,rfl⟩
 | x :: r,s,out,hn,hx,hE0=>by
  obtain⟨k,ek⟩:=Int.eq_ofNat_of_zero_le (hx x (List.mem_cons_self ..))
  have hn':=List.nodup_cons.1 hn
  have ih:=rsGo_spec r (DoB s (atE out x).Client (atE out x).op).2.1 (rsOut s out x) hn'.2 (fun y hy=>hx y (List.mem_cons_of_mem _ hy)) fun y=>by
   have:=(sk_f (atE_sk (rsOut_sk s out x) y)).2.2.2.2
   rw[this];exact hE0 y
  have ho:∀ y:Nat,y ≠ k→(rsOut s out x)[y]?=out[y]?:=fun y hy=>by
   unfold rsOut
   split
   ·rw[List.getElem?_set]
    have:¬ x.toNat=y:=by omega
    simp[this]
   ·rfl
  refine⟨fun y hy=>?_,?_⟩
  ·simp only[rsGo]
   have h1:(y:Int) ∉ r:=fun z=>hy (List.mem_cons_of_mem _ z)
   have h2:y ≠ k:=fun z=>hy (by rw[z,← ek];exact List.mem_cons_self ..)
   rw[ih.1 y h1,ho y h2]
  ·simp only[rsGo,goW]
   have e1:atE (rsGo r (DoB s (atE out x).Client (atE out x).op).2.1 (rsOut s out x)).2 x=atE (rsOut s out x) x:=by
    have:=ih.1 k (by rw[← ek];exact hn'.1)
    have ek':x.toNat=k:=by omega
    exact atE_congr (by rw[ek'];exact this)
   have e2:stepR s (atE (rsOut s out x) x)=(true,(DoB s (atE out x).Client (atE out x).op).2.1):=by
    by_cases hE:0 < (atE out x).End
    ·have hk:x.toNat < out.length:=by
      rcases Nat.lt_or_ge x.toNat out.length with h | h
      ·exact h
      ·simp[atE,List.getElem?_eq_none h] at hE
     have e3:atE (rsOut s out x) x={ atE out x with res:=(DoB s (atE out x).Client (atE out x).op).2.2 }:=by
      simp only[rsOut,if_pos hE]
      simp[atE,hk]
     rw[e3]
     have hb:badF (atE out x).op.Kind (DoB s (atE out x).Client (atE out x).op).2.2.Code=false:=by
      cases h:badF (atE out x).op.Kind (DoB s (atE out x).Client (atE out x).op).2.2.Code with
      | false=>rfl
      | true =>
       have:=badF_code h
       have:=(DoB_code s (atE out x).Client (atE out x).op).2
       omega
     simp[stepR,hb,SameRes_rfl]
    ·have e3:rsOut s out x=out:=by simp only[rsOut,if_neg hE]
     rw[e3]
     by_cases z:(atE out x).End=0
     ·simp[stepR,z]
     ·have:=hE0 x;omega
   simp only[e1,e2,if_true]
   exact ih.2
theorem rest_walk {l:List Ev}{now:Int}(h:Tm l now):walkF noSee () (restF l) 5 3=(0,(rsGo (ordF l) (newSt 5 3) l).1,()):=by
 have hb:newBad 5 3=false:=by kernel_rfl
 have ht:=h.sk (restF_sk l)
 unfold walkF
 rw[hb,firstBad_none (fun j hj=>ht.times j hj),restF_ord]
 simp only[Bool.false_eq_true,if_false]
 refine (rsGo_spec (ordF l) (newSt 5 3) l (ordF_nodup l) (fun x hx=>?_) fun y=>?_).2
 ·obtain⟨i,_,e,_⟩:=ordF_mem hx
  omega
 ·unfold atE
  cases hy:l[y.toNat]? with
  | none=>exact Int.le_refl _
  | some e =>
   have:=h.e _ e hy
   have:=h.b _ e hy
   simp only[Option.getD_some];omega
end Go.OT
namespace Go.OT
open Go.Proofs
@[simp] theorem take_ev (l:List Ev):List.take (l.length * 14) (l.flatMap (cellsEv false false))=l.flatMap (cellsEv false false):=List.take_of_length_le (by rw[fmE_len];exact Nat.le_refl _)
theorem mkAll_K (l:List Cl)(wt:List Int):∀ i:Nat,MkK (mkAll l wt i) i (10 * (i:Int))
 | 0=>mkAll_ok0 l wt
 | i+1=>mkRound_ok (mkAll_K l wt i) (serC l i) (wt.getD i 0) (c:=(serC l i).Client.toNat) (by have:=serC_cl l i;omega) rfl (serC_dl l i)
def goodF (l:List Cl)(wt:List Int):List Ev:=restF (mkAll l wt l.length).out
def goodS (l:List Cl)(wt:List Int):St:=(rsGo (ordF (mkAll l wt l.length).out) (newSt 5 3) (mkAll l wt l.length).out).1
theorem good_len (l:List Cl)(wt:List Int):(goodF l wt).length=l.length:=by
 unfold goodF;rw[restF_len,(mkAll_K l wt l.length).n]
theorem good_tm (l:List Cl)(wt:List Int):Tm (goodF l wt) (10 * (l.length:Int)):=by
 have h:=(mkAll_I l wt l.length).t.sk (restF_sk _)
 have hn:=(mkAll_K l wt l.length).n1
 refine⟨h.c,fun i e he=>?_,fun i e he=>?_,fun i e he=>?_,h.inc,h.al⟩
 ·have:=h.b i e he;omega
 ·have:=h.s i e he;omega
 ·have:=h.e i e he;omega
theorem good_walk (l:List Cl)(wt:List Int):walkF noSee () (goodF l wt) 5 3=(0,goodS l wt,()):=rest_walk (mkAll_I l wt l.length).t
theorem good_chk (l:List Cl)(wt:List Int):chkF (goodF l wt) 5 3=0:=by unfold chkF;rw[good_walk]
theorem good_fin (l:List Cl)(wt:List Int):finF (goodF l wt) 5 3=(goodS l wt,true):=by unfold finF;rw[good_chk,good_walk];simp
theorem mkAll_d {l:List Cl}(wt:List Int):∀ e ∈ (mkAll l wt l.length).out,e.op.Data.length≤1000:=fun e he=>by
 have:=(mkAll_K l wt l.length).d e he;omega
theorem good_d (l:List Cl)(wt:List Int):∀ e ∈ goodF l wt,e.op.Data.length≤1000:=fun e he=>by
 obtain⟨k,hk,rfl⟩:=List.mem_iff_getElem.1 he
 obtain⟨e',he',s⟩:=sk_get (restF_sk (mkAll l wt l.length).out) (List.getElem?_eq_getElem hk)
 have h1:=(sk_f s).2.1
 have h2:=mkAll_d wt e' (List.mem_iff_getElem?.2 ⟨k,he'⟩)
 rw[h1] at h2
 exact h2
theorem good_ev (l:List Cl)(wt:List Int)(hl:l.length≤1000):EvOk (goodF l wt):=⟨by rw[good_len];exact hl,good_d l wt⟩
theorem good_okS (l:List Cl)(wt:List Int):OkSt (goodS l wt):=by
 have:=finF_ok (l:=goodF l wt) (p:=5) (c:=3) (by rw[good_fin])
 rw[good_fin] at this
 exact this
set_option maxHeartbeats 16000000 in
theorem good_fn (l:List Cl)(hl:l.length≤50)(hD:∀ x ∈ l,x.op.Data.length≤1000)(wt:List Int):FnC Try.prog 41 [] [sCl l,sI false wt] [] (hEv (goodF l wt)):=by
 have hm:=make_fn l hl hD wt
 have hr:=restore_fn (mkAll l wt l.length).out (by rw[(mkAll_K l wt l.length).n];omega) (mkAll_d wt)
 have eg:goodF l wt=restF (mkAll l wt l.length).out:=rfl
 rw[← eg] at hr
 refine FnC.go ok41 rfl ?_
 refine WL.sreg (by simp;rfl) (by simp;rfl) ?_
 refine WL.sregC (RL.o (by simp;rfl) (RL.call0 false hm (by simp) (by simp) (RL.freeze 700 ?_)))
 refine RL.call0 false hr (by simp) (by simp) (RL.o (by simp;rfl) (RL.nil ⟨_,by simp;rfl,WL.ret ⟨.inr rfl,?_⟩⟩))
 simp[fi41]
abbrev hmQ:Ex→SL→Prop:=fun e L=>e=Ex.ret∧RetOk fi7.rs [] (bl true) L
abbrev hmS (l:List Cl)(wt:List Int)(i:Nat):SL:=[(0,0,sCl l),(100,0,sI false wt),(500,0,i64 i)]
set_option maxHeartbeats 32000000 in
theorem makes_end (l:List Cl)(hl:l.length≤50)(hD:∀ x ∈ l,x.op.Data.length≤1000)(wt:List Int)(i:Nat):WL Try.prog fi7.nt c7_13 (hmS l wt i ++ [(1800,0,bl false)]) hmQ:=by
 have hm:=make_fn l hl hD wt
 have hr:=restore_fn (mkAll l wt l.length).out (by rw[(mkAll_K l wt l.length).n];omega) (mkAll_d wt)
 have eg:goodF l wt=restF (mkAll l wt l.length).out:=rfl
 rw[← eg] at hr
 have hE:=good_ev l wt (by omega)
 have hf:=fin_fn (goodF l wt) hE 5 3
 have hrf:=reffin_fn (goodF l wt) hE 5 3
 have hc:=chk_fn (goodF l wt) hE 5 3
 rw[good_fin] at hf hrf
 rw[good_chk] at hc
 simp only at hf hrf
 have hok:=good_okS l wt
 have his:=is_fn (goodS l wt) hok.sized hok.bn
 generalize goodS l wt=s at hf hrf his hok
 generalize goodF l wt=h at *
 generalize (mkAll l wt l.length).out=o at *
 refine WL.sregC (RL.o (by simp;rfl) (RL.call0 false hm (by simp) (by simp) (RL.o (by simp;rfl) (RL.nil ⟨_,by simp;rfl,?_⟩))))
 refine WL.freeze 600 ?_
 refine WL.sregC (RL.o (by simp;rfl) (RL.call0 false hr (by simp) (by simp) (RL.o (by simp;rfl) (RL.nil ⟨_,by simp;rfl,?_⟩))))
 refine WL.freeze 600 ?_
 refine WL.sregC (RL.o (by simp;rfl) (RL.call0 false hf (by simp) (by simp) (RL.o (by simp;rfl) (RL.nil ⟨_,by simp;rfl,?_⟩))))
 refine WL.sregC (RL.o (by simp;rfl) (RL.call0 false hrf (by simp) (by simp) (RL.mv (by decide) (RL.o (by simp;rfl) (RL.nil ⟨_,by simp;rfl,?_⟩)))))
 refine WL.sregC (RL.call0 false histTold_fn (by simp) (by simp) (RL.o (by simp;rfl) (RL.g (by simp;rfl) (RL.o (by simp;rfl) (RL.g (by simp;rfl) (RL.o (by simp;rfl) (RL.g (by simp;rfl) ?_)))))))
 refine RL.callY0 false (by simp) hc (by simp) (by simp) (RL.g (by simp;rfl) (RL.o (by simp;rfl) (RL.g (by simp;rfl) ?_)))
 refine RL.callY0 true (by simp) his (by simp) (by simp) (RL.o (by simp;rfl) (RL.nil ⟨_,by simp;rfl,WL.ret ⟨rfl,?_⟩⟩))
 simp[fi7]
set_option maxHeartbeats 32000000 in
theorem histMakes_law (l:List Cl)(hl:l.length≤9223372036854775807)(wt:List Int)(hw:wt.length≤9223372036854775807):FnC Try.prog 7 [] [sCl l,sI false wt] [] (bl true):=by
 refine FnC.go ok7 rfl ?_
 refine WL.mono (Q':=hmQ) ?_ fun e L h=>⟨.inr h.1,h.2⟩
 refine WL.sreg (by simp;rfl) (by simp;rfl) ?_
 by_cases h50:l.length≤50
 ·have q:¬ (50:Int) < l.length:=by omega
  refine WL.seq (WL.sreg (by simp[q];rfl) (by simp;rfl) ?_)
  refine WL.cond (t:=false) (by simp[q]) (by simp) fun _=>WL.skip ?_
  refine WL.seq (WL.sreg (by simp;rfl) (by simp;rfl) ?_)
  refine WL.block (WL.count l.length (fun i=>hmS l wt i) (fun i=>∀ x ∈ l.take i,x.op.Data.length≤40) (by simp) (by simp) fun i hi hp=>?_)
  by_cases h:i < l.length
  ·have w:IntKind.wrap .i64 ((i:Int)+1)=((i+1:Nat):Int):=by rw[wrap_small (by omega) (by omega)];omega
   have f1:=fm_drop h
   have g1:7≤l.length * 7 - i * 7:=by omega
   refine WL.seq (WL.sreg (by simp[h];rfl) (by simp;rfl) ?_)
   refine WL.cond (t:=true) (by simp[h]) (fun _=>WL.skip ?_) (by simp)
   refine WL.seq (WL.block ?_)
   by_cases z:40 < l[i].op.Data.length
   ·have z':(40:Int) < l[i].op.Data.length:=by omega
    refine WL.sreg (by simp[h,f1,g1,z,z'];rfl) (by simp;rfl) ?_
    refine WL.cond (t:=true) (by simp[z,z']) (fun _=>?_) (by simp)
    refine WL.sregC (RL.call0 false histTold_fn (by simp) (by simp) (RL.o (by simp;rfl) (RL.nil ⟨_,by simp;rfl,WL.ret ⟨rfl,?_⟩⟩)))
    simp[fi7]
   ·have z':¬ (40:Int) < l[i].op.Data.length:=by omega
    refine WL.sreg (by simp[h,f1,g1,z,z'];rfl) (by simp;rfl) ?_
    refine WL.cond (t:=false) (by simp[z,z']) (by simp) fun _=>WL.skip ?_
    refine WL.reg (RL.run (by simp[w];rfl) ⟨_,by simp;rfl,h,by simp,fun x hx=>?_⟩)
    rw[List.take_succ_eq_append_getElem h] at hx
    rcases List.mem_append.1 hx with hx | hx
    ·exact hp x hx
    ·rw[List.mem_singleton.1 hx];omega
  ·obtain rfl:i=l.length:=by omega
   refine WL.seq (WL.sreg (by simp;rfl) (by simp;rfl) ?_)
   refine WL.cond (t:=false) (by simp) (by simp) fun _=>WL.exit ?_
   rw[List.take_length] at hp
   exact makes_end l h50 (fun x hx=>by have:=hp x hx;omega) wt _
 ·have q:(50:Int) < l.length:=by omega
  refine WL.seq (WL.sreg (by simp[q];rfl) (by simp;rfl) ?_)
  refine WL.cond (t:=true) (by simp[q]) (fun _=>?_) (by simp)
  refine WL.sregC (RL.call0 false histTold_fn (by simp) (by simp) (RL.o (by simp;rfl) (RL.nil ⟨_,by simp;rfl,WL.ret ⟨rfl,?_⟩⟩)))
  simp[fi7]
end Go.OT
namespace Go.OT
theorem DStep.conv {C:Ctx}{ops:Array Oper}{i:Nat}{R D:List Nat}{Y Y':XF Unit}(h:DStep C ops i R D Y Y')(k:Nat)(hk:unitK k ∈ D)(hh:handB k=false)(v:AU)(hr:∀ r ∈ roots v,r ∈ roots (Y' k).2)
  (hc:∀ (X:XF Unit) tm w,X k=Y' k→RelT C X tm w→RelT C (X.upd k v) tm w):DStep C ops i R D Y (Y'.upd k v):=by
 have hu:∀ j,(Y'.upd k v) j=if j=k then ((Y' k).1,v) else Y' j:=fun j=>by
  by_cases e:j=k
  ·subst e;rw[XF.upd_self];simp
  ·rw[XF.upd_ne _ _ e];simp[e]
 refine⟨h.sub,fun j hj=>?_,fun j=>?_,fun X hX ha=>?_⟩
 ·have e:j ≠ k:=fun e=>hj (e ▸ hk)
  rw[XF.upd_ne _ _ e];exact h.out j hj
 ·rw[hu]
  by_cases e:j=k
  ·subst e
   simp only[if_true]
   exact⟨fun z=>(by rw[hh] at z;cases z),fun r hr'=>(h.cl j).2 r (hr r hr')⟩
  ·simp only[e,if_false];exact h.cl j
 ·refine (h.step X hX ha).weak fun tm w r=>?_
  have hm:(mix D Y' X) k=Y' k:=by unfold mix;rw[if_pos hk]
  have:=hc (mix D Y' X) tm w hm r
  have e:mix D (Y'.upd k v) X=(mix D Y' X).upd k v:=by
   funext j
   by_cases e:j=k
   ·subst e;rw[XF.upd_self];simp only[mix,hk,if_true,XF.upd_self]
   ·rw[XF.upd_ne _ _ e];simp only[mix,XF.upd_ne _ _ e]
  rw[e];exact this
theorem rootsL_set {vs:List AU}{i sz:Nat}:∀ r ∈ rootsL (vs.set i (.sl false () sz 0 [])),r ∈ rootsL vs:=by
 induction vs generalizing i with
 | nil=>intro r h;simp at h
 | cons a l ih =>
  intro r h
  cases i with
  | zero =>
   simp only[List.set_cons_zero,rootsL,roots,List.mem_append] at h ⊢
   rcases h with h | h
   ·cases h
   ·exact .inr h
  | succ i =>
   simp only[List.set_cons_succ,rootsL,List.mem_append] at h ⊢
   exact h.imp id (ih r)
section
variable {P:Program} {nt:Nat}
theorem WL.eqL {cc:Cd}{L L':SL}{Q:Ex→SL→Prop}(e:L=L')(h:WL P nt cc L' Q):WL P nt cc L Q:=e ▸ h
theorem RL.eqL {segs:List Sg}{L L':SL}{K:SL→Prop}(e:L=L')(h:RL P nt segs L' K):RL P nt segs L K:=e ▸ h
theorem DL.cut {L:SL}{fs:Fs}{K:SL→Fs→Prop}{segs segs':List Sg}(e:flatS segs=flatS segs')(h:DL P nt segs' L fs K):DL P nt segs L fs K:=by
 intro C ops i n hP hn hc0 hc
 exact h C ops i n hP hn hc0 (by rw[← e];exact hc)
theorem DL.oA {K:SL→Fs→Prop}{rest:List Sg}{c:COp}{l:List COp}{L L1:SL}{R D:List Nat}{fs:Fs}{vs:List AU}(n i sz:Nat)(hs:stpD L c=some (L1,R,D))(hu:D.contains (2 * n)=true)(hn:n < 9000)(hv:(fnL L1 (100 * n)).2=.agg vs)(hno:noOwnL vs=true)
  (hi:vs[i]?=some (.sc (.slice none 0 0))) (h:DL P nt (.o l :: rest) (updL L1 (100 * n) (.agg (vs.set i (.sl false () sz 0 [])))) ((R,D) :: fs) K):DL P nt (.o (c :: l) :: rest) L fs K:=by
 refine DL.cons (it:=.op none c) (rest:=.o l :: rest) (by simp[flatS]) (fun C ops j o hP hnt hc0 hj hit=>?_) h
 have h0:=dstep_op hP hnt hj hit hc0 hs
 rw[← fnL_upd]
 refine h0.conv (100 * n) ?_ ?_ _ ?_ fun X tm w hX hr=>?_
 ·have:unitK (100 * n)=2 * n:=by unfold unitK;rw[if_pos (by omega)];omega
  rw[this];simpa using hu
 ·simp only[handB,Bool.and_eq_false_iff,decide_eq_false_iff_not];omega
 ·rw[hv];simp only[roots];exact rootsL_set
 ·exact hr.nilA n i sz hno (by rw[hX];exact hv) hi
end
end Go.OT
namespace Go.OT
end Go.OT
