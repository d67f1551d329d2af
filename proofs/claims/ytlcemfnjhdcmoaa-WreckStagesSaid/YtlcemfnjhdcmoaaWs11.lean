/- Part 11 of the proof: see its last file. -/
import Derived.Test.YtlcemfnjhdcmoaaRows
import Derived.Test.YtlcemfnjhdcmoaaWs10
set_option linter.unusedSimpArgs false
set_option linter.unusedVariables false
set_option maxHeartbeats 64000000
namespace Go.OT
open Go.Proofs
abbrev rcO (b:Nat)(s:St):SL:=[(100 * b,0,.bptr b 1 0),(100 * b+1,0,sB true s.There),(100 * b+2,0,sS true s.Body),(100 * b+3,0,sII true s.Handles),(100 * b+99,1,.non)]
abbrev mkT (l:List Cl)(wt:List Int)(m:Mk)(i:Nat)(r:SL):SL:=[(0,0,sCl l),(100,0,sI false wt)] ++ (rcO 5 m.s ++ ([(600,0,hEv m.out),(700,0,sI true m.op),(800,0,i64 m.now),(900,0,i64 i)] ++ r))
abbrev zmj (c:Cl):SL:=[(1000,0,.bptr 10 1 0),(1001,0,i64 c.Client),(1002,0,i64 c.op.Kind),(1003,0,i64 c.op.Page),(1004,0,i64 c.op.Handle),(1005,0,i64 c.op.Off),(1006,0,i64 c.op.N),(1007,0,sU false c.op.Data),(1099,1,.non)]
theorem ykt (l:List Cl)(wt:List Int)(m:Mk)(i:Nat)(hi:i≤100)(h:MkK m i (10 * i))(x:Cl)(c:Nat)(hc:c < 3)(ex:x.Client=c)(w:Int)(K:Ex→SL→Prop)
  (hK:∀ L,L=mkT l wt (z8a m c) i (zmj x ++ [(1100,0,i64 w)])→WL Try.prog zsq.nt zp2 L K) :
  WL Try.prog zsq.nt zp3 (mkT l wt m i (zmj x ++ [(1100,0,i64 w)])) K:=by
 have hn:=h.n
 have ho:=h.o
 have hc':c < m.op.length:=by omega
 have e0:m.op.getD c 0=m.op[c]:=by simp[hc']
 have c1:c+1≤3:=hc
 have cI:(c:Int) < 3:=by omega
 refine WL.seq (WL.sreg (by simp[ex,ho,hc,hc',c1,cI];rfl) (by simp;rfl) ?_)
 by_cases p:0≤m.op[c]
 ·obtain⟨k,hk,ek⟩:=h.op hc (by rw[e0];exact p)
  have ek':m.op[c]=(k:Int):=by rw[← e0];exact ek
  have hk':k < m.out.length:=by omega
  have hf:=zh1 m.s h.s m.out (by omega) k hk' (by have:=h.d _ (qb hk');omega) m.now h.n0 (by have:=h.n1;omega) true
  have eM:z8a m c=mkO (mkF m (k:Int) true) c (-1):=by unfold z8a;rw[e0,ek',if_pos (by omega)]
  have eA:atE m.out (k:Int)=m.out[k]:=z59 hk'
  refine WL.sreg (by simp[p];rfl) (by simp;rfl) ?_
  refine WL.cond (t:=true) (by simp[p]) (fun _=>?_) (by simp)
  rw[ek']
  refine w7 (RL.o (by simp;rfl) (RL.call false [(501,[]),(502,[]),(503,[]),(600,[])] hf (by simp) (by simp) (by simp[z36]) (by simp) ?_))
  refine RL.o (by simp;rfl) (RL.nil ⟨_,by simp;rfl,?_⟩)
  refine WL.reg (RL.run (by simp[ex,ho,hc,hc',c1,cI];rfl) ⟨_,by simp;rfl,hK _ ?_⟩)
  rw[eM]
  simp[mkO,mkF,eA,ho,ex]
 ·have eM:z8a m c=m:=by unfold z8a;rw[e0,if_neg p]
  refine WL.sreg (by simp[p];rfl) (by simp;rfl) ?_
  refine WL.cond (t:=false) (by simp[p]) (by simp) fun _=>WL.skip ?_
  rw[eM] at hK
  refine WL.fin [12,40] (by simp;rfl) (hK _ ?_)
  simp[ex,ho]
theorem yku (l:List Cl)(wt:List Int)(m:Mk)(i:Nat)(hi:i≤100)(h:MkK m i (10 * i+2))(x:Cl)(c:Nat)(hc:c < 3)(ex:x.Client=c)(w:Int)(K:Ex→SL→Prop)
  (hK:∀ L,L=mkT l wt (z3y m c x.op) i (zmj x ++ [(1100,0,i64 w)])→WL Try.prog zsq.nt zp1 L K) :
  WL Try.prog zsq.nt zp2 (mkT l wt m i (zmj x ++ [(1100,0,i64 w)])) K:=by
 have hn:=h.n
 have ho:=h.o
 have hc':c < m.op.length:=by omega
 have c1:c+1≤3:=hc
 have cI:(c:Int) < 3:=by omega
 have w1:IntKind.wrap .i64 (m.now+1)=m.now+1:=by rw[z01 (by have:=h.n0;omega) (by have:=h.n1;omega)]
 have m1:(m.out.length+1) * 144≤140737488355328:=by omega
 have m2:m.out.length+1≤maxLen:=by unfold maxLen;omega
 have w2:IntKind.wrap .i64 ((m.out.length:Int)+1 - 1)=(m.out.length:Int):=by rw[z01 (by omega) (by omega)];omega
 have w3:IntKind.wrap .i64 (m.out.length:Int)=(m.out.length:Int):=by rw[z01 (by omega) (by omega)]
 have tk:List.take (m.out.length * 14) (m.out.flatMap (z02 false false))=m.out.flatMap (z02 false false):=pp (by rw[z27];exact pr _)
 refine WL.sreg (by simp[w1];rfl) (by simp;rfl) ?_
 refine w7 ?_
 refine RL.cut (segs':=.o [.mov 52 (.t 6),.faddr 53 0 (.t 10),.ld 54 1 false (.t 53),.faddr 55 1 (.t 10),.ld 56 6 true (.t 55),.mov 57 (.t 8),.build 58 [(.sc (.int .i64 0)),(.sc (.int .i64 0)),(.sc (.int .i64 0)),(.sc (.int .i64 0)),(.sc (.int .i64 0)),(.sc (.int .i64 0)),(.sc (.slice none 0 0)),(.sc (.int .i64 0)),(.sc (.int .i64 0)),(.sc (.int .i64 0)),(.sc (.slice none 0 0)),(.sc (.int .i64 0)),(.sc (.int .i64 0)),(.sc (.int .i64 0))] [(0,1,(.t 54)),(1,6,(.t 56)),(11,1,(.t 57))]] :: .o [.bs1 59 14 (.t 58),.app 60 14 144 (.t 52) (.t 59),.asg 6 (.t 60)] :: []) rfl ?_
 refine RL.o (by simp;rfl) (RL.nilA 58 10 1 (by simp;rfl) rfl rfl ?_)
 refine RL.o (by simp[m1,m2];rfl) (RL.nil ⟨_,by simp;rfl,?_⟩)
 refine WL.sreg (by simp[ex,ho,hc,hc',c1,cI,w2,w3];rfl) (by simp;rfl) (hK _ ?_)
 have tk2:List.take ((m.out.length+1) * 14) (m.out.flatMap (z02 false false) ++ z02 false false ⟨c,x.op,⟨0,0,0,[]⟩,m.now+1,0,0⟩)=m.out.flatMap (z02 false false) ++ z02 false false ⟨c,x.op,⟨0,0,0,[]⟩,m.now+1,0,0⟩:=pp (by rw[qr,z27];simp;omega)
 simp[z3y,ho,ex,tk,tq]
 exact tk2
theorem y1z (l:List Cl)(wt:List Int)(m:Mk)(i:Nat)(hi:i≤100)(h:MkK m (i+1) (10 * i+3))(x:Cl)(c:Nat)(hc:c < 3)(ex:x.Client=c)(w:Int)(K:Ex→SL→Prop)
  (hK:∀ L,(∃ r,L=mkT l wt (if fl1 w=true then z9c m c (fl2 w) else m) i r∧(r=zmj x ++ [(1100,0,i64 w),(7000,0,bl false)]∨r=zmj x ++ [(8300,0,bl false)]∨r=[]))→K .nrm L) :
  WL Try.prog zsq.nt zp1 (mkT l wt m i (zmj x ++ [(1100,0,i64 w)])) K:=by
 have hn:=h.n
 have ho:=h.o
 have hc':c < m.op.length:=by omega
 have c1:c+1≤3:=hc
 have cI:(c:Int) < 3:=by omega
 have hk':i < m.out.length:=by omega
 have wl:IntKind.wrap .i64 ((m.out.length:Int) - 1)=(i:Int):=by rw[z01 (by omega) (by omega)];omega
 have eA:atE m.out (i:Int)=m.out[i]:=z59 hk'
 have el:m.out.length - 1=i:=by omega
 have hf:=fun en=>zh1 m.s h.s m.out (by omega) i hk' (by have:=h.d _ (qb hk');omega) m.now h.n0 (by have:=h.n1;omega) en
 cases q1:fl1 w with
 | false =>
  have v1:¬ an1 w=1:=beq_eq_false_iff_ne.1 q1
  refine WL.sreg (by simp;rfl) (by simp;rfl) ?_
  refine WL.cond (t:=false) (by simp;exact v1) (by simp) fun _=>WL.skip ?_
  refine hK _ ⟨_,?_,.inl rfl⟩
  rw[q1]
  simp[ex,ho]
  exact v1
 | true =>
  have v1:an1 w=1:=beq_iff_eq.1 q1
  refine WL.sreg (by simp;rfl) (by simp;rfl) ?_
  refine WL.cond (t:=true) (by simp;exact v1) (fun _=>?_) (by simp)
  have hf':=hf (fl2 w)
  refine w7 (RL.o (by simp[wl];rfl) ?_)
  refine RL.call false [(501,[]),(502,[]),(503,[]),(600,[])] hf' (by simp) (by simp) (by simp[z36];rfl) (by simp) ?_
  refine RL.o (by simp;rfl) (RL.nil ⟨_,by simp;rfl,?_⟩)
  cases q2:fl2 w with
  | false =>
   have v2:¬ an2 w=2:=beq_eq_false_iff_ne.1 q2
   refine WL.sreg (by simp;rfl) (by simp;rfl) ?_
   refine WL.cond (t:=false) (by simp;exact v2) (by simp) fun _=>WL.skip ?_
   refine hK _ ⟨_,?_,.inr (.inl rfl)⟩
   rw[q1,q2]
   simp[z9c,mkF,ex,ho,el,eA]
   exact v2
  | true =>
   have v2:an2 w=2:=beq_iff_eq.1 q2
   refine WL.sreg (by simp;rfl) (by simp;rfl) ?_
   refine WL.cond (t:=true) (by simp;exact v2) (fun _=>?_) (by simp)
   refine WL.reg (RL.run (by simp[ex,ho,hc,hc',c1,cI];rfl) ⟨_,by simp;rfl,?_⟩)
   refine hK _ ⟨_,?_,.inr (.inr rfl)⟩
   rw[q1,q2]
   simp[z9c,mkF,mkO,ex,ho,el,eA]
theorem zqr {m:Mk}{n:Nat}{t:Int}(h:MkK m (n+1) t)(c:Nat)(en:Bool):MkK (z9c m c en) (n+1) (t+2):=by
 have e:((m.out.length - 1:Nat):Int)=((n:Nat):Int):=by rw[h.n];rfl
 unfold z9c
 rw[e]
 split
 ·exact (h.f (Nat.lt_succ_self n) true).set c (.inl rfl)
 ·exact h.f (Nat.lt_succ_self n) false
theorem zd9 {m:Mk}{i:Nat}(h:MkK m i (10 * (i:Int)))(x:Cl)(w:Int){c:Nat}(hc:c < 3)(ec:x.Client.toNat=c)(hd:x.op.Data.length≤8):MkK (z53 m x w) (i+1) (10 * ((i+1:Nat):Int)):=by
 unfold z53
 rw[ec]
 have h2:=(h.fin hc).add c x.op hd
 split
 ·exact (zqr h2 c _).mono (by omega)
 ·exact h2.mono (by omega)
theorem zh2 (l:List Cl)(wt:List Int):MkK (z43 l wt 0) 0 (10 * ((0:Nat):Int)) :=
 ⟨z5m l 0,rfl,rfl,fun x hx=>by left;simpa [z43] using hx,Int.le_refl _,Int.le_refl _,fun e he=>by simp[z43] at he⟩
theorem y20 (l:List Cl)(hl:l.length≤50)(hD:∀ x ∈ l,x.op.Data.length≤1000)(wt:List Int):FnC Try.prog 39 [] [sCl l,sI false wt] [] (hEv (z43 l wt l.length).out):=by
 refine wc yy1 rfl ?_
 refine WL.sreg (by simp;rfl) (by simp;rfl) ?_
 refine w7 (RL.call0 false (z84 5 3) (by simp) (by simp) (RL.o (by simp;rfl) (RL.nil ⟨_,by simp;rfl,?_⟩)))
 refine WL.sreg (by simp;rfl) (by simp;rfl) ?_
 refine WL.sreg (by simp;rfl) (by simp;rfl) ?_
 refine WL.sreg (by simp;rfl) (by simp;rfl) ?_
 refine WL.seq (WL.sreg (by simp;rfl) (by simp;rfl) ?_)
 refine WL.block (we l.length (fun i=>mkT l wt (z43 l wt i) i []) (fun i=>MkK (z43 l wt i) i (10 * i)) (by simp[z43]) (zh2 l wt) fun i hi hm=>?_)
 by_cases h:i < l.length
 ·have w:IntKind.wrap .i64 ((i:Int)+1)=((i+1:Nat):Int):=by rw[z01 (by omega) (by omega)];omega
  have f1:=y09 h
  have g1:7≤l.length * 7 - i * 7:=by omega
  have hnear:=zy0 l[i] 5 3 (by decide) (by decide) (by decide) (by decide) (hD _ (qb h))
  have eC:z7x l[i] 5 3=z2j l i:=by simp[z2j,h]
  rw[eC] at hnear
  have hcl:=zen l i
  have hdl:=z91 l i
  have eR:z43 l wt (i+1)=z53 (z43 l wt i) (z2j l i) (wt.getD i 0):=rfl
  rw[eR]
  generalize z43 l wt i=m at hm ⊢
  generalize z2j l i=x at hnear hcl hdl ⊢
  obtain⟨c,ex⟩:=pt hcl.1
  have hc:c < 3:=by omega
  have ec:x.Client.toNat=c:=by omega
  have h1:=hm.fin hc
  have h2:=h1.add c x.op hdl
  have rest:∀ (wv:Int),wv=wt.getD i 0→∀ Q,(∀ L,(∃ r,L=mkT l wt (z53 m x (wt.getD i 0)) i r∧(r=zmj x ++ [(1100,0,i64 wv),(7000,0,bl false)]∨r=zmj x ++ [(8300,0,bl false)]∨r=[]))→Q Ex.nrm L)→WL Try.prog zsq.nt zp3 (mkT l wt m i (zmj x ++ [(1100,0,i64 wv)])) Q:=by
   intro wv ew Q hQ
   refine ykt l wt m i (by omega) hm x c hc ex wv Q fun L eL=>?_
   subst eL
   refine yku l wt (z8a m c) i (by omega) h1 x c hc ex wv Q fun L eL=>?_
   subst eL
   refine y1z l wt (z3y (z8a m c) c x.op) i (by omega) (h2.mono (by omega)) x c hc ex wv Q fun L ⟨r,eL,hr⟩=>?_
   refine hQ L ⟨r,?_,hr⟩
   rw[eL]
   simp only[z53,ec,ew]
  refine WL.seq (WL.sreg (by simp[h];rfl) (by simp;rfl) ?_)
  refine WL.cond (t:=true) (by simp[h]) (fun _=>WL.skip ?_) (by simp)
  refine WL.seq (WL.block (w7 (RL.o (by simp[h,f1,g1];rfl) (RL.call0 false hnear (by simp) (by simp) (RL.o (by simp;rfl) (RL.nil ⟨_,by simp;rfl,?_⟩))))))
  refine WL.sreg (by simp;rfl) (by simp;rfl) ?_
  have hK:=zd9 hm x (wt.getD i 0) hc ec hdl
  have done:∀ L,(∃ r,L=mkT l wt (z53 m x (wt.getD i 0)) i r∧∃ wv:Int,(r=zmj x ++ [(1100,0,i64 wv),(7000,0,bl false)]∨r=zmj x ++ [(8300,0,bl false)]∨r=[]))→∀ Q,(∀ L',(i < l.length∧L'=mkT l wt (z53 m x (wt.getD i 0)) (i+1) []∧MkK (z53 m x (wt.getD i 0)) (i+1) (10 * ((i+1:Nat):Int)))→Q Ex.nrm L')→WL Try.prog zsq.nt zuh L Q:=by
   rintro L ⟨r,rfl,wv,hr⟩ Q hQ
   rcases hr with rfl | rfl | rfl
   ·exact WL.reg (RL.run (by simp[w];rfl) ⟨_,by simp;rfl,hQ _ ⟨h,by simp,hK⟩⟩)
   ·exact WL.reg (RL.run (by simp[w];rfl) ⟨_,by simp;rfl,hQ _ ⟨h,by simp,hK⟩⟩)
   ·exact WL.reg (RL.run (by simp[w];rfl) ⟨_,by simp;rfl,hQ _ ⟨h,by simp,hK⟩⟩)
  by_cases hw:i < wt.length
  ·have ew:wt[i]=wt.getD i 0:=by simp[hw]
   refine WL.seq (WL.sreg (by simp[hw];rfl) (by simp;rfl) ?_)
   refine WL.cond (t:=true) (by simp[hw]) (fun _=>?_) (by simp)
   refine WL.reg (RL.run (by simp[hw];rfl) ⟨_,by simp;rfl,?_⟩)
   exact rest wt[i] ew _ fun L ⟨r,eL,hr⟩=>done L ⟨r,eL,_,hr⟩ _ fun L' h'=>h'
  ·have ew:(0:Int)=wt.getD i 0:=by simp[hw]
   refine WL.seq (WL.sreg (by simp[hw];rfl) (by simp;rfl) ?_)
   refine WL.cond (t:=false) (by simp[hw]) (by simp) fun _=>WL.skip ?_
   refine WL.fin [29] (by simp;rfl) ?_
   exact rest 0 ew _ fun L ⟨r,eL,hr⟩=>done L ⟨r,eL,_,hr⟩ _ fun L' h'=>h'
 ·obtain rfl:i=l.length:=by omega
  refine WL.seq (WL.sreg (by simp;rfl) (by simp;rfl) ?_)
  refine WL.cond (t:=false) (by simp) (by simp) fun _=>WL.exit ?_
  refine w7 (n6 (by decide) (RL.o (by simp;rfl) (RL.nil ⟨_,by simp;rfl,WL.ret ⟨.inr rfl,?_⟩⟩)))
  simp[zsq]
  have tk:List.take ((z43 l wt l.length).out.length * 14) (List.flatMap (z02 false false) (z43 l wt l.length).out)=List.flatMap (z02 false false) (z43 l wt l.length).out:=pp (by rw[z27];exact pr _)
  rw[tk,tk]
def zca (s:St)(out:List Ev)(o:Int):List Ev :=
 if 0 < (atE out o).End then out.set o.toNat { atE out o with res:=(DoB s (atE out o).Client (atE out o).op).2.2 } else out
def zti:List Int→St→List Ev→St × List Ev
 | [],s,out=>(s,out)
 | o :: r,s,out=>zti r (DoB s (atE out o).Client (atE out o).op).2.1 (zca s out o)
def zm9 (l:List Ev):List Ev:=(zti (z1t l) (z1c 5 3) l).2
theorem zqs (s:St)(out:List Ev)(o:Int):(zca s out o).length=out.length:=by unfold zca;split<;>simp
theorem ztj (s:St)(out:List Ev)(o:Int):∀ e ∈ zca s out o,∃ e' ∈ out,e.op=e'.op∨e.op.Data=[]:=by
 intro e he
 unfold zca at he
 split at he
 ·rcases si he with he | rfl
  ·exact⟨e,he,.inl rfl⟩
  ·by_cases h:o.toNat < out.length
   ·exact⟨out[o.toNat],qb h,.inl (by simp[atE,h])⟩
   ·rw[List.set_eq_of_length_le (by omega)] at he
    exact⟨_,he,.inl rfl⟩
 ·exact⟨e,he,.inl rfl⟩
theorem y21 (l:List Ev):(l.flatMap (z02 false false)).all z1b=true:=by
 rw[qe]
 intro c hc
 obtain⟨e,he,hc⟩:=List.mem_flatMap.1 hc
 have h:(z02 false false e).all z1b=true:=rfl
 exact qe.1 h c hc
@[simp] theorem y22 (L:SL) (d:Nat) (zs:List AU):z61 L (.alloc d zs)=true:=rfl
abbrev rsT (out:List Ev)(s:St)(o:List Int)(j:Nat)(r:SL):SL:=[(300,0,hEv out)] ++ (rcO 4 s ++ ([(500,0,sI true o),(600,0,i64 j)] ++ r))
theorem zma (l:List Ev)(hn:l.length≤1000)(hD:∀ e ∈ l,e.op.Data.length≤1000):FnC Try.prog 40 [] [sEv l] [] (hEv (zm9 l)):=by
 have hL:=z27 false false l
 have hp:=y21 l
 have m1:l.length * 144≤140737488355328:=by omega
 have m2:l.length≤maxLen:=by unfold maxLen;omega
 have hO:=z86 l
 have tk:List.take (l.length * 14) (l.flatMap (z02 false false))=l.flatMap (z02 false false):=pp (by rw[z27];exact pr _)
 refine wc yy2 rfl ?_
 refine WL.sreg (by simp;rfl) (by simp;rfl) ?_
 refine WL.sreg (by simp[hL,hp,m1,m2];rfl) (by simp;rfl) ?_
 refine w7 (RL.call0 false (z84 5 3) (by simp) (by simp) (RL.o (by simp;rfl) (RL.nil ⟨_,by simp;rfl,?_⟩)))
 refine w7 (RL.o (by simp;rfl) (RL.call0 true (zir l hn) (by simp[tk]) (by simp[ymu]) (RL.o (by simp;rfl) (RL.nil ⟨_,by simp;rfl,?_⟩))))
 have s0:=z3u (p:=5) (c:=3) (by kernel_rfl)
 have hR:zm9 l=(zti (z1t l) (z1c 5 3) l).2:=rfl
 generalize z1c 5 3=st0 at s0 hR ⊢
 refine WL.seq (WL.sreg (by simp;rfl) (by simp;rfl) ?_)
 refine WL.block (WL.loop (ι:={x:Nat × St × List Ev // x.1≤(z1t l).length∧OkSt x.2.1∧x.2.2.length=l.length∧(∀ e ∈ x.2.2,e.op.Data.length≤1000)∧zti ((z1t l).drop x.1) x.2.1 x.2.2=zti (z1t l) st0 l}) (fun x=>rsT x.1.2.2 x.1.2.1 (z1t l) x.1.1 []) (fun x=>(z1t l).length - x.1.1) ⟨(0,st0,l),rh _,s0,rfl,hD,rfl⟩ (by simp[tk]) fun x=>?_)
 obtain⟨⟨j,s,out⟩,hj,hs,hlen,hDo,hg⟩:=x
 simp only at hj hs hlen hDo hg ⊢
 by_cases hlt:j < (z1t l).length
 ·obtain⟨u,hu,eu⟩:=zek hlt
  have hlt':j+1≤(z1t l).length:=hlt
  have hu':u < out.length:=by omega
  have w:IntKind.wrap .i64 ((j:Int)+1)=((j+1:Nat):Int):=by rw[z01 (by omega) (by omega)];omega
  have hdo:=z83 s hs out[u].Client out[u].op (by have:=hDo _ (qb hu');unfold z0c;omega)
  have hL2:=z27 false false out
  have hsd:=hs.doB out[u].Client out[u].op
  rw[s6 hlt] at hg
  simp only[zti,eu,z59 hu'] at hg
  have hlen2:=zqs s out (u:Int)
  have hop2:=ztj s out (u:Int)
  have hro:zca s out (u:Int)=if 0 < out[u].End then out.set u { out[u] with res:=(DoB s out[u].Client out[u].op).2.2 } else out:=by simp only[zca,z59 hu',t9]
  have hs5:=fun r=>zab hu' r
  have q0:∀ (hh:u * 14 < (out.flatMap (z02 false false)).length),(out.flatMap (z02 false false))[u * 14]'hh=i64 out[u].Client:=z0i (j:=0) (v:=i64 out[u].Client) hu' (by decide) rfl
  have q1:∀ (hh:u * 14+1 < (out.flatMap (z02 false false)).length),(out.flatMap (z02 false false))[u * 14+1]'hh=i64 out[u].op.Kind:=z0i (j:=1) (v:=i64 out[u].op.Kind) hu' (by decide) rfl
  have p1:(out.flatMap (z02 false false))[u * 14+1]?=some (i64 out[u].op.Kind):=z1s (j:=1) hu' (by decide)
  have q2:∀ (hh:u * 14+1+1 < (out.flatMap (z02 false false)).length),(out.flatMap (z02 false false))[u * 14+1+1]'hh=i64 out[u].op.Page:=z0i (j:=2) (v:=i64 out[u].op.Page) hu' (by decide) rfl
  have p2:(out.flatMap (z02 false false))[u * 14+1+1]?=some (i64 out[u].op.Page):=z1s (j:=2) hu' (by decide)
  have q3:∀ (hh:u * 14+1+2 < (out.flatMap (z02 false false)).length),(out.flatMap (z02 false false))[u * 14+1+2]'hh=i64 out[u].op.Handle:=z0i (j:=3) (v:=i64 out[u].op.Handle) hu' (by decide) rfl
  have p3:(out.flatMap (z02 false false))[u * 14+1+2]?=some (i64 out[u].op.Handle):=z1s (j:=3) hu' (by decide)
  have q4:∀ (hh:u * 14+1+3 < (out.flatMap (z02 false false)).length),(out.flatMap (z02 false false))[u * 14+1+3]'hh=i64 out[u].op.Off:=z0i (j:=4) (v:=i64 out[u].op.Off) hu' (by decide) rfl
  have p4:(out.flatMap (z02 false false))[u * 14+1+3]?=some (i64 out[u].op.Off):=z1s (j:=4) hu' (by decide)
  have q5:∀ (hh:u * 14+1+4 < (out.flatMap (z02 false false)).length),(out.flatMap (z02 false false))[u * 14+1+4]'hh=i64 out[u].op.N:=z0i (j:=5) (v:=i64 out[u].op.N) hu' (by decide) rfl
  have p5:(out.flatMap (z02 false false))[u * 14+1+4]?=some (i64 out[u].op.N):=z1s (j:=5) hu' (by decide)
  have q6:∀ (hh:u * 14+1+5 < (out.flatMap (z02 false false)).length),(out.flatMap (z02 false false))[u * 14+1+5]'hh=sU false out[u].op.Data:=z0i (j:=6) (v:=sU false out[u].op.Data) hu' (by decide) rfl
  have p6:(out.flatMap (z02 false false))[u * 14+1+5]?=some (sU false out[u].op.Data):=z1s (j:=6) hu' (by decide)
  have q13:∀ (hh:u * 14+13 < (out.flatMap (z02 false false)).length),(out.flatMap (z02 false false))[u * 14+13]'hh=i64 out[u].End:=z0i (j:=13) (v:=i64 out[u].End) hu' (by decide) rfl
  have q7:∀ (hh:u * 14+7 < (out.flatMap (z02 false false)).length),(out.flatMap (z02 false false))[u * 14+7]'hh=i64 out[u].res.Code:=z0i (j:=7) (v:=i64 out[u].res.Code) hu' (by decide) rfl
  have q8:∀ (hh:u * 14+7+1 < (out.flatMap (z02 false false)).length),(out.flatMap (z02 false false))[u * 14+7+1]'hh=i64 out[u].res.Page:=z0i (j:=8) (v:=i64 out[u].res.Page) hu' (by decide) rfl
  have q9:∀ (hh:u * 14+7+2 < (out.flatMap (z02 false false)).length),(out.flatMap (z02 false false))[u * 14+7+2]'hh=i64 out[u].res.Handle:=z0i (j:=9) (v:=i64 out[u].res.Handle) hu' (by decide) rfl
  have q10:∀ (hh:u * 14+10 < (out.flatMap (z02 false false)).length),(out.flatMap (z02 false false))[u * 14+10]'hh=sU false out[u].res.Data:=z0i (j:=10) (v:=sU false out[u].res.Data) hu' (by decide) rfl
  have i7:u * 14+7 < out.length * 14:=by omega
  have i8:u * 14+8 < out.length * 14:=by omega
  have i9:u * 14+9 < out.length * 14:=by omega
  have i10:u * 14+10 < out.length * 14:=by omega
  have b1:u * 14+1≤out.length * 14:=by omega
  have b2:u * 14+1+6≤out.length * 14:=by omega
  refine WL.seq (WL.sreg (by simp[hlt];rfl) (by simp;rfl) ?_)
  refine WL.cond (t:=true) (by simp[hlt]) (fun _=>WL.skip ?_) (by simp)
  refine WL.seq (WL.block (WL.seq ?_))
  refine WL.draw z0t (by simp[z0b,noH]) (DL.o (by simp[hlt,hlt',eu,hu',q0,q1,q2,q3,q4,q5,q6,p1,p2,p3,p4,p5,p6,hL2,b1,b2];exact⟨rfl,rfl⟩) ?_)
  generalize DoB s out[u].Client out[u].op=dd at hdo hsd hg hro
  obtain⟨o',t,r⟩:=dd
  simp only at hdo hsd hg hro
  refine n3 true [(401,[]),(402,[]),(403,[])] hdo (by simp) (by simp) (by simp[z36]) (zbp s t r) (by simp[z0b,noH]) ?_
  refine DL.o (by simp;exact⟨rfl,rfl⟩) (DL.nil ⟨by kernel_rfl,_,by simp;rfl,?_⟩)
  have b13:u * 14+13 < out.length * 14:=by omega
  have b14:u * 14+13+1≤out.length * 14:=by omega
  by_cases hE:0 < out[u].End
  ·refine WL.sreg (by simp[hlt,hlt',eu,hu',q13,hL2,b13,b14,hE];rfl) (by simp;rfl) ?_
   refine WL.cond (t:=true) (by simp[hE]) (fun _=>?_) (by simp)
   refine WL.wipe1 300 [u * 14+10] (by simp[q10,hL2,i10]) ?_
   refine WL.draw z0t (by simp[z0b,noH]) (DL.o (by simp[hlt,hlt',eu,hu',q7,q8,q9,q10,hL2,i7,i8,i9,i10];exact⟨rfl,rfl⟩) (DL.nil ⟨by kernel_rfl,_,by simp;rfl,?_⟩))
   rw[if_pos hE] at hro
   have h5:=hs5 r
   rw[← hro] at h5
   refine WL.reg (RL.run (by simp[w];rfl) ⟨_,by simp;rfl,?_⟩)
   refine⟨⟨(j+1,t,zca s out u),hlt,hsd,by rw[hlen2,hlen],fun e he=>?_,hg⟩,?_,by simp only;omega⟩
   ·obtain⟨e',he',h6⟩:=hop2 e he
    rcases h6 with h6 | h6
    ·rw[h6];exact hDo e' he'
    ·rw[h6];simp
   ·simp[← h5,hlen2]
  ·refine WL.sreg (by simp[hlt,hlt',eu,hu',q13,hL2,b13,b14,hE];rfl) (by simp;rfl) ?_
   refine WL.cond (t:=false) (by simp[hE]) (by simp) fun _=>WL.skip ?_
   rw[if_neg hE] at hro
   rw[hro] at hg
   refine WL.reg (RL.run (by simp[w];rfl) ⟨_,by simp;rfl,?_⟩)
   exact⟨⟨(j+1,t,out),hlt,hsd,hlen,hDo,hg⟩,by simp,by simp only;omega⟩
 ·obtain rfl:j=(z1t l).length:=by omega
  rw[List.drop_length] at hg
  simp only[zti] at hg
  rw[hR,← hg]
  refine WL.seq (WL.sreg (by simp;rfl) (by simp;rfl) ?_)
  refine WL.cond (t:=false) (by simp) (by simp) fun _=>WL.exit ?_
  have tk2:List.take (out.length * 14) (out.flatMap (z02 false false))=out.flatMap (z02 false false):=pp (by rw[z27];exact pr _)
  refine w7 (n6 (by decide) (RL.o (by simp;rfl) (RL.nil ⟨_,by simp;rfl,WL.ret ⟨.inr rfl,?_⟩⟩)))
  simp[ywr,tk2]
structure Tm (l:List Ev) (now:Int):Prop where
 c:∀ (i:Nat) (e:Ev),l[i]?=some e→0≤e.Client∧e.Client < 3
 b:∀ (i:Nat) (e:Ev),l[i]?=some e→1≤e.Begin∧e.Begin≤now
 s:∀ (i:Nat) (e:Ev),l[i]?=some e→e.Stamp=0∨(e.Begin < e.Stamp∧e.Stamp≤now)
 e:∀ (i:Nat) (e:Ev),l[i]?=some e→e.End=0∨(e.Begin < e.Stamp∧e.Stamp < e.End∧e.End≤now)
 inc:∀ (i j:Nat) (e f:Ev),l[i]?=some e→l[j]?=some f→i < j→e.Begin < f.Begin
 al:∀ (i j:Nat) (e f:Ev),l[i]?=some e→l[j]?=some f→i < j→e.Client=f.Client→1≤e.End∧e.End < f.Begin
structure MkI (m:Mk):Prop where
 t:Tm m.out m.now
 n0:0≤m.now
 o:m.op.length=3
 oc:∀ c k:Nat,c < 3→m.op.getD c 0=(k:Int)→∃ e,m.out[k]?=some e∧e.Client=c∧e.End=0
 on:∀ c i:Nat,c < 3→∀ e,m.out[i]?=some e→e.Client=c→e.End=0→m.op.getD c 0=(i:Int)
theorem z8b {l:List Int}{c d:Nat}{v:Int}(hc:c < l.length):(l.set c v).getD d 0=if d=c then v else l.getD d 0:=by
 rw[ph,t8,ph]
 by_cases h:c=d
 ·subst h;simp[hc]
 ·have h':¬ d=c:=fun x=>h x.symm
  simp[h,h']
theorem zqt (s:St)(e:Ev)(now:Int)(en:Bool):(zc9 s e now en).Client=e.Client∧(zc9 s e now en).Begin=e.Begin∧(zc9 s e now en).Stamp=(if e.Stamp=0 then now+1 else e.Stamp)∧(zc9 s e now en).End=(if en=true then zew e now en else e.End):=by
 unfold zc9;cases en<;>by_cases z:e.Stamp=0<;>simp [z]
theorem Tm.fin {s:St}{l:List Ev}{now:Int}(h:Tm l now){k:Nat}{e:Ev}(hk:l[k]?=some e)(h0:e.End=0)(en:Bool):Tm (l.set k (zc9 s e now en)) (zew e now en):=by
 have hl:k < l.length:=by
  rcases tv k l.length with h | h
  ·exact h
  ·rw[qi h] at hk;cases hk
 have hN:=ziy e now en
 obtain⟨q1,q2,q3,q4⟩:=zqt s e now en
 have hg:∀ (i:Nat) (x:Ev),(l.set k (zc9 s e now en))[i]?=some x→(i=k∧x=zc9 s e now en)∨(i ≠ k∧l[i]?=some x):=fun i x hx=>by
  rw[t8] at hx
  by_cases z:k=i
  ·subst z;simp[hl] at hx;exact .inl ⟨rfl,hx.symm⟩
  ·simp[z] at hx;exact .inr ⟨fun y=>z y.symm,hx⟩
 generalize zc9 s e now en=e' at q1 q2 q3 q4 hg ⊢
 have hc:=h.c k e hk
 have hb:=h.b k e hk
 have hs:=h.s k e hk
 refine⟨fun i x hx=>?_,fun i x hx=>?_,fun i x hx=>?_,fun i x hx=>?_,fun i j x y hx hy hij=>?_,fun i j x y hx hy hij hcl=>?_⟩
 ·rcases hg i x hx with ⟨rfl,rfl⟩ | ⟨_,hx1⟩
  ·rw[q1];exact hc
  ·exact h.c i x hx1
 ·rcases hg i x hx with ⟨rfl,rfl⟩ | ⟨_,hx1⟩
  ·rw[q2];omega
  ·have:=h.b i x hx1;omega
 ·rcases hg i x hx with ⟨rfl,rfl⟩ | ⟨_,hx1⟩
  ·rw[q2,q3]
   right
   unfold zew
   by_cases z:e.Stamp=0
   ·simp only[z,if_true];cases en<;>simp<;>omega
   ·simp only[z,if_false];cases en<;>simp<;>omega
  ·have:=h.s i x hx1;omega
 ·rcases hg i x hx with ⟨rfl,rfl⟩ | ⟨_,hx1⟩
  ·cases en with
   | false=>left;rw[q4];simpa using h0
   | true =>
    right
    rw[q2,q3,q4]
    unfold zew
    by_cases z:e.Stamp=0
    ·simp only[z,if_true];omega
    ·simp only[z,if_false,if_true];omega
  ·have:=h.e i x hx1;omega
 ·rcases hg i x hx with ⟨rfl,rfl⟩ | ⟨_,hx1⟩
  ·rcases hg j y hy with ⟨rfl,rfl⟩ | ⟨_,hy1⟩
   ·omega
   ·rw[q2];exact h.inc _ j e y hk hy1 hij
  ·rcases hg j y hy with ⟨rfl,rfl⟩ | ⟨_,hy1⟩
   ·rw[q2];exact h.inc i _ x e hx1 hk hij
   ·exact h.inc i j x y hx1 hy1 hij
 ·rcases hg i x hx with ⟨rfl,rfl⟩ | ⟨_,hx1⟩
  ·rcases hg j y hy with ⟨rfl,rfl⟩ | ⟨_,hy1⟩
   ·omega
   ·have:=h.al _ j e y hk hy1 hij (by rw[← hcl,q1]);omega
  ·rcases hg j y hy with ⟨rfl,rfl⟩ | ⟨_,hy1⟩
   ·rw[q2];exact h.al i _ x e hx1 hk hij (by rw[hcl,q1])
   ·exact h.al i j x y hx1 hy1 hij hcl
theorem zqu {α:Type}{l:List α}{k:Nat}{e:α}(hk:l[k]?=some e):k < l.length:=by
 rcases tv k l.length with h | h
 ·exact h
 ·rw[qi h] at hk;cases hk
theorem y23 {l:List Ev}{k:Nat}{e:Ev}(hk:l[k]?=some e):atE l (k:Int)=e:=by simp[atE,hk]
theorem y24 {l:List Ev}{k i:Nat}{v x:Ev}(hl:k < l.length)(hx:(l.set k v)[i]?=some x):(i=k∧x=v)∨(i ≠ k∧l[i]?=some x):=by
 rw[t8] at hx
 by_cases z:k=i
 ·subst z;simp[hl] at hx;exact .inl ⟨rfl,hx.symm⟩
 ·simp[z] at hx;exact .inr ⟨fun y=>z y.symm,hx⟩
theorem MkI.done {m:Mk}(h:MkI m){c k:Nat}(hc:c < 3)(ho:m.op.getD c 0=(k:Int)):MkI (mkO (mkF m (k:Int) true) c (-1)):=by
 obtain⟨e,hk,ec,h0⟩:=h.oc c k hc ho
 have hl:=zqu hk
 have ea:=y23 hk
 have hN:=ziy e m.now true
 obtain⟨q1,q2,q3,q4⟩:=zqt m.s e m.now true
 have hn:=h.n0
 have hop:c < m.op.length:=by rw[h.o];exact hc
 have hEnd:(zc9 m.s e m.now true).End ≠ 0:=by
  rw[q4];simp only[if_true]
  unfold zew
  by_cases z:e.Stamp=0
  ·simp only[z,if_true];omega
  ·simp only[z,if_false,if_true];omega
 refine⟨?_,?_,by simp[mkO,mkF,h.o],fun c' k' hc' ho'=>?_,fun c' i hc' x hx hcl hx0=>?_⟩
 ·simp only[mkO,mkF,ea,t9];exact h.t.fin hk h0 true
 ·simp only[mkO,mkF,ea];omega
 ·simp only[mkO,mkF] at ho' ⊢
  rw[z8b hop] at ho'
  by_cases z:c'=c
  ·simp only[z,if_true] at ho';omega
  ·simp only[z,if_false] at ho'
   obtain⟨x,hx,hxc,hx0⟩:=h.oc c' k' hc' ho'
   have hne:k ≠ k':=fun y=>by
    subst y
    rw[hk] at hx;cases hx
    omega
   exact⟨x,by simp only[ea,t9,t8];simp[hne,hx],hxc,hx0⟩
 ·simp only[mkO,mkF,ea,t9] at hx ⊢
  rw[z8b hop]
  rcases y24 hl hx with ⟨rfl,rfl⟩ | ⟨hne,hx⟩
  ·exact absurd hx0 hEnd
  ·have:=h.on c' i hc' x hx hcl hx0
   by_cases z:c'=c
   ·subst z;rw[ho] at this;omega
   ·simp only[z,if_false];exact this
theorem MkI.add {m:Mk}(h:MkI m){c:Nat}(hc:c < 3)(hop0:m.op.getD c 0 < 0)(q:Op):MkI (z3y m c q)∧(z3y m c q).op.getD c 0=(m.out.length:Int):=by
 have hop:c < m.op.length:=by rw[h.o];exact hc
 have hn:=h.n0
 have hg:∀ (i:Nat) (x:Ev),(m.out ++ [⟨c,q,⟨0,0,0,[]⟩,m.now+1,0,0⟩])[i]?=some x→(i=m.out.length∧x=⟨c,q,⟨0,0,0,[]⟩,m.now+1,0,0⟩)∨(i < m.out.length∧m.out[i]?=some x):=fun i x hx=>by
  rcases tv i m.out.length with hi | hi
  ·rw[qc hi] at hx;exact .inr ⟨hi,hx⟩
  ·rw[qf hi] at hx
   have hz:=zqu hx
   simp at hz
   have e:i=m.out.length:=by omega
   subst e
   simp at hx
   exact .inl ⟨rfl,hx.symm⟩
 have hend:∀ (i:Nat) (x:Ev),m.out[i]?=some x→x.Client=c→1≤x.End∧x.End≤m.now:=fun i x hx hxc=>by
  have:=h.t.e i x hx
  have hs:=h.t.b i x hx
  by_cases z:x.End=0
  ·have:=h.on c i hc x hx hxc z;omega
  ·omega
 refine⟨⟨⟨fun i x hx=>?_,fun i x hx=>?_,fun i x hx=>?_,fun i x hx=>?_,fun i j x y hx hy hij=>?_,fun i j x y hx hy hij hcl=>?_⟩,by simp only[z3y];omega,by simp[z3y,h.o],fun c' k' hc' ho'=>?_,fun c' i hc' x hx hcl hx0=>?_⟩,by simp only[z3y];rw[z8b hop];simp⟩
 ·rcases hg i x hx with ⟨rfl,rfl⟩ | ⟨_,hx1⟩
  ·simp only;omega
  ·exact h.t.c i x hx1
 ·rcases hg i x hx with ⟨rfl,rfl⟩ | ⟨_,hx1⟩
  ·simp only[z3y];omega
  ·have:=h.t.b i x hx1;simp only[z3y];omega
 ·rcases hg i x hx with ⟨rfl,rfl⟩ | ⟨_,hx1⟩
  ·exact .inl rfl
  ·have:=h.t.s i x hx1;simp only[z3y];omega
 ·rcases hg i x hx with ⟨rfl,rfl⟩ | ⟨_,hx1⟩
  ·exact .inl rfl
  ·have:=h.t.e i x hx1;simp only[z3y];omega
 ·rcases hg i x hx with ⟨rfl,rfl⟩ | ⟨hi,hx1⟩
  ·rcases hg j y hy with ⟨rfl,rfl⟩ | ⟨_,hy1⟩<;>omega
  ·rcases hg j y hy with ⟨rfl,rfl⟩ | ⟨_,hy1⟩
   ·have:=h.t.b i x hx1;simp only;omega
   ·exact h.t.inc i j x y hx1 hy1 hij
 ·rcases hg i x hx with ⟨rfl,rfl⟩ | ⟨hi,hx1⟩
  ·rcases hg j y hy with ⟨rfl,rfl⟩ | ⟨_,hy1⟩<;>omega
  ·rcases hg j y hy with ⟨rfl,rfl⟩ | ⟨_,hy1⟩
   ·have:=hend i x hx1 hcl;simp only;omega
   ·exact h.t.al i j x y hx1 hy1 hij hcl
 ·simp only[z3y] at ho' ⊢
  rw[z8b hop] at ho'
  by_cases z:c'=c
  ·simp only[z,if_true] at ho'
   have e:k'=m.out.length:=by omega
   subst e
   exact⟨⟨c,q,⟨0,0,0,[]⟩,m.now+1,0,0⟩,by simp,by simp[z],rfl⟩
  ·simp only[z,if_false] at ho'
   obtain⟨x,hx,hxc,hx0⟩:=h.oc c' k' hc' ho'
   exact⟨x,by rw[qc (zqu hx)];exact hx,hxc,hx0⟩
 ·simp only[z3y] at hx ⊢
  rw[z8b hop]
  rcases hg i x hx with ⟨rfl,rfl⟩ | ⟨hi,hx1⟩
  ·have e:c'=c:=by simp only at hcl;omega
   simp[e]
  ·by_cases z:c'=c
   ·subst z;have:=hend i x hx1 hcl;omega
   ·simp only[z,if_false];exact h.on c' i hc' x hx1 hcl hx0
def sk (e:Ev):Ev:={ e with res:=⟨0,0,0,[]⟩ }
theorem ztk (s:St)(out:List Ev)(o:Int):(zca s out o).map sk=out.map sk:=by
 unfold zca
 split
 ·rw[sq]
  by_cases h:o.toNat < out.length
  ·have e:sk { atE out o with res:=(DoB s (atE out o).Client (atE out o).op).2.2 }=(out.map sk)[o.toNat]'(by simpa using h):=by simp[sk,atE,h]
   rw[e,List.set_getElem_self]
  ·rw[List.set_eq_of_length_le (by simpa using h)]
 ·rfl
theorem zqv:∀ (o:List Int) (s:St) (out:List Ev),(zti o s out).2.map sk=out.map sk
 | [],s,out=>rfl
 | x :: r,s,out=>by simp only[zti];rw[zqv r,ztk]
theorem zkp (l:List Ev):(zm9 l).map sk=l.map sk:=zqv _ _ _
theorem z9d {l l':List Ev}(h:l.map sk=l'.map sk){i:Nat}{e:Ev}(he:l[i]?=some e):∃ e',l'[i]?=some e'∧sk e'=sk e:=by
 have:(l.map sk)[i]?=(l'.map sk)[i]?:=by rw[h]
 rw[qa,qa,he] at this
 cases hh:l'[i]? with
 | none=>rw [hh] at this;cases this
 | some e'=>rw [hh] at this;exact⟨e',rfl,(Option.some.inj this).symm⟩
theorem zvc {e e':Ev}(h:sk e'=sk e):e'.Client=e.Client∧e'.op=e.op∧e'.Begin=e.Begin∧e'.Stamp=e.Stamp∧e'.End=e.End:=by
 have h1:=congrArg Ev.Client h;have h2:=congrArg Ev.op h;have h3:=congrArg Ev.Begin h;have h4:=congrArg Ev.Stamp h;have h5:=congrArg Ev.End h
 exact⟨h1,h2,h3,h4,h5⟩
theorem Tm.sk {l l':List Ev}{now:Int}(h:Tm l now)(e:l'.map sk=l.map sk):Tm l' now:=by
 refine⟨fun i x hx=>?_,fun i x hx=>?_,fun i x hx=>?_,fun i x hx=>?_,fun i j x y hx hy hij=>?_,fun i j x y hx hy hij hcl=>?_⟩
 ·obtain⟨x',hx',s⟩:=z9d e hx
  obtain⟨f1,f2,f3,f4,f5⟩:=zvc s
  have:=h.c i x' hx';omega
 ·obtain⟨x',hx',s⟩:=z9d e hx
  obtain⟨f1,f2,f3,f4,f5⟩:=zvc s
  have:=h.b i x' hx';omega
 ·obtain⟨x',hx',s⟩:=z9d e hx
  obtain⟨f1,f2,f3,f4,f5⟩:=zvc s
  have:=h.s i x' hx';omega
 ·obtain⟨x',hx',s⟩:=z9d e hx
  obtain⟨f1,f2,f3,f4,f5⟩:=zvc s
  have:=h.e i x' hx';omega
 ·obtain⟨x',hx',s⟩:=z9d e hx
  obtain⟨f1,f2,f3,f4,f5⟩:=zvc s
  obtain⟨y',hy',t⟩:=z9d e hy
  obtain⟨g1,g2,g3,g4,g5⟩:=zvc t
  have:=h.inc i j x' y' hx' hy' hij;omega
 ·obtain⟨x',hx',s⟩:=z9d e hx
  obtain⟨f1,f2,f3,f4,f5⟩:=zvc s
  obtain⟨y',hy',t⟩:=z9d e hy
  obtain⟨g1,g2,g3,g4,g5⟩:=zvc t
  have:=h.al i j x' y' hx' hy' hij (by omega);omega
theorem zqw (l:List Ev):(zm9 l).length=l.length:=by simpa using congrArg List.length (zkp l)
@[simp] theorem yvv (l:List Ev):List.take (l.length * 14) (l.flatMap (z02 false false))=l.flatMap (z02 false false):=pp (by rw[z27];exact pr _)
theorem zep (l:List Cl)(wt:List Int):∀ i:Nat,MkK (z43 l wt i) i (10 * (i:Int))
 | 0=>zh2 l wt
 | i+1=>zd9 (zep l wt i) (z2j l i) (wt.getD i 0) (c:=(z2j l i).Client.toNat) (by have:=zen l i;omega) rfl (z91 l i)
def z92 (l:List Cl)(wt:List Int):List Ev:=zm9 (z43 l wt l.length).out
theorem zkq (l:List Cl)(wt:List Int):(z92 l wt).length=l.length:=by
 unfold z92;rw[zqw,(zep l wt l.length).n]
theorem y25 {l:List Cl}(wt:List Int):∀ e ∈ (z43 l wt l.length).out,e.op.Data.length≤1000:=fun e he=>by
 have:=(zep l wt l.length).d e he;omega
theorem y26 (l:List Cl)(hl:l.length≤50)(hD:∀ x ∈ l,x.op.Data.length≤1000)(wt:List Int):FnC Try.prog 41 [] [sCl l,sI false wt] [] (hEv (z92 l wt)):=by
 have hm:=y20 l hl hD wt
 have hr:=zma (z43 l wt l.length).out (by rw[(zep l wt l.length).n];omega) (y25 wt)
 have eg:z92 l wt=zm9 (z43 l wt l.length).out:=rfl
 rw[← eg] at hr
 refine wc yy3 rfl ?_
 refine WL.sreg (by simp;rfl) (by simp;rfl) ?_
 refine w7 (RL.o (by simp;rfl) (RL.call0 false hm (by simp) (by simp) (RL.freeze 700 ?_)))
 refine RL.call0 false hr (by simp) (by simp) (RL.o (by simp;rfl) (RL.nil ⟨_,by simp;rfl,WL.ret ⟨.inr rfl,?_⟩⟩))
 simp[yws]
theorem zqx (p:Nat)(hp:p < 48)(b:List UInt8)(hb:b.length=16):z3x p (za6 p b)=(b,0):=by
 have h1:isP (p:Int)=true:=by simp[isP];omega
 have hl:=zee (p:Int) b
 have hd:(za6 (p:Int) b).drop 8=b:=by
  have e:za6 (p:Int) b=(z9o (ofF (z42 p b)) 4 ++ (z9o ((p:Int)+1) 2 ++ [90,165])) ++ b:=by simp[za6,z42]
  rw[e]
  exact List.drop_left' (by simp[z20])
 have hne:za6 (p:Int) b ≠ z24:=fun e=>by
  have e6:(za6 (p:Int) b)[6]?=some 90:=by
   have e:za6 (p:Int) b=(z9o (ofF (z42 p b)) 4 ++ z9o ((p:Int)+1) 2) ++ (90 :: 165 :: b):=by simp[za6,z42]
   rw[e,qf (by simp[z20])]
   simp[z20]
  rw[e] at e6
  revert e6;decide
 unfold z3x
 rw[if_pos ⟨h1,by rw[hl,hb]⟩,if_neg hne,hd,if_pos rfl]
theorem zmb (p:Nat)(hp:p < 48):z3x p z24=([],11):=by
 have h1:isP (p:Int)=true:=by simp[isP];omega
 unfold z3x
 rw[if_pos ⟨h1,rfl⟩,if_pos rfl]
theorem ziz {l:List Ev}{p c:Int}(h0:za8 l p c=0)(im:List (List UInt8))(hl:(im.length:Int)=p):z22 l p c im=0 ↔ ∀ j,j < im.length→okP l p c j (im.getD j [])=true:=by
 have e:z22 l p c im=match z64 l p c im with | some q=>(q:Int)+1 | none=>0:=by
  unfold z22;rw[if_neg (by simp[h0,hl])]<;>cases z64 l p c im<;>rfl
 rw[e]
 cases hf:z64 l p c im with
 | none =>
  refine⟨fun _ j hj=>?_,fun _=>rfl⟩
  unfold z64 at hf
  rw[List.find?_eq_none] at hf
  simpa using hf j (ql.2 hj)
 | some q =>
  unfold z64 at hf
  rw[List.find?_range_eq_some] at hf
  refine⟨fun h=>by simp only at h;omega,fun h=>?_⟩
  have:=h q (ql.1 hf.2.1)
  rw[this] at hf
  simp at hf
theorem zqy (l:List Ev)(p c:Int)(q:Nat)(hq:q < 48):okP l p c q z24=decide (z2k l p c q=0):=by
 unfold okP
 rw[zmb q hq]
 simp
def z3j {σ:Type}(a:List Cl)(see:σ→Int→St→σ)(x:σ):Nat→σ
 | 0=>x
 | i+1=>see (z3j a see x i) (i:Int) (z2g a (i+1))
theorem zkr {σ:Type}(a:List Cl)(n:Nat)(see:σ→Int→St→σ)(x:σ):∀ k j:Nat,j+k=n→goW (z4j a n) see (z2g a j) (z3j a see x j) (((List.range n).map fun i=>(Int.ofNat i)).drop j)=(0,z2g a n,z3j a see x n)
 | 0,j,h=>by
  obtain rfl:j=n:=by omega
  rw[rx (by simp)]
  rfl
 | k+1,j,h=>by
  have hj:j < ((List.range n).map fun i=>(Int.ofNat i)).length:=by simp;omega
  rw[s6 hj]
  have e1:((List.range n).map fun i=>(Int.ofNat i))[j]=(j:Int):=by simp
  have e2:atE (z4j a n) (j:Int)=z4q a j:=by
   rw[z59 (by rw[z1k];omega),z52 a n (by omega)]
  simp only[e1,goW,e2,zh0,if_true]
  exact zkr a n see x k (j+1) (by omega)
theorem zda {σ:Type}(a:List Cl)(n:Nat)(see:σ→Int→St→σ)(x:σ):z18 see x (z4j a n) 5 3=(0,z2g a n,z3j a see x n):=by
 have hb:z0v 5 3=false:=by kernel_rfl
 unfold z18
 rw[hb,z34 (fun j hj=>zd7 a n j (by rw[z1k] at hj;exact hj)),zkm]
 simp only[pu,if_false]
 have:=zkr a n see x n 0 (by omega)
 rw[List.drop_zero] at this
 exact this
theorem zeq (a:List Cl)(n:Nat){i:Nat}(h:i < n):atE (z4j a n) (i:Int)=z4q a i:=by
 rw[z59 (by rw[z1k];exact h),z52 a n h]
theorem ykv (a:List Cl)(n:Nat)(q:Int):z2k (z4j a n) 5 3 q=z3j a (zm4 (z4j a n) q) 0 n:=by
 unfold z2k
 rw[if_neg (by rw[zkn];simp),zda]
theorem zdb (a:List Cl)(n:Nat)(q:Int):∀ i,i≤n→(∀ j,j < i→flQ (z4q a j) q=true→thQ (z2g a (j+1)) q=false)→z3j a (zm4 (z4j a n) q) 0 i=0
 | 0,_,_=>rfl
 | i+1,hi,h=>by
  rw[z3j,zdb a n q i (by omega) (fun j hj=>h j (by omega)),zm4,zeq a n (by omega)]
  cases hf:flQ (z4q a i) q with
  | false=>simp
  | true=>rw [h i (by omega) hf];simp
theorem zks (a:List Cl)(n m:Nat)(q:Int):∀ i,i≤n→(∀ j,m < j→j < i→flQ (z4q a j) q=false)→z3j a (zm4 (z4j a n) q) 0 i≤3 * (m:Int)+2
 | 0,_,_=>by simp only[z3j];omega
 | i+1,hi,h=>by
  have ih:=zks a n m q i (by omega) (fun j h1 h2=>h j h1 (by omega))
  rw[z3j,zm4,zeq a n (by omega)]
  have hs:(z4q a i).Stamp=3 * (i:Int)+2:=rfl
  split
  ·rename_i hc
   by_cases hm:m < i
   ·rw[h i hm (by omega)] at hc;simp at hc
   ·rw[hs];omega
  ·exact ih
theorem zkt (a:List Cl)(n:Nat)(fl:Int)(q:Nat):∀ i,i≤n→∀ j,j < i→fl≤3 * (j:Int)+2→z1f (z2g a (j+1)) q=true→(z2g a (j+1)).Body.getD q [] ∈ (z3j a (zaa (z4j a n) fl q) ([],false,false) i).1
 | 0,_,j,hj,_,_=>absurd hj (ra _)
 | i+1,hi,j,hj,hf,ht=>by
  rw[z3j,zaa,zte,zeq a n (by omega)]
  have hs:(z4q a i).Stamp=3 * (i:Int)+2:=rfl
  by_cases e:j=i
  ·subst e
   rw[hs,if_pos (by simp only[pm,decide_eq_true_eq];exact⟨hf,ht⟩)]
   simp
  ·have ih:=zkt a n fl q i (by omega) j (by omega) hf ht
   split
   ·exact List.mem_append_left _ ih
   ·exact ih
theorem zqz {s:St}{cl:Int}{o:Op}(h:o.Kind ≠ 8)(q:Nat)(ht:z1f s q=true):z1f (DoB s cl o).2.1 q=true:=by
 unfold DoB
 split
 ·exact ht
 ·split
  ·simp only[z4m]
   split
   ·simp only[z1f] at ht ⊢
    rw[ph] at ht ⊢
    rw[t8]
    split
    ·split
     ·rfl
     ·rename_i h1 h2
      subst h1
      rw[qi (by omega)] at ht
      cases ht
    ·exact ht
   ·repeat' split
    all_goals first | exact ht | (rename_i h8;exact absurd h8 h)
  ·exact ht
theorem z93 (a:List Cl)(q:Nat)(h8:∀ i,(z2j a i).op.Kind ≠ 8)(i:Nat):∀ k,i≤k→z1f (z2g a i) q=true→z1f (z2g a k) q=true:=by
 intro k
 induction k with
 | zero=>intro h ht;obtain rfl:i=0:=(by omega);exact ht
 | succ k ih =>
  intro h ht
  by_cases e:i=k+1
  ·subst e;exact ht
  ·exact zqz (h8 k) q (ih (by omega) ht)
theorem yvw (t:St)(q:Nat):thQ t (q:Int)=z1f t q:=by simp[thQ,z1f]
theorem zku (a:List Cl)(n:Nat)(q:Nat)(hq:q < 5)(m:Nat)(hm:m < n)(hl:∀ j,m < j→flQ (z4q a j) q=false)(j:Nat)(h1:m≤j)(h2:j < n)(ht:z1f (z2g a (j+1)) q=true) :
  okP (z4j a n) 5 3 q (za6 q ((z2g a (j+1)).Body.getD q []))=true:=by
 have hok:=z5m a (j+1)
 have hqt:q < (z2g a (j+1)).There.length:=by
  unfold z1f at ht
  rcases tv q (z2g a (j+1)).There.length with h | h
  ·exact h
  ·rw[ph,qi h] at ht;cases ht
 have hqb:q < (z2g a (j+1)).Body.length:=by rw[hok.bn];exact hqt
 have h16:((z2g a (j+1)).Body.getD q []).length=16:=by
  rw[ph,pi hqb]
  exact hok.b16 _ (qb hqb)
 have hfl:z2k (z4j a n) 5 3 q≤3 * (m:Int)+2:=by rw[ykv];exact zks a n m q n (pr _) fun j h1 _=>hl j h1
 unfold okP
 rw[zqx q (by omega) _ h16]
 have hps:(z89 (z4j a n) 5 3 (z2k (z4j a n) 5 3 q) q).1=(z3j a (zaa (z4j a n) (z2k (z4j a n) 5 3 q) q) ([],false,false) n).1:=by unfold z89;rw[zda]
 have hmem:=zkt a n (z2k (z4j a n) 5 3 q) q n (pr _) j h2 (by omega) ht
 have:zqg (z89 (z4j a n) 5 3 (z2k (z4j a n) 5 3 q) q).1 ((z2g a (j+1)).Body.getD q [])=true:=by
  rw[hps]
  unfold zqg
  rw[List.any_eq_true.2 ⟨_,hmem,by simp⟩]
  rfl
 rw[this]
 simp
def ztl (s:St)(q:Nat):List UInt8:=if z1f s q=true then za6 q (s.Body.getD q []) else z24
def zh3 (s:St)(i:Nat):List (List UInt8):=(List.range i).map (ztl s)
def zh4 (y z:St)(q:Nat):Bool:=!z1f z q || (z1f y q && y.Body.getD q [] == z.Body.getD q [])
def z8c (y z:St):Nat→Bool
 | 0=>true
 | i+1=>z8c y z i && zh4 y z i
theorem zer {y z:St}:∀ {i:Nat},z8c y z i=true→∀ q,q < i→zh4 y z q=true
 | 0,_,q,h=>absurd h (ra _)
 | i+1,h,q,hq=>by
  simp only[z8c,pm] at h
  by_cases e:q=i
  ·subst e;exact h.2
  ·exact zer h.1 q (by omega)
theorem zh5 (a:List Cl)(m:Nat)(hm:m < a.length)(h8:∀ i,(z2j a i).op.Kind ≠ 8)(hl:∀ j,m < j→(z2j a j).op.Kind ≠ 6∧(z2j a j).op.Kind ≠ 7)(k:Nat)(hk:k≤a.length)
  (h:m < k∨z8c (z2g a k) (z2g a (m+1)) 5=true):z22 (z4j a a.length) 5 3 (zh3 (z2g a k) 5)=0:=by
 have hfl:∀ (q:Int) (j:Nat),m < j→flQ (z4q a j) q=false:=fun q j hj=>by
  have:=hl j hj
  unfold flQ
  have e:(z4q a j).op=(z2j a j).op:=rfl
  rw[e];simp[this]
 refine (ziz (zkn a _) _ (by simp[zh3])).2 fun q hq=>?_
 have hq5:q < 5:=by simpa [zh3] using hq
 have eg:(zh3 (z2g a k) 5).getD q []=ztl (z2g a k) q:=by
  rw[zh3,ph,qa,rl hq5];rfl
 rw[eg]
 unfold ztl
 have blank:(∀ j,j < m+1→z1f (z2g a (j+1)) q=false)→okP (z4j a a.length) 5 3 q z24=true:=fun hno=>by
  rw[zqy _ _ _ q (by omega),ykv,zdb a _ q _ (pr _) fun j hj hf=>by
   rw[yvw]
   by_cases hjm:m < j
   ·rw[hfl q j hjm] at hf;cases hf
   ·exact hno j (by omega)]
  rfl
 cases ht:z1f (z2g a k) q with
 | false =>
  rw[if_neg (by simp)]
  refine blank fun j hj=>?_
  cases e:z1f (z2g a (j+1)) q with
  | false=>rfl
  | true =>
   rcases h with h | h
   ·rw[z93 a q h8 (j+1) k (by omega) e] at ht;cases ht
   ·have hz:=z93 a q h8 (j+1) (m+1) (by omega) e
    have:=zer h q hq5
    simp[zh4,hz,ht] at this
 | true =>
  rw[if_pos rfl]
  by_cases hmk:m < k
  ·obtain⟨j,rfl⟩:∃ j,k=j+1:=⟨k - 1,by omega⟩
   exact zku a _ q hq5 m hm (hfl q) j (by omega) (by omega) ht
  ·have h':=h.resolve_left hmk
   have hz:=z93 a q h8 k (m+1) (by omega) ht
   have:=zer h' q hq5
   simp only[zh4,hz,ht,Bool.not_true,b8,Bool.true_and,beq_iff_eq] at this
   rw[this]
   exact zku a _ q hq5 m hm (hfl q) m (pr _) hm hz
theorem zmc (a:List Cl):z22 (z4j a a.length) 5 3 []=-1:=by
 unfold z22
 rw[if_pos (.inr (by simp))]
def co (e:Ev):Int × Op:=(e.Client,e.op)
theorem y27 (s:St)(e:Ev)(now:Int)(en:Bool):co (zc9 s e now en)=co e:=by
 unfold zc9 co;cases en<;>by_cases z:e.Stamp=0<;>simp [z]
theorem ykw {l:List Ev}{k:Nat}{e:Ev}(h:∀ hk:k < l.length,co e=co l[k]):(l.set k e).map co=l.map co:=by
 rw[sq]
 by_cases hk:k < l.length
 ·have e1:co e=(l.map co)[k]'(by simpa using hk):=by simp[h hk]
  rw[e1,List.set_getElem_self]
 ·rw[List.set_eq_of_length_le (by simp;omega)]
theorem zvd (m:Mk)(k:Int)(en:Bool):(mkF m k en).out.map co=m.out.map co :=
 ykw fun hk=>by rw[y27];simp[atE,hk]
theorem ztm (m:Mk)(c:Nat):(z8a m c).out.map co=m.out.map co:=by
 unfold z8a;split
 ·exact zvd _ _ _
 ·rfl
theorem zr0 (m:Mk)(c:Nat)(en:Bool):(z9c m c en).out.map co=m.out.map co:=by
 unfold z9c;split<;>exact zvd _ _ _
theorem zkv (l:List Cl)(wt:List Int):∀ i,(z43 l wt i).out.map co=(List.range i).map fun j=>((z2j l j).Client,(z2j l j).op)
 | 0=>rfl
 | i+1=>by
  have ih:=zkv l wt i
  have hc:=zen l i
  have ha:(z3y (z8a (z43 l wt i) (z2j l i).Client.toNat) (z2j l i).Client.toNat (z2j l i).op).out.map co=(List.range (i+1)).map fun j=>((z2j l j).Client,(z2j l j).op):=by
   rw[List.range_succ,sj,← ih,← ztm (z43 l wt i) (z2j l i).Client.toNat]
   simp only[z3y,sj,List.map_cons,t0,co]
   rw[Int.toNat_of_nonneg hc.1]
  rw[z43,z53]
  split
  ·rw[zr0];exact ha
  ·exact ha
theorem y28 (l:List Cl)(wt:List Int):(z92 l wt).map co=(List.range l.length).map fun j=>((z2j l j).Client,(z2j l j).op):=by
 rw[← zkv l wt l.length]
 have:=zkp (z43 l wt l.length).out
 have h:∀ x:List Ev,x.map co=(x.map sk).map co:=fun x=>by simp only[rr];rfl
 unfold z92
 rw[h,this,← h]
theorem y29 (l:List Cl)(wt:List Int){j:Nat}(hj:j < l.length)(h:j < (z92 l wt).length):(z92 l wt)[j].Client=(z2j l j).Client∧(z92 l wt)[j].op=(z2j l j).op:=by
 have e:=y28 l wt
 have e1:((z92 l wt).map co)[j]?=((List.range l.length).map fun j=>((z2j l j).Client,(z2j l j).op))[j]?:=by rw[e]
 rw[qa,pi h,qa,rl hj] at e1
 have e2:=Option.some.inj e1
 exact⟨congrArg Prod.fst e2,congrArg Prod.snd e2⟩
@[simp] theorem ymw (l:List Cl):z0x (l.flatMap (z0g false))=l.flatMap (z0g false):=by
 induction l with
 | nil=>rfl
 | cons e l ih =>
  rw[qw,z3n,sj,← z3n (l.flatMap _),ih]
  simp
abbrev hCl (l:List Cl):AU:=.sl true () 7 l.length (l.flatMap (z0g false))
theorem zh6 {l:List Cl}{k:Nat}(h:k < l.length):l.flatMap (z0g false)=(l.take k).flatMap (z0g false) ++ (z0g false l[k] ++ (l.drop (k+1)).flatMap (z0g false)):=by
 conv=>lhs;rw[← List.take_append_drop k l,s6 h]
 rw[tq,qw]
theorem z75 {l:List Cl}{k:Nat}(h:k < l.length):((l.take k).flatMap (z0g false)).length=k * 7:=by
 rw[zd5,s7,ti (by omega)]
theorem zes {l:List Cl}{k j:Nat}(h:k < l.length)(hj:j < 7):(l.flatMap (z0g false))[k * 7+j]?=(z0g false l[k])[j]?:=by
 rw[zh6 h,qf (by rw[z75 h];omega),z75 h,show k * 7+j - k * 7=j by omega,qc (by simpa using hj)]
theorem zet {l:List Cl}{k j:Nat}(h:k < l.length)(hj:j < 7){v:AU}(hv:(z0g false l[k])[j]?=some v):∀ hh,(l.flatMap (z0g false))[k * 7+j]'hh=v:=fun hh=>by
 have:=zes h hj
 rw[pi hh,hv] at this
 exact Option.some.inj this
theorem ztn {l:List Cl}{k j:Nat}(h:k < l.length){v:AU}{e':Cl}(he:∀ B:List AU,(z0g false l[k] ++ B).set j v=z0g false e' ++ B):(l.flatMap (z0g false)).set (k * 7+j) v=(l.set k e').flatMap (z0g false):=by
 have e:(l.set k e').flatMap (z0g false)=(l.take k).flatMap (z0g false) ++ (z0g false e' ++ (l.drop (k+1)).flatMap (z0g false)):=by
  rw[List.set_eq_take_append_cons_drop,if_pos h,tq,qw]
 rw[e,zh6 h,zbt _ _ _ _ _ (z75 h),he]
def zmk (c:Cl):Cl:={ c with op:={ c.op with Kind:=2 } }
theorem zkw {l:List Cl}{k:Nat}(h:k < l.length):(l.flatMap (z0g false)).set (k * 7+1) (i64 2)=(l.set k (zmk l[k])).flatMap (z0g false):=ztn h fun B=>rfl
theorem zr1 (l:List Cl):(l.flatMap (z0g false)).all z1b=true:=by
 rw[qe]
 intro c hc
 obtain⟨e,he,hc⟩:=List.mem_flatMap.1 hc
 have h:(z0g false e).all z1b=true:=rfl
 exact qe.1 h c hc
def okK (m j:Nat)(c:Cl):Prop:=um c.op.Kind 8 ≠ 7∧(m < j→um c.op.Kind 8 ≠ 5∧um c.op.Kind 8 ≠ 6)∧c.op.Data.length≤40
theorem zr2 {l:List Cl}{j:Nat}(h:j < l.length):z2j l j=z7x l[j] 5 3:=by simp[z2j,h]
theorem y2a {all:List Cl}{m:Nat}(h:∀ j,(hj:j < all.length)→okK m j all[j]):(∀ i,(z2j all i).op.Kind ≠ 8)∧∀ j,m < j→(z2j all j).op.Kind ≠ 6∧(z2j all j).op.Kind ≠ 7:=by
 refine⟨fun i=>?_,fun j hj=>?_⟩
 ·by_cases hi:i < all.length
  ·have:=(h i hi).1
   rw[zr2 hi]
   simp only[z7x];omega
  ·have:um 0 8=0:=by kernel_rfl
   simp[z2j,hi,z7x,this]
 ·by_cases hi:j < all.length
  ·have:=(h j hi).2.1 hj
   rw[zr2 hi]
   simp only[z7x];omega
  ·have:um 0 8=0:=by kernel_rfl
   simp[z2j,hi,z7x,this]
abbrev wsQ:Ex→SL→Prop:=fun e L=>e=Ex.ret∧RetOk z51.rs [] (bl true) L
abbrev wdT (l:List Cl)(h:List Ev)(k:Nat)(y:St)(b:List (List UInt8))(z:St)(sm:Bool)(p:Nat)(r:SL):SL :=
 [(0,0,sCl l),(1000,0,sEv h),(1200,0,i64 k)] ++ (rcO 14 y ++ ([(1600,0,sUU true b)] ++ (rcO 17 z ++ ([(1900,0,bl sm),(2000,0,i64 p)] ++ r))))
theorem ykx (l:List Cl)(h:List Ev)(hE:EvOk h)(k:Nat)(y z:St)(b:List (List UInt8))(hb:b.length≤100∧∀ x ∈ b,x.length≤100)(sm:Bool)(h1:(l.length < k∨sm=true)→z22 h 5 3 b=0)(h2:z22 h 5 3 []=-1)(p:Nat)(r:SL)(hr:r=[(19900,0,bl false)]) :
  WL Try.prog z51.nt zk8 (wdT l h k y b z sm p r) wsQ:=by
 subst hr
 have c1:=z35 h hE 5 3 b (by omega) (fun x hx=>by have:=hb.2 x hx;omega)
 have c2:=z35 h hE 5 3 [] (by simp) (by simp)
 rw[h2] at c2
 have yes:(l.length < k∨sm=true)→WL Try.prog z51.nt zpv [(1000,0,sEv h),(1600,0,sUU true b),(25900,0,bl true)] (wg (fun L'=>WL Try.prog z51.nt zpw L' wsQ) wsQ):=fun hc=>by
  rw[h1 hc] at c1
  refine WL.cond (t:=true) (by simp) (fun _=>?_) (by simp)
  refine WL.freeze 1600 ?_
  refine w7 (RL.call0 false z4x (by simp) (by simp) (RL.o (by simp;rfl) (RL.g (by simp;rfl) ?_)))
  refine RL.callY0 false (by simp) c1 (by simp) (by simp) (RL.g (by simp;rfl) (RL.o (by simp;rfl) (RL.nil ⟨_,by simp;rfl,WL.ret ⟨rfl,?_⟩⟩)))
  simp[z51]
 have no:WL Try.prog z51.nt zpv [(1000,0,sEv h),(1600,0,sUU true b),(25900,0,bl false)] (wg (fun L'=>WL Try.prog z51.nt zpw L' wsQ) wsQ):=by
  refine WL.cond (t:=false) (by simp) (by simp) fun _=>WL.skip ?_
  refine w7 (RL.call0 false z4x (by simp) (by simp) (RL.o (by simp;rfl) (RL.g (by simp;rfl) ?_)))
  refine RL.callY0 false (by simp) c2 (by simp) (by simp) (RL.g (by simp;rfl) (RL.o (by simp;rfl) (RL.nil ⟨_,by simp;rfl,WL.ret ⟨rfl,?_⟩⟩)))
  simp[z51]
 by_cases hk:l.length < k
 ·have hk':(l.length:Int) < k:=by omega
  refine WL.seq (WL.sreg (by simp[hk,hk'];rfl) (by simp;rfl) ?_)
  exact WL.eqL (by simp) (yes (.inl hk))
 ·have hk':¬ (l.length:Int) < k:=by omega
  refine WL.seq (WL.sreg (by simp[hk,hk'];rfl) (by simp;rfl) ?_)
  cases sm with
  | true=>exact WL.eqL (by simp[hk,hk']) (yes (.inr rfl))
  | false=>exact WL.eqL (by simp[hk,hk']) no
abbrev wdN (l:List Cl)(h:List Ev)(k:Nat)(y z:St)(p:Nat):SL→Prop:=fun L'=>p < 5∧L'=wdT l h k y (zh3 y (p+1)) z (z8c y z (p+1)) (p+1) []∧True
abbrev wdE (l:List Cl)(h:List Ev)(k:Nat)(y z:St)(p:Nat):Ex→SL→Prop:=wg (wdN l h k y z p) (wj 8 (wg (fun L'=>WL Try.prog z51.nt zk8 L' wsQ) wsQ))
abbrev wdP (l:List Cl)(h:List Ev)(k:Nat)(y z:St)(p:Nat):Ex→SL→Prop:=wj 9 (wg (fun L'=>WL Try.prog z51.nt zuz L' (wdE l h k y z p)) (wdE l h k y z p))
theorem y2b (l:List Cl)(h:List Ev)(k:Nat)(y z:St)(hy:y.There.length=5)(hz:z.There.length=5)(by5:y.Body.length=5)(bz5:z.Body.length=5)(p:Nat)(hp:p < 5)(b:List (List UInt8))(hb:b.length=p)(im:List UInt8)(him:im.length=24)(sm:Bool)(e1:zh3 y (p+1)=b ++ [im])(e2:z8c y z (p+1)=(sm && zh4 y z p))(r:SL)(hr:r=[]∨r=[(21700,0,bl false)]) :
  WL Try.prog z51.nt zuy (wdT l h k y b z sm p ([(2100,0,str im)] ++ r)) (wdP l h k y z p):=by
 have w:IntKind.wrap .i64 ((p:Int)+1)=((p+1:Nat):Int):=by rw[z01 (by omega) (by omega)];omega
 have m1:(p+1) * 24≤140737488355328:=by omega
 have m2:p+1≤maxLen:=by unfold maxLen;omega
 have t1:∀ x:AU,List.take (p+1) (List.take p (List.map (sU true) b) ++ [x])=List.map (sU true) b ++ [x]:=fun x=>by
  rw[pp (l:=List.map _ b) (by simp[hb]),pp (by simp[hb])]
 have tb:List.take 24 (List.map (fun b=>u8 (b.toNat:Int)) im)=List.map (fun b=>u8 (b.toNat:Int)) im:=pp (by simp[him])
 have py:p < y.There.length:=by omega
 have py':p+1≤y.There.length:=by omega
 have pz:p < z.There.length:=by omega
 have pz':p+1≤z.There.length:=by omega
 have qy:p < y.Body.length:=by omega
 have qy':p+1≤y.Body.length:=by omega
 have qz:p < z.Body.length:=by omega
 have qz':p+1≤z.Body.length:=by omega
 have last:∀ v,v=z8c y z (p+1)→WL Try.prog z51.nt zpu (wdT l h k y b z v p [(2100,0,str im)]) (wdP l h k y z p):=fun v hv=>by
  subst hv
  refine WL.reg (RL.run (by simp[zii,z2i,hb,him,m1,m2,tb];rfl) ⟨_,by simp;rfl,?_⟩)
  refine WL.reg (RL.run (by simp[w];rfl) ⟨_,by simp;rfl,?_⟩)
  refine⟨hp,?_,trivial⟩
  rw[t1,e1]
  simp[hb,him]
 obtain⟨ty,hty⟩:∃ x,y.There[p]=x:=⟨_,rfl⟩
 obtain⟨tz,htz⟩:∃ x,z.There[p]=x:=⟨_,rfl⟩
 have es:zh4 y z p=(!tz || (ty && y.Body[p] == z.Body[p])):=by simp[zh4,z1f,py,pz,qy,qz,hty,htz]
 rw[es] at e2
 have go:∀ v,v=(sm && (!tz || (ty && y.Body[p] == z.Body[p])))→WL Try.prog z51.nt zpu (wdT l h k y b z v p [(2100,0,str im)]) (wdP l h k y z p):=fun v hv=>last v (hv.trans e2.symm)
 rcases hr with rfl | rfl
 all_goals
  cases sm with
  | false =>
   refine wr z0t (by simp[z0b,noH]) (DL.run (by simp;exact⟨rfl,rfl⟩) ⟨by kernel_rfl,_,by simp;rfl,?_⟩)
   exact WL.eqL (by simp) (go false (by simp))
  | true =>
   cases tz with
   | false =>
    refine wr z0t (by simp[z0b,noH]) (DL.run (by simp[pz,pz',htz];exact⟨rfl,rfl⟩) ⟨by kernel_rfl,_,by simp;rfl,?_⟩)
    exact WL.eqL (by simp) (go true (by simp))
   | true =>
    cases ty with
    | false =>
     refine wr z0t (by simp[z0b,noH]) (DL.run (by simp[pz,pz',htz,py,py',hty];exact⟨rfl,rfl⟩) ⟨by kernel_rfl,_,by simp;rfl,?_⟩)
     exact WL.eqL (by simp) (go false (by simp))
    | true =>
     refine wr z0t (by simp[z0b,noH]) (DL.run (by simp[pz,pz',htz,py,py',hty,qy,qy',qz,qz',zoz];exact⟨rfl,rfl⟩) ⟨by kernel_rfl,_,by simp;rfl,?_⟩)
     exact WL.eqL (by simp) (go (y.Body[p] == z.Body[p]) (by simp))
theorem zto (l:List Cl)(h:List Ev)(hE:EvOk h)(k:Nat)(y z:St)(oy:OkSt y)(hy:y.There.length=5)(oz:OkSt z)(hz:z.There.length=5)(h1:(l.length < k∨z8c y z 5=true)→z22 h 5 3 (zh3 y 5)=0)(h2:z22 h 5 3 []=-1) :
  WL Try.prog z51.nt zv0 (wdT l h k y [] z true 0 []) (wg (fun L'=>WL Try.prog z51.nt zk8 L' wsQ) wsQ):=by
 have by5:y.Body.length=5:=by rw[oy.bn];exact hy
 have bz5:z.Body.length=5:=by rw[oz.bn];exact hz
 have hlen:∀ p,(zh3 y p).length=p:=fun p=>by simp[zh3]
 have hin:∀ p,p < 5→(ztl y p).length=24:=fun p hp=>by
  have hpb:p < y.Body.length:=by omega
  have h16:(y.Body.getD p []).length=16:=by
   rw[ph,pi hpb]
   exact oy.b16 _ (qb hpb)
  unfold ztl;split
  ·rw[zee,h16]
  ·rfl
 refine WL.block (we 5 (fun p=>wdT l h k y (zh3 y p) z (z8c y z p) p []) (fun p=>True) (by simp[zh3,z8c]) trivial fun p hp _=>?_)
 by_cases hlt:p < 5
 ·have h':(p:Int) < 5:=by omega
  have hbl:p < y.Body.length:=by omega
  have hbl':p+1≤y.Body.length:=hbl
  have htl:p < y.There.length:=by omega
  have htl':p+1≤y.There.length:=htl
  have h16:y.Body[p].length=16:=oy.b16 _ (qb hbl)
  have hsl:=zlz p y.Body[p] (by omega)
  have eS2:z4i p y.Body[p]=(za6 p y.Body[p],0):=by
   have:isP (p:Int)=true:=by simp[isP];omega
   simp[z4i,this,h16]
  rw[eS2] at hsl
  have e1:zh3 y (p+1)=zh3 y p ++ [ztl y p]:=by simp[zh3,List.range_succ]
  have e2:z8c y z (p+1)=(z8c y z p && zh4 y z p):=rfl
  have hsame:=fun r hr=>y2b l h k y z hy hz by5 bz5 p hlt (zh3 y p) (hlen p) (ztl y p) (hin p hlt) (z8c y z p) e1 e2 r hr
  obtain⟨th,hth⟩:∃ x,y.There[p]=x:=⟨_,rfl⟩
  have ei:ztl y p=if th=true then za6 p y.Body[p] else z24:=by simp[ztl,z1f,htl,hth,hbl]
  refine WL.seq (WL.sreg (by simp[h'];rfl) (by simp;rfl) ?_)
  refine WL.cond (t:=true) (by simp[h']) (fun _=>WL.skip ?_) (by simp)
  refine WL.seq (WL.block (w7 (RL.o (by simp[hbl,hbl'];rfl) (RL.call0 false hsl (by simp) (by simp) (RL.o (by simp;rfl) (RL.nil ⟨_,by simp;rfl,?_⟩))))))
  cases th with
  | true =>
   rw[if_pos rfl] at ei
   refine WL.seq (WL.sreg (by simp[htl,htl',hth];rfl) (by simp;rfl) ?_)
   refine WL.cond (t:=false) (by simp) (by simp) fun _=>WL.skip ?_
   have:=hsame [(21700,0,bl false)] (.inr rfl)
   rw[ei] at this
   exact WL.eqL (by simp) this
  | false =>
   rw[if_neg (by simp)] at ei
   refine WL.seq (WL.sreg (by simp[htl,htl',hth];rfl) (by simp;rfl) ?_)
   refine WL.cond (t:=true) (by simp) (fun _=>?_) (by simp)
   refine WL.reg (RL.call0 false zil (by simp) (by simp) (RL.o (by simp;rfl) (RL.nil ⟨_,by simp;rfl,?_⟩)))
   have:=hsame [] (.inl rfl)
   rw[ei] at this
   exact WL.eqL (by simp) this
 ·obtain rfl:p=5:=by omega
  refine WL.seq (WL.sreg (by simp;rfl) (by simp;rfl) ?_)
  refine WL.cond (t:=false) (by simp) (by simp) fun _=>WL.exit ?_
  refine WL.eqL (by simp) (ykx l h hE k y z (zh3 y 5) ⟨by rw[hlen];decide,fun b hb=>?_⟩ (z8c y z 5) h1 h2 5 _ rfl)
  obtain⟨q,hq,rfl⟩:=sg.1 hb
  rw[hin q (ql.1 hq)];decide
def ztp (e:Ev):Ev:={ e with res:=⟨0,0,0,[]⟩ }
structure Semi (a:List Cl) (i:Nat) (out:List Ev):Prop where
 n:out.length=a.length
 lo:∀ j,j < i→j < a.length→out[j]?=some (z4q a j)
 hi:∀ j,(hj:j < out.length)→ztp out[j]=ztp (z4q a j)
theorem Semi.end_ {a:List Cl}{out:List Ev}(h:Semi a a.length out):out=z4j a a.length:=by
 apply rf
 intro j
 by_cases hj:j < a.length
 ·rw[h.lo j hj hj,pi (by rw[z1k];exact hj),z52 a _ hj]
 ·rw[qi (by rw[h.n];omega),qi (by rw[z1k];omega)]
theorem Semi.step {a:List Cl}{i:Nat}{out:List Ev}(h:Semi a i out)(hi:i < a.length)(ho:i < out.length){r:Rs}(hr:r=(DoB (z2g a i) (z2j a i).Client (z2j a i).op).2.2):Semi a (i+1) (out.set i { out[i] with res:=r }):=by
 have he:({ out[i] with res:=r }:Ev)=z4q a i:=by
  have:=h.hi i ho
  unfold ztp at this
  have f1:=congrArg Ev.Client this;have f2:=congrArg Ev.op this;have f3:=congrArg Ev.Begin this;have f4:=congrArg Ev.Stamp this;have f5:=congrArg Ev.End this
  simp only at f1 f2 f3 f4 f5
  show (⟨out[i].Client,out[i].op,r,out[i].Begin,out[i].Stamp,out[i].End⟩:Ev)=z4q a i
  rw[f1,f2,f3,f4,f5,hr];rfl
 rw[he]
 refine⟨by simp[h.n],fun j hj hja=>?_,fun j hj=>?_⟩
 ·by_cases e:j=i
  ·subst e;rw[su ho]
  ·rw[sf (Ne.symm e)];exact h.lo j (by omega) hja
 ·by_cases e:j=i
  ·subst e;simp
  ·rw[List.getElem_set_ne (Ne.symm e)];exact h.hi j (by simpa using hj)
theorem Semi.at_ {a:List Cl}{i:Nat}{out:List Ev}(h:Semi a i out){j:Nat}(hj:j < out.length):out[j].Client=(z2j a j).Client∧out[j].op=(z2j a j).op :=
 ⟨congrArg Ev.Client (h.hi j hj),congrArg Ev.op (h.hi j hj)⟩
abbrev weT (l:List Cl)(out:List Ev)(k:Nat)(x y:St)(i:Nat)(r:SL):SL :=
 [(0,0,sCl l),(1000,0,hEv out),(1200,0,i64 k)] ++ (rcO 13 x ++ (rcO 14 y ++ ([(1500,0,i64 i)] ++ r)))
abbrev weI (a:List Cl):Type:={x:Nat × List Ev // x.1≤a.length∧Semi a x.1 x.2}
abbrev weE (l a:List Cl)(k i:Nat):Ex→SL→Prop:=wg (fun L'=>∃ j:weI a,L'=weT l j.1.2 k (z2g a j.1.1) (z2g a (min j.1.1 k)) j.1.1 []∧a.length - j.1.1 < a.length - i) (wj 4 (wg (fun L'=>WL Try.prog z51.nt zgr L' wsQ) wsQ))
abbrev weB (l a:List Cl)(k i:Nat):Ex→SL→Prop:=wj 5 (wg (fun L'=>WL Try.prog z51.nt zpt L' (weE l a k i)) (weE l a k i))
theorem yyk (l a:List Cl)(hn:a.length≤41)(k i:Nat)(hi:i < a.length)(out:List Ev)(hS:Semi a (i+1) out):WL Try.prog z51.nt zuw (weT l out k (z2g a (i+1)) (z2g a (min i k)) i []) (weB l a k i):=by
 have w:IntKind.wrap .i64 ((i:Int)+1)=((i+1:Nat):Int):=by rw[z01 (by omega) (by omega)];omega
 have ho:i < out.length:=by rw[hS.n];exact hi
 have done:∀ y r,y=z2g a (min (i+1) k)→(r=[]∨r=[(16000,0,bl false)])→WL Try.prog z51.nt zpt (weT l out k (z2g a (i+1)) y i r) (weE l a k i):=fun y r hy hr=>by
  subst hy
  rcases hr with rfl | rfl
  ·exact WL.reg (RL.run (by simp[w];rfl) ⟨_,by simp;rfl,⟨⟨(i+1,out),hi,hS⟩,by simp,by simp only;omega⟩⟩)
  ·exact WL.reg (RL.run (by simp[w];rfl) ⟨_,by simp;rfl,⟨⟨(i+1,out),hi,hS⟩,by simp,by simp only;omega⟩⟩)
 by_cases hk:i < k
 ·obtain⟨e1,e2⟩:=hS.at_ ho
  rw[show min i k=i by omega]
  rw[show min (i+1) k=i+1 by omega] at done
  have hdo:=z83 (z2g a i) (z5m a i) out[i].Client out[i].op (by have:=z91 a i;rw[e2];unfold z0c;omega)
  have ey:(DoB (z2g a i) out[i].Client out[i].op).2.1=z2g a (i+1):=by rw[e1,e2];rfl
  rw[← ey] at done ⊢
  have hL:=z27 false false out
  have q0:∀ (hh:i * 14 < (out.flatMap (z02 false false)).length),(out.flatMap (z02 false false))[i * 14]'hh=i64 out[i].Client:=z0i (j:=0) (v:=i64 out[i].Client) ho (by decide) rfl
  have q1:∀ (hh:i * 14+1 < (out.flatMap (z02 false false)).length),(out.flatMap (z02 false false))[i * 14+1]'hh=i64 out[i].op.Kind:=z0i (j:=1) (v:=i64 out[i].op.Kind) ho (by decide) rfl
  have p1:(out.flatMap (z02 false false))[i * 14+1]?=some (i64 out[i].op.Kind):=z1s (j:=1) ho (by decide)
  have p2:(out.flatMap (z02 false false))[i * 14+1+1]?=some (i64 out[i].op.Page):=z1s (j:=2) ho (by decide)
  have p3:(out.flatMap (z02 false false))[i * 14+1+2]?=some (i64 out[i].op.Handle):=z1s (j:=3) ho (by decide)
  have p4:(out.flatMap (z02 false false))[i * 14+1+3]?=some (i64 out[i].op.Off):=z1s (j:=4) ho (by decide)
  have p5:(out.flatMap (z02 false false))[i * 14+1+4]?=some (i64 out[i].op.N):=z1s (j:=5) ho (by decide)
  have p6:(out.flatMap (z02 false false))[i * 14+1+5]?=some (sU false out[i].op.Data):=z1s (j:=6) ho (by decide)
  have b1:i * 14+1≤out.length * 14:=by omega
  have b2:i * 14+1+6≤out.length * 14:=by omega
  refine WL.sreg (by simp[hk];rfl) (by simp;rfl) ?_
  refine WL.cond (t:=true) (by simp) (fun _=>?_) (by simp)
  refine WL.draw z0t (by simp[z0b,noH]) (DL.o (by simp[ho,q0,q1,p1,p2,p3,p4,p5,p6,hL,b1,b2];exact⟨rfl,rfl⟩) ?_)
  generalize DoB (z2g a i) out[i].Client out[i].op=dd at hdo done ⊢
  obtain⟨o',t,r⟩:=dd
  simp only at hdo done ⊢
  refine n3 true [(1401,[]),(1402,[]),(1403,[])] hdo (by simp) (by simp) (by simp[z36]) (zbp _ t r) (by simp[z0b,noH]) ?_
  refine DL.nil ⟨by kernel_rfl,_,by simp;rfl,?_⟩
  exact WL.eqL (by simp) (done t [] rfl (.inl rfl))
 ·rw[show min i k=min (i+1) k by omega]
  refine WL.sreg (by simp[hk];rfl) (by simp;rfl) ?_
  refine WL.cond (t:=false) (by simp) (by simp) fun _=>WL.skip ?_
  exact WL.eqL (by simp) (done _ [(16000,0,bl false)] rfl (.inr rfl))
theorem y2c (l a:List Cl)(hn:a.length≤41)(k:Nat)(hk:k≤a.length)(out0:List Ev)(hS0:Semi a 0 out0)(hw:WL Try.prog z51.nt zgr (weT l (z4j a a.length) k (z2g a a.length) (z2g a k) a.length [(13900,0,bl false)]) wsQ) :
  WL Try.prog z51.nt zux (weT l out0 k (z1c 5 3) (z1c 5 3) 0 []) (wg (fun L'=>WL Try.prog z51.nt zgr L' wsQ) wsQ):=by
 refine WL.block (WL.loop (ι:=weI a) (fun x=>weT l x.1.2 k (z2g a x.1.1) (z2g a (min x.1.1 k)) x.1.1 []) (fun x=>a.length - x.1.1) ⟨(0,out0),rh _,hS0⟩ (by simp[z2g]) fun x=>?_)
 obtain⟨⟨i,out⟩,hi,hS⟩:=x
 simp only at hi hS ⊢
 by_cases h:i < a.length
 ·have ho:i < out.length:=by rw[hS.n];exact h
  obtain⟨e1,e2⟩:=hS.at_ ho
  have hdo:=z83 (z2g a i) (z5m a i) out[i].Client out[i].op (by have:=z91 a i;rw[e2];unfold z0c;omega)
  have ey:(DoB (z2g a i) out[i].Client out[i].op).2.1=z2g a (i+1):=by rw[e1,e2];rfl
  have er:(DoB (z2g a i) out[i].Client out[i].op).2.2=(DoB (z2g a i) (z2j a i).Client (z2j a i).op).2.2:=by rw[e1,e2]
  have hst:=fun r (hr:r=(DoB (z2g a i) (z2j a i).Client (z2j a i).op).2.2)=>yyk l a hn k i h _ (hS.step h ho hr)
  have hs5:=fun r=>zab ho r
  rw[← ey] at hst
  rw[← er] at hst
  have hL:=z27 false false out
  have hn':=hS.n
  have q0:∀ (hh:i * 14 < (out.flatMap (z02 false false)).length),(out.flatMap (z02 false false))[i * 14]'hh=i64 out[i].Client:=z0i (j:=0) (v:=i64 out[i].Client) ho (by decide) rfl
  have q1:∀ (hh:i * 14+1 < (out.flatMap (z02 false false)).length),(out.flatMap (z02 false false))[i * 14+1]'hh=i64 out[i].op.Kind:=z0i (j:=1) (v:=i64 out[i].op.Kind) ho (by decide) rfl
  have q2:∀ (hh:i * 14+1+1 < (out.flatMap (z02 false false)).length),(out.flatMap (z02 false false))[i * 14+1+1]'hh=i64 out[i].op.Page:=z0i (j:=2) (v:=i64 out[i].op.Page) ho (by decide) rfl
  have q3:∀ (hh:i * 14+1+2 < (out.flatMap (z02 false false)).length),(out.flatMap (z02 false false))[i * 14+1+2]'hh=i64 out[i].op.Handle:=z0i (j:=3) (v:=i64 out[i].op.Handle) ho (by decide) rfl
  have q4:∀ (hh:i * 14+1+3 < (out.flatMap (z02 false false)).length),(out.flatMap (z02 false false))[i * 14+1+3]'hh=i64 out[i].op.Off:=z0i (j:=4) (v:=i64 out[i].op.Off) ho (by decide) rfl
  have q5:∀ (hh:i * 14+1+4 < (out.flatMap (z02 false false)).length),(out.flatMap (z02 false false))[i * 14+1+4]'hh=i64 out[i].op.N:=z0i (j:=5) (v:=i64 out[i].op.N) ho (by decide) rfl
  have q6:∀ (hh:i * 14+1+5 < (out.flatMap (z02 false false)).length),(out.flatMap (z02 false false))[i * 14+1+5]'hh=sU false out[i].op.Data:=z0i (j:=6) (v:=sU false out[i].op.Data) ho (by decide) rfl
  have q7:∀ (hh:i * 14+7 < (out.flatMap (z02 false false)).length),(out.flatMap (z02 false false))[i * 14+7]'hh=i64 out[i].res.Code:=z0i (j:=7) (v:=i64 out[i].res.Code) ho (by decide) rfl
  have q8:∀ (hh:i * 14+7+1 < (out.flatMap (z02 false false)).length),(out.flatMap (z02 false false))[i * 14+7+1]'hh=i64 out[i].res.Page:=z0i (j:=8) (v:=i64 out[i].res.Page) ho (by decide) rfl
  have q9:∀ (hh:i * 14+7+2 < (out.flatMap (z02 false false)).length),(out.flatMap (z02 false false))[i * 14+7+2]'hh=i64 out[i].res.Handle:=z0i (j:=9) (v:=i64 out[i].res.Handle) ho (by decide) rfl
  have q10:∀ (hh:i * 14+10 < (out.flatMap (z02 false false)).length),(out.flatMap (z02 false false))[i * 14+10]'hh=sU false out[i].res.Data:=z0i (j:=10) (v:=sU false out[i].res.Data) ho (by decide) rfl
  have p1:(out.flatMap (z02 false false))[i * 14+1]?=some (i64 out[i].op.Kind):=z1s (j:=1) ho (by decide)
  have p2:(out.flatMap (z02 false false))[i * 14+1+1]?=some (i64 out[i].op.Page):=z1s (j:=2) ho (by decide)
  have p3:(out.flatMap (z02 false false))[i * 14+1+2]?=some (i64 out[i].op.Handle):=z1s (j:=3) ho (by decide)
  have p4:(out.flatMap (z02 false false))[i * 14+1+3]?=some (i64 out[i].op.Off):=z1s (j:=4) ho (by decide)
  have p5:(out.flatMap (z02 false false))[i * 14+1+4]?=some (i64 out[i].op.N):=z1s (j:=5) ho (by decide)
  have p6:(out.flatMap (z02 false false))[i * 14+1+5]?=some (sU false out[i].op.Data):=z1s (j:=6) ho (by decide)
  have i7:i * 14+7 < out.length * 14:=by omega
  have i8:i * 14+8 < out.length * 14:=by omega
  have i9:i * 14+9 < out.length * 14:=by omega
  have i10:i * 14+10 < out.length * 14:=by omega
  have b1:i * 14+1≤out.length * 14:=by omega
  have b2:i * 14+1+6≤out.length * 14:=by omega
  refine WL.seq (WL.sreg (by simp[ho];rfl) (by simp;rfl) ?_)
  refine WL.cond (t:=true) (by simp[ho]) (fun _=>WL.skip ?_) (by simp)
  refine WL.seq (WL.block ?_)
  refine WL.wipe1 1000 [i * 14+10] (by simp[q10,hL,i10]) ?_
  refine wr z0t (by simp[z0b,noH]) (DL.o (by simp[ho,q0,q1,q2,q3,q4,q5,q6,p1,p2,p3,p4,p5,p6,hL,i10,b1,b2];exact⟨rfl,rfl⟩) ?_)
  generalize DoB (z2g a i) out[i].Client out[i].op=dd at hdo hst
  obtain⟨o',t,r⟩:=dd
  simp only at hdo hst
  have hs5':=hs5 r
  have hst':=hst r rfl
  refine n3 true [(1301,[]),(1302,[]),(1303,[])] hdo (by simp) (by simp) (by simp[z36]) (zbp _ t r) (by simp[z0b,noH]) ?_
  refine DL.o (by simp[ho,q7,q8,q9,hL,i7,i8,i9,i10];exact⟨rfl,rfl⟩) (DL.nil ⟨by kernel_rfl,_,by simp;rfl,?_⟩)
  refine WL.eqL ?_ hst'
  simp[weT,hEv,← hs5']
 ·obtain rfl:i=a.length:=by omega
  obtain rfl:=hS.end_
  refine WL.seq (WL.sreg (by simp[z1k];rfl) (by simp;rfl) ?_)
  refine WL.cond (t:=false) (by simp) (by simp) fun _=>WL.exit ?_
  rw[show min a.length k=k by omega]
  exact WL.eqL (by simp) hw
abbrev wfT (l:List Cl)(h:List Ev)(k:Nat)(y z:St)(i:Nat)(r:SL):SL :=
 [(0,0,sCl l),(1000,0,sEv h),(1200,0,i64 k)] ++ (rcO 14 y ++ ([(1600,0,.sl true () 1 0 [])] ++ (rcO 17 z ++ ([(1800,0,i64 i)] ++ r))))
theorem zbv (a:List Cl):∀ i,(z2g a i).There.length=5
 | 0=>rfl
 | i+1=>by rw[z2g,zki];exact zbv a i
theorem yvx (l a:List Cl)(hl:l.length < a.length)(hn:a.length≤41)(k:Nat)(hk:k≤a.length)(h8:∀ i,(z2j a i).op.Kind ≠ 8)(h67:∀ j,l.length < j→(z2j a j).op.Kind ≠ 6∧(z2j a j).op.Kind ≠ 7) :
  WL Try.prog z51.nt zgr (weT l (z4j a a.length) k (z2g a a.length) (z2g a k) a.length [(13900,0,bl false)]) wsQ:=by
 have hE:=y1w a a.length (by omega)
 have hlen:=z1k a a.length
 have hrn:=z84 5 3
 have h1:=zh5 a l.length hl h8 h67 k hk
 have h2:=zmc a
 have hat:∀ i,i < a.length→(z4j a a.length)[i]?=some (z4q a i):=fun i h=>by rw[pi (by rw[z1k];exact h),z52 a a.length h]
 refine WL.freeze 1000 ?_
 generalize z4j a a.length=h at *
 generalize z2g a a.length=x at *
 have hfin:=zto l h hE k (z2g a k) (z2g a (l.length+1)) (z5m a k) (zbv a k) (z5m a _) (zbv a _) h1 h2
 have oky:=z5m a k
 generalize z2g a k=y at *
 refine WL.sreg (by simp;rfl) (by simp;rfl) ?_
 refine w7 (RL.call0 false hrn (by simp) (by simp) (RL.o (by simp;rfl) (RL.nil ⟨_,by simp;rfl,?_⟩)))
 refine WL.seq (WL.sreg (by simp;rfl) (by simp;rfl) ?_)
 refine WL.block (we (l.length+1) (fun i=>wfT l h k y (z2g a i) i []) (fun i=>True) (by simp[z2g]) trivial fun i hi _=>?_)
 by_cases hlt:i < l.length+1
 ·have hia:i < a.length:=by omega
  have hu:i < h.length:=by omega
  have w:IntKind.wrap .i64 ((i:Int)+1)=((i+1:Nat):Int):=by rw[z01 (by omega) (by omega)];omega
  have c1:(i:Int)≤l.length:=by omega
  have c1':i≤l.length:=by omega
  have c2:(i:Int) < h.length:=by omega
  have ei:h[i]=z4q a i:=by have:=hat i hia;rw[pi hu] at this;exact Option.some.inj this
  have e1:h[i].Client=(z2j a i).Client:=by rw[ei];rfl
  have e2:h[i].op=(z2j a i).op:=by rw[ei];rfl
  have hdo:=z83 (z2g a i) (z5m a i) h[i].Client h[i].op (by have:=z91 a i;rw[e2];unfold z0c;omega)
  have ey:z2g a (i+1)=(DoB (z2g a i) h[i].Client h[i].op).2.1:=by rw[e1,e2];rfl
  have f1:=z1r (o:=false) (r:=false) hu
  have g1:14≤h.length * 14 - i * 14:=by omega
  have hL:=z27 false false h
  refine WL.seq (WL.sreg (by simp[c1,c1',c2,hu];rfl) (by simp;rfl) ?_)
  refine WL.cond (t:=true) (by simp[c1,c1',c2,hu]) (fun _=>WL.skip ?_) (by simp)
  refine WL.seq (WL.block ?_)
  refine WL.draw z0t (by simp[z0b,noH]) (DL.o (by simp[hu,f1,g1,hL];exact⟨rfl,rfl⟩) ?_)
  generalize DoB (z2g a i) h[i].Client h[i].op=dd at hdo ey
  obtain⟨o',t,r⟩:=dd
  simp only at hdo ey
  refine n3 true [(1701,[]),(1702,[]),(1703,[])] hdo (by simp) (by simp) (by simp[z36]) (zbp _ t r) (by simp[z0b,noH]) ?_
  refine DL.nil ⟨by kernel_rfl,_,by simp;rfl,?_⟩
  refine WL.reg (RL.run (by simp[w];rfl) ⟨_,by simp;rfl,hlt,?_,trivial⟩)
  rw[ey]
  simp
 ·obtain rfl:i=l.length+1:=by omega
  have c1:¬ ((l.length:Int)+1≤l.length):=by omega
  refine WL.seq (WL.sreg (by simp[c1];rfl) (by simp;rfl) ?_)
  refine WL.cond (t:=false) (by simp[c1]) (by simp) fun _=>WL.exit ?_
  refine WL.sreg (by simp;rfl) (by simp;rfl) ?_
  refine WL.seq (WL.sreg (by simp;rfl) (by simp;rfl) ?_)
  exact WL.eqL (by simp) hfin
def ymx (e:Ev)(i:Nat):Ev:={ e with Begin:=3 * (i:Int)+1,Stamp:=3 * (i:Int)+2,End:=3 * (i:Int)+3 }
theorem ztq {l:List Ev}{k:Nat}(h:k < l.length)(i:Nat):(((l.flatMap (z02 false false)).set (k * 14+12) (i64 (3 * (i:Int)+2))).set (k * 14+11) (i64 (3 * (i:Int)+1))).set (k * 14+13) (i64 (3 * (i:Int)+3))=(l.set k (ymx l[k] i)).flatMap (z02 false false):=by
 rw[zeo h,z65 h]
 simp only[zbt _ _ _ _ _ (z2z h)]
 rfl
structure Tim (a:List Cl) (i:Nat) (out:List Ev):Prop where
 n:out.length=a.length
 c:∀ j,(hj:j < out.length)→out[j].Client=(z2j a j).Client∧out[j].op=(z2j a j).op
 t:∀ j,(hj:j < out.length)→j < i→out[j].Begin=3 * (j:Int)+1∧out[j].Stamp=3 * (j:Int)+2∧out[j].End=3 * (j:Int)+3
theorem Tim.step {a:List Cl}{i:Nat}{out:List Ev}(h:Tim a i out)(ho:i < out.length):Tim a (i+1) (out.set i (ymx out[i] i)):=by
 refine⟨by simp[h.n],fun j hj=>?_,fun j hj hji=>?_⟩
 ·by_cases e:j=i
  ·subst e;simp only[List.getElem_set_self];exact h.c j ho
  ·rw[List.getElem_set_ne (Ne.symm e)];exact h.c j (by simpa using hj)
 ·by_cases e:j=i
  ·subst e;simp[ymx]
  ·rw[List.getElem_set_ne (Ne.symm e)];exact h.t j (by simpa using hj) (by omega)
theorem Tim.end_ {a:List Cl}{out:List Ev}(h:Tim a a.length out):Semi a 0 out:=by
 refine⟨h.n,fun j hj=>absurd hj (ra _),fun j hj=>?_⟩
 obtain⟨c1,c2⟩:=h.c j hj
 obtain⟨t1,t2,t3⟩:=h.t j hj (by rw[← h.n];exact hj)
 show (⟨out[j].Client,out[j].op,⟨0,0,0,[]⟩,out[j].Begin,out[j].Stamp,out[j].End⟩:Ev)=ztp (z4q a j)
 rw[c1,c2,t1,t2,t3];rfl
abbrev wgT (l:List Cl)(a:Int)(out:List Ev)(i:Nat)(r:SL):SL:=[(0,0,sCl l),(200,0,i64 a),(1000,0,hEv out),(1100,0,i64 i)] ++ r
abbrev wgI (x:List Cl):Type:={q:Nat × List Ev // q.1≤x.length∧Tim x q.1 q.2}
theorem yyl (l x:List Cl)(hl:l.length < x.length)(hn:x.length≤41)(a:Int)(h8:∀ i,(z2j x i).op.Kind ≠ 8)(h67:∀ j,l.length < j→(z2j x j).op.Kind ≠ 6∧(z2j x j).op.Kind ≠ 7)(out:List Ev)(hT:Tim x x.length out) :
  WL Try.prog z51.nt zpx (wgT l a out x.length [(10200,0,bl false)]) wsQ:=by
 have hS:=hT.end_
 have hlo:out.length=x.length:=hT.n
 have hrn:=z84 5 3
 have w1:IntKind.wrap .i64 ((out.length:Int)+1)=((x.length+1:Nat):Int):=by rw[z01 (by omega) (by omega)];omega
 have w2:IntKind.wrap .u64 ((x.length+1:Nat):Int)=((x.length+1:Nat):Int):=IntWalk.u64_in _ ⟨by omega,by omega⟩
 obtain⟨hk,ek⟩:=z50 a (x.length+1) (by omega) (by omega)
 have n0:((x.length+1:Nat):Int) ≠ 0:=by omega
 generalize um a ((x.length+1:Nat):Int)=k at hk ek
 have hgo:=y2c l x hn k (by omega) out hS (yvx l x hl hn k (by omega) h8 h67)
 generalize ((x.length+1:Nat):Int)=m at *
 refine WL.sreg (by simp[w1,w2,n0,ek];rfl) (by simp;rfl) ?_
 generalize z1c 5 3=st0 at *
 refine w7 (RL.call0 false hrn (by simp) (by simp) (RL.call0 false hrn (by simp) (by simp) (RL.o (by simp;rfl) (RL.nil ⟨_,by simp;rfl,?_⟩))))
 refine WL.seq (WL.sreg (by simp;rfl) (by simp;rfl) ?_)
 exact WL.eqL (by simp) hgo
theorem y2d (l x:List Cl)(hl:l.length < x.length)(hn:x.length≤41)(a:Int)(h8:∀ i,(z2j x i).op.Kind ≠ 8)(h67:∀ j,l.length < j→(z2j x j).op.Kind ≠ 6∧(z2j x j).op.Kind ≠ 7) :
  WL Try.prog z51.nt zuv (wgT l a (z92 x []) 0 []) (wg (fun L'=>WL Try.prog z51.nt zpx L' wsQ) wsQ):=by
 have h0:Tim x 0 (z92 x []):=⟨zkq x [],fun j hj=>y29 x [] (by rw[zkq] at hj;exact hj) hj,fun j _ h=>absurd h (ra _)⟩
 generalize z92 x []=out0 at *
 refine WL.block (WL.loop (ι:=wgI x) (fun q=>wgT l a q.1.2 q.1.1 []) (fun q=>x.length - q.1.1) ⟨(0,out0),rh _,h0⟩ (by simp) fun q=>?_)
 obtain⟨⟨i,out⟩,hi,hT⟩:=q
 simp only at hi hT ⊢
 have hlo:out.length=x.length:=hT.n
 have hL:=z27 false false out
 by_cases h:i < x.length
 ·have ho:i < out.length:=by omega
  have hst:=hT.step ho
  have hs3:=ztq ho i
  have w:IntKind.wrap .i64 ((i:Int)+1)=((i+1:Nat):Int):=by rw[z01 (by omega) (by omega)];omega
  have w0:IntKind.wrap .i64 (3 * (i:Int))=3 * (i:Int):=z01 (by omega) (by omega)
  have w1:IntKind.wrap .i64 (3 * (i:Int)+1)=3 * (i:Int)+1:=z01 (by omega) (by omega)
  have w2:IntKind.wrap .i64 (3 * (i:Int)+2)=3 * (i:Int)+2:=z01 (by omega) (by omega)
  have w3:IntKind.wrap .i64 (3 * (i:Int)+3)=3 * (i:Int)+3:=z01 (by omega) (by omega)
  have q11:∀ (hh:i * 14+11 < (out.flatMap (z02 false false)).length),(out.flatMap (z02 false false))[i * 14+11]'hh=i64 out[i].Begin:=z0i (j:=11) (v:=i64 out[i].Begin) ho (by decide) rfl
  have q12:∀ (hh:i * 14+12 < (out.flatMap (z02 false false)).length),(out.flatMap (z02 false false))[i * 14+12]'hh=i64 out[i].Stamp:=z0i (j:=12) (v:=i64 out[i].Stamp) ho (by decide) rfl
  have q13:∀ (hh:i * 14+13 < (out.flatMap (z02 false false)).length),(out.flatMap (z02 false false))[i * 14+13]'hh=i64 out[i].End:=z0i (j:=13) (v:=i64 out[i].End) ho (by decide) rfl
  have i11:i * 14+11 < out.length * 14:=by omega
  have i12:i * 14+12 < out.length * 14:=by omega
  have i13:i * 14+13 < out.length * 14:=by omega
  refine WL.seq (WL.sreg (by simp[ho];rfl) (by simp;rfl) ?_)
  refine WL.cond (t:=true) (by simp[ho]) (fun _=>WL.skip ?_) (by simp)
  refine WL.seq (WL.block ?_)
  refine WL.reg (RL.run (by simp[ho,w0,w1,w2,w3,hL,q11,q12,q13,i11,i12,i13];rfl) ⟨_,by simp;rfl,?_⟩)
  refine WL.reg (RL.run (by simp[w];rfl) ⟨_,by simp;rfl,?_⟩)
  refine⟨⟨(i+1,out.set i (ymx out[i] i)),h,hst⟩,?_,by simp only;omega⟩
  simp[wgT,hEv,← hs3]
 ·obtain rfl:i=x.length:=by omega
  refine WL.seq (WL.sreg (by simp[hlo];rfl) (by simp;rfl) ?_)
  refine WL.cond (t:=false) (by simp[hlo]) (by simp) fun _=>WL.exit ?_
  exact WL.eqL (by simp[hlo]) (yyl l x hl hn a h8 h67 out hT)
abbrev wsS (l:List Cl)(a:Int)(x:List Cl)(i:Nat)(r:SL):SL:=[(0,0,sCl l),(200,0,i64 a),(700,0,hCl x),(800,0,i64 i)] ++ r
theorem yky (l:List Cl)(n:Nat)(hl:l.length < n)(hn:n≤41)(a:Int)(x:List Cl)(hx:x.length=n)(hk:∀ j,(hj:j < x.length)→okK l.length j x[j])(i:Nat)(r:SL)(hr:r=[(4400,0,bl false)]):WL Try.prog z51.nt zk9 (wsS l a x i r) wsQ:=by
 subst hr
 have hg:=y26 x (by omega) (fun c hc=>by obtain ⟨j,hj,rfl⟩:=List.mem_iff_getElem.1 hc;have:=(hk j hj).2.2;omega) []
 refine WL.freeze 700 ?_
 refine w7 (RL.o (by simp;rfl) (RL.call0 false hg (by simp) (by simp) (RL.o (by simp;rfl) (RL.nil ⟨_,by simp;rfl,?_⟩))))
 refine WL.seq (WL.sreg (by simp;rfl) (by simp;rfl) ?_)
 obtain⟨h8,h67⟩:=y2a hk
 exact WL.eqL (by simp) (y2d l x (by omega) (by omega) a h8 h67)
abbrev wsI (l:List Cl)(n:Nat):Type:={x:Nat × List Cl // x.1≤n∧x.2.length=n∧∀ j,(hj:j < x.2.length)→j < x.1→okK l.length j x.2[j]}
abbrev wsE (l:List Cl)(n:Nat)(a:Int)(i:Nat):Ex→SL→Prop:=wg (fun L'=>∃ j:wsI l n,L'=wsS l a j.val.snd j.val.fst []∧n - j.val.fst < n - i) (wj 0 (wg (fun L'=>WL Try.prog z51.nt zk9 L' wsQ) wsQ))
abbrev wsB (l:List Cl)(n:Nat)(a:Int)(i:Nat):Ex→SL→Prop:=wj 1 (wg (fun L'=>WL Try.prog z51.nt zgq L' (wsE l n a i)) (wsE l n a i))
theorem zh7 {x:List Cl}{i:Nat}(h:i < x.length):(x.set i (zmk x[i])).length=x.length∧(∀ hh:i < (x.set i (zmk x[i])).length,(x.set i (zmk x[i]))[i]'hh=zmk x[i])∧∀ j,j ≠ i→(x.set i (zmk x[i]))[j]?=x[j]? :=
 ⟨by simp,fun _=>by simp,fun j hj=>by rw[sf (Ne.symm hj)]⟩
theorem zh8 (l:List Cl)(n:Nat)(hl:l.length < n)(hn:n≤41)(a:Int)(x:List Cl)(hx:x.length=n)(i:Nat)(h:i < n)(hk:∀ j,(hj:j < x.length)→j < i→okK l.length j x[j])
  (h7:um (x[i]'(by omega)).op.Kind 8 ≠ 7) (hd:(x[i]'(by omega)).op.Data.length≤40) (r:SL) (hr:r=[]∨r=[(6500,0,bl false)]):WL Try.prog z51.nt zut (wsS l a x i r) (wsB l n a i):=by
 have hix:i < x.length:=by omega
 have hL:=zd5 x
 have w:IntKind.wrap .i64 ((i:Int)+1)=((i+1:Nat):Int):=by rw[z01 (by omega) (by omega)];omega
 have q1:∀ (hh:i * 7+1 < (x.flatMap (z0g false)).length),(x.flatMap (z0g false))[i * 7+1]'hh=i64 x[i].op.Kind:=zet (j:=1) (v:=i64 x[i].op.Kind) hix (by decide) rfl
 have p1:(x.flatMap (z0g false))[i * 7+1]?=some (i64 x[i].op.Kind):=zes (j:=1) hix (by decide)
 have b1:i * 7+1 < n * 7:=by omega
 have b2:i * 7+1+1≤n * 7:=by omega
 rw[hx] at hL
 have hu:=z50 x[i].op.Kind 8 (by decide) (by decide)
 rw[show ((8:Nat):Int)=8 from rfl] at hu
 have k2:um 2 8=2:=by kernel_rfl
 -- behind the second test
 have rest:∀ y:List Cl,(∃ hy:y.length=n,okK l.length i (y[i]'(by omega))∧∀ j,j ≠ i→y[j]?=x[j]?)→∀ L,(L=wsS l a y i []∨L=wsS l a y i [(9100,0,bl false)])→WL Try.prog z51.nt zgq L (wsE l n a i):=fun y hy L hL=>by
  obtain⟨hy,hyi,hyj⟩:=hy
  have ok:∀ j,(hj:j < y.length)→j < i+1→okK l.length j y[j]:=fun j hj hji=>by
   by_cases e:j=i
   ·subst e;exact hyi
   ·have e1:=hyj j e
    have hjx:j < x.length:=by omega
    rw[pi hj,pi hjx] at e1
    rw[Option.some.inj e1]
    exact hk j hjx (by omega)
  rcases hL with rfl | rfl
  ·exact WL.reg (RL.run (by simp[w];rfl) ⟨_,by simp;rfl,⟨⟨(i+1,y),h,hy,ok⟩,by simp,by simp only;omega⟩⟩)
  ·exact WL.reg (RL.run (by simp[w];rfl) ⟨_,by simp;rfl,⟨⟨(i+1,y),h,hy,ok⟩,by simp,by simp only;omega⟩⟩)
 generalize hum:um x[i].op.Kind 8=u at hu h7
 have go:WL Try.prog z51.nt ygm (wsS l a x i [(900,0,i64 u)]) (wsB l n a i):=by
  have keep:(l.length < i→u ≠ 5∧u ≠ 6)→WL Try.prog z51.nt y0h (wsS l a x i [(9100,0,bl false)]) (wj 1 (wg (fun L'=>WL Try.prog z51.nt zgq L' (wsE l n a i)) (wsE l n a i))):=fun hno=>by
   refine WL.cond (t:=false) (by simp) (by simp) fun _=>WL.skip ?_
   exact rest x ⟨hx,⟨by rw[hum];exact h7,by rw[hum];exact hno,hd⟩,fun _ _=>rfl⟩ _ (.inr rfl)
  have turn:WL Try.prog z51.nt y0h (wsS l a x i [(9100,0,bl true)]) (wj 1 (wg (fun L'=>WL Try.prog z51.nt zgq L' (wsE l n a i)) (wsE l n a i))):=by
   obtain⟨s1,s2,s3⟩:=zh7 hix
   have ek:=zkw hix
   refine WL.cond (t:=true) (by simp) (fun _=>?_) (by simp)
   refine WL.reg (RL.run (by simp[h,hx,hL,b1,b2,q1,p1];rfl) ⟨_,by simp;rfl,?_⟩)
   refine rest (x.set i (zmk x[i])) ⟨by rw[s1];exact hx,by rw[s2];exact⟨by simp[zmk,k2],by simp[zmk,k2],hd⟩,s3⟩ _ (.inl ?_)
   simp[wsS,hCl,hx,← ek]
  by_cases c0:l.length < i
  ·have c0':(l.length:Int) < i:=by omega
   by_cases c5:u=5
   ·refine WL.sreg (by simp[c0,c0',c5];rfl) (by simp;rfl) ?_
    exact WL.eqL (by simp) turn
   ·have c5':((u:Int) == 5)=false:=beq_false_of_ne (by omega)
    by_cases c6:u=6
    ·refine WL.sreg (by simp[c0,c0',c6];rfl) (by simp;rfl) ?_
     exact WL.eqL (by simp) turn
    ·have c6':((u:Int) == 6)=false:=beq_false_of_ne (by omega)
     refine WL.sreg (by simp[c0,c0',c5',c6'];rfl) (by simp;rfl) ?_
     exact WL.eqL (by simp[c5',c6']) (keep fun _=>⟨c5,c6⟩)
  ·have c0':¬ (l.length:Int) < i:=by omega
   refine WL.sreg (by simp[c0,c0'];rfl) (by simp;rfl) ?_
   exact WL.eqL (by simp[c0,c0']) (keep fun hc=>absurd hc c0)
 rcases hr with rfl | rfl
 ·refine WL.sreg (by simp[h,hx,hL,b1,b2,q1,p1,hu.2];rfl) (by simp;rfl) ?_
  exact WL.eqL (by simp) go
 ·refine WL.sreg (by simp[h,hx,hL,b1,b2,q1,p1,hu.2];rfl) (by simp;rfl) ?_
  exact WL.eqL (by simp) go
theorem y2e (l:List Cl)(n:Nat)(hl:l.length < n)(hn:n≤41)(a:Int)(x0:List Cl)(hx0:x0.length=n):WL Try.prog z51.nt zuu (wsS l a x0 0 []) (wg (fun L'=>WL Try.prog z51.nt zk9 L' wsQ) wsQ):=by
 refine WL.block (WL.loop (ι:=wsI l n) (fun x=>wsS l a x.1.2 x.1.1 []) (fun x=>n - x.1.1) ⟨(0,x0),rh _,hx0,fun j _ h=>absurd h (ra _)⟩ (by simp) fun x=>?_)
 obtain⟨⟨i,x⟩,hi,hx,hk⟩:=x
 simp only at hi hx hk ⊢
 have hL:=zd5 x
 by_cases h:i < n
 ·have hix:i < x.length:=by omega
  have q1:∀ (hh:i * 7+1 < (x.flatMap (z0g false)).length),(x.flatMap (z0g false))[i * 7+1]'hh=i64 x[i].op.Kind:=zet (j:=1) (v:=i64 x[i].op.Kind) hix (by decide) rfl
  have q6:∀ (hh:i * 7+1+5 < (x.flatMap (z0g false)).length),(x.flatMap (z0g false))[i * 7+1+5]'hh=sU false x[i].op.Data:=zet (j:=6) (v:=sU false x[i].op.Data) hix (by decide) rfl
  have p6:(x.flatMap (z0g false))[i * 7+1+5]?=some (sU false x[i].op.Data):=zes (j:=6) hix (by decide)
  have p1:(x.flatMap (z0g false))[i * 7+1]?=some (i64 x[i].op.Kind):=zes (j:=1) hix (by decide)
  have b1:i * 7+1 < n * 7:=by omega
  have b6:i * 7+1+5 < n * 7:=by omega
  have b7:i * 7+1+6≤n * 7:=by omega
  have b2:i * 7+1+1≤n * 7:=by omega
  rw[hx] at hL
  refine WL.seq (WL.sreg (by simp[h,hx];rfl) (by simp;rfl) ?_)
  refine WL.cond (t:=true) (by simp[h]) (fun _=>WL.skip ?_) (by simp)
  refine WL.seq (WL.block (WL.seq ?_))
  refine WL.sreg (by simp[h,hx,hL,b1,b2,b6,b7,q6,p6];rfl) (by simp;rfl) ?_
  by_cases hd:40 < x[i].op.Data.length
  ·have hd':(40:Int) < x[i].op.Data.length:=by omega
   refine WL.cond (t:=true) (by simp[hd,hd']) (fun _=>?_) (by simp)
   refine w7 (RL.call0 false z4x (by simp) (by simp) (RL.o (by simp;rfl) (RL.nil ⟨_,by simp;rfl,WL.ret ⟨rfl,?_⟩⟩)))
   simp[z51]
  have hd':¬ (40:Int) < x[i].op.Data.length:=by omega
  refine WL.cond (t:=false) (by simp[hd,hd']) (by simp) fun _=>WL.skip ?_
  have hu:=z50 x[i].op.Kind 8 (by decide) (by decide)
  rw[show ((8:Nat):Int)=8 from rfl] at hu
  have k2:um 2 8=2:=by kernel_rfl
  by_cases h7:um x[i].op.Kind 8=7
  ·obtain⟨s1,s2,s3⟩:=zh7 hix
   have ek:=zkw hix
   refine WL.seq (WL.sreg (by simp[h,hx,hL,b1,b2,q1,p1,hu.2,h7];rfl) (by simp;rfl) ?_)
   refine WL.cond (t:=true) (by simp) (fun _=>?_) (by simp)
   refine WL.reg (RL.run (by simp[h,hx,hL,b1,b2,q1,p1];rfl) ⟨_,by simp;rfl,?_⟩)
   refine WL.eqL ?_ (zh8 l n hl hn a (x.set i (zmk x[i])) (by rw[s1];exact hx) i h (fun j hj hji=>?_) (by rw[s2];simp[zmk,k2]) (by rw[s2];simp only[zmk];omega) [] (.inl rfl))
   ·simp[wsS,hCl,hx,← ek]
   ·have e1:=s3 j (by omega)
    have hjx:j < x.length:=by omega
    rw[pi hj,pi hjx] at e1
    rw[Option.some.inj e1]
    exact hk j hjx hji
  ·have h7':((um x[i].op.Kind 8:Int) == 7)=false:=beq_false_of_ne (by omega)
   refine WL.seq (WL.sreg (by simp[h,hx,hL,b1,b2,q1,p1,hu.2,h7'];rfl) (by simp;rfl) ?_)
   refine WL.cond (t:=false) (by simp[h7']) (by simp) fun _=>WL.skip ?_
   exact WL.eqL (by simp[h7']) (zh8 l n hl hn a x hx i h hk h7 (by omega) [(6500,0,bl false)] (.inr rfl))
 ·obtain rfl:i=n:=by omega
  refine WL.seq (WL.sreg (by simp[hx];rfl) (by simp;rfl) ?_)
  refine WL.cond (t:=false) (by simp) (by simp) fun _=>WL.exit ?_
  exact WL.eqL (by simp) (yky l i hl hn a x hx (fun j hj=>hk j hj (by omega)) i _ rfl)
def ykz (l more:List Cl):List Cl:=(l ++ [⟨0,⟨6,0,0,0,0,[]⟩⟩]) ++ more
theorem yl0 (l more:List Cl)(hl:l.length≤30)(hm:more.length≤10)(a:Int):WL Try.prog z51.nt zv1 [(0,0,sCl l),(100,0,sCl more),(200,0,i64 a),(3000,0,bl false)] wsQ:=by
 have p1:=zr1 l
 have p2:=zr1 more
 have l1:=zd5 l
 have l2:=zd5 more
 have m1:l.length * 72≤140737488355328:=by omega
 have m2:l.length≤maxLen:=by unfold maxLen;omega
 have m3:(l.length+1) * 72≤140737488355328:=by omega
 have m4:l.length+1≤maxLen:=by unfold maxLen;omega
 have m5:(l.length+1+more.length) * 72≤140737488355328:=by omega
 have m6:l.length+1+more.length≤maxLen:=by unfold maxLen;omega
 have ef:(ykz l more).flatMap (z0g false)=l.flatMap (z0g false) ++ ([i64 0,i64 6,i64 0,i64 0,i64 0,i64 0,sU false []] ++ more.flatMap (z0g false)):=by simp[ykz,tq]
 have en:(ykz l more).length=l.length+1+more.length:=by simp[ykz];omega
 have t1:List.take (l.length * 7) (l.flatMap (z0g false))=l.flatMap (z0g false):=pp (by rw[zd5];exact pr _)
 refine w7 ?_
 refine RL.cut (segs':=.o [.bs0 32 7,.mov 33 (.t 0),.app 34 7 72 (.t 32) (.t 33),.build 35 [(.sc (.int .i64 0)),(.sc (.int .i64 0)),(.sc (.int .i64 0)),(.sc (.int .i64 0)),(.sc (.int .i64 0)),(.sc (.slice none 0 0))] [(0,1,(cI 6))]] :: .o [.build 36 [(.sc (.int .i64 0)),(.sc (.int .i64 0)),(.sc (.int .i64 0)),(.sc (.int .i64 0)),(.sc (.int .i64 0)),(.sc (.int .i64 0)),(.sc (.slice none 0 0))] [(1,6,(.t 35))],.bs1 37 7 (.t 36),.app 38 7 72 (.t 34) (.t 37),.mov 39 (.t 1),.app 40 7 72 (.t 38) (.t 39),.asg 7 (.t 40)] :: []) rfl ?_
 refine RL.o (by simp[p1,l1,m1,m2];rfl) (RL.nilA 35 5 1 (by simp;rfl) rfl rfl ?_)
 refine RL.o (by simp[p1,p2,l1,l2,m1,m2,m3,m4,m5,m6,t1];rfl) (RL.nil ⟨_,by simp;rfl,?_⟩)
 refine WL.seq (WL.sreg (by simp;rfl) (by simp;rfl) ?_)
 have tt:∀ A B C:List AU,A.length=l.length * 7→B.length=7→C.length=more.length * 7→List.take ((l.length+1+more.length) * 7) (List.take ((l.length+1) * 7) (A ++ B) ++ C)=A ++ (B ++ C):=fun A B C hA hB hC=>by
  rw[pp (l:=A ++ B) (by simp;omega),pp (by simp;omega),b9]
 refine WL.eqL ?_ (y2e l (l.length+1+more.length) (by omega) (by omega) a (ykz l more) en)
 simp only[wsS,hCl,en,ef]
 rw[tt _ _ _ l1 rfl l2]
 rfl
theorem zbw (l more:List Cl)(hl:l.length≤9223372036854775807)(hm:more.length≤9223372036854775807)(a:Int):FnC Try.prog 20 [] [sCl l,sCl more,i64 a] [] (bl true):=by
 refine wc yyc rfl ?_
 refine WL.mono (Q':=wsQ) ?_ fun e L h=>⟨.inr h.1,h.2⟩
 refine WL.sreg (by simp;rfl) (by simp;rfl) ?_
 have tl:∀ L,L=[(0,0,sCl l),(100,0,sCl more),(200,0,i64 a),(3000,0,bl true)]→WL Try.prog z51.nt ygl L wsQ:=fun L hL=>by
  subst hL
  refine w7 (RL.call0 false z4x (by simp) (by simp) (RL.o (by simp;rfl) (RL.nil ⟨_,by simp;rfl,WL.ret ⟨rfl,?_⟩⟩)))
  simp[z51]
 by_cases h30:l.length≤30
 ·have q:¬ (30:Int) < l.length:=by omega
  by_cases h10:more.length≤10
  ·have q2:¬ (10:Int) < more.length:=by omega
   refine WL.seq (WL.sreg (by simp[q,q2];rfl) (by simp;rfl) ?_)
   refine WL.cond (t:=false) (by simp[q,q2]) (by simp) fun _=>WL.skip ?_
   exact WL.eqL (by simp[q,q2]) (yl0 l more h30 h10 a)
  ·have q2:(10:Int) < more.length:=by omega
   refine WL.seq (WL.sreg (by simp[q,q2];rfl) (by simp;rfl) ?_)
   refine WL.cond (t:=true) (by simp[q,q2]) (fun _=>?_) (by simp)
   exact WL.mono (tl _ (by simp[q,q2])) fun e L h=>h.1 ▸ ⟨rfl,h.2⟩
 ·have q:(30:Int) < l.length:=by omega
  refine WL.seq (WL.sreg (by simp[q];rfl) (by simp;rfl) ?_)
  refine WL.cond (t:=true) (by simp[q]) (fun _=>?_) (by simp)
  exact WL.mono (tl _ (by simp[q])) fun e L h=>h.1 ▸ ⟨rfl,h.2⟩
end Go.OT
namespace Go.Proofs.Ytlcemfnjhdcmoaa
open Go.ChangeShapes Go.WideShapes Go.ChangeAt Go.RowKit Go.Joins Go.OT
theorem zbx:ownKnob Try.prog.godebug=none:=by kernel_rfl
theorem z9p:laidOutB Try.prog=true:=by kernel_rfl
theorem z9q:((Try.f20.params.toList).all fun t=>Try.prog.readableRec t && decide (t < Try.prog.types.size))=true:=by kernel_rfl
set_option maxRecDepth 100000 in
theorem wreckStages_lifted (os:Os)(started:os.Started)(H:Type)(enc:TypeId × Value→H) :
  ReturnsInHanded {} Try.checked os 20 .any (Rows.wreckStagesSpec.pre6 enc Try.prog Try.f20 Rows.wreckStagesRow.domain false) (Rows.wreckStagesSpec.post enc Try.prog Try.f20 false true false false):=by
 refine returnsInHanded_of_change (C:=Try.checked) zbx started (by kernel_rfl) Try.func20
  (ChangeSpec.witness6 (enc:=enc) (C:=Try.checked) false ⟨#[],#[.slice none 0 0,.slice none 0 0,.int .i64 0],[]⟩ 8 (by kernel_rfl) (by kernel_rfl) (by kernel_rfl) (by kernel_rfl)) ?_
 intro W base args ds gs before hval0 hW hcnd _
 have hval:∀ (j:Nat) t v,Try.f20.params[j]?=some t→args[j]?=some v→Value.okWide Try.prog W .any base t v:=hval0
 have hW':=hW
 obtain⟨p,q,hA0,hV,rfl,hfz,hnd⟩:=hW
 have hA:DataW.TrodAll enc Try.prog W 0 (fun _=>true) true Try.f20.params.toList args.toList ds p:=hA0
 have hB:=hA
 rw[Try.params20] at hA hval
 obtain⟨v0,vs0,d0,ds0,p0,q0,hargs,rfl,rfl,h0,r0⟩:=trodAll_cons hA
 obtain⟨v1,vs1,d1,ds1,p1,q1,rfl,rfl,rfl,h1,r1⟩:=trodAll_cons r0
 obtain⟨v2,vs2,d2,ds2,p2,q2,rfl,rfl,rfl,h2,r2⟩:=trodAll_cons r1
 obtain⟨rfl,rfl,rfl⟩:=trodAll_nil r2
 obtain rfl:args=#[v0,v1,v2]:=by cases args;simp_all
 obtain⟨rfl,rfl⟩:=trodVars_none hV
 obtain⟨a0,l0,e0,k0,rr0,mm0,no0,ro0⟩:=ywo H enc W .any base v0 d0 p0 (hval 0 _ v0 rfl rfl) h0
 obtain⟨a1,l1,e1,k1,rr1,mm1,no1,ro1⟩:=ywo H enc W .any base v1 d1 p1 (hval 1 _ v1 rfl rfl) h1
 obtain⟨a2,l2,e2,k2,rr2,mm2,no2,ro2⟩:=ta3 H enc W .any base v2 d2 p2 (hval 2 _ v2 rfl rfl) h2
 have hwalk:Calls Try.prog 20 #[v0,v1,v2] W fun e w'=>e=.returned (.bool true)∧Below W.heap.size W w':=by
  refine Fn.law ((fun (l more:List Cl) (a:Int) (h:l.length≤9223372036854775807∧∀ c ∈ l,c.op.Data.length≤9223372036854775807) (h4:more.length≤9223372036854775807∧∀ c ∈ more,c.op.Data.length≤9223372036854775807)=>zbw l more h.1 h4.1 a) a0 a1 a2 k0 k1).1 (Wc W) [l0,l1,l2] (fun _ _ h=>yn7 h) rfl (by simp) (by simp only[List.map_cons,t0,e0,e1,e2]) fun t la h=>?_
  match t,h with
  | 0,h=>simp at h;subst h;exact⟨rr0,mm0,no0,ro0⟩
  | 1,h=>simp at h;subst h;exact⟨rr1,mm1,no1,ro1⟩
  | 2,h=>simp at h;subst h;exact⟨rr2,mm2,no2,ro2⟩
  | t+3,h=>simp at h
 clear hA0 hval0
 refine hwalk.mono fun e W' ⟨he,bel⟩=>?_
 subst he
 exact⟨_,rfl,_,_,_,[],_,[],hW',trodAll_mk1 (shut_bool Try.underlying4 _),zfp z9p bel z9q hB,rfl,bel.frame _,fun h=>by cases h⟩
end Go.Proofs.Ytlcemfnjhdcmoaa
