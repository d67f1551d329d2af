/- Part 9 of the proof: see its last file. -/
import Derived.Test.YtlcemfnjhdcmoaaWs08
set_option linter.unusedSimpArgs false
set_option linter.unusedVariables false
set_option maxHeartbeats 64000000
namespace Go.OT
open Go.Proofs
structure Blk (key:Int→Int) (f h:Nat→Int) (x y:Nat):Prop where
 perm:(seg h x (y - x)).Perm (seg f x (y - x))
 sorted:SortedF key h x y
section
variable {key:Int→Int} {f h h':Nat→Int} {x m y:Nat}
theorem Blk.mem (b:Blk key f h x y){k:Nat}(h1:x≤k)(h2:k < y):∃ u,x≤u∧u < y∧h k=f u:=by
 have:h k ∈ seg h x (y - x):=ze7.2 ⟨k - x,by omega,by rw[show x+(k - x)=k by omega]⟩
 obtain⟨u,hu,e⟩:=ze7.1 (b.perm.subset this)
 exact⟨x+u,by omega,by omega,e.symm⟩
theorem Blk.congr (b:Blk key f h x y)(hc:∀ k,x≤k→k < y→h' k=h k):Blk key f h' x y:=by
 refine⟨?_,fun i j h1 h2 h3=>?_⟩
 ·rw[z58 (f:=h') (g:=h) (a:=x) (b:=x) (n:=y - x) (fun k hk=>hc _ (by omega) (by omega))];exact b.perm
 ·rw[hc i h1 (by omega),hc j (by omega) h3];exact b.sorted i j h1 h2 h3
theorem Blk.two (b1:Blk key f h x m)(b2:Blk key f h m y)(hasc:∀ i j,x≤i→i < j→j < y→f i < f j):Two key h x m y:=by
 refine⟨b1.sorted,b2.sorted,fun i j h1 h2 h3 h4=>?_⟩
 obtain⟨u,u1,u2,e1⟩:=b1.mem h1 h2
 obtain⟨v,v1,v2,e2⟩:=b2.mem h3 h4
 rw[e1,e2]
 exact hasc u v u1 (by omega) v2
theorem Blk.merge (b1:Blk key f h x m)(b2:Blk key f h m y)(h1:x≤m)(h2:m≤y)(hS:SM key h x y h'):Blk key f h' x y:=by
 refine⟨hS.perm.trans ?_,hS.sorted⟩
 have e:∀ g:Nat→Int,seg g x (y - x)=seg g x (m - x) ++ seg g m (y - m):=fun g=>by
  rw[show y - x=(m - x)+(y - m) by omega,zbj,show x+(m - x)=m by omega]
 rw[e,e]
 exact b1.perm.append b2.perm
theorem nl (hc:∀ k,x≤k→k < y→h k=f k)(hS:SM key h x y h'):Blk key f h' x y:=by
 refine⟨hS.perm.trans ?_,hS.sorted⟩
 rw[z58 (f:=h) (g:=f) (a:=x) (b:=x) (n:=y - x) (fun k hk=>hc _ (by omega) (by omega))]
theorem Blk.toSM (b:Blk key f h 0 y)(hout:∀ k,y≤k→h k=f k):SM key f 0 y h:=⟨fun k hk=>hout k (by omega),b.perm,b.sorted⟩
end
def y39 (key:Int→Int)(f h:Nat→Int)(N bs:Nat):Prop:=(∀ t,bs * t < N→Blk key f h (bs * t) (min (bs * t+bs) N))∧∀ k,N≤k→h k=f k
def UpB (key:Int→Int)(f h0 h:Nat→Int)(N bs a:Nat):Prop:=(∃ t,a=bs * t)∧a≤N∧(∀ t,bs * t < a→Blk key f h (bs * t) (bs * t+bs))∧∀ k,a≤k→h k=h0 k
theorem z74 {bs t u:Nat}(h0:0 < bs)(h:bs * t < bs * u):bs * t+bs≤bs * u:=by
 have:t < u:=Nat.lt_of_mul_lt_mul_left h
 have:=Nat.mul_le_mul_left bs (qs this)
 rw[Nat.mul_succ] at this;exact this
theorem UpB.next {key:Int→Int}{f h0 h h':Nat→Int}{N bs a:Nat}(h0':0 < bs)(U:UpB key f h0 h N bs a)(hb:a+bs≤N)(hB:Blk key f h' a (a+bs))(ho:∀ k,k < a∨a+bs≤k→h' k=h k):UpB key f h0 h' N bs (a+bs):=by
 obtain⟨⟨t,ht⟩,u1,u2,u3⟩:=U
 refine⟨⟨t+1,by rw[ht,Nat.mul_succ]⟩,hb,fun u hu=>?_,fun k hk=>by rw[ho k (.inr hk),u3 k (by omega)]⟩
 by_cases e:bs * u < a
 ·have:=z74 h0' (by rw[← ht];exact e:bs * u < bs * t)
  exact (u2 u e).congr fun k g1 g2=>ho k (by omega)
 ·have:bs * u=a:=by
   rw[ht] at e hu ⊢
   have h1:t≤u:=Nat.le_of_mul_le_mul_left (by omega) h0'
   have h2:bs * u < bs * (t+1):=by rw[Nat.mul_succ];exact hu
   have h3:u < t+1:=Nat.lt_of_mul_lt_mul_left h2
   rw[show u=t by omega]
  rw[this];exact hB
theorem UpB.all {key:Int→Int}{f h0 h h':Nat→Int}{N bs a:Nat}(h0':0 < bs)(U:UpB key f h0 h N bs a)(hb:N < a+bs)(hB:a < N→Blk key f h' a N)(ho:∀ k,k < a∨N≤k→h' k=h k)(hf:∀ k,N≤k→h0 k=f k):y39 key f h' N bs:=by
 obtain⟨⟨t,ht⟩,u1,u2,u3⟩:=U
 refine⟨fun u hu=>?_,fun k hk=>by rw[ho k (.inr hk),u3 k (by omega),hf k hk]⟩
 by_cases e:bs * u < a
 ·have:=z74 h0' (by rw[← ht];exact e:bs * u < bs * t)
  rw[ti (by omega)]
  exact (u2 u e).congr fun k g1 g2=>ho k (by omega)
 ·have:bs * u=a:=by
   rw[ht] at e hb ⊢
   have h1:t≤u:=Nat.le_of_mul_le_mul_left (by omega) h0'
   have h2:bs * u < bs * (t+1):=by rw[Nat.mul_succ];omega
   have h3:u < t+1:=Nat.lt_of_mul_lt_mul_left h2
   rw[show u=t by omega]
  rw[this] at hu ⊢
  rw[Nat.min_eq_right (by omega)]
  exact hB hu
theorem zur {f:Nat→Int}{N:Nat}(hasc:∀ i j,i < j→j < N→f i < f j){h:Nat→Int}{a b:Nat}(hb:b≤N)(hc:∀ k,a≤k→h k=f k):∀ i j,a≤i→i < j→j < b→h i ≠ h j:=fun i j h1 h2 h3=>by
 rw[hc i h1,hc j (by omega)]
 have:=hasc i j h2 (by omega)
 omega
abbrev yy9 (h:Nat→Int)(N a q:Nat)(cl:AU):SL:=[(0,0,.view 1000000 0 [] 0 N),(100,0,i64 N),(200,0,cl),(600,0,i64 20),(700,0,i64 a),(800,0,i64 q),(1000000,0,rF h N)]
abbrev yww (h:Nat→Int)(N bs:Nat)(cl:AU):SL:=[(0,0,.view 1000000 0 [] 0 N),(100,0,i64 N),(200,0,cl),(600,0,i64 bs),(1000000,0,rF h N)]
abbrev yya (h:Nat→Int)(N bs a q:Nat)(cl:AU):SL:=[(0,0,.view 1000000 0 [] 0 N),(100,0,i64 N),(200,0,cl),(600,0,i64 bs),(700,0,i64 a),(800,0,i64 q),(1000000,0,rF h N)]
abbrev stQ (f':Nat→Int)(N:Nat):Ex→SL→Prop:=fun e L=>(e=Ex.nrm∨e=Ex.ret)∧RetOk zsr.rs [.nod (rF f' N)] (.tuple []) L
theorem zig {key:Int→Int}{In:Int→Prop}{g:Nat}{cs:List AU}(hcl:zuo key In g cs)(f:Nat→Int)(N:Nat)(hN:N≤100000000)(hIn:∀ k,k < N→In (f k))(hasc:∀ i j,i < j→j < N→f i < f j)
  (f':Nat→Int) (hf':SM key f 0 N f') (h:Nat→Int) (hA:y39 key f h N 20):WL Try.prog zsr.nt zp7 (yww h N 20 (.clos g [.vptr () cs])) (stQ f' N):=by
 have hNs:z0c N:=by unfold z0c;omega
 refine WL.block (WL.loop (ι:={x:(Nat→Int) × Nat // y39 key f x.1 N x.2∧0 < x.2∧x.2≤200000020}) (fun x=>yww x.1.1 N x.1.2 (.clos g [.vptr () cs])) (fun x=>N - x.1.2) ⟨(h,20),hA,by simp,by simp⟩ (by simp) fun x=>?_)
 obtain⟨⟨h0,bs⟩,hA0,hbs,hbs2⟩:=x
 simp only at hA0 hbs hbs2 ⊢
 by_cases hlt:bs < N
 ·refine WL.seq (WL.sreg (by simp[hlt];rfl) (by simp;rfl) ?_)
  refine WL.cond (t:=true) (by simp[hlt]) (fun _=>WL.skip ?_) (by simp)
  have w2:IntKind.wrap .i64 (2 * (bs:Int))=((2 * bs:Nat):Int):=by rw[z01 (by omega) (by omega)];omega
  have w2':IntKind.wrap .i64 ((bs:Int) * 2)=((2 * bs:Nat):Int):=by rw[z01 (by omega) (by omega)];omega
  obtain⟨d,hd⟩:∃ d,d=2 * bs:=⟨_,rfl⟩
  rw[← hd] at w2 w2'
  refine WL.block (WL.sreg (by simp[w2];rfl) (by simp;rfl) ?_)
  refine WL.seq (WL.block (WL.loop (ι:={x:(Nat→Int) × Nat // UpB key f h0 x.1 N d x.2}) (fun x=>yya x.1.1 N bs x.1.2 (x.1.2+2 * bs) (.clos g [.vptr () cs])) (fun x=>N - x.1.2)
   ⟨(h0,0),⟨0,by simp⟩,rh _,fun t ht=>absurd ht (ra _),fun k _=>rfl⟩ (by simp[hd]) fun x=>?_))
  obtain⟨⟨h1,a⟩,U⟩:=x
  simp only at U ⊢
  obtain⟨⟨t,ht⟩,haN,_,hrest⟩:=id U
  have hta:bs * (2 * t)=a:=by rw[ht,hd];rw[← Nat.mul_assoc,Nat.mul_comm bs 2]
  have hta2:bs * (2 * t+1)=a+bs:=by rw[Nat.mul_succ,hta]
  have w3:IntKind.wrap .i64 ((a:Int)+(bs:Int))=((a+bs:Nat):Int):=by rw[z01 (by omega) (by omega)];omega
  obtain⟨p,hp⟩:∃ p,p=a+bs:=⟨_,rfl⟩
  rw[← hp] at w3
  obtain⟨q,hq⟩:∃ q,q=a+2 * bs:=⟨_,rfl⟩
  rw[← hq]
  have hIn1:∀ k,k < N→In (h1 k):=fun k hk=>by
   obtain⟨_,_,hbl,_⟩:=U
   by_cases hka:k < a
   ·-- in a block that is done
    have hd0:0 < d:=by omega
    have hk1:d * (k / d)≤k:=Nat.mul_div_le k d
    have hk2:k < d * (k / d)+d:=by have:=Nat.lt_mul_div_succ k hd0;rwa [Nat.mul_succ] at this
    have hk3:d * (k / d)+d≤a:=by rw[ht];exact z74 hd0 (by rw[← ht];omega)
    obtain⟨u,u1,u2,e⟩:=(hbl (k / d) (by omega)).mem hk1 hk2
    rw[e];exact hIn u (by omega)
   ·rw[hrest k (by omega)]
    have hk1:bs * (k / bs)≤k:=Nat.mul_div_le k bs
    have hk2:k < bs * (k / bs)+bs:=by have:=Nat.lt_mul_div_succ k hbs;rwa [Nat.mul_succ] at this
    obtain⟨u,u1,u2,e⟩:=(hA0.1 (k / bs) (by omega)).mem hk1 (by omega)
    rw[e];exact hIn u (by omega)
  by_cases hqN:q≤N
  ·have b1:Blk key f h1 a p:=by
    have:=hA0.1 (2 * t) (by omega)
    rw[hta,ti (by omega),← hp] at this
    exact this.congr fun k g1 _=>hrest k g1
   have b2:Blk key f h1 p q:=by
    have:=hA0.1 (2 * t+1) (by omega)
    rw[hta2,ti (by omega),← hp,show p+bs=q by omega] at this
    exact this.congr fun k g1 _=>hrest k (by omega)
   have T:=b1.two b2 (fun i j _ g2 g3=>hasc i j g2 (by omega))
   obtain⟨h2,hS⟩:=T.ex (by omega)
   have hc:=zpn hcl N hNs (q - a+1) h1 a p q (by omega) (by omega) (by omega) hqN hIn1 T h2 hS
   refine WL.seq (WL.sreg (by simp[hqN];rfl) (by simp;rfl) ?_)
   refine WL.cond (t:=true) (by simp[hqN]) (fun _=>WL.skip ?_) (by simp)
   refine WL.block (w7 (RL.o (by simp[w3];rfl) (wn false [(1000000,[])] hc (by simp) (by simp) (by simp[z36]) (by simp) (by simp) (RL.nil ⟨_,by simp;rfl,?_⟩))))
   have w4:IntKind.wrap .i64 ((q:Int)+(d:Int))=((q+d:Nat):Int):=by rw[z01 (by omega) (by omega)];omega
   refine WL.sreg (by simp;rfl) (by simp;rfl) ?_
   refine WL.reg (RL.run (by simp[w2,w4];rfl) ⟨_,by simp;rfl,?_⟩)
   refine⟨⟨(h2,q),?_⟩,by simp[hd],by simp only;omega⟩
   have:=U.next (h':=h2) (by omega) (by omega) (by rw[show a+d=q by omega];exact b1.merge b2 (by omega) (by omega) hS) (fun k hk=>hS.out k (by omega))
   rwa [show a+d=q by omega] at this
  ·refine WL.seq (WL.sreg (by simp[hqN];rfl) (by simp;rfl) ?_)
   refine WL.cond (t:=false) (by simp[hqN]) (by simp) fun _=>WL.exit ?_
   refine WL.seq (WL.sreg (by simp[w3];rfl) (by simp;rfl) ?_)
   by_cases hpN:p < N
   ·have b1:Blk key f h1 a p:=by
     have:=hA0.1 (2 * t) (by omega)
     rw[hta,ti (by omega),← hp] at this
     exact this.congr fun k g1 _=>hrest k g1
    have b2:Blk key f h1 p N:=by
     have:=hA0.1 (2 * t+1) (by omega)
     rw[hta2,Nat.min_eq_right (by omega),← hp] at this
     exact this.congr fun k g1 _=>hrest k (by omega)
    have T:=b1.two b2 (fun i j _ g2 g3=>hasc i j g2 (by omega))
    obtain⟨h2,hS⟩:=T.ex (by omega)
    have hc:=zpn hcl N hNs (N - a+1) h1 a p N (by omega) (by omega) hpN (pr _) hIn1 T h2 hS
    have hAll:y39 key f h2 N d:=U.all (by omega) (by omega) (fun _=>b1.merge b2 (by omega) (by omega) hS) (fun k hk=>hS.out k hk) hA0.2
    refine WL.sreg (by simp[hpN];rfl) (by simp;rfl) ?_
    refine WL.cond (t:=true) (by simp[hpN]) (fun _=>?_) (by simp)
    refine WL.reg (RL.o (by simp;rfl) (wn false [(1000000,[])] hc (by simp) (by simp) (by simp[z36]) (by simp) (by simp) (RL.nil ⟨_,by simp;rfl,?_⟩)))
    refine WL.reg (RL.run (by simp[w2'];rfl) ⟨_,by simp;rfl,?_⟩)
    exact⟨⟨(h2,d),hAll,by simp only;omega,by simp only;omega⟩,by simp,by simp only;omega⟩
   ·have hAll:y39 key f h1 N d:=U.all (by omega) (by omega) (fun haN'=>by
     have:=hA0.1 (2 * t) (by omega)
     rw[hta,Nat.min_eq_right (by omega)] at this
     exact this.congr fun k g1 _=>hrest k g1) (fun k _=>rfl) hA0.2
    refine WL.sreg (by simp[hpN];rfl) (by simp;rfl) ?_
    refine WL.cond (t:=false) (by simp[hpN]) (by simp) fun _=>WL.skip ?_
    refine WL.reg (RL.run (by simp[w2'];rfl) ⟨_,by simp;rfl,?_⟩)
    exact⟨⟨(h1,d),hAll,by simp only;omega,by simp only;omega⟩,by simp,by simp only;omega⟩
 ·refine WL.seq (WL.sreg (by simp[hlt];rfl) (by simp;rfl) ?_)
  refine WL.cond (t:=false) (by simp[hlt]) (by simp) fun _=>WL.exit ?_
  have hS:SM key f 0 N h0:=by
   rcases Nat.eq_zero_or_pos N with e | e
   ·subst e
    exact⟨fun k hk=>hA0.2 k (by omega),by simp[seg],fun i j _ _ hj=>by omega⟩
   ·have:=hA0.1 0 (by simpa using e)
    rw[Nat.mul_zero,Nat.min_eq_right (by omega)] at this
    exact this.toSM hA0.2
  obtain rfl:=z2r hS hf'
  refine⟨.inl rfl,?_⟩
  simp[zsr]
theorem zpo {key:Int→Int}{In:Int→Prop}{g:Nat}{cs:List AU}(hcl:zuo key In g cs)(f:Nat→Int)(N:Nat)(hN:N≤100000000)(hIn:∀ k,k < N→In (f k))(hasc:∀ i j,i < j→j < N→f i < f j)
  (f':Nat→Int) (hf':SM key f 0 N f'):FnC Try.prog 138 [.nod (rF f N)] [.view 1000000 0 [] 0 N,i64 N,.clos g [.vptr () cs]] [.nod (rF f' N)] (.tuple []):=by
 have hNs:z0c N:=by unfold z0c;omega
 refine wc yu2 rfl ?_
 refine WL.sreg (by simp;rfl) (by simp;rfl) ?_
 refine WL.sreg (by simp;rfl) (by simp;rfl) ?_
 refine WL.seq (WL.block (WL.loop (ι:={x:(Nat→Int) × Nat // UpB key f f x.1 N 20 x.2}) (fun x=>yy9 x.1.1 N x.1.2 (x.1.2+20) (.clos g [.vptr () cs])) (fun x=>N - x.1.2)
  ⟨(f,0),⟨0,by simp⟩,rh _,fun t ht=>absurd ht (ra _),fun k _=>rfl⟩ (by simp) fun x=>?_))
 obtain⟨⟨h,a⟩,U⟩:=x
 simp only at U ⊢
 obtain⟨⟨t,ht⟩,haN,hbl,hrest⟩:=id U
 have hIn1:∀ k,k < N→In (h k):=fun k hk=>by
  by_cases hka:k < a
  ·have hk1:20 * (k / 20)≤k:=Nat.mul_div_le k 20
   have hk2:k < 20 * (k / 20)+20:=by omega
   have hk3:20 * (k / 20)+20≤a:=by omega
   obtain⟨u,u1,u2,e⟩:=(hbl (k / 20) (by omega)).mem hk1 hk2
   rw[e];exact hIn u (by omega)
  ·rw[hrest k (by omega)];exact hIn k hk
 obtain⟨q,hq⟩:∃ q,q=a+20:=⟨_,rfl⟩
 rw[← hq]
 by_cases hqN:q≤N
 ·obtain⟨h2,hS⟩:=zbm key h (by omega:a≤q) (zur hasc hqN hrest)
  have hc:=zuq hcl h N a q hNs (by omega) hqN hIn1 (fun i j g1 g2 g3=>by rw[hrest i g1,hrest j (by omega)];exact hasc i j g2 (by omega)) h2 hS
  refine WL.seq (WL.sreg (by simp[hqN];rfl) (by simp;rfl) ?_)
  refine WL.cond (t:=true) (by simp[hqN]) (fun _=>WL.skip ?_) (by simp)
  refine WL.block (w7 (RL.o (by simp;rfl) (wn false [(1000000,[])] hc (by simp) (by simp) (by simp[z36]) (by simp) (by simp) (RL.nil ⟨_,by simp;rfl,?_⟩))))
  have w4:IntKind.wrap .i64 ((q:Int)+20)=((q+20:Nat):Int):=by rw[z01 (by omega) (by omega)];omega
  refine WL.sreg (by simp;rfl) (by simp;rfl) ?_
  refine WL.reg (RL.run (by simp[w4];rfl) ⟨_,by simp;rfl,?_⟩)
  refine⟨⟨(h2,q),?_⟩,by simp,by simp only;omega⟩
  have:=U.next (h':=h2) (by decide) (by omega) (by rw[← hq];exact nl (fun k g1 _=>hrest k g1) hS) (fun k hk=>hS.out k (by omega))
  rwa [← hq] at this
 ·refine WL.seq (WL.sreg (by simp[hqN];rfl) (by simp;rfl) ?_)
  refine WL.cond (t:=false) (by simp[hqN]) (by simp) fun _=>WL.exit ?_
  obtain⟨h2,hS⟩:=zbm key h haN (zur hasc (pr N) hrest)
  have hc:=zuq hcl h N a N hNs haN (pr _) hIn1 (fun i j g1 g2 g3=>by rw[hrest i g1,hrest j (by omega)];exact hasc i j g2 g3) h2 hS
  have hAll:y39 key f h2 N 20:=U.all (by decide) (by omega) (fun _=>nl (fun k g1 _=>hrest k g1) hS) (fun k hk=>hS.out k hk) (fun k _=>rfl)
  refine w7 (RL.o (by simp;rfl) (wn false [(1000000,[])] hc (by simp) (by simp) (by simp[z36]) (by simp) (by simp) (RL.nil ⟨_,by simp;rfl,?_⟩)))
  exact zig hcl f N hN hIn hasc f' hf' h2 hAll
def z6m (s:St)(c h:Int):Int:=if c < 0∨(s.Handles.length:Int)≤c∨h < 0∨((s.Handles.getD c.toNat []).length:Int)≤h then -1 else (s.Handles.getD c.toNat []).getD h.toNat 0
theorem y08 (s:St)(c h:Int):FnC Try.prog 124 [] [ymr false s,i64 c,i64 h] [] (i64 (z6m s c h)):=by
 refine wc yrh rfl ?_
 refine WL.sreg (by simp;rfl) (by simp;rfl) ?_
 refine WL.seq ?_
 by_cases h1:c < 0
 ·refine WL.sreg (by simp[h1];rfl) (by simp;rfl) ?_
  refine WL.cond (t:=true) (by simp) (fun _=>WL.sreg (by simp;rfl) (by simp;rfl) (WL.ret ⟨.inr rfl,?_⟩)) (by simp)
  simp[zlm,z6m,h1]
 obtain⟨c,rfl⟩:=pt (a:=c) (by omega)
 by_cases h2:(s.Handles.length:Int)≤c
 ·have h2':s.Handles.length≤c:=by omega
  refine WL.sreg (by simp[h1,h2'];rfl) (by simp;rfl) ?_
  refine WL.cond (t:=true) (by simp) (fun _=>WL.sreg (by simp;rfl) (by simp;rfl) (WL.ret ⟨.inr rfl,?_⟩)) (by simp)
  simp[zlm,z6m,h2']
 have hc:c < s.Handles.length:=by omega
 have hc':¬ s.Handles.length≤c:=by omega
 by_cases h3:h < 0
 ·refine WL.sreg (by simp[h1,hc',hc,h3];rfl) (by simp;rfl) ?_
  refine WL.cond (t:=true) (by simp) (fun _=>WL.sreg (by simp;rfl) (by simp;rfl) (WL.ret ⟨.inr rfl,?_⟩)) (by simp)
  simp[zlm,z6m,h3]
 obtain⟨k,rfl⟩:=pt (a:=h) (by omega)
 by_cases h4:s.Handles[c].length≤k
 ·refine WL.sreg (by simp[h1,h3,hc',hc,h4];rfl) (by simp;rfl) ?_
  refine WL.cond (t:=true) (by simp) (fun _=>WL.sreg (by simp;rfl) (by simp;rfl) (WL.ret ⟨.inr rfl,?_⟩)) (by simp)
  simp[zlm,z6m,hc,h4]
 ·have hk:k < s.Handles[c].length:=by omega
  refine WL.sreg (by simp[h1,h3,hc',hc,h4];rfl) (by simp;rfl) ?_
  refine WL.cond (t:=false) (by simp) (by simp) (fun _=>WL.skip ?_)
  refine WL.sreg (by simp[hc,hk];rfl) (by simp;rfl) (WL.ret ⟨.inr rfl,?_⟩)
  simp[zlm,z6m,hc,hc',h4,hk,h1,h3]
theorem z2i (l:List UInt8):(z3f l).size=l.length:=by simp[z3f,ByteArray.size]
theorem y09 {l:List Cl}{i:Nat}(h:i < l.length):(l.flatMap (z0g false)).drop (i * 7)=z0g false l[i] ++ (l.drop (i+1)).flatMap (z0g false):=by
 induction l generalizing i with
 | nil=>simp at h
 | cons a l ih =>
  cases i with
  | zero=>simp [qw]
  | succ i =>
   rw[qw,List.drop_append,rx (by simp;omega)]
   have:(i+1) * 7 - (z0g false a).length=i * 7:=by simp;omega
   rw[this,ih (by simpa using h)]
   simp
theorem zd5 (l:List Cl):(l.flatMap (z0g false)).length=l.length * 7:=by
 induction l with
 | nil=>rfl
 | cons a l ih=>rw [qw,qr,ih];simp;omega
def es (l:List Cl):Nat→St
 | 0=>z1c 5 3
 | i+1=>match l[i]? with
  | some c=>(DoB (es l i) (z7x c 5 3).Client (z7x c 5 3).op).2.1
  | none=>es l i
abbrev sCl (l:List Cl):AU:=.sl false () 7 l.length (l.flatMap (z0g false))
def zih (l:List Int):Int:=ixF (fun p=>decide (p < 0)) l 0
theorem zpp (s:St)(T B:AU)(hT:T=sB false s.There)(hB:B=sS false s.Body)(c:Nat)(hc:c < s.Handles.length)(hs:z0c s.Handles[c].length)(page:Int)(k:Nat)(hk:k < s.Handles[c].length)(hfree:zih s.Handles[c]=(k:Int)) :
  FnC Try.prog 126 [.nod (sII true s.Handles)] [.agg [T,B,.view 1000000 0 [] 0 s.Handles.length],i64 c,i64 page] [.nod (sII true (s.Handles.set c (s.Handles[c].set k page)))] (i64 k):=by
 subst hT hB
 have hc1:c+1≤s.Handles.length:=hc
 refine wc yrj rfl ?_
 refine w7 (ng (by simp;rfl) (by simp) (by simp[zhc]) (by simp) (RL.o (by simp;rfl) (RL.nil ⟨_,by simp;rfl,?_⟩)))
 refine WL.seq (WL.sreg (by simp;rfl) (by simp;rfl) ?_)
 refine WL.block (we s.Handles[c].length (fun i=>[(100,0,i64 c),(200,0,i64 page),(300,0,.bptr 3 1 0),(301,0,sB false s.There),(302,0,sS false s.Body),(303,0,.view 1000000 0 [] 0 s.Handles.length),(399,1,.non),(700,0,i64 i),(1000000,0,sII true s.Handles)]) (fun i=>ixF (fun p=>decide (p < 0)) (s.Handles[c].drop i) i=(k:Int)) rfl (by simpa [zih] using hfree) fun i hi hp=>?_)
 by_cases h:i < s.Handles[c].length
 ·have hi1:i+1≤s.Handles[c].length:=h
  rw[z6h _ _ _ h] at hp
  refine WL.seq (WL.sreg (by simp[hc,h,hc1,hi1];rfl) (by simp;rfl) ?_)
  refine WL.cond (t:=true) (by simp) (fun _=>WL.skip ?_) (by simp)
  refine WL.seq (WL.block (WL.sreg (by simp[hc,h,hc1,hi1];rfl) (by simp;rfl) ?_))
  by_cases hf:s.Handles[c][i] < 0
  ·refine WL.cond (t:=true) (by simp[hf]) (fun _=>?_) (by simp)
   rw[if_pos (by simpa using hf)] at hp
   obtain rfl:i=k:=by omega
   refine WL.sreg (by simp[hc,h,hc1,hi1];rfl) (by simp;rfl) ?_
   refine WL.sreg (by simp;rfl) (by simp;rfl) ?_
   refine WL.ret ⟨.inr rfl,?_⟩
   simp[ycm,sq,sI]
  ·refine WL.cond (t:=false) (by simp;omega) (by simp) fun _=>WL.skip ?_
   rw[if_neg (by simpa using hf)] at hp
   refine WL.reg (RL.run (by simp[z0p hs h];rfl) ⟨_,by simp;rfl,h,?_,hp⟩)
   simp
 ·rw[zbe _ _ _ h] at hp
  omega
abbrev gsT (s:St):List (Gh Unit):=[.nod (sB true s.There),.nod (sS true s.Body),.nod (sII true s.Handles)]
abbrev vwT (s:St):AU:=.agg [.view 1000000 0 [] 0 s.There.length,.view 1000100 0 [] 0 s.Body.length,.view 1000200 0 [] 0 s.Handles.length]
abbrev ghT (s:St):SL:=[(1000000,0,sB true s.There),(1000100,0,sS true s.Body),(1000200,0,sII true s.Handles)]
abbrev rb1 (cl:Int):SL:=[(100,0,i64 cl)]
abbrev rb3 (s:St):SL:=[(300,0,.bptr 3 1 0),(301,0,.view 1000000 0 [] 0 s.There.length),(302,0,.view 1000100 0 [] 0 s.Body.length),(303,0,.view 1000200 0 [] 0 s.Handles.length),(399,1,.non)]
abbrev rb5 (q:Op):SL:=[(500,0,.bptr 5 1 0),(501,0,i64 q.Kind),(502,0,i64 q.Page),(503,0,i64 q.Handle),(504,0,i64 q.Off),(505,0,i64 q.N),(506,0,sU false q.Data),(599,1,.non)]
abbrev rb6:SL:=[(600,0,.bptr 6 1 0),(601,0,i64 0),(602,0,i64 0),(603,0,i64 0),(604,0,.sl true () 1 0 []),(699,1,.non)]
abbrev rbQ (s':St)(r:Rs):Ex→SL→Prop:=fun e L=>e=Ex.ret∧RetOk z41.rs (gsT s') (zby true r) L
theorem WL.up {P:Program}{nt:Nat}{cc:Cd}{L:SL}{R:SL→Prop}{Q:Ex→SL→Prop}(h:WL P nt cc L fun e L=>e=Ex.ret∧R L)(hq:∀ L,R L→Q .ret L):WL P nt cc L Q :=
 h.mono fun e L ⟨h1,h2⟩=>by subst h1;exact hq L h2
abbrev rbA (s:St)(cl:Int)(q:Op):SL:=rb1 cl ++ (rb3 s ++ (rb5 q ++ rb6))
theorem zsx (s:St)(cl:Int)(q:Op)(s':St)(r:Rs)
  (h1:(cl < 0∨(s.Handles.length:Int)≤cl∨q.Kind < 1∨8 < q.Kind)→WL Try.prog z41.nt zxt (rbA s cl q ++ ((2600,0,bl true) :: ghT s)) (rbQ s' r))
  (h2:¬ (cl < 0∨(s.Handles.length:Int)≤cl∨q.Kind < 1∨8 < q.Kind)→WL Try.prog z41.nt zbh (rbA s cl q ++ ((2600,0,bl false) :: ghT s)) (rbQ s' r)) :
  FnC Try.prog 77 (gsT s) [vwT s,i64 cl,zsg false q] (gsT s') (zby true r):=by
 refine wc yxr rfl ?_
 refine w7 (ng (by simp;rfl) (by simp) (by simp[zhc]) (by simp) ?_)
 refine RL.o (by simp;rfl) (RL.nil ⟨_,by simp;rfl,?_⟩)
 refine WL.seq ?_
 by_cases k1:cl < 0
 ·refine WL.sreg (by simp[k1];rfl) (by simp;rfl) ?_
  exact WL.cond (t:=true) (by simp) (fun _=>(h1 (.inl k1)).up fun _ h=>⟨.inr rfl,h⟩) (by simp)
 by_cases k2:(s.Handles.length:Int)≤cl
 ·refine WL.sreg (by simp[k1,k2];rfl) (by simp;rfl) ?_
  exact WL.cond (t:=true) (by simp) (fun _=>(h1 (.inr (.inl k2))).up fun _ h=>⟨.inr rfl,h⟩) (by simp)
 by_cases k3:q.Kind < 1
 ·refine WL.sreg (by simp[k1,k2,k3];rfl) (by simp;rfl) ?_
  exact WL.cond (t:=true) (by simp) (fun _=>(h1 (.inr (.inr (.inl k3)))).up fun _ h=>⟨.inr rfl,h⟩) (by simp)
 by_cases k4:8 < q.Kind
 ·refine WL.sreg (by simp[k1,k2,k3,k4];rfl) (by simp;rfl) ?_
  exact WL.cond (t:=true) (by simp) (fun _=>(h1 (.inr (.inr (.inr k4)))).up fun _ h=>⟨.inr rfl,h⟩) (by simp)
 ·refine WL.sreg (by simp[k1,k2,k3,k4];rfl) (by simp;rfl) ?_
  exact WL.cond (t:=false) (by simp) (by simp) (fun _=>WL.skip ((h2 (by omega)).up fun _ h=>⟨.inr rfl,h⟩))
abbrev rbP (s:St)(cl:Int)(q:Op)(p:Int)(t:SL):SL:=rb1 cl ++ (rb3 s ++ (rb5 q ++ (rb6 ++ ((700,0,i64 p) :: (t ++ ghT s)))))
theorem y0a (s:St)(cl:Int)(q:Op):WL Try.prog z41.nt zxt (rbA s cl q ++ ((2600,0,bl true) :: ghT s)) (rbQ s (rsE 1)):=by
 refine w7 (RL.call0 false (z2o 1) (by simp) (by simp) (RL.o (by simp;rfl) (RL.nil ⟨_,by simp;rfl,?_⟩)))
 refine WL.ret ⟨rfl,?_⟩
 simp[z41,rsE]
theorem y0b (s:St)(cl:Int)(q:Op)(s':St)(r:Rs)(hk:q.Kind=2∨q.Kind=6∨q.Kind=8)(hsm:z0c s.There.length)
  (e1:z39 s q.Page=false→s'=s∧r=rsE 1)
  (e2:z39 s q.Page=true→z2n s q.Page=false→s'=s∧r=rsE 2)
  (k:z2n s q.Page=true→WL Try.prog z41.nt zd2 (rbP s cl q q.Page [(5800,0,bl false)]) (rbQ s' r)) :
  WL Try.prog z41.nt zbh (rbA s cl q ++ ((2600,0,bl false) :: ghT s)) (rbQ s' r):=by
 refine WL.sreg (by simp;rfl) (by simp;rfl) ?_
 refine WL.seq ?_
 suffices h:WL Try.prog z41.nt yac (rbP s cl q q.Page [(4200,0,bl true)]) (wg (fun L'=>WL Try.prog z41.nt zd2 L' (rbQ s' r)) (rbQ s' r)) by
  clear e1 e2 k
  obtain⟨K,Pg,Hd,Of,Nn,Dt⟩:=q
  rcases hk with hk | hk | hk<;>(simp only at hk;subst hk;exact WL.sreg (by simp<;>rfl) (by simp<;>rfl) h)
 refine WL.cond (t:=true) (by simp) (fun _=>?_) (by simp)
 refine WL.seq ?_
 by_cases h1:q.Page < 0
 ·obtain⟨a,b⟩:=e1 (by simp[z39];omega)
  subst a b
  refine WL.sreg (by simp[h1];rfl) (by simp;rfl) ?_
  refine WL.cond (t:=true) (by simp) (fun _=>?_) (by simp)
  refine w7 (RL.call0 false (z2o 1) (by simp) (by simp) (RL.o (by simp;rfl) (RL.nil ⟨_,by simp;rfl,?_⟩)))
  refine WL.ret ⟨rfl,?_⟩
  simp[z41,rsE]
 obtain⟨p,hp⟩:=pt (a:=q.Page) (by omega)
 by_cases h2:s.There.length≤p
 ·obtain⟨a,b⟩:=e1 (by simp[z39,hp];omega)
  subst a b
  refine WL.sreg (by simp[hp,h2];rfl) (by simp;rfl) ?_
  refine WL.cond (t:=true) (by simp[h2]) (fun _=>?_) (by simp)
  refine w7 (RL.call0 false (z2o 1) (by simp) (by simp) (RL.o (by simp;rfl) (RL.nil ⟨_,by simp;rfl,?_⟩)))
  refine WL.ret ⟨rfl,?_⟩
  simp[z41,rsE]
 have h2':p < s.There.length:=by omega
 refine WL.sreg (by simp[hp,h2,h2'];rfl) (by simp;rfl) ?_
 refine WL.cond (t:=false) (by simp[h2,h2']) (by simp) (fun _=>WL.skip ?_)
 refine WL.sreg (by simp[h2',qs h2'];rfl) (by simp;rfl) ?_
 have hth:z2n s q.Page=s.There[p]:=by simp[z2n,z39,hp,h2']
 cases h3:s.There[p] with
 | false =>
  obtain⟨a,b⟩:=e2 (by simp[z39,hp];omega) (by rw[hth,h3])
  subst a b
  refine WL.cond (t:=true) (by simp[h3]) (fun _=>?_) (by simp)
  refine w7 (RL.call0 false (z2o 2) (by simp) (by simp) (RL.o (by simp;rfl) (RL.nil ⟨_,by simp;rfl,?_⟩)))
  refine WL.ret ⟨rfl,?_⟩
  simp[z41,rsE]
 | true =>
  refine WL.cond (t:=false) (by simp[h3]) (by simp) (fun _=>WL.skip ?_)
  have:=k (by rw[hth,h3])
  simp only[rbP,rb5,hp] at this
  exact this
theorem y0c (s:St)(cl:Int)(q:Op)(s':St)(r:Rs)(hk:q.Kind=3∨q.Kind=4∨q.Kind=5)
  (e5:z6m s cl q.Handle < 0→s'=s∧r=rsE 5)
  (k:0≤z6m s cl q.Handle→WL Try.prog z41.nt zd1 (rbP s cl q (z6m s cl q.Handle) [(7900,0,bl false)]) (rbQ s' r)) :
  WL Try.prog z41.nt zbh (rbA s cl q ++ ((2600,0,bl false) :: ghT s)) (rbQ s' r):=by
 refine WL.sreg (by simp;rfl) (by simp;rfl) ?_
 refine WL.seq ?_
 suffices h:WL Try.prog z41.nt zuf (rbP s cl q q.Page [(7200,0,bl true)]) (wg (fun L'=>WL Try.prog z41.nt zd1 L' (rbQ s' r)) (rbQ s' r)) by
  clear e5 k
  obtain⟨K,Pg,Hd,Of,Nn,Dt⟩:=q
  rcases hk with hk | hk | hk<;>(simp only at hk;subst hk;exact WL.sreg (by simp<;>rfl) (by simp<;>rfl) (WL.cond (t:=false) (by simp) (by simp) fun _=>WL.skip (WL.seq (WL.sreg (by simp<;>rfl) (by simp<;>rfl) h))))
 refine WL.cond (t:=true) (by simp) (fun _=>?_) (by simp)
 refine w7 (RL.o (by simp;rfl) (RL.call0 true (y08 s cl q.Handle) (by simp) (by simp) (RL.o (by simp;rfl) (RL.nil ⟨_,by simp;rfl,?_⟩))))
 refine WL.sreg (by simp;rfl) (by simp;rfl) ?_
 by_cases h1:z6m s cl q.Handle < 0
 ·obtain⟨a,b⟩:=e5 h1
  subst a b
  refine WL.cond (t:=true) (by simp[h1]) (fun _=>?_) (by simp)
  refine w7 (RL.call0 false (z2o 5) (by simp) (by simp) (RL.o (by simp;rfl) (RL.nil ⟨_,by simp;rfl,?_⟩)))
  refine WL.ret ⟨rfl,?_⟩
  simp[z41,rsE]
 ·refine WL.cond (t:=false) (by simp;omega) (by simp) (fun _=>WL.skip ?_)
  have d:decide (z6m s cl q.Handle < 0)=false:=by simpa using Int.not_lt.1 h1
  rw[d]
  exact k (by omega)
theorem ymu:∀ l:List Int,z1v (l.map i64)=true
 | []=>rfl
 | _ :: l=>ymu l
theorem ywx:∀ l:List Bool,z1v (l.map bl)=true
 | []=>rfl
 | _ :: l=>ywx l
theorem ywy:∀ l:List (List UInt8),z1v (l.map str)=true
 | []=>rfl
 | _ :: l=>ywy l
theorem y0d:∀ l:List (List Int),z1v (l.map (sI true))=true
 | []=>rfl
 | a :: l=>by
  show (z17 (sI true a:AU) && z1v (l.map (sI true)))=true
  rw[y0d l,Bool.and_true]
  simp only[z17,ymu,tj]
theorem zgn (H H':List (List Int))(hl:H'.length=H.length)(k:Int):z1d true [.nod (sII true H)] [.nod (sII true H')] (i64 k)=true:=by
 have:z17 (sII true H':AU)=true:=by simp only[z17,y0d,tj]
 simp only[z1d,List.all_cons,List.all_nil,z5o,this]
 simp[hl]
abbrev rsO:Rs:=⟨0,0,0,[]⟩
theorem zsy (s:St)(cl:Int)(P Hd Of Nn:Int)(D:List UInt8):WL Try.prog z41.nt zd2 (rbP s cl ⟨6,P,Hd,Of,Nn,D⟩ P [(5800,0,bl false)]) (rbQ s rsO):=by
 refine WL.seq (WL.sreg (by simp<;>rfl) (by simp<;>rfl) ?_)
 refine WL.cond (t:=false) (by simp) (by simp) (fun _=>WL.skip ?_)
 refine WL.seq (WL.sreg (by simp<;>rfl) (by simp<;>rfl) ?_)
 refine WL.block (WL.sreg (by simp<;>rfl) (by simp<;>rfl) ?_)
 refine WL.cond (t:=false) (by simp) (by simp) (fun _=>WL.sreg (by simp<;>rfl) (by simp<;>rfl) ?_)
 refine WL.cond (t:=false) (by simp) (by simp) (fun _=>WL.sreg (by simp<;>rfl) (by simp<;>rfl) ?_)
 refine WL.cond (t:=false) (by simp) (by simp) (fun _=>WL.sreg (by simp<;>rfl) (by simp<;>rfl) ?_)
 refine WL.cond (t:=false) (by simp) (by simp) (fun _=>WL.sreg (by simp<;>rfl) (by simp<;>rfl) ?_)
 refine WL.cond (t:=false) (by simp) (by simp) (fun _=>WL.sreg (by simp<;>rfl) (by simp<;>rfl) ?_)
 refine WL.cond (t:=false) (by simp) (by simp) (fun _=>WL.skip ?_)
 refine WL.sreg (by simp<;>rfl) (by simp<;>rfl) (WL.nil1 604 true 1 (by simp) (WL.ret ⟨rfl,?_⟩))
 simp[z41]
theorem zsz (s:St)(c:Nat)(hc:c < s.Handles.length)(hs:z0c s.Handles[c].length)(P Hd Of Nn:Int)(D:List UInt8)(s':St)(r:Rs)
  (e4:z8r s.Handles[c]=false→s'=s∧r=rsE 4) (k:Nat) (ek:z8r s.Handles[c]=true→k < s.Handles[c].length∧zih s.Handles[c]=(k:Int)∧s'=⟨s.There,s.Body,s.Handles.set c (s.Handles[c].set k P)⟩∧r=⟨0,P,k,[]⟩) :
  WL Try.prog z41.nt zd2 (rbP s c ⟨2,P,Hd,Of,Nn,D⟩ P [(5800,0,bl false)]) (rbQ s' r):=by
 refine WL.seq (WL.sreg (by simp<;>rfl) (by simp<;>rfl) ?_)
 refine WL.cond (t:=false) (by simp) (by simp) (fun _=>WL.skip ?_)
 refine WL.seq (WL.sreg (by simp<;>rfl) (by simp<;>rfl) ?_)
 refine WL.block (WL.sreg (by simp<;>rfl) (by simp<;>rfl) ?_)
 refine WL.cond (t:=false) (by simp) (by simp) (fun _=>WL.sreg (by simp<;>rfl) (by simp<;>rfl) ?_)
 refine WL.cond (t:=true) (by simp) (fun _=>?_) (by simp)
 refine WL.seq (w7 (RL.o (by simp;rfl) (RL.call0 true (zp0 s c hc hs) (by simp) (by simp) (RL.o (by simp;rfl) (RL.nil ⟨_,by simp;rfl,?_⟩)))))
 cases h:z8r s.Handles[c] with
 | false =>
  obtain⟨a,b⟩:=e4 h
  subst a b
  refine WL.cond (t:=true) (by simp) (fun _=>?_) (by simp)
  refine w7 (RL.call0 false (z2o 4) (by simp) (by simp) (RL.o (by simp;rfl) (RL.nil ⟨_,by simp;rfl,?_⟩)))
  refine WL.ret ⟨rfl,?_⟩
  simp[z41,rsE]
 | true =>
  obtain⟨hk,hf,a,b⟩:=ek h
  subst a b
  refine WL.cond (t:=false) (by simp) (by simp) (fun _=>WL.skip ?_)
  refine w7 (RL.o (by simp;rfl) (RL.call true [(1000200,[])] (zpp s _ _ rfl rfl c hc hs P k hk hf) (by simp) (by simp) (by simp[z36]) (zgn _ _ (by simp) _) (RL.o (by simp;rfl) (RL.nil ⟨_,by simp;rfl,?_⟩))))
  refine WL.nil1 604 true 1 (by simp) (WL.ret ⟨rfl,?_⟩)
  simp[z41]
theorem zgo (w:List UInt8)(lo hi:Nat):(z3f w).extract lo hi=z3f ((w.drop lo).take (hi - lo)):=by
 apply ByteArray.ext
 rw[ByteArray.data_extract]
 simp[z3f]
theorem zbo (a b:List UInt8):z3f a ++ z3f b=z3f (a ++ b):=by
 apply ByteArray.ext
 simp[z3f]
theorem zii (w:List UInt8):(y2f (z3f w):List AU)=w.map fun b=>u8 (b.toNat:Int):=by
 simp[y2f,z4u]
theorem zij (s:St)(cl:Int)(P Hd Of Nn:Int)(D:List UInt8):WL Try.prog z41.nt zbh (rbA s cl ⟨7,P,Hd,Of,Nn,D⟩ ++ ((2600,0,bl false) :: ghT s)) (rbQ s rsO):=by
 refine WL.sreg (by simp<;>rfl) (by simp<;>rfl) ?_
 refine WL.seq (WL.sreg (by simp<;>rfl) (by simp<;>rfl) ?_)
 refine WL.cond (t:=false) (by simp) (by simp) (fun _=>WL.skip ?_)
 refine WL.seq (WL.sreg (by simp<;>rfl) (by simp<;>rfl) ?_)
 refine WL.cond (t:=false) (by simp) (by simp) (fun _=>WL.skip ?_)
 refine WL.seq (WL.sreg (by simp<;>rfl) (by simp<;>rfl) ?_)
 refine WL.block (WL.sreg (by simp<;>rfl) (by simp<;>rfl) ?_)
 refine WL.cond (t:=false) (by simp) (by simp) (fun _=>WL.sreg (by simp<;>rfl) (by simp<;>rfl) ?_)
 refine WL.cond (t:=false) (by simp) (by simp) (fun _=>WL.sreg (by simp<;>rfl) (by simp<;>rfl) ?_)
 refine WL.cond (t:=false) (by simp) (by simp) (fun _=>WL.sreg (by simp<;>rfl) (by simp<;>rfl) ?_)
 refine WL.cond (t:=false) (by simp) (by simp) (fun _=>WL.sreg (by simp<;>rfl) (by simp<;>rfl) ?_)
 refine WL.cond (t:=false) (by simp) (by simp) (fun _=>WL.sreg (by simp<;>rfl) (by simp<;>rfl) ?_)
 refine WL.cond (t:=false) (by simp) (by simp) (fun _=>WL.skip ?_)
 refine WL.sreg (by simp<;>rfl) (by simp<;>rfl) (WL.nil1 604 true 1 (by simp) (WL.ret ⟨rfl,?_⟩))
 simp[z41]
theorem zt0 (s:St)(c:Nat)(hc:c < s.Handles.length)(k:Nat)(hk:k < s.Handles[c].length)(P p Of Nn:Int)(D:List UInt8) :
  WL Try.prog z41.nt zd1 (rbP s c ⟨5,P,k,Of,Nn,D⟩ p [(7900,0,bl false)]) (rbQ ⟨s.There,s.Body,s.Handles.set c (s.Handles[c].set k (-1))⟩ rsO):=by
 refine WL.seq (WL.sreg (by simp<;>rfl) (by simp<;>rfl) ?_)
 refine WL.block (WL.sreg (by simp<;>rfl) (by simp<;>rfl) ?_)
 refine WL.cond (t:=false) (by simp) (by simp) (fun _=>WL.sreg (by simp<;>rfl) (by simp<;>rfl) ?_)
 refine WL.cond (t:=false) (by simp) (by simp) (fun _=>WL.sreg (by simp<;>rfl) (by simp<;>rfl) ?_)
 refine WL.cond (t:=false) (by simp) (by simp) (fun _=>WL.sreg (by simp<;>rfl) (by simp<;>rfl) ?_)
 refine WL.cond (t:=false) (by simp) (by simp) (fun _=>WL.sreg (by simp<;>rfl) (by simp<;>rfl) ?_)
 refine WL.cond (t:=true) (by simp) (fun _=>?_) (by simp)
 refine WL.draw z0t (by simp[z0b,noH]) (DL.o (by simp[hc,hk,qs hk,qs hc];exact⟨rfl,rfl⟩) (DL.nil ⟨by kernel_rfl,_,by simp;rfl,?_⟩))
 refine WL.sreg (by simp<;>rfl) (by simp<;>rfl) (WL.nil1 604 true 1 (by simp) (WL.ret ⟨rfl,?_⟩))
 simp[z41,sq,sI]
def zgp (p:Int)(l:List Int):Nat:=if 0≤p then cnt p l else 0
def z8w (p:Int)(l:List (List Int)):Nat:=if 0≤p then z4y p l else 0
theorem zlq (s:St)(hs:Sized s)(p:Int):FnC Try.prog 127 [] [ymr false s,i64 p] [] (i64 (zlj s p)):=by
 have hP:zlj s p=(z8w p s.Handles:Nat):=by
  unfold zlj z8w
  by_cases h:p < 0
  ·rw[if_pos h,if_neg (by omega)];rfl
  ·rw[if_neg h,if_pos (by omega)]
 refine wc yrk rfl ?_
 refine WL.sreg (by simp;rfl) (by simp;rfl) ?_
 refine WL.sreg (by simp;rfl) (by simp;rfl) ?_
 refine WL.seq (WL.sreg (by simp;rfl) (by simp;rfl) ?_)
 refine WL.block (we s.Handles.length (fun i=>[(100,0,i64 p),(200,0,.bptr 2 1 0),(201,0,sB false s.There),(202,0,sS false s.Body),(203,0,sII false s.Handles),(299,1,.non),(500,0,i64 (z8w p (s.Handles.take i))),(600,0,i64 i)]) (fun _=>True) (by simp[z8w,z4y]) trivial fun i hi _=>?_)
 have hS:z0c s.Handles.length:=by have:=hs.h;unfold z0c;omega
 by_cases h:i < s.Handles.length
 ·have hi1:i+1≤s.Handles.length:=h
  have hl:s.Handles[i].length≤1000:=hs.hs _ (qb h)
  have hSl:z0c s.Handles[i].length:=by unfold z0c;omega
  have hle:z8w p (s.Handles.take i)≤1000 * 1000:=by
   have h1:=ze3 p (s.Handles.take i) (fun l hl=>hs.hs l (t6 hl))
   have h2:=hs.h
   simp only[s7] at h1
   unfold z8w
   split<;>omega
  have hadd:∀ k,zgp p (s.Handles[i].take k)≤1000:=fun k=>by
   have:=zop p (s.Handles[i].take k)
   simp only[s7] at this
   unfold zgp
   split<;>omega
  refine WL.seq (WL.sreg (by simp[h];rfl) (by simp;rfl) ?_)
  refine WL.cond (t:=true) (by simp) (fun _=>WL.skip ?_) (by simp)
  refine WL.seq (WL.block (WL.sreg (by simp;rfl) (by simp;rfl) ?_))
  refine WL.block (we s.Handles[i].length (fun k=>[(100,0,i64 p),(200,0,.bptr 2 1 0),(201,0,sB false s.There),(202,0,sS false s.Body),(203,0,sII false s.Handles),(299,1,.non),(500,0,i64 (z8w p (s.Handles.take i)+zgp p (s.Handles[i].take k):Nat)),(600,0,i64 i),(700,0,i64 k)]) (fun _=>True) (by simp[zgp,cnt]) trivial fun k hk _=>?_)
  by_cases h':k < s.Handles[i].length
  ·have hk1:k+1≤s.Handles[i].length:=h'
   have hS2:z0c 1000000000:=by unfold z0c;omega
   refine WL.seq (WL.sreg (by simp[h,hi1,h'];rfl) (by simp;rfl) ?_)
   refine WL.cond (t:=true) (by simp) (fun _=>WL.skip ?_) (by simp)
   have hcs:=zju p s.Handles[i] h'
   have hc:=hadd k
   by_cases e:s.Handles[i][k]=p
   ·by_cases e0:0≤p
    ·rw[if_pos e] at hcs
     have hcs':zgp p (s.Handles[i].take (k+1))=zgp p (s.Handles[i].take k)+1:=by simp only[zgp,if_pos e0,hcs]
     have hw:IntKind.wrap .i64 ((z8w p (s.Handles.take i):Int)+(zgp p (s.Handles[i].take k):Int)+1)=(z8w p (s.Handles.take i):Int)+(zgp p (s.Handles[i].take k):Int)+1:=by
      simpa using z0p hS2 (show z8w p (s.Handles.take i)+zgp p (s.Handles[i].take k) < 1000000000 by omega)
     refine WL.seq (WL.block (WL.sreg (by simp[h,hi1,h',hk1,e,e0];rfl) (by simp;rfl) ?_))
     refine WL.cond (t:=true) (by simp[e0]) (fun _=>?_) (by simp)
     refine WL.reg (RL.run (by simp[hw];rfl) ⟨_,by simp;rfl,?_⟩)
     refine WL.reg (RL.run (by simp[z0p hSl h'];rfl) ⟨_,by simp;rfl,h',?_,trivial⟩)
     simp[hcs']
     omega
    ·have hcs':∀ j,zgp p (s.Handles[i].take j)=0:=fun j=>by simp only[zgp,if_neg e0]
     refine WL.seq (WL.block (WL.sreg (by simp[h,hi1,h',hk1,e,e0];rfl) (by simp;rfl) ?_))
     refine WL.cond (t:=false) (by simp[e0]) (by simp) (fun _=>WL.skip ?_)
     refine WL.reg (RL.run (by simp[z0p hSl h'];rfl) ⟨_,by simp;rfl,h',?_,trivial⟩)
     simp[hcs',e0]
   ·rw[if_neg e] at hcs
    have eb:(s.Handles[i][k] == p)=false:=by simp[e]
    have hcs':zgp p (s.Handles[i].take (k+1))=zgp p (s.Handles[i].take k):=by simp only[zgp,hcs,sx]
    refine WL.seq (WL.block (WL.sreg (by simp[h,hi1,h',hk1,eb];rfl) (by simp;rfl) ?_))
    refine WL.cond (t:=false) (by simp) (by simp) (fun _=>WL.skip ?_)
    refine WL.reg (RL.run (by simp[z0p hSl h'];rfl) ⟨_,by simp;rfl,h',?_,trivial⟩)
    simp[hcs']
  ·refine WL.seq (WL.sreg (by simp[h,hi1,h'];rfl) (by simp;rfl) ?_)
   refine WL.cond (t:=false) (by simp) (by simp) fun _=>WL.exit ?_
   refine WL.reg (RL.run (by simp[z0p hS h];rfl) ⟨_,by simp;rfl,h,?_,trivial⟩)
   have hk':k=s.Handles[i].length:=by omega
   subst hk'
   have:z8w p (s.Handles.take (i+1))=z8w p (s.Handles.take i)+zgp p s.Handles[i]:=by
    unfold z8w zgp
    split
    ·rw[zcz p s.Handles h]
    ·rfl
   simp[this]
 ·refine WL.seq (WL.sreg (by simp[h];rfl) (by simp;rfl) ?_)
  refine WL.cond (t:=false) (by simp) (by simp) fun _=>WL.exit ?_
  have hi':i=s.Handles.length:=by omega
  subst hi'
  refine WL.sreg (by simp;rfl) (by simp;rfl) (WL.ret ⟨.inr rfl,?_⟩)
  simp[ycx,hP]
theorem zpq (s:St)(hs:Sized s)(cl:Int)(p:Nat)(hp:p < s.There.length)(hb:p < s.Body.length)(Hd Of Nn:Int)(D:List UInt8)(s':St)(r:Rs)
  (e7:0 < zlj s p→s'=s∧r=rsE 7) (ok:¬ 0 < zlj s p→s'=⟨s.There.set p false,s.Body.set p z16,s.Handles⟩∧r=rsO) :
  WL Try.prog z41.nt zd2 (rbP s cl ⟨8,p,Hd,Of,Nn,D⟩ p [(5800,0,bl false)]) (rbQ s' r):=by
 refine WL.seq (WL.sreg (by simp<;>rfl) (by simp<;>rfl) ?_)
 refine WL.cond (t:=false) (by simp) (by simp) (fun _=>WL.skip ?_)
 refine WL.seq (WL.sreg (by simp<;>rfl) (by simp<;>rfl) ?_)
 refine WL.block (WL.sreg (by simp<;>rfl) (by simp<;>rfl) ?_)
 refine WL.cond (t:=false) (by simp) (by simp) (fun _=>WL.sreg (by simp<;>rfl) (by simp<;>rfl) ?_)
 refine WL.cond (t:=false) (by simp) (by simp) (fun _=>WL.sreg (by simp<;>rfl) (by simp<;>rfl) ?_)
 refine WL.cond (t:=false) (by simp) (by simp) (fun _=>WL.sreg (by simp<;>rfl) (by simp<;>rfl) ?_)
 refine WL.cond (t:=false) (by simp) (by simp) (fun _=>WL.sreg (by simp<;>rfl) (by simp<;>rfl) ?_)
 refine WL.cond (t:=false) (by simp) (by simp) (fun _=>WL.sreg (by simp<;>rfl) (by simp<;>rfl) ?_)
 refine WL.cond (t:=true) (by simp) (fun _=>?_) (by simp)
 refine WL.seq (w7 (RL.o (by simp;rfl) (RL.call0 true (zlq s hs p) (by simp) (by simp) (RL.o (by simp;rfl) (RL.nil ⟨_,by simp;rfl,?_⟩)))))
 by_cases h:0 < zlj s p
 ·obtain⟨a,b⟩:=e7 h
  subst a b
  refine WL.cond (t:=true) (by simp[h]) (fun _=>?_) (by simp)
  refine w7 (RL.call0 false (z2o 7) (by simp) (by simp) (RL.o (by simp;rfl) (RL.nil ⟨_,by simp;rfl,?_⟩)))
  refine WL.ret ⟨rfl,?_⟩
  simp[z41,rsE]
 ·obtain⟨a,b⟩:=ok h
  subst a b
  refine WL.cond (t:=false) (by simp;omega) (by simp) (fun _=>WL.skip ?_)
  refine WL.draw z0t (by simp[z0b,noH]) (DL.o (by simp;exact⟨rfl,rfl⟩) (DL.call0 false ze5 (by simp) (by simp) (DL.o (by simp[hp,hb,qs hp,qs hb];exact⟨rfl,rfl⟩) (DL.nil ⟨by kernel_rfl,_,by simp;rfl,?_⟩))))
  refine WL.sreg (by simp<;>rfl) (by simp<;>rfl) (WL.nil1 604 true 1 (by simp) (WL.ret ⟨rfl,?_⟩))
  simp[z41,sq]
abbrev rbN (s:St)(cl:Int)(p:Int)(t:SL):SL:=rb1 cl ++ (rb3 s ++ (rb6 ++ ((700,0,i64 p) :: (t ++ ghT s))))
theorem zt1 (s:St)(c:Nat)(hc:c < s.Handles.length)(hs:z0c s.Handles[c].length)(i:Nat)(hi:i < s.There.length)(hb:i < s.Body.length)(k:Nat)(hk:k < s.Handles[c].length)(hf:zih s.Handles[c]=(k:Int)) :
  WL Try.prog z41.nt zjw (rbN s c i [(10800,0,bl false)]) (rbQ ⟨s.There.set i true,s.Body.set i z16,s.Handles.set c (s.Handles[c].set k i)⟩ ⟨0,i,k,[]⟩):=by
 refine WL.seq (WL.draw z0t (by simp[z0b,noH]) (DL.o (by simp;exact⟨rfl,rfl⟩) (DL.call0 false ze5 (by simp) (by simp) (DL.o (by simp[hi,hb,qs hi,qs hb];exact⟨rfl,rfl⟩) (DL.nil ⟨by kernel_rfl,_,by simp;rfl,?_⟩)))))
 obtain⟨T,hT⟩:∃ T,T=s.There.set i true:=⟨_,rfl⟩
 obtain⟨B,hB⟩:∃ B,B=s.Body.set i z16:=⟨_,rfl⟩
 have eT:(AV.sl true () 1 s.There.length ((s.There.map bl).set i (bl true)):AU)=sB true T:=by simp[hT,sq,sB]
 have eB:(AV.sl true () 1 s.Body.length ((s.Body.map str).set i (str z16)):AU)=sS true B:=by simp[hB,sq,sS]
 have lT:T.length=s.There.length:=by simp[hT]
 have lB:B.length=s.Body.length:=by simp[hB]
 have tT:(T.map bl).take s.There.length=T.map bl:=pp (by simp[lT])
 have tB:(B.map str).take s.Body.length=B.map str:=pp (by simp[lB])
 rw[eT,eB,← hT,← hB]
 clear eT eB hT hB
 have hg:=zpp ⟨T,B,s.Handles⟩ _ _ rfl rfl c hc hs i k hk hf
 refine w7 (RL.o (by simp;rfl) (RL.call true [(1000200,[])] hg (by simp) (by simp) (by simp[z36,lT,lB,tT,tB]) (zgn _ _ (by simp) _) (RL.o (by simp;rfl) (RL.nil ⟨_,by simp;rfl,?_⟩))))
 refine WL.nil1 604 true 1 (by simp) (WL.ret ⟨rfl,?_⟩)
 simp[z41,sq,lT,lB]
theorem ygj (s:St)(hT:z0c s.There.length)(hB:s.Body.length=s.There.length)(c:Nat)(hc:c < s.Handles.length)(hs:z0c s.Handles[c].length)(P Hd Of Nn:Int)(D:List UInt8)(s':St)(r:Rs)
  (e4:z8r s.Handles[c]=false→s'=s∧r=rsE 4)
  (e3:z8r s.Handles[c]=true→ixF (· == false) s.There 0=-1→s'=s∧r=rsE 3)
  (k:Nat) (ek:z8r s.Handles[c]=true→k < s.Handles[c].length∧zih s.Handles[c]=(k:Int))
  (ok:z8r s.Handles[c]=true→∀ i:Nat,i < s.There.length→ixF (· == false) s.There 0=(i:Int)→s'=⟨s.There.set i true,s.Body.set i z16,s.Handles.set c (s.Handles[c].set k i)⟩∧r=⟨0,i,k,[]⟩) :
  WL Try.prog z41.nt zbh (rbA s c ⟨1,P,Hd,Of,Nn,D⟩ ++ ((2600,0,bl false) :: ghT s)) (rbQ s' r):=by
 refine WL.sreg (by simp<;>rfl) (by simp<;>rfl) ?_
 refine WL.seq (WL.sreg (by simp<;>rfl) (by simp<;>rfl) ?_)
 refine WL.cond (t:=false) (by simp) (by simp) (fun _=>WL.skip ?_)
 refine WL.seq (WL.sreg (by simp<;>rfl) (by simp<;>rfl) ?_)
 refine WL.cond (t:=false) (by simp) (by simp) (fun _=>WL.skip ?_)
 refine WL.seq (WL.sreg (by simp<;>rfl) (by simp<;>rfl) ?_)
 refine WL.block (WL.sreg (by simp<;>rfl) (by simp<;>rfl) ?_)
 refine WL.cond (t:=true) (by simp) (fun _=>?_) (by simp)
 refine WL.seq (w7 (RL.o (by simp;rfl) (RL.call0 true (zp0 s c hc hs) (by simp) (by simp) (RL.o (by simp;rfl) (RL.nil ⟨_,by simp;rfl,?_⟩)))))
 cases h:z8r s.Handles[c] with
 | false =>
  obtain⟨a,b⟩:=e4 h
  subst a b
  refine WL.cond (t:=true) (by simp) (fun _=>?_) (by simp)
  refine w7 (RL.call0 false (z2o 4) (by simp) (by simp) (RL.o (by simp;rfl) (RL.nil ⟨_,by simp;rfl,?_⟩)))
  refine WL.ret ⟨rfl,?_⟩
  simp[z41,rsE]
 | true =>
  obtain⟨hk,hf⟩:=ek h
  refine WL.cond (t:=false) (by simp) (by simp) (fun _=>WL.skip ?_)
  refine WL.sreg (by simp;rfl) (by simp;rfl) ?_
  refine WL.seq (WL.block (we s.There.length (fun i=>rbN s c i []) (fun i=>ixF (· == false) (s.There.drop i) i=ixF (· == false) s.There 0) (by simp) rfl fun i hi hp=>?_))
  have fin:i < s.There.length→s.There[i]?=some false→WL Try.prog z41.nt zjw (rbN s c i [(10800,0,bl false)]) (rbQ s' r):=fun hi hf'=>by
   have h1:s.There[i]=false:=by simpa [hi] using hf'
   rw[z6h _ _ _ hi,if_pos (by simp[h1])] at hp
   obtain⟨a,b⟩:=ok h i hi hp.symm
   subst a b
   exact zt1 s c hc hs i hi (by omega) k hk hf
  by_cases hi':i < s.There.length
  ·have hi1:i+1≤s.There.length:=hi'
   cases hb:s.There[i] with
   | true =>
    refine WL.seq (WL.sreg (by simp[hi',hi1,hb];rfl) (by simp;rfl) ?_)
    refine WL.cond (t:=true) (by simp[hb]) (fun _=>WL.skip ?_) (by simp)
    rw[z6h _ _ _ hi',if_neg (by simp[hb])] at hp
    refine WL.block (WL.reg (RL.run (by simp[z0p hT hi'];rfl) ⟨_,by simp;rfl,hi',?_,hp⟩))
    simp
   | false =>
    refine WL.seq (WL.sreg (by simp[hi',hi1,hb];rfl) (by simp;rfl) ?_)
    refine WL.cond (t:=false) (by simp[hb]) (by simp) (fun _=>WL.exit ?_)
    have hne:¬ i=s.There.length:=by omega
    have hneI:¬ (i:Int)=s.There.length:=by omega
    refine WL.seq (WL.sreg (by simp[hne,hneI];rfl) (by simp;rfl) ?_)
    refine WL.cond (t:=false) (by simp[hne,hneI]) (by simp) (fun _=>WL.skip ?_)
    have d:((i:Int) == (s.There.length:Int))=false:=by simpa using hneI
    rw[d]
    show WL Try.prog z41.nt zjw _ _
    exact WL.up (fin hi' (by simp[hi',hb])) fun _ h=>⟨rfl,h⟩
  ·have hi2:i=s.There.length:=by omega
   subst hi2
   rw[zbe _ _ _ hi'] at hp
   obtain⟨a,b⟩:=e3 h hp.symm
   subst a b
   refine WL.seq (WL.sreg (by simp;rfl) (by simp;rfl) ?_)
   refine WL.cond (t:=false) (by simp) (by simp) (fun _=>WL.exit ?_)
   refine WL.seq (WL.sreg (by simp;rfl) (by simp;rfl) ?_)
   refine WL.cond (t:=true) (by simp) (fun _=>?_) (by simp)
   refine w7 (RL.call0 false (z2o 3) (by simp) (by simp) (RL.o (by simp;rfl) (RL.nil ⟨_,by simp;rfl,?_⟩)))
   refine WL.ret ⟨rfl,?_⟩
   simp[z41,rsE]
theorem y0e (s:St)(cl:Int)(m:Nat)(hm:m < s.Body.length)(h16:s.Body[m].length=16)(P Hd Of Nn:Int)(D:List UInt8)(s':St)(r:Rs)
  (e6:z3h ⟨3,P,Hd,Of,Nn,D⟩ Nn=true→s'=s∧r=rsE 6)
  (ok:∀ o n:Nat,Of=o→Nn=n→o+n≤16→s'=s∧r=⟨0,0,0,(s.Body[m].drop o).take n⟩) :
  WL Try.prog z41.nt zd1 (rbP s cl ⟨3,P,Hd,Of,Nn,D⟩ m [(7900,0,bl false)]) (rbQ s' r):=by
 refine WL.seq (WL.sreg (by simp<;>rfl) (by simp<;>rfl) ?_)
 refine WL.block (WL.sreg (by simp<;>rfl) (by simp<;>rfl) ?_)
 refine WL.cond (t:=false) (by simp) (by simp) (fun _=>WL.sreg (by simp<;>rfl) (by simp<;>rfl) ?_)
 refine WL.cond (t:=false) (by simp) (by simp) (fun _=>WL.sreg (by simp<;>rfl) (by simp<;>rfl) ?_)
 refine WL.cond (t:=true) (by simp) (fun _=>?_) (by simp)
 refine WL.seq ?_
 by_cases k1:Of < 0
 ·obtain⟨a,b⟩:=e6 (by simp[z3h,k1])
  subst a b
  refine WL.sreg (by simp[k1];rfl) (by simp;rfl) ?_
  refine WL.cond (t:=true) (by simp) (fun _=>?_) (by simp)
  refine w7 (RL.call0 false (z2o 6) (by simp) (by simp) (RL.o (by simp;rfl) (RL.nil ⟨_,by simp;rfl,?_⟩)))
  refine WL.ret ⟨rfl,?_⟩
  simp[z41,rsE]
 by_cases k2:Nn < 0
 ·obtain⟨a,b⟩:=e6 (by simp[z3h,k2])
  subst a b
  refine WL.sreg (by simp[k1,k2];rfl) (by simp;rfl) ?_
  refine WL.cond (t:=true) (by simp) (fun _=>?_) (by simp)
  refine w7 (RL.call0 false (z2o 6) (by simp) (by simp) (RL.o (by simp;rfl) (RL.nil ⟨_,by simp;rfl,?_⟩)))
  refine WL.ret ⟨rfl,?_⟩
  simp[z41,rsE]
 by_cases k3:16 < Of
 ·obtain⟨a,b⟩:=e6 (by simp[z3h,k3])
  subst a b
  refine WL.sreg (by simp[k1,k2,k3];rfl) (by simp;rfl) ?_
  refine WL.cond (t:=true) (by simp) (fun _=>?_) (by simp)
  refine w7 (RL.call0 false (z2o 6) (by simp) (by simp) (RL.o (by simp;rfl) (RL.nil ⟨_,by simp;rfl,?_⟩)))
  refine WL.ret ⟨rfl,?_⟩
  simp[z41,rsE]
 obtain⟨o,ho⟩:=pt (a:=Of) (by omega)
 obtain⟨n,hn⟩:=pt (a:=Nn) (by omega)
 subst ho hn
 have w1:IntKind.wrap .i64 ((16:Int) - (o:Int))=16 - (o:Int):=z01 (by omega) (by omega)
 by_cases k4:16 - (o:Int) < n
 ·obtain⟨a,b⟩:=e6 (by simp[z3h,k4])
  subst a b
  refine WL.sreg (by simp[k1,k2,k3,k4,w1];rfl) (by simp;rfl) ?_
  refine WL.cond (t:=true) (by simp[k4]) (fun _=>?_) (by simp)
  refine w7 (RL.call0 false (z2o 6) (by simp) (by simp) (RL.o (by simp;rfl) (RL.nil ⟨_,by simp;rfl,?_⟩)))
  refine WL.ret ⟨rfl,?_⟩
  simp[z41,rsE]
 have hon:o+n≤16:=by omega
 obtain⟨a,b⟩:=ok o n rfl rfl hon
 subst a b
 refine WL.sreg (by simp[k1,k2,k3,k4,w1];rfl) (by simp;rfl) ?_
 refine WL.cond (t:=false) (by simp[k4];try omega) (by simp) (fun _=>WL.skip ?_)
 obtain⟨e,he⟩:∃ e,e=o+n:=⟨_,rfl⟩
 have hw:IntKind.wrap .i64 ((o:Int)+(n:Int))=(e:Int):=by rw[z01 (by omega) (by omega)];omega
 have f1:o≤e:=by omega
 have f2:e≤16:=by omega
 have f3:e - o=n:=by omega
 refine WL.seq (WL.draw z0t (by simp[z0b,noH]) (DL.o (by simp[hm,h16,hw,f1,f2,f3,z2i,zgo,zii,qs hm,-List.map_take,-List.map_drop];exact⟨rfl,rfl⟩) (DL.nil ⟨by kernel_rfl,_,by simp;rfl,?_⟩)))
 refine WL.ret ⟨rfl,?_⟩
 have f4:min n (16 - o)=n:=by omega
 simp[z41,h16,f4,List.take_take]
theorem zt2 (s:St)(cl:Int)(m:Nat)(hm:m < s.Body.length)(h16:s.Body[m].length=16)(P Hd Of Nn:Int)(D:List UInt8)(s':St)(r:Rs)
  (e6:z3h ⟨4,P,Hd,Of,Nn,D⟩ D.length=true→s'=s∧r=rsE 6)
  (ok:∀ o:Nat,Of=o→o+D.length≤16→s'=⟨s.There,s.Body.set m (zia s.Body[m] o D),s.Handles⟩∧r=rsO) (hD:z0c D.length) :
  WL Try.prog z41.nt zd1 (rbP s cl ⟨4,P,Hd,Of,Nn,D⟩ m [(7900,0,bl false)]) (rbQ s' r):=by
 refine WL.seq (WL.sreg (by simp<;>rfl) (by simp<;>rfl) ?_)
 refine WL.block (WL.sreg (by simp<;>rfl) (by simp<;>rfl) ?_)
 refine WL.cond (t:=false) (by simp) (by simp) (fun _=>WL.sreg (by simp<;>rfl) (by simp<;>rfl) ?_)
 refine WL.cond (t:=false) (by simp) (by simp) (fun _=>WL.sreg (by simp<;>rfl) (by simp<;>rfl) ?_)
 refine WL.cond (t:=false) (by simp) (by simp) (fun _=>WL.sreg (by simp<;>rfl) (by simp<;>rfl) ?_)
 refine WL.cond (t:=true) (by simp) (fun _=>?_) (by simp)
 refine WL.seq ?_
 by_cases k1:Of < 0
 ·obtain⟨a,b⟩:=e6 (by simp[z3h,k1])
  subst a b
  refine WL.sreg (by simp[k1];rfl) (by simp;rfl) ?_
  refine WL.cond (t:=true) (by simp) (fun _=>?_) (by simp)
  refine w7 (RL.call0 false (z2o 6) (by simp) (by simp) (RL.o (by simp;rfl) (RL.nil ⟨_,by simp;rfl,?_⟩)))
  refine WL.ret ⟨rfl,?_⟩
  simp[z41,rsE]
 by_cases k3:16 < Of
 ·obtain⟨a,b⟩:=e6 (by simp[z3h,k3])
  subst a b
  refine WL.sreg (by simp[k1,k3];rfl) (by simp;rfl) ?_
  refine WL.cond (t:=true) (by simp) (fun _=>?_) (by simp)
  refine w7 (RL.call0 false (z2o 6) (by simp) (by simp) (RL.o (by simp;rfl) (RL.nil ⟨_,by simp;rfl,?_⟩)))
  refine WL.ret ⟨rfl,?_⟩
  simp[z41,rsE]
 obtain⟨o,ho⟩:=pt (a:=Of) (by omega)
 subst ho
 have w1:IntKind.wrap .i64 ((16:Int) - (o:Int))=16 - (o:Int):=z01 (by omega) (by omega)
 by_cases k4:16 - (o:Int) < D.length
 ·obtain⟨a,b⟩:=e6 (by simp[z3h,k4])
  subst a b
  refine WL.sreg (by simp[k1,k3,k4,w1];rfl) (by simp;rfl) ?_
  refine WL.cond (t:=true) (by simp[k4]) (fun _=>?_) (by simp)
  refine w7 (RL.call0 false (z2o 6) (by simp) (by simp) (RL.o (by simp;rfl) (RL.nil ⟨_,by simp;rfl,?_⟩)))
  refine WL.ret ⟨rfl,?_⟩
  simp[z41,rsE]
 have hon:o+D.length≤16:=by omega
 obtain⟨a,b⟩:=ok o rfl hon
 subst a b
 refine WL.sreg (by simp[k1,k3,k4,w1];rfl) (by simp;rfl) ?_
 refine WL.cond (t:=false) (by simp[k4];try omega) (by simp) (fun _=>WL.skip ?_)
 obtain⟨e,he⟩:∃ e,e=o+D.length:=⟨_,rfl⟩
 have hw:IntKind.wrap .i64 ((o:Int)+(D.length:Int))=(e:Int):=by rw[z01 (by omega) (by omega)];omega
 have f1:o≤e:=by omega
 have f2:e≤16:=by omega
 have f5:o≤16:=by omega
 have g1:o+D.length≤4611686018427387904:=by omega
 have g2:o+(D.length+(16 - e))≤4611686018427387904:=by omega
 have g3:o+D.length+(16 - e)≤4611686018427387904:=by omega
 refine WL.draw z0t (by simp[z0b,noH]) (DL.o (by simp[hm,h16,hw,f1,f2,f5,g1,g2,g3,z2i,zgo,zbo,zii,zg6,qs hm,-List.map_take,-List.map_drop];exact⟨rfl,rfl⟩) (DL.nil ⟨by kernel_rfl,_,by simp;rfl,?_⟩))
 refine WL.sreg (by simp<;>rfl) (by simp<;>rfl) (WL.nil1 604 true 1 (by simp) (WL.ret ⟨rfl,?_⟩))
 have f6:List.take (16 - e) (List.drop e s.Body[m])=List.drop e s.Body[m]:=pp (by simp[h16])
 simp[z41,sq,zia,← he]
 rw[f6]
theorem zk6 {α:Type}{p q:α→Bool}:∀ (l:List α) (n:Nat),(∀ x ∈ l,p x=q x)→ixF p l n=ixF q l n
 | [],_,_=>rfl
 | x :: l,n,h=>by
  simp only[ixF]
  rw[h x rn,zk6 l (n+1) fun y hy=>h y (qd _ hy)]
theorem zk7 {α:Type}{p q:α→Bool}:∀ (l:List α),(∀ x ∈ l,p x=q x)→l.any p=l.any q
 | [],_=>rfl
 | x :: l,h=>by
  simp only[tx]
  rw[h x rn,zk7 l fun y hy=>h y (qd _ hy)]
theorem y0f {s:St}(h:OkSt s){l:List Int}(hl:l ∈ s.Handles):z8r l=zev l∧zih l=ixF (· == -1) l 0:=by
 have hx:∀ x ∈ l,decide (x < 0)=(x == -1):=fun x hx=>by
  rcases h.hp l hl x hx with e | e
  ·subst e;rfl
  ·simp only[z2n,pm,decide_eq_true_eq] at e
   have h1:¬ x < 0:=by omega
   have h2:¬ x=-1:=by omega
   simp[h1,h2]
 exact⟨zk7 _ hx,zk6 _ _ hx⟩
theorem zec {s:St}{c k:Nat}(hc:c < s.Handles.length)(hk:k < s.Handles[c].length):z6m s c k=s.Handles[c][k]:=by
 have h1:¬ s.Handles.length≤c:=by omega
 have h2:¬ s.Handles[c].length≤k:=by omega
 have h3:¬ (c:Int) < 0:=by omega
 have h4:¬ (k:Int) < 0:=by omega
 simp[z6m,hc,hk,h1,h2,h3,h4]
theorem zpr {s:St}(h:OkSt s){c:Nat}(hc:c < s.Handles.length)(hd:Int)(hb:z5q s.Handles[c] hd=true):z6m s c hd=-1:=by
 have h6:=h.l6 _ (qb hc)
 have h1:¬ s.Handles.length≤c:=by omega
 simp only[z5q,qp,decide_eq_true_eq] at hb
 by_cases e1:hd < 0
 ·simp[z6m,e1]
 obtain⟨k,rfl⟩:=pt (a:=hd) (by omega)
 by_cases e2:6≤k
 ·have e3:(6:Int)≤k:=by omega
  simp[z6m,hc,h6,e3]
 ·have hk:k < s.Handles[c].length:=by omega
  rw[zec hc hk]
  have:=(hb.resolve_left e1).resolve_left (by omega)
  simpa [hk] using this
theorem zlr {s:St}{c:Nat}{q:Op}(h:OkSt s)(hc:c < s.Handles.length):(z06 s s.Handles[c] q ≠ 0→(DoB s c q).2.1=s∧(DoB s c q).2.2=rsE (z06 s s.Handles[c] q))∧(z06 s s.Handles[c] q=0→(DoB s c q).2.1=(z4m s c q).1∧(DoB s c q).2.2=(z4m s c q).2):=by
 have hn:¬ z29 s c=true:=by
  have:=(zbg s).2 h
  simp[z29,this]
  omega
 constructor
 ·intro h0
  simp[DoB,hn,hc,h0]
 ·intro h0
  simp[DoB,hn,hc,h0]
theorem set_self {α:Type}(l:List α)(i:Nat)(h:i < l.length)(v:α)(hv:l[i]=v):l.set i v=l:=by
 subst hv
 exact List.set_getElem_self h
theorem zls (s:St)(h:OkSt s)(c:Nat)(hc:c < s.Handles.length)(q:Op)(hD:z0c q.Data.length)(hk:1≤q.Kind∧q.Kind≤8)(s':St)(r:Rs)
  (hE:z06 s s.Handles[c] q ≠ 0→s'=s∧r=rsE (z06 s s.Handles[c] q)) (hO:z06 s s.Handles[c] q=0→s'=(z4m s c q).1∧r=(z4m s c q).2) :
  WL Try.prog z41.nt zbh (rbA s c q ++ ((2600,0,bl false) :: ghT s)) (rbQ s' r):=by
 have hs:=h.sized
 have hmem:=qb hc
 have h6:s.Handles[c].length=6:=h.l6 _ hmem
 have hS:z0c s.Handles[c].length:=by unfold z0c;omega
 have hT:z0c s.There.length:=by have:=hs.t;unfold z0c;omega
 obtain⟨fr,fi⟩:=y0f h hmem
 have hroom:zev s.Handles[c]=true→ix (· == -1) s.Handles[c] < s.Handles[c].length∧zih s.Handles[c]=(ix (· == -1) s.Handles[c]:Int):=fun hr=>by
  obtain⟨j1,j2,j3⟩:=z62 hr
  exact⟨j1,by rw[fi,j2]⟩
 have hl:s.Handles.getD c []=s.Handles[c]:=by simp[hc]
 obtain⟨K,P,Hd,Of,Nn,D⟩:=q
 simp only at hk hD
 by_cases k1:K=1
 ·subst k1
  refine ygj s hT h.bn c hc hS P Hd Of Nn D s' r (fun e=>?_) (fun e e3=>?_) (ix (· == -1) s.Handles[c]) (fun e=>hroom (by rw[← fr];exact e)) (fun e i hi hix=>?_)
  ·rw[fr] at e
   have:=hE (by simp[z06,e])
   simpa [z06,e] using this
  ·rw[fr] at e
   have ha:s.There.any (· == false)=false:=by
    cases e':s.There.any (· == false) with
    | false=>rfl
    | true =>
     have:=(zcw (· == false) s.There 0).2 e'
     omega
   have:=hE (by simp only[z06,e,ha,if_true];decide)
   simpa only [z06,e,ha,if_true,Bool.true_eq_false,if_false] using this
  ·rw[fr] at e
   have ha:s.There.any (· == false)=true:=(zcw (· == false) s.There 0).1 (by rw[hix];omega)
   have he:ix (· == false) s.There=i:=by unfold ix;rw[hix];exact t9 i
   have hb:i < s.Body.length:=by rw[h.bn];exact hi
   obtain⟨i1,i2,i3⟩:=z62 ha
   have hth:s.There[i]=false:=by
    have:=i3
    simp only[he] at this
    simpa using this
   have hz:=h.zero i hb (by simp[hi,hth])
   have:=hO (by simp only[z06,e,ha,if_true,Bool.true_eq_false,if_false])
   simp only[z4m,if_true,hl,he] at this
   rw[set_self s.Body i hb z16 hz]
   exact this
 by_cases k2:K=2∨K=6∨K=8
 ·refine y0b s c ⟨K,P,Hd,Of,Nn,D⟩ s' r k2 hT (fun e=>?_) (fun e1 e2=>?_) (fun e=>?_)
  ·have:=hE (by simp only[z06,if_neg k1,if_pos k2,e,if_true];decide)
   simpa only [z06,if_neg k1,if_pos k2,e,if_true] using this
  ·simp only at e1 e2
   have:=hE (by simp only[z06,if_neg k1,if_pos k2,e1,e2,if_true,Bool.true_eq_false,if_false];decide)
   simpa only [z06,if_neg k1,if_pos k2,e1,e2,if_true,Bool.true_eq_false,if_false] using this
  ·simp only at e
   have hth:=e
   simp only[z2n,pm,decide_eq_true_eq] at hth
   obtain⟨m,rfl⟩:=pt hth.1
   have hm:m < s.There.length:=by
    have:=hth.2
    by_cases h:m < s.There.length
    ·exact h
    ·simp[h] at this
   have hmb:m < s.Body.length:=by rw[h.bn];exact hm
   have hpg:z39 s (m:Int)=true:=by simp[z39,hm]
   rcases k2 with k2 | k2 | k2<;>subst k2
   ·refine zsz s c hc hS m Hd Of Nn D s' r (fun e4=>?_) (ix (· == -1) s.Handles[c]) (fun e4=>?_)
    ·rw[fr] at e4
     have:=hE (by simp[z06,hpg,e,e4])
     simpa [z06,hpg,e,e4] using this
    ·rw[fr] at e4
     obtain⟨a,b⟩:=hroom e4
     have:=hO (by simp[z06,hpg,e,e4])
     simp only[z4m,hl] at this
     exact⟨a,b,by simpa using this⟩
   ·have:=hO (by simp[z06,hpg,e])
    simp only[z4m] at this
    obtain⟨a,b⟩:s'=s∧r=rsO:=by simpa using this
    subst a b
    exact zsy s' c m Hd Of Nn D
   ·refine zpq s hs c m hm hmb Hd Of Nn D s' r (fun e7=>?_) (fun e7=>?_)
    ·have:=hE (by simp[z06,hpg,e,e7])
     simpa [z06,hpg,e,e7] using this
    ·have:=hO (by simp[z06,hpg,e,e7])
     simp only[z4m] at this
     simpa [z16] using this
 by_cases k3:K=3∨K=4∨K=5
 ·refine y0c s c ⟨K,P,Hd,Of,Nn,D⟩ s' r k3 (fun e=>?_) (fun e=>?_)
  ·simp only at e
   have hb:z5q s.Handles[c] Hd=true:=by
    cases hb:z5q s.Handles[c] Hd with
    | true=>rfl
    | false =>
     exfalso
     simp only[z5q,qx,decide_eq_false_iff_not,beq_eq_false_iff_ne] at hb
     obtain⟨k,rfl⟩:=pt (a:=Hd) (by omega)
     have hk6:k < s.Handles[c].length:=by omega
     rw[zec hc hk6] at e
     have hne:s.Handles[c][k] ≠ -1:=by simpa [hk6] using hb.2.2
     have hth:=(h.hp _ hmem _ (qb hk6)).resolve_left hne
     simp only[z2n,pm,decide_eq_true_eq] at hth
     omega
   have:=hE (by simp only[z06,if_neg k1,if_neg k2,if_pos k3,hb,if_true];decide)
   simpa only [z06,if_neg k1,if_neg k2,if_pos k3,hb,if_true] using this
  ·simp only at e
   have hb:z5q s.Handles[c] Hd=false:=by
    cases hb:z5q s.Handles[c] Hd with
    | false=>rfl
    | true=>rw [zpr h hc Hd hb] at e;omega
   have hb':=hb
   simp only[z5q,qx,decide_eq_false_iff_not,beq_eq_false_iff_ne] at hb'
   obtain⟨k,rfl⟩:=pt (a:=Hd) (by omega)
   have hk6:k < s.Handles[c].length:=by omega
   simp only
   rw[zec hc hk6] at e ⊢
   have hne:s.Handles[c][k] ≠ -1:=by simpa [hk6] using hb'.2.2
   have hth:=(h.hp _ hmem _ (qb hk6)).resolve_left hne
   simp only[z2n,pm,decide_eq_true_eq] at hth
   obtain⟨m,hm⟩:=pt hth.1
   have hmt:m < s.There.length:=by
    have:=hth.2
    rw[hm] at this
    by_cases h:m < s.There.length
    ·exact h
    ·simp[h] at this
   have hmb:m < s.Body.length:=by rw[h.bn];exact hmt
   have h16:=h.b16 _ (qb hmb)
   rcases k3 with k3 | k3 | k3<;>subst k3
   ·rw[hm]
    refine y0e s c m hmb h16 P k Of Nn D s' r (fun e6=>?_) (fun o n ho hn hon=>?_)
    ·have:=hE (by simp[z06,hb,e6])
     simpa [z06,hb,e6] using this
    ·subst ho hn
     have e6:z3h ⟨3,P,k,o,n,D⟩ n=false:=by
      simp[z3h]
      omega
     have:=hO (by simp[z06,hb,e6])
     simpa [z4m,hc,hk6,hm,hmb] using this
   ·rw[hm]
    refine zt2 s c m hmb h16 P k Of Nn D s' r (fun e6=>?_) (fun o ho hon=>?_) hD
    ·have:=hE (by simp[z06,hb,e6])
     simpa [z06,hb,e6] using this
    ·subst ho
     have e6:z3h ⟨4,P,k,o,Nn,D⟩ D.length=false:=by
      simp[z3h]
      omega
     have:=hO (by simp[z06,hb,e6])
     simpa [z4m,hc,hk6,hm,hmb] using this
   ·have e6:z3h ⟨5,P,k,Of,Nn,D⟩ Nn=false:=by simp[z3h]
    have:=hO (by simp[z06,hb,e6])
    obtain⟨a,b⟩:s'=⟨s.There,s.Body,s.Handles.set c (s.Handles[c].set k (-1))⟩∧r=rsO:=by simpa [z4m,hc] using this
    subst a b
    exact zt0 s c hc k hk6 P _ Of Nn D
 ·have k7:K=7:=by omega
  subst k7
  have:=hO (by simp[z06])
  obtain⟨a,b⟩:s'=s∧r=rsO:=by simpa [z4m] using this
  subst a b
  exact zij s' c P Hd Of Nn D
theorem z83 (s:St)(h:OkSt s)(cl:Int)(q:Op)(hD:z0c q.Data.length):FnC Try.prog 77 (gsT s) [vwT s,i64 cl,zsg false q] (gsT (DoB s cl q).2.1) (zby true (DoB s cl q).2.2):=by
 have hM:May s=true:=(zbg s).2 h
 refine zsx s cl q _ _ (fun h1=>?_) (fun h1=>?_)
 ·have:DoB s cl q=(false,s,rsE 1):=by
   by_cases hn:z29 s cl=true
   ·simp only[DoB,if_pos hn]
   ·have hn':=hn
    simp only[z29,hM,Bool.not_true,b8,qp,decide_eq_true_eq] at hn'
    have hk:q.Kind < 1∨8 < q.Kind:=by omega
    have hcd:z06 s (s.Handles.getD cl.toNat []) q=1:=by
     have a1:¬ q.Kind=1:=by omega
     have a2:¬ (q.Kind=2∨q.Kind=6∨q.Kind=8):=by omega
     have a3:¬ (q.Kind=3∨q.Kind=4∨q.Kind=5):=by omega
     have a4:¬ q.Kind=7:=by omega
     simp only[z06,if_neg a1,if_neg a2,if_neg a3,if_neg a4]
    simp only[DoB,if_neg hn,hcd]
    rfl
  rw[this]
  exact y0a s cl q
 ·obtain⟨c,rfl⟩:=pt (a:=cl) (by omega)
  have hc:c < s.Handles.length:=by omega
  obtain⟨a,b⟩:=zlr (q:=q) h hc
  exact zls s h c hc q hD (by omega) _ _ a b
abbrev yu8:SL:=[(400,0,.bptr 4 1 0),(401,0,.sl true () 1 0 []),(402,0,.sl true () 1 0 []),(403,0,.sl true () 1 0 []),(499,1,.non)]
abbrev yu9 (a b c:AU):SL:=[(500,0,.bptr 5 1 0),(501,0,a),(502,0,b),(503,0,c),(599,1,.non)]
abbrev rnA (n m i:Nat):SL:=[(0,0,i64 n),(100,0,i64 m)] ++ (yu8 ++ (yu9 (.sl true () 1 i (List.replicate i (bl false))) (.sl true () 1 i (List.replicate i (str z16))) (.sl true () 1 0 []) ++ [(600,0,i64 i)]))
abbrev rnB (n m j:Nat):SL:=[(100,0,i64 m)] ++ (yu8 ++ (yu9 (.sl true () 1 n (List.replicate n (bl false))) (.sl true () 1 n (List.replicate n (str z16))) (.sl true () 1 j (List.replicate j (sI true [-1,-1,-1,-1,-1,-1]))) ++ [(700,0,i64 j)]))
theorem z84 (p c:Int):FnC Try.prog 76 [] [i64 p,i64 c] [] (ymr true (z1c p c)):=by
 refine wc yxs rfl ?_
 refine WL.sreg (by simp;rfl) (by simp;rfl) ?_
 refine WL.sreg (by simp;rfl) (by simp;rfl) ?_
 refine WL.seq (nc (z0v p c) ([(0,0,i64 p),(100,0,i64 c)] ++ (yu8 ++ (yu9 (.sl true () 1 0 []) (.sl true () 1 0 []) (.sl true () 1 0 []) ++ [(2100,0,bl (z0v p c))]))) ?_ (by simp) (fun h=>?_) (fun h=>WL.skip ?_))
 ·by_cases h1:p < 1
  ·simp[z0v,h1]
  by_cases h2:48 < p
  ·simp[z0v,h1,h2]
  by_cases h3:c < 1
  ·simp[z0v,h1,h2,h3]
  by_cases h4:6 < c
  ·simp[z0v,h1,h2,h3,h4]
  ·simp[z0v,h1,h2,h3,h4]
 ·refine WL.sreg (by simp;rfl) (by simp;rfl) (WL.ret ⟨.inr rfl,?_⟩)
  simp[yre,z1c,h]
 simp only[z0v,qx,decide_eq_false_iff_not] at h
 obtain⟨n,rfl⟩:=pt (a:=p) (by omega)
 obtain⟨m,rfl⟩:=pt (a:=c) (by omega)
 have hn:n≤48:=by omega
 have hm:m≤6:=by omega
 have hst:z1c n m=⟨List.replicate n false,List.replicate n (List.replicate 16 0),List.replicate m [-1,-1,-1,-1,-1,-1]⟩:=by
  unfold z1c
  rw[if_neg]
  ·rfl
  ·simp only[z0v,qp,decide_eq_true_eq];omega
 rw[hst]
 refine WL.seq (WL.sreg (by simp;rfl) (by simp;rfl) ?_)
 refine WL.block (we n (fun i=>rnA n m i) (fun _=>True) (by simp) trivial fun i hi _=>?_)
 by_cases h:i < n
 ·refine WL.seq (WL.sreg (by simp[h];rfl) (by simp;rfl) ?_)
  refine WL.cond (t:=true) (by simp[h]) (fun _=>WL.skip ?_) (by simp)
  have hm0:i+1≤140737488355328:=by omega
  have hm1:(i+1) * 16≤140737488355328:=by omega
  have hm2:i+1≤maxLen:=by unfold maxLen;omega
  refine WL.seq (WL.block (WL.draw z0t (by simp[z0b,noH]) (DL.o (by simp[hm0,hm1,hm2];exact⟨rfl,rfl⟩) (DL.call0 false ze5 (by simp) (by simp) (DL.o (by simp[hm0,hm1,hm2];exact⟨rfl,rfl⟩) (DL.nil ⟨by kernel_rfl,_,by simp;rfl,?_⟩))))))
  have hs:z0c n:=by unfold z0c;omega
  refine WL.reg (RL.run (by simp[z0p hs h];rfl) ⟨_,by simp;rfl,h,?_,trivial⟩)
  simp[← z4z]
  exact⟨pp (by simp),pp (by simp)⟩
 ·refine WL.seq (WL.sreg (by simp[h];rfl) (by simp;rfl) ?_)
  refine WL.cond (t:=false) (by simp[h]) (by simp) fun _=>WL.exit ?_
  obtain rfl:i=n:=by omega
  refine WL.seq (WL.sreg (by simp;rfl) (by simp;rfl) ?_)
  refine WL.block (we m (fun j=>rnB i m j) (fun _=>True) (by simp) trivial fun j hj _=>?_)
  by_cases h:j < m
  ·have hs:z0c m:=by unfold z0c;omega
   refine WL.seq (WL.sreg (by simp[h];rfl) (by simp;rfl) ?_)
   refine WL.cond (t:=true) (by simp[h]) (fun _=>WL.skip ?_) (by simp)
   have hm1:(j+1) * 24≤140737488355328:=by omega
   have hm2:j+1≤maxLen:=by unfold maxLen;omega
   refine WL.seq (WL.block (WL.reg (RL.run (by simp[hm1,hm2];rfl) ⟨_,by simp;rfl,?_⟩)))
   refine WL.reg (RL.run (by simp[z0p hs h];rfl) ⟨_,by simp;rfl,h,?_,trivial⟩)
   simp[← z4z]
   exact pp (by simp)
  ·refine WL.seq (WL.sreg (by simp[h];rfl) (by simp;rfl) ?_)
   refine WL.cond (t:=false) (by simp[h]) (by simp) fun _=>WL.exit ?_
   obtain rfl:j=m:=by omega
   refine WL.sreg (by simp;rfl) (by simp;rfl) (WL.ret ⟨.inr rfl,?_⟩)
   simp[yre,z16]
theorem zt3 {n m:Nat}(hn:1≤n)(hn':n≤48)(hm:1≤m)(hm':m≤6):z1c n m=⟨List.replicate n false,List.replicate n (List.replicate 16 0),List.replicate m [-1,-1,-1,-1,-1,-1]⟩:=by
 unfold z1c
 rw[if_neg]
 ·rfl
 ·simp only[z0v,qp,decide_eq_true_eq];omega
theorem zt4 {n m:Nat}(hn:1≤n)(hn':n≤48)(hm:1≤m)(hm':m≤6):OkSt (z1c n m):=by
 rw[zt3 hn hn' hm hm']
 refine⟨by simpa using hn,by simpa using hn',by simp,by simpa using hm,by simpa using hm',fun b hb=>?_,fun i hi _=>?_,fun l hl=>?_,fun l hl p hp=>?_⟩
 ·rw[t5 hb];rfl
 ·simp
 ·rw[t5 hl];rfl
 ·rw[t5 hl] at hp
  left
  simpa using hp
theorem yyb (r:Rs):z17 (zby true r)=true:=by
 show z1v [i64 r.Code,i64 r.Page,i64 r.Handle,sU true r.Data]=true
 simp[z17,z1v,zga]
theorem zbp (s s':St)(r:Rs):z1d true (gsT s) (gsT s') (zby true r)=true:=by
 have e1:z17 (sB true s'.There:AU)=true:=by simp only[z17,ywx,tj]
 have e2:z17 (sS true s'.Body:AU)=true:=by simp only[z17,ywy,tj]
 have e3:z17 (sII true s'.Handles:AU)=true:=by simp only[z17,y0d,tj]
 have e4:z17 (zby true r)=true:=yyb r
 simp only[z1d,List.all_cons,List.all_nil,z5o,e1,e2,e3,e4]
 simp
structure Ev where
 Client:Int
 op:Op
 res:Rs
 Begin:Int
 Stamp:Int
 End:Int
 deriving DecidableEq
abbrev z02 (o r:Bool)(e:Ev):List AU:=[i64 e.Client,i64 e.op.Kind,i64 e.op.Page,i64 e.op.Handle,i64 e.op.Off,i64 e.op.N,sU o e.op.Data,i64 e.res.Code,i64 e.res.Page,i64 e.res.Handle,sU r e.res.Data,i64 e.Begin,i64 e.Stamp,i64 e.End]
abbrev sEv (l:List Ev):AU:=.sl false () 14 l.length (l.flatMap (z02 false false))
theorem z1r {o r:Bool}{l:List Ev}{i:Nat}(h:i < l.length):(l.flatMap (z02 o r)).drop (i * 14)=z02 o r l[i] ++ (l.drop (i+1)).flatMap (z02 o r):=by
 induction l generalizing i with
 | nil=>simp at h
 | cons a l ih =>
  cases i with
  | zero=>simp [qw]
  | succ i =>
   rw[qw,List.drop_append,rx (by simp;omega)]
   have:(i+1) * 14 - (z02 o r a).length=i * 14:=by simp;omega
   rw[this,ih (by simpa using h)]
   simp
theorem z27 (o r:Bool)(l:List Ev):(l.flatMap (z02 o r)).length=l.length * 14:=by
 induction l with
 | nil=>rfl
 | cons a l ih=>rw [qw,qr,ih];simp;omega
def z9a (l:List Ev)(x:Int):Int:=(l.map (·.Stamp)).getD x.toNat 0
def z9m (l:List Ev)(n:Nat):List Int:=((List.range n).filter fun i=>decide (0 < (l.map (·.Stamp)).getD i 0)).map fun i=>Int.ofNat i
def y3a (l:List Ev):List Int:=z9m l l.length
def z1t (l:List Ev):List Int:=za0 (z9a l) (y3a l)
theorem zbq (l:List Ev)(n:Nat):z9m l (n+1)=z9m l n ++ (if 0 < (l.map (·.Stamp)).getD n 0 then [(n:Int)] else []):=by
 simp only[z9m,List.range_succ,List.filter_append,sj]
 congr 1
 by_cases h:0 < (l.map (·.Stamp)).getD n 0
 ·simp only[List.filter_cons,List.filter_nil,h,decide_true,if_true];rfl
 ·simp only[List.filter_cons,List.filter_nil,h,decide_false,if_false];rfl
theorem za3 {l:List Ev}{n:Nat}{x:Int}(h:x ∈ z9m l n):∃ i:Nat,i < n∧x=i∧0 < (l.map (·.Stamp)).getD i 0:=by
 simp only[z9m,sg,List.mem_filter,ql,decide_eq_true_eq] at h
 obtain⟨i,⟨h1,h2⟩,rfl⟩:=h
 exact⟨i,h1,rfl,h2⟩
theorem z85 (l:List Ev)(n:Nat):(z9m l n).Pairwise (· < ·):=by
 unfold z9m
 rw[List.pairwise_map]
 refine List.Pairwise.imp ?_ (List.Pairwise.filter _ List.pairwise_lt_range)
 intro a b h
 exact Int.ofNat_lt.2 h
theorem za4 (l:List Ev)(n:Nat):(z9m l n).length≤n:=by
 unfold z9m
 rw[r5]
 exact bb (List.length_filter_le _ _) (by simp)
theorem zt5 {l:List Ev}{x:Int}(h:x ∈ z1t l):∃ i:Nat,i < l.length∧x=i∧0 < (l.map (·.Stamp)).getD i 0 :=
 za3 ((z4f (z9a l) (z85 l _)).1.subset h)
theorem z86 (l:List Ev):(z1t l).length≤l.length:=by
 have:=(z4f (z9a l) (z85 l l.length)).1.length_eq
 unfold z1t y3a
 rw[this];exact za4 l _
def toF (L:List Int)(k:Nat):Int:=L.getD k 0
theorem zus (L:List Int):(rF (toF L) L.length:AU)=sI true L:=by
 show AV.sl true () 1 L.length (tF (toF L) L.length)=_
 congr 1
 apply List.ext_getElem
 ·simp
 ·intro i h1 h2
  have:i < L.length:=by simpa using h2
  simp[toF,this]
theorem zps (L:List Int):seg (toF L) 0 L.length=L:=by
 apply List.ext_getElem
 ·simp[ze6]
 ·intro i h1 h2
  simp[seg,toF,h2]
theorem ygk (key:Int→Int){L:List Int}(hL:L.Pairwise (· < ·)):SM key (toF L) 0 L.length (toF (za0 key L)):=by
 obtain⟨h1,h2⟩:=z4f key hL
 have hl:=h1.length_eq
 refine⟨fun k hk=>?_,?_,fun i j _ hij hj=>?_⟩
 ·have e1:L.length≤k:=by omega
  simp[toF,ph,qi e1,qi (by omega:(za0 key L).length≤k)]
 ·rw[Nat.sub_zero,zps]
  have:=zps (za0 key L)
  rw[hl] at this
  rw[this];exact h1
 ·have:=List.pairwise_iff_getElem.1 h2 i j (by omega) (by omega) hij
  simpa [toF,ph,show i < (za0 key L).length by omega,show j < (za0 key L).length by omega] using this
theorem y0g {key:Int→Int}{g:Nat}{cs:List AU}(L:List Int)(hL:L.Pairwise (· < ·))(hn:L.length≤100000000)(hcl:zuo key (· ∈ L) g cs) :
  FnC Try.prog 91 [.nod (sI true L)] [.view 1000000 0 [] 0 L.length,.clos g [.vptr () cs]] [.nod (sI true (za0 key L))] (.tuple []):=by
 have hc:=zpo hcl (toF L) L.length hn (fun k hk=>by simp[toF,hk]) (fun i j hij hj=>by
  have:=List.pairwise_iff_getElem.1 hL i j (by omega) hj hij
  simpa [toF,ph,show i < L.length by omega,hj] using this) _ (ygk key hL)
 have hlen:=(z4f key hL).1.length_eq
 have e2:=zus (za0 key L)
 rw[hlen] at e2
 rw[zus,e2] at hc
 refine wc yy5 rfl ?_
 refine WL.reg (RL.o (by simp;rfl) (wn false [(1000000,[])] hc (by simp) (by simp) (by simp[z36]) (by simp) (by simp[hlen]) (RL.nil ⟨_,by simp;rfl,.inl rfl,?_⟩)))
 simp[ywu]
def ygl:Cd:=(.seq (.reg [0,1,2,30,31] [.call none 31 66 [],.o [.asg 6 (.t 31)]]) .ret)
def yua:Cd:=(.cond (.t 30) ygl .skip)
def yub:Cd:=(.cond (.t 44) .skip (.exit 0))
def yuc:Cd:=(.seq (.reg [0,2,7,8,54,55] [.call none 55 66 [],.o [.asg 6 (.t 55)]]) .ret)
def yud:Cd:=(.cond (.t 54) yuc .skip)
def yue:Cd:=(.reg [65,66,67,68,69,70] [.o [.mov 66 (.t 7),.mov 67 (.t 8),.iaddr 68 7 (.t 66) (.t 67),.faddr 69 1 (.t 68),.faddr 70 0 (.t 69),.st 1 (.t 70) (cI 2)]])
def yuf:Cd:=(.cond (.t 65) yue .skip)
def yug:Cd:=(.reg [91,92,93,94,95,96] [.o [.mov 92 (.t 7),.mov 93 (.t 8),.iaddr 94 7 (.t 92) (.t 93),.faddr 95 1 (.t 94),.faddr 96 0 (.t 95),.st 1 (.t 96) (cI 2)]])
def y0h:Cd:=(.cond (.t 91) yug .skip)
def ygm:Cd:=(.seq (.reg [9,80,81,82,83,84,85,86,87,88,89,90] [.o [.mov 80 (.t 8),.mov 81 (.t 0),.len 82 (.t 81),.bin 83 .gtr (.t 80) (.t 82),.mov 84 (.t 83)],.g 84 true [.mov 85 (.t 9),.bin 86 .eql (.t 85) (cI 5),.mov 87 (.t 86)],.g 87 false [.mov 88 (.t 9),.bin 89 .eql (.t 88) (cI 6)],.g 84 true [.pick 90 (.t 87) (cB true) (.t 89)],.o [.pick 91 (.t 84) (.t 90) (cB false)]]) y0h)
def zut:Cd:=(.seq (.reg [65,71,72,73,74,75,76,77,78,79] [.o [.mov 71 (.t 7),.mov 72 (.t 8),.iaddr 73 7 (.t 71) (.t 72),.faddr 74 1 (.t 73),.faddr 75 0 (.t 74),.ld 76 1 false (.t 75),.conv 77 .u64 (.t 76),.bin 78 .rem (.t 77) (.c (.sc (.int .u64 8))),.conv 79 .i64 (.t 78),.asg 9 (.t 79)]]) ygm)
def ygn:Cd:=(.seq (.seq (.reg [54,56,57,58,59,60,61,62,63,64] [.o [.mov 56 (.t 7),.mov 57 (.t 8),.iaddr 58 7 (.t 56) (.t 57),.faddr 59 1 (.t 58),.faddr 60 0 (.t 59),.ld 61 1 false (.t 60),.conv 62 .u64 (.t 61),.bin 63 .rem (.t 62) (.c (.sc (.int .u64 8))),.conv 64 .i64 (.t 63),.bin 65 .eql (.t 64) (cI 7)]]) yuf) zut)
def zgq:Cd:=(.reg [91,45,46] [.o [.mov 45 (.t 8),.bin 46 .add (.t 45) (cI 1),.asg 8 (.t 46)]])
def ygo:Cd:=(.seq (.block 1 (.seq (.seq (.reg [44,47,48,49,50,51,52,53] [.o [.mov 47 (.t 7),.mov 48 (.t 8),.iaddr 49 7 (.t 47) (.t 48),.faddr 50 1 (.t 49),.faddr 51 5 (.t 50),.ld 52 1 false (.t 51),.len 53 (.t 52),.bin 54 .gtr (.t 53) (cI 40)]]) yud) ygn)) zgq)
def ygp:Cd:=(.seq (.seq (.reg [41,42,43] [.o [.mov 41 (.t 8),.mov 42 (.t 7),.len 43 (.t 42),.bin 44 .lss (.t 41) (.t 43)]]) yub) ygo)
def zuu:Cd:=(.block 0 (.loop ygp))
def ygq:Cd:=(.cond (.t 102) .skip (.exit 2))
def ygr:Cd:=(.reg [103,104] [.o [.mov 103 (.t 11),.bin 104 .add (.t 103) (cI 1),.asg 11 (.t 104)]])
def ygs:Cd:=(.seq (.block 3 (.reg [102,105,106,107,108,109,110,111,112,113,114,115,116,117,118,119,120,121,122,123,124,125] [.o [.mov 105 (.t 10),.mov 106 (.t 11),.mov 107 (.t 10),.mov 108 (.t 11),.mov 109 (.t 10),.mov 110 (.t 11),.mov 111 (.t 11),.bin 112 .mul (cI 3) (.t 111),.bin 113 .add (.t 112) (cI 2),.mov 114 (.t 11),.bin 115 .mul (cI 3) (.t 114),.bin 116 .add (.t 115) (cI 1),.mov 117 (.t 11),.bin 118 .mul (cI 3) (.t 117),.bin 119 .add (.t 118) (cI 3),.iaddr 120 14 (.t 105) (.t 106),.faddr 121 12 (.t 120),.st 1 (.t 121) (.t 113),.iaddr 122 14 (.t 107) (.t 108),.faddr 123 11 (.t 122),.st 1 (.t 123) (.t 116),.iaddr 124 14 (.t 109) (.t 110),.faddr 125 13 (.t 124),.st 1 (.t 125) (.t 119)]])) ygr)
def ygt:Cd:=(.seq (.seq (.reg [99,100,101] [.o [.mov 99 (.t 11),.mov 100 (.t 10),.len 101 (.t 100),.bin 102 .lss (.t 99) (.t 101)]]) ygq) ygs)
def zuv:Cd:=(.block 2 (.loop ygt))
def ygu:Cd:=(.cond (.t 139) .skip (.exit 4))
def ygv:Cd:=(.draw [[],[],[],[1,2],[3],[4],[],[],[6,7],[8],[9],[0,5,10]] [160,161,162,163,164,165,166,167,168,169,170,171,172] [.o [.ld 161 3 true (.t 14),.mov 162 (.t 10),.mov 163 (.t 15),.iaddr 164 14 (.t 162) (.t 163),.faddr 165 0 (.t 164),.ld 166 1 false (.t 165),.mov 167 (.t 10),.mov 168 (.t 15),.iaddr 169 14 (.t 167) (.t 168),.faddr 170 1 (.t 169),.ld 171 6 true (.t 170)],.call none 172 77 [(.t 161),(.t 166),(.t 171)]])
def ygw:Cd:=(.cond (.t 160) ygv .skip)
def zuw:Cd:=(.seq (.reg [158,159] [.o [.mov 158 (.t 15),.mov 159 (.t 12),.bin 160 .lss (.t 158) (.t 159)]]) ygw)
def zpt:Cd:=(.reg [160,140,141] [.o [.mov 140 (.t 15),.bin 141 .add (.t 140) (cI 1),.asg 15 (.t 141)]])
def ygx:Cd:=(.seq (.block 5 (.seq (.draw [[],[],[],[],[],[3,4],[5],[6],[],[],[8,9],[10],[11],[2,7,12],[0,1,0,1,2,3,4,5,6,7,8,9,10,11,12,13],[14,0,1,2,3,4,5,6,7,8,9,10,11,12,13],[15,13,13,0,1,2,3,4,5,6,7,8,9,10,11,12,13]] [139,142,143,144,145,146,147,148,149,150,151,152,153,154,155,156,157] [.o [.mov 142 (.t 10),.mov 143 (.t 15),.ld 144 3 true (.t 13),.mov 145 (.t 10),.mov 146 (.t 15),.iaddr 147 14 (.t 145) (.t 146),.faddr 148 0 (.t 147),.ld 149 1 false (.t 148),.mov 150 (.t 10),.mov 151 (.t 15),.iaddr 152 14 (.t 150) (.t 151),.faddr 153 1 (.t 152),.ld 154 6 true (.t 153)],.call none 155 77 [(.t 144),(.t 149),(.t 154)],.o [.iaddr 156 14 (.t 142) (.t 143),.faddr 157 7 (.t 156),.st 4 (.t 157) (.t 155)]]) zuw)) zpt)
def ygy:Cd:=(.seq (.seq (.reg [136,137,138] [.o [.mov 136 (.t 15),.mov 137 (.t 10),.len 138 (.t 137),.bin 139 .lss (.t 136) (.t 138)]]) ygu) ygx)
def zux:Cd:=(.block 4 (.loop ygy))
def ygz:Cd:=(.cond (.t 183) .skip (.exit 6))
def yh0:Cd:=(.reg [184,185] [.o [.mov 184 (.t 18),.bin 185 .add (.t 184) (cI 1),.asg 18 (.t 185)]])
def yh1:Cd:=(.seq (.block 7 (.draw [[],[],[],[1,2],[3],[4],[],[],[6,7],[8],[9],[0,5,10]] [183,186,187,188,189,190,191,192,193,194,195,196,197] [.o [.ld 186 3 true (.t 17),.mov 187 (.t 10),.mov 188 (.t 18),.iaddr 189 14 (.t 187) (.t 188),.faddr 190 0 (.t 189),.ld 191 1 false (.t 190),.mov 192 (.t 10),.mov 193 (.t 18),.iaddr 194 14 (.t 192) (.t 193),.faddr 195 1 (.t 194),.ld 196 6 true (.t 195)],.call none 197 77 [(.t 186),(.t 191),(.t 196)]])) yh0)
def yh2:Cd:=(.seq (.seq (.reg [174,175,176,177,178,179,180,181,182] [.o [.mov 174 (.t 18),.mov 175 (.t 0),.len 176 (.t 175),.bin 177 .leq (.t 174) (.t 176),.mov 178 (.t 177)],.g 178 true [.mov 179 (.t 18),.mov 180 (.t 10),.len 181 (.t 180),.bin 182 .lss (.t 179) (.t 181)],.o [.pick 183 (.t 178) (.t 182) (cB false)]]) ygz) yh1)
def yh3:Cd:=(.block 6 (.loop yh2))
def yh4:Cd:=(.cond (.t 199) .skip (.exit 8))
def yh5:Cd:=(.reg [217,218] [.call none 218 74 [],.o [.asg 21 (.t 218)]])
def yh6:Cd:=(.cond (.t 217) yh5 .skip)
def zpu:Cd:=(.reg [21,248,249,250,251,252] [.o [.mov 248 (.t 16),.mov 249 (.t 21),.s2b 250 (.t 249),.bs1 251 1 (.t 250),.app 252 1 24 (.t 248) (.t 251),.asg 16 (.t 252)]])
def zuy:Cd:=(.seq (.draw [[],[0],[1],[2,1],[1],[3,4,1],[5,1],[6,1],[7,1,1],[8],[9,8],[8],[10,11,8],[12,8],[13,8,8],[14],[15,14],[14],[16,17,14],[18,14],[14],[20,14],[14],[21,22,14],[23,14],[19,24,14],[14,25,8],[8,26,1],[1,27],[28,14,0,1,2,3,4,5,6,7,8,9,10,11,12,13,14,15,16,17,18,19,20,21,22,23,24,25,26,27,28]] [217,219,220,221,222,223,224,225,226,227,228,229,230,231,232,233,234,235,236,237,238,239,240,241,242,243,244,245,246,247] [.o [.mov 219 (.t 19),.mov 220 (.t 219)],.g 220 true [.faddr 221 0 (.t 17),.ld 222 1 false (.t 221),.mov 223 (.t 20),.iaddr 224 1 (.t 222) (.t 223),.ld 225 1 false (.t 224),.un 226 .not (.t 225),.mov 227 (.t 226)],.g 227 false [.faddr 228 0 (.t 14),.ld 229 1 false (.t 228),.mov 230 (.t 20),.iaddr 231 1 (.t 229) (.t 230),.ld 232 1 false (.t 231),.mov 233 (.t 232)],.g 233 true [.faddr 234 1 (.t 14),.ld 235 1 false (.t 234),.mov 236 (.t 20),.iaddr 237 1 (.t 235) (.t 236),.ld 238 1 false (.t 237),.faddr 239 1 (.t 17),.ld 240 1 false (.t 239),.mov 241 (.t 20),.iaddr 242 1 (.t 240) (.t 241),.ld 243 1 false (.t 242),.bin 244 .eql (.t 238) (.t 243)],.g 227 false [.pick 245 (.t 233) (.t 244) (cB false)],.g 220 true [.pick 246 (.t 227) (cB true) (.t 245)],.o [.pick 247 (.t 220) (.t 246) (cB false),.asg 19 (.t 247)]]) zpu)
def yh7:Cd:=(.seq (.seq (.reg [212,213,214,215,216] [.o [.faddr 212 0 (.t 14),.ld 213 1 false (.t 212),.mov 214 (.t 20),.iaddr 215 1 (.t 213) (.t 214),.ld 216 1 false (.t 215),.un 217 .not (.t 216)]]) yh6) zuy)
def zuz:Cd:=(.reg [200,201] [.o [.mov 200 (.t 20),.bin 201 .add (.t 200) (cI 1),.asg 20 (.t 201)]])
def yh8:Cd:=(.seq (.block 9 (.seq (.reg [199,203,204,205,206,207,208,209,202,210,211,22] [.o [.mov 203 (.t 20),.faddr 204 1 (.t 14),.ld 205 1 false (.t 204),.mov 206 (.t 20),.iaddr 207 1 (.t 205) (.t 206),.ld 208 1 false (.t 207)],.call none 209 73 [(.t 203),(.t 208)],.o [.mov 202 (.t 209),.ext 210 202 0,.ext 211 202 1,.asg 21 (.t 210),.asg 22 (.t 211)]]) yh7)) zuz)
def yh9:Cd:=(.seq (.seq (.reg [198] [.o [.mov 198 (.t 20),.bin 199 .lss (.t 198) (cI 5)]]) yh4) yh8)
def zv0:Cd:=(.block 8 (.loop yh9))
def yha:Cd:=(.seq (.reg [10,16,259,260,261,262,263,264,265,266] [.call none 260 66 [],.o [.mov 261 (.t 260)],.g 261 true [.mov 262 (.t 10),.mov 263 (.t 16)],.call (some (261,true)) 264 69 [(.t 262),(cI 5),(cI 3),(.t 263)],.g 261 true [.bin 265 .eql (.t 264) (cI 0)],.o [.pick 266 (.t 261) (.t 265) (cB false),.asg 6 (.t 266)]]) .ret)
def zpv:Cd:=(.cond (.t 259) yha .skip)
def zpw:Cd:=(.seq (.reg [10,16,259,267,268,269,270,271,272] [.call none 267 66 [],.o [.mov 268 (.t 267)],.g 268 true [.mov 269 (.t 10)],.call (some (268,true)) 270 69 [(.t 269),(cI 5),(cI 3),(.c (.sl true () 1 0 []))],.g 268 true [.bin 271 .eql (.t 270) (cI (-1))],.o [.pick 272 (.t 268) (.t 271) (cB false),.asg 6 (.t 272)]]) .ret)
def zk8:Cd:=(.seq (.seq (.reg [0,12,14,17,19,20,198,199,253,254,255,256,257,258] [.o [.mov 253 (.t 12),.mov 254 (.t 0),.len 255 (.t 254),.bin 256 .gtr (.t 253) (.t 255),.mov 257 (.t 256)],.g 257 false [.mov 258 (.t 19)],.o [.pick 259 (.t 257) (cB true) (.t 258)]]) zpv) zpw)
def yhb:Cd:=(.seq (.seq (.reg [] [.o [.asg 20 (cI 0)]]) zv0) zk8)
def yhc:Cd:=(.seq (.reg [18,174,175,176,177,178,179,180,181,182,183] [.o [.asg 19 (cB true)]]) yhb)
def yhd:Cd:=(.seq (.seq (.reg [] [.o [.asg 18 (cI 0)]]) yh3) yhc)
def yhe:Cd:=(.seq (.reg [173] [.call none 173 76 [(cI 5),(cI 3)],.o [.alloc 17 [(.sl true () 1 0 []),(.sl true () 1 0 []),(.sl true () 1 0 [])],.st 3 (.t 17) (.t 173)]]) yhd)
def zgr:Cd:=(.seq (.reg [13,15,136,137,138,139] [.o [.asg 16 (.c (.sl true () 1 0 []))]]) yhe)
def yhf:Cd:=(.seq (.seq (.reg [] [.o [.asg 15 (cI 0)]]) zux) zgr)
def yhg:Cd:=(.seq (.reg [134,135] [.call none 134 76 [(cI 5),(cI 3)],.call none 135 76 [(cI 5),(cI 3)],.o [.alloc 13 [(.sl true () 1 0 []),(.sl true () 1 0 []),(.sl true () 1 0 [])],.alloc 14 [(.sl true () 1 0 []),(.sl true () 1 0 []),(.sl true () 1 0 [])],.st 3 (.t 13) (.t 134),.st 3 (.t 14) (.t 135)]]) yhf)
def zpx:Cd:=(.seq (.reg [2,11,99,100,101,102,126,127,128,129,130,131,132,133] [.o [.mov 126 (.t 2),.conv 127 .u64 (.t 126),.mov 128 (.t 10),.len 129 (.t 128),.bin 130 .add (.t 129) (cI 1),.conv 131 .u64 (.t 130),.bin 132 .rem (.t 127) (.t 131),.conv 133 .i64 (.t 132),.asg 12 (.t 133)]]) yhg)
def yhh:Cd:=(.seq (.seq (.reg [] [.o [.asg 11 (cI 0)]]) zuv) zpx)
def zk9:Cd:=(.seq (.reg [7,8,41,42,43,44,97,98] [.o [.mov 97 (.t 7)],.call none 98 41 [(.t 97),(.c (.sl true () 1 0 []))],.o [.asg 10 (.t 98)]]) yhh)
def yhi:Cd:=(.seq (.seq (.reg [] [.o [.asg 8 (cI 0)]]) zuu) zk9)
def zv1:Cd:=(.seq (.reg [1,30,32,33,34,35,36,37,38,39,40] [.o [.bs0 32 7,.mov 33 (.t 0),.app 34 7 72 (.t 32) (.t 33),.build 35 [(.sc (.int .i64 0)),(.sc (.int .i64 0)),(.sc (.int .i64 0)),(.sc (.int .i64 0)),(.sc (.int .i64 0)),(.sc (.slice none 0 0))] [(0,1,(cI 6))],.build 36 [(.sc (.int .i64 0)),(.sc (.int .i64 0)),(.sc (.int .i64 0)),(.sc (.int .i64 0)),(.sc (.int .i64 0)),(.sc (.int .i64 0)),(.sc (.slice none 0 0))] [(1,6,(.t 35))],.bs1 37 7 (.t 36),.app 38 7 72 (.t 34) (.t 37),.mov 39 (.t 1),.app 40 7 72 (.t 38) (.t 39),.asg 7 (.t 40)]]) yhi)
def yhj:Cd:=(.seq (.seq (.reg [23,24,25,26,27,28,29] [.o [.mov 23 (.t 0),.len 24 (.t 23),.bin 25 .gtr (.t 24) (cI 30),.mov 26 (.t 25)],.g 26 false [.mov 27 (.t 1),.len 28 (.t 27),.bin 29 .gtr (.t 28) (cI 10)],.o [.pick 30 (.t 26) (cB true) (.t 29)]]) yua) zv1)
def z51:FI:=⟨273,3,[.t 6],(.seq (.reg [6] [.o [.asg 6 (cB false)]]) yhj)⟩
theorem yyc:z25 Try.prog 20 z51:=⟨_,_,Try.func20,rfl,by kernel_rfl,by kernel_rfl,Try.call20⟩
def yuh:Cd:=(.seq (.reg [3,5,7,8,9,34] [.o [.asg 0 (cB false)]]) .ret)
def yui:Cd:=(.cond (.t 34) yuh .skip)
def yuj:Cd:=(.seq (.reg [3,5,7,8,9,37,38,39,40,41,42,43,44,45,46,47,48,49,50,51,52,53,54,55,56,57,58,59,60,61,62,63,64,65,66,67,68,69,70,71,72,73,74,75,76,77,78,79,80,81,82,83,84,85,86,87,88,89,90,91,92,93,94,95,96,97] [.o [.mov 37 (.t 7)],.call none 38 67 [(.t 37),(cI 1),(cI 1),(cI 0)],.o [.bin 39 .eql (.t 38) (cI 5),.mov 40 (.t 39)],.g 40 true [.mov 41 (.t 7),.slice 42 14 (.t 41) none (some (cI 1))],.call (some (40,true)) 43 67 [(.t 42),(cI 1),(cI 1),(cI 0)],.g 40 true [.bin 44 .eql (.t 43) (cI 0)],.o [.pick 45 (.t 40) (.t 44) (cB false),.mov 46 (.t 45)],.g 46 true [.mov 47 (.t 7),.mov 48 (.t 3),.bs1 49 1 (.t 48)],.call (some (46,true)) 50 69 [(.t 47),(cI 1),(cI 1),(.t 49)],.g 46 true [.bin 51 .eql (.t 50) (cI 0)],.o [.pick 52 (.t 46) (.t 51) (cB false),.mov 53 (.t 52)],.g 53 true [.mov 54 (.t 7),.mov 55 (.t 8),.bs1 56 1 (.t 55)],.call (some (53,true)) 57 69 [(.t 54),(cI 1),(cI 1),(.t 56)],.g 53 true [.bin 58 .eql (.t 57) (cI 1)],.o [.pick 59 (.t 53) (.t 58) (cB false),.mov 60 (.t 59)],.g 60 true [.mov 61 (.t 7),.slice 62 14 (.t 61) none (some (cI 1)),.mov 63 (.t 8),.bs1 64 1 (.t 63)],.call (some (60,true)) 65 69 [(.t 62),(cI 1),(cI 1),(.t 64)],.g 60 true [.bin 66 .eql (.t 65) (cI 0)],.o [.pick 67 (.t 60) (.t 66) (cB false),.mov 68 (.t 67)],.g 68 true [.mov 69 (.t 7),.mov 70 (.t 5),.bs1 71 1 (.t 70)],.call (some (68,true)) 72 69 [(.t 69),(cI 1),(cI 1),(.t 71)],.g 68 true [.bin 73 .eql (.t 72) (cI 1)],.o [.pick 74 (.t 68) (.t 73) (cB false),.mov 75 (.t 74)],.g 75 true [.mov 76 (.t 7),.mov 77 (.t 9),.bs1 78 1 (.t 77)],.call (some (75,true)) 79 69 [(.t 76),(cI 1),(cI 1),(.t 78)],.g 75 true [.bin 80 .eql (.t 79) (cI 1)],.o [.pick 81 (.t 75) (.t 80) (cB false),.mov 82 (.t 81)],.g 82 true [.mov 83 (.t 7),.slice 84 14 (.t 83) none (some (cI 1)),.mov 85 (.t 9),.bs1 86 1 (.t 85)],.call (some (82,true)) 87 69 [(.t 84),(cI 1),(cI 1),(.t 86)],.g 82 true [.bin 88 .eql (.t 87) (cI 0)],.o [.pick 89 (.t 82) (.t 88) (cB false),.mov 90 (.t 89)],.g 90 true [.mov 91 (.t 7),.slice 92 14 (.t 91) (some (cI 1)) none,.mov 93 (.t 3),.bs1 94 1 (.t 93)],.call (some (90,true)) 95 69 [(.t 92),(cI 1),(cI 1),(.t 94)],.g 90 true [.bin 96 .eql (.t 95) (cI (-1))],.o [.pick 97 (.t 90) (.t 96) (cB false),.asg 0 (.t 97)]]) .ret)
def yuk:Cd:=(.seq (.reg [34,35,36] [.o [.mov 35 (.t 9),.iaddr 36 1 (.t 35) (cI 20),.st 1 (.t 36) (.c (.sc (.int .u8 9)))]]) yuj)
def yul:Cd:=(.seq (.seq (.reg [32,33] [.o [.mov 32 (.t 9),.len 33 (.t 32),.bin 34 .neq (.t 33) (cI 24)]]) yui) yuk)
def yum:Cd:=(.seq (.reg [29,30,31] [.o [.bs0 29 1,.mov 30 (.t 3),.app 31 1 1 (.t 29) (.t 30),.asg 9 (.t 31)]]) yul)
def yun:Cd:=(.seq (.reg [28] [.call none 28 75 [],.o [.asg 8 (.t 28)]]) yum)
def yuo:Cd:=(.seq (.reg [1,2,25,26,27] [.o [.ld 25 14 true (.t 1),.ld 26 14 true (.t 2),.bsa 27 14 [(.t 25),(.t 26)],.asg 7 (.t 27)]]) yun)
def yup:Cd:=(.seq (.reg [20,21,22,19,23,24,6] [.o [.bsn 20 [(.c (.sc (.int .u8 48))),(.c (.sc (.int .u8 49))),(.c (.sc (.int .u8 50))),(.c (.sc (.int .u8 51))),(.c (.sc (.int .u8 52))),(.c (.sc (.int .u8 53))),(.c (.sc (.int .u8 54))),(.c (.sc (.int .u8 55))),(.c (.sc (.int .u8 56))),(.c (.sc (.int .u8 57))),(.c (.sc (.int .u8 97))),(.c (.sc (.int .u8 98))),(.c (.sc (.int .u8 99))),(.c (.sc (.int .u8 100))),(.c (.sc (.int .u8 101))),(.c (.sc (.int .u8 102)))],.cvb 21 20],.call none 22 113 [(cI 0),(.t 21)],.o [.mov 19 (.t 22),.ext 23 19 0,.ext 24 19 1,.asg 5 (.t 23),.asg 6 (.t 24)]]) yuo)
def yuq:Cd:=(.seq (.reg [15,16,14,17,18,4] [.o [.make 15 1 1 [(.sc (.int .u8 0))] (cI 16) (cI 16)],.call none 16 113 [(cI 0),(.t 15)],.o [.mov 14 (.t 16),.ext 17 14 0,.ext 18 14 1,.asg 3 (.t 17),.asg 4 (.t 18)]]) yup)
def yhk:Cd:=(.seq (.reg [12,13] [.o [.build 12 [(.sc (.int .i64 0)),(.sc (.int .i64 0)),(.sc (.int .i64 0)),(.sc (.int .i64 0)),(.sc (.int .i64 0)),(.sc (.slice none 0 0))] [(0,1,(cI 6))],.build 13 [(.sc (.int .i64 0)),(.sc (.int .i64 0)),(.sc (.int .i64 0)),(.sc (.int .i64 0)),(.sc (.int .i64 0)),(.sc (.int .i64 0)),(.sc (.slice none 0 0)),(.sc (.int .i64 0)),(.sc (.int .i64 0)),(.sc (.int .i64 0)),(.sc (.slice none 0 0)),(.sc (.int .i64 0)),(.sc (.int .i64 0)),(.sc (.int .i64 0))] [(1,6,(.t 12)),(11,1,(cI 4)),(12,1,(cI 5)),(13,1,(cI 6))],.alloc 2 [(.sc (.int .i64 0)),(.sc (.int .i64 0)),(.sc (.int .i64 0)),(.sc (.int .i64 0)),(.sc (.int .i64 0)),(.sc (.int .i64 0)),(.sl true () 1 0 []),(.sc (.int .i64 0)),(.sc (.int .i64 0)),(.sc (.int .i64 0)),(.sl true () 1 0 []),(.sc (.int .i64 0)),(.sc (.int .i64 0)),(.sc (.int .i64 0))],.st 14 (.t 2) (.t 13)]]) yuq)
def yhl:Cd:=(.seq (.reg [10,11] [.o [.build 10 [(.sc (.int .i64 0)),(.sc (.int .i64 0)),(.sc (.int .i64 0)),(.sc (.int .i64 0)),(.sc (.int .i64 0)),(.sc (.slice none 0 0))] [(0,1,(cI 1))],.build 11 [(.sc (.int .i64 0)),(.sc (.int .i64 0)),(.sc (.int .i64 0)),(.sc (.int .i64 0)),(.sc (.int .i64 0)),(.sc (.int .i64 0)),(.sc (.slice none 0 0)),(.sc (.int .i64 0)),(.sc (.int .i64 0)),(.sc (.int .i64 0)),(.sc (.slice none 0 0)),(.sc (.int .i64 0)),(.sc (.int .i64 0)),(.sc (.int .i64 0))] [(1,6,(.t 10)),(11,1,(cI 1)),(12,1,(cI 2)),(13,1,(cI 3))],.alloc 1 [(.sc (.int .i64 0)),(.sc (.int .i64 0)),(.sc (.int .i64 0)),(.sc (.int .i64 0)),(.sc (.int .i64 0)),(.sc (.int .i64 0)),(.sl true () 1 0 []),(.sc (.int .i64 0)),(.sc (.int .i64 0)),(.sc (.int .i64 0)),(.sl true () 1 0 []),(.sc (.int .i64 0)),(.sc (.int .i64 0)),(.sc (.int .i64 0))],.st 14 (.t 1) (.t 11)]]) yhk)
def ywz:FI:=⟨98,0,[.t 0],(.seq (.reg [0] [.o [.asg 0 (cB false)]]) yhl)⟩
theorem yyd:z25 Try.prog 66 ywz:=⟨_,_,Try.func66,rfl,by kernel_rfl,by kernel_rfl,Try.call66⟩
def yur:Cd:=(.seq (.reg [9,17] [.o [.asg 8 (cI (-1))]]) .ret)
def yus:Cd:=(.cond (.t 17) yur .skip)
def yut:Cd:=(.seq (.reg [9,17,18] [.o [.ld 18 1 false (.t 9),.asg 8 (.t 18)]]) .ret)
def yuu:Cd:=(.seq (.seq (.reg [10,16] [.o [.mov 16 (.t 10),.bin 17 .neq (.t 16) (cI 0)]]) yus) yut)
def yuv:Cd:=(.seq (.reg [1,2,4,7,11,12,13,14,15] [.o [.ld 11 1 false (.t 4),.mov 12 (.t 1),.mov 13 (.t 2),.mkf 14 114 [(.t 4),(.t 7),(.t 9)]],.call none 15 88 [(.t 11),(.t 12),(.t 13),(.t 14)],.o [.asg 10 (.t 15)]]) yuu)
def yuw:Cd:=(.seq (.reg [] [.o [.alloc 9 [(.sc (.int .i64 0))],.st 1 (.t 9) (cI 0)]]) yuv)
def yux:FI:=⟨19,4,[.t 8],(.seq (.reg [0,3,8] [.o [.box 4 (.t 0),.box 7 (.t 3),.asg 8 (cI 0)]]) yuw)⟩
theorem yye:z25 Try.prog 67 yux:=⟨_,_,Try.func67,rfl,by kernel_rfl,by kernel_rfl,Try.call67⟩
def yuy:Cd:=(.seq (.reg [0,1,2,3,26] [.o [.asg 8 (cI (-1))]]) .ret)
def yuz:Cd:=(.cond (.t 26) yuy .skip)
def yv0:Cd:=(.seq (.reg [0,1,2,27,28,29,9,75,76,77] [.o [.mov 76 (.t 9),.bin 77 .add (.t 76) (cI 1),.asg 8 (.t 77)]]) .ret)
def yhm:Cd:=(.cond (.t 75) yv0 .skip)
def yhn:Cd:=(.seq (.reg [15,74] [.o [.mov 74 (.t 15),.un 75 .not (.t 74)]]) yhm)
def yv1:Cd:=(.seq (.reg [11,12,13,14,51,52,53,54,55,56,57,58,59,60,61,62,63,64,65,66,67,68,69,70,71,72,73] [.o [.mov 51 (.t 14),.bin 52 .eql (.t 51) (cI 0),.mov 53 (.t 52)],.g 53 true [.ld 54 2 true (.t 12),.mov 55 (.t 13)],.call (some (53,true)) 56 118 [(.t 54),(.t 55)],.o [.pick 57 (.t 53) (.t 56) (cB false),.mov 58 (.t 57)],.g 58 false [.mov 59 (.t 14),.bin 60 .eql (.t 59) (cI 11),.mov 61 (.t 60)],.g 61 true [.mov 62 (.t 11),.bin 63 .eql (.t 62) (cI 0)],.g 58 false [.pick 64 (.t 61) (.t 63) (cB false)],.o [.pick 65 (.t 58) (cB true) (.t 64),.mov 66 (.t 65)],.g 66 false [.mov 67 (.t 14),.bin 68 .eql (.t 67) (cI 10),.mov 69 (.t 68)],.g 69 true [.faddr 70 1 (.t 12),.ld 71 1 false (.t 70)],.g 66 false [.pick 72 (.t 69) (.t 71) (cB false)],.o [.pick 73 (.t 66) (cB true) (.t 72),.asg 15 (.t 73)]]) yhn)
def yv2:Cd:=(.seq (.reg [10,46,47,48,45,49,50] [.o [.mov 46 (.t 9),.mov 47 (.t 10)],.call none 48 117 [(.t 46),(.t 47)],.o [.mov 45 (.t 48),.ext 49 45 0,.ext 50 45 1,.asg 13 (.t 49),.asg 14 (.t 50)]]) yv1)
def yv3:Cd:=(.seq (.reg [39,40,41,42,43,44] [.o [.mov 39 (.t 0),.mov 40 (.t 1),.mov 41 (.t 2),.mov 42 (.t 9),.mov 43 (.t 11)],.call none 44 116 [(.t 39),(.t 40),(.t 41),(.t 42),(.t 43)],.o [.alloc 12 [(.sl true () 1 0 []),(.sc (.bool false))],.st 2 (.t 12) (.t 44)]]) yv2)
def yho:Cd:=(.seq (.reg [34,35,36,37,38] [.o [.mov 34 (.t 0),.mov 35 (.t 1),.mov 36 (.t 2),.mov 37 (.t 9)],.call none 38 67 [(.t 34),(.t 35),(.t 36),(.t 37)],.o [.asg 11 (.t 38)]]) yv3)
def yv4:Cd:=(.reg [9,75,78] [.o [.bin 78 .add (.t 29) (cI 1),.mov 29 (.t 78)]])
def yhp:Cd:=(.seq (.block 1 (.seq (.reg [30,31,32,33] [.o [.mov 31 (.t 29),.iaddr 32 1 (.t 27) (.t 29),.ld 33 1 false (.t 32),.asg 9 (.t 31),.asg 10 (.t 33)]]) yho)) yv4)
def yhq:Cd:=(.seq (.cond (.t 30) .skip (.exit 0)) yhp)
def yhr:Cd:=(.seq (.reg [] [.o [.bin 30 .lss (.t 29) (.t 28)]]) yhq)
def yhs:Cd:=(.block 0 (.loop yhr))
def yht:Cd:=(.seq (.reg [0,1,2,27,28,29,30] [.o [.asg 8 (cI 0)]]) .ret)
def yhu:Cd:=(.seq (.seq (.reg [3,26] [.o [.mov 27 (.t 3),.len 28 (.t 27),.mov 29 (cI 0)]]) yhs) yht)
def yhv:Cd:=(.seq (.seq (.reg [16,17,18,19,20,21,22,23,24,25] [.o [.mov 16 (.t 0),.mov 17 (.t 1),.mov 18 (.t 2)],.call none 19 28 [(.t 16),(.t 17),(.t 18)],.o [.bin 20 .neq (.t 19) (cI 0),.mov 21 (.t 20)],.g 21 false [.mov 22 (.t 3),.len 23 (.t 22),.mov 24 (.t 1),.bin 25 .neq (.t 23) (.t 24)],.o [.pick 26 (.t 21) (cB true) (.t 25)]]) yuz) yhu)
def zt6:FI:=⟨79,4,[.t 8],(.seq (.reg [8] [.o [.asg 8 (cI 0)]]) yhv)⟩
theorem yyf:z25 Try.prog 69 zt6:=⟨_,_,Try.func69,rfl,by kernel_rfl,by kernel_rfl,Try.call69⟩
def yv5:Cd:=(.seq (.reg [0,1,17] [.o [.asg 4 (.c (.sc (.string ⟨#[]⟩))),.asg 5 (cI 1)]]) .ret)
def yv6:Cd:=(.cond (.t 17) yv5 .skip)
def yv7:Cd:=(.seq (.reg [6,25,26,27,28,29] [.o [.mov 25 (.t 6)],.call none 26 121 [(.t 25)],.call none 27 120 [(.t 26),(cI 4)],.o [.mov 28 (.t 6),.bin 29 .add (.t 27) (.t 28),.asg 4 (.t 29),.asg 5 (cI 0)]]) .ret)
def yv8:Cd:=(.seq (.reg [0,1,17,18,19,20,21,22,23,24] [.o [.mov 18 (.t 0),.bin 19 .add (.t 18) (cI 1),.conv 20 .u32 (.t 19)],.call none 21 120 [(.t 20),(cI 2)],.o [.bin 22 .add (.t 21) (.c (.sc (.string ⟨#[90,165]⟩))),.mov 23 (.t 1),.bin 24 .add (.t 22) (.t 23),.asg 6 (.t 24)]]) yv7)
def yv9:Cd:=(.seq (.seq (.reg [7,8,9,10,11,12,13,14,15,16] [.o [.mov 7 (.t 0),.bin 8 .lss (.t 7) (cI 0),.mov 9 (.t 8)],.g 9 false [.mov 10 (.t 0),.bin 11 .geq (.t 10) (cI 48)],.o [.pick 12 (.t 9) (cB true) (.t 11),.mov 13 (.t 12)],.g 13 false [.mov 14 (.t 1),.slen 15 (.t 14),.bin 16 .neq (.t 15) (cI 16)],.o [.pick 17 (.t 13) (cB true) (.t 16)]]) yv6) yv8)
def y3b:FI:=⟨30,2,[.t 4,.t 5],(.seq (.reg [4,5] [.o [.asg 4 (.c (.sc (.string ⟨#[]⟩))),.asg 5 (cI 0)]]) yv9)⟩
theorem yyg:z25 Try.prog 73 y3b:=⟨_,_,Try.func73,rfl,by kernel_rfl,by kernel_rfl,Try.call73⟩
def yva:Cd:=(.seq (.reg [1,2] [.o [.make 1 1 1 [(.sc (.int .u8 0))] (cI 24) (cI 24),.b2s 2 (.t 1),.asg 0 (.t 2)]]) .ret)
def yx0:FI:=⟨3,0,[.t 0],(.seq (.reg [0] [.o [.asg 0 (.c (.sc (.string ⟨#[]⟩)))]]) yva)⟩
theorem yyh:z25 Try.prog 74 yx0:=⟨_,_,Try.func74,rfl,by kernel_rfl,by kernel_rfl,Try.call74⟩
def yvb:Cd:=(.seq (.reg [1] [.o [.make 1 1 1 [(.sc (.int .u8 0))] (cI 24) (cI 24),.asg 0 (.t 1)]]) .ret)
def yx1:FI:=⟨2,0,[.t 0],(.seq (.reg [0] [.o [.asg 0 (.c (.sl true () 1 0 []))]]) yvb)⟩
theorem yyi:z25 Try.prog 75 yx1:=⟨_,_,Try.func75,rfl,by kernel_rfl,by kernel_rfl,Try.call75⟩
def yhw:Cd:=(.seq (.reg [0,1,16] [.o [.asg 4 (.c (.sl true () 1 0 [])),.asg 5 (cI 1)]]) .ret)
def yhx:Cd:=(.cond (.t 16) yhw .skip)
def yhy:Cd:=(.reg [8,43,44,45,46,47,48,49,50,51] [.o [.mov 43 (.t 6),.mov 44 (.t 8),.mov 45 (.t 7),.mov 46 (.t 8),.bin 47 .mul (cI 8) (.t 46),.conv 48 .u64 (.t 47),.bin 49 .shr (.t 45) (.t 48),.conv 50 .u8 (.t 49),.iaddr 51 1 (.t 43) (.t 44),.st 1 (.t 51) (.t 50)]])
def yhz:Cd:=(.reg [52] [.o [.bin 52 .add (.t 40) (cI 1),.mov 40 (.t 52)]])
def yi0:Cd:=(.seq (.block 1 (.seq (.reg [41,42] [.o [.mov 42 (.t 40),.asg 8 (.t 42)]]) yhy)) yhz)
def yi1:Cd:=(.seq (.cond (.t 41) .skip (.exit 0)) yi0)
def yi2:Cd:=(.seq (.reg [] [.o [.bin 41 .lss (.t 40) (cI 4)]]) yi1)
def yi3:Cd:=(.block 0 (.loop yi2))
def yi4:Cd:=(.seq (.reg [6,7,40,41,53] [.o [.mov 53 (.t 6),.asg 4 (.t 53),.asg 5 (cI 0)]]) .ret)
def yi5:Cd:=(.seq (.seq (.reg [] [.o [.mov 40 (cI 0)]]) yi3) yi4)
def y0i:Cd:=(.seq (.reg [37,38,39] [.o [.mov 37 (.t 6),.slice 38 1 (.t 37) (some (cI 4)) none],.call none 39 153 [(.t 38)],.o [.asg 7 (.t 39)]]) yi5)
def y0j:Cd:=(.seq (.reg [1,33,34,35,36] [.o [.mov 33 (.t 6),.slice 34 1 (.t 33) (some (cI 8)) none,.mov 35 (.t 1),.cpy 36 1 (.t 34) (.t 35)]]) y0i)
def y0k:Cd:=(.seq (.reg [0,18,19,20,21,22,23,24,25,26,27,28,29,30,31,32] [.o [.mov 18 (.t 6),.mov 19 (.t 6),.mov 20 (.t 6),.mov 21 (.t 6),.mov 22 (.t 0),.bin 23 .add (.t 22) (cI 1),.conv 24 .u8 (.t 23),.mov 25 (.t 0),.bin 26 .add (.t 25) (cI 1),.bin 27 .shr (.t 26) (.c (.sc (.int .u64 8))),.conv 28 .u8 (.t 27),.iaddr 29 1 (.t 18) (cI 4),.st 1 (.t 29) (.t 24),.iaddr 30 1 (.t 19) (cI 5),.st 1 (.t 30) (.t 28),.iaddr 31 1 (.t 20) (cI 6),.st 1 (.t 31) (.c (.sc (.int .u8 90))),.iaddr 32 1 (.t 21) (cI 7),.st 1 (.t 32) (.c (.sc (.int .u8 165)))]]) y0j)
def y0l:Cd:=(.seq (.reg [16,17] [.call none 17 75 [],.o [.asg 6 (.t 17)]]) y0k)
def y0m:Cd:=(.seq (.seq (.reg [9,10,11,12,13,14,15] [.o [.mov 9 (.t 0)],.call none 10 152 [(.t 9)],.o [.un 11 .not (.t 10),.mov 12 (.t 11)],.g 12 false [.mov 13 (.t 1),.len 14 (.t 13),.bin 15 .neq (.t 14) (cI 16)],.o [.pick 16 (.t 12) (cB true) (.t 15)]]) yhx) y0l)
def zpy:FI:=⟨54,2,[.t 4,.t 5],(.seq (.reg [4,5] [.o [.asg 4 (.c (.sl true () 1 0 [])),.asg 5 (cI 0)]]) y0m)⟩
theorem yvc:z25 Try.prog 113 zpy:=⟨_,_,Try.func113,rfl,by kernel_rfl,by kernel_rfl,Try.call113⟩
def yi6:Cd:=(.reg [4,7,59,60,61,62,63] [.o [.ld 60 1 false (.t 4),.faddr 61 12 (.t 7),.ld 62 1 false (.t 61),.mx 63 true (.t 60) (.t 62),.st 1 (.t 4) (.t 63)]])
def zv2:Cd:=(.cond (.t 59) yi6 .skip)
def zpz:Cd:=(.seq (.reg [3,6,8,30,31,32,33,34,35,36,37,38,39,40,41,42,43,44,45,46,47,48,49,50,51,52,53,54,55,56,57,58] [.o [.mov 30 (.t 8),.mov 31 (.t 30)],.g 31 true [.faddr 32 13 (.t 7),.ld 33 1 false (.t 32),.bin 34 .gtr (.t 33) (cI 0)],.o [.pick 35 (.t 31) (.t 34) (cB false),.mov 36 (.t 35)],.g 36 true [.faddr 37 7 (.t 7),.faddr 38 0 (.t 37),.ld 39 1 false (.t 38),.bin 40 .eql (.t 39) (cI 0)],.o [.pick 41 (.t 36) (.t 40) (cB false),.mov 42 (.t 41)],.g 42 true [.ld 43 1 false (.t 3),.bin 44 .geq (.t 43) (cI 0)],.o [.pick 45 (.t 42) (.t 44) (cB false),.mov 46 (.t 45)],.g 46 true [.ld 47 1 false (.t 3),.faddr 48 0 (.t 6),.ld 49 1 false (.t 48),.len 50 (.t 49),.bin 51 .lss (.t 47) (.t 50)],.o [.pick 52 (.t 46) (.t 51) (cB false),.mov 53 (.t 52)],.g 53 true [.faddr 54 0 (.t 6),.ld 55 1 false (.t 54),.ld 56 1 false (.t 3),.iaddr 57 1 (.t 55) (.t 56),.ld 58 1 false (.t 57)],.o [.pick 59 (.t 53) (.t 58) (cB false)]]) zv2)
def yi7:Cd:=(.seq (.reg [13,14,15,16,17,18,19,20,21,22,23,24,25,26,27,28,29] [.o [.faddr 13 1 (.t 7),.faddr 14 0 (.t 13),.ld 15 1 false (.t 14),.bin 16 .eql (.t 15) (cI 7),.mov 17 (.t 16)],.g 17 false [.faddr 18 1 (.t 7),.faddr 19 0 (.t 18),.ld 20 1 false (.t 19),.bin 21 .eql (.t 20) (cI 6),.mov 22 (.t 21)],.g 22 true [.faddr 23 1 (.t 7),.faddr 24 1 (.t 23),.ld 25 1 false (.t 24),.ld 26 1 false (.t 3),.bin 27 .eql (.t 25) (.t 26)],.g 17 false [.pick 28 (.t 22) (.t 27) (cB false)],.o [.pick 29 (.t 17) (cB true) (.t 28),.asg 8 (.t 29)]]) zpz)
def yi8:Cd:=(.seq (.reg [0,2,9,10,11,12] [.o [.ld 9 1 false (.t 2),.mov 10 (.t 0),.iaddr 11 14 (.t 9) (.t 10),.ld 12 14 true (.t 11),.alloc 7 [(.sc (.int .i64 0)),(.sc (.int .i64 0)),(.sc (.int .i64 0)),(.sc (.int .i64 0)),(.sc (.int .i64 0)),(.sc (.int .i64 0)),(.sl true () 1 0 []),(.sc (.int .i64 0)),(.sc (.int .i64 0)),(.sc (.int .i64 0)),(.sl true () 1 0 []),(.sc (.int .i64 0)),(.sc (.int .i64 0)),(.sc (.int .i64 0))],.st 14 (.t 7) (.t 12)]]) yi7)
def zik:FI:=⟨64,5,[],(.seq (.reg [1] [.o [.box 6 (.t 1)]]) yi8)⟩
theorem yvd:z25 Try.prog 114 zik:=⟨_,_,Try.func114,rfl,by kernel_rfl,by kernel_rfl,Try.call114⟩
def yi9:Cd:=(.reg [16,35,36,37,38,39,40,41,42,43,44,45,46,47,48] [.o [.faddr 35 1 (.t 11),.ld 36 1 false (.t 35),.mov 37 (.t 36)],.g 37 false [.faddr 38 12 (.t 16),.ld 39 1 false (.t 38),.bin 40 .eql (.t 39) (cI 0),.mov 41 (.t 40)],.g 41 true [.ld 42 14 true (.t 16),.ld 43 3 true (.t 13),.ld 44 1 false (.t 8)],.call (some (41,true)) 45 155 [(.t 42),(.t 43),(.t 44)],.g 37 false [.pick 46 (.t 41) (.t 45) (cB false)],.o [.pick 47 (.t 37) (cB true) (.t 46),.faddr 48 1 (.t 11),.st 1 (.t 48) (.t 47)]])
def zv3:Cd:=(.reg [49] [.o [.bin 49 .add (.t 31) (cI 1),.mov 31 (.t 49)]])
def yia:Cd:=(.seq (.block 1 (.seq (.reg [32,33,34] [.o [.iaddr 33 14 (.t 29) (.t 31),.ld 34 14 true (.t 33),.alloc 16 [(.sc (.int .i64 0)),(.sc (.int .i64 0)),(.sc (.int .i64 0)),(.sc (.int .i64 0)),(.sc (.int .i64 0)),(.sc (.int .i64 0)),(.sl true () 1 0 []),(.sc (.int .i64 0)),(.sc (.int .i64 0)),(.sc (.int .i64 0)),(.sl true () 1 0 []),(.sc (.int .i64 0)),(.sc (.int .i64 0)),(.sc (.int .i64 0))],.st 14 (.t 16) (.t 34)]]) yi9)) zv3)
def yib:Cd:=(.seq (.cond (.t 32) .skip (.exit 0)) yia)
def yic:Cd:=(.seq (.reg [] [.o [.bin 32 .lss (.t 31) (.t 30)]]) yib)
def yid:Cd:=(.block 0 (.loop yic))
def zv4:Cd:=(.seq (.reg [8,11,13,29,30,31,32,50] [.o [.ld 50 2 true (.t 11),.st 2 (.t 10) (.t 50)]]) .ret)
def yie:Cd:=(.seq (.seq (.reg [5] [.o [.ld 29 1 false (.t 5),.len 30 (.t 29),.mov 31 (cI 0)]]) yid) zv4)
def yif:Cd:=(.seq (.reg [1,2,23,24,25,26,22,27,28,14] [.o [.ld 23 1 false (.t 5),.mov 24 (.t 1),.mov 25 (.t 2)],.call none 26 30 [(.t 23),(.t 24),(.t 25)],.o [.mov 22 (.t 26),.ext 27 22 0,.ext 28 22 1,.alloc 13 [(.sl true () 1 0 []),(.sl true () 1 0 []),(.sl true () 1 0 [])],.st 3 (.t 13) (.t 27),.asg 14 (.t 28)]]) yie)
def yig:Cd:=(.seq (.reg [9,12,17,18,19,20,21] [.o [.ld 17 1 false (.t 5),.mov 18 (.t 1),.mov 19 (.t 2),.mkf 20 154 [(.t 5),(.t 9),(.t 8),(.t 11),(.t 12)]],.call none 21 88 [(.t 17),(.t 18),(.t 19),(.t 20)]]) yif)
def y0n:Cd:=(.seq (.reg [] [.o [.alloc 12 [(.sc (.bool false))],.st 1 (.t 12) (cB false)]]) yig)
def y0o:Cd:=(.seq (.reg [] [.o [.alloc 11 [(.sl true () 1 0 []),(.sc (.bool false))]]]) y0n)
def zlt:FI:=⟨51,5,[.cell 10 2 true],(.seq (.reg [0,3,4] [.o [.box 5 (.t 0),.box 8 (.t 3),.box 9 (.t 4),.alloc 10 [(.sl true () 1 0 []),(.sc (.bool false))]]]) y0o)⟩
theorem yve:z25 Try.prog 116 zlt:=⟨_,_,Try.func116,rfl,by kernel_rfl,by kernel_rfl,Try.call116⟩
def yih:Cd:=(.seq (.reg [0,1,17] [.o [.asg 4 (.c (.sl true () 1 0 [])),.asg 5 (cI 1)]]) .ret)
def yii:Cd:=(.cond (.t 17) yih .skip)
def yij:Cd:=(.cond (.t 21) .skip (.exit 0))
def yik:Cd:=(.cond (.t 26) (.exit 0) .skip)
def yil:Cd:=(.reg [26,27,28] [.o [.mov 27 (.t 6),.bin 28 .add (.t 27) (cI 1),.asg 6 (.t 28)]])
def yim:Cd:=(.block 1 (.seq (.seq (.reg [21,22,23,24,25] [.o [.mov 22 (.t 1),.mov 23 (.t 6),.iaddr 24 1 (.t 22) (.t 23),.ld 25 1 false (.t 24),.bin 26 .neq (.t 25) (.c (.sc (.int .u8 0)))]]) yik) yil))
def yin:Cd:=(.seq (.seq (.reg [18,19,20] [.o [.mov 18 (.t 6),.mov 19 (.t 1),.len 20 (.t 19),.bin 21 .lss (.t 18) (.t 20)]]) yij) yim)
def yio:Cd:=(.seq (.reg [0,1,32] [.o [.asg 4 (.c (.sl true () 1 0 [])),.asg 5 (cI 11)]]) .ret)
def yip:Cd:=(.cond (.t 32) yio .skip)
def yiq:Cd:=(.seq (.reg [7,45] [.o [.asg 4 (.c (.sl true () 1 0 [])),.asg 5 (cI 10)]]) .ret)
def y0p:Cd:=(.cond (.t 45) yiq .skip)
def y0q:Cd:=(.seq (.reg [1,8,42,43,44] [.o [.mov 42 (.t 8),.mov 43 (.t 1)],.call none 44 102 [(.t 42),(.t 43)],.o [.un 45 .not (.t 44)]]) y0p)
def y0r:Cd:=(.seq (.reg [7,45,46] [.o [.mov 46 (.t 7),.asg 4 (.t 46),.asg 5 (cI 0)]]) .ret)
def y0s:Cd:=(.seq (.seq (.reg [0,37,38,39,36,40,41,9] [.o [.mov 37 (.t 0),.mov 38 (.t 7)],.call none 39 113 [(.t 37),(.t 38)],.o [.mov 36 (.t 39),.ext 40 36 0,.ext 41 36 1,.asg 8 (.t 40),.asg 9 (.t 41)]]) y0q) y0r)
def zq0:Cd:=(.seq (.reg [32,33,34,35] [.o [.mov 33 (.t 1),.slice 34 1 (.t 33) (some (cI 8)) none],.call none 35 108 [(.t 34)],.o [.asg 7 (.t 35)]]) y0s)
def y0t:Cd:=(.seq (.seq (.reg [6,18,19,20,21,29,30,31] [.o [.mov 29 (.t 6),.mov 30 (.t 1),.len 31 (.t 30),.bin 32 .eql (.t 29) (.t 31)]]) yip) zq0)
def y0u:Cd:=(.seq (.block 0 (.loop yin)) y0t)
def y0v:Cd:=(.seq (.label 0) y0u)
def y0w:Cd:=(.seq (.reg [17] [.o [.asg 6 (cI 0)]]) y0v)
def y0x:Cd:=(.scope (.seq (.seq (.reg [10,11,12,13,14,15,16] [.o [.mov 10 (.t 0)],.call none 11 152 [(.t 10)],.o [.un 12 .not (.t 11),.mov 13 (.t 12)],.g 13 false [.mov 14 (.t 1),.len 15 (.t 14),.bin 16 .neq (.t 15) (cI 24)],.o [.pick 17 (.t 13) (cB true) (.t 16)]]) yii) y0w))
def zgs:FI:=⟨47,2,[.t 4,.t 5],(.seq (.reg [4,5] [.o [.asg 4 (.c (.sl true () 1 0 [])),.asg 5 (cI 0)]]) y0x)⟩
theorem yvf:z25 Try.prog 117 zgs:=⟨_,_,Try.func117,rfl,by kernel_rfl,by kernel_rfl,Try.call117⟩
def yir:Cd:=(.seq (.reg [1,5,6,10,11,12,8,18] [.o [.asg 4 (cB true)]]) .ret)
def yis:Cd:=(.cond (.t 18) yir .skip)
def yit:Cd:=(.reg [23] [.o [.asg 5 (cB true)]])
def yiu:Cd:=(.cond (.t 23) yit .skip)
def yiv:Cd:=(.cond (.t 29) (.exit 1) .skip)
def yiw:Cd:=(.reg [29] [.o [.asg 6 (cB true)]])
def zv5:Cd:=(.seq (.seq (.draw [[],[0],[],[2],[1,3],[4]] [8,23,24,25,26,27,28] [.o [.mov 24 (.t 8),.slice 25 1 (.t 24) (some (cI 4)) none,.mov 26 (.t 1),.slice 27 1 (.t 26) (some (cI 4)) none],.call none 28 102 [(.t 25),(.t 27)],.o [.un 29 .not (.t 28)]]) yiv) yiw)
def yix:Cd:=(.seq (.seq (.draw [[],[0],[],[2],[1,3]] [18,19,20,21,22] [.o [.mov 19 (.t 8),.slice 20 1 (.t 19) none (some (cI 4)),.mov 21 (.t 1),.slice 22 1 (.t 21) none (some (cI 4))],.call none 23 102 [(.t 20),(.t 22)]]) yiu) zv5)
def yiy:Cd:=(.seq (.seq (.reg [16,17] [.o [.mov 16 (.t 8),.mov 17 (.t 1)],.call none 18 102 [(.t 16),(.t 17)]]) yis) yix)
def zv6:Cd:=(.reg [30] [.o [.bin 30 .add (.t 12) (cI 1),.mov 12 (.t 30)]])
def y0y:Cd:=(.seq (.block 1 (.seq (.reg [13,14,15] [.o [.iaddr 14 1 (.t 10) (.t 12),.ld 15 1 false (.t 14),.asg 8 (.t 15)]]) yiy)) zv6)
def y0z:Cd:=(.seq (.cond (.t 13) .skip (.exit 0)) y0y)
def y10:Cd:=(.seq (.reg [] [.o [.bin 13 .lss (.t 12) (.t 11)]]) y0z)
def y11:Cd:=(.block 0 (.loop y10))
def y12:Cd:=(.seq (.reg [1,5,6,10,11,12,13,31,32,33,34] [.o [.mov 31 (.t 5),.mov 32 (.t 31)],.g 32 true [.mov 33 (.t 6)],.o [.pick 34 (.t 32) (.t 33) (cB false),.asg 4 (.t 34)]]) .ret)
def y13:Cd:=(.seq (.seq (.reg [2,9] [.o [.faddr 9 0 (.t 2),.ld 10 1 false (.t 9),.len 11 (.t 10),.mov 12 (cI 0)]]) y11) y12)
def y14:Cd:=(.seq (.label 0) y13)
def y15:Cd:=(.scope (.seq (.reg [] [.o [.asg 5 (cB false),.asg 6 (cB false)]]) y14))
def zlu:FI:=⟨35,2,[.t 4],(.seq (.reg [0,4] [.o [.box 2 (.t 0),.asg 4 (cB false)]]) y15)⟩
theorem yvg:z25 Try.prog 118 zlu:=⟨_,_,Try.func118,rfl,by kernel_rfl,by kernel_rfl,Try.call118⟩
def yiz:Cd:=(.cond (.t 9) .skip (.exit 0))
def yj0:Cd:=(.reg [10,11] [.o [.mov 10 (.t 6),.bin 11 .add (.t 10) (cI 1),.asg 6 (.t 11)]])
def yj1:Cd:=(.seq (.block 1 (.reg [9,12,13,14,15,16,17,18,19,20] [.o [.mov 12 (.t 5),.mov 13 (.t 0),.mov 14 (.t 6),.bin 15 .mul (cI 8) (.t 14),.conv 16 .u64 (.t 15),.bin 17 .shr (.t 13) (.t 16),.conv 18 .u8 (.t 17),.bs1 19 1 (.t 18),.app 20 1 1 (.t 12) (.t 19),.asg 5 (.t 20)]])) yj0)
def yj2:Cd:=(.seq (.seq (.reg [7,8] [.o [.mov 7 (.t 6),.mov 8 (.t 1),.bin 9 .lss (.t 7) (.t 8)]]) yiz) yj1)
def yj3:Cd:=(.block 0 (.loop yj2))
def yj4:Cd:=(.seq (.reg [0,1,5,6,7,8,9,21,22] [.o [.mov 21 (.t 5),.b2s 22 (.t 21),.asg 4 (.t 22)]]) .ret)
def yj5:Cd:=(.seq (.seq (.reg [] [.o [.asg 6 (cI 0)]]) yj3) yj4)
def yj6:Cd:=(.seq (.reg [] [.o [.asg 5 (.c (.sl true () 1 0 []))]]) yj5)
def yj7:FI:=⟨23,2,[.t 4],(.seq (.reg [4] [.o [.asg 4 (.c (.sc (.string ⟨#[]⟩)))]]) yj6)⟩
theorem yvh:z25 Try.prog 120 yj7:=⟨_,_,Try.func120,rfl,by kernel_rfl,by kernel_rfl,Try.call120⟩
def yj8:Cd:=(.seq (.reg [0,3,4,5] [.o [.mov 3 (.t 0)],.call none 4 157 [(.c (.sc (.int .u32 4294967295))),(.t 3)],.o [.un 5 .xor (.t 4),.asg 2 (.t 5)]]) .ret)
def yj9:FI:=⟨6,1,[.t 2],(.seq (.reg [2] [.o [.asg 2 (.c (.sc (.int .u32 0)))]]) yj8)⟩
theorem yvi:z25 Try.prog 121 yj9:=⟨_,_,Try.func121,rfl,by kernel_rfl,by kernel_rfl,Try.call121⟩
def yja:Cd:=(.seq (.reg [0,3,4,5,6,7,8] [.o [.mov 3 (.t 0),.bin 4 .geq (.t 3) (cI 0),.mov 5 (.t 4)],.g 5 true [.mov 6 (.t 0),.bin 7 .lss (.t 6) (cI 48)],.o [.pick 8 (.t 5) (.t 7) (cB false),.asg 2 (.t 8)]]) .ret)
def y16:FI:=⟨9,1,[.t 2],(.seq (.reg [2] [.o [.asg 2 (cB false)]]) yja)⟩
theorem yvj:z25 Try.prog 152 y16:=⟨_,_,Try.func152,rfl,by kernel_rfl,by kernel_rfl,Try.call152⟩
def yjb:Cd:=(.seq (.reg [0,3,4,5] [.o [.mov 3 (.t 0)],.call none 4 171 [(.c (.sc (.int .u32 4294967295))),(.t 3)],.o [.un 5 .xor (.t 4),.asg 2 (.t 5)]]) .ret)
def yjc:FI:=⟨6,1,[.t 2],(.seq (.reg [2] [.o [.asg 2 (.c (.sc (.int .u32 0)))]]) yjb)⟩
theorem yvk:z25 Try.prog 153 yjc:=⟨_,_,Try.func153,rfl,by kernel_rfl,by kernel_rfl,Try.call153⟩
def yjd:Cd:=(.draw [[],[0],[],[2],[],[3,4],[5],[6],[7],[1,8,7],[0,1,2,3,4,5,6,7,8,9],[10,9,9,0,1,2,3,4,5,6,7,8,9]] [25,26,27,28,29,30,31,32,33,34,35,36] [.o [.faddr 26 0 (.t 5),.ld 27 1 false (.t 26),.faddr 28 1 (.t 8),.ld 29 1 false (.t 28),.ld 30 1 false (.t 4),.iaddr 31 1 (.t 29) (.t 30),.ld 32 1 false (.t 31)],.call none 33 108 [(.t 32)],.o [.bs1 34 1 (.t 33),.app 35 1 24 (.t 27) (.t 34),.faddr 36 0 (.t 5),.st 1 (.t 36) (.t 35)]])
def zv7:Cd:=(.cond (.t 25) yjd .skip)
def zv8:Cd:=(.reg [6,4,8,70,71,72,73,74] [.o [.faddr 70 0 (.t 8),.ld 71 1 false (.t 70),.ld 72 1 false (.t 4),.iaddr 73 1 (.t 71) (.t 72),.ld 74 1 false (.t 73),.st 1 (.t 6) (.t 74)]])
def zv9:Cd:=(.seq (.reg [5,3,9,10,52,53,54,55,56,57,58,59,60,61,62,63,64,65,66,67,68,69] [.o [.faddr 52 1 (.t 5),.ld 53 1 false (.t 52),.mov 54 (.t 53)],.g 54 false [.faddr 55 12 (.t 9),.ld 56 1 false (.t 55),.ld 57 1 false (.t 3),.bin 58 .gtr (.t 56) (.t 57),.mov 59 (.t 58)],.g 59 true [.mov 60 (.t 10),.mov 61 (.t 60)],.g 61 false [.ld 62 14 true (.t 9),.ld 63 3 true (.t 8),.ld 64 1 false (.t 4)],.call (some (61,false)) 65 155 [(.t 62),(.t 63),(.t 64)],.g 59 true [.pick 66 (.t 61) (cB true) (.t 65)],.g 54 false [.pick 67 (.t 59) (.t 66) (cB false)],.o [.pick 68 (.t 54) (cB true) (.t 67),.faddr 69 1 (.t 5),.st 1 (.t 69) (.t 68)]]) zv8)
def zka:Cd:=(.seq (.reg [25,37,38,39,40,41,42,43,44,45,46,47,48,49,50,51] [.o [.faddr 37 1 (.t 9),.faddr 38 0 (.t 37),.ld 39 1 false (.t 38),.bin 40 .eql (.t 39) (cI 1),.mov 41 (.t 40)],.g 41 true [.faddr 42 0 (.t 8),.ld 43 1 false (.t 42),.ld 44 1 false (.t 4),.iaddr 45 1 (.t 43) (.t 44),.ld 46 1 false (.t 45)],.o [.pick 47 (.t 41) (.t 46) (cB false),.mov 48 (.t 47)],.g 48 true [.ld 49 1 false (.t 6),.un 50 .not (.t 49)],.o [.pick 51 (.t 48) (.t 50) (cB false),.asg 10 (.t 51)]]) zv9)
def yje:Cd:=(.seq (.seq (.reg [15,16,17,18,19,20,21,22,23,24] [.o [.faddr 15 12 (.t 9),.ld 16 1 false (.t 15),.ld 17 1 false (.t 3),.bin 18 .geq (.t 16) (.t 17),.mov 19 (.t 18)],.g 19 true [.faddr 20 0 (.t 8),.ld 21 1 false (.t 20),.ld 22 1 false (.t 4),.iaddr 23 1 (.t 21) (.t 22),.ld 24 1 false (.t 23)],.o [.pick 25 (.t 19) (.t 24) (cB false)]]) zv7) zka)
def yjf:Cd:=(.seq (.reg [0,2,11,12,13,14] [.o [.ld 11 1 false (.t 2),.mov 12 (.t 0),.iaddr 13 14 (.t 11) (.t 12),.ld 14 14 true (.t 13),.alloc 9 [(.sc (.int .i64 0)),(.sc (.int .i64 0)),(.sc (.int .i64 0)),(.sc (.int .i64 0)),(.sc (.int .i64 0)),(.sc (.int .i64 0)),(.sl true () 1 0 []),(.sc (.int .i64 0)),(.sc (.int .i64 0)),(.sc (.int .i64 0)),(.sl true () 1 0 []),(.sc (.int .i64 0)),(.sc (.int .i64 0)),(.sc (.int .i64 0))],.st 14 (.t 9) (.t 14)]]) yje)
def zed:FI:=⟨75,7,[],(.seq (.reg [1] [.o [.box 8 (.t 1)]]) yjf)⟩
theorem yvl:z25 Try.prog 154 zed:=⟨_,_,Try.func154,rfl,by kernel_rfl,by kernel_rfl,Try.call154⟩
def yjg:Cd:=(.seq (.reg [2,3,4,7,11,12,13,14,15,16,17,18,19,20,21,22,23,24,25,26,27,28,29,30,31,32,33,34,35] [.o [.faddr 11 1 (.t 3),.faddr 12 0 (.t 11),.ld 13 1 false (.t 12),.bin 14 .eql (.t 13) (cI 4),.mov 15 (.t 14)],.g 15 true [.mov 16 (.t 7),.bin 17 .geq (.t 16) (cI 0)],.o [.pick 18 (.t 15) (.t 17) (cB false),.mov 19 (.t 18)],.g 19 true [.mov 20 (.t 7),.bin 21 .lss (.t 20) (cI 6)],.o [.pick 22 (.t 19) (.t 21) (cB false),.mov 23 (.t 22)],.g 23 true [.faddr 24 2 (.t 4),.ld 25 1 false (.t 24),.faddr 26 0 (.t 3),.ld 27 1 false (.t 26),.iaddr 28 1 (.t 25) (.t 27),.ld 29 1 false (.t 28),.mov 30 (.t 7),.iaddr 31 1 (.t 29) (.t 30),.ld 32 1 false (.t 31),.mov 33 (.t 2),.bin 34 .eql (.t 32) (.t 33)],.o [.pick 35 (.t 23) (.t 34) (cB false),.asg 6 (.t 35)]]) .ret)
def yjh:Cd:=(.seq (.reg [8,9,10] [.o [.faddr 8 1 (.t 3),.faddr 9 2 (.t 8),.ld 10 1 false (.t 9),.asg 7 (.t 10)]]) yjg)
def zq1:FI:=⟨36,3,[.t 6],(.seq (.reg [0,1,6] [.o [.box 3 (.t 0),.box 4 (.t 1),.asg 6 (cB false)]]) yjh)⟩
theorem yvm:z25 Try.prog 155 zq1:=⟨_,_,Try.func155,rfl,by kernel_rfl,by kernel_rfl,Try.call155⟩
def yji:Cd:=(.cond (.t 9) .skip (.exit 0))
def yjj:Cd:=(.reg [10,11] [.o [.mov 10 (.t 5),.bin 11 .add (.t 10) (cI 1),.asg 5 (.t 11)]])
def yjk:Cd:=(.seq (.block 1 (.reg [9,12,13,14,15,16] [.o [.mov 12 (.t 0),.mov 13 (.t 1),.mov 14 (.t 5),.six 15 (.t 13) (.t 14)],.call none 16 172 [(.t 12),(.t 15)],.o [.asg 0 (.t 16)]])) yjj)
def yjl:Cd:=(.seq (.seq (.reg [6,7,8] [.o [.mov 6 (.t 5),.mov 7 (.t 1),.slen 8 (.t 7),.bin 9 .lss (.t 6) (.t 8)]]) yji) yjk)
def yjm:Cd:=(.block 0 (.loop yjl))
def yjn:Cd:=(.seq (.reg [0,1,5,6,7,8,9,17] [.o [.mov 17 (.t 0),.asg 4 (.t 17)]]) .ret)
def yjo:Cd:=(.seq (.seq (.reg [] [.o [.asg 5 (cI 0)]]) yjm) yjn)
def yjp:FI:=⟨18,2,[.t 4],(.seq (.reg [4] [.o [.asg 4 (.c (.sc (.int .u32 0)))]]) yjo)⟩
theorem yvn:z25 Try.prog 157 yjp:=⟨_,_,Try.func157,rfl,by kernel_rfl,by kernel_rfl,Try.call157⟩
def yjq:Cd:=(.reg [6,13,14,15] [.o [.mov 13 (.t 0),.mov 14 (.t 6)],.call none 15 185 [(.t 13),(.t 14)],.o [.asg 0 (.t 15)]])
def yjr:Cd:=(.reg [16] [.o [.bin 16 .add (.t 9) (cI 1),.mov 9 (.t 16)]])
def yjs:Cd:=(.seq (.block 1 (.seq (.reg [10,11,12] [.o [.iaddr 11 1 (.t 7) (.t 9),.ld 12 1 false (.t 11),.asg 6 (.t 12)]]) yjq)) yjr)
def yjt:Cd:=(.seq (.cond (.t 10) .skip (.exit 0)) yjs)
def yju:Cd:=(.seq (.reg [] [.o [.bin 10 .lss (.t 9) (.t 8)]]) yjt)
def yjv:Cd:=(.block 0 (.loop yju))
def yjw:Cd:=(.seq (.reg [0,7,8,9,10,17] [.o [.mov 17 (.t 0),.asg 4 (.t 17)]]) .ret)
def yjx:Cd:=(.seq (.seq (.reg [1] [.o [.mov 7 (.t 1),.len 8 (.t 7),.mov 9 (cI 0)]]) yjv) yjw)
def yjy:FI:=⟨18,2,[.t 4],(.seq (.reg [4] [.o [.asg 4 (.c (.sc (.int .u32 0)))]]) yjx)⟩
theorem yvo:z25 Try.prog 171 yjy:=⟨_,_,Try.func171,rfl,by kernel_rfl,by kernel_rfl,Try.call171⟩
def yjz:Cd:=(.cond (.t 12) .skip (.exit 0))
def yk0:Cd:=(.reg [20,21,22] [.o [.mov 21 (.t 0),.bin 22 .xor (.t 21) (.c (.sc (.int .u32 2748603157))),.asg 0 (.t 22)]])
def yk1:Cd:=(.cond (.t 20) yk0 .skip)
def yk2:Cd:=(.seq (.reg [6,19] [.o [.mov 19 (.t 6),.bin 20 .eql (.t 19) (.c (.sc (.int .u32 1)))]]) yk1)
def yk3:Cd:=(.seq (.reg [17,18] [.o [.mov 17 (.t 0),.bin 18 .shr (.t 17) (.c (.sc (.int .u64 1))),.asg 0 (.t 18)]]) yk2)
def yk4:Cd:=(.reg [20,13,14] [.o [.mov 13 (.t 5),.bin 14 .add (.t 13) (cI 1),.asg 5 (.t 14)]])
def yk5:Cd:=(.seq (.block 1 (.seq (.reg [12,15,16] [.o [.mov 15 (.t 0),.bin 16 .and (.t 15) (.c (.sc (.int .u32 1))),.asg 6 (.t 16)]]) yk3)) yk4)
def yk6:Cd:=(.seq (.seq (.reg [11] [.o [.mov 11 (.t 5),.bin 12 .lss (.t 11) (cI 8)]]) yjz) yk5)
def yk7:Cd:=(.block 0 (.loop yk6))
def yk8:Cd:=(.seq (.reg [0,5,11,12,23] [.o [.mov 23 (.t 0),.asg 4 (.t 23)]]) .ret)
def y17:Cd:=(.seq (.seq (.reg [] [.o [.asg 5 (cI 0)]]) yk7) yk8)
def y18:Cd:=(.seq (.reg [1,7,8,9,10] [.o [.mov 7 (.t 0),.mov 8 (.t 1),.conv 9 .u32 (.t 8),.bin 10 .xor (.t 7) (.t 9),.asg 0 (.t 10)]]) y17)
def yk9:FI:=⟨24,2,[.t 4],(.seq (.reg [4] [.o [.asg 4 (.c (.sc (.int .u32 0)))]]) y18)⟩
theorem yvp:z25 Try.prog 172 yk9:=⟨_,_,Try.func172,rfl,by kernel_rfl,by kernel_rfl,Try.call172⟩
def yka:Cd:=(.cond (.t 12) .skip (.exit 0))
def ykb:Cd:=(.cond (.t 21) (.exit 1) .skip)
def ykc:Cd:=(.seq (.reg [6,20] [.o [.mov 20 (.t 6),.un 21 .not (.t 20)]]) ykb)
def ykd:Cd:=(.reg [21,22,23] [.o [.mov 22 (.t 0),.bin 23 .xor (.t 22) (.c (.sc (.int .u32 2748603157))),.asg 0 (.t 23)]])
def yke:Cd:=(.seq (.seq (.reg [18,19] [.o [.mov 18 (.t 0),.bin 19 .shr (.t 18) (.c (.sc (.int .u64 1))),.asg 0 (.t 19)]]) ykc) ykd)
def ykf:Cd:=(.seq (.reg [15,16,17] [.o [.mov 15 (.t 0),.bin 16 .and (.t 15) (.c (.sc (.int .u32 1))),.bin 17 .eql (.t 16) (.c (.sc (.int .u32 1))),.asg 6 (.t 17)]]) yke)
def ykg:Cd:=(.block 1 (.seq (.reg [12,13,14] [.o [.mov 13 (.t 5),.bin 14 .add (.t 13) (cI 1),.asg 5 (.t 14)]]) ykf))
def ykh:Cd:=(.seq (.seq (.reg [11] [.o [.mov 11 (.t 5),.bin 12 .lss (.t 11) (cI 8)]]) yka) ykg)
def yki:Cd:=(.seq (.reg [0,5,11,12,24] [.o [.mov 24 (.t 0),.asg 4 (.t 24)]]) .ret)
def ykj:Cd:=(.seq (.block 0 (.loop ykh)) yki)
def y19:Cd:=(.seq (.label 0) ykj)
def y1a:Cd:=(.seq (.reg [] [.o [.asg 5 (cI 0)]]) y19)
def y1b:Cd:=(.scope (.seq (.reg [1,7,8,9,10] [.o [.mov 7 (.t 0),.mov 8 (.t 1),.conv 9 .u32 (.t 8),.bin 10 .xor (.t 7) (.t 9),.asg 0 (.t 10)]]) y1a))
def ykk:FI:=⟨25,2,[.t 4],(.seq (.reg [4] [.o [.asg 4 (.c (.sc (.int .u32 0)))]]) y1b)⟩
theorem yvq:z25 Try.prog 185 ykk:=⟨_,_,Try.func185,rfl,by kernel_rfl,by kernel_rfl,Try.call185⟩
abbrev u32 (n:Int):AU:=.sc (.int .u32 n)
def zq2 (a b:Int):Int:=IntKind.u32.wrap (((a % 2 ^ IntKind.u32.bits).toNat ^^^ (b % 2 ^ IntKind.u32.bits).toNat:Nat):Int)
def zq3 (a:Int):Int:=IntKind.u32.wrap (((a % 2 ^ IntKind.u32.bits).toNat &&& 1 % 2 ^ IntKind.u32.bits:Nat):Int)
def yx2 (a:Int):Int:=a.fdiv (2 ^ min 1 IntKind.u32.bits)
def y1c (s:Int):Int:=if zq3 s=1 then zq2 (yx2 s) 2748603157 else yx2 s
def zr6:Nat→Int→Int
 | 0,s=>s
 | k+1,s=>y1c (zr6 k s)
def zlv (s:Int)(c:UInt8):Int:=zr6 8 (zq2 s (IntKind.u32.wrap c.toNat))
def z9n (s:Int)(l:List UInt8):Int:=l.foldl zlv s
theorem y1d (s:Int)(c:UInt8):FnC Try.prog 185 [] [u32 s,u8 c.toNat] [] (u32 (zlv s c)):=by
 refine wc yvq rfl ?_
 refine WL.sreg (by simp;rfl) (by simp;rfl) ?_
 refine WL.scope (WL.sreg (by simp;rfl) (by simp;rfl) ?_)
 refine WL.sreg (by simp;rfl) (by simp;rfl) ?_
 refine WL.seq (WL.label ?_)
 refine WL.seq ?_
 refine WL.block (we 8 (fun i=>[(0,0,u32 (zr6 i (zq2 s (IntKind.u32.wrap c.toNat)))),(500,0,i64 i)]) (fun i=>True) rfl trivial fun i hi _=>?_)
 by_cases h:i < 8
 ·have h':(i:Int) < 8:=by omega
  have w:IntKind.wrap .i64 ((i:Int)+1)=((i+1:Nat):Int):=by rw[z01 (by omega) (by omega)];omega
  have e:zr6 (i+1) (zq2 s (IntKind.u32.wrap c.toNat))=y1c (zr6 i (zq2 s (IntKind.u32.wrap c.toNat))):=rfl
  rw[e]
  generalize zr6 i (zq2 s (IntKind.u32.wrap c.toNat))=t
  refine WL.seq (WL.sreg (by simp[h'];rfl) (by simp;rfl) ?_)
  refine WL.cond (t:=true) (by simp[h']) (fun _=>WL.skip ?_) (by simp)
  refine WL.block (WL.sreg (by simp[w];rfl) (by simp;rfl) ?_)
  by_cases q:zq3 t=1
  ·have q':(IntKind.u32.wrap (((t % 2 ^ IntKind.u32.bits).toNat &&& 1 % 2 ^ IntKind.u32.bits:Nat):Int) == 1)=true:=by simpa [zq3] using q
   refine WL.sreg (by simp[q'];rfl) (by simp;rfl) ?_
   refine WL.seq (WL.sreg (by simp;rfl) (by simp;rfl) ?_)
   refine WL.sreg (by simp[q'];rfl) (by simp;rfl) ?_
   refine WL.cond (t:=false) (by simp) (by simp) fun _=>WL.skip ?_
   refine WL.reg (RL.run (by simp;rfl) ⟨_,by simp;rfl,h,?_,trivial⟩)
   simp only[y1c,if_pos q]
   rfl
  ·have q':(IntKind.u32.wrap (((t % 2 ^ IntKind.u32.bits).toNat &&& 1 % 2 ^ IntKind.u32.bits:Nat):Int) == 1)=false:=beq_false_of_ne q
   refine WL.sreg (by simp[q'];rfl) (by simp;rfl) ?_
   refine WL.seq (WL.sreg (by simp;rfl) (by simp;rfl) ?_)
   refine WL.sreg (by simp[q'];rfl) (by simp;rfl) ?_
   refine WL.cond (t:=true) (by simp) (fun _=>WL.fin [21] (by simp;rfl) (WL.exit ⟨h,?_,trivial⟩)) (by simp)
   simp only[y1c,if_neg q]
   rfl
 ·obtain rfl:i=8:=by omega
  refine WL.seq (WL.sreg (by simp;rfl) (by simp;rfl) ?_)
  refine WL.cond (t:=false) (by simp) (by simp) fun _=>WL.exit ?_
  refine WL.sreg (by simp;rfl) (by simp;rfl) (WL.ret ⟨.inr rfl,?_⟩)
  simp[ykk,zlv]
theorem zlw (s:Int)(c:UInt8):FnC Try.prog 172 [] [u32 s,u8 c.toNat] [] (u32 (zlv s c)):=by
 refine wc yvp rfl ?_
 refine WL.sreg (by simp;rfl) (by simp;rfl) ?_
 refine WL.sreg (by simp;rfl) (by simp;rfl) ?_
 refine WL.seq (WL.sreg (by simp;rfl) (by simp;rfl) ?_)
 refine WL.block (we 8 (fun i=>[(0,0,u32 (zr6 i (zq2 s (IntKind.u32.wrap c.toNat)))),(500,0,i64 i)]) (fun i=>True) rfl trivial fun i hi _=>?_)
 by_cases h:i < 8
 ·have h':(i:Int) < 8:=by omega
  have w:IntKind.wrap .i64 ((i:Int)+1)=((i+1:Nat):Int):=by rw[z01 (by omega) (by omega)];omega
  have e:zr6 (i+1) (zq2 s (IntKind.u32.wrap c.toNat))=y1c (zr6 i (zq2 s (IntKind.u32.wrap c.toNat))):=rfl
  rw[e]
  generalize zr6 i (zq2 s (IntKind.u32.wrap c.toNat))=t
  refine WL.seq (WL.sreg (by simp[h'];rfl) (by simp;rfl) ?_)
  refine WL.cond (t:=true) (by simp[h']) (fun _=>WL.skip ?_) (by simp)
  refine WL.seq (WL.block (WL.sreg (by simp;rfl) (by simp;rfl) ?_))
  refine WL.sreg (by simp;rfl) (by simp;rfl) ?_
  by_cases q:zq3 t=1
  ·have q':(IntKind.u32.wrap (((t % 2 ^ IntKind.u32.bits).toNat &&& 1 % 2 ^ IntKind.u32.bits:Nat):Int) == 1)=true:=by simpa [zq3] using q
   refine WL.sreg (by simp[q'];rfl) (by simp;rfl) ?_
   refine WL.cond (t:=true) (by simp) (fun _=>?_) (by simp)
   refine WL.reg (RL.run (by simp;rfl) ⟨_,by simp;rfl,?_⟩)
   refine WL.reg (RL.run (by simp[w];rfl) ⟨_,by simp;rfl,h,?_,trivial⟩)
   simp only[y1c,if_pos q]
   rfl
  ·have q':(IntKind.u32.wrap (((t % 2 ^ IntKind.u32.bits).toNat &&& 1 % 2 ^ IntKind.u32.bits:Nat):Int) == 1)=false:=beq_false_of_ne q
   refine WL.sreg (by simp[q'];rfl) (by simp;rfl) ?_
   refine WL.cond (t:=false) (by simp) (by simp) fun _=>WL.skip ?_
   refine WL.reg (RL.run (by simp[w];rfl) ⟨_,by simp;rfl,h,?_,trivial⟩)
   simp only[y1c,if_neg q]
   rfl
 ·obtain rfl:i=8:=by omega
  refine WL.seq (WL.sreg (by simp;rfl) (by simp;rfl) ?_)
  refine WL.cond (t:=false) (by simp) (by simp) fun _=>WL.exit ?_
  refine WL.sreg (by simp;rfl) (by simp;rfl) (WL.ret ⟨.inr rfl,?_⟩)
  simp[yk9,zlv]
theorem zd6 (s:Int)(l:List UInt8){i:Nat}(h:i < l.length):z9n s (l.take (i+1))=zlv (z9n s (l.take i)) l[i]:=by
 unfold z9n;rw[r6 h,List.foldl_append];rfl
theorem y1e (s:Int)(l:List UInt8)(hl:l.length≤1000000):FnC Try.prog 171 [] [u32 s,sU false l] [] (u32 (z9n s l)):=by
 refine wc yvo rfl ?_
 refine WL.sreg (by simp;rfl) (by simp;rfl) ?_
 refine WL.seq (WL.sreg (by simp;rfl) (by simp;rfl) ?_)
 refine WL.block (we l.length (fun i=>[(0,0,u32 (z9n s (l.take i))),(700,0,sU false l),(800,0,i64 l.length),(900,0,i64 i)]) (fun i=>True) (by simp[z9n]) trivial fun i hi _=>?_)
 by_cases h:i < l.length
 ·have w:IntKind.wrap .i64 ((i:Int)+1)=((i+1:Nat):Int):=by rw[z01 (by omega) (by omega)];omega
  have e:=zd6 s l h
  rw[e]
  generalize z9n s (l.take i)=t
  have ht:=y1d t l[i]
  refine WL.sreg (by simp[h];rfl) (by simp;rfl) ?_
  refine WL.seq (WL.cond (t:=true) (by simp[h]) (fun _=>WL.skip ?_) (by simp))
  refine WL.seq (WL.block (WL.sreg (by simp[h];rfl) (by simp;rfl) ?_))
  refine WL.reg (RL.o (by simp[h];rfl) (RL.call0 false ht (by simp) (by simp) (RL.o (by simp;rfl) (RL.nil ⟨_,by simp;rfl,?_⟩))))
  refine WL.reg (RL.run (by simp[w];rfl) ⟨_,by simp;rfl,h,by simp,trivial⟩)
 ·obtain rfl:i=l.length:=by omega
  refine WL.sreg (by simp;rfl) (by simp;rfl) ?_
  refine WL.seq (WL.cond (t:=false) (by simp) (by simp) fun _=>WL.exit ?_)
  refine WL.sreg (by simp;rfl) (by simp;rfl) (WL.ret ⟨.inr rfl,?_⟩)
  simp[yjy]
theorem ykl (l:List UInt8){i:Nat}(h:i < l.length):(z3f l)[i]?=some l[i]:=by
 have hz:i < (z3f l).size:=by rw[z2i];exact h
 rw[getElem?_pos (z3f l) i hz]
 rfl
@[simp] theorem yx3 (l:List UInt8) {i:Nat} (hh:i < (z3f l).size):(z3f l)[i]'hh=l[i]'(by rw[z2i] at hh;exact hh):=rfl
theorem wrap_u64 {x:Int}(h:0≤x)(h':x < 18446744073709551616):IntKind.wrap .u64 x=x:=by
 show x % 18446744073709551616=x
 omega
theorem zlx (s:Int)(l:List UInt8)(hl:l.length≤1000000):FnC Try.prog 157 [] [u32 s,str l] [] (u32 (z9n s l)):=by
 have hz:=z2i l
 refine wc yvn rfl ?_
 refine WL.sreg (by simp;rfl) (by simp;rfl) ?_
 refine WL.seq (WL.sreg (by simp;rfl) (by simp;rfl) ?_)
 refine WL.block (we l.length (fun i=>[(0,0,u32 (z9n s (l.take i))),(100,0,str l),(500,0,i64 i)]) (fun i=>True) (by simp[z9n]) trivial fun i hi _=>?_)
 by_cases h:i < l.length
 ·have w:IntKind.wrap .i64 ((i:Int)+1)=((i+1:Nat):Int):=by rw[z01 (by omega) (by omega)];omega
  have e:=zd6 s l h
  have h2:=ykl l h
  rw[e]
  generalize z9n s (l.take i)=t
  have ht:=zlw t l[i]
  refine WL.seq (WL.sreg (by simp[h,hz];rfl) (by simp;rfl) ?_)
  refine WL.cond (t:=true) (by simp[h,hz]) (fun _=>WL.skip ?_) (by simp)
  refine WL.seq (WL.block (WL.reg (RL.o (by simp[h,h2,hz];rfl) (RL.call0 false ht (by simp) (by simp) (RL.o (by simp;rfl) (RL.nil ⟨_,by simp;rfl,?_⟩))))))
  refine WL.reg (RL.run (by simp[w];rfl) ⟨_,by simp;rfl,h,by simp,trivial⟩)
 ·obtain rfl:i=l.length:=by omega
  refine WL.seq (WL.sreg (by simp[hz];rfl) (by simp;rfl) ?_)
  refine WL.cond (t:=false) (by simp) (by simp) fun _=>WL.exit ?_
  refine WL.sreg (by simp;rfl) (by simp;rfl) (WL.ret ⟨.inr rfl,?_⟩)
  simp[yjp]
def ofF (l:List UInt8):Int:=zq2 (if IntKind.u32.signed=true then -1 else IntKind.u32.max) (z9n 4294967295 l)
theorem yvr (l:List UInt8)(hl:l.length≤1000000):FnC Try.prog 153 [] [sU false l] [] (u32 (ofF l)):=by
 refine wc yvk rfl ?_
 refine WL.sreg (by simp;rfl) (by simp;rfl) ?_
 refine w7 (RL.o (by simp;rfl) (RL.call0 false (y1e 4294967295 l hl) (by simp) (by simp) (RL.o (by simp;rfl) (RL.nil ⟨_,by simp;rfl,?_⟩))))
 refine WL.ret ⟨.inr rfl,?_⟩
 simp[yjc]
 rfl
theorem zt7 (l:List UInt8)(hl:l.length≤1000000):FnC Try.prog 121 [] [str l] [] (u32 (ofF l)):=by
 refine wc yvi rfl ?_
 refine WL.sreg (by simp;rfl) (by simp;rfl) ?_
 refine w7 (RL.o (by simp;rfl) (RL.call0 false (zlx 4294967295 l hl) (by simp) (by simp) (RL.o (by simp;rfl) (RL.nil ⟨_,by simp;rfl,?_⟩))))
 refine WL.ret ⟨.inr rfl,?_⟩
 simp[yj9]
 rfl
def zly (v:Int)(i:Nat):UInt8:=UInt8.ofNat ((v.fdiv (2 ^ min (8 * i) IntKind.u32.bits)) % 256).toNat
theorem za5 (v:Int)(i:Nat):IntKind.wrap .u8 (v.fdiv (2 ^ min (8 * i) IntKind.u32.bits))=((zly v i).toNat:Int):=by
 unfold zly
 generalize v.fdiv (2 ^ min (8 * i) IntKind.u32.bits)=x
 have h0:0≤x % 256:=Int.emod_nonneg _ (by decide)
 have h1:x % 256 < 256:=Int.emod_lt_of_pos _ (by decide)
 have e:(UInt8.ofNat (x % 256).toNat).toNat=(x % 256).toNat:=by
  rw[UInt8.toNat_ofNat'];omega
 rw[e,Int.toNat_of_nonneg h0]
 rfl
def z9o (v:Int)(n:Nat):List UInt8:=(List.range n).map (zly v)
theorem zq4 (v:Int)(n:Nat):z9o v (n+1)=z9o v n ++ [zly v n]:=by simp[z9o,List.range_succ]
theorem z20 (v:Int)(n:Nat):(z9o v n).length=n:=by simp[z9o]
theorem zva (v:Int)(n:Nat)(hn:n≤8):FnC Try.prog 120 [] [u32 v,i64 n] [] (str (z9o v n)):=by
 refine wc yvh rfl ?_
 refine WL.sreg (by simp;rfl) (by simp;rfl) ?_
 refine WL.sreg (by simp;rfl) (by simp;rfl) ?_
 refine WL.seq (WL.sreg (by simp;rfl) (by simp;rfl) ?_)
 refine WL.block (we n (fun i=>[(0,0,u32 v),(100,0,i64 n),(500,0,sU true (z9o v i)),(600,0,i64 i)]) (fun i=>True) (by simp[z9o]) trivial fun i hi _=>?_)
 by_cases h:i < n
 ·have h':(i:Int) < n:=by omega
  have w:IntKind.wrap .i64 ((i:Int)+1)=((i+1:Nat):Int):=by rw[z01 (by omega) (by omega)];omega
  have w8:IntKind.wrap .i64 (8 * (i:Int))=8 * (i:Int):=by rw[z01 (by omega) (by omega)]
  have wu:IntKind.wrap .u64 (8 * (i:Int))=8 * (i:Int):=wrap_u64 (by omega) (by omega)
  have n0:¬ 8 * (i:Int) < 0:=by omega
  have ll:=z20 v i
  have m1:i≤140737488355327:=by omega
  have m2:i+1≤maxLen:=by unfold maxLen;omega
  have tn:(8 * (i:Int)).toNat=8 * i:=by omega
  have hb:=za5 v i
  refine WL.seq (WL.sreg (by simp[h'];rfl) (by simp;rfl) ?_)
  refine WL.cond (t:=true) (by simp[h']) (fun _=>WL.skip ?_) (by simp)
  refine WL.seq (WL.block (WL.reg (RL.run (by simp[w8,wu,n0,tn,ll,m1,m2];rfl) ⟨_,by simp;rfl,?_⟩)))
  rw[zq4]
  refine WL.reg (RL.run (by simp[w];rfl) ⟨_,by simp;rfl,h,?_,trivial⟩)
  simp[z20,hb]
  rw[pp (l:=List.map _ (z9o v i)) (by simp[ll]),pp (by simp[ll])]
 ·obtain rfl:i=n:=by omega
  refine WL.seq (WL.sreg (by simp;rfl) (by simp;rfl) ?_)
  refine WL.cond (t:=false) (by simp) (by simp) fun _=>WL.exit ?_
  refine WL.sreg (by simp;rfl) (by simp;rfl) (WL.ret ⟨.inr rfl,?_⟩)
  simp[yj7,z20]
abbrev z24:List UInt8:=[0,0,0,0,0,0,0,0,0,0,0,0,0,0,0,0,0,0,0,0,0,0,0,0]
theorem ykm:z8d [.sc (.int .u8 0)] 24=z24.map (fun b=>u8 (b.toNat:Int)):=rfl
theorem zkb:FnC Try.prog 75 [] [] [] (sU true z24):=by
 refine wc yyi rfl ?_
 refine WL.sreg (by simp;rfl) (by simp;rfl) ?_
 refine WL.sreg (by simp[ykm];rfl) (by simp;rfl) (WL.ret ⟨.inr rfl,?_⟩)
 simp[yx1]
theorem zil:FnC Try.prog 74 [] [] [] (str z24):=by
 refine wc yyh rfl ?_
 refine WL.sreg (by simp;rfl) (by simp;rfl) ?_
 have tk:List.take 24 (z24.map (fun b=>u8 (b.toNat:Int)))=z24.map (fun b=>u8 (b.toNat:Int)):=rfl
 refine WL.sreg (by simp[ykm,tk,-List.map_cons];rfl) (by simp;rfl) (WL.ret ⟨.inr rfl,?_⟩)
 simp[yx0]
def isP (id:Int):Bool:=decide (0≤id) && decide (id < 48)
theorem zq5 (id:Int):FnC Try.prog 152 [] [i64 id] [] (bl (isP id)):=by
 refine wc yvj rfl ?_
 refine WL.sreg (by simp;rfl) (by simp;rfl) ?_
 by_cases h:0≤id
 ·refine WL.sreg (by simp[h];rfl) (by simp;rfl) (WL.ret ⟨.inr rfl,?_⟩)
  simp[y16,isP,h]
 ·refine WL.sreg (by simp[h];rfl) (by simp;rfl) (WL.ret ⟨.inr rfl,?_⟩)
  simp[y16,isP,h]
def z42 (id:Int)(body:List UInt8):List UInt8:=z9o (id+1) 2 ++ ([90,165] ++ body)
def za6 (id:Int)(body:List UInt8):List UInt8:=z9o (ofF (z42 id body)) 4 ++ z42 id body
def z4i (id:Int)(body:List UInt8):List UInt8 × Int:=if isP id=true∧body.length=16 then (za6 id body,0) else ([],1)
theorem zbr (id:Int)(body:List UInt8):(z42 id body).length=4+body.length:=by simp[z42,z20];omega
theorem zee (id:Int)(body:List UInt8):(za6 id body).length=8+body.length:=by simp[za6,z20,zbr];omega
abbrev bm (l:List UInt8):List AU:=l.map fun b=>u8 (b.toNat:Int)
theorem zt8 (v:Int)(t:List UInt8):∀ i,i < 4→(bm (z9o v i ++ (([0,0,0,0]:List UInt8).drop i ++ t))).set i (u8 ((zly v i).toNat:Int))=bm (z9o v (i+1) ++ (([0,0,0,0]:List UInt8).drop (i+1) ++ t))
 | 0,_=>rfl
 | 1,_=>rfl
 | 2,_=>rfl
 | 3,_=>rfl
 | n+4,h=>by omega
theorem y1f (id:Int)(h0:0≤id)(h1:id < 48)(body:List UInt8):[u8 (IntKind.wrap .u8 (id+1)),u8 (IntKind.wrap .u8 ((id+1).fdiv 256)),u8 90,u8 165] ++ bm body=bm (z42 id body):=by
 have e0:=za5 (id+1) 0
 have e1:=za5 (id+1) 1
 have f0:(id+1).fdiv (2 ^ min (8 * 0) IntKind.u32.bits)=id+1:=by
  show (id+1).fdiv 1=id+1
  exact Int.fdiv_one _
 rw[f0] at e0
 have f1:(id+1).fdiv (2 ^ min (8 * 1) IntKind.u32.bits)=(id+1).fdiv 256:=rfl
 rw[f1] at e1
 rw[e0,e1]
 rfl
abbrev slQ (p:List UInt8 × Int):Ex→SL→Prop:=fun e L=>e=Ex.ret∧RetOk zpy.rs [] (.tuple [sU true p.1,i64 p.2]) L
theorem zim (id:Int)(body:List UInt8)(hb:body.length≤1000000):FnC Try.prog 113 [] [i64 id,sU false body] [] (.tuple [sU true (z4i id body).1,i64 (z4i id body).2]):=by
 refine wc yvc rfl ?_
 refine WL.mono (Q':=slQ (z4i id body)) ?_ fun e L h=>⟨.inr h.1,h.2⟩
 refine WL.sreg (by simp;rfl) (by simp;rfl) ?_
 refine WL.seq (w7 (RL.o (by simp;rfl) (RL.call0 false (zq5 id) (by simp) (by simp) ?_)))
 cases hp:isP id with
 | false =>
  refine RL.o (by simp;rfl) (RL.g (by simp;rfl) (RL.o (by simp;rfl) (RL.nil ⟨_,by simp;rfl,?_⟩)))
  refine WL.cond (t:=true) (by simp) (fun _=>?_) (by simp)
  refine WL.sreg (by simp;rfl) (by simp;rfl) (WL.ret ⟨rfl,?_⟩)
  simp[zpy,z4i,hp]
 | true =>
 have h0:0≤id∧id < 48:=by simpa [isP] using hp
 by_cases h16:body.length=16
 ·have hbne:((body.length:Int) != 16)=false:=by simp[h16]
  refine RL.o (by simp;rfl) (RL.g (by simp[h16];rfl) (RL.o (by simp;rfl) (RL.nil ⟨_,by simp;rfl,?_⟩)))
  refine WL.cond (t:=false) (by simp) (by simp) fun _=>WL.skip ?_
  refine w7 (RL.call0 false zkb (by simp) (by simp) (RL.o (by simp;rfl) (RL.nil ⟨_,by simp;rfl,?_⟩)))
  have w:IntKind.wrap .i64 (id+1)=id+1:=by rw[z01 (by omega) (by omega)]
  have m8:min 8 IntKind.i64.bits=8:=rfl
  refine WL.sreg (by simp[w,m8];rfl) (by simp;rfl) ?_
  have tk16:List.take 16 (bm body)=bm body:=pp (by simp[h16])
  refine WL.sreg (by simp[h16];rfl) (by simp;rfl) ?_
  have eS:z38 [u8 0,u8 0,u8 0,u8 0,AV.sc (Value.int IntKind.u8 (IntKind.u8.wrap (id+1))),AV.sc (Value.int IntKind.u8 (IntKind.u8.wrap ((id+1).fdiv 256))),AV.sc (Value.int IntKind.u8 90),AV.sc (Value.int IntKind.u8 165),u8 0,u8 0,u8 0,u8 0,u8 0,u8 0,u8 0,u8 0,u8 0,u8 0,u8 0,u8 0,u8 0,u8 0,u8 0,u8 0] 8 (List.take 16 (bm body))=bm ([0,0,0,0] ++ z42 id body):=by
   have e2:bm ([0,0,0,0] ++ z42 id body)=[u8 0,u8 0,u8 0,u8 0] ++ bm (z42 id body):=rfl
   rw[tk16,e2,← y1f id h0.1 h0.2 body]
   simp[z38,h16]
  rw[eS]
  have hlt:(z42 id body).length=20:=by rw[zbr];omega
  have eR:z4i id body=(za6 id body,0):=by simp[z4i,hp,h16]
  have hcrc:=yvr (z42 id body) (by rw[hlt];decide)
  have tkt:List.take 20 (bm (z42 id body))=bm (z42 id body):=pp (by simp[hlt])
  rw[eR]
  have eI:za6 id body=z9o (ofF (z42 id body)) 4 ++ z42 id body:=rfl
  rw[eI]
  clear eS eI eR w m8 tk16
  generalize z42 id body=tl at *
  generalize ofF tl=v at *
  refine w7 (RL.o (by simp[hlt];rfl) (RL.call0 true hcrc (by simp[hlt,tkt]) (by simp) (RL.o (by simp;rfl) (RL.nil ⟨_,by simp;rfl,?_⟩))))
  refine WL.seq (WL.sreg (by simp;rfl) (by simp;rfl) ?_)
  obtain⟨C,hC⟩:∃ C:Nat→List AU,∀ i,C i=bm (z9o v i ++ (([0,0,0,0]:List UInt8).drop i ++ tl)):=⟨_,fun _=>rfl⟩
  have C0:C 0=bm ([0,0,0,0] ++ tl):=by rw[hC];rfl
  have C4:C 4=bm (z9o v 4 ++ tl):=by rw[hC];rfl
  have Cl:∀ i,i≤4→(C i).length=24:=fun i hi=>by rw[hC];simp[hlt,z20]<;>omega
  have Ca:∀ i,i < 4→∃ b:UInt8,(C i)[i]?=some (u8 b.toNat):=fun i hi=>by
   have hl:i < (z9o v i ++ (([0,0,0,0]:List UInt8).drop i ++ tl)).length:=by simp[hlt,z20]<;>omega
   exact⟨(z9o v i ++ (([0,0,0,0]:List UInt8).drop i ++ tl))[i],by rw[hC,bm,qa,pi hl];rfl⟩
  have Cs:∀ i,i < 4→(C i).set i (u8 ((zly v i).toNat:Int))=C (i+1):=fun i hi=>by rw[hC,hC];exact zt8 v tl i hi
  refine WL.block (we 4 (fun i=>[(600,0,.sl true () 1 24 (C i)),(700,0,u32 v),(4000,0,i64 i)]) (fun i=>True) (by simp[C0]) trivial fun i hi _=>?_)
  by_cases h:i < 4
  ·have h':(i:Int) < 4:=by omega
   have w:IntKind.wrap .i64 ((i:Int)+1)=((i+1:Nat):Int):=by rw[z01 (by omega) (by omega)];omega
   have w8:IntKind.wrap .i64 (8 * (i:Int))=8 * (i:Int):=by rw[z01 (by omega) (by omega)]
   have wu:IntKind.wrap .u64 (8 * (i:Int))=8 * (i:Int):=wrap_u64 (by omega) (by omega)
   have n0:¬ 8 * (i:Int) < 0:=by omega
   have tn:(8 * (i:Int)).toNat=8 * i:=by omega
   have hb:=za5 v i
   obtain⟨b,hbc⟩:=Ca i h
   have lcs:=Cl i hi
   have hi24:(i:Int) < 24:=by omega
   have hi24n:i < 24:=by omega
   have hbc':∀ hh:i < (C i).length,(C i)[i]'hh=u8 b.toNat:=fun hh=>by
    rw[pi hh] at hbc;exact Option.some.inj hbc
   refine WL.sreg (by simp;rfl) (by simp;rfl) ?_
   refine WL.seq (WL.cond (t:=true) (by simp[h']) (fun _=>WL.skip ?_) (by simp))
   refine WL.seq (WL.block (WL.sreg (by simp;rfl) (by simp;rfl) ?_))
   refine WL.reg (RL.run (by simp[w8,wu,n0,tn,hbc',lcs,hi24,hi24n];rfl) ⟨_,by simp;rfl,?_⟩)
   refine WL.reg (RL.run (by simp[w];rfl) ⟨_,by simp;rfl,h,?_,trivial⟩)
   simp[hb,Cs i h]
  ·obtain rfl:i=4:=by omega
   refine WL.sreg (by simp;rfl) (by simp;rfl) ?_
   refine WL.seq (WL.cond (t:=false) (by simp) (by simp) fun _=>WL.exit ?_)
   refine w7 (n6 (by decide) (RL.o (by simp;rfl) (RL.nil ⟨_,by simp;rfl,WL.ret ⟨rfl,?_⟩⟩)))
   simp[zpy,C4,z20,hlt]
   rw[pp (i:=24) (l:=List.map _ (z9o v 4) ++ _) (by simp[z20,hlt]),pp (by simp[z20,hlt])]
 ·have hbne:((body.length:Int) != 16)=true:=by simp;omega
  refine RL.o (by simp;rfl) (RL.g (by simp;rfl) (RL.o (by simp;rfl) (RL.nil ⟨_,by simp;rfl,?_⟩)))
  refine WL.cond (t:=true) (by simp;omega) (fun _=>?_) (by simp)
  refine WL.sreg (by simp;rfl) (by simp;rfl) (WL.ret ⟨rfl,?_⟩)
  simp[zpy,z4i,h16]
abbrev rsQ (p:List UInt8 × Int):Ex→SL→Prop:=fun e L=>e=Ex.ret∧RetOk y3b.rs [] (.tuple [str p.1,i64 p.2]) L
theorem ykn:(⟨#[90,165]⟩:ByteArray)=z3f [90,165]:=rfl
theorem zin:(⟨#[]⟩:ByteArray)=z3f []:=rfl
theorem zlz (id:Int)(body:List UInt8)(hb:body.length≤1000000):FnC Try.prog 73 [] [i64 id,str body] [] (.tuple [str (z4i id body).1,i64 (z4i id body).2]):=by
 have hz:=z2i body
 refine wc yyg rfl ?_
 refine WL.mono (Q':=rsQ (z4i id body)) ?_ fun e L h=>⟨.inr h.1,h.2⟩
 refine WL.sreg (by simp;rfl) (by simp;rfl) ?_
 by_cases p1:id < 0
 ·have hp:isP id=false:=by simp[isP];omega
  refine WL.seq (WL.sreg (by simp[p1];rfl) (by simp;rfl) ?_)
  refine WL.cond (t:=true) (by simp) (fun _=>?_) (by simp)
  refine WL.sreg (by simp;rfl) (by simp;rfl) (WL.ret ⟨rfl,?_⟩)
  simp[y3b,z4i,hp,zin]
 by_cases p2:48≤id
 ·have hp:isP id=false:=by simp[isP];omega
  refine WL.seq (WL.sreg (by simp[p1,p2];rfl) (by simp;rfl) ?_)
  refine WL.cond (t:=true) (by simp) (fun _=>?_) (by simp)
  refine WL.sreg (by simp;rfl) (by simp;rfl) (WL.ret ⟨rfl,?_⟩)
  simp[y3b,z4i,hp,zin]
 have hp:isP id=true:=by simp[isP];omega
 by_cases h16:body.length=16
 ·have eR:z4i id body=(za6 id body,0):=by simp[z4i,hp,h16]
  have w:IntKind.wrap .i64 (id+1)=id+1:=by rw[z01 (by omega) (by omega)]
  have w2:IntKind.wrap .u32 (id+1)=id+1:=by show (id+1) % 4294967296=id+1;omega
  have hl2:=zva (id+1) 2 (by decide)
  have hlt:=zbr id body
  have hcrc:=zt7 (z42 id body) (by omega)
  have hl4:=zva (ofF (z42 id body)) 4 (by decide)
  have eT:z3f (z9o (id+1) 2 ++ 90 :: 165 :: body)=z3f (z42 id body):=rfl
  have eI:z3f (z9o (ofF (z42 id body)) 4 ++ z42 id body)=z3f (za6 id body):=rfl
  rw[eR]
  refine WL.seq (WL.sreg (by simp[p1,p2,hz,h16];rfl) (by simp;rfl) ?_)
  refine WL.cond (t:=false) (by simp) (by simp) fun _=>WL.skip ?_
  refine w7 (RL.o (by simp[w,w2];rfl) (RL.call0 false hl2 (by simp[w,w2]) (by simp) (RL.o (by simp[ykn,zbo,z2i,z20,h16];rfl) (RL.nil ⟨_,by simp;rfl,?_⟩))))
  rw[eT]
  refine w7 (RL.o (by simp;rfl) (RL.call0 false hcrc (by simp) (by simp) (RL.call0 false hl4 (by simp) (by simp) (RL.o (by simp[zbo,z2i,z20,hlt,h16];rfl) (RL.nil ⟨_,by simp;rfl,WL.ret ⟨rfl,?_⟩⟩)))))
  rw[eI]
  simp[y3b]
 ·have h16':((body.length:Int) != 16)=true:=by simp;omega
  refine WL.seq (WL.sreg (by simp[p1,p2,hz,h16'];rfl) (by simp;rfl) ?_)
  refine WL.cond (t:=true) (by simp) (fun _=>?_) (by simp)
  refine WL.sreg (by simp;rfl) (by simp;rfl) (WL.ret ⟨rfl,?_⟩)
  simp[y3b,z4i,h16,zin]
def z3x (id:Int)(b:List UInt8):List UInt8 × Int :=
 if isP id=true∧b.length=24 then
  if b=z24 then ([],11) else if za6 id (b.drop 8)=b then (b.drop 8,0) else ([],10)
 else ([],1)
def z8x (n:Nat):List AL:=List.replicate n .dead
theorem zkc (n b o:Nat):¬ fpL (z8x n) b o:=by
 rw[z04]
 rintro⟨c,hc,h⟩
 rw[t5 hc] at h
 simp[fp] at h
theorem zgt:∀ n,z76 (z8x n)
 | 0=>trivial
 | n+1=>by
  show z76 (.dead :: z8x n)
  exact⟨trivial,zgt n,fun _ _ h=>by simp[fp] at h⟩
theorem zgu {w:World}{I:z12}:∀ {cs:List AL} {b o:Nat},z3k w I true cs b o→z3k w I true (z8x cs.length) b o
 | [],_,_,_=>by show z3k w I true [] _ _;simp only[z3k]
 | c :: cs,b,o,h=>by
  simp only[z3k] at h
  obtain⟨⟨y,h1,_⟩,_,_,h4⟩:=h
  show z3k w I true (.dead :: z8x cs.length) b o
  have:=zgu h4
  simp only[z3k,CR,Mem]
  exact⟨⟨y,h1,trivial⟩,trivial,(fun e=>by cases e),this⟩
theorem RelL.wipeS {C:Ctx}{X:XF LO} {β:Nat→Nat × Nat}{I:z12}{rg:Nat→Value}{w:World}(R:RelL C X β I rg w)(k:Nat)(hk:k % 100=0){l:Loc}{cs:List AL}(hX:(X k).2=.bx true (some l) cs) :
  RelL C (X.set k (.bx true (some l) (z8x cs.length))) β I rg w:=by
 have hkp:=z05 X β k (.bx true (some l) (z8x cs.length))
 have hf:∀ k' b o,kfp β (X.set k (.bx true (some l) (z8x cs.length))) k' b o→kfp β X k' b o:=by
  intro k' b o h
  by_cases e:k'=k
  ·subst e
   simp only[kfp,wa] at h
   rcases h with h | ⟨h,_⟩
   ·left;rw[hX]
    simp only[fp] at h ⊢
    rcases h with h | h
    ·left;simpa [z8x] using h
    ·exact absurd h (zkc _ _ _)
   ·unfold z2c at h;omega
  ·simpa only [kfp,w9 _ _ e] using h
 refine⟨fun t=>?_,fun k'=>?_,fun a b hne b' o h1 h2=>R.disj a b hne b' o (hf _ _ _ h1) (hf _ _ _ h2),fun b o h=>⟨(R.imm b o h).1,fun a ha=>(R.imm b o h).2 a (hf _ _ _ ha)⟩,fun a b o h=>R.frK a b o (hf _ _ _ h),R.frI,R.frI0,R.fr,R.gh,R.gr⟩
 ·by_cases e:100 * t=k
  ·have:=R.reg t
   rw[e] at this ⊢
   rw[hX] at this
   rw[wa]
   simp only[RR,CR] at this ⊢
   exact this
  ·rw[w9 _ _ e];exact z2b hkp _ _ (R.reg t)
 ·by_cases e:k'=k
  ·subst e
   have h:=R.key k'
   have hm:=h.mem
   rw[hX] at hm
   simp only[Mem] at hm
   refine⟨by rw[wa];simp only[Mem];exact zgu hm,by rw[wa];simp only[Sep];exact⟨fun _ _=>zkc _ _ _,zgt _⟩,fun hc=>by unfold z2c at hc;omega,fun b o hb=>h.live b o (hf k' b o hb),fun h99=>by omega⟩
  ·have h:=R.key k'
   refine⟨by rw[w9 _ _ e];exact h.mem,by rw[w9 _ _ e];exact h.sep,by rw[w9 _ _ e];exact fun h1 h2=>⟨(h.cell h1 h2).1.imp fun y hy=>⟨hy.1,hy.2.imp id fun h=>⟨h.1,z2b hkp _ _ h.2⟩⟩,(h.cell h1 h2).2⟩,fun b o hb=>h.live b o (hf k' b o hb),by rw[w9 _ _ e];exact h.last⟩
theorem RelT.wipe {C:Ctx}{X:XF Unit}{tm:Array Value}{w:World}(h:RelT C X tm w)(k:Nat)(hk:k % 100=0)(hkH:k ≠ 100 * H)(hH:roots (X (100 * H)).2=[]){cs:List AU}(hX:(X k).2=.bx true () cs)
  (h2:∀ t,z4p [k] (X (100 * t)).2=true) (h3:∀ k',z2c k'→noR [k] (X k').2=true):RelT C (X.upd k (.bx true () (List.replicate cs.length .dead))) tm w:=by
 obtain⟨XL,β,I,rg,he,R,hs,ht⟩:=h
 subst he
 obtain⟨l,lcs,hl,hlcs⟩:∃ l lcs,(XL k).2=.bx true l lcs∧lcs.map er=cs:=by
  have:er (XL k).2=.bx true () cs:=hX
  revert this
  generalize (XL k).2=v
  intro this
  cases v<;>simp [er] at this
  rename_i o l lcs
  exact⟨l,lcs,by rw[this.1],by rw[← z0f];exact this.2⟩
 have hmem:=(R.key k).mem
 rw[hl] at hmem
 cases l with
 | none=>simp [Mem] at hmem
 | some l =>
  have R1:=R.wipeS k hk hl
  have e1:(XL.set k (.bx true (some l) (z8x lcs.length)) k).2=.bx true (some l) (z8x lcs.length):=by rw[wa]
  have hne:∀ j,j ≠ k→(XL.set k (.bx true (some l) (z8x lcs.length))) j=XL j:=fun j hj=>w9 _ _ hj
  have hlen:lcs.length=cs.length:=by rw[← hlcs];simp
  have R2:=R.regen R1 [k] H (fun j hj=>by simp at hj;subst hj;exact⟨hk,hkH⟩) (fun _ _=>rfl) (by
    rw[hne _ (Ne.symm hkH)]
    have:roots (er (XL (100 * H)).2)=[]:=hH
    rwa [z69] at this) (fun j hj _=>by
    rw[hne j (by intro e;subst e;simp at hj)]) (fun t=>by
    by_cases e:100 * t=k
    ·rw[e,e1];rfl
    ·rw[hne _ e,← z80];exact h2 t) (fun j hj=>by
    have:j ≠ k:=by intro e;subst e;unfold z2c at hj;omega
    rw[hne _ this,← zpi];exact h3 j hj) (fun j hj=>by
    simp at hj;subst hj;rw[hl,e1];rfl)
  refine⟨_,β,I,rg,?_,R2,hs,ht⟩
  rw[zbl]
  funext j
  by_cases e:j=k
  ·subst e
   simp only[z4h,List.contains_cons,beq_self_eq_true,Bool.true_or,if_true,wb,erF]
   rw[e1]
   simp only[er,z0f,z8x,List.map_replicate,hlen]
  ·have hc:[k].contains j=false:=by simp[e]
   simp only[z4h,hc,pu,if_false,wd _ _ e,erF,hne j e]
section
variable {P:Program} {nt:Nat} {L:SL} {Q:Ex→SL→Prop}
def zq6 (k:Nat)(L:SL):Bool:=decide (k % 100=0) && (!decide (k=100 * H) && ((roots (fnL L (100 * H)).2).isEmpty && L.all fun e=>z4p [k] e.2.2 && (decide (e.1 % 100=0) || noR [k] e.2.2)))
theorem RelT.wipeL {C:Ctx}{tm:Array Value}{w:World}(h:RelT C (fnL L) tm w)(k:Nat){cs:List AU}(hX:(fnL L k).2=.bx true () cs)(hB:zq6 k L=true):RelT C (fnL (z9h L k (.bx true () (List.replicate cs.length .dead)))) tm w:=by
 simp only[zq6,pm,decide_eq_true_eq,qm,decide_eq_false_iff_not,qe,qp,rk] at hB
 obtain⟨a1,a2,a3,a4⟩:=hB
 have:=h.wipe k a1 a2 a3 hX (fun t=>?_) (fun k' hc=>?_)
 ·rwa [z4b] at this
 ·rcases z8v L (100 * t) with h | ⟨e,he,_,h⟩
  ·rw[h];rfl
  ·rw[h];exact (a4 e he).1
 ·rcases z8v L k' with h | ⟨e,he,e1,h⟩
  ·rw[h];rfl
  ·rw[h]
   rcases (a4 e he).2 with q | q
   ·rw[e1] at q;exact absurd q hc.1
   ·exact q
theorem WL.wipe {cc:Cd}(k:Nat){cs:List AU}(hX:(fnL L k).2=.bx true () cs)(hB:zq6 k L=true)(h:WL P nt cc (z9h L k (.bx true () (List.replicate cs.length .dead))) Q):WL P nt cc L Q:=by
 intro C code hP hn hc a w hd hR
 exact h C code hP hn hc a w hd (hR.wipeL k hX hB)
theorem RL.wipe {K:SL→Prop}{segs:List Sg}(k:Nat){cs:List AU}(hX:(fnL L k).2=.bx true () cs)(hB:zq6 k L=true)(h:RL P nt segs (z9h L k (.bx true () (List.replicate cs.length .dead))) K):RL P nt segs L K:=by
 intro C ops idx hP hnt hc a w Q hd hR hK
 exact h C ops idx hP hnt hc a w Q hd (hR.wipeL k hX hB) hK
end
attribute [simp] zq6
theorem RelT.wipe1 {C:Ctx}{X:XF Unit}{tm:Array Value}{w:World}(h:RelT C X tm w)(k:Nat)(p:List Nat)(hk:k % 100=0)(hkH:k ≠ 100 * H)(hH:(X (100 * H)).2=.non){N:AU}(hN:z0o (X k).2 p=some N)(hn:N.isNode=true)(ho:z4k (X k).2 p=true)
  (hsm:z4g (X k).2 (z0z (X k).2 p .dead)=true) (h2:∀ t,z4p [k] (X (100 * t)).2=true) (h3:∀ k',z2c k'→noR [k] (X k').2=true):RelT C (X.upd k (z0z (X k).2 p .dead)) tm w:=by
 obtain⟨XL,β,I,rg,he,R,hs,ht⟩:=h
 subst he
 obtain⟨NL,hNL,hNe⟩:∃ NL,z0o (XL k).2 p=some NL∧er NL=N:=by
  have:=hN
  simp only[erF,z6r] at this
  cases hc:z0o (XL k).2 p with
  | none=>simp [hc] at this
  | some NL =>
   rw[hc] at this
   exact⟨NL,rfl,by simpa using this⟩
 have hnL:NL.isNode=true:=by rw[← hNe,z78] at hn;exact hn
 have hoL:z4k (XL k).2 p=true:=by rw[← z8g];exact ho
 have hHL:(XL (100 * H)).2=.non:=by
  have:er (XL (100 * H)).2=.non:=hH
  revert this
  generalize (XL (100 * H)).2=v
  intro h;cases v<;>simp [er] at h;rfl
 have R1:=R.takeP k H (by decide) p hkH (v:=.non) (x:=rg H) hNL hnL hoL (by simp[Mem]) (by simp[Sep]) (fun b o hb=>by simp[fp] at hb) (by simp[RR])
 have erg:(fun s=>if s=H then rg H else rg s)=rg:=by funext s;split<;>simp_all
 rw[erg] at R1
 have hM1:∀ j,j ≠ k→((XL.set k (z0z (XL k).2 p .dead)).set (100 * H) .non) j=XL j:=fun j hj=>by
  by_cases e:j=100 * H
  ·subst e
   rw[wa,w9 _ _ hj]
   have:XL (100 * H)=((XL (100 * H)).1,.non):=by rw[← hHL]
   rw[this];rfl
  ·rw[w9 _ _ e,w9 _ _ hj]
 have hM2:(((XL.set k (z0z (XL k).2 p .dead)).set (100 * H) .non) k).2=z0z (XL k).2 p .dead:=by
  rw[w9 _ _ hkH,wa]
 have hsmL:z4g (er (XL k).2) (er (z0z (XL k).2 p .dead))=true:=by rw[z6s];exact hsm
 have hroot:z4p [k] (z0z (XL k).2 p .dead)=true:=by
  rw[← z80]
  revert hsmL
  generalize er (z0z (XL k).2 p .dead)=z
  generalize er (XL k).2=y
  intro h
  cases y<;>cases z<;>simp [z4g] at h<;>rfl
 have R2:=R.regen R1 [k] H (fun j hj=>by simp at hj;subst hj;exact⟨hk,hkH⟩) (fun _ _=>rfl) (by
   rw[hM1 _ (Ne.symm hkH),hHL];rfl) (fun j hj _=>by
   rw[hM1 j (by intro e;subst e;simp at hj)]) (fun t=>by
   by_cases e:100 * t=k
   ·rw[e,hM2];exact hroot
   ·rw[hM1 _ e,← z80];exact h2 t) (fun j hj=>by
   have:j ≠ k:=by intro e;subst e;unfold z2c at hj;omega
   rw[hM1 _ this,← zpi];exact h3 j hj) (fun j hj=>by
   simp at hj;subst hj;rw[hM2];exact hsmL)
 refine⟨_,β,I,rg,?_,R2,hs,ht⟩
 rw[zbl]
 funext j
 by_cases e:j=k
 ·subst e
  simp only[z4h,List.contains_cons,beq_self_eq_true,Bool.true_or,if_true,wb,erF]
  rw[hM2,z6s];rfl
 ·have hc:[k].contains j=false:=by simp[e]
  simp only[z4h,hc,pu,if_false,wd _ _ e,erF,hM1 j e]
section
variable {P:Program} {nt:Nat} {L:SL} {Q:Ex→SL→Prop}
def yvs:Option AU→Bool
 | some N=>N.isNode
 | none=>false
@[simp] theorem yko (N:AU):yvs (some N)=N.isNode:=rfl
def zgv (k:Nat)(p:List Nat)(L:SL):Bool:=decide (k % 100=0) && (!decide (k=100 * H) && ((fnL L (100 * H)).2.isNon && (yvs (z0o (fnL L k).2 p) && (z4k (fnL L k).2 p && (z4g (fnL L k).2 (z0z (fnL L k).2 p .dead) && L.all fun e=>z4p [k] e.2.2 && (decide (e.1 % 100=0) || noR [k] e.2.2))))))
theorem RelT.wipe1L {C:Ctx}{tm:Array Value}{w:World}(h:RelT C (fnL L) tm w)(k:Nat)(p:List Nat)(hB:zgv k p L=true):RelT C (fnL (z9h L k (z0z (fnL L k).2 p .dead))) tm w:=by
 simp only[zgv,pm,decide_eq_true_eq,qm,decide_eq_false_iff_not,qe,qp] at hB
 obtain⟨a1,a2,a3,a5,a6,a7,a4⟩:=hB
 have a3':(fnL L (100 * H)).2=.non:=by
  revert a3
  generalize (fnL L (100 * H)).2=v
  intro h;cases v<;>simp [AV.isNon] at h;rfl
 obtain⟨N,hN,hn⟩:∃ N,z0o (fnL L k).2 p=some N∧N.isNode=true:=by
  revert a5
  generalize z0o (fnL L k).2 p=o
  intro h
  cases o with
  | none=>simp [yvs] at h
  | some N=>exact ⟨N,rfl,h⟩
 have:=h.wipe1 k p a1 a2 a3' hN hn a6 a7 (fun t=>?_) (fun k' hc=>?_)
 ·rwa [z4b] at this
 ·rcases z8v L (100 * t) with h | ⟨e,he,_,h⟩
  ·rw[h];rfl
  ·rw[h];exact (a4 e he).1
 ·rcases z8v L k' with h | ⟨e,he,e1,h⟩
  ·rw[h];rfl
  ·rw[h]
   rcases (a4 e he).2 with q | q
   ·rw[e1] at q;exact absurd q hc.1
   ·exact q
theorem WL.wipe1 {cc:Cd}(k:Nat)(p:List Nat)(hB:zgv k p L=true)(h:WL P nt cc (z9h L k (z0z (fnL L k).2 p .dead)) Q):WL P nt cc L Q:=by
 intro C code hP hn hc a w hd hR
 exact h C code hP hn hc a w hd (hR.wipe1L k p hB)
theorem RL.wipe1 {K:SL→Prop}{segs:List Sg}(k:Nat)(p:List Nat)(hB:zgv k p L=true)(h:RL P nt segs (z9h L k (z0z (fnL L k).2 p .dead)) K):RL P nt segs L K:=by
 intro C ops idx hP hnt hc a w Q hd hR hK
 exact h C ops idx hP hnt hc a w Q hd (hR.wipe1L k p hB) hK
theorem n3 {K:SL→Fs→Prop}{rest:List Sg}{d f:Nat}{cs:List COd}{gs gs':List (Gh Unit)}{vs:List AU}{r:AU}{fs:Fs}(own:Bool)(ls:List (Nat × List Nat))(hfn:FnC P f gs vs gs' r)(hgs:ls.mapM (z9u (fnL L))=some gs)(hnd:(ls.map (·.1)).Nodup)
  (has:z13 (fnL L) ls own cs=some vs) (hs:z1d own gs gs' r=true) (hcl:z0b (z0l (z6k L (ls.zip gs')) (100 * d) (z1p r))=true)
  (h:DL P nt rest (z0l (z6k L (ls.zip gs')) (100 * d) (z1p r)) ((2 * d :: (ls.map (fun e=>z14 e.1) ++ (uOs (fnL L) cs ++ zi7 (fnL L) own cs)),2 * d :: ls.map (fun e=>z14 e.1)) :: fs) K):DL P nt (.call none d f cs :: rest) L fs K:=by
 refine DL.cons (it:=.call none d f cs) (rest:=rest) (by simp[z21]) (fun C ops i o hP hn hc0 hi hit=>?_) h
 have hzip:∀ e ∈ ls.zip gs',e.1 ∈ ls:=fun e he=>(List.of_mem_zip (a:=e.1) (b:=e.2) he).1
 have hcx:=zb7 hcl
 have e0:fnL (z0l (z6k L (ls.zip gs')) (100 * d) (z1p r))=(z26 (fnL L) (ls.zip gs')).set (100 * d) (z1p r):=by rw[← z07,z5h]
 rw[e0] at hcx ⊢
 refine⟨fun u hu=>?_,fun k hk=>?_,hcx,fun X hX ha=>?_⟩
 ·simp only[qj,qh] at hu ⊢
  rcases hu with hu | hu
  ·exact .inl hu
  ·exact .inr (.inl hu)
 ·have h1:k ≠ 100 * d:=fun e=>hk (by rw[e,z0m];simp)
  rw[w9 _ _ h1]
  refine za1 fun e he e'=>hk ?_
  rw[← e']
  exact qd _ (sg.2 ⟨e.1,hzip e he,rfl⟩)
 ·have hls:∀ e ∈ ls,X e.1=fnL L e.1:=fun e he=>ha e.1 (by
   simp only[qj,qh]
   exact .inr (.inl (sg.2 ⟨e,he,rfl⟩)))
  have hzs:∀ e ∈ ls.zip gs',X e.1.1=fnL L e.1.1:=fun e he=>hls _ (hzip e he)
  have hag:agr (uOs (fnL L) cs ++ zi7 (fnL L) own cs) X (fnL L):=fun k hk=>ha k (by
   simp only[qj,qh] at hk ⊢
   exact .inr (.inr hk))
  have hd0:X (100 * d)=fnL L (100 * d):=ha _ (by rw[z0m];simp)
  have hsk0:=zdv (ls:=ls) (gs:=gs) (gs':=gs') own hP hn hi hit hfn (by rw[zk2 hls];exact hgs) hnd (by rw[z44 hag];exact has) hs
  have hsk:SOk C ops i X ((z26 X (ls.zip gs')).set (100 * d) (z1p r)):=hsk0.weak fun tm w hR=>by
   have h2:=hR.freeze (100 * d)
   have e:((z26 X (ls.zip gs')).set (100 * d) r).upd (100 * d) (z1p (((z26 X (ls.zip gs')).set (100 * d) r) (100 * d)).2)=(z26 X (ls.zip gs')).set (100 * d) (z1p r):=by
    funext j
    by_cases ej:j=100 * d
    ·subst ej;simp[wb,wa,XF.set,XF.upd]
    ·rw[wd _ _ ej,w9 _ _ ej,w9 _ _ ej]
   rw[e] at h2
   exact h2
  have:mix (2 * d :: ls.map (fun e=>z14 e.1)) ((z26 (fnL L) (ls.zip gs')).set (100 * d) (z1p r)) X=(z26 X (ls.zip gs')).set (100 * d) (z1p r):=by
   funext k
   unfold mix
   by_cases hk:z14 k ∈ 2 * d :: ls.map (fun e=>z14 e.1)
   ·rw[if_pos hk]
    have hXk:X k=fnL L k:=by
     rcases qj.1 hk with hk | hk
     ·rw[← z0m d] at hk
      rw[zgi hk]
      exact hd0
     ·obtain⟨e,he,hke⟩:=sg.1 hk
      rw[← zgi hke]
      exact hls e he
    have hb:=zgj hzs k hXk
    by_cases e:k=100 * d
    ·subst e
     simp only[XF.set,if_true,hb]
    ·rw[w9 _ _ e,w9 _ _ e,hb]
   ·rw[if_neg hk]
    have h1:k ≠ 100 * d:=fun e=>hk (by rw[e,z0m];simp)
    rw[w9 _ _ h1,za1 fun e he e'=>hk (by
     rw[← e']
     exact qd _ (sg.2 ⟨e.1,hzip e he,rfl⟩))]
  rw[this]
  exact hsk
end
attribute [simp] zgv
theorem DStep.conv {C:Ctx}{ops:Array Oper}{i:Nat}{R D:List Nat}{Y Y':XF Unit}(h:DStep C ops i R D Y Y')(k:Nat)(hk:z14 k ∈ D)(hh:z2y k=false)(v:AU)(hr:∀ r ∈ roots v,r ∈ roots (Y' k).2)
  (hc:∀ (X:XF Unit) tm w,X k=Y' k→RelT C X tm w→RelT C (X.upd k v) tm w):DStep C ops i R D Y (Y'.upd k v):=by
 have hu:∀ j,(Y'.upd k v) j=if j=k then ((Y' k).1,v) else Y' j:=fun j=>by
  by_cases e:j=k
  ·subst e;rw[wb];simp
  ·rw[wd _ _ e];simp[e]
 refine⟨h.sub,fun j hj=>?_,fun j=>?_,fun X hX ha=>?_⟩
 ·have e:j ≠ k:=fun e=>hj (e ▸ hk)
  rw[wd _ _ e];exact h.out j hj
 ·rw[hu]
  by_cases e:j=k
  ·subst e
   simp only[if_true]
   exact⟨fun z=>(by rw[hh] at z;cases z),fun r hr'=>(h.cl j).2 r (hr r hr')⟩
  ·simp only[e,if_false];exact h.cl j
 ·refine (h.step X hX ha).weak fun tm w r=>?_
  have hm:(mix D Y' X) k=Y' k:=by unfold mix;rw[if_pos hk]
  have:=hc (mix D Y' X) tm w hm r
  have e:mix D (Y'.upd k v) X=(mix D Y' X).upd k v:=by
   funext j
   by_cases e:j=k
   ·subst e;rw[wb];simp only[mix,hk,if_true,wb]
   ·rw[wd _ _ e];simp only[mix,wd _ _ e]
  rw[e];exact this
section
variable {P:Program} {nt:Nat}
theorem WL.eqL {cc:Cd}{L L':SL}{Q:Ex→SL→Prop}(e:L=L')(h:WL P nt cc L' Q):WL P nt cc L Q:=e ▸ h
theorem RL.eqL {segs:List Sg}{L L':SL}{K:SL→Prop}(e:L=L')(h:RL P nt segs L' K):RL P nt segs L K:=e ▸ h
theorem DL.cut {L:SL}{fs:Fs}{K:SL→Fs→Prop}{segs segs':List Sg}(e:z21 segs=z21 segs')(h:DL P nt segs' L fs K):DL P nt segs L fs K:=by
 intro C ops i n hP hn hc0 hc
 exact h C ops i n hP hn hc0 (by rw[← e];exact hc)
end
abbrev opQ (p:List UInt8 × Int):Ex→SL→Prop:=fun e L=>e=Ex.ret∧RetOk zgs.rs [] (.tuple [sU true p.1,i64 p.2]) L
theorem zt9 {b:List UInt8}(h24:b.length=24)(h:∀ j (hj:j < b.length),b[j]=0):b=z24:=by
 refine List.ext_getElem (by simp[h24]) fun j h1 h2=>?_
 rw[h j h1]
 have:∀ j (hj:j < z24.length),(0:UInt8)=z24[j]:=by decide
 exact this j h2
theorem zq7 (id:Int)(hp:isP id=true)(b:List UInt8)(h24:b.length=24)(hne:b ≠ z24):WL Try.prog zgs.nt zq0 [(0,0,i64 id),(100,0,sU false b),(3200,0,bl false)] (opQ (z3x id b)):=by
 have eO:z3x id b=if za6 id (b.drop 8)=b then (b.drop 8,0) else ([],10):=by simp[z3x,hp,h24,hne]
 rw[eO]
 clear eO
 obtain⟨bd,ebd⟩:∃ x,x=b.drop 8:=⟨_,rfl⟩
 have hl8:bd.length=16:=by simp[ebd,h24]
 have hsl:=zim id bd (by omega)
 have eS:z4i id bd=(za6 id bd,0):=by simp[z4i,hp,hl8]
 rw[eS] at hsl
 have hcl:=z5j bd (by unfold z0c;omega)
 have heq:=z3g (za6 id bd) b
 have hil:=zee id bd
 have tk:List.take 16 (List.drop 8 (List.map (fun b=>u8 (b.toNat:Int)) b))=bm bd:=by rw[ebd,bm,List.map_drop,pp (by simp[h24])]
 have tk2:List.take 16 (bm bd)=bm bd:=pp (by simp[hl8])
 rw[← ebd]
 clear ebd
 refine w7 (RL.o (by simp[h24];rfl) (RL.call0 false hcl (by simp[h24,tk,hl8]) (by simp) (RL.o (by simp;rfl) (RL.nil ⟨_,by simp;rfl,?_⟩))))
 refine WL.eqL (L':=[(0,0,i64 id),(100,0,sU false b),(700,0,.sl true () 1 16 (bm bd))]) (by simp[hl8,tk2]) ?_
 refine WL.seq (w7 (RL.o (by simp;rfl) (RL.call0 true hsl (by simp[hl8,tk2]) (by simp[zga]) (n6 (by decide) (RL.o (by simp;rfl) (RL.nil ⟨_,by simp;rfl,?_⟩))))))
 generalize za6 id bd=img at *
 have tk3:List.take img.length (bm img)=bm img:=pp (by simp)
 by_cases r:img=b
 ·rw[if_pos r]
  have rb:(img == b)=true:=by simp[r]
  rw[rb] at heq
  refine w7 (RL.o (by simp;rfl) (RL.call0 true heq (by simp[tk3]) (by simp) (RL.o (by simp;rfl) (RL.nil ⟨_,by simp;rfl,?_⟩))))
  refine WL.cond (t:=false) (by simp) (by simp) fun _=>WL.skip ?_
  refine w7 (n6 (by decide) (RL.o (by simp;rfl) (RL.nil ⟨_,by simp;rfl,WL.ret ⟨rfl,?_⟩⟩)))
  simp[zgs,hl8]
  rw[tk2,tk2]
 ·rw[if_neg r]
  have rb:(img == b)=false:=by simp[r]
  rw[rb] at heq
  refine w7 (RL.o (by simp;rfl) (RL.call0 true heq (by simp[tk3]) (by simp) (RL.o (by simp;rfl) (RL.nil ⟨_,by simp;rfl,?_⟩))))
  refine WL.cond (t:=true) (by simp) (fun _=>?_) (by simp)
  refine WL.sreg (by simp;rfl) (by simp;rfl) (WL.ret ⟨rfl,?_⟩)
  simp[zgs]
theorem y1g (id:Int)(b:List UInt8)(hb:b.length≤1000000):FnC Try.prog 117 [] [i64 id,sU false b] [] (.tuple [sU true (z3x id b).1,i64 (z3x id b).2]):=by
 refine wc yvf rfl ?_
 refine WL.mono (Q':=opQ (z3x id b)) ?_ fun e L h=>⟨.inr h.1,h.2⟩
 refine WL.sreg (by simp;rfl) (by simp;rfl) ?_
 refine WL.scope (WL.seq (w7 (RL.o (by simp;rfl) (RL.call0 false (zq5 id) (by simp) (by simp) ?_))))
 cases hp:isP id with
 | false =>
  refine RL.o (by simp;rfl) (RL.g (by simp;rfl) (RL.o (by simp;rfl) (RL.nil ⟨_,by simp;rfl,?_⟩)))
  refine WL.cond (t:=true) (by simp) (fun _=>?_) (by simp)
  refine WL.sreg (by simp;rfl) (by simp;rfl) (WL.ret ⟨rfl,?_⟩)
  simp[zgs,z3x,hp]
 | true =>
 by_cases h24:b.length=24
 ·refine RL.o (by simp;rfl) (RL.g (by simp[h24];rfl) (RL.o (by simp;rfl) (RL.nil ⟨_,by simp;rfl,?_⟩)))
  refine WL.cond (t:=false) (by simp) (by simp) fun _=>WL.skip ?_
  refine WL.sreg (by simp;rfl) (by simp;rfl) ?_
  refine WL.seq (WL.label ?_)
  refine WL.seq (WL.block (we 24 (fun i=>[(0,0,i64 id),(100,0,sU false b),(600,0,i64 i)]) (fun i=>∀ j (hj:j < b.length),j < i→b[j]=0) (by simp) (fun j _ h=>absurd h (ra _)) fun i hi hz=>?_))
  by_cases h:i < 24
  ·have h':(i:Int) < 24:=by omega
   have w:IntKind.wrap .i64 ((i:Int)+1)=((i+1:Nat):Int):=by rw[z01 (by omega) (by omega)];omega
   have hib:i < b.length:=by omega
   have f1:List.drop i (List.map (fun b=>u8 (b.toNat:Int)) b)=u8 (b[i].toNat:Int) :: List.drop (i+1) (bm b):=by
    rw[← List.map_drop,s6 hib,bm,← List.map_drop];rfl
   refine WL.seq (WL.sreg (by simp[h24];rfl) (by simp;rfl) ?_)
   refine WL.cond (t:=true) (by simp[h',h24]) (fun _=>WL.skip ?_) (by simp)
   refine WL.block (WL.seq ?_)
   by_cases q:b[i]=0
   ·have q':((b[i].toNat:Int) != 0)=false:=by simp[q]
    refine WL.sreg (by simp[h24,hib,h,h',f1,q'];rfl) (by simp;rfl) ?_
    refine WL.cond (t:=false) (by simp[q]) (by simp) fun _=>WL.skip ?_
    refine WL.reg (RL.run (by simp[w];rfl) ⟨_,by simp;rfl,h,by simp,fun j hj hji=>?_⟩)
    by_cases e:j=i
    ·subst e;exact q
    ·exact hz j hj (by omega)
   ·have qn:¬ b[i].toNat=0:=fun e=>q (UInt8.toNat_inj.1 e)
    have q':((b[i].toNat:Int) != 0)=true:=by simp;omega
    refine WL.sreg (by simp[h24,hib,h,h',f1,q'];rfl) (by simp;rfl) ?_
    refine WL.cond (t:=true) (by simp[qn]) (fun _=>WL.fin [26] (by simp;rfl) (WL.exit ?_)) (by simp)
    have hne:b ≠ z24:=fun e=>q (by
     have:∀ j (hj:j < z24.length),z24[j]=0:=by decide
     subst e
     exact this i hib)
    have h24i:((i:Int) == 24)=false:=beq_false_of_ne (by omega)
    refine WL.seq (WL.sreg (by simp[h24,h24i];rfl) (by simp;rfl) ?_)
    refine WL.cond (t:=false) (by simp[h24i]) (by simp) fun _=>WL.skip ?_
    refine WL.eqL ?_ (zq7 id hp b h24 hne)
    simp[h24i]
  ·obtain rfl:i=24:=by omega
   have hz24:=zt9 h24 fun j hj=>hz j hj (by omega)
   refine WL.seq (WL.sreg (by simp[h24];rfl) (by simp;rfl) ?_)
   refine WL.cond (t:=false) (by simp[h24]) (by simp) fun _=>WL.exit ?_
   refine WL.seq (WL.sreg (by simp[h24];rfl) (by simp;rfl) ?_)
   refine WL.cond (t:=true) (by simp) (fun _=>?_) (by simp)
   refine WL.sreg (by simp;rfl) (by simp;rfl) (WL.ret ⟨rfl,?_⟩)
   simp[zgs,z3x,hp,hz24]
 ·refine RL.o (by simp;rfl) (RL.g (by simp;rfl) (RL.o (by simp;rfl) (RL.nil ⟨_,by simp;rfl,?_⟩)))
  refine WL.cond (t:=true) (by simp;omega) (fun _=>?_) (by simp)
  refine WL.sreg (by simp;rfl) (by simp;rfl) (WL.ret ⟨rfl,?_⟩)
  simp[zgs,z3x,h24]
theorem y1h (o r:Bool)(l:List Ev):(z0x (l.flatMap (z02 o r)):List AU)=l.flatMap (z02 false false):=by
 rw[z3n]
 induction l with
 | nil=>rfl
 | cons a l ih=>rw [qw,sj,ih,qw];simp[z1p,Function.comp_def]
theorem zef {l:List Ev}{i:Nat}(h:i < l.length):z9a l (i:Int)=l[i].Stamp:=by
 simp[z9a,h]
theorem zq8 (l:List Ev)(a b:Int)(ha:∃ i:Nat,i < l.length∧a=i)(hb:∃ i:Nat,i < l.length∧b=i):FnC Try.prog 92 [] [i64 a,i64 b,.vptr () [sEv l]] [] (i64 (zha (z9a l a) (z9a l b))):=by
 obtain⟨i,hi,rfl⟩:=ha
 obtain⟨j,hj,rfl⟩:=hb
 rw[zef hi,zef hj]
 have f1:=z1r (o:=false) (r:=false) hi
 have f2:=z1r (o:=false) (r:=false) hj
 have g1:14≤l.length * 14 - i * 14:=by omega
 have g2:14≤l.length * 14 - j * 14:=by omega
 refine wc yy6 rfl ?_
 refine WL.sreg (by simp;rfl) (by simp;rfl) ?_
 refine WL.seq (WL.draw z0t (by simp[z0b,noH]) (DL.o (by simp[hi,hj,f1,f2,g1,g2];exact⟨rfl,rfl⟩) (DL.call0 false (ygg l[i].Stamp l[j].Stamp) (by simp) (by simp) (DL.o (by simp;exact⟨rfl,rfl⟩) (DL.nil ⟨by kernel_rfl,_,by simp;rfl,?_⟩)))))
 refine WL.ret ⟨.inr rfl,?_⟩
 simp[ywv]
abbrev orS (l:List Ev)(i:Nat):SL:=[(100,0,.bptr 1 1 0),(101,0,sEv l),(199,1,.non),(300,0,sI true (z9m l i)),(600,0,sEv l),(700,0,i64 l.length),(800,0,i64 i)]
theorem zeg (l:List Ev)(hn:l.length≤1000):FnC Try.prog 33 [] [sEv l] [] (sI true (z1t l)):=by
 refine wc yxy rfl ?_
 refine WL.sreg (by simp;rfl) (by simp;rfl) ?_
 refine WL.sreg (by simp;rfl) (by simp;rfl) ?_
 refine WL.seq (WL.sreg (by simp;rfl) (by simp;rfl) ?_)
 refine WL.block (we l.length (fun i=>orS l i) (fun _=>True) (by simp[z9m]) trivial fun i hi _=>?_)
 by_cases hlt:i < l.length
 ·have f1:=z1r (o:=false) (r:=false) hlt
  have g1:14≤l.length * 14 - i * 14:=by omega
  have w:IntKind.wrap .i64 ((i:Int)+1)=((i+1:Nat):Int):=by rw[z01 (by omega) (by omega)];omega
  have hst:(l.map (·.Stamp)).getD i 0=l[i].Stamp:=by simp[hlt]
  have hps:=zbq l i
  rw[hst] at hps
  have hlen:=za4 l i
  refine WL.sreg (by simp[hlt];rfl) (by simp;rfl) ?_
  refine WL.seq (WL.cond (t:=true) (by simp[hlt]) (fun _=>WL.skip ?_) (by simp))
  refine WL.seq (WL.block (WL.sreg (by simp[hlt,f1,g1];rfl) (by simp;rfl) ?_))
  by_cases hs:0 < l[i].Stamp
  ·rw[if_pos hs] at hps
   have m1:((z9m l i).length+1) * 8≤140737488355328:=by omega
   have m2:(z9m l i).length+1≤maxLen:=by unfold maxLen;omega
   refine WL.sreg (by simp[hs];rfl) (by simp;rfl) ?_
   refine WL.cond (t:=true) (by simp) (fun _=>?_) (by simp)
   refine WL.reg (RL.run (by simp[m1,m2];rfl) ⟨_,by simp;rfl,?_⟩)
   refine WL.reg (RL.run (by simp[w];rfl) ⟨_,by simp;rfl,hlt,?_,trivial⟩)
   simp[hps]
   exact pp (by simp)
  ·rw[if_neg hs] at hps
   refine WL.sreg (by simp[hs];rfl) (by simp;rfl) ?_
   refine WL.cond (t:=false) (by simp) (by simp) fun _=>WL.skip ?_
   refine WL.reg (RL.run (by simp[w];rfl) ⟨_,by simp;rfl,hlt,?_,trivial⟩)
   simp[hps]
 ·obtain rfl:i=l.length:=by omega
  refine WL.sreg (by simp;rfl) (by simp;rfl) ?_
  refine WL.seq (WL.cond (t:=false) (by simp) (by simp) fun _=>WL.exit ?_)
  have hlen:=za4 l l.length
  have hc:=y0g (key:=z9a l) (g:=92) (cs:=[sEv l]) (z9m l l.length) (z85 l _) (by omega) (fun a b ha hb=>by
   obtain⟨i,h1,h2,_⟩:=za3 ha
   obtain⟨j,h3,h4,_⟩:=za3 hb
   exact zq8 l a b ⟨i,h1,h2⟩ ⟨j,h3,h4⟩)
  refine w7 (RL.o (by simp;rfl) (RL.call true [(300,[])] hc (by simp) (by simp) (by simp[z36,y1h]) (by simp[ymu]) (RL.nil ⟨_,by simp;rfl,?_⟩)))
  refine w7 (n6 (by decide) (RL.o (by simp;rfl) (RL.nil ⟨_,by simp;rfl,WL.ret ⟨.inr rfl,?_⟩⟩)))
  simp[ywq,z1t,y3a]
end Go.OT
