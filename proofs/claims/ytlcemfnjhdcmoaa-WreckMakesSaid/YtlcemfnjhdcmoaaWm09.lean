/- Part 9 of the proof: see its last file. -/
import Derived.Test.YtlcemfnjhdcmoaaWm08
set_option linter.unusedSimpArgs false
set_option linter.unusedVariables false
set_option maxHeartbeats 64000000
namespace Go.OT
open Go.Proofs
theorem zd2 {key:Int→Int}{In:Int→Prop}{g:Nat}{cs:List AU}(hcl:zuq key In g cs)(f:Nat→Int)(N a m b:Nat)(hN:z0c N)(h1:a < m)(h2:m < b)(h3:b≤N)(hIn:∀ k,k < N→In (f k))(T:Two key f a m b)
  (hrec:zst key In g cs N (b - a)) (f':Nat→Int) (hf':SM key f a b f') (mid s0 r0:Nat) (hmid:mid=(a+b) / 2) (hs0:s0=if mid < m then mid+m - b else a) (hr0:r0=if mid < m then mid else m) :
  WL Try.prog z9l.nt zp1 [(0,0,.view 1000000 0 [] 0 N),(100,0,i64 a),(200,0,i64 m),(300,0,i64 b),(400,0,.clos g [.vptr () cs]),(1800,0,i64 mid),(1900,0,i64 (mid+m:Nat)),(2000,0,i64 s0),(2100,0,i64 r0),(1000000,0,rF f N)] (syE f' N):=by
 have hN':=hN
 unfold z0c at hN'
 have hb:a≤s0∧s0≤r0∧r0≤m∧r0≤mid∧mid < b∧a≤mid:=by
  by_cases hm:mid < m
  ·rw[if_pos hm] at hs0 hr0;omega
  ·rw[if_neg hm] at hs0 hr0;omega
 obtain⟨b1,b2,b3,b4,b5,b6⟩:=hb
 obtain⟨q,hq⟩:∃ q,q=mid+m:=⟨_,rfl⟩
 obtain⟨p,hp⟩:∃ p,p=q - 1:=⟨_,rfl⟩
 have w1:IntKind.wrap .i64 ((q:Int) - 1)=(p:Int):=by rw[z01 (by omega) (by omega)];omega
 rw[← hq]
 refine WL.sreg (by simp[w1];rfl) (by simp;rfl) ?_
 refine WL.seq (WL.block (WL.loop (ι:={x:Nat × Nat // s0≤x.1∧x.1≤x.2∧x.2≤r0∧(∀ c,s0≤c→c < x.1→¬ key (f (mid+m - 1 - c)) < key (f c))∧(∀ c,x.2≤c→c < r0→key (f (mid+m - 1 - c)) < key (f c))})
  (fun x=>[(0,0,.view 1000000 0 [] 0 N),(100,0,i64 a),(200,0,i64 m),(300,0,i64 b),(400,0,.clos g [.vptr () cs]),(1800,0,i64 mid),(1900,0,i64 q),(2000,0,i64 x.1.1),(2100,0,i64 x.1.2),(2200,0,i64 p),(1000000,0,rF f N)]) (fun x=>x.1.2 - x.1.1)
  ⟨(s0,r0),⟨qa _,b2,qa _,fun k g1 g2=>by simp only at g2;omega,fun k g1 g2=>by simp only at g1;omega⟩⟩ (by simp) fun x=>?_))
 obtain⟨⟨i,j⟩,q1,q2,q3,q4,q5⟩:=x
 simp only at q1 q2 q3 q4 q5 ⊢
 by_cases hij:i < j
 ·refine WL.seq (WL.sreg (by simp[hij];rfl) (by simp;rfl) ?_)
  refine WL.cond (t:=true) (by simp[hij]) (fun _=>WL.skip ?_) (by simp)
  obtain⟨c,hc⟩:∃ c,c=(i+j) / 2:=⟨_,rfl⟩
  have hw:=z8e (i:=i) (j:=j) (by omega) hc
  have hc1:i≤c∧c < j:=by omega
  have hst:=zbg T h1 h2 hmid hs0 hr0 (c:=c) (c':=c) (by omega) (qa _) (by omega)
  obtain⟨u,hu⟩:∃ u,u=p - c:=⟨_,rfl⟩
  have hu':u=mid+m - 1 - c:=by omega
  have w2:IntKind.wrap .i64 ((p:Int) - (c:Int))=(u:Int):=by rw[z01 (by omega) (by omega)];omega
  have l1:u < N:=by omega
  have l2:c < N:=by omega
  have l1':u+1≤N:=by omega
  have l2':c+1≤N:=by omega
  have hcall:=hcl _ _ (hIn u l1) (hIn c l2)
  refine WL.block (WL.sreg (by simp[hw];rfl) (by simp;rfl) ?_)
  refine WL.seq ?_
  refine WL.draw z0p (by simp[z05,noH]) ?_
  refine DL.o (by simp[w2,l1,l2,l1',l2'];exact⟨rfl,rfl⟩) ?_
  refine DL.clo0 (f:=g) (cps:=[.vptr () cs]) false (by simp) hcall (by simp) (by simp) (by simp) ?_
  by_cases hlt:key (f u) < key (f c)
  ·have c1:zgz (key (f u)) (key (f c)) < 0:=by rw[z4v];exact hlt
   refine DL.o (by simp[c1];exact⟨rfl,rfl⟩) (DL.nil ⟨by kernel_rfl,_,by simp;rfl,?_⟩)
   refine WL.cond (t:=false) (by simp) (by simp) fun _=>?_
   refine WL.reg (RL.run (by simp;rfl) ⟨_,by simp;rfl,?_⟩)
   refine⟨⟨(i,c),q1,by simp only;omega,by simp only;omega,q4,fun k g1 g2=>?_⟩,by simp,by simp only;omega⟩
   have:=zbg T h1 h2 hmid hs0 hr0 (c:=c) (c':=k) (by omega) g1 g2
   rw[hu'] at hlt
   omega
  ·have c1:¬ zgz (key (f u)) (key (f c)) < 0:=by rw[z4v];exact hlt
   have w:IntKind.wrap .i64 ((c:Int)+1)=((c+1:Nat):Int):=by rw[z01 (by omega) (by omega)];omega
   refine DL.o (by simp[c1];exact⟨rfl,rfl⟩) (DL.nil ⟨by kernel_rfl,_,by simp;rfl,?_⟩)
   refine WL.cond (t:=true) (by simp) (fun _=>?_) (by simp)
   refine WL.reg (RL.run (by simp[w];rfl) ⟨_,by simp;rfl,?_⟩)
   refine⟨⟨(c+1,j),by simp only;omega,by simp only;omega,q3,fun k g1 g2=>?_,q5⟩,by simp,by simp only;omega⟩
   have:=zbg T h1 h2 hmid hs0 hr0 (c:=k) (c':=c) g1 (by simp only at g2;omega) (by omega)
   rw[hu'] at hlt
   omega
 ·obtain rfl:i=j:=by omega
  refine WL.seq (WL.sreg (by simp;rfl) (by simp;rfl) ?_)
  refine WL.cond (t:=false) (by simp) (by simp) fun _=>WL.exit ?_
  have hpart:=y0a T h1 h2 hmid hs0 hr0 q1 q3 q4 q5
  have:=y0b (g:=g) (cs:=cs) (In:=In) f N a m b i hN h1 h2 h3 hIn T hrec f' hf' mid hmid hpart (by omega) i p
  rw[← hq] at this
  exact this
theorem zpc {key:Int→Int}{In:Int→Prop}{g:Nat}{cs:List AU}(hcl:zuq key In g cs)(N:Nat)(hN:z0c N):∀ n,zst key In g cs N n
 | 0=>fun f a m b h=>by omega
 | n+1=>fun f a m b hn h1 h2 h3 hIn T f' hf'=>by
  have hN':=hN
  unfold z0c at hN'
  have ih:=zpc hcl N hN n
  refine wb ywm rfl ?_
  have w1:IntKind.wrap .i64 ((m:Int) - (a:Int))=((m - a:Nat):Int):=by rw[z01 (by omega) (by omega)];omega
  have w2:IntKind.wrap .i64 ((b:Int) - (m:Int))=((b - m:Nat):Int):=by rw[z01 (by omega) (by omega)];omega
  obtain⟨u,hu⟩:∃ u,u=m - a:=⟨_,rfl⟩
  obtain⟨v,hv⟩:∃ v,v=b - m:=⟨_,rfl⟩
  rw[← hu] at w1
  rw[← hv] at w2
  by_cases c1:u=1
  ·subst c1
   refine WL.seq (WL.sreg (by simp[w1];rfl) (by simp;rfl) ?_)
   refine WL.cond (t:=true) (by simp) (fun _=>?_) (by simp)
   have:=yhw hcl f N a m b hN (by omega) h2 h3 hIn T f' hf'
   refine this.mono fun e L h=>?_
   obtain⟨rfl,h⟩:=h
   exact⟨.inr rfl,h⟩
  have d1:((u:Int) == 1)=false:=by simpa using (by omega:¬ (u:Int)=1)
  refine WL.seq (WL.sreg (by simp[w1,d1];rfl) (by simp;rfl) ?_)
  refine WL.cond (t:=false) (by simp[c1]) (by simp) fun _=>WL.skip ?_
  by_cases c2:v=1
  ·subst c2
   refine WL.seq (WL.sreg (by simp[w2];rfl) (by simp;rfl) ?_)
   refine WL.cond (t:=true) (by simp) (fun _=>?_) (by simp)
   have:=yhx hcl f N a m b hN (by omega) h1 h3 hIn T f' hf'
   refine this.mono fun e L h=>?_
   obtain⟨rfl,h⟩:=h
   exact⟨.inr rfl,h⟩
  have d2:((v:Int) == 1)=false:=by simpa using (by omega:¬ (v:Int)=1)
  refine WL.seq (WL.sreg (by simp[w2,d2];rfl) (by simp;rfl) ?_)
  refine WL.cond (t:=false) (by simp[c2]) (by simp) fun _=>WL.skip ?_
  obtain⟨mid,hmid⟩:∃ mid,mid=(a+b) / 2:=⟨_,rfl⟩
  have hw:=z8e (i:=a) (j:=b) (by omega) hmid
  have hrec:zst key In g cs N (b - a):=fun f a' m' b' q=>ih f a' m' b' (by omega)
  refine WL.sreg (by simp[hw];rfl) (by simp;rfl) ?_
  have w3:IntKind.wrap .i64 ((mid:Int)+(m:Int))=((mid+m:Nat):Int):=by rw[z01 (by omega) (by omega)];omega
  obtain⟨q,hq⟩:∃ q,q=mid+m:=⟨_,rfl⟩
  rw[← hq] at w3
  refine WL.sreg (by simp[w3];rfl) (by simp;rfl) ?_
  refine WL.sreg (by simp;rfl) (by simp;rfl) ?_
  by_cases hm:mid < m
  ·have w4:IntKind.wrap .i64 ((q:Int) - (b:Int))=((mid+m - b:Nat):Int):=by rw[z01 (by omega) (by omega)];omega
   refine WL.seq (WL.sreg (by simp[hm];rfl) (by simp;rfl) ?_)
   refine WL.cond (t:=true) (by simp[hm]) (fun _=>?_) (by simp)
   have:=zd2 hcl f N a m b hN h1 h2 h3 hIn T hrec f' hf' mid (mid+m - b) mid hmid (by rw[if_pos hm]) (by rw[if_pos hm])
   rw[← hq] at this
   obtain⟨z,hz⟩:∃ z,z=mid+m - b:=⟨_,rfl⟩
   rw[← hq] at w4 hz
   rw[← hz] at w4 this
   refine WL.sreg (by simp[w4];rfl) (by simp;rfl) ?_
   refine WL.reg (RL.run (by simp;rfl) ⟨_,by simp;rfl,?_⟩)
   exact this
  ·refine WL.seq (WL.sreg (by simp[hm];rfl) (by simp;rfl) ?_)
   refine WL.cond (t:=false) (by simp[hm]) (by simp) fun _=>?_
   have:=zd2 hcl f N a m b hN h1 h2 h3 hIn T hrec f' hf' mid a m hmid (by rw[if_neg hm]) (by rw[if_neg hm])
   rw[← hq] at this
   refine WL.sreg (by simp;rfl) (by simp;rfl) ?_
   refine WL.reg (RL.run (by simp;rfl) ⟨_,by simp;rfl,?_⟩)
   exact this
structure Blk (key:Int→Int) (f h:Nat→Int) (x y:Nat):Prop where
 perm:(seg h x (y - x)).Perm (seg f x (y - x))
 sorted:SortedF key h x y
section
variable {key:Int→Int} {f h h':Nat→Int} {x m y:Nat}
theorem Blk.mem (b:Blk key f h x y){k:Nat}(h1:x≤k)(h2:k < y):∃ u,x≤u∧u < y∧h k=f u:=by
 have:h k ∈ seg h x (y - x):=ze2.2 ⟨k - x,by omega,by rw[show x+(k - x)=k by omega]⟩
 obtain⟨u,hu,e⟩:=ze2.1 (b.perm.subset this)
 exact⟨x+u,by omega,by omega,e.symm⟩
theorem Blk.congr (b:Blk key f h x y)(hc:∀ k,x≤k→k < y→h' k=h k):Blk key f h' x y:=by
 refine⟨?_,fun i j h1 h2 h3=>?_⟩
 ·rw[z55 (f:=h') (g:=h) (a:=x) (b:=x) (n:=y - x) (fun k hk=>hc _ (by omega) (by omega))];exact b.perm
 ·rw[hc i h1 (by omega),hc j (by omega) h3];exact b.sorted i j h1 h2 h3
theorem Blk.two (b1:Blk key f h x m)(b2:Blk key f h m y)(hasc:∀ i j,x≤i→i < j→j < y→f i < f j):Two key h x m y:=by
 refine⟨b1.sorted,b2.sorted,fun i j h1 h2 h3 h4=>?_⟩
 obtain⟨u,u1,u2,e1⟩:=b1.mem h1 h2
 obtain⟨v,v1,v2,e2⟩:=b2.mem h3 h4
 rw[e1,e2]
 exact hasc u v u1 (by omega) v2
theorem Blk.merge (b1:Blk key f h x m)(b2:Blk key f h m y)(h1:x≤m)(h2:m≤y)(hS:SM key h x y h'):Blk key f h' x y:=by
 refine⟨hS.perm.trans ?_,hS.sorted⟩
 have e:∀ g:Nat→Int,seg g x (y - x)=seg g x (m - x) ++ seg g m (y - m):=fun g=>by
  rw[show y - x=(m - x)+(y - m) by omega,zba,show x+(m - x)=m by omega]
 rw[e,e]
 exact b1.perm.append b2.perm
theorem nq (hc:∀ k,x≤k→k < y→h k=f k)(hS:SM key h x y h'):Blk key f h' x y:=by
 refine⟨hS.perm.trans ?_,hS.sorted⟩
 rw[z55 (f:=h) (g:=f) (a:=x) (b:=x) (n:=y - x) (fun k hk=>hc _ (by omega) (by omega))]
theorem Blk.toSM (b:Blk key f h 0 y)(hout:∀ k,y≤k→h k=f k):SM key f 0 y h:=⟨fun k hk=>hout k (by omega),b.perm,b.sorted⟩
end
def y3y (key:Int→Int)(f h:Nat→Int)(N bs:Nat):Prop:=(∀ t,bs * t < N→Blk key f h (bs * t) (min (bs * t+bs) N))∧∀ k,N≤k→h k=f k
def UpB (key:Int→Int)(f h0 h:Nat→Int)(N bs a:Nat):Prop:=(∃ t,a=bs * t)∧a≤N∧(∀ t,bs * t < a→Blk key f h (bs * t) (bs * t+bs))∧∀ k,a≤k→h k=h0 k
theorem z7e {bs t u:Nat}(h0:0 < bs)(h:bs * t < bs * u):bs * t+bs≤bs * u:=by
 have:t < u:=Nat.lt_of_mul_lt_mul_left h
 have:=Nat.mul_le_mul_left bs (qu this)
 rw[Nat.mul_succ] at this;exact this
theorem UpB.next {key:Int→Int}{f h0 h h':Nat→Int}{N bs a:Nat}(h0':0 < bs)(U:UpB key f h0 h N bs a)(hb:a+bs≤N)(hB:Blk key f h' a (a+bs))(ho:∀ k,k < a∨a+bs≤k→h' k=h k):UpB key f h0 h' N bs (a+bs):=by
 obtain⟨⟨t,ht⟩,u1,u2,u3⟩:=U
 refine⟨⟨t+1,by rw[ht,Nat.mul_succ]⟩,hb,fun u hu=>?_,fun k hk=>by rw[ho k (.inr hk),u3 k (by omega)]⟩
 by_cases e:bs * u < a
 ·have:=z7e h0' (by rw[← ht];exact e:bs * u < bs * t)
  exact (u2 u e).congr fun k g1 g2=>ho k (by omega)
 ·have:bs * u=a:=by
   rw[ht] at e hu ⊢
   have h1:t≤u:=Nat.le_of_mul_le_mul_left (by omega) h0'
   have h2:bs * u < bs * (t+1):=by rw[Nat.mul_succ];exact hu
   have h3:u < t+1:=Nat.lt_of_mul_lt_mul_left h2
   rw[show u=t by omega]
  rw[this];exact hB
theorem UpB.all {key:Int→Int}{f h0 h h':Nat→Int}{N bs a:Nat}(h0':0 < bs)(U:UpB key f h0 h N bs a)(hb:N < a+bs)(hB:a < N→Blk key f h' a N)(ho:∀ k,k < a∨N≤k→h' k=h k)(hf:∀ k,N≤k→h0 k=f k):y3y key f h' N bs:=by
 obtain⟨⟨t,ht⟩,u1,u2,u3⟩:=U
 refine⟨fun u hu=>?_,fun k hk=>by rw[ho k (.inr hk),u3 k (by omega),hf k hk]⟩
 by_cases e:bs * u < a
 ·have:=z7e h0' (by rw[← ht];exact e:bs * u < bs * t)
  rw[tu (by omega)]
  exact (u2 u e).congr fun k g1 g2=>ho k (by omega)
 ·have:bs * u=a:=by
   rw[ht] at e hb ⊢
   have h1:t≤u:=Nat.le_of_mul_le_mul_left (by omega) h0'
   have h2:bs * u < bs * (t+1):=by rw[Nat.mul_succ];omega
   have h3:u < t+1:=Nat.lt_of_mul_lt_mul_left h2
   rw[show u=t by omega]
  rw[this] at hu ⊢
  rw[Nat.min_eq_right (by omega)]
  exact hB hu
theorem zut {f:Nat→Int}{N:Nat}(hasc:∀ i j,i < j→j < N→f i < f j){h:Nat→Int}{a b:Nat}(hb:b≤N)(hc:∀ k,a≤k→h k=f k):∀ i j,a≤i→i < j→j < b→h i ≠ h j:=fun i j h1 h2 h3=>by
 rw[hc i h1,hc j (by omega)]
 have:=hasc i j h2 (by omega)
 omega
abbrev x1y (h:Nat→Int)(N a q:Nat)(cl:AU):SL:=[(0,0,.view 1000000 0 [] 0 N),(100,0,i64 N),(200,0,cl),(600,0,i64 20),(700,0,i64 a),(800,0,i64 q),(1000000,0,rF h N)]
abbrev x0f (h:Nat→Int)(N bs:Nat)(cl:AU):SL:=[(0,0,.view 1000000 0 [] 0 N),(100,0,i64 N),(200,0,cl),(600,0,i64 bs),(1000000,0,rF h N)]
abbrev x1z (h:Nat→Int)(N bs a q:Nat)(cl:AU):SL:=[(0,0,.view 1000000 0 [] 0 N),(100,0,i64 N),(200,0,cl),(600,0,i64 bs),(700,0,i64 a),(800,0,i64 q),(1000000,0,rF h N)]
abbrev stQ (f':Nat→Int)(N:Nat):Ex→SL→Prop:=fun e L=>(e=Ex.nrm∨e=Ex.ret)∧RetOk zso.rs [.nod (rF f' N)] (.tuple []) L
theorem zi1 {key:Int→Int}{In:Int→Prop}{g:Nat}{cs:List AU}(hcl:zuq key In g cs)(f:Nat→Int)(N:Nat)(hN:N≤100000000)(hIn:∀ k,k < N→In (f k))(hasc:∀ i j,i < j→j < N→f i < f j)
  (f':Nat→Int) (hf':SM key f 0 N f') (h:Nat→Int) (hA:y3y key f h N 20):WL Try.prog zso.nt zow (x0f h N 20 (.clos g [.vptr () cs])) (stQ f' N):=by
 have hNs:z0c N:=by unfold z0c;omega
 refine WL.block (WL.loop (ι:={x:(Nat→Int) × Nat // y3y key f x.1 N x.2∧0 < x.2∧x.2≤200000020}) (fun x=>x0f x.1.1 N x.1.2 (.clos g [.vptr () cs])) (fun x=>N - x.1.2) ⟨(h,20),hA,by simp,by simp⟩ (by simp) fun x=>?_)
 obtain⟨⟨h0,bs⟩,hA0,hbs,hbs2⟩:=x
 simp only at hA0 hbs hbs2 ⊢
 by_cases hlt:bs < N
 ·refine WL.seq (WL.sreg (by simp[hlt];rfl) (by simp;rfl) ?_)
  refine WL.cond (t:=true) (by simp[hlt]) (fun _=>WL.skip ?_) (by simp)
  have w2:IntKind.wrap .i64 (2 * (bs:Int))=((2 * bs:Nat):Int):=by rw[z01 (by omega) (by omega)];omega
  have w2':IntKind.wrap .i64 ((bs:Int) * 2)=((2 * bs:Nat):Int):=by rw[z01 (by omega) (by omega)];omega
  obtain⟨d,hd⟩:∃ d,d=2 * bs:=⟨_,rfl⟩
  rw[← hd] at w2 w2'
  refine WL.block (WL.sreg (by simp[w2];rfl) (by simp;rfl) ?_)
  refine WL.seq (WL.block (WL.loop (ι:={x:(Nat→Int) × Nat // UpB key f h0 x.1 N d x.2}) (fun x=>x1z x.1.1 N bs x.1.2 (x.1.2+2 * bs) (.clos g [.vptr () cs])) (fun x=>N - x.1.2)
   ⟨(h0,0),⟨0,by simp⟩,r9 _,fun t ht=>absurd ht (rx _),fun k _=>rfl⟩ (by simp[hd]) fun x=>?_))
  obtain⟨⟨h1,a⟩,U⟩:=x
  simp only at U ⊢
  obtain⟨⟨t,ht⟩,haN,_,hrest⟩:=id U
  have hta:bs * (2 * t)=a:=by rw[ht,hd];rw[← Nat.mul_assoc,Nat.mul_comm bs 2]
  have hta2:bs * (2 * t+1)=a+bs:=by rw[Nat.mul_succ,hta]
  have w3:IntKind.wrap .i64 ((a:Int)+(bs:Int))=((a+bs:Nat):Int):=by rw[z01 (by omega) (by omega)];omega
  obtain⟨p,hp⟩:∃ p,p=a+bs:=⟨_,rfl⟩
  rw[← hp] at w3
  obtain⟨q,hq⟩:∃ q,q=a+2 * bs:=⟨_,rfl⟩
  rw[← hq]
  have hIn1:∀ k,k < N→In (h1 k):=fun k hk=>by
   obtain⟨_,_,hbl,_⟩:=U
   by_cases hka:k < a
   ·-- in a block that is done
    have hd0:0 < d:=by omega
    have hk1:d * (k / d)≤k:=Nat.mul_div_le k d
    have hk2:k < d * (k / d)+d:=by have:=Nat.lt_mul_div_succ k hd0;rwa [Nat.mul_succ] at this
    have hk3:d * (k / d)+d≤a:=by rw[ht];exact z7e hd0 (by rw[← ht];omega)
    obtain⟨u,u1,u2,e⟩:=(hbl (k / d) (by omega)).mem hk1 hk2
    rw[e];exact hIn u (by omega)
   ·rw[hrest k (by omega)]
    have hk1:bs * (k / bs)≤k:=Nat.mul_div_le k bs
    have hk2:k < bs * (k / bs)+bs:=by have:=Nat.lt_mul_div_succ k hbs;rwa [Nat.mul_succ] at this
    obtain⟨u,u1,u2,e⟩:=(hA0.1 (k / bs) (by omega)).mem hk1 (by omega)
    rw[e];exact hIn u (by omega)
  by_cases hqN:q≤N
  ·have b1:Blk key f h1 a p:=by
    have:=hA0.1 (2 * t) (by omega)
    rw[hta,tu (by omega),← hp] at this
    exact this.congr fun k g1 _=>hrest k g1
   have b2:Blk key f h1 p q:=by
    have:=hA0.1 (2 * t+1) (by omega)
    rw[hta2,tu (by omega),← hp,show p+bs=q by omega] at this
    exact this.congr fun k g1 _=>hrest k (by omega)
   have T:=b1.two b2 (fun i j _ g2 g3=>hasc i j g2 (by omega))
   obtain⟨h2,hS⟩:=T.ex (by omega)
   have hc:=zpc hcl N hNs (q - a+1) h1 a p q (by omega) (by omega) (by omega) hqN hIn1 T h2 hS
   refine WL.seq (WL.sreg (by simp[hqN];rfl) (by simp;rfl) ?_)
   refine WL.cond (t:=true) (by simp[hqN]) (fun _=>WL.skip ?_) (by simp)
   refine WL.block (w7 (RL.o (by simp[w3];rfl) (wn false [(1000000,[])] hc (by simp) (by simp) (by simp[z31]) (by simp) (by simp) (RL.nil ⟨_,by simp;rfl,?_⟩))))
   have w4:IntKind.wrap .i64 ((q:Int)+(d:Int))=((q+d:Nat):Int):=by rw[z01 (by omega) (by omega)];omega
   refine WL.sreg (by simp;rfl) (by simp;rfl) ?_
   refine WL.reg (RL.run (by simp[w2,w4];rfl) ⟨_,by simp;rfl,?_⟩)
   refine⟨⟨(h2,q),?_⟩,by simp[hd],by simp only;omega⟩
   have:=U.next (h':=h2) (by omega) (by omega) (by rw[show a+d=q by omega];exact b1.merge b2 (by omega) (by omega) hS) (fun k hk=>hS.out k (by omega))
   rwa [show a+d=q by omega] at this
  ·refine WL.seq (WL.sreg (by simp[hqN];rfl) (by simp;rfl) ?_)
   refine WL.cond (t:=false) (by simp[hqN]) (by simp) fun _=>WL.exit ?_
   refine WL.seq (WL.sreg (by simp[w3];rfl) (by simp;rfl) ?_)
   by_cases hpN:p < N
   ·have b1:Blk key f h1 a p:=by
     have:=hA0.1 (2 * t) (by omega)
     rw[hta,tu (by omega),← hp] at this
     exact this.congr fun k g1 _=>hrest k g1
    have b2:Blk key f h1 p N:=by
     have:=hA0.1 (2 * t+1) (by omega)
     rw[hta2,Nat.min_eq_right (by omega),← hp] at this
     exact this.congr fun k g1 _=>hrest k (by omega)
    have T:=b1.two b2 (fun i j _ g2 g3=>hasc i j g2 (by omega))
    obtain⟨h2,hS⟩:=T.ex (by omega)
    have hc:=zpc hcl N hNs (N - a+1) h1 a p N (by omega) (by omega) hpN (qa _) hIn1 T h2 hS
    have hAll:y3y key f h2 N d:=U.all (by omega) (by omega) (fun _=>b1.merge b2 (by omega) (by omega) hS) (fun k hk=>hS.out k hk) hA0.2
    refine WL.sreg (by simp[hpN];rfl) (by simp;rfl) ?_
    refine WL.cond (t:=true) (by simp[hpN]) (fun _=>?_) (by simp)
    refine WL.reg (RL.o (by simp;rfl) (wn false [(1000000,[])] hc (by simp) (by simp) (by simp[z31]) (by simp) (by simp) (RL.nil ⟨_,by simp;rfl,?_⟩)))
    refine WL.reg (RL.run (by simp[w2'];rfl) ⟨_,by simp;rfl,?_⟩)
    exact⟨⟨(h2,d),hAll,by simp only;omega,by simp only;omega⟩,by simp,by simp only;omega⟩
   ·have hAll:y3y key f h1 N d:=U.all (by omega) (by omega) (fun haN'=>by
     have:=hA0.1 (2 * t) (by omega)
     rw[hta,Nat.min_eq_right (by omega)] at this
     exact this.congr fun k g1 _=>hrest k g1) (fun k _=>rfl) hA0.2
    refine WL.sreg (by simp[hpN];rfl) (by simp;rfl) ?_
    refine WL.cond (t:=false) (by simp[hpN]) (by simp) fun _=>WL.skip ?_
    refine WL.reg (RL.run (by simp[w2'];rfl) ⟨_,by simp;rfl,?_⟩)
    exact⟨⟨(h1,d),hAll,by simp only;omega,by simp only;omega⟩,by simp,by simp only;omega⟩
 ·refine WL.seq (WL.sreg (by simp[hlt];rfl) (by simp;rfl) ?_)
  refine WL.cond (t:=false) (by simp[hlt]) (by simp) fun _=>WL.exit ?_
  have hS:SM key f 0 N h0:=by
   rcases Nat.eq_zero_or_pos N with e | e
   ·subst e
    exact⟨fun k hk=>hA0.2 k (by omega),by simp[seg],fun i j _ _ hj=>by omega⟩
   ·have:=hA0.1 0 (by simpa using e)
    rw[Nat.mul_zero,Nat.min_eq_right (by omega)] at this
    exact this.toSM hA0.2
  obtain rfl:=z2s hS hf'
  refine⟨.inl rfl,?_⟩
  simp[zso]
theorem zpd {key:Int→Int}{In:Int→Prop}{g:Nat}{cs:List AU}(hcl:zuq key In g cs)(f:Nat→Int)(N:Nat)(hN:N≤100000000)(hIn:∀ k,k < N→In (f k))(hasc:∀ i j,i < j→j < N→f i < f j)
  (f':Nat→Int) (hf':SM key f 0 N f'):FnC Try.prog 138 [.nod (rF f N)] [.view 1000000 0 [] 0 N,i64 N,.clos g [.vptr () cs]] [.nod (rF f' N)] (.tuple []):=by
 have hNs:z0c N:=by unfold z0c;omega
 refine wb ywj rfl ?_
 refine WL.sreg (by simp;rfl) (by simp;rfl) ?_
 refine WL.sreg (by simp;rfl) (by simp;rfl) ?_
 refine WL.seq (WL.block (WL.loop (ι:={x:(Nat→Int) × Nat // UpB key f f x.1 N 20 x.2}) (fun x=>x1y x.1.1 N x.1.2 (x.1.2+20) (.clos g [.vptr () cs])) (fun x=>N - x.1.2)
  ⟨(f,0),⟨0,by simp⟩,r9 _,fun t ht=>absurd ht (rx _),fun k _=>rfl⟩ (by simp) fun x=>?_))
 obtain⟨⟨h,a⟩,U⟩:=x
 simp only at U ⊢
 obtain⟨⟨t,ht⟩,haN,hbl,hrest⟩:=id U
 have hIn1:∀ k,k < N→In (h k):=fun k hk=>by
  by_cases hka:k < a
  ·have hk1:20 * (k / 20)≤k:=Nat.mul_div_le k 20
   have hk2:k < 20 * (k / 20)+20:=by omega
   have hk3:20 * (k / 20)+20≤a:=by omega
   obtain⟨u,u1,u2,e⟩:=(hbl (k / 20) (by omega)).mem hk1 hk2
   rw[e];exact hIn u (by omega)
  ·rw[hrest k (by omega)];exact hIn k hk
 obtain⟨q,hq⟩:∃ q,q=a+20:=⟨_,rfl⟩
 rw[← hq]
 by_cases hqN:q≤N
 ·obtain⟨h2,hS⟩:=zbf key h (by omega:a≤q) (zut hasc hqN hrest)
  have hc:=zus hcl h N a q hNs (by omega) hqN hIn1 (fun i j g1 g2 g3=>by rw[hrest i g1,hrest j (by omega)];exact hasc i j g2 (by omega)) h2 hS
  refine WL.seq (WL.sreg (by simp[hqN];rfl) (by simp;rfl) ?_)
  refine WL.cond (t:=true) (by simp[hqN]) (fun _=>WL.skip ?_) (by simp)
  refine WL.block (w7 (RL.o (by simp;rfl) (wn false [(1000000,[])] hc (by simp) (by simp) (by simp[z31]) (by simp) (by simp) (RL.nil ⟨_,by simp;rfl,?_⟩))))
  have w4:IntKind.wrap .i64 ((q:Int)+20)=((q+20:Nat):Int):=by rw[z01 (by omega) (by omega)];omega
  refine WL.sreg (by simp;rfl) (by simp;rfl) ?_
  refine WL.reg (RL.run (by simp[w4];rfl) ⟨_,by simp;rfl,?_⟩)
  refine⟨⟨(h2,q),?_⟩,by simp,by simp only;omega⟩
  have:=U.next (h':=h2) (by decide) (by omega) (by rw[← hq];exact nq (fun k g1 _=>hrest k g1) hS) (fun k hk=>hS.out k (by omega))
  rwa [← hq] at this
 ·refine WL.seq (WL.sreg (by simp[hqN];rfl) (by simp;rfl) ?_)
  refine WL.cond (t:=false) (by simp[hqN]) (by simp) fun _=>WL.exit ?_
  obtain⟨h2,hS⟩:=zbf key h haN (zut hasc (qa N) hrest)
  have hc:=zus hcl h N a N hNs haN (qa _) hIn1 (fun i j g1 g2 g3=>by rw[hrest i g1,hrest j (by omega)];exact hasc i j g2 g3) h2 hS
  have hAll:y3y key f h2 N 20:=U.all (by decide) (by omega) (fun _=>nq (fun k g1 _=>hrest k g1) hS) (fun k hk=>hS.out k hk) (fun k _=>rfl)
  refine w7 (RL.o (by simp;rfl) (wn false [(1000000,[])] hc (by simp) (by simp) (by simp[z31]) (by simp) (by simp) (RL.nil ⟨_,by simp;rfl,?_⟩)))
  exact zi1 hcl f N hN hIn hasc f' hf' h2 hAll
def z38 (s:St)(c h:Int):Int:=if c < 0∨(s.Handles.length:Int)≤c∨h < 0∨((s.Handles.getD c.toNat []).length:Int)≤h then -1 else (s.Handles.getD c.toNat []).getD h.toNat 0
theorem zi2 (s:St)(c h:Int):FnC Try.prog 124 [] [yob false s,i64 c,i64 h] [] (i64 (z38 s c h)):=by
 refine wb yt0 rfl ?_
 refine WL.sreg (by simp;rfl) (by simp;rfl) ?_
 refine WL.seq ?_
 by_cases h1:c < 0
 ·refine WL.sreg (by simp[h1];rfl) (by simp;rfl) ?_
  refine WL.cond (t:=true) (by simp) (fun _=>WL.sreg (by simp;rfl) (by simp;rfl) (WL.ret ⟨.inr rfl,?_⟩)) (by simp)
  simp[zl6,z38,h1]
 obtain⟨c,rfl⟩:=pu (a:=c) (by omega)
 by_cases h2:(s.Handles.length:Int)≤c
 ·have h2':s.Handles.length≤c:=by omega
  refine WL.sreg (by simp[h1,h2'];rfl) (by simp;rfl) ?_
  refine WL.cond (t:=true) (by simp) (fun _=>WL.sreg (by simp;rfl) (by simp;rfl) (WL.ret ⟨.inr rfl,?_⟩)) (by simp)
  simp[zl6,z38,h2']
 have hc:c < s.Handles.length:=by omega
 have hc':¬ s.Handles.length≤c:=by omega
 by_cases h3:h < 0
 ·refine WL.sreg (by simp[h1,hc',hc,h3];rfl) (by simp;rfl) ?_
  refine WL.cond (t:=true) (by simp) (fun _=>WL.sreg (by simp;rfl) (by simp;rfl) (WL.ret ⟨.inr rfl,?_⟩)) (by simp)
  simp[zl6,z38,h3]
 obtain⟨k,rfl⟩:=pu (a:=h) (by omega)
 by_cases h4:s.Handles[c].length≤k
 ·refine WL.sreg (by simp[h1,h3,hc',hc,h4];rfl) (by simp;rfl) ?_
  refine WL.cond (t:=true) (by simp) (fun _=>WL.sreg (by simp;rfl) (by simp;rfl) (WL.ret ⟨.inr rfl,?_⟩)) (by simp)
  simp[zl6,z38,hc,h4]
 ·have hk:k < s.Handles[c].length:=by omega
  refine WL.sreg (by simp[h1,h3,hc',hc,h4];rfl) (by simp;rfl) ?_
  refine WL.cond (t:=false) (by simp) (by simp) (fun _=>WL.skip ?_)
  refine WL.sreg (by simp[hc,hk];rfl) (by simp;rfl) (WL.ret ⟨.inr rfl,?_⟩)
  simp[zl6,z38,hc,hc',h4,hk,h1,h3]
theorem z1i (l:List UInt8):(z27 l).size=l.length:=by simp[z27,ByteArray.size]
theorem zpe {l:List Cl}{i:Nat}(h:i < l.length):(l.flatMap (z67 false)).drop (i * 7)=z67 false l[i] ++ (l.drop (i+1)).flatMap (z67 false):=by
 induction l generalizing i with
 | nil=>simp at h
 | cons a l ih =>
  cases i with
  | zero=>simp [sj]
  | succ i =>
   rw[sj,List.drop_append,rt (by simp;omega)]
   have:(i+1) * 7 - (z67 false a).length=i * 7:=by simp;omega
   rw[this,ih (by simpa using h)]
   simp
def es (l:List Cl):Nat→St
 | 0=>z0r 5 3
 | i+1=>match l[i]? with
  | some c=>(DoB (es l i) (ze0 c 5 3).Client (ze0 c 5 3).op).2.1
  | none=>es l i
abbrev sCl (l:List Cl):AU:=.sl false () 7 l.length (l.flatMap (z67 false))
def zi3 (l:List Int):Int:=ixF (fun p=>decide (p < 0)) l 0
theorem zpf (s:St)(T B:AU)(hT:T=sB false s.There)(hB:B=sS false s.Body)(c:Nat)(hc:c < s.Handles.length)(hs:z0c s.Handles[c].length)(page:Int)(k:Nat)(hk:k < s.Handles[c].length)(hfree:zi3 s.Handles[c]=(k:Int)) :
  FnC Try.prog 126 [.nod (sII true s.Handles)] [.agg [T,B,.view 1000000 0 [] 0 s.Handles.length],i64 c,i64 page] [.nod (sII true (s.Handles.set c (s.Handles[c].set k page)))] (i64 k):=by
 subst hT hB
 have hc1:c+1≤s.Handles.length:=hc
 refine wb yt2 rfl ?_
 refine w7 (n8 (by simp;rfl) (by simp) (by simp[zes]) (by simp) (RL.o (by simp;rfl) (RL.nil ⟨_,by simp;rfl,?_⟩)))
 refine WL.seq (WL.sreg (by simp;rfl) (by simp;rfl) ?_)
 refine WL.block (wd s.Handles[c].length (fun i=>[(100,0,i64 c),(200,0,i64 page),(300,0,.bptr 3 1 0),(301,0,sB false s.There),(302,0,sS false s.Body),(303,0,.view 1000000 0 [] 0 s.Handles.length),(399,1,.non),(700,0,i64 i),(1000000,0,sII true s.Handles)]) (fun i=>ixF (fun p=>decide (p < 0)) (s.Handles[c].drop i) i=(k:Int)) rfl (by simpa [zi3] using hfree) fun i hi hp=>?_)
 by_cases h:i < s.Handles[c].length
 ·have hi1:i+1≤s.Handles[c].length:=h
  rw[z6r _ _ _ h] at hp
  refine WL.seq (WL.sreg (by simp[hc,h,hc1,hi1];rfl) (by simp;rfl) ?_)
  refine WL.cond (t:=true) (by simp) (fun _=>WL.skip ?_) (by simp)
  refine WL.seq (WL.block (WL.sreg (by simp[hc,h,hc1,hi1];rfl) (by simp;rfl) ?_))
  by_cases hf:s.Handles[c][i] < 0
  ·refine WL.cond (t:=true) (by simp[hf]) (fun _=>?_) (by simp)
   rw[if_pos (by simpa using hf)] at hp
   obtain rfl:i=k:=by omega
   refine WL.sreg (by simp[hc,h,hc1,hi1];rfl) (by simp;rfl) ?_
   refine WL.sreg (by simp;rfl) (by simp;rfl) ?_
   refine WL.ret ⟨.inr rfl,?_⟩
   simp[ydf,sq,sI]
  ·refine WL.cond (t:=false) (by simp;omega) (by simp) fun _=>WL.skip ?_
   rw[if_neg (by simpa using hf)] at hp
   refine WL.reg (RL.run (by simp[z0o hs h];rfl) ⟨_,by simp;rfl,h,?_,hp⟩)
   simp
 ·rw[zb4 _ _ _ h] at hp
  omega
abbrev gsT (s:St):List (Gh Unit):=[.nod (sB true s.There),.nod (sS true s.Body),.nod (sII true s.Handles)]
abbrev vwT (s:St):AU:=.agg [.view 1000000 0 [] 0 s.There.length,.view 1000100 0 [] 0 s.Body.length,.view 1000200 0 [] 0 s.Handles.length]
abbrev ghT (s:St):SL:=[(1000000,0,sB true s.There),(1000100,0,sS true s.Body),(1000200,0,sII true s.Handles)]
abbrev rb1 (cl:Int):SL:=[(100,0,i64 cl)]
abbrev rb3 (s:St):SL:=[(300,0,.bptr 3 1 0),(301,0,.view 1000000 0 [] 0 s.There.length),(302,0,.view 1000100 0 [] 0 s.Body.length),(303,0,.view 1000200 0 [] 0 s.Handles.length),(399,1,.non)]
abbrev rb5 (q:Op):SL:=[(500,0,.bptr 5 1 0),(501,0,i64 q.Kind),(502,0,i64 q.Page),(503,0,i64 q.Handle),(504,0,i64 q.Off),(505,0,i64 q.N),(506,0,sU false q.Data),(599,1,.non)]
abbrev rb6:SL:=[(600,0,.bptr 6 1 0),(601,0,i64 0),(602,0,i64 0),(603,0,i64 0),(604,0,.sl true () 1 0 []),(699,1,.non)]
abbrev rbQ (s':St)(r:Rs):Ex→SL→Prop:=fun e L=>e=Ex.ret∧RetOk z3y.rs (gsT s') (z9w true r) L
theorem WL.up {P:Program}{nt:Nat}{cc:Cd}{L:SL}{R:SL→Prop}{Q:Ex→SL→Prop}(h:WL P nt cc L fun e L=>e=Ex.ret∧R L)(hq:∀ L,R L→Q .ret L):WL P nt cc L Q :=
 h.mono fun e L ⟨h1,h2⟩=>by subst h1;exact hq L h2
abbrev rbA (s:St)(cl:Int)(q:Op):SL:=rb1 cl ++ (rb3 s ++ (rb5 q ++ rb6))
theorem zsu (s:St)(cl:Int)(q:Op)(s':St)(r:Rs)
  (h1:(cl < 0∨(s.Handles.length:Int)≤cl∨q.Kind < 1∨8 < q.Kind)→WL Try.prog z3y.nt zxw (rbA s cl q ++ ((2600,0,bl true) :: ghT s)) (rbQ s' r))
  (h2:¬ (cl < 0∨(s.Handles.length:Int)≤cl∨q.Kind < 1∨8 < q.Kind)→WL Try.prog z3y.nt zb8 (rbA s cl q ++ ((2600,0,bl false) :: ghT s)) (rbQ s' r)) :
  FnC Try.prog 77 (gsT s) [vwT s,i64 cl,zr1 false q] (gsT s') (z9w true r):=by
 refine wb x1b rfl ?_
 refine w7 (n8 (by simp;rfl) (by simp) (by simp[zes]) (by simp) ?_)
 refine RL.o (by simp;rfl) (RL.nil ⟨_,by simp;rfl,?_⟩)
 refine WL.seq ?_
 by_cases k1:cl < 0
 ·refine WL.sreg (by simp[k1];rfl) (by simp;rfl) ?_
  exact WL.cond (t:=true) (by simp) (fun _=>(h1 (.inl k1)).up fun _ h=>⟨.inr rfl,h⟩) (by simp)
 by_cases k2:(s.Handles.length:Int)≤cl
 ·refine WL.sreg (by simp[k1,k2];rfl) (by simp;rfl) ?_
  exact WL.cond (t:=true) (by simp) (fun _=>(h1 (.inr (.inl k2))).up fun _ h=>⟨.inr rfl,h⟩) (by simp)
 by_cases k3:q.Kind < 1
 ·refine WL.sreg (by simp[k1,k2,k3];rfl) (by simp;rfl) ?_
  exact WL.cond (t:=true) (by simp) (fun _=>(h1 (.inr (.inr (.inl k3)))).up fun _ h=>⟨.inr rfl,h⟩) (by simp)
 by_cases k4:8 < q.Kind
 ·refine WL.sreg (by simp[k1,k2,k3,k4];rfl) (by simp;rfl) ?_
  exact WL.cond (t:=true) (by simp) (fun _=>(h1 (.inr (.inr (.inr k4)))).up fun _ h=>⟨.inr rfl,h⟩) (by simp)
 ·refine WL.sreg (by simp[k1,k2,k3,k4];rfl) (by simp;rfl) ?_
  exact WL.cond (t:=false) (by simp) (by simp) (fun _=>WL.skip ((h2 (by omega)).up fun _ h=>⟨.inr rfl,h⟩))
abbrev rbP (s:St)(cl:Int)(q:Op)(p:Int)(t:SL):SL:=rb1 cl ++ (rb3 s ++ (rb5 q ++ (rb6 ++ ((700,0,i64 p) :: (t ++ ghT s)))))
theorem y0c (s:St)(cl:Int)(q:Op):WL Try.prog z3y.nt zxw (rbA s cl q ++ ((2600,0,bl true) :: ghT s)) (rbQ s (rsE 1)):=by
 refine w7 (RL.call0 false (z2p 1) (by simp) (by simp) (RL.o (by simp;rfl) (RL.nil ⟨_,by simp;rfl,?_⟩)))
 refine WL.ret ⟨rfl,?_⟩
 simp[z3y,rsE]
theorem y0d (s:St)(cl:Int)(q:Op)(s':St)(r:Rs)(hk:q.Kind=2∨q.Kind=6∨q.Kind=8)(hsm:z0c s.There.length)
  (e1:z34 s q.Page=false→s'=s∧r=rsE 1)
  (e2:z34 s q.Page=true→z2j s q.Page=false→s'=s∧r=rsE 2)
  (k:z2j s q.Page=true→WL Try.prog z3y.nt zd0 (rbP s cl q q.Page [(5800,0,bl false)]) (rbQ s' r)) :
  WL Try.prog z3y.nt zb8 (rbA s cl q ++ ((2600,0,bl false) :: ghT s)) (rbQ s' r):=by
 refine WL.sreg (by simp;rfl) (by simp;rfl) ?_
 refine WL.seq ?_
 suffices h:WL Try.prog z3y.nt yb4 (rbP s cl q q.Page [(4200,0,bl true)]) (wg (fun L'=>WL Try.prog z3y.nt zd0 L' (rbQ s' r)) (rbQ s' r)) by
  clear e1 e2 k
  obtain⟨K,Pg,Hd,Of,Nn,Dt⟩:=q
  rcases hk with hk | hk | hk<;>(simp only at hk;subst hk;exact WL.sreg (by simp<;>rfl) (by simp<;>rfl) h)
 refine WL.cond (t:=true) (by simp) (fun _=>?_) (by simp)
 refine WL.seq ?_
 by_cases h1:q.Page < 0
 ·obtain⟨a,b⟩:=e1 (by simp[z34];omega)
  subst a b
  refine WL.sreg (by simp[h1];rfl) (by simp;rfl) ?_
  refine WL.cond (t:=true) (by simp) (fun _=>?_) (by simp)
  refine w7 (RL.call0 false (z2p 1) (by simp) (by simp) (RL.o (by simp;rfl) (RL.nil ⟨_,by simp;rfl,?_⟩)))
  refine WL.ret ⟨rfl,?_⟩
  simp[z3y,rsE]
 obtain⟨p,hp⟩:=pu (a:=q.Page) (by omega)
 by_cases h2:s.There.length≤p
 ·obtain⟨a,b⟩:=e1 (by simp[z34,hp];omega)
  subst a b
  refine WL.sreg (by simp[hp,h2];rfl) (by simp;rfl) ?_
  refine WL.cond (t:=true) (by simp[h2]) (fun _=>?_) (by simp)
  refine w7 (RL.call0 false (z2p 1) (by simp) (by simp) (RL.o (by simp;rfl) (RL.nil ⟨_,by simp;rfl,?_⟩)))
  refine WL.ret ⟨rfl,?_⟩
  simp[z3y,rsE]
 have h2':p < s.There.length:=by omega
 refine WL.sreg (by simp[hp,h2,h2'];rfl) (by simp;rfl) ?_
 refine WL.cond (t:=false) (by simp[h2,h2']) (by simp) (fun _=>WL.skip ?_)
 refine WL.sreg (by simp[h2',qu h2'];rfl) (by simp;rfl) ?_
 have hth:z2j s q.Page=s.There[p]:=by simp[z2j,z34,hp,h2']
 cases h3:s.There[p] with
 | false =>
  obtain⟨a,b⟩:=e2 (by simp[z34,hp];omega) (by rw[hth,h3])
  subst a b
  refine WL.cond (t:=true) (by simp[h3]) (fun _=>?_) (by simp)
  refine w7 (RL.call0 false (z2p 2) (by simp) (by simp) (RL.o (by simp;rfl) (RL.nil ⟨_,by simp;rfl,?_⟩)))
  refine WL.ret ⟨rfl,?_⟩
  simp[z3y,rsE]
 | true =>
  refine WL.cond (t:=false) (by simp[h3]) (by simp) (fun _=>WL.skip ?_)
  have:=k (by rw[hth,h3])
  simp only[rbP,rb5,hp] at this
  exact this
theorem y0e (s:St)(cl:Int)(q:Op)(s':St)(r:Rs)(hk:q.Kind=3∨q.Kind=4∨q.Kind=5)
  (e5:z38 s cl q.Handle < 0→s'=s∧r=rsE 5)
  (k:0≤z38 s cl q.Handle→WL Try.prog z3y.nt zcz (rbP s cl q (z38 s cl q.Handle) [(7900,0,bl false)]) (rbQ s' r)) :
  WL Try.prog z3y.nt zb8 (rbA s cl q ++ ((2600,0,bl false) :: ghT s)) (rbQ s' r):=by
 refine WL.sreg (by simp;rfl) (by simp;rfl) ?_
 refine WL.seq ?_
 suffices h:WL Try.prog z3y.nt zuf (rbP s cl q q.Page [(7200,0,bl true)]) (wg (fun L'=>WL Try.prog z3y.nt zcz L' (rbQ s' r)) (rbQ s' r)) by
  clear e5 k
  obtain⟨K,Pg,Hd,Of,Nn,Dt⟩:=q
  rcases hk with hk | hk | hk<;>(simp only at hk;subst hk;exact WL.sreg (by simp<;>rfl) (by simp<;>rfl) (WL.cond (t:=false) (by simp) (by simp) fun _=>WL.skip (WL.seq (WL.sreg (by simp<;>rfl) (by simp<;>rfl) h))))
 refine WL.cond (t:=true) (by simp) (fun _=>?_) (by simp)
 refine w7 (RL.o (by simp;rfl) (RL.call0 true (zi2 s cl q.Handle) (by simp) (by simp) (RL.o (by simp;rfl) (RL.nil ⟨_,by simp;rfl,?_⟩))))
 refine WL.sreg (by simp;rfl) (by simp;rfl) ?_
 by_cases h1:z38 s cl q.Handle < 0
 ·obtain⟨a,b⟩:=e5 h1
  subst a b
  refine WL.cond (t:=true) (by simp[h1]) (fun _=>?_) (by simp)
  refine w7 (RL.call0 false (z2p 5) (by simp) (by simp) (RL.o (by simp;rfl) (RL.nil ⟨_,by simp;rfl,?_⟩)))
  refine WL.ret ⟨rfl,?_⟩
  simp[z3y,rsE]
 ·refine WL.cond (t:=false) (by simp;omega) (by simp) (fun _=>WL.skip ?_)
  have d:decide (z38 s cl q.Handle < 0)=false:=by simpa using Int.not_lt.1 h1
  rw[d]
  exact k (by omega)
theorem y3z:∀ l:List Int,z20 (l.map i64)=true
 | []=>rfl
 | _ :: l=>y3z l
theorem ywp:∀ l:List Bool,z20 (l.map bl)=true
 | []=>rfl
 | _ :: l=>ywp l
theorem ywq:∀ l:List (List UInt8),z20 (l.map str)=true
 | []=>rfl
 | _ :: l=>ywq l
theorem zsv:∀ l:List (List Int),z20 (l.map (sI true))=true
 | []=>rfl
 | a :: l=>by
  show (z12 (sI true a:AU) && z20 (l.map (sI true)))=true
  rw[zsv l,Bool.and_true]
  simp only[z12,y3z,rr]
theorem zgf (H H':List (List Int))(hl:H'.length=H.length)(k:Int):z17 true [.nod (sII true H)] [.nod (sII true H')] (i64 k)=true:=by
 have:z12 (sII true H':AU)=true:=by simp only[z12,zsv,rr]
 simp only[z17,List.all_cons,List.all_nil,z5g,this]
 simp[hl]
abbrev rsO:Rs:=⟨0,0,0,[]⟩
theorem zsw (s:St)(cl:Int)(P Hd Of Nn:Int)(D:List UInt8):WL Try.prog z3y.nt zd0 (rbP s cl ⟨6,P,Hd,Of,Nn,D⟩ P [(5800,0,bl false)]) (rbQ s rsO):=by
 refine WL.seq (WL.sreg (by simp<;>rfl) (by simp<;>rfl) ?_)
 refine WL.cond (t:=false) (by simp) (by simp) (fun _=>WL.skip ?_)
 refine WL.seq (WL.sreg (by simp<;>rfl) (by simp<;>rfl) ?_)
 refine WL.block (WL.sreg (by simp<;>rfl) (by simp<;>rfl) ?_)
 refine WL.cond (t:=false) (by simp) (by simp) (fun _=>WL.sreg (by simp<;>rfl) (by simp<;>rfl) ?_)
 refine WL.cond (t:=false) (by simp) (by simp) (fun _=>WL.sreg (by simp<;>rfl) (by simp<;>rfl) ?_)
 refine WL.cond (t:=false) (by simp) (by simp) (fun _=>WL.sreg (by simp<;>rfl) (by simp<;>rfl) ?_)
 refine WL.cond (t:=false) (by simp) (by simp) (fun _=>WL.sreg (by simp<;>rfl) (by simp<;>rfl) ?_)
 refine WL.cond (t:=false) (by simp) (by simp) (fun _=>WL.sreg (by simp<;>rfl) (by simp<;>rfl) ?_)
 refine WL.cond (t:=false) (by simp) (by simp) (fun _=>WL.skip ?_)
 refine WL.sreg (by simp<;>rfl) (by simp<;>rfl) (WL.nil1 604 true 1 (by simp) (WL.ret ⟨rfl,?_⟩))
 simp[z3y]
theorem zsx (s:St)(c:Nat)(hc:c < s.Handles.length)(hs:z0c s.Handles[c].length)(P Hd Of Nn:Int)(D:List UInt8)(s':St)(r:Rs)
  (e4:z8y s.Handles[c]=false→s'=s∧r=rsE 4) (k:Nat) (ek:z8y s.Handles[c]=true→k < s.Handles[c].length∧zi3 s.Handles[c]=(k:Int)∧s'=⟨s.There,s.Body,s.Handles.set c (s.Handles[c].set k P)⟩∧r=⟨0,P,k,[]⟩) :
  WL Try.prog z3y.nt zd0 (rbP s c ⟨2,P,Hd,Of,Nn,D⟩ P [(5800,0,bl false)]) (rbQ s' r):=by
 refine WL.seq (WL.sreg (by simp<;>rfl) (by simp<;>rfl) ?_)
 refine WL.cond (t:=false) (by simp) (by simp) (fun _=>WL.skip ?_)
 refine WL.seq (WL.sreg (by simp<;>rfl) (by simp<;>rfl) ?_)
 refine WL.block (WL.sreg (by simp<;>rfl) (by simp<;>rfl) ?_)
 refine WL.cond (t:=false) (by simp) (by simp) (fun _=>WL.sreg (by simp<;>rfl) (by simp<;>rfl) ?_)
 refine WL.cond (t:=true) (by simp) (fun _=>?_) (by simp)
 refine WL.seq (w7 (RL.o (by simp;rfl) (RL.call0 true (zon s c hc hs) (by simp) (by simp) (RL.o (by simp;rfl) (RL.nil ⟨_,by simp;rfl,?_⟩)))))
 cases h:z8y s.Handles[c] with
 | false =>
  obtain⟨a,b⟩:=e4 h
  subst a b
  refine WL.cond (t:=true) (by simp) (fun _=>?_) (by simp)
  refine w7 (RL.call0 false (z2p 4) (by simp) (by simp) (RL.o (by simp;rfl) (RL.nil ⟨_,by simp;rfl,?_⟩)))
  refine WL.ret ⟨rfl,?_⟩
  simp[z3y,rsE]
 | true =>
  obtain⟨hk,hf,a,b⟩:=ek h
  subst a b
  refine WL.cond (t:=false) (by simp) (by simp) (fun _=>WL.skip ?_)
  refine w7 (RL.o (by simp;rfl) (RL.call true [(1000200,[])] (zpf s _ _ rfl rfl c hc hs P k hk hf) (by simp) (by simp) (by simp[z31]) (zgf _ _ (by simp) _) (RL.o (by simp;rfl) (RL.nil ⟨_,by simp;rfl,?_⟩))))
  refine WL.nil1 604 true 1 (by simp) (WL.ret ⟨rfl,?_⟩)
  simp[z3y]
theorem z4g (w:List UInt8)(lo hi:Nat):(z27 w).extract lo hi=z27 ((w.drop lo).take (hi - lo)):=by
 apply ByteArray.ext
 rw[ByteArray.data_extract]
 simp[z27]
theorem zbh (a b:List UInt8):z27 a ++ z27 b=z27 (a ++ b):=by
 apply ByteArray.ext
 simp[z27]
theorem ze8 (w:List UInt8):(y34 (z27 w):List AU)=w.map fun b=>u8 (b.toNat:Int):=by
 simp[y34,z21]
theorem zi4 (s:St)(cl:Int)(P Hd Of Nn:Int)(D:List UInt8):WL Try.prog z3y.nt zb8 (rbA s cl ⟨7,P,Hd,Of,Nn,D⟩ ++ ((2600,0,bl false) :: ghT s)) (rbQ s rsO):=by
 refine WL.sreg (by simp<;>rfl) (by simp<;>rfl) ?_
 refine WL.seq (WL.sreg (by simp<;>rfl) (by simp<;>rfl) ?_)
 refine WL.cond (t:=false) (by simp) (by simp) (fun _=>WL.skip ?_)
 refine WL.seq (WL.sreg (by simp<;>rfl) (by simp<;>rfl) ?_)
 refine WL.cond (t:=false) (by simp) (by simp) (fun _=>WL.skip ?_)
 refine WL.seq (WL.sreg (by simp<;>rfl) (by simp<;>rfl) ?_)
 refine WL.block (WL.sreg (by simp<;>rfl) (by simp<;>rfl) ?_)
 refine WL.cond (t:=false) (by simp) (by simp) (fun _=>WL.sreg (by simp<;>rfl) (by simp<;>rfl) ?_)
 refine WL.cond (t:=false) (by simp) (by simp) (fun _=>WL.sreg (by simp<;>rfl) (by simp<;>rfl) ?_)
 refine WL.cond (t:=false) (by simp) (by simp) (fun _=>WL.sreg (by simp<;>rfl) (by simp<;>rfl) ?_)
 refine WL.cond (t:=false) (by simp) (by simp) (fun _=>WL.sreg (by simp<;>rfl) (by simp<;>rfl) ?_)
 refine WL.cond (t:=false) (by simp) (by simp) (fun _=>WL.sreg (by simp<;>rfl) (by simp<;>rfl) ?_)
 refine WL.cond (t:=false) (by simp) (by simp) (fun _=>WL.skip ?_)
 refine WL.sreg (by simp<;>rfl) (by simp<;>rfl) (WL.nil1 604 true 1 (by simp) (WL.ret ⟨rfl,?_⟩))
 simp[z3y]
theorem zsy (s:St)(c:Nat)(hc:c < s.Handles.length)(k:Nat)(hk:k < s.Handles[c].length)(P p Of Nn:Int)(D:List UInt8) :
  WL Try.prog z3y.nt zcz (rbP s c ⟨5,P,k,Of,Nn,D⟩ p [(7900,0,bl false)]) (rbQ ⟨s.There,s.Body,s.Handles.set c (s.Handles[c].set k (-1))⟩ rsO):=by
 refine WL.seq (WL.sreg (by simp<;>rfl) (by simp<;>rfl) ?_)
 refine WL.block (WL.sreg (by simp<;>rfl) (by simp<;>rfl) ?_)
 refine WL.cond (t:=false) (by simp) (by simp) (fun _=>WL.sreg (by simp<;>rfl) (by simp<;>rfl) ?_)
 refine WL.cond (t:=false) (by simp) (by simp) (fun _=>WL.sreg (by simp<;>rfl) (by simp<;>rfl) ?_)
 refine WL.cond (t:=false) (by simp) (by simp) (fun _=>WL.sreg (by simp<;>rfl) (by simp<;>rfl) ?_)
 refine WL.cond (t:=false) (by simp) (by simp) (fun _=>WL.sreg (by simp<;>rfl) (by simp<;>rfl) ?_)
 refine WL.cond (t:=true) (by simp) (fun _=>?_) (by simp)
 refine WL.draw z0p (by simp[z05,noH]) (DL.o (by simp[hc,hk,qu hk,qu hc];exact⟨rfl,rfl⟩) (DL.nil ⟨by kernel_rfl,_,by simp;rfl,?_⟩))
 refine WL.sreg (by simp<;>rfl) (by simp<;>rfl) (WL.nil1 604 true 1 (by simp) (WL.ret ⟨rfl,?_⟩))
 simp[z3y,sq,sI]
def zgg (p:Int)(l:List Int):Nat:=if 0≤p then cnt p l else 0
def z93 (p:Int)(l:List (List Int)):Nat:=if 0≤p then z4z p l else 0
theorem zla (s:St)(hs:Sized s)(p:Int):FnC Try.prog 127 [] [yob false s,i64 p] [] (i64 (zl3 s p)):=by
 have hP:zl3 s p=(z93 p s.Handles:Nat):=by
  unfold zl3 z93
  by_cases h:p < 0
  ·rw[if_pos h,if_neg (by omega)];rfl
  ·rw[if_neg h,if_pos (by omega)]
 refine wb yt3 rfl ?_
 refine WL.sreg (by simp;rfl) (by simp;rfl) ?_
 refine WL.sreg (by simp;rfl) (by simp;rfl) ?_
 refine WL.seq (WL.sreg (by simp;rfl) (by simp;rfl) ?_)
 refine WL.block (wd s.Handles.length (fun i=>[(100,0,i64 p),(200,0,.bptr 2 1 0),(201,0,sB false s.There),(202,0,sS false s.Body),(203,0,sII false s.Handles),(299,1,.non),(500,0,i64 (z93 p (s.Handles.take i))),(600,0,i64 i)]) (fun _=>True) (by simp[z93,z4z]) trivial fun i hi _=>?_)
 have hS:z0c s.Handles.length:=by have:=hs.h;unfold z0c;omega
 by_cases h:i < s.Handles.length
 ·have hi1:i+1≤s.Handles.length:=h
  have hl:s.Handles[i].length≤1000:=hs.hs _ (qc h)
  have hSl:z0c s.Handles[i].length:=by unfold z0c;omega
  have hle:z93 p (s.Handles.take i)≤1000 * 1000:=by
   have h1:=zdx p (s.Handles.take i) (fun l hl=>hs.hs l (t8 hl))
   have h2:=hs.h
   simp only[s8] at h1
   unfold z93
   split<;>omega
  have hadd:∀ k,zgg p (s.Handles[i].take k)≤1000:=fun k=>by
   have:=zob p (s.Handles[i].take k)
   simp only[s8] at this
   unfold zgg
   split<;>omega
  refine WL.seq (WL.sreg (by simp[h];rfl) (by simp;rfl) ?_)
  refine WL.cond (t:=true) (by simp) (fun _=>WL.skip ?_) (by simp)
  refine WL.seq (WL.block (WL.sreg (by simp;rfl) (by simp;rfl) ?_))
  refine WL.block (wd s.Handles[i].length (fun k=>[(100,0,i64 p),(200,0,.bptr 2 1 0),(201,0,sB false s.There),(202,0,sS false s.Body),(203,0,sII false s.Handles),(299,1,.non),(500,0,i64 (z93 p (s.Handles.take i)+zgg p (s.Handles[i].take k):Nat)),(600,0,i64 i),(700,0,i64 k)]) (fun _=>True) (by simp[zgg,cnt]) trivial fun k hk _=>?_)
  by_cases h':k < s.Handles[i].length
  ·have hk1:k+1≤s.Handles[i].length:=h'
   have hS2:z0c 1000000000:=by unfold z0c;omega
   refine WL.seq (WL.sreg (by simp[h,hi1,h'];rfl) (by simp;rfl) ?_)
   refine WL.cond (t:=true) (by simp) (fun _=>WL.skip ?_) (by simp)
   have hcs:=zjj p s.Handles[i] h'
   have hc:=hadd k
   by_cases e:s.Handles[i][k]=p
   ·by_cases e0:0≤p
    ·rw[if_pos e] at hcs
     have hcs':zgg p (s.Handles[i].take (k+1))=zgg p (s.Handles[i].take k)+1:=by simp only[zgg,if_pos e0,hcs]
     have hw:IntKind.wrap .i64 ((z93 p (s.Handles.take i):Int)+(zgg p (s.Handles[i].take k):Int)+1)=(z93 p (s.Handles.take i):Int)+(zgg p (s.Handles[i].take k):Int)+1:=by
      simpa using z0o hS2 (show z93 p (s.Handles.take i)+zgg p (s.Handles[i].take k) < 1000000000 by omega)
     refine WL.seq (WL.block (WL.sreg (by simp[h,hi1,h',hk1,e,e0];rfl) (by simp;rfl) ?_))
     refine WL.cond (t:=true) (by simp[e0]) (fun _=>?_) (by simp)
     refine WL.reg (RL.run (by simp[hw];rfl) ⟨_,by simp;rfl,?_⟩)
     refine WL.reg (RL.run (by simp[z0o hSl h'];rfl) ⟨_,by simp;rfl,h',?_,trivial⟩)
     simp[hcs']
     omega
    ·have hcs':∀ j,zgg p (s.Handles[i].take j)=0:=fun j=>by simp only[zgg,if_neg e0]
     refine WL.seq (WL.block (WL.sreg (by simp[h,hi1,h',hk1,e,e0];rfl) (by simp;rfl) ?_))
     refine WL.cond (t:=false) (by simp[e0]) (by simp) (fun _=>WL.skip ?_)
     refine WL.reg (RL.run (by simp[z0o hSl h'];rfl) ⟨_,by simp;rfl,h',?_,trivial⟩)
     simp[hcs',e0]
   ·rw[if_neg e] at hcs
    have eb:(s.Handles[i][k] == p)=false:=by simp[e]
    have hcs':zgg p (s.Handles[i].take (k+1))=zgg p (s.Handles[i].take k):=by simp only[zgg,hcs,sx]
    refine WL.seq (WL.block (WL.sreg (by simp[h,hi1,h',hk1,eb];rfl) (by simp;rfl) ?_))
    refine WL.cond (t:=false) (by simp) (by simp) (fun _=>WL.skip ?_)
    refine WL.reg (RL.run (by simp[z0o hSl h'];rfl) ⟨_,by simp;rfl,h',?_,trivial⟩)
    simp[hcs']
  ·refine WL.seq (WL.sreg (by simp[h,hi1,h'];rfl) (by simp;rfl) ?_)
   refine WL.cond (t:=false) (by simp) (by simp) fun _=>WL.exit ?_
   refine WL.reg (RL.run (by simp[z0o hS h];rfl) ⟨_,by simp;rfl,h,?_,trivial⟩)
   have hk':k=s.Handles[i].length:=by omega
   subst hk'
   have:z93 p (s.Handles.take (i+1))=z93 p (s.Handles.take i)+zgg p s.Handles[i]:=by
    unfold z93 zgg
    split
    ·rw[zcx p s.Handles h]
    ·rfl
   simp[this]
 ·refine WL.seq (WL.sreg (by simp[h];rfl) (by simp;rfl) ?_)
  refine WL.cond (t:=false) (by simp) (by simp) fun _=>WL.exit ?_
  have hi':i=s.Handles.length:=by omega
  subst hi'
  refine WL.sreg (by simp;rfl) (by simp;rfl) (WL.ret ⟨.inr rfl,?_⟩)
  simp[ydq,hP]
theorem zpg (s:St)(hs:Sized s)(cl:Int)(p:Nat)(hp:p < s.There.length)(hb:p < s.Body.length)(Hd Of Nn:Int)(D:List UInt8)(s':St)(r:Rs)
  (e7:0 < zl3 s p→s'=s∧r=rsE 7) (ok:¬ 0 < zl3 s p→s'=⟨s.There.set p false,s.Body.set p z16,s.Handles⟩∧r=rsO) :
  WL Try.prog z3y.nt zd0 (rbP s cl ⟨8,p,Hd,Of,Nn,D⟩ p [(5800,0,bl false)]) (rbQ s' r):=by
 refine WL.seq (WL.sreg (by simp<;>rfl) (by simp<;>rfl) ?_)
 refine WL.cond (t:=false) (by simp) (by simp) (fun _=>WL.skip ?_)
 refine WL.seq (WL.sreg (by simp<;>rfl) (by simp<;>rfl) ?_)
 refine WL.block (WL.sreg (by simp<;>rfl) (by simp<;>rfl) ?_)
 refine WL.cond (t:=false) (by simp) (by simp) (fun _=>WL.sreg (by simp<;>rfl) (by simp<;>rfl) ?_)
 refine WL.cond (t:=false) (by simp) (by simp) (fun _=>WL.sreg (by simp<;>rfl) (by simp<;>rfl) ?_)
 refine WL.cond (t:=false) (by simp) (by simp) (fun _=>WL.sreg (by simp<;>rfl) (by simp<;>rfl) ?_)
 refine WL.cond (t:=false) (by simp) (by simp) (fun _=>WL.sreg (by simp<;>rfl) (by simp<;>rfl) ?_)
 refine WL.cond (t:=false) (by simp) (by simp) (fun _=>WL.sreg (by simp<;>rfl) (by simp<;>rfl) ?_)
 refine WL.cond (t:=true) (by simp) (fun _=>?_) (by simp)
 refine WL.seq (w7 (RL.o (by simp;rfl) (RL.call0 true (zla s hs p) (by simp) (by simp) (RL.o (by simp;rfl) (RL.nil ⟨_,by simp;rfl,?_⟩)))))
 by_cases h:0 < zl3 s p
 ·obtain⟨a,b⟩:=e7 h
  subst a b
  refine WL.cond (t:=true) (by simp[h]) (fun _=>?_) (by simp)
  refine w7 (RL.call0 false (z2p 7) (by simp) (by simp) (RL.o (by simp;rfl) (RL.nil ⟨_,by simp;rfl,?_⟩)))
  refine WL.ret ⟨rfl,?_⟩
  simp[z3y,rsE]
 ·obtain⟨a,b⟩:=ok h
  subst a b
  refine WL.cond (t:=false) (by simp;omega) (by simp) (fun _=>WL.skip ?_)
  refine WL.draw z0p (by simp[z05,noH]) (DL.o (by simp;exact⟨rfl,rfl⟩) (DL.call0 false zdz (by simp) (by simp) (DL.o (by simp[hp,hb,qu hp,qu hb];exact⟨rfl,rfl⟩) (DL.nil ⟨by kernel_rfl,_,by simp;rfl,?_⟩))))
  refine WL.sreg (by simp<;>rfl) (by simp<;>rfl) (WL.nil1 604 true 1 (by simp) (WL.ret ⟨rfl,?_⟩))
  simp[z3y,sq]
abbrev rbN (s:St)(cl:Int)(p:Int)(t:SL):SL:=rb1 cl ++ (rb3 s ++ (rb6 ++ ((700,0,i64 p) :: (t ++ ghT s))))
theorem zsz (s:St)(c:Nat)(hc:c < s.Handles.length)(hs:z0c s.Handles[c].length)(i:Nat)(hi:i < s.There.length)(hb:i < s.Body.length)(k:Nat)(hk:k < s.Handles[c].length)(hf:zi3 s.Handles[c]=(k:Int)) :
  WL Try.prog z3y.nt zjl (rbN s c i [(10800,0,bl false)]) (rbQ ⟨s.There.set i true,s.Body.set i z16,s.Handles.set c (s.Handles[c].set k i)⟩ ⟨0,i,k,[]⟩):=by
 refine WL.seq (WL.draw z0p (by simp[z05,noH]) (DL.o (by simp;exact⟨rfl,rfl⟩) (DL.call0 false zdz (by simp) (by simp) (DL.o (by simp[hi,hb,qu hi,qu hb];exact⟨rfl,rfl⟩) (DL.nil ⟨by kernel_rfl,_,by simp;rfl,?_⟩)))))
 obtain⟨T,hT⟩:∃ T,T=s.There.set i true:=⟨_,rfl⟩
 obtain⟨B,hB⟩:∃ B,B=s.Body.set i z16:=⟨_,rfl⟩
 have eT:(AV.sl true () 1 s.There.length ((s.There.map bl).set i (bl true)):AU)=sB true T:=by simp[hT,sq,sB]
 have eB:(AV.sl true () 1 s.Body.length ((s.Body.map str).set i (str z16)):AU)=sS true B:=by simp[hB,sq,sS]
 have lT:T.length=s.There.length:=by simp[hT]
 have lB:B.length=s.Body.length:=by simp[hB]
 have tT:(T.map bl).take s.There.length=T.map bl:=pr (by simp[lT])
 have tB:(B.map str).take s.Body.length=B.map str:=pr (by simp[lB])
 rw[eT,eB,← hT,← hB]
 clear eT eB hT hB
 have hg:=zpf ⟨T,B,s.Handles⟩ _ _ rfl rfl c hc hs i k hk hf
 refine w7 (RL.o (by simp;rfl) (RL.call true [(1000200,[])] hg (by simp) (by simp) (by simp[z31,lT,lB,tT,tB]) (zgf _ _ (by simp) _) (RL.o (by simp;rfl) (RL.nil ⟨_,by simp;rfl,?_⟩))))
 refine WL.nil1 604 true 1 (by simp) (WL.ret ⟨rfl,?_⟩)
 simp[z3y,sq,lT,lB]
theorem yhy (s:St)(hT:z0c s.There.length)(hB:s.Body.length=s.There.length)(c:Nat)(hc:c < s.Handles.length)(hs:z0c s.Handles[c].length)(P Hd Of Nn:Int)(D:List UInt8)(s':St)(r:Rs)
  (e4:z8y s.Handles[c]=false→s'=s∧r=rsE 4)
  (e3:z8y s.Handles[c]=true→ixF (· == false) s.There 0=-1→s'=s∧r=rsE 3)
  (k:Nat) (ek:z8y s.Handles[c]=true→k < s.Handles[c].length∧zi3 s.Handles[c]=(k:Int))
  (ok:z8y s.Handles[c]=true→∀ i:Nat,i < s.There.length→ixF (· == false) s.There 0=(i:Int)→s'=⟨s.There.set i true,s.Body.set i z16,s.Handles.set c (s.Handles[c].set k i)⟩∧r=⟨0,i,k,[]⟩) :
  WL Try.prog z3y.nt zb8 (rbA s c ⟨1,P,Hd,Of,Nn,D⟩ ++ ((2600,0,bl false) :: ghT s)) (rbQ s' r):=by
 refine WL.sreg (by simp<;>rfl) (by simp<;>rfl) ?_
 refine WL.seq (WL.sreg (by simp<;>rfl) (by simp<;>rfl) ?_)
 refine WL.cond (t:=false) (by simp) (by simp) (fun _=>WL.skip ?_)
 refine WL.seq (WL.sreg (by simp<;>rfl) (by simp<;>rfl) ?_)
 refine WL.cond (t:=false) (by simp) (by simp) (fun _=>WL.skip ?_)
 refine WL.seq (WL.sreg (by simp<;>rfl) (by simp<;>rfl) ?_)
 refine WL.block (WL.sreg (by simp<;>rfl) (by simp<;>rfl) ?_)
 refine WL.cond (t:=true) (by simp) (fun _=>?_) (by simp)
 refine WL.seq (w7 (RL.o (by simp;rfl) (RL.call0 true (zon s c hc hs) (by simp) (by simp) (RL.o (by simp;rfl) (RL.nil ⟨_,by simp;rfl,?_⟩)))))
 cases h:z8y s.Handles[c] with
 | false =>
  obtain⟨a,b⟩:=e4 h
  subst a b
  refine WL.cond (t:=true) (by simp) (fun _=>?_) (by simp)
  refine w7 (RL.call0 false (z2p 4) (by simp) (by simp) (RL.o (by simp;rfl) (RL.nil ⟨_,by simp;rfl,?_⟩)))
  refine WL.ret ⟨rfl,?_⟩
  simp[z3y,rsE]
 | true =>
  obtain⟨hk,hf⟩:=ek h
  refine WL.cond (t:=false) (by simp) (by simp) (fun _=>WL.skip ?_)
  refine WL.sreg (by simp;rfl) (by simp;rfl) ?_
  refine WL.seq (WL.block (wd s.There.length (fun i=>rbN s c i []) (fun i=>ixF (· == false) (s.There.drop i) i=ixF (· == false) s.There 0) (by simp) rfl fun i hi hp=>?_))
  have fin:i < s.There.length→s.There[i]?=some false→WL Try.prog z3y.nt zjl (rbN s c i [(10800,0,bl false)]) (rbQ s' r):=fun hi hf'=>by
   have h1:s.There[i]=false:=by simpa [hi] using hf'
   rw[z6r _ _ _ hi,if_pos (by simp[h1])] at hp
   obtain⟨a,b⟩:=ok h i hi hp.symm
   subst a b
   exact zsz s c hc hs i hi (by omega) k hk hf
  by_cases hi':i < s.There.length
  ·have hi1:i+1≤s.There.length:=hi'
   cases hb:s.There[i] with
   | true =>
    refine WL.seq (WL.sreg (by simp[hi',hi1,hb];rfl) (by simp;rfl) ?_)
    refine WL.cond (t:=true) (by simp[hb]) (fun _=>WL.skip ?_) (by simp)
    rw[z6r _ _ _ hi',if_neg (by simp[hb])] at hp
    refine WL.block (WL.reg (RL.run (by simp[z0o hT hi'];rfl) ⟨_,by simp;rfl,hi',?_,hp⟩))
    simp
   | false =>
    refine WL.seq (WL.sreg (by simp[hi',hi1,hb];rfl) (by simp;rfl) ?_)
    refine WL.cond (t:=false) (by simp[hb]) (by simp) (fun _=>WL.exit ?_)
    have hne:¬ i=s.There.length:=by omega
    have hneI:¬ (i:Int)=s.There.length:=by omega
    refine WL.seq (WL.sreg (by simp[hne,hneI];rfl) (by simp;rfl) ?_)
    refine WL.cond (t:=false) (by simp[hne,hneI]) (by simp) (fun _=>WL.skip ?_)
    have d:((i:Int) == (s.There.length:Int))=false:=by simpa using hneI
    rw[d]
    show WL Try.prog z3y.nt zjl _ _
    exact WL.up (fin hi' (by simp[hi',hb])) fun _ h=>⟨rfl,h⟩
  ·have hi2:i=s.There.length:=by omega
   subst hi2
   rw[zb4 _ _ _ hi'] at hp
   obtain⟨a,b⟩:=e3 h hp.symm
   subst a b
   refine WL.seq (WL.sreg (by simp;rfl) (by simp;rfl) ?_)
   refine WL.cond (t:=false) (by simp) (by simp) (fun _=>WL.exit ?_)
   refine WL.seq (WL.sreg (by simp;rfl) (by simp;rfl) ?_)
   refine WL.cond (t:=true) (by simp) (fun _=>?_) (by simp)
   refine w7 (RL.call0 false (z2p 3) (by simp) (by simp) (RL.o (by simp;rfl) (RL.nil ⟨_,by simp;rfl,?_⟩)))
   refine WL.ret ⟨rfl,?_⟩
   simp[z3y,rsE]
theorem y0f (s:St)(cl:Int)(m:Nat)(hm:m < s.Body.length)(h16:s.Body[m].length=16)(P Hd Of Nn:Int)(D:List UInt8)(s':St)(r:Rs)
  (e6:z3i ⟨3,P,Hd,Of,Nn,D⟩ Nn=true→s'=s∧r=rsE 6)
  (ok:∀ o n:Nat,Of=o→Nn=n→o+n≤16→s'=s∧r=⟨0,0,0,(s.Body[m].drop o).take n⟩) :
  WL Try.prog z3y.nt zcz (rbP s cl ⟨3,P,Hd,Of,Nn,D⟩ m [(7900,0,bl false)]) (rbQ s' r):=by
 refine WL.seq (WL.sreg (by simp<;>rfl) (by simp<;>rfl) ?_)
 refine WL.block (WL.sreg (by simp<;>rfl) (by simp<;>rfl) ?_)
 refine WL.cond (t:=false) (by simp) (by simp) (fun _=>WL.sreg (by simp<;>rfl) (by simp<;>rfl) ?_)
 refine WL.cond (t:=false) (by simp) (by simp) (fun _=>WL.sreg (by simp<;>rfl) (by simp<;>rfl) ?_)
 refine WL.cond (t:=true) (by simp) (fun _=>?_) (by simp)
 refine WL.seq ?_
 by_cases k1:Of < 0
 ·obtain⟨a,b⟩:=e6 (by simp[z3i,k1])
  subst a b
  refine WL.sreg (by simp[k1];rfl) (by simp;rfl) ?_
  refine WL.cond (t:=true) (by simp) (fun _=>?_) (by simp)
  refine w7 (RL.call0 false (z2p 6) (by simp) (by simp) (RL.o (by simp;rfl) (RL.nil ⟨_,by simp;rfl,?_⟩)))
  refine WL.ret ⟨rfl,?_⟩
  simp[z3y,rsE]
 by_cases k2:Nn < 0
 ·obtain⟨a,b⟩:=e6 (by simp[z3i,k2])
  subst a b
  refine WL.sreg (by simp[k1,k2];rfl) (by simp;rfl) ?_
  refine WL.cond (t:=true) (by simp) (fun _=>?_) (by simp)
  refine w7 (RL.call0 false (z2p 6) (by simp) (by simp) (RL.o (by simp;rfl) (RL.nil ⟨_,by simp;rfl,?_⟩)))
  refine WL.ret ⟨rfl,?_⟩
  simp[z3y,rsE]
 by_cases k3:16 < Of
 ·obtain⟨a,b⟩:=e6 (by simp[z3i,k3])
  subst a b
  refine WL.sreg (by simp[k1,k2,k3];rfl) (by simp;rfl) ?_
  refine WL.cond (t:=true) (by simp) (fun _=>?_) (by simp)
  refine w7 (RL.call0 false (z2p 6) (by simp) (by simp) (RL.o (by simp;rfl) (RL.nil ⟨_,by simp;rfl,?_⟩)))
  refine WL.ret ⟨rfl,?_⟩
  simp[z3y,rsE]
 obtain⟨o,ho⟩:=pu (a:=Of) (by omega)
 obtain⟨n,hn⟩:=pu (a:=Nn) (by omega)
 subst ho hn
 have w1:IntKind.wrap .i64 ((16:Int) - (o:Int))=16 - (o:Int):=z01 (by omega) (by omega)
 by_cases k4:16 - (o:Int) < n
 ·obtain⟨a,b⟩:=e6 (by simp[z3i,k4])
  subst a b
  refine WL.sreg (by simp[k1,k2,k3,k4,w1];rfl) (by simp;rfl) ?_
  refine WL.cond (t:=true) (by simp[k4]) (fun _=>?_) (by simp)
  refine w7 (RL.call0 false (z2p 6) (by simp) (by simp) (RL.o (by simp;rfl) (RL.nil ⟨_,by simp;rfl,?_⟩)))
  refine WL.ret ⟨rfl,?_⟩
  simp[z3y,rsE]
 have hon:o+n≤16:=by omega
 obtain⟨a,b⟩:=ok o n rfl rfl hon
 subst a b
 refine WL.sreg (by simp[k1,k2,k3,k4,w1];rfl) (by simp;rfl) ?_
 refine WL.cond (t:=false) (by simp[k4];try omega) (by simp) (fun _=>WL.skip ?_)
 obtain⟨e,he⟩:∃ e,e=o+n:=⟨_,rfl⟩
 have hw:IntKind.wrap .i64 ((o:Int)+(n:Int))=(e:Int):=by rw[z01 (by omega) (by omega)];omega
 have f1:o≤e:=by omega
 have f2:e≤16:=by omega
 have f3:e - o=n:=by omega
 refine WL.seq (WL.draw z0p (by simp[z05,noH]) (DL.o (by simp[hm,h16,hw,f1,f2,f3,z1i,z4g,ze8,qu hm,-List.map_take,-List.map_drop];exact⟨rfl,rfl⟩) (DL.nil ⟨by kernel_rfl,_,by simp;rfl,?_⟩)))
 refine WL.ret ⟨rfl,?_⟩
 have f4:min n (16 - o)=n:=by omega
 simp[z3y,h16,f4,List.take_take]
theorem zt0 (s:St)(cl:Int)(m:Nat)(hm:m < s.Body.length)(h16:s.Body[m].length=16)(P Hd Of Nn:Int)(D:List UInt8)(s':St)(r:Rs)
  (e6:z3i ⟨4,P,Hd,Of,Nn,D⟩ D.length=true→s'=s∧r=rsE 6)
  (ok:∀ o:Nat,Of=o→o+D.length≤16→s'=⟨s.There,s.Body.set m (zhw s.Body[m] o D),s.Handles⟩∧r=rsO) (hD:z0c D.length) :
  WL Try.prog z3y.nt zcz (rbP s cl ⟨4,P,Hd,Of,Nn,D⟩ m [(7900,0,bl false)]) (rbQ s' r):=by
 refine WL.seq (WL.sreg (by simp<;>rfl) (by simp<;>rfl) ?_)
 refine WL.block (WL.sreg (by simp<;>rfl) (by simp<;>rfl) ?_)
 refine WL.cond (t:=false) (by simp) (by simp) (fun _=>WL.sreg (by simp<;>rfl) (by simp<;>rfl) ?_)
 refine WL.cond (t:=false) (by simp) (by simp) (fun _=>WL.sreg (by simp<;>rfl) (by simp<;>rfl) ?_)
 refine WL.cond (t:=false) (by simp) (by simp) (fun _=>WL.sreg (by simp<;>rfl) (by simp<;>rfl) ?_)
 refine WL.cond (t:=true) (by simp) (fun _=>?_) (by simp)
 refine WL.seq ?_
 by_cases k1:Of < 0
 ·obtain⟨a,b⟩:=e6 (by simp[z3i,k1])
  subst a b
  refine WL.sreg (by simp[k1];rfl) (by simp;rfl) ?_
  refine WL.cond (t:=true) (by simp) (fun _=>?_) (by simp)
  refine w7 (RL.call0 false (z2p 6) (by simp) (by simp) (RL.o (by simp;rfl) (RL.nil ⟨_,by simp;rfl,?_⟩)))
  refine WL.ret ⟨rfl,?_⟩
  simp[z3y,rsE]
 by_cases k3:16 < Of
 ·obtain⟨a,b⟩:=e6 (by simp[z3i,k3])
  subst a b
  refine WL.sreg (by simp[k1,k3];rfl) (by simp;rfl) ?_
  refine WL.cond (t:=true) (by simp) (fun _=>?_) (by simp)
  refine w7 (RL.call0 false (z2p 6) (by simp) (by simp) (RL.o (by simp;rfl) (RL.nil ⟨_,by simp;rfl,?_⟩)))
  refine WL.ret ⟨rfl,?_⟩
  simp[z3y,rsE]
 obtain⟨o,ho⟩:=pu (a:=Of) (by omega)
 subst ho
 have w1:IntKind.wrap .i64 ((16:Int) - (o:Int))=16 - (o:Int):=z01 (by omega) (by omega)
 by_cases k4:16 - (o:Int) < D.length
 ·obtain⟨a,b⟩:=e6 (by simp[z3i,k4])
  subst a b
  refine WL.sreg (by simp[k1,k3,k4,w1];rfl) (by simp;rfl) ?_
  refine WL.cond (t:=true) (by simp[k4]) (fun _=>?_) (by simp)
  refine w7 (RL.call0 false (z2p 6) (by simp) (by simp) (RL.o (by simp;rfl) (RL.nil ⟨_,by simp;rfl,?_⟩)))
  refine WL.ret ⟨rfl,?_⟩
  simp[z3y,rsE]
 have hon:o+D.length≤16:=by omega
 obtain⟨a,b⟩:=ok o rfl hon
 subst a b
 refine WL.sreg (by simp[k1,k3,k4,w1];rfl) (by simp;rfl) ?_
 refine WL.cond (t:=false) (by simp[k4];try omega) (by simp) (fun _=>WL.skip ?_)
 obtain⟨e,he⟩:∃ e,e=o+D.length:=⟨_,rfl⟩
 have hw:IntKind.wrap .i64 ((o:Int)+(D.length:Int))=(e:Int):=by rw[z01 (by omega) (by omega)];omega
 have f1:o≤e:=by omega
 have f2:e≤16:=by omega
 have f5:o≤16:=by omega
 have g1:o+D.length≤4611686018427387904:=by omega
 have g2:o+(D.length+(16 - e))≤4611686018427387904:=by omega
 have g3:o+D.length+(16 - e)≤4611686018427387904:=by omega
 refine WL.draw z0p (by simp[z05,noH]) (DL.o (by simp[hm,h16,hw,f1,f2,f5,g1,g2,g3,z1i,z4g,zbh,ze8,zg0,qu hm,-List.map_take,-List.map_drop];exact⟨rfl,rfl⟩) (DL.nil ⟨by kernel_rfl,_,by simp;rfl,?_⟩))
 refine WL.sreg (by simp<;>rfl) (by simp<;>rfl) (WL.nil1 604 true 1 (by simp) (WL.ret ⟨rfl,?_⟩))
 have f6:List.take (16 - e) (List.drop e s.Body[m])=List.drop e s.Body[m]:=pr (by simp[h16])
 simp[z3y,sq,zhw,← he]
 rw[f6]
theorem zju {α:Type}{p q:α→Bool}:∀ (l:List α) (n:Nat),(∀ x ∈ l,p x=q x)→ixF p l n=ixF q l n
 | [],_,_=>rfl
 | x :: l,n,h=>by
  simp only[ixF]
  rw[h x rn,zju l (n+1) fun y hy=>h y (qe _ hy)]
theorem zjv {α:Type}{p q:α→Bool}:∀ (l:List α),(∀ x ∈ l,p x=q x)→l.any p=l.any q
 | [],_=>rfl
 | x :: l,h=>by
  simp only[tg]
  rw[h x rn,zjv l fun y hy=>h y (qe _ hy)]
theorem y0g {s:St}(h:OkSt s){l:List Int}(hl:l ∈ s.Handles):z8y l=zen l∧zi3 l=ixF (· == -1) l 0:=by
 have hx:∀ x ∈ l,decide (x < 0)=(x == -1):=fun x hx=>by
  rcases h.hp l hl x hx with e | e
  ·subst e;rfl
  ·simp only[z2j,pp,decide_eq_true_eq] at e
   have h1:¬ x < 0:=by omega
   have h2:¬ x=-1:=by omega
   simp[h1,h2]
 exact⟨zjv _ hx,zju _ _ hx⟩
theorem ze9 {s:St}{c k:Nat}(hc:c < s.Handles.length)(hk:k < s.Handles[c].length):z38 s c k=s.Handles[c][k]:=by
 have h1:¬ s.Handles.length≤c:=by omega
 have h2:¬ s.Handles[c].length≤k:=by omega
 have h3:¬ (c:Int) < 0:=by omega
 have h4:¬ (k:Int) < 0:=by omega
 simp[z38,hc,hk,h1,h2,h3,h4]
theorem zph {s:St}(h:OkSt s){c:Nat}(hc:c < s.Handles.length)(hd:Int)(hb:z5t s.Handles[c] hd=true):z38 s c hd=-1:=by
 have h6:=h.l6 _ (qc hc)
 have h1:¬ s.Handles.length≤c:=by omega
 simp only[z5t,qr,decide_eq_true_eq] at hb
 by_cases e1:hd < 0
 ·simp[z38,e1]
 obtain⟨k,rfl⟩:=pu (a:=hd) (by omega)
 by_cases e2:6≤k
 ·have e3:(6:Int)≤k:=by omega
  simp[z38,hc,h6,e3]
 ·have hk:k < s.Handles[c].length:=by omega
  rw[ze9 hc hk]
  have:=(hb.resolve_left e1).resolve_left (by omega)
  simpa [hk] using this
theorem zlb {s:St}{c:Nat}{q:Op}(h:OkSt s)(hc:c < s.Handles.length):(z06 s s.Handles[c] q ≠ 0→(DoB s c q).2.1=s∧(DoB s c q).2.2=rsE (z06 s s.Handles[c] q))∧(z06 s s.Handles[c] q=0→(DoB s c q).2.1=(z4d s c q).1∧(DoB s c q).2.2=(z4d s c q).2):=by
 have hn:¬ z2b s c=true:=by
  have:=(zb7 s).2 h
  simp[z2b,this]
  omega
 constructor
 ·intro h0
  simp[DoB,hn,hc,h0]
 ·intro h0
  simp[DoB,hn,hc,h0]
theorem set_self {α:Type}(l:List α)(i:Nat)(h:i < l.length)(v:α)(hv:l[i]=v):l.set i v=l:=by
 subst hv
 exact List.set_getElem_self h
theorem zlc (s:St)(h:OkSt s)(c:Nat)(hc:c < s.Handles.length)(q:Op)(hD:z0c q.Data.length)(hk:1≤q.Kind∧q.Kind≤8)(s':St)(r:Rs)
  (hE:z06 s s.Handles[c] q ≠ 0→s'=s∧r=rsE (z06 s s.Handles[c] q)) (hO:z06 s s.Handles[c] q=0→s'=(z4d s c q).1∧r=(z4d s c q).2) :
  WL Try.prog z3y.nt zb8 (rbA s c q ++ ((2600,0,bl false) :: ghT s)) (rbQ s' r):=by
 have hs:=h.sized
 have hmem:=qc hc
 have h6:s.Handles[c].length=6:=h.l6 _ hmem
 have hS:z0c s.Handles[c].length:=by unfold z0c;omega
 have hT:z0c s.There.length:=by have:=hs.t;unfold z0c;omega
 obtain⟨fr,fi⟩:=y0g h hmem
 have hroom:zen s.Handles[c]=true→ix (· == -1) s.Handles[c] < s.Handles[c].length∧zi3 s.Handles[c]=(ix (· == -1) s.Handles[c]:Int):=fun hr=>by
  obtain⟨j1,j2,j3⟩:=z66 hr
  exact⟨j1,by rw[fi,j2]⟩
 have hl:s.Handles.getD c []=s.Handles[c]:=by simp[hc]
 obtain⟨K,P,Hd,Of,Nn,D⟩:=q
 simp only at hk hD
 by_cases k1:K=1
 ·subst k1
  refine yhy s hT h.bn c hc hS P Hd Of Nn D s' r (fun e=>?_) (fun e e3=>?_) (ix (· == -1) s.Handles[c]) (fun e=>hroom (by rw[← fr];exact e)) (fun e i hi hix=>?_)
  ·rw[fr] at e
   have:=hE (by simp[z06,e])
   simpa [z06,e] using this
  ·rw[fr] at e
   have ha:s.There.any (· == false)=false:=by
    cases e':s.There.any (· == false) with
    | false=>rfl
    | true =>
     have:=(zcu (· == false) s.There 0).2 e'
     omega
   have:=hE (by simp only[z06,e,ha,if_true];decide)
   simpa only [z06,e,ha,if_true,Bool.true_eq_false,if_false] using this
  ·rw[fr] at e
   have ha:s.There.any (· == false)=true:=(zcu (· == false) s.There 0).1 (by rw[hix];omega)
   have he:ix (· == false) s.There=i:=by unfold ix;rw[hix];exact ta i
   have hb:i < s.Body.length:=by rw[h.bn];exact hi
   obtain⟨i1,i2,i3⟩:=z66 ha
   have hth:s.There[i]=false:=by
    have:=i3
    simp only[he] at this
    simpa using this
   have hz:=h.zero i hb (by simp[hi,hth])
   have:=hO (by simp only[z06,e,ha,if_true,Bool.true_eq_false,if_false])
   simp only[z4d,if_true,hl,he] at this
   rw[set_self s.Body i hb z16 hz]
   exact this
 by_cases k2:K=2∨K=6∨K=8
 ·refine y0d s c ⟨K,P,Hd,Of,Nn,D⟩ s' r k2 hT (fun e=>?_) (fun e1 e2=>?_) (fun e=>?_)
  ·have:=hE (by simp only[z06,if_neg k1,if_pos k2,e,if_true];decide)
   simpa only [z06,if_neg k1,if_pos k2,e,if_true] using this
  ·simp only at e1 e2
   have:=hE (by simp only[z06,if_neg k1,if_pos k2,e1,e2,if_true,Bool.true_eq_false,if_false];decide)
   simpa only [z06,if_neg k1,if_pos k2,e1,e2,if_true,Bool.true_eq_false,if_false] using this
  ·simp only at e
   have hth:=e
   simp only[z2j,pp,decide_eq_true_eq] at hth
   obtain⟨m,rfl⟩:=pu hth.1
   have hm:m < s.There.length:=by
    have:=hth.2
    by_cases h:m < s.There.length
    ·exact h
    ·simp[h] at this
   have hmb:m < s.Body.length:=by rw[h.bn];exact hm
   have hpg:z34 s (m:Int)=true:=by simp[z34,hm]
   rcases k2 with k2 | k2 | k2<;>subst k2
   ·refine zsx s c hc hS m Hd Of Nn D s' r (fun e4=>?_) (ix (· == -1) s.Handles[c]) (fun e4=>?_)
    ·rw[fr] at e4
     have:=hE (by simp[z06,hpg,e,e4])
     simpa [z06,hpg,e,e4] using this
    ·rw[fr] at e4
     obtain⟨a,b⟩:=hroom e4
     have:=hO (by simp[z06,hpg,e,e4])
     simp only[z4d,hl] at this
     exact⟨a,b,by simpa using this⟩
   ·have:=hO (by simp[z06,hpg,e])
    simp only[z4d] at this
    obtain⟨a,b⟩:s'=s∧r=rsO:=by simpa using this
    subst a b
    exact zsw s' c m Hd Of Nn D
   ·refine zpg s hs c m hm hmb Hd Of Nn D s' r (fun e7=>?_) (fun e7=>?_)
    ·have:=hE (by simp[z06,hpg,e,e7])
     simpa [z06,hpg,e,e7] using this
    ·have:=hO (by simp[z06,hpg,e,e7])
     simp only[z4d] at this
     simpa [z16] using this
 by_cases k3:K=3∨K=4∨K=5
 ·refine y0e s c ⟨K,P,Hd,Of,Nn,D⟩ s' r k3 (fun e=>?_) (fun e=>?_)
  ·simp only at e
   have hb:z5t s.Handles[c] Hd=true:=by
    cases hb:z5t s.Handles[c] Hd with
    | true=>rfl
    | false =>
     exfalso
     simp only[z5t,qm,decide_eq_false_iff_not,beq_eq_false_iff_ne] at hb
     obtain⟨k,rfl⟩:=pu (a:=Hd) (by omega)
     have hk6:k < s.Handles[c].length:=by omega
     rw[ze9 hc hk6] at e
     have hne:s.Handles[c][k] ≠ -1:=by simpa [hk6] using hb.2.2
     have hth:=(h.hp _ hmem _ (qc hk6)).resolve_left hne
     simp only[z2j,pp,decide_eq_true_eq] at hth
     omega
   have:=hE (by simp only[z06,if_neg k1,if_neg k2,if_pos k3,hb,if_true];decide)
   simpa only [z06,if_neg k1,if_neg k2,if_pos k3,hb,if_true] using this
  ·simp only at e
   have hb:z5t s.Handles[c] Hd=false:=by
    cases hb:z5t s.Handles[c] Hd with
    | false=>rfl
    | true=>rw [zph h hc Hd hb] at e;omega
   have hb':=hb
   simp only[z5t,qm,decide_eq_false_iff_not,beq_eq_false_iff_ne] at hb'
   obtain⟨k,rfl⟩:=pu (a:=Hd) (by omega)
   have hk6:k < s.Handles[c].length:=by omega
   simp only
   rw[ze9 hc hk6] at e ⊢
   have hne:s.Handles[c][k] ≠ -1:=by simpa [hk6] using hb'.2.2
   have hth:=(h.hp _ hmem _ (qc hk6)).resolve_left hne
   simp only[z2j,pp,decide_eq_true_eq] at hth
   obtain⟨m,hm⟩:=pu hth.1
   have hmt:m < s.There.length:=by
    have:=hth.2
    rw[hm] at this
    by_cases h:m < s.There.length
    ·exact h
    ·simp[h] at this
   have hmb:m < s.Body.length:=by rw[h.bn];exact hmt
   have h16:=h.b16 _ (qc hmb)
   rcases k3 with k3 | k3 | k3<;>subst k3
   ·rw[hm]
    refine y0f s c m hmb h16 P k Of Nn D s' r (fun e6=>?_) (fun o n ho hn hon=>?_)
    ·have:=hE (by simp[z06,hb,e6])
     simpa [z06,hb,e6] using this
    ·subst ho hn
     have e6:z3i ⟨3,P,k,o,n,D⟩ n=false:=by
      simp[z3i]
      omega
     have:=hO (by simp[z06,hb,e6])
     simpa [z4d,hc,hk6,hm,hmb] using this
   ·rw[hm]
    refine zt0 s c m hmb h16 P k Of Nn D s' r (fun e6=>?_) (fun o ho hon=>?_) hD
    ·have:=hE (by simp[z06,hb,e6])
     simpa [z06,hb,e6] using this
    ·subst ho
     have e6:z3i ⟨4,P,k,o,Nn,D⟩ D.length=false:=by
      simp[z3i]
      omega
     have:=hO (by simp[z06,hb,e6])
     simpa [z4d,hc,hk6,hm,hmb] using this
   ·have e6:z3i ⟨5,P,k,Of,Nn,D⟩ Nn=false:=by simp[z3i]
    have:=hO (by simp[z06,hb,e6])
    obtain⟨a,b⟩:s'=⟨s.There,s.Body,s.Handles.set c (s.Handles[c].set k (-1))⟩∧r=rsO:=by simpa [z4d,hc] using this
    subst a b
    exact zsy s c hc k hk6 P _ Of Nn D
 ·have k7:K=7:=by omega
  subst k7
  have:=hO (by simp[z06])
  obtain⟨a,b⟩:s'=s∧r=rsO:=by simpa [z4d] using this
  subst a b
  exact zi4 s' c P Hd Of Nn D
theorem z8f (s:St)(h:OkSt s)(cl:Int)(q:Op)(hD:z0c q.Data.length):FnC Try.prog 77 (gsT s) [vwT s,i64 cl,zr1 false q] (gsT (DoB s cl q).2.1) (z9w true (DoB s cl q).2.2):=by
 have hM:May s=true:=(zb7 s).2 h
 refine zsu s cl q _ _ (fun h1=>?_) (fun h1=>?_)
 ·have:DoB s cl q=(false,s,rsE 1):=by
   by_cases hn:z2b s cl=true
   ·simp only[DoB,if_pos hn]
   ·have hn':=hn
    simp only[z2b,hM,Bool.not_true,tw,qr,decide_eq_true_eq] at hn'
    have hk:q.Kind < 1∨8 < q.Kind:=by omega
    have hcd:z06 s (s.Handles.getD cl.toNat []) q=1:=by
     have a1:¬ q.Kind=1:=by omega
     have a2:¬ (q.Kind=2∨q.Kind=6∨q.Kind=8):=by omega
     have a3:¬ (q.Kind=3∨q.Kind=4∨q.Kind=5):=by omega
     have a4:¬ q.Kind=7:=by omega
     simp only[z06,if_neg a1,if_neg a2,if_neg a3,if_neg a4]
    simp only[DoB,if_neg hn,hcd]
    rfl
  rw[this]
  exact y0c s cl q
 ·obtain⟨c,rfl⟩:=pu (a:=cl) (by omega)
  have hc:c < s.Handles.length:=by omega
  obtain⟨a,b⟩:=zlb (q:=q) h hc
  exact zlc s h c hc q hD (by omega) _ _ a b
abbrev ywr:SL:=[(400,0,.bptr 4 1 0),(401,0,.sl true () 1 0 []),(402,0,.sl true () 1 0 []),(403,0,.sl true () 1 0 []),(499,1,.non)]
abbrev yws (a b c:AU):SL:=[(500,0,.bptr 5 1 0),(501,0,a),(502,0,b),(503,0,c),(599,1,.non)]
abbrev rnA (n m i:Nat):SL:=[(0,0,i64 n),(100,0,i64 m)] ++ (ywr ++ (yws (.sl true () 1 i (List.replicate i (bl false))) (.sl true () 1 i (List.replicate i (str z16))) (.sl true () 1 0 []) ++ [(600,0,i64 i)]))
abbrev rnB (n m j:Nat):SL:=[(100,0,i64 m)] ++ (ywr ++ (yws (.sl true () 1 n (List.replicate n (bl false))) (.sl true () 1 n (List.replicate n (str z16))) (.sl true () 1 j (List.replicate j (sI true [-1,-1,-1,-1,-1,-1]))) ++ [(700,0,i64 j)]))
theorem z56 (p c:Int):FnC Try.prog 76 [] [i64 p,i64 c] [] (yob true (z0r p c)):=by
 refine wb x1c rfl ?_
 refine WL.sreg (by simp;rfl) (by simp;rfl) ?_
 refine WL.sreg (by simp;rfl) (by simp;rfl) ?_
 refine WL.seq (ni (z0u p c) ([(0,0,i64 p),(100,0,i64 c)] ++ (ywr ++ (yws (.sl true () 1 0 []) (.sl true () 1 0 []) (.sl true () 1 0 []) ++ [(2100,0,bl (z0u p c))]))) ?_ (by simp) (fun h=>?_) (fun h=>WL.skip ?_))
 ·by_cases h1:p < 1
  ·simp[z0u,h1]
  by_cases h2:48 < p
  ·simp[z0u,h1,h2]
  by_cases h3:c < 1
  ·simp[z0u,h1,h2,h3]
  by_cases h4:6 < c
  ·simp[z0u,h1,h2,h3,h4]
  ·simp[z0u,h1,h2,h3,h4]
 ·refine WL.sreg (by simp;rfl) (by simp;rfl) (WL.ret ⟨.inr rfl,?_⟩)
  simp[ysw,z0r,h]
 simp only[z0u,qm,decide_eq_false_iff_not] at h
 obtain⟨n,rfl⟩:=pu (a:=p) (by omega)
 obtain⟨m,rfl⟩:=pu (a:=c) (by omega)
 have hn:n≤48:=by omega
 have hm:m≤6:=by omega
 have hst:z0r n m=⟨List.replicate n false,List.replicate n (List.replicate 16 0),List.replicate m [-1,-1,-1,-1,-1,-1]⟩:=by
  unfold z0r
  rw[if_neg]
  ·rfl
  ·simp only[z0u,qr,decide_eq_true_eq];omega
 rw[hst]
 refine WL.seq (WL.sreg (by simp;rfl) (by simp;rfl) ?_)
 refine WL.block (wd n (fun i=>rnA n m i) (fun _=>True) (by simp) trivial fun i hi _=>?_)
 by_cases h:i < n
 ·refine WL.seq (WL.sreg (by simp[h];rfl) (by simp;rfl) ?_)
  refine WL.cond (t:=true) (by simp[h]) (fun _=>WL.skip ?_) (by simp)
  have hm0:i+1≤140737488355328:=by omega
  have hm1:(i+1) * 16≤140737488355328:=by omega
  have hm2:i+1≤maxLen:=by unfold maxLen;omega
  refine WL.seq (WL.block (WL.draw z0p (by simp[z05,noH]) (DL.o (by simp[hm0,hm1,hm2];exact⟨rfl,rfl⟩) (DL.call0 false zdz (by simp) (by simp) (DL.o (by simp[hm0,hm1,hm2];exact⟨rfl,rfl⟩) (DL.nil ⟨by kernel_rfl,_,by simp;rfl,?_⟩))))))
  have hs:z0c n:=by unfold z0c;omega
  refine WL.reg (RL.run (by simp[z0o hs h];rfl) ⟨_,by simp;rfl,h,?_,trivial⟩)
  simp[← z50]
  exact⟨pr (by simp),pr (by simp)⟩
 ·refine WL.seq (WL.sreg (by simp[h];rfl) (by simp;rfl) ?_)
  refine WL.cond (t:=false) (by simp[h]) (by simp) fun _=>WL.exit ?_
  obtain rfl:i=n:=by omega
  refine WL.seq (WL.sreg (by simp;rfl) (by simp;rfl) ?_)
  refine WL.block (wd m (fun j=>rnB i m j) (fun _=>True) (by simp) trivial fun j hj _=>?_)
  by_cases h:j < m
  ·have hs:z0c m:=by unfold z0c;omega
   refine WL.seq (WL.sreg (by simp[h];rfl) (by simp;rfl) ?_)
   refine WL.cond (t:=true) (by simp[h]) (fun _=>WL.skip ?_) (by simp)
   have hm1:(j+1) * 24≤140737488355328:=by omega
   have hm2:j+1≤maxLen:=by unfold maxLen;omega
   refine WL.seq (WL.block (WL.reg (RL.run (by simp[hm1,hm2];rfl) ⟨_,by simp;rfl,?_⟩)))
   refine WL.reg (RL.run (by simp[z0o hs h];rfl) ⟨_,by simp;rfl,h,?_,trivial⟩)
   simp[← z50]
   exact pr (by simp)
  ·refine WL.seq (WL.sreg (by simp[h];rfl) (by simp;rfl) ?_)
   refine WL.cond (t:=false) (by simp[h]) (by simp) fun _=>WL.exit ?_
   obtain rfl:j=m:=by omega
   refine WL.sreg (by simp;rfl) (by simp;rfl) (WL.ret ⟨.inr rfl,?_⟩)
   simp[ysw,z16]
theorem zt1 {n m:Nat}(hn:1≤n)(hn':n≤48)(hm:1≤m)(hm':m≤6):z0r n m=⟨List.replicate n false,List.replicate n (List.replicate 16 0),List.replicate m [-1,-1,-1,-1,-1,-1]⟩:=by
 unfold z0r
 rw[if_neg]
 ·rfl
 ·simp only[z0u,qr,decide_eq_true_eq];omega
theorem zt2 {n m:Nat}(hn:1≤n)(hn':n≤48)(hm:1≤m)(hm':m≤6):OkSt (z0r n m):=by
 rw[zt1 hn hn' hm hm']
 refine⟨by simpa using hn,by simpa using hn',by simp,by simpa using hm,by simpa using hm',fun b hb=>?_,fun i hi _=>?_,fun l hl=>?_,fun l hl p hp=>?_⟩
 ·rw[t7 hb];rfl
 ·simp
 ·rw[t7 hl];rfl
 ·rw[t7 hl] at hp
  left
  simpa using hp
theorem x20 (r:Rs):z12 (z9w true r)=true:=by
 show z20 [i64 r.Code,i64 r.Page,i64 r.Handle,sU true r.Data]=true
 simp[z12,z20,zg3]
theorem zbi (s s':St)(r:Rs):z17 true (gsT s) (gsT s') (z9w true r)=true:=by
 have e1:z12 (sB true s'.There:AU)=true:=by simp only[z12,ywp,rr]
 have e2:z12 (sS true s'.Body:AU)=true:=by simp only[z12,ywq,rr]
 have e3:z12 (sII true s'.Handles:AU)=true:=by simp only[z12,zsv,rr]
 have e4:z12 (z9w true r)=true:=x20 r
 simp only[z17,List.all_cons,List.all_nil,z5g,e1,e2,e3,e4]
 simp
structure Ev where
 Client:Int
 op:Op
 res:Rs
 Begin:Int
 Stamp:Int
 End:Int
 deriving DecidableEq
abbrev z02 (o r:Bool)(e:Ev):List AU:=[i64 e.Client,i64 e.op.Kind,i64 e.op.Page,i64 e.op.Handle,i64 e.op.Off,i64 e.op.N,sU o e.op.Data,i64 e.res.Code,i64 e.res.Page,i64 e.res.Handle,sU r e.res.Data,i64 e.Begin,i64 e.Stamp,i64 e.End]
abbrev sEv (l:List Ev):AU:=.sl false () 14 l.length (l.flatMap (z02 false false))
theorem z0y {o r:Bool}{l:List Ev}{i:Nat}(h:i < l.length):(l.flatMap (z02 o r)).drop (i * 14)=z02 o r l[i] ++ (l.drop (i+1)).flatMap (z02 o r):=by
 induction l generalizing i with
 | nil=>simp at h
 | cons a l ih =>
  cases i with
  | zero=>simp [sj]
  | succ i =>
   rw[sj,List.drop_append,rt (by simp;omega)]
   have:(i+1) * 14 - (z02 o r a).length=i * 14:=by simp;omega
   rw[this,ih (by simpa using h)]
   simp
theorem z2l (o r:Bool)(l:List Ev):(l.flatMap (z02 o r)).length=l.length * 14:=by
 induction l with
 | nil=>rfl
 | cons a l ih=>rw [sj,qy,ih];simp;omega
def zbj (l:List Ev)(x:Int):Int:=(l.map (·.Stamp)).getD x.toNat 0
def z9y (l:List Ev)(n:Nat):List Int:=((List.range n).filter fun i=>decide (0 < (l.map (·.Stamp)).getD i 0)).map fun i=>Int.ofNat i
def yoe (l:List Ev):List Int:=z9y l l.length
def z0s (l:List Ev):List Int:=zbb (zbj l) (yoe l)
theorem zbk (l:List Ev)(n:Nat):z9y l (n+1)=z9y l n ++ (if 0 < (l.map (·.Stamp)).getD n 0 then [(n:Int)] else []):=by
 simp only[z9y,List.range_succ,List.filter_append,r6]
 congr 1
 by_cases h:0 < (l.map (·.Stamp)).getD n 0
 ·simp only[List.filter_cons,List.filter_nil,h,decide_true,if_true];rfl
 ·simp only[List.filter_cons,List.filter_nil,h,decide_false,if_false];rfl
theorem z9z {l:List Ev}{n:Nat}{x:Int}(h:x ∈ z9y l n):∃ i:Nat,i < n∧x=i∧0 < (l.map (·.Stamp)).getD i 0:=by
 simp only[z9y,s7,List.mem_filter,qw,decide_eq_true_eq] at h
 obtain⟨i,⟨h1,h2⟩,rfl⟩:=h
 exact⟨i,h1,rfl,h2⟩
theorem za0 (l:List Ev)(n:Nat):(z9y l n).Pairwise (· < ·):=by
 unfold z9y
 rw[List.pairwise_map]
 refine List.Pairwise.imp ?_ (List.Pairwise.filter _ List.pairwise_lt_range)
 intro a b h
 exact Int.ofNat_lt.2 h
theorem za1 (l:List Ev)(n:Nat):(z9y l n).length≤n:=by
 unfold z9y
 rw[r5]
 exact b8 (List.length_filter_le _ _) (by simp)
theorem zt3 {l:List Ev}{x:Int}(h:x ∈ z0s l):∃ i:Nat,i < l.length∧x=i∧0 < (l.map (·.Stamp)).getD i 0 :=
 z9z ((z68 (zbj l) (za0 l _)).1.subset h)
theorem z3z (l:List Ev):(z0s l).length≤l.length:=by
 have:=(z68 (zbj l) (za0 l l.length)).1.length_eq
 unfold z0s yoe
 rw[this];exact za1 l _
def toF (L:List Int)(k:Nat):Int:=L.getD k 0
theorem zuu (L:List Int):(rF (toF L) L.length:AU)=sI true L:=by
 show AV.sl true () 1 L.length (tF (toF L) L.length)=_
 congr 1
 apply List.ext_getElem
 ·simp
 ·intro i h1 h2
  have:i < L.length:=by simpa using h2
  simp[toF,this]
theorem zpi (L:List Int):seg (toF L) 0 L.length=L:=by
 apply List.ext_getElem
 ·simp[ze1]
 ·intro i h1 h2
  simp[seg,toF,h2]
theorem yhz (key:Int→Int){L:List Int}(hL:L.Pairwise (· < ·)):SM key (toF L) 0 L.length (toF (zbb key L)):=by
 obtain⟨h1,h2⟩:=z68 key hL
 have hl:=h1.length_eq
 refine⟨fun k hk=>?_,?_,fun i j _ hij hj=>?_⟩
 ·have e1:L.length≤k:=by omega
  simp[toF,pk,qq e1,qq (by omega:(zbb key L).length≤k)]
 ·rw[Nat.sub_zero,zpi]
  have:=zpi (zbb key L)
  rw[hl] at this
  rw[this];exact h1
 ·have:=List.pairwise_iff_getElem.1 h2 i j (by omega) (by omega) hij
  simpa [toF,pk,show i < (zbb key L).length by omega,show j < (zbb key L).length by omega] using this
theorem y0h {key:Int→Int}{g:Nat}{cs:List AU}(L:List Int)(hL:L.Pairwise (· < ·))(hn:L.length≤100000000)(hcl:zuq key (· ∈ L) g cs) :
  FnC Try.prog 91 [.nod (sI true L)] [.view 1000000 0 [] 0 L.length,.clos g [.vptr () cs]] [.nod (sI true (zbb key L))] (.tuple []):=by
 have hc:=zpd hcl (toF L) L.length hn (fun k hk=>by simp[toF,hk]) (fun i j hij hj=>by
  have:=List.pairwise_iff_getElem.1 hL i j (by omega) hj hij
  simpa [toF,pk,show i < L.length by omega,hj] using this) _ (yhz key hL)
 have hlen:=(z68 key hL).1.length_eq
 have e2:=zuu (zbb key L)
 rw[hlen] at e2
 rw[zuu,e2] at hc
 refine wb x1t rfl ?_
 refine WL.reg (RL.o (by simp;rfl) (wn false [(1000000,[])] hc (by simp) (by simp) (by simp[z31]) (by simp) (by simp[hlen]) (RL.nil ⟨_,by simp;rfl,.inl rfl,?_⟩)))
 simp[x0d]
theorem x21:Ty Try.prog 23 (List Int) (fun l=>[sI false l]) (fun l=>l.length≤9223372036854775807) :=
 (Ty.slice (s:=1) Try.underlying23 (by kernel_rfl) (by decide) (fun _=>rfl) ty3).map id (fun l=>by rw[z77];rfl) (fun l h=>h.1)
theorem x0g:TyA Try.prog 23 (List Int) (fun l=>sI false l) (fun l=>l.length≤9223372036854775807):=TyA.slice Try.underlying23 x21
def ywt:Cd:=(.seq (.reg [0,1,2,12,13] [.call none 13 66 [],.o [.asg 6 (.t 13)]]) .ret)
def ywu:Cd:=(.cond (.t 12) ywt .skip)
def ywv:Cd:=(.cond (.t 17) .skip (.exit 0))
def yww:Cd:=(.seq (.reg [0,1,2,7,27,28] [.call none 28 66 [],.o [.asg 6 (.t 28)]]) .ret)
def ywx:Cd:=(.cond (.t 27) yww .skip)
def ywy:Cd:=(.reg [27,18,19] [.o [.mov 18 (.t 7),.bin 19 .add (.t 18) (cI 1),.asg 7 (.t 19)]])
def ywz:Cd:=(.seq (.block 1 (.seq (.reg [17,20,21,22,23,24,25,26] [.o [.mov 20 (.t 0),.mov 21 (.t 7),.iaddr 22 7 (.t 20) (.t 21),.faddr 23 1 (.t 22),.faddr 24 5 (.t 23),.ld 25 1 false (.t 24),.len 26 (.t 25),.bin 27 .gtr (.t 26) (cI 40)]]) ywx)) ywy)
def yx0:Cd:=(.seq (.seq (.reg [14,15,16] [.o [.mov 14 (.t 7),.mov 15 (.t 0),.len 16 (.t 15),.bin 17 .lss (.t 14) (.t 16)]]) ywv) ywz)
def yx1:Cd:=(.block 0 (.loop yx0))
def yx2:Cd:=(.seq (.reg [8,9,35,36,37,38,39,40,41,42,43,44,45] [.call none 35 66 [],.o [.mov 36 (.t 35)],.g 36 true [.mov 37 (.t 8),.mov 38 (.t 9)],.call (some (36,true)) 39 69 [(.t 37),(cI 5),(cI 3),(.t 38)],.g 36 true [.mov 40 (.t 8),.mov 41 (.t 9)],.call (some (36,true)) 42 71 [(.t 41)],.call (some (36,true)) 43 70 [(.t 40),(cI 5),(cI 3),(.t 42)],.g 36 true [.bin 44 .eql (.t 39) (.t 43)],.o [.pick 45 (.t 36) (.t 44) (cB false),.asg 6 (.t 45)]]) .ret)
def yi0:Cd:=(.seq (.reg [2,32,33,34] [.o [.mov 32 (.t 8),.mov 33 (.t 2)],.call none 34 72 [(.t 32),(.t 33)],.o [.asg 9 (.t 34)]]) yx2)
def zuv:Cd:=(.seq (.reg [0,1,7,14,15,16,17,29,30,31] [.o [.mov 29 (.t 0),.mov 30 (.t 1)],.call none 31 41 [(.t 29),(.t 30)],.o [.asg 8 (.t 31)]]) yi0)
def yi1:Cd:=(.seq (.seq (.reg [12] [.o [.asg 7 (cI 0)]]) yx1) zuv)
def yi2:Cd:=(.seq (.seq (.reg [10,11] [.o [.mov 10 (.t 0),.len 11 (.t 10),.bin 12 .gtr (.t 11) (cI 40)]]) ywu) yi1)
def y40:FI:=⟨46,3,[.t 6],(.seq (.reg [6] [.o [.asg 6 (cB false)]]) yi2)⟩
theorem x22:z1o Try.prog 18 y40:=⟨_,_,Try.func18,rfl,by kernel_rfl,by kernel_rfl,Try.call18⟩
def yx3:Cd:=(.seq (.reg [3,5,7,8,9,34] [.o [.asg 0 (cB false)]]) .ret)
def yx4:Cd:=(.cond (.t 34) yx3 .skip)
def yx5:Cd:=(.seq (.reg [3,5,7,8,9,37,38,39,40,41,42,43,44,45,46,47,48,49,50,51,52,53,54,55,56,57,58,59,60,61,62,63,64,65,66,67,68,69,70,71,72,73,74,75,76,77,78,79,80,81,82,83,84,85,86,87,88,89,90,91,92,93,94,95,96,97] [.o [.mov 37 (.t 7)],.call none 38 67 [(.t 37),(cI 1),(cI 1),(cI 0)],.o [.bin 39 .eql (.t 38) (cI 5),.mov 40 (.t 39)],.g 40 true [.mov 41 (.t 7),.slice 42 14 (.t 41) none (some (cI 1))],.call (some (40,true)) 43 67 [(.t 42),(cI 1),(cI 1),(cI 0)],.g 40 true [.bin 44 .eql (.t 43) (cI 0)],.o [.pick 45 (.t 40) (.t 44) (cB false),.mov 46 (.t 45)],.g 46 true [.mov 47 (.t 7),.mov 48 (.t 3),.bs1 49 1 (.t 48)],.call (some (46,true)) 50 69 [(.t 47),(cI 1),(cI 1),(.t 49)],.g 46 true [.bin 51 .eql (.t 50) (cI 0)],.o [.pick 52 (.t 46) (.t 51) (cB false),.mov 53 (.t 52)],.g 53 true [.mov 54 (.t 7),.mov 55 (.t 8),.bs1 56 1 (.t 55)],.call (some (53,true)) 57 69 [(.t 54),(cI 1),(cI 1),(.t 56)],.g 53 true [.bin 58 .eql (.t 57) (cI 1)],.o [.pick 59 (.t 53) (.t 58) (cB false),.mov 60 (.t 59)],.g 60 true [.mov 61 (.t 7),.slice 62 14 (.t 61) none (some (cI 1)),.mov 63 (.t 8),.bs1 64 1 (.t 63)],.call (some (60,true)) 65 69 [(.t 62),(cI 1),(cI 1),(.t 64)],.g 60 true [.bin 66 .eql (.t 65) (cI 0)],.o [.pick 67 (.t 60) (.t 66) (cB false),.mov 68 (.t 67)],.g 68 true [.mov 69 (.t 7),.mov 70 (.t 5),.bs1 71 1 (.t 70)],.call (some (68,true)) 72 69 [(.t 69),(cI 1),(cI 1),(.t 71)],.g 68 true [.bin 73 .eql (.t 72) (cI 1)],.o [.pick 74 (.t 68) (.t 73) (cB false),.mov 75 (.t 74)],.g 75 true [.mov 76 (.t 7),.mov 77 (.t 9),.bs1 78 1 (.t 77)],.call (some (75,true)) 79 69 [(.t 76),(cI 1),(cI 1),(.t 78)],.g 75 true [.bin 80 .eql (.t 79) (cI 1)],.o [.pick 81 (.t 75) (.t 80) (cB false),.mov 82 (.t 81)],.g 82 true [.mov 83 (.t 7),.slice 84 14 (.t 83) none (some (cI 1)),.mov 85 (.t 9),.bs1 86 1 (.t 85)],.call (some (82,true)) 87 69 [(.t 84),(cI 1),(cI 1),(.t 86)],.g 82 true [.bin 88 .eql (.t 87) (cI 0)],.o [.pick 89 (.t 82) (.t 88) (cB false),.mov 90 (.t 89)],.g 90 true [.mov 91 (.t 7),.slice 92 14 (.t 91) (some (cI 1)) none,.mov 93 (.t 3),.bs1 94 1 (.t 93)],.call (some (90,true)) 95 69 [(.t 92),(cI 1),(cI 1),(.t 94)],.g 90 true [.bin 96 .eql (.t 95) (cI (-1))],.o [.pick 97 (.t 90) (.t 96) (cB false),.asg 0 (.t 97)]]) .ret)
def yx6:Cd:=(.seq (.reg [34,35,36] [.o [.mov 35 (.t 9),.iaddr 36 1 (.t 35) (cI 20),.st 1 (.t 36) (.c (.sc (.int .u8 9)))]]) yx5)
def yx7:Cd:=(.seq (.seq (.reg [32,33] [.o [.mov 32 (.t 9),.len 33 (.t 32),.bin 34 .neq (.t 33) (cI 24)]]) yx4) yx6)
def yx8:Cd:=(.seq (.reg [29,30,31] [.o [.bs0 29 1,.mov 30 (.t 3),.app 31 1 1 (.t 29) (.t 30),.asg 9 (.t 31)]]) yx7)
def yx9:Cd:=(.seq (.reg [28] [.call none 28 75 [],.o [.asg 8 (.t 28)]]) yx8)
def yxa:Cd:=(.seq (.reg [1,2,25,26,27] [.o [.ld 25 14 true (.t 1),.ld 26 14 true (.t 2),.bsa 27 14 [(.t 25),(.t 26)],.asg 7 (.t 27)]]) yx9)
def yxb:Cd:=(.seq (.reg [20,21,22,19,23,24,6] [.o [.bsn 20 [(.c (.sc (.int .u8 48))),(.c (.sc (.int .u8 49))),(.c (.sc (.int .u8 50))),(.c (.sc (.int .u8 51))),(.c (.sc (.int .u8 52))),(.c (.sc (.int .u8 53))),(.c (.sc (.int .u8 54))),(.c (.sc (.int .u8 55))),(.c (.sc (.int .u8 56))),(.c (.sc (.int .u8 57))),(.c (.sc (.int .u8 97))),(.c (.sc (.int .u8 98))),(.c (.sc (.int .u8 99))),(.c (.sc (.int .u8 100))),(.c (.sc (.int .u8 101))),(.c (.sc (.int .u8 102)))],.cvb 21 20],.call none 22 113 [(cI 0),(.t 21)],.o [.mov 19 (.t 22),.ext 23 19 0,.ext 24 19 1,.asg 5 (.t 23),.asg 6 (.t 24)]]) yxa)
def yxc:Cd:=(.seq (.reg [15,16,14,17,18,4] [.o [.make 15 1 1 [(.sc (.int .u8 0))] (cI 16) (cI 16)],.call none 16 113 [(cI 0),(.t 15)],.o [.mov 14 (.t 16),.ext 17 14 0,.ext 18 14 1,.asg 3 (.t 17),.asg 4 (.t 18)]]) yxb)
def yi3:Cd:=(.seq (.reg [12,13] [.o [.build 12 [(.sc (.int .i64 0)),(.sc (.int .i64 0)),(.sc (.int .i64 0)),(.sc (.int .i64 0)),(.sc (.int .i64 0)),(.sc (.slice none 0 0))] [(0,1,(cI 6))],.build 13 [(.sc (.int .i64 0)),(.sc (.int .i64 0)),(.sc (.int .i64 0)),(.sc (.int .i64 0)),(.sc (.int .i64 0)),(.sc (.int .i64 0)),(.sc (.slice none 0 0)),(.sc (.int .i64 0)),(.sc (.int .i64 0)),(.sc (.int .i64 0)),(.sc (.slice none 0 0)),(.sc (.int .i64 0)),(.sc (.int .i64 0)),(.sc (.int .i64 0))] [(1,6,(.t 12)),(11,1,(cI 4)),(12,1,(cI 5)),(13,1,(cI 6))],.alloc 2 [(.sc (.int .i64 0)),(.sc (.int .i64 0)),(.sc (.int .i64 0)),(.sc (.int .i64 0)),(.sc (.int .i64 0)),(.sc (.int .i64 0)),(.sl true () 1 0 []),(.sc (.int .i64 0)),(.sc (.int .i64 0)),(.sc (.int .i64 0)),(.sl true () 1 0 []),(.sc (.int .i64 0)),(.sc (.int .i64 0)),(.sc (.int .i64 0))],.st 14 (.t 2) (.t 13)]]) yxc)
def yi4:Cd:=(.seq (.reg [10,11] [.o [.build 10 [(.sc (.int .i64 0)),(.sc (.int .i64 0)),(.sc (.int .i64 0)),(.sc (.int .i64 0)),(.sc (.int .i64 0)),(.sc (.slice none 0 0))] [(0,1,(cI 1))],.build 11 [(.sc (.int .i64 0)),(.sc (.int .i64 0)),(.sc (.int .i64 0)),(.sc (.int .i64 0)),(.sc (.int .i64 0)),(.sc (.int .i64 0)),(.sc (.slice none 0 0)),(.sc (.int .i64 0)),(.sc (.int .i64 0)),(.sc (.int .i64 0)),(.sc (.slice none 0 0)),(.sc (.int .i64 0)),(.sc (.int .i64 0)),(.sc (.int .i64 0))] [(1,6,(.t 10)),(11,1,(cI 1)),(12,1,(cI 2)),(13,1,(cI 3))],.alloc 1 [(.sc (.int .i64 0)),(.sc (.int .i64 0)),(.sc (.int .i64 0)),(.sc (.int .i64 0)),(.sc (.int .i64 0)),(.sc (.int .i64 0)),(.sl true () 1 0 []),(.sc (.int .i64 0)),(.sc (.int .i64 0)),(.sc (.int .i64 0)),(.sl true () 1 0 []),(.sc (.int .i64 0)),(.sc (.int .i64 0)),(.sc (.int .i64 0))],.st 14 (.t 1) (.t 11)]]) yi3)
def x0h:FI:=⟨98,0,[.t 0],(.seq (.reg [0] [.o [.asg 0 (cB false)]]) yi4)⟩
theorem x23:z1o Try.prog 66 x0h:=⟨_,_,Try.func66,rfl,by kernel_rfl,by kernel_rfl,Try.call66⟩
def yxd:Cd:=(.seq (.reg [9,17] [.o [.asg 8 (cI (-1))]]) .ret)
def yxe:Cd:=(.cond (.t 17) yxd .skip)
def yxf:Cd:=(.seq (.reg [9,17,18] [.o [.ld 18 1 false (.t 9),.asg 8 (.t 18)]]) .ret)
def yxg:Cd:=(.seq (.seq (.reg [10,16] [.o [.mov 16 (.t 10),.bin 17 .neq (.t 16) (cI 0)]]) yxe) yxf)
def yxh:Cd:=(.seq (.reg [1,2,4,7,11,12,13,14,15] [.o [.ld 11 1 false (.t 4),.mov 12 (.t 1),.mov 13 (.t 2),.mkf 14 114 [(.t 4),(.t 7),(.t 9)]],.call none 15 88 [(.t 11),(.t 12),(.t 13),(.t 14)],.o [.asg 10 (.t 15)]]) yxg)
def yxi:Cd:=(.seq (.reg [] [.o [.alloc 9 [(.sc (.int .i64 0))],.st 1 (.t 9) (cI 0)]]) yxh)
def yxj:FI:=⟨19,4,[.t 8],(.seq (.reg [0,3,8] [.o [.box 4 (.t 0),.box 7 (.t 3),.asg 8 (cI 0)]]) yxi)⟩
theorem x24:z1o Try.prog 67 yxj:=⟨_,_,Try.func67,rfl,by kernel_rfl,by kernel_rfl,Try.call67⟩
def yxk:Cd:=(.seq (.reg [0,1,2,3,18] [.o [.asg 8 (cI (-1))]]) .ret)
def yxl:Cd:=(.cond (.t 18) yxk .skip)
def yxm:Cd:=(.cond (.t 27) .skip (.exit 0))
def yxn:Cd:=(.reg [80,81,82,83,84] [.o [.mov 81 (.t 11),.faddr 82 12 (.t 13),.ld 83 1 false (.t 82),.mx 84 true (.t 81) (.t 83),.asg 11 (.t 84)]])
def y0i:Cd:=(.cond (.t 80) yxn .skip)
def zt4:Cd:=(.reg [13,80,85,86,87] [.o [.ld 85 3 true (.t 9),.ld 86 14 true (.t 13)],.call none 87 115 [(.t 85),(.t 86)]])
def y0j:Cd:=(.seq (.seq (.reg [37,38,39,40,41,42,43,44,45,46,47,48,49,50,51,52,53,54,55,56,57,58,59,60,61,62,63,64,65,66,67,68,69,70,71,72,73,74,75,76,77,78,79] [.o [.faddr 37 13 (.t 13),.ld 38 1 false (.t 37),.bin 39 .gtr (.t 38) (cI 0),.mov 40 (.t 39)],.g 40 true [.faddr 41 7 (.t 13),.faddr 42 0 (.t 41),.ld 43 1 false (.t 42),.bin 44 .eql (.t 43) (cI 0)],.o [.pick 45 (.t 40) (.t 44) (cB false),.mov 46 (.t 45)],.g 46 true [.faddr 47 1 (.t 13),.faddr 48 0 (.t 47),.ld 49 1 false (.t 48),.bin 50 .eql (.t 49) (cI 6),.mov 51 (.t 50)],.g 51 true [.faddr 52 1 (.t 13),.faddr 53 1 (.t 52),.ld 54 1 false (.t 53),.mov 55 (.t 3),.bin 56 .eql (.t 54) (.t 55)],.g 46 true [.pick 57 (.t 51) (.t 56) (cB false),.mov 58 (.t 57)],.g 58 false [.faddr 59 1 (.t 13),.faddr 60 0 (.t 59),.ld 61 1 false (.t 60),.bin 62 .eql (.t 61) (cI 7),.mov 63 (.t 62)],.g 63 true [.mov 64 (.t 3),.bin 65 .geq (.t 64) (cI 0)],.g 58 false [.pick 66 (.t 63) (.t 65) (cB false),.mov 67 (.t 66)],.g 67 true [.mov 68 (.t 3),.mov 69 (.t 1),.bin 70 .lss (.t 68) (.t 69)],.g 58 false [.pick 71 (.t 67) (.t 70) (cB false),.mov 72 (.t 71)],.g 72 true [.faddr 73 0 (.t 9),.ld 74 1 false (.t 73),.mov 75 (.t 3),.iaddr 76 1 (.t 74) (.t 75),.ld 77 1 false (.t 76)],.g 58 false [.pick 78 (.t 72) (.t 77) (cB false)],.g 46 true [.pick 79 (.t 58) (cB true) (.t 78)],.o [.pick 80 (.t 46) (.t 79) (cB false)]]) y0i) zt4)
def yi5:Cd:=(.reg [28,29] [.o [.mov 28 (.t 12),.bin 29 .add (.t 28) (cI 1),.asg 12 (.t 29)]])
def yxo:Cd:=(.seq (.block 1 (.seq (.reg [27,30,31,32,33,34,35,36] [.o [.mov 30 (.t 0),.mov 31 (.t 10),.mov 32 (.t 12),.iaddr 33 1 (.t 31) (.t 32),.ld 34 1 false (.t 33),.iaddr 35 14 (.t 30) (.t 34),.ld 36 14 true (.t 35),.alloc 13 [(.sc (.int .i64 0)),(.sc (.int .i64 0)),(.sc (.int .i64 0)),(.sc (.int .i64 0)),(.sc (.int .i64 0)),(.sc (.int .i64 0)),(.sl true () 1 0 []),(.sc (.int .i64 0)),(.sc (.int .i64 0)),(.sc (.int .i64 0)),(.sl true () 1 0 []),(.sc (.int .i64 0)),(.sc (.int .i64 0)),(.sc (.int .i64 0))],.st 14 (.t 13) (.t 36)]]) y0j)) yi5)
def yxp:Cd:=(.seq (.seq (.reg [24,25,26] [.o [.mov 24 (.t 12),.mov 25 (.t 10),.len 26 (.t 25),.bin 27 .lss (.t 24) (.t 26)]]) yxm) yxo)
def yi6:Cd:=(.block 0 (.loop yxp))
def zuw:Cd:=(.seq (.reg [0,1,3,9,10,11,12,24,25,26,27,88] [.o [.mov 88 (.t 11),.asg 8 (.t 88)]]) .ret)
def yi7:Cd:=(.seq (.seq (.reg [] [.o [.asg 12 (cI 0)]]) yi6) zuw)
def yi8:Cd:=(.seq (.reg [] [.o [.asg 11 (cI 0)]]) yi7)
def yi9:Cd:=(.seq (.reg [22,23] [.o [.mov 22 (.t 0)],.call none 23 34 [(.t 22)],.o [.asg 10 (.t 23)]]) yi8)
def yia:Cd:=(.seq (.reg [2,18,19,20,21] [.o [.mov 19 (.t 1),.mov 20 (.t 2)],.call none 21 76 [(.t 19),(.t 20)],.o [.alloc 9 [(.sl true () 1 0 []),(.sl true () 1 0 []),(.sl true () 1 0 [])],.st 3 (.t 9) (.t 21)]]) yi9)
def yib:Cd:=(.seq (.seq (.reg [14,15,16,17] [.o [.mov 14 (.t 0),.mov 15 (.t 1),.mov 16 (.t 2)],.call none 17 35 [(.t 14),(.t 15),(.t 16)],.o [.bin 18 .neq (.t 17) (cI 0)]]) yxl) yia)
def zjw:FI:=⟨89,4,[.t 8],(.seq (.reg [8] [.o [.asg 8 (cI 0)]]) yib)⟩
theorem x25:z1o Try.prog 68 zjw:=⟨_,_,Try.func68,rfl,by kernel_rfl,by kernel_rfl,Try.call68⟩
def yxq:Cd:=(.seq (.reg [0,1,2,3,26] [.o [.asg 8 (cI (-1))]]) .ret)
def yxr:Cd:=(.cond (.t 26) yxq .skip)
def yxs:Cd:=(.seq (.reg [0,1,2,27,28,29,9,75,76,77] [.o [.mov 76 (.t 9),.bin 77 .add (.t 76) (cI 1),.asg 8 (.t 77)]]) .ret)
def yic:Cd:=(.cond (.t 75) yxs .skip)
def yid:Cd:=(.seq (.reg [15,74] [.o [.mov 74 (.t 15),.un 75 .not (.t 74)]]) yic)
def yxt:Cd:=(.seq (.reg [11,12,13,14,51,52,53,54,55,56,57,58,59,60,61,62,63,64,65,66,67,68,69,70,71,72,73] [.o [.mov 51 (.t 14),.bin 52 .eql (.t 51) (cI 0),.mov 53 (.t 52)],.g 53 true [.ld 54 2 true (.t 12),.mov 55 (.t 13)],.call (some (53,true)) 56 118 [(.t 54),(.t 55)],.o [.pick 57 (.t 53) (.t 56) (cB false),.mov 58 (.t 57)],.g 58 false [.mov 59 (.t 14),.bin 60 .eql (.t 59) (cI 11),.mov 61 (.t 60)],.g 61 true [.mov 62 (.t 11),.bin 63 .eql (.t 62) (cI 0)],.g 58 false [.pick 64 (.t 61) (.t 63) (cB false)],.o [.pick 65 (.t 58) (cB true) (.t 64),.mov 66 (.t 65)],.g 66 false [.mov 67 (.t 14),.bin 68 .eql (.t 67) (cI 10),.mov 69 (.t 68)],.g 69 true [.faddr 70 1 (.t 12),.ld 71 1 false (.t 70)],.g 66 false [.pick 72 (.t 69) (.t 71) (cB false)],.o [.pick 73 (.t 66) (cB true) (.t 72),.asg 15 (.t 73)]]) yid)
def yxu:Cd:=(.seq (.reg [10,46,47,48,45,49,50] [.o [.mov 46 (.t 9),.mov 47 (.t 10)],.call none 48 117 [(.t 46),(.t 47)],.o [.mov 45 (.t 48),.ext 49 45 0,.ext 50 45 1,.asg 13 (.t 49),.asg 14 (.t 50)]]) yxt)
def yxv:Cd:=(.seq (.reg [39,40,41,42,43,44] [.o [.mov 39 (.t 0),.mov 40 (.t 1),.mov 41 (.t 2),.mov 42 (.t 9),.mov 43 (.t 11)],.call none 44 116 [(.t 39),(.t 40),(.t 41),(.t 42),(.t 43)],.o [.alloc 12 [(.sl true () 1 0 []),(.sc (.bool false))],.st 2 (.t 12) (.t 44)]]) yxu)
def yie:Cd:=(.seq (.reg [34,35,36,37,38] [.o [.mov 34 (.t 0),.mov 35 (.t 1),.mov 36 (.t 2),.mov 37 (.t 9)],.call none 38 67 [(.t 34),(.t 35),(.t 36),(.t 37)],.o [.asg 11 (.t 38)]]) yxv)
def yxw:Cd:=(.reg [9,75,78] [.o [.bin 78 .add (.t 29) (cI 1),.mov 29 (.t 78)]])
def yif:Cd:=(.seq (.block 1 (.seq (.reg [30,31,32,33] [.o [.mov 31 (.t 29),.iaddr 32 1 (.t 27) (.t 29),.ld 33 1 false (.t 32),.asg 9 (.t 31),.asg 10 (.t 33)]]) yie)) yxw)
def yig:Cd:=(.seq (.cond (.t 30) .skip (.exit 0)) yif)
def yih:Cd:=(.seq (.reg [] [.o [.bin 30 .lss (.t 29) (.t 28)]]) yig)
def yii:Cd:=(.block 0 (.loop yih))
def yij:Cd:=(.seq (.reg [0,1,2,27,28,29,30] [.o [.asg 8 (cI 0)]]) .ret)
def yik:Cd:=(.seq (.seq (.reg [3,26] [.o [.mov 27 (.t 3),.len 28 (.t 27),.mov 29 (cI 0)]]) yii) yij)
def yil:Cd:=(.seq (.seq (.reg [16,17,18,19,20,21,22,23,24,25] [.o [.mov 16 (.t 0),.mov 17 (.t 1),.mov 18 (.t 2)],.call none 19 28 [(.t 16),(.t 17),(.t 18)],.o [.bin 20 .neq (.t 19) (cI 0),.mov 21 (.t 20)],.g 21 false [.mov 22 (.t 3),.len 23 (.t 22),.mov 24 (.t 1),.bin 25 .neq (.t 23) (.t 24)],.o [.pick 26 (.t 21) (cB true) (.t 25)]]) yxr) yik)
def zt5:FI:=⟨79,4,[.t 8],(.seq (.reg [8] [.o [.asg 8 (cI 0)]]) yil)⟩
theorem x26:z1o Try.prog 69 zt5:=⟨_,_,Try.func69,rfl,by kernel_rfl,by kernel_rfl,Try.call69⟩
def yxx:Cd:=(.seq (.reg [0,1,2,3,20] [.o [.asg 8 (cI (-1))]]) .ret)
def yxy:Cd:=(.cond (.t 20) yxx .skip)
def yxz:Cd:=(.cond (.t 23) .skip (.exit 0))
def yy0:Cd:=(.seq (.reg [0,1,2,3,9,35,36,37] [.o [.mov 36 (.t 9),.bin 37 .add (.t 36) (cI 1),.asg 8 (.t 37)]]) .ret)
def yy1:Cd:=(.cond (.t 35) yy0 .skip)
def yy2:Cd:=(.reg [35,24,25] [.o [.mov 24 (.t 9),.bin 25 .add (.t 24) (cI 1),.asg 9 (.t 25)]])
def yy3:Cd:=(.seq (.block 1 (.seq (.reg [23,26,27,28,29,30,31,32,33,34] [.o [.mov 26 (.t 0),.mov 27 (.t 1),.mov 28 (.t 2),.mov 29 (.t 9),.mov 30 (.t 3),.mov 31 (.t 9),.iaddr 32 1 (.t 30) (.t 31),.ld 33 1 false (.t 32)],.call none 34 119 [(.t 26),(.t 27),(.t 28),(.t 29),(.t 33)],.o [.un 35 .not (.t 34)]]) yy1)) yy2)
def yy4:Cd:=(.seq (.seq (.reg [21,22] [.o [.mov 21 (.t 9),.mov 22 (.t 1),.bin 23 .lss (.t 21) (.t 22)]]) yxz) yy3)
def yy5:Cd:=(.block 0 (.loop yy4))
def yy6:Cd:=(.seq (.reg [0,1,2,3,9,21,22,23] [.o [.asg 8 (cI 0)]]) .ret)
def yim:Cd:=(.seq (.seq (.reg [20] [.o [.asg 9 (cI 0)]]) yy5) yy6)
def yin:Cd:=(.seq (.seq (.reg [10,11,12,13,14,15,16,17,18,19] [.o [.mov 10 (.t 0),.mov 11 (.t 1),.mov 12 (.t 2)],.call none 13 35 [(.t 10),(.t 11),(.t 12)],.o [.bin 14 .neq (.t 13) (cI 0),.mov 15 (.t 14)],.g 15 false [.mov 16 (.t 3),.len 17 (.t 16),.mov 18 (.t 1),.bin 19 .neq (.t 17) (.t 18)],.o [.pick 20 (.t 15) (cB true) (.t 19)]]) yxy) yim)
def y41:FI:=⟨38,4,[.t 8],(.seq (.reg [8] [.o [.asg 8 (cI 0)]]) yin)⟩
theorem x27:z1o Try.prog 70 y41:=⟨_,_,Try.func70,rfl,by kernel_rfl,by kernel_rfl,Try.call70⟩
def yy7:Cd:=(.cond (.t 8) .skip (.exit 0))
def yy8:Cd:=(.reg [9,10] [.o [.mov 9 (.t 4),.bin 10 .add (.t 9) (cI 1),.asg 4 (.t 10)]])
def yy9:Cd:=(.seq (.block 1 (.reg [8,11,12,13,14,15,16,17,18] [.o [.mov 11 (.t 3),.mov 12 (.t 0),.mov 13 (.t 4),.iaddr 14 1 (.t 12) (.t 13),.ld 15 1 false (.t 14),.b2s 16 (.t 15),.bs1 17 1 (.t 16),.app 18 1 16 (.t 11) (.t 17),.asg 3 (.t 18)]])) yy8)
def yya:Cd:=(.seq (.seq (.reg [5,6,7] [.o [.mov 5 (.t 4),.mov 6 (.t 0),.len 7 (.t 6),.bin 8 .lss (.t 5) (.t 7)]]) yy7) yy9)
def yyb:Cd:=(.block 0 (.loop yya))
def yyc:Cd:=(.seq (.reg [0,3,4,5,6,7,8,19] [.o [.mov 19 (.t 3),.asg 2 (.t 19)]]) .ret)
def yyd:Cd:=(.seq (.seq (.reg [] [.o [.asg 4 (cI 0)]]) yyb) yyc)
def yye:Cd:=(.seq (.reg [] [.o [.asg 3 (.c (.sl true () 1 0 []))]]) yyd)
def x0i:FI:=⟨20,1,[.t 2],(.seq (.reg [2] [.o [.asg 2 (.c (.sl true () 1 0 []))]]) yye)⟩
theorem x28:z1o Try.prog 71 x0i:=⟨_,_,Try.func71,rfl,by kernel_rfl,by kernel_rfl,Try.call71⟩
def yyf:Cd:=(.cond (.t 16) .skip (.exit 0))
def yyg:Cd:=(.draw [[],[],[0,1],[2],[3],[],[5],[6],[7],[4,8],[9],[],[],[11,12],[13],[14],[15],[16],[17],[10,0,1,2,3,4,5,6,7,8,9,10],[18,19,0,1,2,3,4,5,6,7,8,9,10,11,12,13,14,15,16,17,18,19]] [24,25,26,27,28,29,30,31,32,33,34,35,36,37,38,39,40,41,42,43] [.o [.mov 25 (.t 1),.mov 26 (.t 6),.iaddr 27 1 (.t 25) (.t 26),.ld 28 1 false (.t 27),.conv 29 .u64 (.t 28),.mov 30 (.t 0),.len 31 (.t 30),.bin 32 .add (.t 31) (cI 1),.conv 33 .u64 (.t 32),.bin 34 .rem (.t 29) (.t 33),.conv 35 .i64 (.t 34),.mov 36 (.t 1),.mov 37 (.t 6),.iaddr 38 1 (.t 36) (.t 37),.ld 39 1 false (.t 38),.conv 40 .u64 (.t 39),.bin 41 .quo (.t 40) (.c (.sc (.int .u64 64))),.bin 42 .rem (.t 41) (.c (.sc (.int .u64 8))),.conv 43 .i64 (.t 42),.asg 7 (.t 35),.asg 8 (.t 43)]])
def yyh:Cd:=(.cond (.t 24) yyg .skip)
def yyi:Cd:=(.cond (.t 55) .skip (.exit 2))
def yyj:Cd:=(.reg [56,57] [.o [.mov 56 (.t 11),.bin 57 .add (.t 56) (cI 1),.asg 11 (.t 57)]])
def yyk:Cd:=(.seq (.block 3 (.draw [[],[],[],[],[2,3],[4],[1,5],[6],[7],[],[],[],[10,11],[12],[9,13],[14],[15],[0,8,16]] [55,58,59,60,61,62,63,64,65,66,67,68,69,70,71,72,73,74,75] [.o [.ld 58 3 true (.t 9),.mov 59 (.t 0),.mov 60 (.t 10),.mov 61 (.t 11),.iaddr 62 1 (.t 60) (.t 61),.ld 63 1 false (.t 62),.iaddr 64 14 (.t 59) (.t 63),.faddr 65 0 (.t 64),.ld 66 1 false (.t 65),.mov 67 (.t 0),.mov 68 (.t 10),.mov 69 (.t 11),.iaddr 70 1 (.t 68) (.t 69),.ld 71 1 false (.t 70),.iaddr 72 14 (.t 67) (.t 71),.faddr 73 1 (.t 72),.ld 74 6 true (.t 73)],.call none 75 77 [(.t 58),(.t 66),(.t 74)]])) yyj)
def yyl:Cd:=(.seq (.seq (.reg [47,48,49,50,51,52,53,54] [.o [.mov 47 (.t 11),.mov 48 (.t 10),.len 49 (.t 48),.bin 50 .lss (.t 47) (.t 49),.mov 51 (.t 50)],.g 51 true [.mov 52 (.t 11),.mov 53 (.t 7),.bin 54 .lss (.t 52) (.t 53)],.o [.pick 55 (.t 51) (.t 54) (cB false)]]) yyi) yyk)
def yym:Cd:=(.block 2 (.loop yyl))
def yyn:Cd:=(.reg [99,100] [.call none 100 74 [],.o [.asg 12 (.t 100)]])
def y0k:Cd:=(.cond (.t 99) yyn .skip)
def yio:Cd:=(.reg [104,105,106,107,108,109,110] [.o [.mov 105 (.t 14),.mov 106 (.t 14),.iaddr 107 1 (.t 106) (cI 23),.ld 108 1 false (.t 107),.bin 109 .xor (.t 108) (.c (.sc (.int .u8 1))),.iaddr 110 1 (.t 105) (cI 23),.st 1 (.t 110) (.t 109)]])
def yip:Cd:=(.cond (.t 104) yio .skip)
def zux:Cd:=(.reg [14,104,111,112,113,114] [.o [.mov 111 (.t 5),.mov 112 (.t 14),.bs1 113 1 (.t 112),.app 114 1 24 (.t 111) (.t 113),.asg 5 (.t 114)]])
def zuy:Cd:=(.seq (.seq (.reg [8,103] [.o [.mov 103 (.t 8),.bin 104 .eql (.t 103) (cI 6)]]) yip) zux)
def zjx:Cd:=(.seq (.reg [12,99,101,102] [.o [.mov 101 (.t 12),.s2b 102 (.t 101),.asg 14 (.t 102)]]) zuy)
def yiq:Cd:=(.seq (.seq (.reg [9,86,87,88,89,90,91,92,93,94,95,96,97,98] [.o [.mov 86 (.t 8),.bin 87 .eql (.t 86) (cI 7),.mov 88 (.t 87)],.g 88 false [.faddr 89 0 (.t 9),.ld 90 1 false (.t 89),.mov 91 (.t 6),.iaddr 92 1 (.t 90) (.t 91),.ld 93 1 false (.t 92),.un 94 .not (.t 93),.mov 95 (.t 94)],.g 95 true [.mov 96 (.t 8),.bin 97 .lss (.t 96) (cI 6)],.g 88 false [.pick 98 (.t 95) (.t 97) (cB false)],.o [.pick 99 (.t 88) (cB true) (.t 98)]]) y0k) zjx)
def zuz:Cd:=(.seq (.reg [7,10,11,47,48,49,50,51,52,53,54,55,77,78,79,80,81,82,83,76,84,85,13] [.o [.mov 77 (.t 6),.faddr 78 1 (.t 9),.ld 79 1 false (.t 78),.mov 80 (.t 6),.iaddr 81 1 (.t 79) (.t 80),.ld 82 1 false (.t 81)],.call none 83 73 [(.t 77),(.t 82)],.o [.mov 76 (.t 83),.ext 84 76 0,.ext 85 76 1,.asg 12 (.t 84),.asg 13 (.t 85)]]) yiq)
def zv0:Cd:=(.seq (.seq (.reg [] [.o [.asg 11 (cI 0)]]) yym) zuz)
def yir:Cd:=(.seq (.reg [45,46] [.o [.mov 45 (.t 0)],.call none 46 34 [(.t 45)],.o [.asg 10 (.t 46)]]) zv0)
def zv1:Cd:=(.seq (.reg [24,44] [.call none 44 76 [(cI 5),(cI 3)],.o [.alloc 9 [(.sl true () 1 0 []),(.sl true () 1 0 []),(.sl true () 1 0 [])],.st 3 (.t 9) (.t 44)]]) yir)
def yis:Cd:=(.seq (.seq (.reg [21,22,23] [.o [.mov 21 (.t 6),.mov 22 (.t 1),.len 23 (.t 22),.bin 24 .lss (.t 21) (.t 23)]]) yyh) zv1)
def yit:Cd:=(.seq (.reg [] [.o [.asg 8 (cI 0)]]) yis)
def zv2:Cd:=(.reg [17,18] [.o [.mov 17 (.t 6),.bin 18 .add (.t 17) (cI 1),.asg 6 (.t 18)]])
def yiu:Cd:=(.seq (.block 1 (.seq (.reg [16,19,20] [.o [.mov 19 (.t 0),.len 20 (.t 19),.asg 7 (.t 20)]]) yit)) zv2)
def yiv:Cd:=(.seq (.seq (.reg [15] [.o [.mov 15 (.t 6),.bin 16 .lss (.t 15) (cI 5)]]) yyf) yiu)
def yiw:Cd:=(.block 0 (.loop yiv))
def zv3:Cd:=(.seq (.reg [0,1,5,6,15,16,115] [.o [.mov 115 (.t 5),.asg 4 (.t 115)]]) .ret)
def yix:Cd:=(.seq (.seq (.reg [] [.o [.asg 6 (cI 0)]]) yiw) zv3)
def yiy:Cd:=(.seq (.reg [] [.o [.asg 5 (.c (.sl true () 1 0 []))]]) yix)
def zi5:FI:=⟨116,2,[.t 4],(.seq (.reg [4] [.o [.asg 4 (.c (.sl true () 1 0 []))]]) yiy)⟩
theorem x29:z1o Try.prog 72 zi5:=⟨_,_,Try.func72,rfl,by kernel_rfl,by kernel_rfl,Try.call72⟩
def yyo:Cd:=(.seq (.reg [0,1,17] [.o [.asg 4 (.c (.sc (.string ⟨#[]⟩))),.asg 5 (cI 1)]]) .ret)
def yyp:Cd:=(.cond (.t 17) yyo .skip)
def yyq:Cd:=(.seq (.reg [6,25,26,27,28,29] [.o [.mov 25 (.t 6)],.call none 26 121 [(.t 25)],.call none 27 120 [(.t 26),(cI 4)],.o [.mov 28 (.t 6),.bin 29 .add (.t 27) (.t 28),.asg 4 (.t 29),.asg 5 (cI 0)]]) .ret)
def yyr:Cd:=(.seq (.reg [0,1,17,18,19,20,21,22,23,24] [.o [.mov 18 (.t 0),.bin 19 .add (.t 18) (cI 1),.conv 20 .u32 (.t 19)],.call none 21 120 [(.t 20),(cI 2)],.o [.bin 22 .add (.t 21) (.c (.sc (.string ⟨#[90,165]⟩))),.mov 23 (.t 1),.bin 24 .add (.t 22) (.t 23),.asg 6 (.t 24)]]) yyq)
def yys:Cd:=(.seq (.seq (.reg [7,8,9,10,11,12,13,14,15,16] [.o [.mov 7 (.t 0),.bin 8 .lss (.t 7) (cI 0),.mov 9 (.t 8)],.g 9 false [.mov 10 (.t 0),.bin 11 .geq (.t 10) (cI 48)],.o [.pick 12 (.t 9) (cB true) (.t 11),.mov 13 (.t 12)],.g 13 false [.mov 14 (.t 1),.slen 15 (.t 14),.bin 16 .neq (.t 15) (cI 16)],.o [.pick 17 (.t 13) (cB true) (.t 16)]]) yyp) yyr)
def y42:FI:=⟨30,2,[.t 4,.t 5],(.seq (.reg [4,5] [.o [.asg 4 (.c (.sc (.string ⟨#[]⟩))),.asg 5 (cI 0)]]) yys)⟩
theorem x2a:z1o Try.prog 73 y42:=⟨_,_,Try.func73,rfl,by kernel_rfl,by kernel_rfl,Try.call73⟩
def yyt:Cd:=(.seq (.reg [1,2] [.o [.make 1 1 1 [(.sc (.int .u8 0))] (cI 24) (cI 24),.b2s 2 (.t 1),.asg 0 (.t 2)]]) .ret)
def x0j:FI:=⟨3,0,[.t 0],(.seq (.reg [0] [.o [.asg 0 (.c (.sc (.string ⟨#[]⟩)))]]) yyt)⟩
theorem x2b:z1o Try.prog 74 x0j:=⟨_,_,Try.func74,rfl,by kernel_rfl,by kernel_rfl,Try.call74⟩
def yyu:Cd:=(.seq (.reg [1] [.o [.make 1 1 1 [(.sc (.int .u8 0))] (cI 24) (cI 24),.asg 0 (.t 1)]]) .ret)
def x0k:FI:=⟨2,0,[.t 0],(.seq (.reg [0] [.o [.asg 0 (.c (.sl true () 1 0 []))]]) yyu)⟩
theorem x2c:z1o Try.prog 75 x0k:=⟨_,_,Try.func75,rfl,by kernel_rfl,by kernel_rfl,Try.call75⟩
def yiz:Cd:=(.seq (.reg [0,1,16] [.o [.asg 4 (.c (.sl true () 1 0 [])),.asg 5 (cI 1)]]) .ret)
def yj0:Cd:=(.cond (.t 16) yiz .skip)
def yj1:Cd:=(.reg [8,43,44,45,46,47,48,49,50,51] [.o [.mov 43 (.t 6),.mov 44 (.t 8),.mov 45 (.t 7),.mov 46 (.t 8),.bin 47 .mul (cI 8) (.t 46),.conv 48 .u64 (.t 47),.bin 49 .shr (.t 45) (.t 48),.conv 50 .u8 (.t 49),.iaddr 51 1 (.t 43) (.t 44),.st 1 (.t 51) (.t 50)]])
def yj2:Cd:=(.reg [52] [.o [.bin 52 .add (.t 40) (cI 1),.mov 40 (.t 52)]])
def yj3:Cd:=(.seq (.block 1 (.seq (.reg [41,42] [.o [.mov 42 (.t 40),.asg 8 (.t 42)]]) yj1)) yj2)
def yj4:Cd:=(.seq (.cond (.t 41) .skip (.exit 0)) yj3)
def yj5:Cd:=(.seq (.reg [] [.o [.bin 41 .lss (.t 40) (cI 4)]]) yj4)
def yj6:Cd:=(.block 0 (.loop yj5))
def yj7:Cd:=(.seq (.reg [6,7,40,41,53] [.o [.mov 53 (.t 6),.asg 4 (.t 53),.asg 5 (cI 0)]]) .ret)
def yj8:Cd:=(.seq (.seq (.reg [] [.o [.mov 40 (cI 0)]]) yj6) yj7)
def y0l:Cd:=(.seq (.reg [37,38,39] [.o [.mov 37 (.t 6),.slice 38 1 (.t 37) (some (cI 4)) none],.call none 39 153 [(.t 38)],.o [.asg 7 (.t 39)]]) yj8)
def y0m:Cd:=(.seq (.reg [1,33,34,35,36] [.o [.mov 33 (.t 6),.slice 34 1 (.t 33) (some (cI 8)) none,.mov 35 (.t 1),.cpy 36 1 (.t 34) (.t 35)]]) y0l)
def y0n:Cd:=(.seq (.reg [0,18,19,20,21,22,23,24,25,26,27,28,29,30,31,32] [.o [.mov 18 (.t 6),.mov 19 (.t 6),.mov 20 (.t 6),.mov 21 (.t 6),.mov 22 (.t 0),.bin 23 .add (.t 22) (cI 1),.conv 24 .u8 (.t 23),.mov 25 (.t 0),.bin 26 .add (.t 25) (cI 1),.bin 27 .shr (.t 26) (.c (.sc (.int .u64 8))),.conv 28 .u8 (.t 27),.iaddr 29 1 (.t 18) (cI 4),.st 1 (.t 29) (.t 24),.iaddr 30 1 (.t 19) (cI 5),.st 1 (.t 30) (.t 28),.iaddr 31 1 (.t 20) (cI 6),.st 1 (.t 31) (.c (.sc (.int .u8 90))),.iaddr 32 1 (.t 21) (cI 7),.st 1 (.t 32) (.c (.sc (.int .u8 165)))]]) y0m)
def y0o:Cd:=(.seq (.reg [16,17] [.call none 17 75 [],.o [.asg 6 (.t 17)]]) y0n)
def y0p:Cd:=(.seq (.seq (.reg [9,10,11,12,13,14,15] [.o [.mov 9 (.t 0)],.call none 10 152 [(.t 9)],.o [.un 11 .not (.t 10),.mov 12 (.t 11)],.g 12 false [.mov 13 (.t 1),.len 14 (.t 13),.bin 15 .neq (.t 14) (cI 16)],.o [.pick 16 (.t 12) (cB true) (.t 15)]]) yj0) y0o)
def zpj:FI:=⟨54,2,[.t 4,.t 5],(.seq (.reg [4,5] [.o [.asg 4 (.c (.sl true () 1 0 [])),.asg 5 (cI 0)]]) y0p)⟩
theorem yyv:z1o Try.prog 113 zpj:=⟨_,_,Try.func113,rfl,by kernel_rfl,by kernel_rfl,Try.call113⟩
def yj9:Cd:=(.reg [4,7,59,60,61,62,63] [.o [.ld 60 1 false (.t 4),.faddr 61 12 (.t 7),.ld 62 1 false (.t 61),.mx 63 true (.t 60) (.t 62),.st 1 (.t 4) (.t 63)]])
def zv4:Cd:=(.cond (.t 59) yj9 .skip)
def zpk:Cd:=(.seq (.reg [3,6,8,30,31,32,33,34,35,36,37,38,39,40,41,42,43,44,45,46,47,48,49,50,51,52,53,54,55,56,57,58] [.o [.mov 30 (.t 8),.mov 31 (.t 30)],.g 31 true [.faddr 32 13 (.t 7),.ld 33 1 false (.t 32),.bin 34 .gtr (.t 33) (cI 0)],.o [.pick 35 (.t 31) (.t 34) (cB false),.mov 36 (.t 35)],.g 36 true [.faddr 37 7 (.t 7),.faddr 38 0 (.t 37),.ld 39 1 false (.t 38),.bin 40 .eql (.t 39) (cI 0)],.o [.pick 41 (.t 36) (.t 40) (cB false),.mov 42 (.t 41)],.g 42 true [.ld 43 1 false (.t 3),.bin 44 .geq (.t 43) (cI 0)],.o [.pick 45 (.t 42) (.t 44) (cB false),.mov 46 (.t 45)],.g 46 true [.ld 47 1 false (.t 3),.faddr 48 0 (.t 6),.ld 49 1 false (.t 48),.len 50 (.t 49),.bin 51 .lss (.t 47) (.t 50)],.o [.pick 52 (.t 46) (.t 51) (cB false),.mov 53 (.t 52)],.g 53 true [.faddr 54 0 (.t 6),.ld 55 1 false (.t 54),.ld 56 1 false (.t 3),.iaddr 57 1 (.t 55) (.t 56),.ld 58 1 false (.t 57)],.o [.pick 59 (.t 53) (.t 58) (cB false)]]) zv4)
def yja:Cd:=(.seq (.reg [13,14,15,16,17,18,19,20,21,22,23,24,25,26,27,28,29] [.o [.faddr 13 1 (.t 7),.faddr 14 0 (.t 13),.ld 15 1 false (.t 14),.bin 16 .eql (.t 15) (cI 7),.mov 17 (.t 16)],.g 17 false [.faddr 18 1 (.t 7),.faddr 19 0 (.t 18),.ld 20 1 false (.t 19),.bin 21 .eql (.t 20) (cI 6),.mov 22 (.t 21)],.g 22 true [.faddr 23 1 (.t 7),.faddr 24 1 (.t 23),.ld 25 1 false (.t 24),.ld 26 1 false (.t 3),.bin 27 .eql (.t 25) (.t 26)],.g 17 false [.pick 28 (.t 22) (.t 27) (cB false)],.o [.pick 29 (.t 17) (cB true) (.t 28),.asg 8 (.t 29)]]) zpk)
def yjb:Cd:=(.seq (.reg [0,2,9,10,11,12] [.o [.ld 9 1 false (.t 2),.mov 10 (.t 0),.iaddr 11 14 (.t 9) (.t 10),.ld 12 14 true (.t 11),.alloc 7 [(.sc (.int .i64 0)),(.sc (.int .i64 0)),(.sc (.int .i64 0)),(.sc (.int .i64 0)),(.sc (.int .i64 0)),(.sc (.int .i64 0)),(.sl true () 1 0 []),(.sc (.int .i64 0)),(.sc (.int .i64 0)),(.sc (.int .i64 0)),(.sl true () 1 0 []),(.sc (.int .i64 0)),(.sc (.int .i64 0)),(.sc (.int .i64 0))],.st 14 (.t 7) (.t 12)]]) yja)
def zi6:FI:=⟨64,5,[],(.seq (.reg [1] [.o [.box 6 (.t 1)]]) yjb)⟩
theorem yyw:z1o Try.prog 114 zi6:=⟨_,_,Try.func114,rfl,by kernel_rfl,by kernel_rfl,Try.call114⟩
def yjc:Cd:=(.reg [2,3,15,16,17,18,19,20,21] [.o [.ld 16 3 true (.t 2),.faddr 17 0 (.t 3),.ld 18 1 false (.t 17),.faddr 19 1 (.t 3),.ld 20 6 true (.t 19)],.call none 21 77 [(.t 16),(.t 18),(.t 20)]])
def zv5:Cd:=(.cond (.t 15) yjc .skip)
def yjd:Cd:=(.seq (.reg [4,5,6,7,8,9,10,11,12,13,14] [.o [.faddr 4 13 (.t 3),.ld 5 1 false (.t 4),.bin 6 .eql (.t 5) (cI 0),.mov 7 (.t 6)],.g 7 false [.faddr 8 1 (.t 3),.ld 9 6 true (.t 8),.faddr 10 7 (.t 3),.faddr 11 0 (.t 10),.ld 12 1 false (.t 11)],.call (some (7,false)) 13 38 [(.t 9),(.t 12)],.g 7 false [.un 14 .not (.t 13)],.o [.pick 15 (.t 7) (cB true) (.t 14)]]) zv5)
def zpl:FI:=⟨22,2,[],(.seq (.reg [0,1] [.o [.box 2 (.t 0),.box 3 (.t 1)]]) yjd)⟩
theorem yyx:z1o Try.prog 115 zpl:=⟨_,_,Try.func115,rfl,by kernel_rfl,by kernel_rfl,Try.call115⟩
def yje:Cd:=(.reg [16,35,36,37,38,39,40,41,42,43,44,45,46,47,48] [.o [.faddr 35 1 (.t 11),.ld 36 1 false (.t 35),.mov 37 (.t 36)],.g 37 false [.faddr 38 12 (.t 16),.ld 39 1 false (.t 38),.bin 40 .eql (.t 39) (cI 0),.mov 41 (.t 40)],.g 41 true [.ld 42 14 true (.t 16),.ld 43 3 true (.t 13),.ld 44 1 false (.t 8)],.call (some (41,true)) 45 155 [(.t 42),(.t 43),(.t 44)],.g 37 false [.pick 46 (.t 41) (.t 45) (cB false)],.o [.pick 47 (.t 37) (cB true) (.t 46),.faddr 48 1 (.t 11),.st 1 (.t 48) (.t 47)]])
def zv6:Cd:=(.reg [49] [.o [.bin 49 .add (.t 31) (cI 1),.mov 31 (.t 49)]])
def yjf:Cd:=(.seq (.block 1 (.seq (.reg [32,33,34] [.o [.iaddr 33 14 (.t 29) (.t 31),.ld 34 14 true (.t 33),.alloc 16 [(.sc (.int .i64 0)),(.sc (.int .i64 0)),(.sc (.int .i64 0)),(.sc (.int .i64 0)),(.sc (.int .i64 0)),(.sc (.int .i64 0)),(.sl true () 1 0 []),(.sc (.int .i64 0)),(.sc (.int .i64 0)),(.sc (.int .i64 0)),(.sl true () 1 0 []),(.sc (.int .i64 0)),(.sc (.int .i64 0)),(.sc (.int .i64 0))],.st 14 (.t 16) (.t 34)]]) yje)) zv6)
def yjg:Cd:=(.seq (.cond (.t 32) .skip (.exit 0)) yjf)
def yjh:Cd:=(.seq (.reg [] [.o [.bin 32 .lss (.t 31) (.t 30)]]) yjg)
def yji:Cd:=(.block 0 (.loop yjh))
def zv7:Cd:=(.seq (.reg [8,11,13,29,30,31,32,50] [.o [.ld 50 2 true (.t 11),.st 2 (.t 10) (.t 50)]]) .ret)
def yjj:Cd:=(.seq (.seq (.reg [5] [.o [.ld 29 1 false (.t 5),.len 30 (.t 29),.mov 31 (cI 0)]]) yji) zv7)
def yjk:Cd:=(.seq (.reg [1,2,23,24,25,26,22,27,28,14] [.o [.ld 23 1 false (.t 5),.mov 24 (.t 1),.mov 25 (.t 2)],.call none 26 30 [(.t 23),(.t 24),(.t 25)],.o [.mov 22 (.t 26),.ext 27 22 0,.ext 28 22 1,.alloc 13 [(.sl true () 1 0 []),(.sl true () 1 0 []),(.sl true () 1 0 [])],.st 3 (.t 13) (.t 27),.asg 14 (.t 28)]]) yjj)
def yjl:Cd:=(.seq (.reg [9,12,17,18,19,20,21] [.o [.ld 17 1 false (.t 5),.mov 18 (.t 1),.mov 19 (.t 2),.mkf 20 154 [(.t 5),(.t 9),(.t 8),(.t 11),(.t 12)]],.call none 21 88 [(.t 17),(.t 18),(.t 19),(.t 20)]]) yjk)
def y0q:Cd:=(.seq (.reg [] [.o [.alloc 12 [(.sc (.bool false))],.st 1 (.t 12) (cB false)]]) yjl)
def y0r:Cd:=(.seq (.reg [] [.o [.alloc 11 [(.sl true () 1 0 []),(.sc (.bool false))]]]) y0q)
def zld:FI:=⟨51,5,[.cell 10 2 true],(.seq (.reg [0,3,4] [.o [.box 5 (.t 0),.box 8 (.t 3),.box 9 (.t 4),.alloc 10 [(.sl true () 1 0 []),(.sc (.bool false))]]]) y0r)⟩
theorem yyy:z1o Try.prog 116 zld:=⟨_,_,Try.func116,rfl,by kernel_rfl,by kernel_rfl,Try.call116⟩
def yjm:Cd:=(.seq (.reg [0,1,17] [.o [.asg 4 (.c (.sl true () 1 0 [])),.asg 5 (cI 1)]]) .ret)
def yjn:Cd:=(.cond (.t 17) yjm .skip)
def yjo:Cd:=(.cond (.t 21) .skip (.exit 0))
def yjp:Cd:=(.cond (.t 26) (.exit 0) .skip)
def yjq:Cd:=(.reg [26,27,28] [.o [.mov 27 (.t 6),.bin 28 .add (.t 27) (cI 1),.asg 6 (.t 28)]])
def yjr:Cd:=(.block 1 (.seq (.seq (.reg [21,22,23,24,25] [.o [.mov 22 (.t 1),.mov 23 (.t 6),.iaddr 24 1 (.t 22) (.t 23),.ld 25 1 false (.t 24),.bin 26 .neq (.t 25) (.c (.sc (.int .u8 0)))]]) yjp) yjq))
def yjs:Cd:=(.seq (.seq (.reg [18,19,20] [.o [.mov 18 (.t 6),.mov 19 (.t 1),.len 20 (.t 19),.bin 21 .lss (.t 18) (.t 20)]]) yjo) yjr)
def yjt:Cd:=(.seq (.reg [0,1,32] [.o [.asg 4 (.c (.sl true () 1 0 [])),.asg 5 (cI 11)]]) .ret)
def yju:Cd:=(.cond (.t 32) yjt .skip)
def yjv:Cd:=(.seq (.reg [7,45] [.o [.asg 4 (.c (.sl true () 1 0 [])),.asg 5 (cI 10)]]) .ret)
def y0s:Cd:=(.cond (.t 45) yjv .skip)
def y0t:Cd:=(.seq (.reg [1,8,42,43,44] [.o [.mov 42 (.t 8),.mov 43 (.t 1)],.call none 44 102 [(.t 42),(.t 43)],.o [.un 45 .not (.t 44)]]) y0s)
def y0u:Cd:=(.seq (.reg [7,45,46] [.o [.mov 46 (.t 7),.asg 4 (.t 46),.asg 5 (cI 0)]]) .ret)
def y0v:Cd:=(.seq (.seq (.reg [0,37,38,39,36,40,41,9] [.o [.mov 37 (.t 0),.mov 38 (.t 7)],.call none 39 113 [(.t 37),(.t 38)],.o [.mov 36 (.t 39),.ext 40 36 0,.ext 41 36 1,.asg 8 (.t 40),.asg 9 (.t 41)]]) y0t) y0u)
def zpm:Cd:=(.seq (.reg [32,33,34,35] [.o [.mov 33 (.t 1),.slice 34 1 (.t 33) (some (cI 8)) none],.call none 35 108 [(.t 34)],.o [.asg 7 (.t 35)]]) y0v)
def y0w:Cd:=(.seq (.seq (.reg [6,18,19,20,21,29,30,31] [.o [.mov 29 (.t 6),.mov 30 (.t 1),.len 31 (.t 30),.bin 32 .eql (.t 29) (.t 31)]]) yju) zpm)
def y0x:Cd:=(.seq (.block 0 (.loop yjs)) y0w)
def y0y:Cd:=(.seq (.label 0) y0x)
def y0z:Cd:=(.seq (.reg [17] [.o [.asg 6 (cI 0)]]) y0y)
def y10:Cd:=(.scope (.seq (.seq (.reg [10,11,12,13,14,15,16] [.o [.mov 10 (.t 0)],.call none 11 152 [(.t 10)],.o [.un 12 .not (.t 11),.mov 13 (.t 12)],.g 13 false [.mov 14 (.t 1),.len 15 (.t 14),.bin 16 .neq (.t 15) (cI 24)],.o [.pick 17 (.t 13) (cB true) (.t 16)]]) yjn) y0z))
def zgh:FI:=⟨47,2,[.t 4,.t 5],(.seq (.reg [4,5] [.o [.asg 4 (.c (.sl true () 1 0 [])),.asg 5 (cI 0)]]) y10)⟩
theorem yyz:z1o Try.prog 117 zgh:=⟨_,_,Try.func117,rfl,by kernel_rfl,by kernel_rfl,Try.call117⟩
def yjw:Cd:=(.seq (.reg [1,5,6,10,11,12,8,18] [.o [.asg 4 (cB true)]]) .ret)
def yjx:Cd:=(.cond (.t 18) yjw .skip)
def yjy:Cd:=(.reg [23] [.o [.asg 5 (cB true)]])
def yjz:Cd:=(.cond (.t 23) yjy .skip)
def yk0:Cd:=(.cond (.t 29) (.exit 1) .skip)
def yk1:Cd:=(.reg [29] [.o [.asg 6 (cB true)]])
def zv8:Cd:=(.seq (.seq (.draw [[],[0],[],[2],[1,3],[4]] [8,23,24,25,26,27,28] [.o [.mov 24 (.t 8),.slice 25 1 (.t 24) (some (cI 4)) none,.mov 26 (.t 1),.slice 27 1 (.t 26) (some (cI 4)) none],.call none 28 102 [(.t 25),(.t 27)],.o [.un 29 .not (.t 28)]]) yk0) yk1)
def yk2:Cd:=(.seq (.seq (.draw [[],[0],[],[2],[1,3]] [18,19,20,21,22] [.o [.mov 19 (.t 8),.slice 20 1 (.t 19) none (some (cI 4)),.mov 21 (.t 1),.slice 22 1 (.t 21) none (some (cI 4))],.call none 23 102 [(.t 20),(.t 22)]]) yjz) zv8)
def yk3:Cd:=(.seq (.seq (.reg [16,17] [.o [.mov 16 (.t 8),.mov 17 (.t 1)],.call none 18 102 [(.t 16),(.t 17)]]) yjx) yk2)
def zv9:Cd:=(.reg [30] [.o [.bin 30 .add (.t 12) (cI 1),.mov 12 (.t 30)]])
def y11:Cd:=(.seq (.block 1 (.seq (.reg [13,14,15] [.o [.iaddr 14 1 (.t 10) (.t 12),.ld 15 1 false (.t 14),.asg 8 (.t 15)]]) yk3)) zv9)
def y12:Cd:=(.seq (.cond (.t 13) .skip (.exit 0)) y11)
def y13:Cd:=(.seq (.reg [] [.o [.bin 13 .lss (.t 12) (.t 11)]]) y12)
def y14:Cd:=(.block 0 (.loop y13))
def y15:Cd:=(.seq (.reg [1,5,6,10,11,12,13,31,32,33,34] [.o [.mov 31 (.t 5),.mov 32 (.t 31)],.g 32 true [.mov 33 (.t 6)],.o [.pick 34 (.t 32) (.t 33) (cB false),.asg 4 (.t 34)]]) .ret)
def y16:Cd:=(.seq (.seq (.reg [2,9] [.o [.faddr 9 0 (.t 2),.ld 10 1 false (.t 9),.len 11 (.t 10),.mov 12 (cI 0)]]) y14) y15)
def y17:Cd:=(.seq (.label 0) y16)
def y18:Cd:=(.scope (.seq (.reg [] [.o [.asg 5 (cB false),.asg 6 (cB false)]]) y17))
def zle:FI:=⟨35,2,[.t 4],(.seq (.reg [0,4] [.o [.box 2 (.t 0),.asg 4 (cB false)]]) y18)⟩
theorem yz0:z1o Try.prog 118 zle:=⟨_,_,Try.func118,rfl,by kernel_rfl,by kernel_rfl,Try.call118⟩
def yk4:Cd:=(.seq (.reg [0,1,2,3,11,12,13,36,37,38] [.o [.mov 37 (.t 11),.bin 38 .eql (.t 37) (cI 0),.asg 10 (.t 38)]]) .ret)
def yk5:Cd:=(.cond (.t 36) yk4 .skip)
def yk6:Cd:=(.cond (.t 47) .skip (.exit 0))
def yk7:Cd:=(.reg [103] [.o [.asg 16 (cB true)]])
def zpn:Cd:=(.cond (.t 103) yk7 .skip)
def zpo:Cd:=(.draw [[],[0],[1],[2,1],[1],[3,4,1],[5,1],[6,1],[1],[8,1],[7,9,1],[1,10],[11,1,0,1,2,3,4,5,6,7,8,9,10,11]] [131,132,133,134,135,136,137,138,139,140,141,142] [.o [.mov 131 (.t 18),.mov 132 (.t 131)],.g 132 false [.faddr 133 1 (.t 14),.ld 134 1 false (.t 133),.mov 135 (.t 3),.iaddr 136 1 (.t 134) (.t 135),.ld 137 1 false (.t 136),.ssl 138 (.t 137) (some (cI 4)) none,.mov 139 (.t 12),.ssl 140 (.t 139) (some (cI 4)) none,.bin 141 .eql (.t 138) (.t 140)],.o [.pick 142 (.t 132) (cB true) (.t 141),.asg 18 (.t 142)]])
def yk8:Cd:=(.seq (.draw [[],[0],[1],[2,1],[1],[3,4,1],[5,1],[6,1],[1],[8,1],[7,9,1],[1,10],[11,1,0,1,2,3,4,5,6,7,8,9,10,11]] [118,119,120,121,122,123,124,125,126,127,128,129,130] [.o [.mov 119 (.t 17),.mov 120 (.t 119)],.g 120 false [.faddr 121 1 (.t 14),.ld 122 1 false (.t 121),.mov 123 (.t 3),.iaddr 124 1 (.t 122) (.t 123),.ld 125 1 false (.t 124),.ssl 126 (.t 125) none (some (cI 4)),.mov 127 (.t 12),.ssl 128 (.t 127) none (some (cI 4)),.bin 129 .eql (.t 126) (.t 128)],.o [.pick 130 (.t 120) (cB true) (.t 129),.asg 17 (.t 130)]]) zpo)
def zpp:Cd:=(.cond (.t 118) yk8 .skip)
def zgi:Cd:=(.seq (.reg [20,103,104,105,106,107,108,109,110,111,112,113,114,115,116,117] [.o [.faddr 104 12 (.t 20),.ld 105 1 false (.t 104),.mov 106 (.t 11),.bin 107 .geq (.t 105) (.t 106),.mov 108 (.t 107)],.g 108 true [.faddr 109 0 (.t 14),.ld 110 1 false (.t 109),.mov 111 (.t 3),.iaddr 112 1 (.t 110) (.t 111),.ld 113 1 false (.t 112)],.o [.pick 114 (.t 108) (.t 113) (cB false),.mov 115 (.t 114)],.g 115 true [.mov 116 (.t 13),.bin 117 .eql (.t 116) (cI 0)],.o [.pick 118 (.t 115) (.t 117) (cB false)]]) zpp)
def zva:Cd:=(.seq (.seq (.reg [21,22,72,73,74,75,76,77,78,79,80,81,82,83,84,85,86,87,88,89,90,91,92,93,94,95,96,97,98,99,100,101,102] [.o [.faddr 72 12 (.t 20),.ld 73 1 false (.t 72),.mov 74 (.t 11),.bin 75 .gtr (.t 73) (.t 74),.mov 76 (.t 75)],.g 76 true [.faddr 77 1 (.t 20),.faddr 78 0 (.t 77),.ld 79 1 false (.t 78),.bin 80 .eql (.t 79) (cI 4),.mov 81 (.t 80)],.g 81 true [.mov 82 (.t 21),.mov 83 (.t 3),.bin 84 .eql (.t 82) (.t 83)],.g 76 true [.pick 85 (.t 81) (.t 84) (cB false),.mov 86 (.t 85)],.g 86 false [.faddr 87 1 (.t 20),.faddr 88 0 (.t 87),.ld 89 1 false (.t 88),.bin 90 .eql (.t 89) (cI 1),.mov 91 (.t 90)],.g 91 true [.mov 92 (.t 22),.un 93 .not (.t 92)],.g 86 false [.pick 94 (.t 91) (.t 93) (cB false),.mov 95 (.t 94)],.g 95 true [.faddr 96 0 (.t 14),.ld 97 1 false (.t 96),.mov 98 (.t 3),.iaddr 99 1 (.t 97) (.t 98),.ld 100 1 false (.t 99)],.g 86 false [.pick 101 (.t 95) (.t 100) (cB false)],.g 76 true [.pick 102 (.t 86) (cB true) (.t 101)],.o [.pick 103 (.t 76) (.t 102) (cB false)]]) zpn) zgi)
def y19:Cd:=(.seq (.reg [69,70,71] [.o [.ld 69 3 true (.t 14),.ld 70 14 true (.t 20)],.call none 71 115 [(.t 69),(.t 70)]]) zva)
def y1a:Cd:=(.seq (.reg [64,65,66,67,68] [.o [.faddr 64 0 (.t 14),.ld 65 1 false (.t 64),.mov 66 (.t 3),.iaddr 67 1 (.t 65) (.t 66),.ld 68 1 false (.t 67),.asg 22 (.t 68)]]) y19)
def zpq:Cd:=(.seq (.reg [57,58,59,60,61,62,63] [.o [.ld 57 3 true (.t 14),.faddr 58 0 (.t 20),.ld 59 1 false (.t 58),.faddr 60 1 (.t 20),.faddr 61 2 (.t 60),.ld 62 1 false (.t 61)],.call none 63 124 [(.t 57),(.t 59),(.t 62)],.o [.asg 21 (.t 63)]]) y1a)
def y1b:Cd:=(.reg [118,48,49] [.o [.mov 48 (.t 19),.bin 49 .add (.t 48) (cI 1),.asg 19 (.t 49)]])
def y1c:Cd:=(.seq (.block 1 (.seq (.reg [47,50,51,52,53,54,55,56] [.o [.mov 50 (.t 0),.mov 51 (.t 15),.mov 52 (.t 19),.iaddr 53 1 (.t 51) (.t 52),.ld 54 1 false (.t 53),.iaddr 55 14 (.t 50) (.t 54),.ld 56 14 true (.t 55),.alloc 20 [(.sc (.int .i64 0)),(.sc (.int .i64 0)),(.sc (.int .i64 0)),(.sc (.int .i64 0)),(.sc (.int .i64 0)),(.sc (.int .i64 0)),(.sl true () 1 0 []),(.sc (.int .i64 0)),(.sc (.int .i64 0)),(.sc (.int .i64 0)),(.sl true () 1 0 []),(.sc (.int .i64 0)),(.sc (.int .i64 0)),(.sc (.int .i64 0))],.st 14 (.t 20) (.t 56)]]) zpq)) y1b)
def y1d:Cd:=(.seq (.seq (.reg [44,45,46] [.o [.mov 44 (.t 19),.mov 45 (.t 15),.len 46 (.t 45),.bin 47 .lss (.t 44) (.t 46)]]) yk6) y1c)
def y1e:Cd:=(.block 0 (.loop y1d))
def y1f:Cd:=(.cond (.t 146) .skip (.exit 2))
def y1g:Cd:=(.reg [188] [.o [.asg 16 (cB true)]])
def zpr:Cd:=(.cond (.t 188) y1g .skip)
def zps:Cd:=(.reg [188,147,148] [.o [.mov 147 (.t 23),.bin 148 .add (.t 147) (cI 1),.asg 23 (.t 148)]])
def y1h:Cd:=(.seq (.block 3 (.seq (.draw [[],[],[0,1],[2],[3],[4],[5],[6],[6],[7,8,6],[9,6],[10,6],[11,6],[6,12],[13,6],[14],[14],[15,16,14],[17,14],[18,14],[19,14],[20,14],[14,21],[22,14],[23],[23],[23],[25,26,23],[27,23],[28,23],[23],[23],[30,31,23],[32,23],[33,23],[34,23],[24,29,35,23,23],[23],[36,37,23],[23,38]] [146,149,150,151,152,153,154,155,156,157,158,159,160,161,162,163,164,165,166,167,168,169,170,171,172,173,174,175,176,177,178,179,180,181,182,183,184,185,186,187] [.o [.mov 149 (.t 0),.mov 150 (.t 23),.iaddr 151 14 (.t 149) (.t 150),.faddr 152 12 (.t 151),.ld 153 1 false (.t 152),.bin 154 .eql (.t 153) (cI 0),.mov 155 (.t 154)],.g 155 true [.mov 156 (.t 0),.mov 157 (.t 23),.iaddr 158 14 (.t 156) (.t 157),.faddr 159 13 (.t 158),.ld 160 1 false (.t 159),.bin 161 .eql (.t 160) (cI 0)],.o [.pick 162 (.t 155) (.t 161) (cB false),.mov 163 (.t 162)],.g 163 true [.mov 164 (.t 0),.mov 165 (.t 23),.iaddr 166 14 (.t 164) (.t 165),.faddr 167 1 (.t 166),.faddr 168 0 (.t 167),.ld 169 1 false (.t 168),.bin 170 .eql (.t 169) (cI 4)],.o [.pick 171 (.t 163) (.t 170) (cB false),.mov 172 (.t 171)],.g 172 true [.ld 173 3 true (.t 14),.mov 174 (.t 0),.mov 175 (.t 23),.iaddr 176 14 (.t 174) (.t 175),.faddr 177 0 (.t 176),.ld 178 1 false (.t 177),.mov 179 (.t 0),.mov 180 (.t 23),.iaddr 181 14 (.t 179) (.t 180),.faddr 182 1 (.t 181),.faddr 183 2 (.t 182),.ld 184 1 false (.t 183)],.call (some (172,true)) 185 124 [(.t 173),(.t 178),(.t 184)],.g 172 true [.mov 186 (.t 3),.bin 187 .eql (.t 185) (.t 186)],.o [.pick 188 (.t 172) (.t 187) (cB false)]]) zpr)) zps)
def y1i:Cd:=(.seq (.seq (.reg [143,144,145] [.o [.mov 143 (.t 23),.mov 144 (.t 0),.len 145 (.t 144),.bin 146 .lss (.t 143) (.t 145)]]) y1f) y1h)
def y1j:Cd:=(.block 2 (.loop y1i))
def y1k:Cd:=(.seq (.reg [13,16,17,18,190,191] [.o [.mov 191 (.t 16),.asg 10 (.t 191)]]) .ret)
def y1l:Cd:=(.cond (.t 190) y1k .skip)
def y1m:Cd:=(.seq (.reg [13,16,17,18,190,192,193,194,195,196,197,198,199] [.o [.mov 192 (.t 13),.bin 193 .eql (.t 192) (cI 0),.mov 194 (.t 193)],.g 194 true [.mov 195 (.t 17)],.o [.pick 196 (.t 194) (.t 195) (cB false),.mov 197 (.t 196)],.g 197 true [.mov 198 (.t 18)],.o [.pick 199 (.t 197) (.t 198) (cB false),.asg 10 (.t 199)]]) .ret)
def y1n:Cd:=(.seq (.seq (.reg [0,3,14,23,143,144,145,146,189] [.o [.mov 189 (.t 13),.bin 190 .eql (.t 189) (cI 10)]]) y1l) y1m)
def zpt:Cd:=(.seq (.seq (.reg [11,12,15,19,44,45,46,47] [.o [.asg 23 (cI 0)]]) y1j) y1n)
def y1o:Cd:=(.seq (.seq (.reg [] [.o [.asg 19 (cI 0)]]) y1e) zpt)
def y1p:Cd:=(.seq (.reg [] [.o [.asg 16 (cB false),.asg 17 (cB false),.asg 18 (cB false)]]) y1o)
def y1q:Cd:=(.seq (.reg [42,43] [.o [.mov 42 (.t 0)],.call none 43 34 [(.t 42)],.o [.asg 15 (.t 43)]]) y1p)
def y1r:Cd:=(.seq (.reg [1,2,36,39,40,41] [.o [.mov 39 (.t 1),.mov 40 (.t 2)],.call none 41 76 [(.t 39),(.t 40)],.o [.alloc 14 [(.sl true () 1 0 []),(.sl true () 1 0 []),(.sl true () 1 0 [])],.st 3 (.t 14) (.t 41)]]) y1q)
def y1s:Cd:=(.seq (.seq (.reg [35] [.o [.mov 35 (.t 13),.bin 36 .eql (.t 35) (cI 11)]]) yk5) y1r)
def y1t:Cd:=(.seq (.reg [4,30,31,32,29,33,34] [.o [.mov 30 (.t 3),.mov 31 (.t 4)],.call none 32 156 [(.t 30),(.t 31)],.o [.mov 29 (.t 32),.ext 33 29 0,.ext 34 29 1,.asg 12 (.t 33),.asg 13 (.t 34)]]) y1s)
def y1u:Cd:=(.seq (.reg [24,25,26,27,28] [.o [.mov 24 (.t 0),.mov 25 (.t 1),.mov 26 (.t 2),.mov 27 (.t 3)],.call none 28 68 [(.t 24),(.t 25),(.t 26),(.t 27)],.o [.asg 11 (.t 28)]]) y1t)
def z4p:FI:=⟨200,5,[.t 10],(.seq (.reg [10] [.o [.asg 10 (cB false)]]) y1u)⟩
theorem yz1:z1o Try.prog 119 z4p:=⟨_,_,Try.func119,rfl,by kernel_rfl,by kernel_rfl,Try.call119⟩
def yk9:Cd:=(.cond (.t 9) .skip (.exit 0))
def yka:Cd:=(.reg [10,11] [.o [.mov 10 (.t 6),.bin 11 .add (.t 10) (cI 1),.asg 6 (.t 11)]])
def ykb:Cd:=(.seq (.block 1 (.reg [9,12,13,14,15,16,17,18,19,20] [.o [.mov 12 (.t 5),.mov 13 (.t 0),.mov 14 (.t 6),.bin 15 .mul (cI 8) (.t 14),.conv 16 .u64 (.t 15),.bin 17 .shr (.t 13) (.t 16),.conv 18 .u8 (.t 17),.bs1 19 1 (.t 18),.app 20 1 1 (.t 12) (.t 19),.asg 5 (.t 20)]])) yka)
def ykc:Cd:=(.seq (.seq (.reg [7,8] [.o [.mov 7 (.t 6),.mov 8 (.t 1),.bin 9 .lss (.t 7) (.t 8)]]) yk9) ykb)
def ykd:Cd:=(.block 0 (.loop ykc))
def yke:Cd:=(.seq (.reg [0,1,5,6,7,8,9,21,22] [.o [.mov 21 (.t 5),.b2s 22 (.t 21),.asg 4 (.t 22)]]) .ret)
def ykf:Cd:=(.seq (.seq (.reg [] [.o [.asg 6 (cI 0)]]) ykd) yke)
def ykg:Cd:=(.seq (.reg [] [.o [.asg 5 (.c (.sl true () 1 0 []))]]) ykf)
def ykh:FI:=⟨23,2,[.t 4],(.seq (.reg [4] [.o [.asg 4 (.c (.sc (.string ⟨#[]⟩)))]]) ykg)⟩
theorem yz2:z1o Try.prog 120 ykh:=⟨_,_,Try.func120,rfl,by kernel_rfl,by kernel_rfl,Try.call120⟩
def yki:Cd:=(.seq (.reg [0,3,4,5] [.o [.mov 3 (.t 0)],.call none 4 157 [(.c (.sc (.int .u32 4294967295))),(.t 3)],.o [.un 5 .xor (.t 4),.asg 2 (.t 5)]]) .ret)
def ykj:FI:=⟨6,1,[.t 2],(.seq (.reg [2] [.o [.asg 2 (.c (.sc (.int .u32 0)))]]) yki)⟩
theorem yz3:z1o Try.prog 121 ykj:=⟨_,_,Try.func121,rfl,by kernel_rfl,by kernel_rfl,Try.call121⟩
def ykk:Cd:=(.seq (.reg [0,3,4,5,6,7,8] [.o [.mov 3 (.t 0),.bin 4 .geq (.t 3) (cI 0),.mov 5 (.t 4)],.g 5 true [.mov 6 (.t 0),.bin 7 .lss (.t 6) (cI 48)],.o [.pick 8 (.t 5) (.t 7) (cB false),.asg 2 (.t 8)]]) .ret)
def y1v:FI:=⟨9,1,[.t 2],(.seq (.reg [2] [.o [.asg 2 (cB false)]]) ykk)⟩
theorem yz4:z1o Try.prog 152 y1v:=⟨_,_,Try.func152,rfl,by kernel_rfl,by kernel_rfl,Try.call152⟩
def ykl:Cd:=(.seq (.reg [0,3,4,5] [.o [.mov 3 (.t 0)],.call none 4 171 [(.c (.sc (.int .u32 4294967295))),(.t 3)],.o [.un 5 .xor (.t 4),.asg 2 (.t 5)]]) .ret)
def ykm:FI:=⟨6,1,[.t 2],(.seq (.reg [2] [.o [.asg 2 (.c (.sc (.int .u32 0)))]]) ykl)⟩
theorem yz5:z1o Try.prog 153 ykm:=⟨_,_,Try.func153,rfl,by kernel_rfl,by kernel_rfl,Try.call153⟩
def ykn:Cd:=(.draw [[],[0],[],[2],[],[3,4],[5],[6],[7],[1,8,7],[0,1,2,3,4,5,6,7,8,9],[10,9,9,0,1,2,3,4,5,6,7,8,9]] [25,26,27,28,29,30,31,32,33,34,35,36] [.o [.faddr 26 0 (.t 5),.ld 27 1 false (.t 26),.faddr 28 1 (.t 8),.ld 29 1 false (.t 28),.ld 30 1 false (.t 4),.iaddr 31 1 (.t 29) (.t 30),.ld 32 1 false (.t 31)],.call none 33 108 [(.t 32)],.o [.bs1 34 1 (.t 33),.app 35 1 24 (.t 27) (.t 34),.faddr 36 0 (.t 5),.st 1 (.t 36) (.t 35)]])
def zvb:Cd:=(.cond (.t 25) ykn .skip)
def zvc:Cd:=(.reg [6,4,8,70,71,72,73,74] [.o [.faddr 70 0 (.t 8),.ld 71 1 false (.t 70),.ld 72 1 false (.t 4),.iaddr 73 1 (.t 71) (.t 72),.ld 74 1 false (.t 73),.st 1 (.t 6) (.t 74)]])
def zvd:Cd:=(.seq (.reg [5,3,9,10,52,53,54,55,56,57,58,59,60,61,62,63,64,65,66,67,68,69] [.o [.faddr 52 1 (.t 5),.ld 53 1 false (.t 52),.mov 54 (.t 53)],.g 54 false [.faddr 55 12 (.t 9),.ld 56 1 false (.t 55),.ld 57 1 false (.t 3),.bin 58 .gtr (.t 56) (.t 57),.mov 59 (.t 58)],.g 59 true [.mov 60 (.t 10),.mov 61 (.t 60)],.g 61 false [.ld 62 14 true (.t 9),.ld 63 3 true (.t 8),.ld 64 1 false (.t 4)],.call (some (61,false)) 65 155 [(.t 62),(.t 63),(.t 64)],.g 59 true [.pick 66 (.t 61) (cB true) (.t 65)],.g 54 false [.pick 67 (.t 59) (.t 66) (cB false)],.o [.pick 68 (.t 54) (cB true) (.t 67),.faddr 69 1 (.t 5),.st 1 (.t 69) (.t 68)]]) zvc)
def zjy:Cd:=(.seq (.reg [25,37,38,39,40,41,42,43,44,45,46,47,48,49,50,51] [.o [.faddr 37 1 (.t 9),.faddr 38 0 (.t 37),.ld 39 1 false (.t 38),.bin 40 .eql (.t 39) (cI 1),.mov 41 (.t 40)],.g 41 true [.faddr 42 0 (.t 8),.ld 43 1 false (.t 42),.ld 44 1 false (.t 4),.iaddr 45 1 (.t 43) (.t 44),.ld 46 1 false (.t 45)],.o [.pick 47 (.t 41) (.t 46) (cB false),.mov 48 (.t 47)],.g 48 true [.ld 49 1 false (.t 6),.un 50 .not (.t 49)],.o [.pick 51 (.t 48) (.t 50) (cB false),.asg 10 (.t 51)]]) zvd)
def yko:Cd:=(.seq (.seq (.reg [15,16,17,18,19,20,21,22,23,24] [.o [.faddr 15 12 (.t 9),.ld 16 1 false (.t 15),.ld 17 1 false (.t 3),.bin 18 .geq (.t 16) (.t 17),.mov 19 (.t 18)],.g 19 true [.faddr 20 0 (.t 8),.ld 21 1 false (.t 20),.ld 22 1 false (.t 4),.iaddr 23 1 (.t 21) (.t 22),.ld 24 1 false (.t 23)],.o [.pick 25 (.t 19) (.t 24) (cB false)]]) zvb) zjy)
def ykp:Cd:=(.seq (.reg [0,2,11,12,13,14] [.o [.ld 11 1 false (.t 2),.mov 12 (.t 0),.iaddr 13 14 (.t 11) (.t 12),.ld 14 14 true (.t 13),.alloc 9 [(.sc (.int .i64 0)),(.sc (.int .i64 0)),(.sc (.int .i64 0)),(.sc (.int .i64 0)),(.sc (.int .i64 0)),(.sc (.int .i64 0)),(.sl true () 1 0 []),(.sc (.int .i64 0)),(.sc (.int .i64 0)),(.sc (.int .i64 0)),(.sl true () 1 0 []),(.sc (.int .i64 0)),(.sc (.int .i64 0)),(.sc (.int .i64 0))],.st 14 (.t 9) (.t 14)]]) yko)
def zea:FI:=⟨75,7,[],(.seq (.reg [1] [.o [.box 8 (.t 1)]]) ykp)⟩
theorem yz6:z1o Try.prog 154 zea:=⟨_,_,Try.func154,rfl,by kernel_rfl,by kernel_rfl,Try.call154⟩
def ykq:Cd:=(.seq (.reg [2,3,4,7,11,12,13,14,15,16,17,18,19,20,21,22,23,24,25,26,27,28,29,30,31,32,33,34,35] [.o [.faddr 11 1 (.t 3),.faddr 12 0 (.t 11),.ld 13 1 false (.t 12),.bin 14 .eql (.t 13) (cI 4),.mov 15 (.t 14)],.g 15 true [.mov 16 (.t 7),.bin 17 .geq (.t 16) (cI 0)],.o [.pick 18 (.t 15) (.t 17) (cB false),.mov 19 (.t 18)],.g 19 true [.mov 20 (.t 7),.bin 21 .lss (.t 20) (cI 6)],.o [.pick 22 (.t 19) (.t 21) (cB false),.mov 23 (.t 22)],.g 23 true [.faddr 24 2 (.t 4),.ld 25 1 false (.t 24),.faddr 26 0 (.t 3),.ld 27 1 false (.t 26),.iaddr 28 1 (.t 25) (.t 27),.ld 29 1 false (.t 28),.mov 30 (.t 7),.iaddr 31 1 (.t 29) (.t 30),.ld 32 1 false (.t 31),.mov 33 (.t 2),.bin 34 .eql (.t 32) (.t 33)],.o [.pick 35 (.t 23) (.t 34) (cB false),.asg 6 (.t 35)]]) .ret)
def ykr:Cd:=(.seq (.reg [8,9,10] [.o [.faddr 8 1 (.t 3),.faddr 9 2 (.t 8),.ld 10 1 false (.t 9),.asg 7 (.t 10)]]) ykq)
def zpu:FI:=⟨36,3,[.t 6],(.seq (.reg [0,1,6] [.o [.box 3 (.t 0),.box 4 (.t 1),.asg 6 (cB false)]]) ykr)⟩
theorem yz7:z1o Try.prog 155 zpu:=⟨_,_,Try.func155,rfl,by kernel_rfl,by kernel_rfl,Try.call155⟩
def yks:Cd:=(.seq (.reg [0,1,18] [.o [.asg 4 (.c (.sc (.string ⟨#[]⟩))),.asg 5 (cI 1)]]) .ret)
def ykt:Cd:=(.cond (.t 18) yks .skip)
def yku:Cd:=(.seq (.reg [0,1,21] [.o [.asg 4 (.c (.sc (.string ⟨#[]⟩))),.asg 5 (cI 11)]]) .ret)
def ykv:Cd:=(.cond (.t 21) yku .skip)
def ykw:Cd:=(.seq (.reg [1,31] [.o [.asg 4 (.c (.sc (.string ⟨#[]⟩))),.asg 5 (cI 10)]]) .ret)
def ykx:Cd:=(.cond (.t 31) ykw .skip)
def yky:Cd:=(.seq (.reg [1,31,32,33] [.o [.mov 32 (.t 1),.ssl 33 (.t 32) (some (cI 8)) none,.asg 4 (.t 33),.asg 5 (cI 0)]]) .ret)
def ykz:Cd:=(.seq (.seq (.reg [6,29,30] [.o [.mov 29 (.t 6),.mov 30 (.t 1),.bin 31 .neq (.t 29) (.t 30)]]) ykx) yky)
def yl0:Cd:=(.seq (.reg [0,21,23,24,25,26,22,27,28,7] [.o [.mov 23 (.t 0),.mov 24 (.t 1),.ssl 25 (.t 24) (some (cI 8)) none],.call none 26 73 [(.t 23),(.t 25)],.o [.mov 22 (.t 26),.ext 27 22 0,.ext 28 22 1,.asg 6 (.t 27),.asg 7 (.t 28)]]) ykz)
def yl1:Cd:=(.seq (.seq (.reg [18,19,20] [.o [.mov 19 (.t 1)],.call none 20 74 [],.o [.bin 21 .eql (.t 19) (.t 20)]]) ykv) yl0)
def y1w:Cd:=(.seq (.seq (.reg [8,9,10,11,12,13,14,15,16,17] [.o [.mov 8 (.t 0),.bin 9 .lss (.t 8) (cI 0),.mov 10 (.t 9)],.g 10 false [.mov 11 (.t 0),.bin 12 .geq (.t 11) (cI 48)],.o [.pick 13 (.t 10) (cB true) (.t 12),.mov 14 (.t 13)],.g 14 false [.mov 15 (.t 1),.slen 16 (.t 15),.bin 17 .neq (.t 16) (cI 24)],.o [.pick 18 (.t 14) (cB true) (.t 17)]]) ykt) yl1)
def zgj:FI:=⟨34,2,[.t 4,.t 5],(.seq (.reg [4,5] [.o [.asg 4 (.c (.sc (.string ⟨#[]⟩))),.asg 5 (cI 0)]]) y1w)⟩
theorem yz8:z1o Try.prog 156 zgj:=⟨_,_,Try.func156,rfl,by kernel_rfl,by kernel_rfl,Try.call156⟩
def yl2:Cd:=(.cond (.t 9) .skip (.exit 0))
def yl3:Cd:=(.reg [10,11] [.o [.mov 10 (.t 5),.bin 11 .add (.t 10) (cI 1),.asg 5 (.t 11)]])
def yl4:Cd:=(.seq (.block 1 (.reg [9,12,13,14,15,16] [.o [.mov 12 (.t 0),.mov 13 (.t 1),.mov 14 (.t 5),.six 15 (.t 13) (.t 14)],.call none 16 172 [(.t 12),(.t 15)],.o [.asg 0 (.t 16)]])) yl3)
def yl5:Cd:=(.seq (.seq (.reg [6,7,8] [.o [.mov 6 (.t 5),.mov 7 (.t 1),.slen 8 (.t 7),.bin 9 .lss (.t 6) (.t 8)]]) yl2) yl4)
def yl6:Cd:=(.block 0 (.loop yl5))
def yl7:Cd:=(.seq (.reg [0,1,5,6,7,8,9,17] [.o [.mov 17 (.t 0),.asg 4 (.t 17)]]) .ret)
def yl8:Cd:=(.seq (.seq (.reg [] [.o [.asg 5 (cI 0)]]) yl6) yl7)
def yl9:FI:=⟨18,2,[.t 4],(.seq (.reg [4] [.o [.asg 4 (.c (.sc (.int .u32 0)))]]) yl8)⟩
theorem yz9:z1o Try.prog 157 yl9:=⟨_,_,Try.func157,rfl,by kernel_rfl,by kernel_rfl,Try.call157⟩
def yla:Cd:=(.reg [6,13,14,15] [.o [.mov 13 (.t 0),.mov 14 (.t 6)],.call none 15 185 [(.t 13),(.t 14)],.o [.asg 0 (.t 15)]])
def ylb:Cd:=(.reg [16] [.o [.bin 16 .add (.t 9) (cI 1),.mov 9 (.t 16)]])
def ylc:Cd:=(.seq (.block 1 (.seq (.reg [10,11,12] [.o [.iaddr 11 1 (.t 7) (.t 9),.ld 12 1 false (.t 11),.asg 6 (.t 12)]]) yla)) ylb)
def yld:Cd:=(.seq (.cond (.t 10) .skip (.exit 0)) ylc)
def yle:Cd:=(.seq (.reg [] [.o [.bin 10 .lss (.t 9) (.t 8)]]) yld)
def ylf:Cd:=(.block 0 (.loop yle))
def ylg:Cd:=(.seq (.reg [0,7,8,9,10,17] [.o [.mov 17 (.t 0),.asg 4 (.t 17)]]) .ret)
def ylh:Cd:=(.seq (.seq (.reg [1] [.o [.mov 7 (.t 1),.len 8 (.t 7),.mov 9 (cI 0)]]) ylf) ylg)
def yli:FI:=⟨18,2,[.t 4],(.seq (.reg [4] [.o [.asg 4 (.c (.sc (.int .u32 0)))]]) ylh)⟩
theorem yza:z1o Try.prog 171 yli:=⟨_,_,Try.func171,rfl,by kernel_rfl,by kernel_rfl,Try.call171⟩
def ylj:Cd:=(.cond (.t 12) .skip (.exit 0))
def ylk:Cd:=(.reg [20,21,22] [.o [.mov 21 (.t 0),.bin 22 .xor (.t 21) (.c (.sc (.int .u32 2748603157))),.asg 0 (.t 22)]])
def yll:Cd:=(.cond (.t 20) ylk .skip)
def ylm:Cd:=(.seq (.reg [6,19] [.o [.mov 19 (.t 6),.bin 20 .eql (.t 19) (.c (.sc (.int .u32 1)))]]) yll)
def yln:Cd:=(.seq (.reg [17,18] [.o [.mov 17 (.t 0),.bin 18 .shr (.t 17) (.c (.sc (.int .u64 1))),.asg 0 (.t 18)]]) ylm)
def ylo:Cd:=(.reg [20,13,14] [.o [.mov 13 (.t 5),.bin 14 .add (.t 13) (cI 1),.asg 5 (.t 14)]])
def ylp:Cd:=(.seq (.block 1 (.seq (.reg [12,15,16] [.o [.mov 15 (.t 0),.bin 16 .and (.t 15) (.c (.sc (.int .u32 1))),.asg 6 (.t 16)]]) yln)) ylo)
def ylq:Cd:=(.seq (.seq (.reg [11] [.o [.mov 11 (.t 5),.bin 12 .lss (.t 11) (cI 8)]]) ylj) ylp)
def ylr:Cd:=(.block 0 (.loop ylq))
def yls:Cd:=(.seq (.reg [0,5,11,12,23] [.o [.mov 23 (.t 0),.asg 4 (.t 23)]]) .ret)
def y1x:Cd:=(.seq (.seq (.reg [] [.o [.asg 5 (cI 0)]]) ylr) yls)
def y1y:Cd:=(.seq (.reg [1,7,8,9,10] [.o [.mov 7 (.t 0),.mov 8 (.t 1),.conv 9 .u32 (.t 8),.bin 10 .xor (.t 7) (.t 9),.asg 0 (.t 10)]]) y1x)
def ylt:FI:=⟨24,2,[.t 4],(.seq (.reg [4] [.o [.asg 4 (.c (.sc (.int .u32 0)))]]) y1y)⟩
theorem yzb:z1o Try.prog 172 ylt:=⟨_,_,Try.func172,rfl,by kernel_rfl,by kernel_rfl,Try.call172⟩
def ylu:Cd:=(.cond (.t 12) .skip (.exit 0))
def ylv:Cd:=(.cond (.t 21) (.exit 1) .skip)
def ylw:Cd:=(.seq (.reg [6,20] [.o [.mov 20 (.t 6),.un 21 .not (.t 20)]]) ylv)
def ylx:Cd:=(.reg [21,22,23] [.o [.mov 22 (.t 0),.bin 23 .xor (.t 22) (.c (.sc (.int .u32 2748603157))),.asg 0 (.t 23)]])
def yly:Cd:=(.seq (.seq (.reg [18,19] [.o [.mov 18 (.t 0),.bin 19 .shr (.t 18) (.c (.sc (.int .u64 1))),.asg 0 (.t 19)]]) ylw) ylx)
def ylz:Cd:=(.seq (.reg [15,16,17] [.o [.mov 15 (.t 0),.bin 16 .and (.t 15) (.c (.sc (.int .u32 1))),.bin 17 .eql (.t 16) (.c (.sc (.int .u32 1))),.asg 6 (.t 17)]]) yly)
def ym0:Cd:=(.block 1 (.seq (.reg [12,13,14] [.o [.mov 13 (.t 5),.bin 14 .add (.t 13) (cI 1),.asg 5 (.t 14)]]) ylz))
def ym1:Cd:=(.seq (.seq (.reg [11] [.o [.mov 11 (.t 5),.bin 12 .lss (.t 11) (cI 8)]]) ylu) ym0)
def ym2:Cd:=(.seq (.reg [0,5,11,12,24] [.o [.mov 24 (.t 0),.asg 4 (.t 24)]]) .ret)
def ym3:Cd:=(.seq (.block 0 (.loop ym1)) ym2)
def y1z:Cd:=(.seq (.label 0) ym3)
def y20:Cd:=(.seq (.reg [] [.o [.asg 5 (cI 0)]]) y1z)
def y21:Cd:=(.scope (.seq (.reg [1,7,8,9,10] [.o [.mov 7 (.t 0),.mov 8 (.t 1),.conv 9 .u32 (.t 8),.bin 10 .xor (.t 7) (.t 9),.asg 0 (.t 10)]]) y20))
def ym4:FI:=⟨25,2,[.t 4],(.seq (.reg [4] [.o [.asg 4 (.c (.sc (.int .u32 0)))]]) y21)⟩
theorem yzc:z1o Try.prog 185 ym4:=⟨_,_,Try.func185,rfl,by kernel_rfl,by kernel_rfl,Try.call185⟩
abbrev u32 (n:Int):AU:=.sc (.int .u32 n)
def zpv (a b:Int):Int:=IntKind.u32.wrap (((a % 2 ^ IntKind.u32.bits).toNat ^^^ (b % 2 ^ IntKind.u32.bits).toNat:Nat):Int)
def zpw (a:Int):Int:=IntKind.u32.wrap (((a % 2 ^ IntKind.u32.bits).toNat &&& 1 % 2 ^ IntKind.u32.bits:Nat):Int)
def x0l (a:Int):Int:=a.fdiv (2 ^ min 1 IntKind.u32.bits)
def y22 (s:Int):Int:=if zpw s=1 then zpv (x0l s) 2748603157 else x0l s
def zr2:Nat→Int→Int
 | 0,s=>s
 | k+1,s=>y22 (zr2 k s)
def zlf (s:Int)(c:UInt8):Int:=zr2 8 (zpv s (IntKind.u32.wrap c.toNat))
def z9m (s:Int)(l:List UInt8):Int:=l.foldl zlf s
theorem y23 (s:Int)(c:UInt8):FnC Try.prog 185 [] [u32 s,u8 c.toNat] [] (u32 (zlf s c)):=by
 refine wb yzc rfl ?_
 refine WL.sreg (by simp;rfl) (by simp;rfl) ?_
 refine WL.scope (WL.sreg (by simp;rfl) (by simp;rfl) ?_)
 refine WL.sreg (by simp;rfl) (by simp;rfl) ?_
 refine WL.seq (WL.label ?_)
 refine WL.seq ?_
 refine WL.block (wd 8 (fun i=>[(0,0,u32 (zr2 i (zpv s (IntKind.u32.wrap c.toNat)))),(500,0,i64 i)]) (fun i=>True) rfl trivial fun i hi _=>?_)
 by_cases h:i < 8
 ·have h':(i:Int) < 8:=by omega
  have w:IntKind.wrap .i64 ((i:Int)+1)=((i+1:Nat):Int):=by rw[z01 (by omega) (by omega)];omega
  have e:zr2 (i+1) (zpv s (IntKind.u32.wrap c.toNat))=y22 (zr2 i (zpv s (IntKind.u32.wrap c.toNat))):=rfl
  rw[e]
  generalize zr2 i (zpv s (IntKind.u32.wrap c.toNat))=t
  refine WL.seq (WL.sreg (by simp[h'];rfl) (by simp;rfl) ?_)
  refine WL.cond (t:=true) (by simp[h']) (fun _=>WL.skip ?_) (by simp)
  refine WL.block (WL.sreg (by simp[w];rfl) (by simp;rfl) ?_)
  by_cases q:zpw t=1
  ·have q':(IntKind.u32.wrap (((t % 2 ^ IntKind.u32.bits).toNat &&& 1 % 2 ^ IntKind.u32.bits:Nat):Int) == 1)=true:=by simpa [zpw] using q
   refine WL.sreg (by simp[q'];rfl) (by simp;rfl) ?_
   refine WL.seq (WL.sreg (by simp;rfl) (by simp;rfl) ?_)
   refine WL.sreg (by simp[q'];rfl) (by simp;rfl) ?_
   refine WL.cond (t:=false) (by simp) (by simp) fun _=>WL.skip ?_
   refine WL.reg (RL.run (by simp;rfl) ⟨_,by simp;rfl,h,?_,trivial⟩)
   simp only[y22,if_pos q]
   rfl
  ·have q':(IntKind.u32.wrap (((t % 2 ^ IntKind.u32.bits).toNat &&& 1 % 2 ^ IntKind.u32.bits:Nat):Int) == 1)=false:=beq_false_of_ne q
   refine WL.sreg (by simp[q'];rfl) (by simp;rfl) ?_
   refine WL.seq (WL.sreg (by simp;rfl) (by simp;rfl) ?_)
   refine WL.sreg (by simp[q'];rfl) (by simp;rfl) ?_
   refine WL.cond (t:=true) (by simp) (fun _=>WL.fin [21] (by simp;rfl) (WL.exit ⟨h,?_,trivial⟩)) (by simp)
   simp only[y22,if_neg q]
   rfl
 ·obtain rfl:i=8:=by omega
  refine WL.seq (WL.sreg (by simp;rfl) (by simp;rfl) ?_)
  refine WL.cond (t:=false) (by simp) (by simp) fun _=>WL.exit ?_
  refine WL.sreg (by simp;rfl) (by simp;rfl) (WL.ret ⟨.inr rfl,?_⟩)
  simp[ym4,zlf]
theorem zlg (s:Int)(c:UInt8):FnC Try.prog 172 [] [u32 s,u8 c.toNat] [] (u32 (zlf s c)):=by
 refine wb yzb rfl ?_
 refine WL.sreg (by simp;rfl) (by simp;rfl) ?_
 refine WL.sreg (by simp;rfl) (by simp;rfl) ?_
 refine WL.seq (WL.sreg (by simp;rfl) (by simp;rfl) ?_)
 refine WL.block (wd 8 (fun i=>[(0,0,u32 (zr2 i (zpv s (IntKind.u32.wrap c.toNat)))),(500,0,i64 i)]) (fun i=>True) rfl trivial fun i hi _=>?_)
 by_cases h:i < 8
 ·have h':(i:Int) < 8:=by omega
  have w:IntKind.wrap .i64 ((i:Int)+1)=((i+1:Nat):Int):=by rw[z01 (by omega) (by omega)];omega
  have e:zr2 (i+1) (zpv s (IntKind.u32.wrap c.toNat))=y22 (zr2 i (zpv s (IntKind.u32.wrap c.toNat))):=rfl
  rw[e]
  generalize zr2 i (zpv s (IntKind.u32.wrap c.toNat))=t
  refine WL.seq (WL.sreg (by simp[h'];rfl) (by simp;rfl) ?_)
  refine WL.cond (t:=true) (by simp[h']) (fun _=>WL.skip ?_) (by simp)
  refine WL.seq (WL.block (WL.sreg (by simp;rfl) (by simp;rfl) ?_))
  refine WL.sreg (by simp;rfl) (by simp;rfl) ?_
  by_cases q:zpw t=1
  ·have q':(IntKind.u32.wrap (((t % 2 ^ IntKind.u32.bits).toNat &&& 1 % 2 ^ IntKind.u32.bits:Nat):Int) == 1)=true:=by simpa [zpw] using q
   refine WL.sreg (by simp[q'];rfl) (by simp;rfl) ?_
   refine WL.cond (t:=true) (by simp) (fun _=>?_) (by simp)
   refine WL.reg (RL.run (by simp;rfl) ⟨_,by simp;rfl,?_⟩)
   refine WL.reg (RL.run (by simp[w];rfl) ⟨_,by simp;rfl,h,?_,trivial⟩)
   simp only[y22,if_pos q]
   rfl
  ·have q':(IntKind.u32.wrap (((t % 2 ^ IntKind.u32.bits).toNat &&& 1 % 2 ^ IntKind.u32.bits:Nat):Int) == 1)=false:=beq_false_of_ne q
   refine WL.sreg (by simp[q'];rfl) (by simp;rfl) ?_
   refine WL.cond (t:=false) (by simp) (by simp) fun _=>WL.skip ?_
   refine WL.reg (RL.run (by simp[w];rfl) ⟨_,by simp;rfl,h,?_,trivial⟩)
   simp only[y22,if_neg q]
   rfl
 ·obtain rfl:i=8:=by omega
  refine WL.seq (WL.sreg (by simp;rfl) (by simp;rfl) ?_)
  refine WL.cond (t:=false) (by simp) (by simp) fun _=>WL.exit ?_
  refine WL.sreg (by simp;rfl) (by simp;rfl) (WL.ret ⟨.inr rfl,?_⟩)
  simp[ylt,zlf]
theorem zd3 (s:Int)(l:List UInt8){i:Nat}(h:i < l.length):z9m s (l.take (i+1))=zlf (z9m s (l.take i)) l[i]:=by
 unfold z9m;rw[sf h,List.foldl_append];rfl
theorem y24 (s:Int)(l:List UInt8)(hl:l.length≤1000000):FnC Try.prog 171 [] [u32 s,sU false l] [] (u32 (z9m s l)):=by
 refine wb yza rfl ?_
 refine WL.sreg (by simp;rfl) (by simp;rfl) ?_
 refine WL.seq (WL.sreg (by simp;rfl) (by simp;rfl) ?_)
 refine WL.block (wd l.length (fun i=>[(0,0,u32 (z9m s (l.take i))),(700,0,sU false l),(800,0,i64 l.length),(900,0,i64 i)]) (fun i=>True) (by simp[z9m]) trivial fun i hi _=>?_)
 by_cases h:i < l.length
 ·have w:IntKind.wrap .i64 ((i:Int)+1)=((i+1:Nat):Int):=by rw[z01 (by omega) (by omega)];omega
  have e:=zd3 s l h
  rw[e]
  generalize z9m s (l.take i)=t
  have ht:=y23 t l[i]
  refine WL.sreg (by simp[h];rfl) (by simp;rfl) ?_
  refine WL.seq (WL.cond (t:=true) (by simp[h]) (fun _=>WL.skip ?_) (by simp))
  refine WL.seq (WL.block (WL.sreg (by simp[h];rfl) (by simp;rfl) ?_))
  refine WL.reg (RL.o (by simp[h];rfl) (RL.call0 false ht (by simp) (by simp) (RL.o (by simp;rfl) (RL.nil ⟨_,by simp;rfl,?_⟩))))
  refine WL.reg (RL.run (by simp[w];rfl) ⟨_,by simp;rfl,h,by simp,trivial⟩)
 ·obtain rfl:i=l.length:=by omega
  refine WL.sreg (by simp;rfl) (by simp;rfl) ?_
  refine WL.seq (WL.cond (t:=false) (by simp) (by simp) fun _=>WL.exit ?_)
  refine WL.sreg (by simp;rfl) (by simp;rfl) (WL.ret ⟨.inr rfl,?_⟩)
  simp[yli]
theorem ym5 (l:List UInt8){i:Nat}(h:i < l.length):(z27 l)[i]?=some l[i]:=by
 have hz:i < (z27 l).size:=by rw[z1i];exact h
 rw[getElem?_pos (z27 l) i hz]
 rfl
@[simp] theorem x0m (l:List UInt8) {i:Nat} (hh:i < (z27 l).size):(z27 l)[i]'hh=l[i]'(by rw[z1i] at hh;exact hh):=rfl
theorem wrap_u64 {x:Int}(h:0≤x)(h':x < 18446744073709551616):IntKind.wrap .u64 x=x:=by
 show x % 18446744073709551616=x
 omega
theorem zlh (s:Int)(l:List UInt8)(hl:l.length≤1000000):FnC Try.prog 157 [] [u32 s,str l] [] (u32 (z9m s l)):=by
 have hz:=z1i l
 refine wb yz9 rfl ?_
 refine WL.sreg (by simp;rfl) (by simp;rfl) ?_
 refine WL.seq (WL.sreg (by simp;rfl) (by simp;rfl) ?_)
 refine WL.block (wd l.length (fun i=>[(0,0,u32 (z9m s (l.take i))),(100,0,str l),(500,0,i64 i)]) (fun i=>True) (by simp[z9m]) trivial fun i hi _=>?_)
 by_cases h:i < l.length
 ·have w:IntKind.wrap .i64 ((i:Int)+1)=((i+1:Nat):Int):=by rw[z01 (by omega) (by omega)];omega
  have e:=zd3 s l h
  have h2:=ym5 l h
  rw[e]
  generalize z9m s (l.take i)=t
  have ht:=zlg t l[i]
  refine WL.seq (WL.sreg (by simp[h,hz];rfl) (by simp;rfl) ?_)
  refine WL.cond (t:=true) (by simp[h,hz]) (fun _=>WL.skip ?_) (by simp)
  refine WL.seq (WL.block (WL.reg (RL.o (by simp[h,h2,hz];rfl) (RL.call0 false ht (by simp) (by simp) (RL.o (by simp;rfl) (RL.nil ⟨_,by simp;rfl,?_⟩))))))
  refine WL.reg (RL.run (by simp[w];rfl) ⟨_,by simp;rfl,h,by simp,trivial⟩)
 ·obtain rfl:i=l.length:=by omega
  refine WL.seq (WL.sreg (by simp[hz];rfl) (by simp;rfl) ?_)
  refine WL.cond (t:=false) (by simp) (by simp) fun _=>WL.exit ?_
  refine WL.sreg (by simp;rfl) (by simp;rfl) (WL.ret ⟨.inr rfl,?_⟩)
  simp[yl9]
def ofF (l:List UInt8):Int:=zpv (if IntKind.u32.signed=true then -1 else IntKind.u32.max) (z9m 4294967295 l)
theorem yzd (l:List UInt8)(hl:l.length≤1000000):FnC Try.prog 153 [] [sU false l] [] (u32 (ofF l)):=by
 refine wb yz5 rfl ?_
 refine WL.sreg (by simp;rfl) (by simp;rfl) ?_
 refine w7 (RL.o (by simp;rfl) (RL.call0 false (y24 4294967295 l hl) (by simp) (by simp) (RL.o (by simp;rfl) (RL.nil ⟨_,by simp;rfl,?_⟩))))
 refine WL.ret ⟨.inr rfl,?_⟩
 simp[ykm]
 rfl
theorem zt6 (l:List UInt8)(hl:l.length≤1000000):FnC Try.prog 121 [] [str l] [] (u32 (ofF l)):=by
 refine wb yz3 rfl ?_
 refine WL.sreg (by simp;rfl) (by simp;rfl) ?_
 refine w7 (RL.o (by simp;rfl) (RL.call0 false (zlh 4294967295 l hl) (by simp) (by simp) (RL.o (by simp;rfl) (RL.nil ⟨_,by simp;rfl,?_⟩))))
 refine WL.ret ⟨.inr rfl,?_⟩
 simp[ykj]
 rfl
def zli (v:Int)(i:Nat):UInt8:=UInt8.ofNat ((v.fdiv (2 ^ min (8 * i) IntKind.u32.bits)) % 256).toNat
theorem za2 (v:Int)(i:Nat):IntKind.wrap .u8 (v.fdiv (2 ^ min (8 * i) IntKind.u32.bits))=((zli v i).toNat:Int):=by
 unfold zli
 generalize v.fdiv (2 ^ min (8 * i) IntKind.u32.bits)=x
 have h0:0≤x % 256:=Int.emod_nonneg _ (by decide)
 have h1:x % 256 < 256:=Int.emod_lt_of_pos _ (by decide)
 have e:(UInt8.ofNat (x % 256).toNat).toNat=(x % 256).toNat:=by
  rw[UInt8.toNat_ofNat'];omega
 rw[e,Int.toNat_of_nonneg h0]
 rfl
def zc4 (v:Int)(n:Nat):List UInt8:=(List.range n).map (zli v)
theorem zpx (v:Int)(n:Nat):zc4 v (n+1)=zc4 v n ++ [zli v n]:=by simp[zc4,List.range_succ]
theorem z2w (v:Int)(n:Nat):(zc4 v n).length=n:=by simp[zc4]
theorem zve (v:Int)(n:Nat)(hn:n≤8):FnC Try.prog 120 [] [u32 v,i64 n] [] (str (zc4 v n)):=by
 refine wb yz2 rfl ?_
 refine WL.sreg (by simp;rfl) (by simp;rfl) ?_
 refine WL.sreg (by simp;rfl) (by simp;rfl) ?_
 refine WL.seq (WL.sreg (by simp;rfl) (by simp;rfl) ?_)
 refine WL.block (wd n (fun i=>[(0,0,u32 v),(100,0,i64 n),(500,0,sU true (zc4 v i)),(600,0,i64 i)]) (fun i=>True) (by simp[zc4]) trivial fun i hi _=>?_)
 by_cases h:i < n
 ·have h':(i:Int) < n:=by omega
  have w:IntKind.wrap .i64 ((i:Int)+1)=((i+1:Nat):Int):=by rw[z01 (by omega) (by omega)];omega
  have w8:IntKind.wrap .i64 (8 * (i:Int))=8 * (i:Int):=by rw[z01 (by omega) (by omega)]
  have wu:IntKind.wrap .u64 (8 * (i:Int))=8 * (i:Int):=wrap_u64 (by omega) (by omega)
  have n0:¬ 8 * (i:Int) < 0:=by omega
  have ll:=z2w v i
  have m1:i≤140737488355327:=by omega
  have m2:i+1≤maxLen:=by unfold maxLen;omega
  have tn:(8 * (i:Int)).toNat=8 * i:=by omega
  have hb:=za2 v i
  refine WL.seq (WL.sreg (by simp[h'];rfl) (by simp;rfl) ?_)
  refine WL.cond (t:=true) (by simp[h']) (fun _=>WL.skip ?_) (by simp)
  refine WL.seq (WL.block (WL.reg (RL.run (by simp[w8,wu,n0,tn,ll,m1,m2];rfl) ⟨_,by simp;rfl,?_⟩)))
  rw[zpx]
  refine WL.reg (RL.run (by simp[w];rfl) ⟨_,by simp;rfl,h,?_,trivial⟩)
  simp[z2w,hb]
  rw[pr (l:=List.map _ (zc4 v i)) (by simp[ll]),pr (by simp[ll])]
 ·obtain rfl:i=n:=by omega
  refine WL.seq (WL.sreg (by simp;rfl) (by simp;rfl) ?_)
  refine WL.cond (t:=false) (by simp) (by simp) fun _=>WL.exit ?_
  refine WL.sreg (by simp;rfl) (by simp;rfl) (WL.ret ⟨.inr rfl,?_⟩)
  simp[ykh,z2w]
abbrev z24:List UInt8:=[0,0,0,0,0,0,0,0,0,0,0,0,0,0,0,0,0,0,0,0,0,0,0,0]
theorem ym6:z8k [.sc (.int .u8 0)] 24=z24.map (fun b=>u8 (b.toNat:Int)):=rfl
theorem zjz:FnC Try.prog 75 [] [] [] (sU true z24):=by
 refine wb x2c rfl ?_
 refine WL.sreg (by simp;rfl) (by simp;rfl) ?_
 refine WL.sreg (by simp[ym6];rfl) (by simp;rfl) (WL.ret ⟨.inr rfl,?_⟩)
 simp[x0k]
theorem zbl:FnC Try.prog 74 [] [] [] (str z24):=by
 refine wb x2b rfl ?_
 refine WL.sreg (by simp;rfl) (by simp;rfl) ?_
 have tk:List.take 24 (z24.map (fun b=>u8 (b.toNat:Int)))=z24.map (fun b=>u8 (b.toNat:Int)):=rfl
 refine WL.sreg (by simp[ym6,tk,-List.map_cons];rfl) (by simp;rfl) (WL.ret ⟨.inr rfl,?_⟩)
 simp[x0j]
def isP (id:Int):Bool:=decide (0≤id) && decide (id < 48)
theorem zpy (id:Int):FnC Try.prog 152 [] [i64 id] [] (bl (isP id)):=by
 refine wb yz4 rfl ?_
 refine WL.sreg (by simp;rfl) (by simp;rfl) ?_
 by_cases h:0≤id
 ·refine WL.sreg (by simp[h];rfl) (by simp;rfl) (WL.ret ⟨.inr rfl,?_⟩)
  simp[y1v,isP,h]
 ·refine WL.sreg (by simp[h];rfl) (by simp;rfl) (WL.ret ⟨.inr rfl,?_⟩)
  simp[y1v,isP,h]
def z57 (id:Int)(body:List UInt8):List UInt8:=zc4 (id+1) 2 ++ ([90,165] ++ body)
def zbt (id:Int)(body:List UInt8):List UInt8:=zc4 (ofF (z57 id body)) 4 ++ z57 id body
def z3w (id:Int)(body:List UInt8):List UInt8 × Int:=if isP id=true∧body.length=16 then (zbt id body,0) else ([],1)
theorem zbm (id:Int)(body:List UInt8):(z57 id body).length=4+body.length:=by simp[z57,z2w];omega
theorem zeb (id:Int)(body:List UInt8):(zbt id body).length=8+body.length:=by simp[zbt,z2w,zbm];omega
abbrev bm (l:List UInt8):List AU:=l.map fun b=>u8 (b.toNat:Int)
theorem zt7 (v:Int)(t:List UInt8):∀ i,i < 4→(bm (zc4 v i ++ (([0,0,0,0]:List UInt8).drop i ++ t))).set i (u8 ((zli v i).toNat:Int))=bm (zc4 v (i+1) ++ (([0,0,0,0]:List UInt8).drop (i+1) ++ t))
 | 0,_=>rfl
 | 1,_=>rfl
 | 2,_=>rfl
 | 3,_=>rfl
 | n+4,h=>by omega
theorem y25 (id:Int)(h0:0≤id)(h1:id < 48)(body:List UInt8):[u8 (IntKind.wrap .u8 (id+1)),u8 (IntKind.wrap .u8 ((id+1).fdiv 256)),u8 90,u8 165] ++ bm body=bm (z57 id body):=by
 have e0:=za2 (id+1) 0
 have e1:=za2 (id+1) 1
 have f0:(id+1).fdiv (2 ^ min (8 * 0) IntKind.u32.bits)=id+1:=by
  show (id+1).fdiv 1=id+1
  exact Int.fdiv_one _
 rw[f0] at e0
 have f1:(id+1).fdiv (2 ^ min (8 * 1) IntKind.u32.bits)=(id+1).fdiv 256:=rfl
 rw[f1] at e1
 rw[e0,e1]
 rfl
abbrev slQ (p:List UInt8 × Int):Ex→SL→Prop:=fun e L=>e=Ex.ret∧RetOk zpj.rs [] (.tuple [sU true p.1,i64 p.2]) L
theorem zi7 (id:Int)(body:List UInt8)(hb:body.length≤1000000):FnC Try.prog 113 [] [i64 id,sU false body] [] (.tuple [sU true (z3w id body).1,i64 (z3w id body).2]):=by
 refine wb yyv rfl ?_
 refine WL.mono (Q':=slQ (z3w id body)) ?_ fun e L h=>⟨.inr h.1,h.2⟩
 refine WL.sreg (by simp;rfl) (by simp;rfl) ?_
 refine WL.seq (w7 (RL.o (by simp;rfl) (RL.call0 false (zpy id) (by simp) (by simp) ?_)))
 cases hp:isP id with
 | false =>
  refine RL.o (by simp;rfl) (RL.g (by simp;rfl) (RL.o (by simp;rfl) (RL.nil ⟨_,by simp;rfl,?_⟩)))
  refine WL.cond (t:=true) (by simp) (fun _=>?_) (by simp)
  refine WL.sreg (by simp;rfl) (by simp;rfl) (WL.ret ⟨rfl,?_⟩)
  simp[zpj,z3w,hp]
 | true =>
 have h0:0≤id∧id < 48:=by simpa [isP] using hp
 by_cases h16:body.length=16
 ·have hbne:((body.length:Int) != 16)=false:=by simp[h16]
  refine RL.o (by simp;rfl) (RL.g (by simp[h16];rfl) (RL.o (by simp;rfl) (RL.nil ⟨_,by simp;rfl,?_⟩)))
  refine WL.cond (t:=false) (by simp) (by simp) fun _=>WL.skip ?_
  refine w7 (RL.call0 false zjz (by simp) (by simp) (RL.o (by simp;rfl) (RL.nil ⟨_,by simp;rfl,?_⟩)))
  have w:IntKind.wrap .i64 (id+1)=id+1:=by rw[z01 (by omega) (by omega)]
  have m8:min 8 IntKind.i64.bits=8:=rfl
  refine WL.sreg (by simp[w,m8];rfl) (by simp;rfl) ?_
  have tk16:List.take 16 (bm body)=bm body:=pr (by simp[h16])
  refine WL.sreg (by simp[h16];rfl) (by simp;rfl) ?_
  have eS:z3a [u8 0,u8 0,u8 0,u8 0,AV.sc (Value.int IntKind.u8 (IntKind.u8.wrap (id+1))),AV.sc (Value.int IntKind.u8 (IntKind.u8.wrap ((id+1).fdiv 256))),AV.sc (Value.int IntKind.u8 90),AV.sc (Value.int IntKind.u8 165),u8 0,u8 0,u8 0,u8 0,u8 0,u8 0,u8 0,u8 0,u8 0,u8 0,u8 0,u8 0,u8 0,u8 0,u8 0,u8 0] 8 (List.take 16 (bm body))=bm ([0,0,0,0] ++ z57 id body):=by
   have e2:bm ([0,0,0,0] ++ z57 id body)=[u8 0,u8 0,u8 0,u8 0] ++ bm (z57 id body):=rfl
   rw[tk16,e2,← y25 id h0.1 h0.2 body]
   simp[z3a,h16]
  rw[eS]
  have hlt:(z57 id body).length=20:=by rw[zbm];omega
  have eR:z3w id body=(zbt id body,0):=by simp[z3w,hp,h16]
  have hcrc:=yzd (z57 id body) (by rw[hlt];decide)
  have tkt:List.take 20 (bm (z57 id body))=bm (z57 id body):=pr (by simp[hlt])
  rw[eR]
  have eI:zbt id body=zc4 (ofF (z57 id body)) 4 ++ z57 id body:=rfl
  rw[eI]
  clear eS eI eR w m8 tk16
  generalize z57 id body=tl at *
  generalize ofF tl=v at *
  refine w7 (RL.o (by simp[hlt];rfl) (RL.call0 true hcrc (by simp[hlt,tkt]) (by simp) (RL.o (by simp;rfl) (RL.nil ⟨_,by simp;rfl,?_⟩))))
  refine WL.seq (WL.sreg (by simp;rfl) (by simp;rfl) ?_)
  obtain⟨C,hC⟩:∃ C:Nat→List AU,∀ i,C i=bm (zc4 v i ++ (([0,0,0,0]:List UInt8).drop i ++ tl)):=⟨_,fun _=>rfl⟩
  have C0:C 0=bm ([0,0,0,0] ++ tl):=by rw[hC];rfl
  have C4:C 4=bm (zc4 v 4 ++ tl):=by rw[hC];rfl
  have Cl:∀ i,i≤4→(C i).length=24:=fun i hi=>by rw[hC];simp[hlt,z2w]<;>omega
  have Ca:∀ i,i < 4→∃ b:UInt8,(C i)[i]?=some (u8 b.toNat):=fun i hi=>by
   have hl:i < (zc4 v i ++ (([0,0,0,0]:List UInt8).drop i ++ tl)).length:=by simp[hlt,z2w]<;>omega
   exact⟨(zc4 v i ++ (([0,0,0,0]:List UInt8).drop i ++ tl))[i],by rw[hC,bm,qf,po hl];rfl⟩
  have Cs:∀ i,i < 4→(C i).set i (u8 ((zli v i).toNat:Int))=C (i+1):=fun i hi=>by rw[hC,hC];exact zt7 v tl i hi
  refine WL.block (wd 4 (fun i=>[(600,0,.sl true () 1 24 (C i)),(700,0,u32 v),(4000,0,i64 i)]) (fun i=>True) (by simp[C0]) trivial fun i hi _=>?_)
  by_cases h:i < 4
  ·have h':(i:Int) < 4:=by omega
   have w:IntKind.wrap .i64 ((i:Int)+1)=((i+1:Nat):Int):=by rw[z01 (by omega) (by omega)];omega
   have w8:IntKind.wrap .i64 (8 * (i:Int))=8 * (i:Int):=by rw[z01 (by omega) (by omega)]
   have wu:IntKind.wrap .u64 (8 * (i:Int))=8 * (i:Int):=wrap_u64 (by omega) (by omega)
   have n0:¬ 8 * (i:Int) < 0:=by omega
   have tn:(8 * (i:Int)).toNat=8 * i:=by omega
   have hb:=za2 v i
   obtain⟨b,hbc⟩:=Ca i h
   have lcs:=Cl i hi
   have hi24:(i:Int) < 24:=by omega
   have hi24n:i < 24:=by omega
   have hbc':∀ hh:i < (C i).length,(C i)[i]'hh=u8 b.toNat:=fun hh=>by
    rw[po hh] at hbc;exact Option.some.inj hbc
   refine WL.sreg (by simp;rfl) (by simp;rfl) ?_
   refine WL.seq (WL.cond (t:=true) (by simp[h']) (fun _=>WL.skip ?_) (by simp))
   refine WL.seq (WL.block (WL.sreg (by simp;rfl) (by simp;rfl) ?_))
   refine WL.reg (RL.run (by simp[w8,wu,n0,tn,hbc',lcs,hi24,hi24n];rfl) ⟨_,by simp;rfl,?_⟩)
   refine WL.reg (RL.run (by simp[w];rfl) ⟨_,by simp;rfl,h,?_,trivial⟩)
   simp[hb,Cs i h]
  ·obtain rfl:i=4:=by omega
   refine WL.sreg (by simp;rfl) (by simp;rfl) ?_
   refine WL.seq (WL.cond (t:=false) (by simp) (by simp) fun _=>WL.exit ?_)
   refine w7 (n5 (by decide) (RL.o (by simp;rfl) (RL.nil ⟨_,by simp;rfl,WL.ret ⟨rfl,?_⟩⟩)))
   simp[zpj,C4,z2w,hlt]
   rw[pr (i:=24) (l:=List.map _ (zc4 v 4) ++ _) (by simp[z2w,hlt]),pr (by simp[z2w,hlt])]
 ·have hbne:((body.length:Int) != 16)=true:=by simp;omega
  refine RL.o (by simp;rfl) (RL.g (by simp;rfl) (RL.o (by simp;rfl) (RL.nil ⟨_,by simp;rfl,?_⟩)))
  refine WL.cond (t:=true) (by simp;omega) (fun _=>?_) (by simp)
  refine WL.sreg (by simp;rfl) (by simp;rfl) (WL.ret ⟨rfl,?_⟩)
  simp[zpj,z3w,h16]
abbrev rsQ (p:List UInt8 × Int):Ex→SL→Prop:=fun e L=>e=Ex.ret∧RetOk y42.rs [] (.tuple [str p.1,i64 p.2]) L
theorem ym7:(⟨#[90,165]⟩:ByteArray)=z27 [90,165]:=rfl
theorem z69:(⟨#[]⟩:ByteArray)=z27 []:=rfl
theorem zd4 (id:Int)(body:List UInt8)(hb:body.length≤1000000):FnC Try.prog 73 [] [i64 id,str body] [] (.tuple [str (z3w id body).1,i64 (z3w id body).2]):=by
 have hz:=z1i body
 refine wb x2a rfl ?_
 refine WL.mono (Q':=rsQ (z3w id body)) ?_ fun e L h=>⟨.inr h.1,h.2⟩
 refine WL.sreg (by simp;rfl) (by simp;rfl) ?_
 by_cases p1:id < 0
 ·have hp:isP id=false:=by simp[isP];omega
  refine WL.seq (WL.sreg (by simp[p1];rfl) (by simp;rfl) ?_)
  refine WL.cond (t:=true) (by simp) (fun _=>?_) (by simp)
  refine WL.sreg (by simp;rfl) (by simp;rfl) (WL.ret ⟨rfl,?_⟩)
  simp[y42,z3w,hp,z69]
 by_cases p2:48≤id
 ·have hp:isP id=false:=by simp[isP];omega
  refine WL.seq (WL.sreg (by simp[p1,p2];rfl) (by simp;rfl) ?_)
  refine WL.cond (t:=true) (by simp) (fun _=>?_) (by simp)
  refine WL.sreg (by simp;rfl) (by simp;rfl) (WL.ret ⟨rfl,?_⟩)
  simp[y42,z3w,hp,z69]
 have hp:isP id=true:=by simp[isP];omega
 by_cases h16:body.length=16
 ·have eR:z3w id body=(zbt id body,0):=by simp[z3w,hp,h16]
  have w:IntKind.wrap .i64 (id+1)=id+1:=by rw[z01 (by omega) (by omega)]
  have w2:IntKind.wrap .u32 (id+1)=id+1:=by show (id+1) % 4294967296=id+1;omega
  have hl2:=zve (id+1) 2 (by decide)
  have hlt:=zbm id body
  have hcrc:=zt6 (z57 id body) (by omega)
  have hl4:=zve (ofF (z57 id body)) 4 (by decide)
  have eT:z27 (zc4 (id+1) 2 ++ 90 :: 165 :: body)=z27 (z57 id body):=rfl
  have eI:z27 (zc4 (ofF (z57 id body)) 4 ++ z57 id body)=z27 (zbt id body):=rfl
  rw[eR]
  refine WL.seq (WL.sreg (by simp[p1,p2,hz,h16];rfl) (by simp;rfl) ?_)
  refine WL.cond (t:=false) (by simp) (by simp) fun _=>WL.skip ?_
  refine w7 (RL.o (by simp[w,w2];rfl) (RL.call0 false hl2 (by simp[w,w2]) (by simp) (RL.o (by simp[ym7,zbh,z1i,z2w,h16];rfl) (RL.nil ⟨_,by simp;rfl,?_⟩))))
  rw[eT]
  refine w7 (RL.o (by simp;rfl) (RL.call0 false hcrc (by simp) (by simp) (RL.call0 false hl4 (by simp) (by simp) (RL.o (by simp[zbh,z1i,z2w,hlt,h16];rfl) (RL.nil ⟨_,by simp;rfl,WL.ret ⟨rfl,?_⟩⟩)))))
  rw[eI]
  simp[y42]
 ·have h16':((body.length:Int) != 16)=true:=by simp;omega
  refine WL.seq (WL.sreg (by simp[p1,p2,hz,h16'];rfl) (by simp;rfl) ?_)
  refine WL.cond (t:=true) (by simp) (fun _=>?_) (by simp)
  refine WL.sreg (by simp;rfl) (by simp;rfl) (WL.ret ⟨rfl,?_⟩)
  simp[y42,z3w,h16,z69]
def z1v (id:Int)(b:List UInt8):List UInt8 × Int :=
 if isP id=true∧b.length=24 then
  if b=z24 then ([],11) else if zbt id (b.drop 8)=b then (b.drop 8,0) else ([],10)
 else ([],1)
abbrev roQ (p:List UInt8 × Int):Ex→SL→Prop:=fun e L=>e=Ex.ret∧RetOk zgj.rs [] (.tuple [str p.1,i64 p.2]) L
theorem zk0 {a b:List UInt8}:((z27 a).toList != (z27 b).toList)=(a != b):=by rw[z21,z21]
theorem zlj (id:Int)(b:List UInt8)(hb:b.length≤1000000):FnC Try.prog 156 [] [i64 id,str b] [] (.tuple [str (z1v id b).1,i64 (z1v id b).2]):=by
 have hz:=z1i b
 refine wb yz8 rfl ?_
 refine WL.mono (Q':=roQ (z1v id b)) ?_ fun e L h=>⟨.inr h.1,h.2⟩
 refine WL.sreg (by simp;rfl) (by simp;rfl) ?_
 by_cases p1:id < 0
 ·have hp:isP id=false:=by simp[isP];omega
  refine WL.seq (WL.sreg (by simp[p1];rfl) (by simp;rfl) ?_)
  refine WL.cond (t:=true) (by simp) (fun _=>?_) (by simp)
  refine WL.sreg (by simp;rfl) (by simp;rfl) (WL.ret ⟨rfl,?_⟩)
  simp[zgj,z1v,hp,z69]
 by_cases p2:48≤id
 ·have hp:isP id=false:=by simp[isP];omega
  refine WL.seq (WL.sreg (by simp[p1,p2];rfl) (by simp;rfl) ?_)
  refine WL.cond (t:=true) (by simp) (fun _=>?_) (by simp)
  refine WL.sreg (by simp;rfl) (by simp;rfl) (WL.ret ⟨rfl,?_⟩)
  simp[zgj,z1v,hp,z69]
 have hp:isP id=true:=by simp[isP];omega
 by_cases h24:b.length=24
 ·have hl8:(b.drop 8).length=16:=by simp[h24]
  have hsl:=zd4 id (b.drop 8) (by omega)
  have eS:z3w id (b.drop 8)=(zbt id (b.drop 8),0):=by simp[z3w,hp,hl8]
  rw[eS] at hsl
  have ext:(z27 b).extract 8 24=z27 (b.drop 8):=by rw[z4g,pr (by omega)]
  refine WL.seq (WL.sreg (by simp[p1,p2,hz,h24];rfl) (by simp;rfl) ?_)
  refine WL.cond (t:=false) (by simp) (by simp) fun _=>WL.skip ?_
  refine WL.seq (w7 (RL.o (by simp;rfl) (RL.call0 false zbl (by simp) (by simp) ?_)))
  by_cases q:b=z24
  ·subst q
   refine RL.o (by simp;rfl) (RL.nil ⟨_,by simp;rfl,?_⟩)
   refine WL.cond (t:=true) (by simp) (fun _=>?_) (by simp)
   refine WL.sreg (by simp;rfl) (by simp;rfl) (WL.ret ⟨rfl,?_⟩)
   simp[zgj,z1v,hp,z69]
  ·have qb:(b == z24)=false:=beq_false_of_ne q
   refine RL.o (by simp[z87,qb];rfl) (RL.nil ⟨_,by simp;rfl,?_⟩)
   refine WL.cond (t:=false) (by simp) (by simp) fun _=>WL.skip ?_
   refine w7 (RL.o (by simp[hz,h24,ext];rfl) (RL.call0 false hsl (by simp[hz,h24,ext]) (by simp) (RL.o (by simp;rfl) (RL.nil ⟨_,by simp;rfl,?_⟩))))
   by_cases r:zbt id (b.drop 8)=b
   ·have rb:(zbt id (b.drop 8) != b)=false:=by simp[r]
    refine WL.seq (WL.sreg (by simp[zk0,rb];rfl) (by simp;rfl) ?_)
    refine WL.cond (t:=false) (by simp[z21,r]) (by simp) fun _=>WL.skip ?_
    refine WL.sreg (by simp[hz,h24,ext];rfl) (by simp;rfl) (WL.ret ⟨rfl,?_⟩)
    simp[zgj,z1v,hp,h24,q,r]
   ·have rb:(zbt id (b.drop 8) != b)=true:=by simp[r]
    refine WL.seq (WL.sreg (by simp[zk0,rb];rfl) (by simp;rfl) ?_)
    refine WL.cond (t:=true) (by simp[z21,r]) (fun _=>?_) (by simp)
    refine WL.sreg (by simp;rfl) (by simp;rfl) (WL.ret ⟨rfl,?_⟩)
    simp[zgj,z1v,hp,h24,q,r,z69]
 ·have h24':((b.length:Int) != 24)=true:=by simp;omega
  refine WL.seq (WL.sreg (by simp[p1,p2,hz,h24'];rfl) (by simp;rfl) ?_)
  refine WL.cond (t:=true) (by simp) (fun _=>?_) (by simp)
  refine WL.sreg (by simp;rfl) (by simp;rfl) (WL.ret ⟨rfl,?_⟩)
  simp[zgj,z1v,h24,z69]
def z94 (n:Nat):List AL:=List.replicate n .dead
theorem zk1 (n b o:Nat):¬ fpL (z94 n) b o:=by
 rw[z04]
 rintro⟨c,hc,h⟩
 rw[t7 hc] at h
 simp[fp] at h
theorem zgk:∀ n,z7g (z94 n)
 | 0=>trivial
 | n+1=>by
  show z7g (.dead :: z94 n)
  exact⟨trivial,zgk n,fun _ _ h=>by simp[fp] at h⟩
theorem zgl {w:World}{I:z1a}:∀ {cs:List AL} {b o:Nat},z3k w I true cs b o→z3k w I true (z94 cs.length) b o
 | [],_,_,_=>by show z3k w I true [] _ _;simp only[z3k]
 | c :: cs,b,o,h=>by
  simp only[z3k] at h
  obtain⟨⟨y,h1,_⟩,_,_,h4⟩:=h
  show z3k w I true (.dead :: z94 cs.length) b o
  have:=zgl h4
  simp only[z3k,CR,Mem]
  exact⟨⟨y,h1,trivial⟩,trivial,(fun e=>by cases e),this⟩
theorem RelL.wipeS {C:Ctx}{X:XF LO} {β:Nat→Nat × Nat}{I:z1a}{rg:Nat→Value}{w:World}(R:RelL C X β I rg w)(k:Nat)(hk:k % 100=0){l:Loc}{cs:List AL}(hX:(X k).2=.bx true (some l) cs) :
  RelL C (X.set k (.bx true (some l) (z94 cs.length))) β I rg w:=by
 have hkp:=z07 X β k (.bx true (some l) (z94 cs.length))
 have hf:∀ k' b o,kfp β (X.set k (.bx true (some l) (z94 cs.length))) k' b o→kfp β X k' b o:=by
  intro k' b o h
  by_cases e:k'=k
  ·subst e
   simp only[kfp,wa] at h
   rcases h with h | ⟨h,_⟩
   ·left;rw[hX]
    simp only[fp] at h ⊢
    rcases h with h | h
    ·left;simpa [z94] using h
    ·exact absurd h (zk1 _ _ _)
   ·unfold z2g at h;omega
  ·simpa only [kfp,w9 _ _ e] using h
 refine⟨fun t=>?_,fun k'=>?_,fun a b hne b' o h1 h2=>R.disj a b hne b' o (hf _ _ _ h1) (hf _ _ _ h2),fun b o h=>⟨(R.imm b o h).1,fun a ha=>(R.imm b o h).2 a (hf _ _ _ ha)⟩,fun a b o h=>R.frK a b o (hf _ _ _ h),R.frI,R.frI0,R.fr,R.gh,R.gr⟩
 ·by_cases e:100 * t=k
  ·have:=R.reg t
   rw[e] at this ⊢
   rw[hX] at this
   rw[wa]
   simp only[RR,CR] at this ⊢
   exact this
  ·rw[w9 _ _ e];exact z2f hkp _ _ (R.reg t)
 ·by_cases e:k'=k
  ·subst e
   have h:=R.key k'
   have hm:=h.mem
   rw[hX] at hm
   simp only[Mem] at hm
   refine⟨by rw[wa];simp only[Mem];exact zgl hm,by rw[wa];simp only[Sep];exact⟨fun _ _=>zk1 _ _ _,zgk _⟩,fun hc=>by unfold z2g at hc;omega,fun b o hb=>h.live b o (hf k' b o hb),fun h99=>by omega⟩
  ·have h:=R.key k'
   refine⟨by rw[w9 _ _ e];exact h.mem,by rw[w9 _ _ e];exact h.sep,by rw[w9 _ _ e];exact fun h1 h2=>⟨(h.cell h1 h2).1.imp fun y hy=>⟨hy.1,hy.2.imp id fun h=>⟨h.1,z2f hkp _ _ h.2⟩⟩,(h.cell h1 h2).2⟩,fun b o hb=>h.live b o (hf k' b o hb),by rw[w9 _ _ e];exact h.last⟩
theorem RelT.wipe {C:Ctx}{X:XF Unit}{tm:Array Value}{w:World}(h:RelT C X tm w)(k:Nat)(hk:k % 100=0)(hkH:k ≠ 100 * H)(hH:roots (X (100 * H)).2=[]){cs:List AU}(hX:(X k).2=.bx true () cs)
  (h2:∀ t,z4o [k] (X (100 * t)).2=true) (h3:∀ k',z2g k'→noR [k] (X k').2=true):RelT C (X.upd k (.bx true () (List.replicate cs.length .dead))) tm w:=by
 obtain⟨XL,β,I,rg,he,R,hs,ht⟩:=h
 subst he
 obtain⟨l,lcs,hl,hlcs⟩:∃ l lcs,(XL k).2=.bx true l lcs∧lcs.map er=cs:=by
  have:er (XL k).2=.bx true () cs:=hX
  revert this
  generalize (XL k).2=v
  intro this
  cases v<;>simp [er] at this
  rename_i o l lcs
  exact⟨l,lcs,by rw[this.1],by rw[← z0g];exact this.2⟩
 have hmem:=(R.key k).mem
 rw[hl] at hmem
 cases l with
 | none=>simp [Mem] at hmem
 | some l =>
  have R1:=R.wipeS k hk hl
  have e1:(XL.set k (.bx true (some l) (z94 lcs.length)) k).2=.bx true (some l) (z94 lcs.length):=by rw[wa]
  have hne:∀ j,j ≠ k→(XL.set k (.bx true (some l) (z94 lcs.length))) j=XL j:=fun j hj=>w9 _ _ hj
  have hlen:lcs.length=cs.length:=by rw[← hlcs];simp
  have R2:=R.regen R1 [k] H (fun j hj=>by simp at hj;subst hj;exact⟨hk,hkH⟩) (fun _ _=>rfl) (by
    rw[hne _ (Ne.symm hkH)]
    have:roots (er (XL (100 * H)).2)=[]:=hH
    rwa [z6j] at this) (fun j hj _=>by
    rw[hne j (by intro e;subst e;simp at hj)]) (fun t=>by
    by_cases e:100 * t=k
    ·rw[e,e1];rfl
    ·rw[hne _ e,← z8c];exact h2 t) (fun j hj=>by
    have:j ≠ k:=by intro e;subst e;unfold z2g at hj;omega
    rw[hne _ this,← zp7];exact h3 j hj) (fun j hj=>by
    simp at hj;subst hj;rw[hl,e1];rfl)
  refine⟨_,β,I,rg,?_,R2,hs,ht⟩
  rw[zbe]
  funext j
  by_cases e:j=k
  ·subst e
   simp only[z4f,List.contains_cons,beq_self_eq_true,Bool.true_or,if_true,wc,erF]
   rw[e1]
   simp only[er,z0g,z94,List.map_replicate,hlen]
  ·have hc:[k].contains j=false:=by simp[e]
   simp only[z4f,hc,py,if_false,we _ _ e,erF,hne j e]
section
variable {P:Program} {nt:Nat} {L:SL} {Q:Ex→SL→Prop}
def zpz (k:Nat)(L:SL):Bool:=decide (k % 100=0) && (!decide (k=100 * H) && ((roots (fnL L (100 * H)).2).isEmpty && L.all fun e=>z4o [k] e.2.2 && (decide (e.1 % 100=0) || noR [k] e.2.2)))
theorem RelT.wipeL {C:Ctx}{tm:Array Value}{w:World}(h:RelT C (fnL L) tm w)(k:Nat){cs:List AU}(hX:(fnL L k).2=.bx true () cs)(hB:zpz k L=true):RelT C (fnL (z9h L k (.bx true () (List.replicate cs.length .dead)))) tm w:=by
 simp only[zpz,pp,decide_eq_true_eq,qp,decide_eq_false_iff_not,qh,qr,rl] at hB
 obtain⟨a1,a2,a3,a4⟩:=hB
 have:=h.wipe k a1 a2 a3 hX (fun t=>?_) (fun k' hc=>?_)
 ·rwa [z49] at this
 ·rcases z92 L (100 * t) with h | ⟨e,he,_,h⟩
  ·rw[h];rfl
  ·rw[h];exact (a4 e he).1
 ·rcases z92 L k' with h | ⟨e,he,e1,h⟩
  ·rw[h];rfl
  ·rw[h]
   rcases (a4 e he).2 with q | q
   ·rw[e1] at q;exact absurd q hc.1
   ·exact q
theorem WL.wipe {cc:Cd}(k:Nat){cs:List AU}(hX:(fnL L k).2=.bx true () cs)(hB:zpz k L=true)(h:WL P nt cc (z9h L k (.bx true () (List.replicate cs.length .dead))) Q):WL P nt cc L Q:=by
 intro C code hP hn hc a w hd hR
 exact h C code hP hn hc a w hd (hR.wipeL k hX hB)
theorem RL.wipe {K:SL→Prop}{segs:List Sg}(k:Nat){cs:List AU}(hX:(fnL L k).2=.bx true () cs)(hB:zpz k L=true)(h:RL P nt segs (z9h L k (.bx true () (List.replicate cs.length .dead))) K):RL P nt segs L K:=by
 intro C ops idx hP hnt hc a w Q hd hR hK
 exact h C ops idx hP hnt hc a w Q hd (hR.wipeL k hX hB) hK
end
attribute [simp] zpz
end Go.OT
