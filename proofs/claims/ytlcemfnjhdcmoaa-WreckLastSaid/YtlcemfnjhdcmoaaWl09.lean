/- Part 9 of the proof: see its last file. -/
import Derived.Orders
import Derived.Below
import Derived.Laws.Entries
import Derived.Laws.Cells
import Derived.Laws.IdiomCopy
import Derived.Scope
import Derived.Calls
import Derived.Laws.Tables
import Derived.Laws.MakeOwn
import Derived.Laws.BytesString
import Derived.ArgAppend
import Derived.WalkSpells
import Derived.Lib.SlBytesConst
import Derived.Lib.ConvBytes
import Derived.WalkKit
import Derived.ProofKit
import Derived.OpenShut
import Derived.ShutString
import Derived.ChangeOld
import Derived.Lib.SmallJoins
import Derived.Test.YtlcemfnjhdcmoaaProg
import Derived.KernelRfl
import Derived.IntWalk
import Derived.Lib.Strings
import Derived.Test.YtlcemfnjhdcmoaaWl08
set_option linter.unusedSimpArgs false
set_option linter.unusedVariables false
namespace Go.OT
open Go.Proofs
set_option maxHeartbeats 16000000 in
theorem zd4 {key:Int→Int}{In:Int→Prop}{g:Nat}{cs:List AU}(hcl:zul key In g cs)(f:Nat→Int)(N a m b:Nat)(hN:z0c N)(h1:a < m)(h2:m < b)(h3:b≤N)(hIn:∀ k,k < N→In (f k))(T:Two key f a m b)
  (hrec:zss key In g cs N (b - a)) (f':Nat→Int) (hf':SM key f a b f') (mid s0 r0:Nat) (hmid:mid=(a+b) / 2) (hs0:s0=if mid < m then mid+m - b else a) (hr0:r0=if mid < m then mid else m) :
  WL Try.prog z9o.nt zp4 [(0,0,.view 1000000 0 [] 0 N),(100,0,i64 a),(200,0,i64 m),(300,0,i64 b),(400,0,.clos g [.vptr () cs]),(1800,0,i64 mid),(1900,0,i64 (mid+m:Nat)),(2000,0,i64 s0),(2100,0,i64 r0),(1000000,0,rF f N)] (syE f' N):=by
 have hN':=hN
 unfold z0c at hN'
 have hb:a≤s0∧s0≤r0∧r0≤m∧r0≤mid∧mid < b∧a≤mid:=by
  by_cases hm:mid < m
  ·rw[if_pos hm] at hs0 hr0;omega
  ·rw[if_neg hm] at hs0 hr0;omega
 obtain⟨b1,b2,b3,b4,b5,b6⟩:=hb
 obtain⟨q,hq⟩:∃ q,q=mid+m:=⟨_,rfl⟩
 obtain⟨p,hp⟩:∃ p,p=q - 1:=⟨_,rfl⟩
 have w1:IntKind.wrap .i64 ((q:Int) - 1)=(p:Int):=by rw[z01 (by omega) (by omega)];omega
 rw[← hq]
 refine WL.sreg (by simp[w1];rfl) (by simp;rfl) ?_
 refine WL.seq (WL.block (WL.loop (ι:={x:Nat × Nat // s0≤x.1∧x.1≤x.2∧x.2≤r0∧(∀ c,s0≤c→c < x.1→¬ key (f (mid+m - 1 - c)) < key (f c))∧(∀ c,x.2≤c→c < r0→key (f (mid+m - 1 - c)) < key (f c))})
  (fun x=>[(0,0,.view 1000000 0 [] 0 N),(100,0,i64 a),(200,0,i64 m),(300,0,i64 b),(400,0,.clos g [.vptr () cs]),(1800,0,i64 mid),(1900,0,i64 q),(2000,0,i64 x.1.1),(2100,0,i64 x.1.2),(2200,0,i64 p),(1000000,0,rF f N)]) (fun x=>x.1.2 - x.1.1)
  ⟨(s0,r0),⟨Nat.le_refl _,b2,Nat.le_refl _,fun k g1 g2=>by simp only at g2;omega,fun k g1 g2=>by simp only at g1;omega⟩⟩ (by simp) fun x=>?_))
 obtain⟨⟨i,j⟩,q1,q2,q3,q4,q5⟩:=x
 simp only at q1 q2 q3 q4 q5 ⊢
 by_cases hij:i < j
 ·refine WL.seq (WL.sreg (by simp[hij];rfl) (by simp;rfl) ?_)
  refine WL.cond (t:=true) (by simp[hij]) (fun _=>WL.skip ?_) (by simp)
  obtain⟨c,hc⟩:∃ c,c=(i+j) / 2:=⟨_,rfl⟩
  have hw:=z8a (i:=i) (j:=j) (by omega) hc
  have hc1:i≤c∧c < j:=by omega
  have hst:=zbo T h1 h2 hmid hs0 hr0 (c:=c) (c':=c) (by omega) (Nat.le_refl _) (by omega)
  obtain⟨u,hu⟩:∃ u,u=p - c:=⟨_,rfl⟩
  have hu':u=mid+m - 1 - c:=by omega
  have w2:IntKind.wrap .i64 ((p:Int) - (c:Int))=(u:Int):=by rw[z01 (by omega) (by omega)];omega
  have l1:u < N:=by omega
  have l2:c < N:=by omega
  have l1':u+1≤N:=by omega
  have l2':c+1≤N:=by omega
  have hcall:=hcl _ _ (hIn u l1) (hIn c l2)
  refine WL.block (WL.sreg (by simp[hw];rfl) (by simp;rfl) ?_)
  refine WL.seq ?_
  refine WL.draw z0t (by simp[z09,noH]) ?_
  refine DL.o (by simp[w2,l1,l2,l1',l2'];exact⟨rfl,rfl⟩) ?_
  refine DL.clo0 (f:=g) (cps:=[.vptr () cs]) false (by simp) hcall (by simp) (by simp) (by simp) ?_
  by_cases hlt:key (f u) < key (f c)
  ·have c1:zh4 (key (f u)) (key (f c)) < 0:=by rw[z4s];exact hlt
   refine DL.o (by simp[c1];exact⟨rfl,rfl⟩) (DL.nil ⟨by kernel_rfl,_,by simp;rfl,?_⟩)
   refine WL.cond (t:=false) (by simp) (by simp) fun _=>?_
   refine WL.reg (RL.run (by simp;rfl) ⟨_,by simp;rfl,?_⟩)
   refine⟨⟨(i,c),q1,by simp only;omega,by simp only;omega,q4,fun k g1 g2=>?_⟩,by simp,by simp only;omega⟩
   have:=zbo T h1 h2 hmid hs0 hr0 (c:=c) (c':=k) (by omega) g1 g2
   rw[hu'] at hlt
   omega
  ·have c1:¬ zh4 (key (f u)) (key (f c)) < 0:=by rw[z4s];exact hlt
   have w:IntKind.wrap .i64 ((c:Int)+1)=((c+1:Nat):Int):=by rw[z01 (by omega) (by omega)];omega
   refine DL.o (by simp[c1];exact⟨rfl,rfl⟩) (DL.nil ⟨by kernel_rfl,_,by simp;rfl,?_⟩)
   refine WL.cond (t:=true) (by simp) (fun _=>?_) (by simp)
   refine WL.reg (RL.run (by simp[w];rfl) ⟨_,by simp;rfl,?_⟩)
   refine⟨⟨(c+1,j),by simp only;omega,by simp only;omega,q3,fun k g1 g2=>?_,q5⟩,by simp,by simp only;omega⟩
   have:=zbo T h1 h2 hmid hs0 hr0 (c:=k) (c':=c) g1 (by simp only at g2;omega) (by omega)
   rw[hu'] at hlt
   omega
 ·obtain rfl:i=j:=by omega
  refine WL.seq (WL.sreg (by simp;rfl) (by simp;rfl) ?_)
  refine WL.cond (t:=false) (by simp) (by simp) fun _=>WL.exit ?_
  have hpart:=y02 T h1 h2 hmid hs0 hr0 q1 q3 q4 q5
  have:=y03 (g:=g) (cs:=cs) (In:=In) f N a m b i hN h1 h2 h3 hIn T hrec f' hf' mid hmid hpart (by omega) i p
  rw[← hq] at this
  exact this
set_option maxHeartbeats 16000000 in
theorem zpf {key:Int→Int}{In:Int→Prop}{g:Nat}{cs:List AU}(hcl:zul key In g cs)(N:Nat)(hN:z0c N):∀ n,zss key In g cs N n
 | 0=>fun f a m b h=>by omega
 | n+1=>fun f a m b hn h1 h2 h3 hIn T f' hf'=>by
  have hN':=hN
  unfold z0c at hN'
  have ih:=zpf hcl N hN n
  refine FnC.go yux rfl ?_
  have w1:IntKind.wrap .i64 ((m:Int) - (a:Int))=((m - a:Nat):Int):=by rw[z01 (by omega) (by omega)];omega
  have w2:IntKind.wrap .i64 ((b:Int) - (m:Int))=((b - m:Nat):Int):=by rw[z01 (by omega) (by omega)];omega
  obtain⟨u,hu⟩:∃ u,u=m - a:=⟨_,rfl⟩
  obtain⟨v,hv⟩:∃ v,v=b - m:=⟨_,rfl⟩
  rw[← hu] at w1
  rw[← hv] at w2
  by_cases c1:u=1
  ·subst c1
   refine WL.seq (WL.sreg (by simp[w1];rfl) (by simp;rfl) ?_)
   refine WL.cond (t:=true) (by simp) (fun _=>?_) (by simp)
   have:=ygo hcl f N a m b hN (by omega) h2 h3 hIn T f' hf'
   refine this.mono fun e L h=>?_
   obtain⟨rfl,h⟩:=h
   exact⟨.inr rfl,h⟩
  have d1:((u:Int) == 1)=false:=by simpa using (by omega:¬ (u:Int)=1)
  refine WL.seq (WL.sreg (by simp[w1,d1];rfl) (by simp;rfl) ?_)
  refine WL.cond (t:=false) (by simp[c1]) (by simp) fun _=>WL.skip ?_
  by_cases c2:v=1
  ·subst c2
   refine WL.seq (WL.sreg (by simp[w2];rfl) (by simp;rfl) ?_)
   refine WL.cond (t:=true) (by simp) (fun _=>?_) (by simp)
   have:=ygp hcl f N a m b hN (by omega) h1 h3 hIn T f' hf'
   refine this.mono fun e L h=>?_
   obtain⟨rfl,h⟩:=h
   exact⟨.inr rfl,h⟩
  have d2:((v:Int) == 1)=false:=by simpa using (by omega:¬ (v:Int)=1)
  refine WL.seq (WL.sreg (by simp[w2,d2];rfl) (by simp;rfl) ?_)
  refine WL.cond (t:=false) (by simp[c2]) (by simp) fun _=>WL.skip ?_
  obtain⟨mid,hmid⟩:∃ mid,mid=(a+b) / 2:=⟨_,rfl⟩
  have hw:=z8a (i:=a) (j:=b) (by omega) hmid
  have hrec:zss key In g cs N (b - a):=fun f a' m' b' q=>ih f a' m' b' (by omega)
  refine WL.sreg (by simp[hw];rfl) (by simp;rfl) ?_
  have w3:IntKind.wrap .i64 ((mid:Int)+(m:Int))=((mid+m:Nat):Int):=by rw[z01 (by omega) (by omega)];omega
  obtain⟨q,hq⟩:∃ q,q=mid+m:=⟨_,rfl⟩
  rw[← hq] at w3
  refine WL.sreg (by simp[w3];rfl) (by simp;rfl) ?_
  refine WL.sreg (by simp;rfl) (by simp;rfl) ?_
  by_cases hm:mid < m
  ·have w4:IntKind.wrap .i64 ((q:Int) - (b:Int))=((mid+m - b:Nat):Int):=by rw[z01 (by omega) (by omega)];omega
   refine WL.seq (WL.sreg (by simp[hm];rfl) (by simp;rfl) ?_)
   refine WL.cond (t:=true) (by simp[hm]) (fun _=>?_) (by simp)
   have:=zd4 hcl f N a m b hN h1 h2 h3 hIn T hrec f' hf' mid (mid+m - b) mid hmid (by rw[if_pos hm]) (by rw[if_pos hm])
   rw[← hq] at this
   obtain⟨z,hz⟩:∃ z,z=mid+m - b:=⟨_,rfl⟩
   rw[← hq] at w4 hz
   rw[← hz] at w4 this
   refine WL.sreg (by simp[w4];rfl) (by simp;rfl) ?_
   refine WL.reg (RL.run (by simp;rfl) ⟨_,by simp;rfl,?_⟩)
   exact this
  ·refine WL.seq (WL.sreg (by simp[hm];rfl) (by simp;rfl) ?_)
   refine WL.cond (t:=false) (by simp[hm]) (by simp) fun _=>?_
   have:=zd4 hcl f N a m b hN h1 h2 h3 hIn T hrec f' hf' mid a m hmid (by rw[if_neg hm]) (by rw[if_neg hm])
   rw[← hq] at this
   refine WL.sreg (by simp;rfl) (by simp;rfl) ?_
   refine WL.reg (RL.run (by simp;rfl) ⟨_,by simp;rfl,?_⟩)
   exact this
end Go.OT
namespace Go.OT
open Go.Proofs
structure Blk (key:Int→Int) (f h:Nat→Int) (x y:Nat):Prop where
 perm:(seg h x (y - x)).Perm (seg f x (y - x))
 sorted:SortedF key h x y
section
variable {key:Int→Int} {f h h':Nat→Int} {x m y:Nat}
theorem Blk.mem (b:Blk key f h x y){k:Nat}(h1:x≤k)(h2:k < y):∃ u,x≤u∧u < y∧h k=f u:=by
 have:h k ∈ seg h x (y - x):=ze4.2 ⟨k - x,by omega,by rw[show x+(k - x)=k by omega]⟩
 obtain⟨u,hu,e⟩:=ze4.1 (b.perm.subset this)
 exact⟨x+u,by omega,by omega,e.symm⟩
theorem Blk.congr (b:Blk key f h x y)(hc:∀ k,x≤k→k < y→h' k=h k):Blk key f h' x y:=by
 refine⟨?_,fun i j h1 h2 h3=>?_⟩
 ·rw[z55 (f:=h') (g:=h) (a:=x) (b:=x) (n:=y - x) (fun k hk=>hc _ (by omega) (by omega))];exact b.perm
 ·rw[hc i h1 (by omega),hc j (by omega) h3];exact b.sorted i j h1 h2 h3
theorem Blk.two (b1:Blk key f h x m)(b2:Blk key f h m y)(hasc:∀ i j,x≤i→i < j→j < y→f i < f j):Two key h x m y:=by
 refine⟨b1.sorted,b2.sorted,fun i j h1 h2 h3 h4=>?_⟩
 obtain⟨u,u1,u2,e1⟩:=b1.mem h1 h2
 obtain⟨v,v1,v2,e2⟩:=b2.mem h3 h4
 rw[e1,e2]
 exact hasc u v u1 (by omega) v2
theorem Blk.merge (b1:Blk key f h x m)(b2:Blk key f h m y)(h1:x≤m)(h2:m≤y)(hS:SM key h x y h'):Blk key f h' x y:=by
 refine⟨hS.perm.trans ?_,hS.sorted⟩
 have e:∀ g:Nat→Int,seg g x (y - x)=seg g x (m - x) ++ seg g m (y - m):=fun g=>by
  rw[show y - x=(m - x)+(y - m) by omega,zbi,show x+(m - x)=m by omega]
 rw[e,e]
 exact b1.perm.append b2.perm
theorem Blk.ofSM (hc:∀ k,x≤k→k < y→h k=f k)(hS:SM key h x y h'):Blk key f h' x y:=by
 refine⟨hS.perm.trans ?_,hS.sorted⟩
 rw[z55 (f:=h) (g:=f) (a:=x) (b:=x) (n:=y - x) (fun k hk=>hc _ (by omega) (by omega))]
theorem Blk.toSM (b:Blk key f h 0 y)(hout:∀ k,y≤k→h k=f k):SM key f 0 y h:=⟨fun k hk=>hout k (by omega),b.perm,b.sorted⟩
end
def y2r (key:Int→Int)(f h:Nat→Int)(N bs:Nat):Prop:=(∀ t,bs * t < N→Blk key f h (bs * t) (min (bs * t+bs) N))∧∀ k,N≤k→h k=f k
def UpB (key:Int→Int)(f h0 h:Nat→Int)(N bs a:Nat):Prop:=(∃ t,a=bs * t)∧a≤N∧(∀ t,bs * t < a→Blk key f h (bs * t) (bs * t+bs))∧∀ k,a≤k→h k=h0 k
theorem z7a {bs t u:Nat}(h0:0 < bs)(h:bs * t < bs * u):bs * t+bs≤bs * u:=by
 have:t < u:=Nat.lt_of_mul_lt_mul_left h
 have:=Nat.mul_le_mul_left bs (Nat.succ_le_of_lt this)
 rw[Nat.mul_succ] at this;exact this
theorem UpB.next {key:Int→Int}{f h0 h h':Nat→Int}{N bs a:Nat}(h0':0 < bs)(U:UpB key f h0 h N bs a)(hb:a+bs≤N)(hB:Blk key f h' a (a+bs))(ho:∀ k,k < a∨a+bs≤k→h' k=h k):UpB key f h0 h' N bs (a+bs):=by
 obtain⟨⟨t,ht⟩,u1,u2,u3⟩:=U
 refine⟨⟨t+1,by rw[ht,Nat.mul_succ]⟩,hb,fun u hu=>?_,fun k hk=>by rw[ho k (.inr hk),u3 k (by omega)]⟩
 by_cases e:bs * u < a
 ·have:=z7a h0' (by rw[← ht];exact e:bs * u < bs * t)
  exact (u2 u e).congr fun k g1 g2=>ho k (by omega)
 ·have:bs * u=a:=by
   rw[ht] at e hu ⊢
   have h1:t≤u:=Nat.le_of_mul_le_mul_left (by omega) h0'
   have h2:bs * u < bs * (t+1):=by rw[Nat.mul_succ];exact hu
   have h3:u < t+1:=Nat.lt_of_mul_lt_mul_left h2
   rw[show u=t by omega]
  rw[this];exact hB
theorem UpB.all {key:Int→Int}{f h0 h h':Nat→Int}{N bs a:Nat}(h0':0 < bs)(U:UpB key f h0 h N bs a)(hb:N < a+bs)(hB:a < N→Blk key f h' a N)(ho:∀ k,k < a∨N≤k→h' k=h k)(hf:∀ k,N≤k→h0 k=f k):y2r key f h' N bs:=by
 obtain⟨⟨t,ht⟩,u1,u2,u3⟩:=U
 refine⟨fun u hu=>?_,fun k hk=>by rw[ho k (.inr hk),u3 k (by omega),hf k hk]⟩
 by_cases e:bs * u < a
 ·have:=z7a h0' (by rw[← ht];exact e:bs * u < bs * t)
  rw[Nat.min_eq_left (by omega)]
  exact (u2 u e).congr fun k g1 g2=>ho k (by omega)
 ·have:bs * u=a:=by
   rw[ht] at e hb ⊢
   have h1:t≤u:=Nat.le_of_mul_le_mul_left (by omega) h0'
   have h2:bs * u < bs * (t+1):=by rw[Nat.mul_succ];omega
   have h3:u < t+1:=Nat.lt_of_mul_lt_mul_left h2
   rw[show u=t by omega]
  rw[this] at hu ⊢
  rw[Nat.min_eq_right (by omega)]
  exact hB hu
theorem zuo {f:Nat→Int}{N:Nat}(hasc:∀ i j,i < j→j < N→f i < f j){h:Nat→Int}{a b:Nat}(hb:b≤N)(hc:∀ k,a≤k→h k=f k):∀ i j,a≤i→i < j→j < b→h i ≠ h j:=fun i j h1 h2 h3=>by
 rw[hc i h1,hc j (by omega)]
 have:=hasc i j h2 (by omega)
 omega
abbrev yz8 (h:Nat→Int)(N a q:Nat)(cl:AU):SL:=[(0,0,.view 1000000 0 [] 0 N),(100,0,i64 N),(200,0,cl),(600,0,i64 20),(700,0,i64 a),(800,0,i64 q),(1000000,0,rF h N)]
abbrev yxq (h:Nat→Int)(N bs:Nat)(cl:AU):SL:=[(0,0,.view 1000000 0 [] 0 N),(100,0,i64 N),(200,0,cl),(600,0,i64 bs),(1000000,0,rF h N)]
abbrev yz9 (h:Nat→Int)(N bs a q:Nat)(cl:AU):SL:=[(0,0,.view 1000000 0 [] 0 N),(100,0,i64 N),(200,0,cl),(600,0,i64 bs),(700,0,i64 a),(800,0,i64 q),(1000000,0,rF h N)]
abbrev stQ (f':Nat→Int)(N:Nat):Ex→SL→Prop:=fun e L=>(e=Ex.nrm∨e=Ex.ret)∧RetOk zsn.rs [.nod (rF f' N)] (.tuple []) L
set_option maxHeartbeats 16000000 in
theorem zi6 {key:Int→Int}{In:Int→Prop}{g:Nat}{cs:List AU}(hcl:zul key In g cs)(f:Nat→Int)(N:Nat)(hN:N≤100000000)(hIn:∀ k,k < N→In (f k))(hasc:∀ i j,i < j→j < N→f i < f j)
  (f':Nat→Int) (hf':SM key f 0 N f') (h:Nat→Int) (hA:y2r key f h N 20):WL Try.prog zsn.nt zoz (yxq h N 20 (.clos g [.vptr () cs])) (stQ f' N):=by
 have hNs:z0c N:=by unfold z0c;omega
 refine WL.block (WL.loop (ι:={x:(Nat→Int) × Nat // y2r key f x.1 N x.2∧0 < x.2∧x.2≤200000020}) (fun x=>yxq x.1.1 N x.1.2 (.clos g [.vptr () cs])) (fun x=>N - x.1.2) ⟨(h,20),hA,by simp,by simp⟩ (by simp) fun x=>?_)
 obtain⟨⟨h0,bs⟩,hA0,hbs,hbs2⟩:=x
 simp only at hA0 hbs hbs2 ⊢
 by_cases hlt:bs < N
 ·refine WL.seq (WL.sreg (by simp[hlt];rfl) (by simp;rfl) ?_)
  refine WL.cond (t:=true) (by simp[hlt]) (fun _=>WL.skip ?_) (by simp)
  have w2:IntKind.wrap .i64 (2 * (bs:Int))=((2 * bs:Nat):Int):=by rw[z01 (by omega) (by omega)];omega
  have w2':IntKind.wrap .i64 ((bs:Int) * 2)=((2 * bs:Nat):Int):=by rw[z01 (by omega) (by omega)];omega
  obtain⟨d,hd⟩:∃ d,d=2 * bs:=⟨_,rfl⟩
  rw[← hd] at w2 w2'
  refine WL.block (WL.sreg (by simp[w2];rfl) (by simp;rfl) ?_)
  refine WL.seq (WL.block (WL.loop (ι:={x:(Nat→Int) × Nat // UpB key f h0 x.1 N d x.2}) (fun x=>yz9 x.1.1 N bs x.1.2 (x.1.2+2 * bs) (.clos g [.vptr () cs])) (fun x=>N - x.1.2)
   ⟨(h0,0),⟨0,by simp⟩,Nat.zero_le _,fun t ht=>absurd ht (Nat.not_lt_zero _),fun k _=>rfl⟩ (by simp[hd]) fun x=>?_))
  obtain⟨⟨h1,a⟩,U⟩:=x
  simp only at U ⊢
  obtain⟨⟨t,ht⟩,haN,_,hrest⟩:=id U
  have hta:bs * (2 * t)=a:=by rw[ht,hd];rw[← Nat.mul_assoc,Nat.mul_comm bs 2]
  have hta2:bs * (2 * t+1)=a+bs:=by rw[Nat.mul_succ,hta]
  have w3:IntKind.wrap .i64 ((a:Int)+(bs:Int))=((a+bs:Nat):Int):=by rw[z01 (by omega) (by omega)];omega
  obtain⟨p,hp⟩:∃ p,p=a+bs:=⟨_,rfl⟩
  rw[← hp] at w3
  obtain⟨q,hq⟩:∃ q,q=a+2 * bs:=⟨_,rfl⟩
  rw[← hq]
  have hIn1:∀ k,k < N→In (h1 k):=fun k hk=>by
   obtain⟨_,_,hbl,_⟩:=U
   by_cases hka:k < a
   ·-- in a block that is done
    have hd0:0 < d:=by omega
    have hk1:d * (k / d)≤k:=Nat.mul_div_le k d
    have hk2:k < d * (k / d)+d:=by have:=Nat.lt_mul_div_succ k hd0;rwa [Nat.mul_succ] at this
    have hk3:d * (k / d)+d≤a:=by rw[ht];exact z7a hd0 (by rw[← ht];omega)
    obtain⟨u,u1,u2,e⟩:=(hbl (k / d) (by omega)).mem hk1 hk2
    rw[e];exact hIn u (by omega)
   ·rw[hrest k (by omega)]
    have hk1:bs * (k / bs)≤k:=Nat.mul_div_le k bs
    have hk2:k < bs * (k / bs)+bs:=by have:=Nat.lt_mul_div_succ k hbs;rwa [Nat.mul_succ] at this
    obtain⟨u,u1,u2,e⟩:=(hA0.1 (k / bs) (by omega)).mem hk1 (by omega)
    rw[e];exact hIn u (by omega)
  by_cases hqN:q≤N
  ·have b1:Blk key f h1 a p:=by
    have:=hA0.1 (2 * t) (by omega)
    rw[hta,Nat.min_eq_left (by omega),← hp] at this
    exact this.congr fun k g1 _=>hrest k g1
   have b2:Blk key f h1 p q:=by
    have:=hA0.1 (2 * t+1) (by omega)
    rw[hta2,Nat.min_eq_left (by omega),← hp,show p+bs=q by omega] at this
    exact this.congr fun k g1 _=>hrest k (by omega)
   have T:=b1.two b2 (fun i j _ g2 g3=>hasc i j g2 (by omega))
   obtain⟨h2,hS⟩:=T.ex (by omega)
   have hc:=zpf hcl N hNs (q - a+1) h1 a p q (by omega) (by omega) (by omega) hqN hIn1 T h2 hS
   refine WL.seq (WL.sreg (by simp[hqN];rfl) (by simp;rfl) ?_)
   refine WL.cond (t:=true) (by simp[hqN]) (fun _=>WL.skip ?_) (by simp)
   refine WL.block (WL.sregC (RL.o (by simp[w3];rfl) (RL.callK false [(1000000,[])] hc (by simp) (by simp) (by simp[z35]) (by simp) (by simp) (RL.nil ⟨_,by simp;rfl,?_⟩))))
   have w4:IntKind.wrap .i64 ((q:Int)+(d:Int))=((q+d:Nat):Int):=by rw[z01 (by omega) (by omega)];omega
   refine WL.sreg (by simp;rfl) (by simp;rfl) ?_
   refine WL.reg (RL.run (by simp[w2,w4];rfl) ⟨_,by simp;rfl,?_⟩)
   refine⟨⟨(h2,q),?_⟩,by simp[hd],by simp only;omega⟩
   have:=U.next (h':=h2) (by omega) (by omega) (by rw[show a+d=q by omega];exact b1.merge b2 (by omega) (by omega) hS) (fun k hk=>hS.out k (by omega))
   rwa [show a+d=q by omega] at this
  ·refine WL.seq (WL.sreg (by simp[hqN];rfl) (by simp;rfl) ?_)
   refine WL.cond (t:=false) (by simp[hqN]) (by simp) fun _=>WL.exit ?_
   refine WL.seq (WL.sreg (by simp[w3];rfl) (by simp;rfl) ?_)
   by_cases hpN:p < N
   ·have b1:Blk key f h1 a p:=by
     have:=hA0.1 (2 * t) (by omega)
     rw[hta,Nat.min_eq_left (by omega),← hp] at this
     exact this.congr fun k g1 _=>hrest k g1
    have b2:Blk key f h1 p N:=by
     have:=hA0.1 (2 * t+1) (by omega)
     rw[hta2,Nat.min_eq_right (by omega),← hp] at this
     exact this.congr fun k g1 _=>hrest k (by omega)
    have T:=b1.two b2 (fun i j _ g2 g3=>hasc i j g2 (by omega))
    obtain⟨h2,hS⟩:=T.ex (by omega)
    have hc:=zpf hcl N hNs (N - a+1) h1 a p N (by omega) (by omega) hpN (Nat.le_refl _) hIn1 T h2 hS
    have hAll:y2r key f h2 N d:=U.all (by omega) (by omega) (fun _=>b1.merge b2 (by omega) (by omega) hS) (fun k hk=>hS.out k hk) hA0.2
    refine WL.sreg (by simp[hpN];rfl) (by simp;rfl) ?_
    refine WL.cond (t:=true) (by simp[hpN]) (fun _=>?_) (by simp)
    refine WL.reg (RL.o (by simp;rfl) (RL.callK false [(1000000,[])] hc (by simp) (by simp) (by simp[z35]) (by simp) (by simp) (RL.nil ⟨_,by simp;rfl,?_⟩)))
    refine WL.reg (RL.run (by simp[w2'];rfl) ⟨_,by simp;rfl,?_⟩)
    exact⟨⟨(h2,d),hAll,by simp only;omega,by simp only;omega⟩,by simp,by simp only;omega⟩
   ·have hAll:y2r key f h1 N d:=U.all (by omega) (by omega) (fun haN'=>by
     have:=hA0.1 (2 * t) (by omega)
     rw[hta,Nat.min_eq_right (by omega)] at this
     exact this.congr fun k g1 _=>hrest k g1) (fun k _=>rfl) hA0.2
    refine WL.sreg (by simp[hpN];rfl) (by simp;rfl) ?_
    refine WL.cond (t:=false) (by simp[hpN]) (by simp) fun _=>WL.skip ?_
    refine WL.reg (RL.run (by simp[w2'];rfl) ⟨_,by simp;rfl,?_⟩)
    exact⟨⟨(h1,d),hAll,by simp only;omega,by simp only;omega⟩,by simp,by simp only;omega⟩
 ·refine WL.seq (WL.sreg (by simp[hlt];rfl) (by simp;rfl) ?_)
  refine WL.cond (t:=false) (by simp[hlt]) (by simp) fun _=>WL.exit ?_
  have hS:SM key f 0 N h0:=by
   rcases Nat.eq_zero_or_pos N with e | e
   ·subst e
    exact⟨fun k hk=>hA0.2 k (by omega),by simp[seg],fun i j _ _ hj=>by omega⟩
   ·have:=hA0.1 0 (by simpa using e)
    rw[Nat.mul_zero,Nat.min_eq_right (by omega)] at this
    exact this.toSM hA0.2
  obtain rfl:=z2o hS hf'
  refine⟨.inl rfl,?_⟩
  simp[zsn]
set_option maxHeartbeats 16000000 in
theorem zpg {key:Int→Int}{In:Int→Prop}{g:Nat}{cs:List AU}(hcl:zul key In g cs)(f:Nat→Int)(N:Nat)(hN:N≤100000000)(hIn:∀ k,k < N→In (f k))(hasc:∀ i j,i < j→j < N→f i < f j)
  (f':Nat→Int) (hf':SM key f 0 N f'):FnC Try.prog 138 [.nod (rF f N)] [.view 1000000 0 [] 0 N,i64 N,.clos g [.vptr () cs]] [.nod (rF f' N)] (.tuple []):=by
 have hNs:z0c N:=by unfold z0c;omega
 refine FnC.go yuu rfl ?_
 refine WL.sreg (by simp;rfl) (by simp;rfl) ?_
 refine WL.sreg (by simp;rfl) (by simp;rfl) ?_
 refine WL.seq (WL.block (WL.loop (ι:={x:(Nat→Int) × Nat // UpB key f f x.1 N 20 x.2}) (fun x=>yz8 x.1.1 N x.1.2 (x.1.2+20) (.clos g [.vptr () cs])) (fun x=>N - x.1.2)
  ⟨(f,0),⟨0,by simp⟩,Nat.zero_le _,fun t ht=>absurd ht (Nat.not_lt_zero _),fun k _=>rfl⟩ (by simp) fun x=>?_))
 obtain⟨⟨h,a⟩,U⟩:=x
 simp only at U ⊢
 obtain⟨⟨t,ht⟩,haN,hbl,hrest⟩:=id U
 have hIn1:∀ k,k < N→In (h k):=fun k hk=>by
  by_cases hka:k < a
  ·have hk1:20 * (k / 20)≤k:=Nat.mul_div_le k 20
   have hk2:k < 20 * (k / 20)+20:=by omega
   have hk3:20 * (k / 20)+20≤a:=by omega
   obtain⟨u,u1,u2,e⟩:=(hbl (k / 20) (by omega)).mem hk1 hk2
   rw[e];exact hIn u (by omega)
  ·rw[hrest k (by omega)];exact hIn k hk
 obtain⟨q,hq⟩:∃ q,q=a+20:=⟨_,rfl⟩
 rw[← hq]
 by_cases hqN:q≤N
 ·obtain⟨h2,hS⟩:=zbn key h (by omega:a≤q) (zuo hasc hqN hrest)
  have hc:=zun hcl h N a q hNs (by omega) hqN hIn1 (fun i j g1 g2 g3=>by rw[hrest i g1,hrest j (by omega)];exact hasc i j g2 (by omega)) h2 hS
  refine WL.seq (WL.sreg (by simp[hqN];rfl) (by simp;rfl) ?_)
  refine WL.cond (t:=true) (by simp[hqN]) (fun _=>WL.skip ?_) (by simp)
  refine WL.block (WL.sregC (RL.o (by simp;rfl) (RL.callK false [(1000000,[])] hc (by simp) (by simp) (by simp[z35]) (by simp) (by simp) (RL.nil ⟨_,by simp;rfl,?_⟩))))
  have w4:IntKind.wrap .i64 ((q:Int)+20)=((q+20:Nat):Int):=by rw[z01 (by omega) (by omega)];omega
  refine WL.sreg (by simp;rfl) (by simp;rfl) ?_
  refine WL.reg (RL.run (by simp[w4];rfl) ⟨_,by simp;rfl,?_⟩)
  refine⟨⟨(h2,q),?_⟩,by simp,by simp only;omega⟩
  have:=U.next (h':=h2) (by decide) (by omega) (by rw[← hq];exact Blk.ofSM (fun k g1 _=>hrest k g1) hS) (fun k hk=>hS.out k (by omega))
  rwa [← hq] at this
 ·refine WL.seq (WL.sreg (by simp[hqN];rfl) (by simp;rfl) ?_)
  refine WL.cond (t:=false) (by simp[hqN]) (by simp) fun _=>WL.exit ?_
  obtain⟨h2,hS⟩:=zbn key h haN (zuo hasc (Nat.le_refl N) hrest)
  have hc:=zun hcl h N a N hNs haN (Nat.le_refl _) hIn1 (fun i j g1 g2 g3=>by rw[hrest i g1,hrest j (by omega)];exact hasc i j g2 g3) h2 hS
  have hAll:y2r key f h2 N 20:=U.all (by decide) (by omega) (fun _=>Blk.ofSM (fun k g1 _=>hrest k g1) hS) (fun k hk=>hS.out k hk) (fun k _=>rfl)
  refine WL.sregC (RL.o (by simp;rfl) (RL.callK false [(1000000,[])] hc (by simp) (by simp) (by simp[z35]) (by simp) (by simp) (RL.nil ⟨_,by simp;rfl,?_⟩)))
  exact zi6 hcl f N hN hIn hasc f' hf' h2 hAll
end Go.OT
namespace Go.OT
open Go.Proofs
def z6n (s:St)(c h:Int):Int:=if c < 0∨(s.Handles.length:Int)≤c∨h < 0∨((s.Handles.getD c.toNat []).length:Int)≤h then -1 else (s.Handles.getD c.toNat []).getD h.toNat 0
set_option maxHeartbeats 1000000 in
theorem y04 (s:St)(c h:Int):FnC Try.prog 124 [] [ycj false s,i64 c,i64 h] [] (i64 (z6n s c h)):=by
 refine FnC.go yr0 rfl ?_
 refine WL.sreg (by simp;rfl) (by simp;rfl) ?_
 refine WL.seq ?_
 by_cases h1:c < 0
 ·refine WL.sreg (by simp[h1];rfl) (by simp;rfl) ?_
  refine WL.cond (t:=true) (by simp) (fun _=>WL.sreg (by simp;rfl) (by simp;rfl) (WL.ret ⟨.inr rfl,?_⟩)) (by simp)
  simp[zl6,z6n,h1]
 obtain⟨c,rfl⟩:=Int.eq_ofNat_of_zero_le (a:=c) (by omega)
 by_cases h2:(s.Handles.length:Int)≤c
 ·have h2':s.Handles.length≤c:=by omega
  refine WL.sreg (by simp[h1,h2'];rfl) (by simp;rfl) ?_
  refine WL.cond (t:=true) (by simp) (fun _=>WL.sreg (by simp;rfl) (by simp;rfl) (WL.ret ⟨.inr rfl,?_⟩)) (by simp)
  simp[zl6,z6n,h2']
 have hc:c < s.Handles.length:=by omega
 have hc':¬ s.Handles.length≤c:=by omega
 by_cases h3:h < 0
 ·refine WL.sreg (by simp[h1,hc',hc,h3];rfl) (by simp;rfl) ?_
  refine WL.cond (t:=true) (by simp) (fun _=>WL.sreg (by simp;rfl) (by simp;rfl) (WL.ret ⟨.inr rfl,?_⟩)) (by simp)
  simp[zl6,z6n,h3]
 obtain⟨k,rfl⟩:=Int.eq_ofNat_of_zero_le (a:=h) (by omega)
 by_cases h4:s.Handles[c].length≤k
 ·refine WL.sreg (by simp[h1,h3,hc',hc,h4];rfl) (by simp;rfl) ?_
  refine WL.cond (t:=true) (by simp) (fun _=>WL.sreg (by simp;rfl) (by simp;rfl) (WL.ret ⟨.inr rfl,?_⟩)) (by simp)
  simp[zl6,z6n,hc,h4]
 ·have hk:k < s.Handles[c].length:=by omega
  refine WL.sreg (by simp[h1,h3,hc',hc,h4];rfl) (by simp;rfl) ?_
  refine WL.cond (t:=false) (by simp) (by simp) (fun _=>WL.skip ?_)
  refine WL.sreg (by simp[hc,hk];rfl) (by simp;rfl) (WL.ret ⟨.inr rfl,?_⟩)
  simp[zl6,z6n,hc,hc',h4,hk,h1,h3]
end Go.OT
namespace Go.OT
open Go.Proofs
theorem z2h (l:List UInt8):(z3g l).size=l.length:=by simp[z3g,ByteArray.size]
end Go.OT
namespace Go.OT
open Go.Proofs
end Go.OT
namespace Go.OT
open Go.Proofs
theorem zph {l:List Cl}{i:Nat}(h:i < l.length):(l.flatMap (z62 false)).drop (i * 7)=z62 false l[i] ++ (l.drop (i+1)).flatMap (z62 false):=by
 induction l generalizing i with
 | nil=>simp at h
 | cons a l ih =>
  cases i with
  | zero=>simp [List.flatMap_cons]
  | succ i =>
   rw[List.flatMap_cons,List.drop_append,List.drop_of_length_le (by simp;omega)]
   have:(i+1) * 7 - (z62 false a).length=i * 7:=by simp;omega
   rw[this,ih (by simpa using h)]
   simp
def es (l:List Cl):Nat→St
 | 0=>z0p 5 3
 | i+1=>match l[i]? with
  | some c=>(DoB (es l i) (ze2 c 5 3).Client (ze2 c 5 3).op).2.1
  | none=>es l i
end Go.OT
namespace Go.OT
open Go.Proofs
abbrev sCl (l:List Cl):AU:=.sl false () 7 l.length (l.flatMap (z62 false))
end Go.OT
namespace Go.OT
open Go.Proofs
def zi7 (l:List Int):Int:=ixF (fun p=>decide (p < 0)) l 0
set_option maxHeartbeats 2000000 in
theorem zpi (s:St)(T B:AU)(hT:T=sB false s.There)(hB:B=sS false s.Body)(c:Nat)(hc:c < s.Handles.length)(hs:z0c s.Handles[c].length)(page:Int)(k:Nat)(hk:k < s.Handles[c].length)(hfree:zi7 s.Handles[c]=(k:Int)) :
  FnC Try.prog 126 [.nod (sII true s.Handles)] [.agg [T,B,.view 1000000 0 [] 0 s.Handles.length],i64 c,i64 page] [.nod (sII true (s.Handles.set c (s.Handles[c].set k page)))] (i64 k):=by
 subst hT hB
 have hc1:c+1≤s.Handles.length:=hc
 refine FnC.go yr2 rfl ?_
 refine WL.sregC (RL.boxW (by simp;rfl) (by simp) (by simp[zh2]) (by simp) (RL.o (by simp;rfl) (RL.nil ⟨_,by simp;rfl,?_⟩)))
 refine WL.seq (WL.sreg (by simp;rfl) (by simp;rfl) ?_)
 refine WL.block (WL.count s.Handles[c].length (fun i=>[(100,0,i64 c),(200,0,i64 page),(300,0,.bptr 3 1 0),(301,0,sB false s.There),(302,0,sS false s.Body),(303,0,.view 1000000 0 [] 0 s.Handles.length),(399,1,.non),(700,0,i64 i),(1000000,0,sII true s.Handles)]) (fun i=>ixF (fun p=>decide (p < 0)) (s.Handles[c].drop i) i=(k:Int)) rfl (by simpa [zi7] using hfree) fun i hi hp=>?_)
 by_cases h:i < s.Handles[c].length
 ·have hi1:i+1≤s.Handles[c].length:=h
  rw[z6h _ _ _ h] at hp
  refine WL.seq (WL.sreg (by simp[hc,h,hc1,hi1];rfl) (by simp;rfl) ?_)
  refine WL.cond (t:=true) (by simp) (fun _=>WL.skip ?_) (by simp)
  refine WL.seq (WL.block (WL.sreg (by simp[hc,h,hc1,hi1];rfl) (by simp;rfl) ?_))
  by_cases hf:s.Handles[c][i] < 0
  ·refine WL.cond (t:=true) (by simp[hf]) (fun _=>?_) (by simp)
   rw[if_pos (by simpa using hf)] at hp
   obtain rfl:i=k:=by omega
   refine WL.sreg (by simp[hc,h,hc1,hi1];rfl) (by simp;rfl) ?_
   refine WL.sreg (by simp;rfl) (by simp;rfl) ?_
   refine WL.ret ⟨.inr rfl,?_⟩
   simp[yc4,List.map_set,sI]
  ·refine WL.cond (t:=false) (by simp;omega) (by simp) fun _=>WL.skip ?_
   rw[if_neg (by simpa using hf)] at hp
   refine WL.reg (RL.run (by simp[z0n hs h];rfl) ⟨_,by simp;rfl,h,?_,hp⟩)
   simp
 ·rw[zbd _ _ _ h] at hp
  omega
end Go.OT
namespace Go.OT
open Go.Proofs
abbrev gsT (s:St):List (Gh Unit):=[.nod (sB true s.There),.nod (sS true s.Body),.nod (sII true s.Handles)]
abbrev vwT (s:St):AU:=.agg [.view 1000000 0 [] 0 s.There.length,.view 1000100 0 [] 0 s.Body.length,.view 1000200 0 [] 0 s.Handles.length]
abbrev ghT (s:St):SL:=[(1000000,0,sB true s.There),(1000100,0,sS true s.Body),(1000200,0,sII true s.Handles)]
abbrev rb1 (cl:Int):SL:=[(100,0,i64 cl)]
abbrev rb3 (s:St):SL:=[(300,0,.bptr 3 1 0),(301,0,.view 1000000 0 [] 0 s.There.length),(302,0,.view 1000100 0 [] 0 s.Body.length),(303,0,.view 1000200 0 [] 0 s.Handles.length),(399,1,.non)]
abbrev rb5 (q:Op):SL:=[(500,0,.bptr 5 1 0),(501,0,i64 q.Kind),(502,0,i64 q.Page),(503,0,i64 q.Handle),(504,0,i64 q.Off),(505,0,i64 q.N),(506,0,sU false q.Data),(599,1,.non)]
abbrev rb6:SL:=[(600,0,.bptr 6 1 0),(601,0,i64 0),(602,0,i64 0),(603,0,i64 0),(604,0,.sl true () 1 0 []),(699,1,.non)]
abbrev rbQ (s':St)(r:Rs):Ex→SL→Prop:=fun e L=>e=Ex.ret∧RetOk z3y.rs (gsT s') (za2 true r) L
theorem WL.up {P:Program}{nt:Nat}{cc:Cd}{L:SL}{R:SL→Prop}{Q:Ex→SL→Prop}(h:WL P nt cc L fun e L=>e=Ex.ret∧R L)(hq:∀ L,R L→Q .ret L):WL P nt cc L Q :=
 h.mono fun e L ⟨h1,h2⟩=>by subst h1;exact hq L h2
abbrev rbA (s:St)(cl:Int)(q:Op):SL:=rb1 cl ++ (rb3 s ++ (rb5 q ++ rb6))
set_option maxHeartbeats 4000000 in
theorem zst (s:St)(cl:Int)(q:Op)(s':St)(r:Rs)
  (h1:(cl < 0∨(s.Handles.length:Int)≤cl∨q.Kind < 1∨8 < q.Kind)→WL Try.prog z3y.nt zxo (rbA s cl q ++ ((2600,0,bl true) :: ghT s)) (rbQ s' r))
  (h2:¬ (cl < 0∨(s.Handles.length:Int)≤cl∨q.Kind < 1∨8 < q.Kind)→WL Try.prog z3y.nt zbg (rbA s cl q ++ ((2600,0,bl false) :: ghT s)) (rbQ s' r)) :
  FnC Try.prog 77 (gsT s) [vwT s,i64 cl,zqz false q] (gsT s') (za2 true r):=by
 refine FnC.go yyk rfl ?_
 refine WL.sregC (RL.boxW (by simp;rfl) (by simp) (by simp[zh2]) (by simp) ?_)
 refine RL.o (by simp;rfl) (RL.nil ⟨_,by simp;rfl,?_⟩)
 refine WL.seq ?_
 by_cases k1:cl < 0
 ·refine WL.sreg (by simp[k1];rfl) (by simp;rfl) ?_
  exact WL.cond (t:=true) (by simp) (fun _=>(h1 (.inl k1)).up fun _ h=>⟨.inr rfl,h⟩) (by simp)
 by_cases k2:(s.Handles.length:Int)≤cl
 ·refine WL.sreg (by simp[k1,k2];rfl) (by simp;rfl) ?_
  exact WL.cond (t:=true) (by simp) (fun _=>(h1 (.inr (.inl k2))).up fun _ h=>⟨.inr rfl,h⟩) (by simp)
 by_cases k3:q.Kind < 1
 ·refine WL.sreg (by simp[k1,k2,k3];rfl) (by simp;rfl) ?_
  exact WL.cond (t:=true) (by simp) (fun _=>(h1 (.inr (.inr (.inl k3)))).up fun _ h=>⟨.inr rfl,h⟩) (by simp)
 by_cases k4:8 < q.Kind
 ·refine WL.sreg (by simp[k1,k2,k3,k4];rfl) (by simp;rfl) ?_
  exact WL.cond (t:=true) (by simp) (fun _=>(h1 (.inr (.inr (.inr k4)))).up fun _ h=>⟨.inr rfl,h⟩) (by simp)
 ·refine WL.sreg (by simp[k1,k2,k3,k4];rfl) (by simp;rfl) ?_
  exact WL.cond (t:=false) (by simp) (by simp) (fun _=>WL.skip ((h2 (by omega)).up fun _ h=>⟨.inr rfl,h⟩))
end Go.OT
namespace Go.OT
open Go.Proofs
abbrev rbP (s:St)(cl:Int)(q:Op)(p:Int)(t:SL):SL:=rb1 cl ++ (rb3 s ++ (rb5 q ++ (rb6 ++ ((700,0,i64 p) :: (t ++ ghT s)))))
set_option maxHeartbeats 4000000 in
theorem y05 (s:St)(cl:Int)(q:Op):WL Try.prog z3y.nt zxo (rbA s cl q ++ ((2600,0,bl true) :: ghT s)) (rbQ s (rsE 1)):=by
 refine WL.sregC (RL.call0 false (z2l 1) (by simp) (by simp) (RL.o (by simp;rfl) (RL.nil ⟨_,by simp;rfl,?_⟩)))
 refine WL.ret ⟨rfl,?_⟩
 simp[z3y,rsE]
set_option maxHeartbeats 4000000 in
theorem y06 (s:St)(cl:Int)(q:Op)(s':St)(r:Rs)(hk:q.Kind=2∨q.Kind=6∨q.Kind=8)(hsm:z0c s.There.length)
  (e1:z39 s q.Page=false→s'=s∧r=rsE 1)
  (e2:z39 s q.Page=true→z2k s q.Page=false→s'=s∧r=rsE 2)
  (k:z2k s q.Page=true→WL Try.prog z3y.nt zd2 (rbP s cl q q.Page [(5800,0,bl false)]) (rbQ s' r)) :
  WL Try.prog z3y.nt zbg (rbA s cl q ++ ((2600,0,bl false) :: ghT s)) (rbQ s' r):=by
 refine WL.sreg (by simp;rfl) (by simp;rfl) ?_
 refine WL.seq ?_
 suffices h:WL Try.prog z3y.nt y9t (rbP s cl q q.Page [(4200,0,bl true)]) (Ex.thenL (fun L'=>WL Try.prog z3y.nt zd2 L' (rbQ s' r)) (rbQ s' r)) by
  clear e1 e2 k
  obtain⟨K,Pg,Hd,Of,Nn,Dt⟩:=q
  rcases hk with hk | hk | hk<;>(simp only at hk;subst hk;exact WL.sreg (by simp<;>rfl) (by simp<;>rfl) h)
 refine WL.cond (t:=true) (by simp) (fun _=>?_) (by simp)
 refine WL.seq ?_
 by_cases h1:q.Page < 0
 ·obtain⟨a,b⟩:=e1 (by simp[z39];omega)
  subst a b
  refine WL.sreg (by simp[h1];rfl) (by simp;rfl) ?_
  refine WL.cond (t:=true) (by simp) (fun _=>?_) (by simp)
  refine WL.sregC (RL.call0 false (z2l 1) (by simp) (by simp) (RL.o (by simp;rfl) (RL.nil ⟨_,by simp;rfl,?_⟩)))
  refine WL.ret ⟨rfl,?_⟩
  simp[z3y,rsE]
 obtain⟨p,hp⟩:=Int.eq_ofNat_of_zero_le (a:=q.Page) (by omega)
 by_cases h2:s.There.length≤p
 ·obtain⟨a,b⟩:=e1 (by simp[z39,hp];omega)
  subst a b
  refine WL.sreg (by simp[hp,h2];rfl) (by simp;rfl) ?_
  refine WL.cond (t:=true) (by simp[h2]) (fun _=>?_) (by simp)
  refine WL.sregC (RL.call0 false (z2l 1) (by simp) (by simp) (RL.o (by simp;rfl) (RL.nil ⟨_,by simp;rfl,?_⟩)))
  refine WL.ret ⟨rfl,?_⟩
  simp[z3y,rsE]
 have h2':p < s.There.length:=by omega
 refine WL.sreg (by simp[hp,h2,h2'];rfl) (by simp;rfl) ?_
 refine WL.cond (t:=false) (by simp[h2,h2']) (by simp) (fun _=>WL.skip ?_)
 refine WL.sreg (by simp[h2',Nat.succ_le_of_lt h2'];rfl) (by simp;rfl) ?_
 have hth:z2k s q.Page=s.There[p]:=by simp[z2k,z39,hp,h2']
 cases h3:s.There[p] with
 | false =>
  obtain⟨a,b⟩:=e2 (by simp[z39,hp];omega) (by rw[hth,h3])
  subst a b
  refine WL.cond (t:=true) (by simp[h3]) (fun _=>?_) (by simp)
  refine WL.sregC (RL.call0 false (z2l 2) (by simp) (by simp) (RL.o (by simp;rfl) (RL.nil ⟨_,by simp;rfl,?_⟩)))
  refine WL.ret ⟨rfl,?_⟩
  simp[z3y,rsE]
 | true =>
  refine WL.cond (t:=false) (by simp[h3]) (by simp) (fun _=>WL.skip ?_)
  have:=k (by rw[hth,h3])
  simp only[rbP,rb5,hp] at this
  exact this
set_option maxHeartbeats 4000000 in
theorem y07 (s:St)(cl:Int)(q:Op)(s':St)(r:Rs)(hk:q.Kind=3∨q.Kind=4∨q.Kind=5)
  (e5:z6n s cl q.Handle < 0→s'=s∧r=rsE 5)
  (k:0≤z6n s cl q.Handle→WL Try.prog z3y.nt zd1 (rbP s cl q (z6n s cl q.Handle) [(7900,0,bl false)]) (rbQ s' r)) :
  WL Try.prog z3y.nt zbg (rbA s cl q ++ ((2600,0,bl false) :: ghT s)) (rbQ s' r):=by
 refine WL.sreg (by simp;rfl) (by simp;rfl) ?_
 refine WL.seq ?_
 suffices h:WL Try.prog z3y.nt zua (rbP s cl q q.Page [(7200,0,bl true)]) (Ex.thenL (fun L'=>WL Try.prog z3y.nt zd1 L' (rbQ s' r)) (rbQ s' r)) by
  clear e5 k
  obtain⟨K,Pg,Hd,Of,Nn,Dt⟩:=q
  rcases hk with hk | hk | hk<;>(simp only at hk;subst hk;exact WL.sreg (by simp<;>rfl) (by simp<;>rfl) (WL.cond (t:=false) (by simp) (by simp) fun _=>WL.skip (WL.seq (WL.sreg (by simp<;>rfl) (by simp<;>rfl) h))))
 refine WL.cond (t:=true) (by simp) (fun _=>?_) (by simp)
 refine WL.sregC (RL.o (by simp;rfl) (RL.call0 true (y04 s cl q.Handle) (by simp) (by simp) (RL.o (by simp;rfl) (RL.nil ⟨_,by simp;rfl,?_⟩))))
 refine WL.sreg (by simp;rfl) (by simp;rfl) ?_
 by_cases h1:z6n s cl q.Handle < 0
 ·obtain⟨a,b⟩:=e5 h1
  subst a b
  refine WL.cond (t:=true) (by simp[h1]) (fun _=>?_) (by simp)
  refine WL.sregC (RL.call0 false (z2l 5) (by simp) (by simp) (RL.o (by simp;rfl) (RL.nil ⟨_,by simp;rfl,?_⟩)))
  refine WL.ret ⟨rfl,?_⟩
  simp[z3y,rsE]
 ·refine WL.cond (t:=false) (by simp;omega) (by simp) (fun _=>WL.skip ?_)
  have d:decide (z6n s cl q.Handle < 0)=false:=by simpa using Int.not_lt.1 h1
  rw[d]
  exact k (by omega)
end Go.OT
namespace Go.OT
open Go.Proofs
theorem yme:∀ l:List Int,z1y (l.map i64)=true
 | []=>rfl
 | _ :: l=>yme l
theorem yv0:∀ l:List Bool,z1y (l.map bl)=true
 | []=>rfl
 | _ :: l=>yv0 l
theorem yv1:∀ l:List (List UInt8),z1y (l.map str)=true
 | []=>rfl
 | _ :: l=>yv1 l
theorem zsu:∀ l:List (List Int),z1y (l.map (sI true))=true
 | []=>rfl
 | a :: l=>by
  show (z0y (sI true a:AU) && z1y (l.map (sI true)))=true
  rw[zsu l,Bool.and_true]
  simp only[z0y,yme,Bool.and_self]
theorem zgh (H H':List (List Int))(hl:H'.length=H.length)(k:Int):z1a true [.nod (sII true H)] [.nod (sII true H')] (i64 k)=true:=by
 have:z0y (sII true H':AU)=true:=by simp only[z0y,zsu,Bool.and_self]
 simp only[z1a,List.all_cons,List.all_nil,z5c,this]
 simp[hl]
abbrev rsO:Rs:=⟨0,0,0,[]⟩
set_option maxHeartbeats 4000000 in
theorem zsv (s:St)(cl:Int)(P Hd Of Nn:Int)(D:List UInt8):WL Try.prog z3y.nt zd2 (rbP s cl ⟨6,P,Hd,Of,Nn,D⟩ P [(5800,0,bl false)]) (rbQ s rsO):=by
 refine WL.seq (WL.sreg (by simp<;>rfl) (by simp<;>rfl) ?_)
 refine WL.cond (t:=false) (by simp) (by simp) (fun _=>WL.skip ?_)
 refine WL.seq (WL.sreg (by simp<;>rfl) (by simp<;>rfl) ?_)
 refine WL.block (WL.sreg (by simp<;>rfl) (by simp<;>rfl) ?_)
 refine WL.cond (t:=false) (by simp) (by simp) (fun _=>WL.sreg (by simp<;>rfl) (by simp<;>rfl) ?_)
 refine WL.cond (t:=false) (by simp) (by simp) (fun _=>WL.sreg (by simp<;>rfl) (by simp<;>rfl) ?_)
 refine WL.cond (t:=false) (by simp) (by simp) (fun _=>WL.sreg (by simp<;>rfl) (by simp<;>rfl) ?_)
 refine WL.cond (t:=false) (by simp) (by simp) (fun _=>WL.sreg (by simp<;>rfl) (by simp<;>rfl) ?_)
 refine WL.cond (t:=false) (by simp) (by simp) (fun _=>WL.sreg (by simp<;>rfl) (by simp<;>rfl) ?_)
 refine WL.cond (t:=false) (by simp) (by simp) (fun _=>WL.skip ?_)
 refine WL.sreg (by simp<;>rfl) (by simp<;>rfl) (WL.nil1 604 true 1 (by simp) (WL.ret ⟨rfl,?_⟩))
 simp[z3y]
set_option maxHeartbeats 4000000 in
theorem zsw (s:St)(c:Nat)(hc:c < s.Handles.length)(hs:z0c s.Handles[c].length)(P Hd Of Nn:Int)(D:List UInt8)(s':St)(r:Rs)
  (e4:z8w s.Handles[c]=false→s'=s∧r=rsE 4) (k:Nat) (ek:z8w s.Handles[c]=true→k < s.Handles[c].length∧zi7 s.Handles[c]=(k:Int)∧s'=⟨s.There,s.Body,s.Handles.set c (s.Handles[c].set k P)⟩∧r=⟨0,P,k,[]⟩) :
  WL Try.prog z3y.nt zd2 (rbP s c ⟨2,P,Hd,Of,Nn,D⟩ P [(5800,0,bl false)]) (rbQ s' r):=by
 refine WL.seq (WL.sreg (by simp<;>rfl) (by simp<;>rfl) ?_)
 refine WL.cond (t:=false) (by simp) (by simp) (fun _=>WL.skip ?_)
 refine WL.seq (WL.sreg (by simp<;>rfl) (by simp<;>rfl) ?_)
 refine WL.block (WL.sreg (by simp<;>rfl) (by simp<;>rfl) ?_)
 refine WL.cond (t:=false) (by simp) (by simp) (fun _=>WL.sreg (by simp<;>rfl) (by simp<;>rfl) ?_)
 refine WL.cond (t:=true) (by simp) (fun _=>?_) (by simp)
 refine WL.seq (WL.sregC (RL.o (by simp;rfl) (RL.call0 true (zoq s c hc hs) (by simp) (by simp) (RL.o (by simp;rfl) (RL.nil ⟨_,by simp;rfl,?_⟩)))))
 cases h:z8w s.Handles[c] with
 | false =>
  obtain⟨a,b⟩:=e4 h
  subst a b
  refine WL.cond (t:=true) (by simp) (fun _=>?_) (by simp)
  refine WL.sregC (RL.call0 false (z2l 4) (by simp) (by simp) (RL.o (by simp;rfl) (RL.nil ⟨_,by simp;rfl,?_⟩)))
  refine WL.ret ⟨rfl,?_⟩
  simp[z3y,rsE]
 | true =>
  obtain⟨hk,hf,a,b⟩:=ek h
  subst a b
  refine WL.cond (t:=false) (by simp) (by simp) (fun _=>WL.skip ?_)
  refine WL.sregC (RL.o (by simp;rfl) (RL.call true [(1000200,[])] (zpi s _ _ rfl rfl c hc hs P k hk hf) (by simp) (by simp) (by simp[z35]) (zgh _ _ (by simp) _) (RL.o (by simp;rfl) (RL.nil ⟨_,by simp;rfl,?_⟩))))
  refine WL.nil1 604 true 1 (by simp) (WL.ret ⟨rfl,?_⟩)
  simp[z3y]
end Go.OT
namespace Go.OT
open Go.Proofs
theorem zgi (w:List UInt8)(lo hi:Nat):(z3g w).extract lo hi=z3g ((w.drop lo).take (hi - lo)):=by
 apply ByteArray.ext
 rw[ByteArray.data_extract]
 simp[z3g]
theorem zbp (a b:List UInt8):z3g a ++ z3g b=z3g (a ++ b):=by
 apply ByteArray.ext
 simp[z3g]
theorem zi8 (w:List UInt8):(y1x (z3g w):List AU)=w.map fun b=>u8 (b.toNat:Int):=by
 simp[y1x,z4r]
set_option maxHeartbeats 4000000 in
theorem zi9 (s:St)(cl:Int)(P Hd Of Nn:Int)(D:List UInt8):WL Try.prog z3y.nt zbg (rbA s cl ⟨7,P,Hd,Of,Nn,D⟩ ++ ((2600,0,bl false) :: ghT s)) (rbQ s rsO):=by
 refine WL.sreg (by simp<;>rfl) (by simp<;>rfl) ?_
 refine WL.seq (WL.sreg (by simp<;>rfl) (by simp<;>rfl) ?_)
 refine WL.cond (t:=false) (by simp) (by simp) (fun _=>WL.skip ?_)
 refine WL.seq (WL.sreg (by simp<;>rfl) (by simp<;>rfl) ?_)
 refine WL.cond (t:=false) (by simp) (by simp) (fun _=>WL.skip ?_)
 refine WL.seq (WL.sreg (by simp<;>rfl) (by simp<;>rfl) ?_)
 refine WL.block (WL.sreg (by simp<;>rfl) (by simp<;>rfl) ?_)
 refine WL.cond (t:=false) (by simp) (by simp) (fun _=>WL.sreg (by simp<;>rfl) (by simp<;>rfl) ?_)
 refine WL.cond (t:=false) (by simp) (by simp) (fun _=>WL.sreg (by simp<;>rfl) (by simp<;>rfl) ?_)
 refine WL.cond (t:=false) (by simp) (by simp) (fun _=>WL.sreg (by simp<;>rfl) (by simp<;>rfl) ?_)
 refine WL.cond (t:=false) (by simp) (by simp) (fun _=>WL.sreg (by simp<;>rfl) (by simp<;>rfl) ?_)
 refine WL.cond (t:=false) (by simp) (by simp) (fun _=>WL.sreg (by simp<;>rfl) (by simp<;>rfl) ?_)
 refine WL.cond (t:=false) (by simp) (by simp) (fun _=>WL.skip ?_)
 refine WL.sreg (by simp<;>rfl) (by simp<;>rfl) (WL.nil1 604 true 1 (by simp) (WL.ret ⟨rfl,?_⟩))
 simp[z3y]
set_option maxHeartbeats 4000000 in
theorem zsx (s:St)(c:Nat)(hc:c < s.Handles.length)(k:Nat)(hk:k < s.Handles[c].length)(P p Of Nn:Int)(D:List UInt8) :
  WL Try.prog z3y.nt zd1 (rbP s c ⟨5,P,k,Of,Nn,D⟩ p [(7900,0,bl false)]) (rbQ ⟨s.There,s.Body,s.Handles.set c (s.Handles[c].set k (-1))⟩ rsO):=by
 refine WL.seq (WL.sreg (by simp<;>rfl) (by simp<;>rfl) ?_)
 refine WL.block (WL.sreg (by simp<;>rfl) (by simp<;>rfl) ?_)
 refine WL.cond (t:=false) (by simp) (by simp) (fun _=>WL.sreg (by simp<;>rfl) (by simp<;>rfl) ?_)
 refine WL.cond (t:=false) (by simp) (by simp) (fun _=>WL.sreg (by simp<;>rfl) (by simp<;>rfl) ?_)
 refine WL.cond (t:=false) (by simp) (by simp) (fun _=>WL.sreg (by simp<;>rfl) (by simp<;>rfl) ?_)
 refine WL.cond (t:=false) (by simp) (by simp) (fun _=>WL.sreg (by simp<;>rfl) (by simp<;>rfl) ?_)
 refine WL.cond (t:=true) (by simp) (fun _=>?_) (by simp)
 refine WL.draw z0t (by simp[z09,noH]) (DL.o (by simp[hc,hk,Nat.succ_le_of_lt hk,Nat.succ_le_of_lt hc];exact⟨rfl,rfl⟩) (DL.nil ⟨by kernel_rfl,_,by simp;rfl,?_⟩))
 refine WL.sreg (by simp<;>rfl) (by simp<;>rfl) (WL.nil1 604 true 1 (by simp) (WL.ret ⟨rfl,?_⟩))
 simp[z3y,List.map_set,sI]
end Go.OT
namespace Go.OT
open Go.Proofs
def zgj (p:Int)(l:List Int):Nat:=if 0≤p then cnt p l else 0
def z91 (p:Int)(l:List (List Int)):Nat:=if 0≤p then z4x p l else 0
set_option maxHeartbeats 4000000 in
theorem zla (s:St)(hs:Sized s)(p:Int):FnC Try.prog 127 [] [ycj false s,i64 p] [] (i64 (zl3 s p)):=by
 have hP:zl3 s p=(z91 p s.Handles:Nat):=by
  unfold zl3 z91
  by_cases h:p < 0
  ·rw[if_pos h,if_neg (by omega)];rfl
  ·rw[if_neg h,if_pos (by omega)]
 refine FnC.go yr3 rfl ?_
 refine WL.sreg (by simp;rfl) (by simp;rfl) ?_
 refine WL.sreg (by simp;rfl) (by simp;rfl) ?_
 refine WL.seq (WL.sreg (by simp;rfl) (by simp;rfl) ?_)
 refine WL.block (WL.count s.Handles.length (fun i=>[(100,0,i64 p),(200,0,.bptr 2 1 0),(201,0,sB false s.There),(202,0,sS false s.Body),(203,0,sII false s.Handles),(299,1,.non),(500,0,i64 (z91 p (s.Handles.take i))),(600,0,i64 i)]) (fun _=>True) (by simp[z91,z4x]) trivial fun i hi _=>?_)
 have hS:z0c s.Handles.length:=by have:=hs.h;unfold z0c;omega
 by_cases h:i < s.Handles.length
 ·have hi1:i+1≤s.Handles.length:=h
  have hl:s.Handles[i].length≤1000:=hs.hs _ (List.getElem_mem h)
  have hSl:z0c s.Handles[i].length:=by unfold z0c;omega
  have hle:z91 p (s.Handles.take i)≤1000 * 1000:=by
   have h1:=zdz p (s.Handles.take i) (fun l hl=>hs.hs l (List.mem_of_mem_take hl))
   have h2:=hs.h
   simp only[List.length_take] at h1
   unfold z91
   split<;>omega
  have hadd:∀ k,zgj p (s.Handles[i].take k)≤1000:=fun k=>by
   have:=zod p (s.Handles[i].take k)
   simp only[List.length_take] at this
   unfold zgj
   split<;>omega
  refine WL.seq (WL.sreg (by simp[h];rfl) (by simp;rfl) ?_)
  refine WL.cond (t:=true) (by simp) (fun _=>WL.skip ?_) (by simp)
  refine WL.seq (WL.block (WL.sreg (by simp;rfl) (by simp;rfl) ?_))
  refine WL.block (WL.count s.Handles[i].length (fun k=>[(100,0,i64 p),(200,0,.bptr 2 1 0),(201,0,sB false s.There),(202,0,sS false s.Body),(203,0,sII false s.Handles),(299,1,.non),(500,0,i64 (z91 p (s.Handles.take i)+zgj p (s.Handles[i].take k):Nat)),(600,0,i64 i),(700,0,i64 k)]) (fun _=>True) (by simp[zgj,cnt]) trivial fun k hk _=>?_)
  by_cases h':k < s.Handles[i].length
  ·have hk1:k+1≤s.Handles[i].length:=h'
   have hS2:z0c 1000000000:=by unfold z0c;omega
   refine WL.seq (WL.sreg (by simp[h,hi1,h'];rfl) (by simp;rfl) ?_)
   refine WL.cond (t:=true) (by simp) (fun _=>WL.skip ?_) (by simp)
   have hcs:=zjn p s.Handles[i] h'
   have hc:=hadd k
   by_cases e:s.Handles[i][k]=p
   ·by_cases e0:0≤p
    ·rw[if_pos e] at hcs
     have hcs':zgj p (s.Handles[i].take (k+1))=zgj p (s.Handles[i].take k)+1:=by simp only[zgj,if_pos e0,hcs]
     have hw:IntKind.wrap .i64 ((z91 p (s.Handles.take i):Int)+(zgj p (s.Handles[i].take k):Int)+1)=(z91 p (s.Handles.take i):Int)+(zgj p (s.Handles[i].take k):Int)+1:=by
      simpa using z0n hS2 (show z91 p (s.Handles.take i)+zgj p (s.Handles[i].take k) < 1000000000 by omega)
     refine WL.seq (WL.block (WL.sreg (by simp[h,hi1,h',hk1,e,e0];rfl) (by simp;rfl) ?_))
     refine WL.cond (t:=true) (by simp[e0]) (fun _=>?_) (by simp)
     refine WL.reg (RL.run (by simp[hw];rfl) ⟨_,by simp;rfl,?_⟩)
     refine WL.reg (RL.run (by simp[z0n hSl h'];rfl) ⟨_,by simp;rfl,h',?_,trivial⟩)
     simp[hcs']
     omega
    ·have hcs':∀ j,zgj p (s.Handles[i].take j)=0:=fun j=>by simp only[zgj,if_neg e0]
     refine WL.seq (WL.block (WL.sreg (by simp[h,hi1,h',hk1,e,e0];rfl) (by simp;rfl) ?_))
     refine WL.cond (t:=false) (by simp[e0]) (by simp) (fun _=>WL.skip ?_)
     refine WL.reg (RL.run (by simp[z0n hSl h'];rfl) ⟨_,by simp;rfl,h',?_,trivial⟩)
     simp[hcs',e0]
   ·rw[if_neg e] at hcs
    have eb:(s.Handles[i][k] == p)=false:=by simp[e]
    have hcs':zgj p (s.Handles[i].take (k+1))=zgj p (s.Handles[i].take k):=by simp only[zgj,hcs,Nat.add_zero]
    refine WL.seq (WL.block (WL.sreg (by simp[h,hi1,h',hk1,eb];rfl) (by simp;rfl) ?_))
    refine WL.cond (t:=false) (by simp) (by simp) (fun _=>WL.skip ?_)
    refine WL.reg (RL.run (by simp[z0n hSl h'];rfl) ⟨_,by simp;rfl,h',?_,trivial⟩)
    simp[hcs']
  ·refine WL.seq (WL.sreg (by simp[h,hi1,h'];rfl) (by simp;rfl) ?_)
   refine WL.cond (t:=false) (by simp) (by simp) fun _=>WL.exit ?_
   refine WL.reg (RL.run (by simp[z0n hS h];rfl) ⟨_,by simp;rfl,h,?_,trivial⟩)
   have hk':k=s.Handles[i].length:=by omega
   subst hk'
   have:z91 p (s.Handles.take (i+1))=z91 p (s.Handles.take i)+zgj p s.Handles[i]:=by
    unfold z91 zgj
    split
    ·rw[zcz p s.Handles h]
    ·rfl
   simp[this]
 ·refine WL.seq (WL.sreg (by simp[h];rfl) (by simp;rfl) ?_)
  refine WL.cond (t:=false) (by simp) (by simp) fun _=>WL.exit ?_
  have hi':i=s.Handles.length:=by omega
  subst hi'
  refine WL.sreg (by simp;rfl) (by simp;rfl) (WL.ret ⟨.inr rfl,?_⟩)
  simp[ycf,hP]
end Go.OT
namespace Go.OT
open Go.Proofs
set_option maxHeartbeats 4000000 in
theorem zpj (s:St)(hs:Sized s)(cl:Int)(p:Nat)(hp:p < s.There.length)(hb:p < s.Body.length)(Hd Of Nn:Int)(D:List UInt8)(s':St)(r:Rs)
  (e7:0 < zl3 s p→s'=s∧r=rsE 7) (ok:¬ 0 < zl3 s p→s'=⟨s.There.set p false,s.Body.set p z16,s.Handles⟩∧r=rsO) :
  WL Try.prog z3y.nt zd2 (rbP s cl ⟨8,p,Hd,Of,Nn,D⟩ p [(5800,0,bl false)]) (rbQ s' r):=by
 refine WL.seq (WL.sreg (by simp<;>rfl) (by simp<;>rfl) ?_)
 refine WL.cond (t:=false) (by simp) (by simp) (fun _=>WL.skip ?_)
 refine WL.seq (WL.sreg (by simp<;>rfl) (by simp<;>rfl) ?_)
 refine WL.block (WL.sreg (by simp<;>rfl) (by simp<;>rfl) ?_)
 refine WL.cond (t:=false) (by simp) (by simp) (fun _=>WL.sreg (by simp<;>rfl) (by simp<;>rfl) ?_)
 refine WL.cond (t:=false) (by simp) (by simp) (fun _=>WL.sreg (by simp<;>rfl) (by simp<;>rfl) ?_)
 refine WL.cond (t:=false) (by simp) (by simp) (fun _=>WL.sreg (by simp<;>rfl) (by simp<;>rfl) ?_)
 refine WL.cond (t:=false) (by simp) (by simp) (fun _=>WL.sreg (by simp<;>rfl) (by simp<;>rfl) ?_)
 refine WL.cond (t:=false) (by simp) (by simp) (fun _=>WL.sreg (by simp<;>rfl) (by simp<;>rfl) ?_)
 refine WL.cond (t:=true) (by simp) (fun _=>?_) (by simp)
 refine WL.seq (WL.sregC (RL.o (by simp;rfl) (RL.call0 true (zla s hs p) (by simp) (by simp) (RL.o (by simp;rfl) (RL.nil ⟨_,by simp;rfl,?_⟩)))))
 by_cases h:0 < zl3 s p
 ·obtain⟨a,b⟩:=e7 h
  subst a b
  refine WL.cond (t:=true) (by simp[h]) (fun _=>?_) (by simp)
  refine WL.sregC (RL.call0 false (z2l 7) (by simp) (by simp) (RL.o (by simp;rfl) (RL.nil ⟨_,by simp;rfl,?_⟩)))
  refine WL.ret ⟨rfl,?_⟩
  simp[z3y,rsE]
 ·obtain⟨a,b⟩:=ok h
  subst a b
  refine WL.cond (t:=false) (by simp;omega) (by simp) (fun _=>WL.skip ?_)
  refine WL.draw z0t (by simp[z09,noH]) (DL.o (by simp;exact⟨rfl,rfl⟩) (DL.call0 false ze1 (by simp) (by simp) (DL.o (by simp[hp,hb,Nat.succ_le_of_lt hp,Nat.succ_le_of_lt hb];exact⟨rfl,rfl⟩) (DL.nil ⟨by kernel_rfl,_,by simp;rfl,?_⟩))))
  refine WL.sreg (by simp<;>rfl) (by simp<;>rfl) (WL.nil1 604 true 1 (by simp) (WL.ret ⟨rfl,?_⟩))
  simp[z3y,List.map_set]
abbrev rbN (s:St)(cl:Int)(p:Int)(t:SL):SL:=rb1 cl ++ (rb3 s ++ (rb6 ++ ((700,0,i64 p) :: (t ++ ghT s))))
set_option maxHeartbeats 4000000 in
theorem zsy (s:St)(c:Nat)(hc:c < s.Handles.length)(hs:z0c s.Handles[c].length)(i:Nat)(hi:i < s.There.length)(hb:i < s.Body.length)(k:Nat)(hk:k < s.Handles[c].length)(hf:zi7 s.Handles[c]=(k:Int)) :
  WL Try.prog z3y.nt zjp (rbN s c i [(10800,0,bl false)]) (rbQ ⟨s.There.set i true,s.Body.set i z16,s.Handles.set c (s.Handles[c].set k i)⟩ ⟨0,i,k,[]⟩):=by
 refine WL.seq (WL.draw z0t (by simp[z09,noH]) (DL.o (by simp;exact⟨rfl,rfl⟩) (DL.call0 false ze1 (by simp) (by simp) (DL.o (by simp[hi,hb,Nat.succ_le_of_lt hi,Nat.succ_le_of_lt hb];exact⟨rfl,rfl⟩) (DL.nil ⟨by kernel_rfl,_,by simp;rfl,?_⟩)))))
 obtain⟨T,hT⟩:∃ T,T=s.There.set i true:=⟨_,rfl⟩
 obtain⟨B,hB⟩:∃ B,B=s.Body.set i z16:=⟨_,rfl⟩
 have eT:(AV.sl true () 1 s.There.length ((s.There.map bl).set i (bl true)):AU)=sB true T:=by simp[hT,List.map_set,sB]
 have eB:(AV.sl true () 1 s.Body.length ((s.Body.map str).set i (str z16)):AU)=sS true B:=by simp[hB,List.map_set,sS]
 have lT:T.length=s.There.length:=by simp[hT]
 have lB:B.length=s.Body.length:=by simp[hB]
 have tT:(T.map bl).take s.There.length=T.map bl:=List.take_of_length_le (by simp[lT])
 have tB:(B.map str).take s.Body.length=B.map str:=List.take_of_length_le (by simp[lB])
 rw[eT,eB,← hT,← hB]
 clear eT eB hT hB
 have hg:=zpi ⟨T,B,s.Handles⟩ _ _ rfl rfl c hc hs i k hk hf
 refine WL.sregC (RL.o (by simp;rfl) (RL.call true [(1000200,[])] hg (by simp) (by simp) (by simp[z35,lT,lB,tT,tB]) (zgh _ _ (by simp) _) (RL.o (by simp;rfl) (RL.nil ⟨_,by simp;rfl,?_⟩))))
 refine WL.nil1 604 true 1 (by simp) (WL.ret ⟨rfl,?_⟩)
 simp[z3y,List.map_set,lT,lB]
end Go.OT
namespace Go.OT
open Go.Proofs
set_option maxHeartbeats 4000000 in
theorem ygq (s:St)(hT:z0c s.There.length)(hB:s.Body.length=s.There.length)(c:Nat)(hc:c < s.Handles.length)(hs:z0c s.Handles[c].length)(P Hd Of Nn:Int)(D:List UInt8)(s':St)(r:Rs)
  (e4:z8w s.Handles[c]=false→s'=s∧r=rsE 4)
  (e3:z8w s.Handles[c]=true→ixF (· == false) s.There 0=-1→s'=s∧r=rsE 3)
  (k:Nat) (ek:z8w s.Handles[c]=true→k < s.Handles[c].length∧zi7 s.Handles[c]=(k:Int))
  (ok:z8w s.Handles[c]=true→∀ i:Nat,i < s.There.length→ixF (· == false) s.There 0=(i:Int)→s'=⟨s.There.set i true,s.Body.set i z16,s.Handles.set c (s.Handles[c].set k i)⟩∧r=⟨0,i,k,[]⟩) :
  WL Try.prog z3y.nt zbg (rbA s c ⟨1,P,Hd,Of,Nn,D⟩ ++ ((2600,0,bl false) :: ghT s)) (rbQ s' r):=by
 refine WL.sreg (by simp<;>rfl) (by simp<;>rfl) ?_
 refine WL.seq (WL.sreg (by simp<;>rfl) (by simp<;>rfl) ?_)
 refine WL.cond (t:=false) (by simp) (by simp) (fun _=>WL.skip ?_)
 refine WL.seq (WL.sreg (by simp<;>rfl) (by simp<;>rfl) ?_)
 refine WL.cond (t:=false) (by simp) (by simp) (fun _=>WL.skip ?_)
 refine WL.seq (WL.sreg (by simp<;>rfl) (by simp<;>rfl) ?_)
 refine WL.block (WL.sreg (by simp<;>rfl) (by simp<;>rfl) ?_)
 refine WL.cond (t:=true) (by simp) (fun _=>?_) (by simp)
 refine WL.seq (WL.sregC (RL.o (by simp;rfl) (RL.call0 true (zoq s c hc hs) (by simp) (by simp) (RL.o (by simp;rfl) (RL.nil ⟨_,by simp;rfl,?_⟩)))))
 cases h:z8w s.Handles[c] with
 | false =>
  obtain⟨a,b⟩:=e4 h
  subst a b
  refine WL.cond (t:=true) (by simp) (fun _=>?_) (by simp)
  refine WL.sregC (RL.call0 false (z2l 4) (by simp) (by simp) (RL.o (by simp;rfl) (RL.nil ⟨_,by simp;rfl,?_⟩)))
  refine WL.ret ⟨rfl,?_⟩
  simp[z3y,rsE]
 | true =>
  obtain⟨hk,hf⟩:=ek h
  refine WL.cond (t:=false) (by simp) (by simp) (fun _=>WL.skip ?_)
  refine WL.sreg (by simp;rfl) (by simp;rfl) ?_
  refine WL.seq (WL.block (WL.count s.There.length (fun i=>rbN s c i []) (fun i=>ixF (· == false) (s.There.drop i) i=ixF (· == false) s.There 0) (by simp) rfl fun i hi hp=>?_))
  have fin:i < s.There.length→s.There[i]?=some false→WL Try.prog z3y.nt zjp (rbN s c i [(10800,0,bl false)]) (rbQ s' r):=fun hi hf'=>by
   have h1:s.There[i]=false:=by simpa [hi] using hf'
   rw[z6h _ _ _ hi,if_pos (by simp[h1])] at hp
   obtain⟨a,b⟩:=ok h i hi hp.symm
   subst a b
   exact zsy s c hc hs i hi (by omega) k hk hf
  by_cases hi':i < s.There.length
  ·have hi1:i+1≤s.There.length:=hi'
   cases hb:s.There[i] with
   | true =>
    refine WL.seq (WL.sreg (by simp[hi',hi1,hb];rfl) (by simp;rfl) ?_)
    refine WL.cond (t:=true) (by simp[hb]) (fun _=>WL.skip ?_) (by simp)
    rw[z6h _ _ _ hi',if_neg (by simp[hb])] at hp
    refine WL.block (WL.reg (RL.run (by simp[z0n hT hi'];rfl) ⟨_,by simp;rfl,hi',?_,hp⟩))
    simp
   | false =>
    refine WL.seq (WL.sreg (by simp[hi',hi1,hb];rfl) (by simp;rfl) ?_)
    refine WL.cond (t:=false) (by simp[hb]) (by simp) (fun _=>WL.exit ?_)
    have hne:¬ i=s.There.length:=by omega
    have hneI:¬ (i:Int)=s.There.length:=by omega
    refine WL.seq (WL.sreg (by simp[hne,hneI];rfl) (by simp;rfl) ?_)
    refine WL.cond (t:=false) (by simp[hne,hneI]) (by simp) (fun _=>WL.skip ?_)
    have d:((i:Int) == (s.There.length:Int))=false:=by simpa using hneI
    rw[d]
    show WL Try.prog z3y.nt zjp _ _
    exact WL.up (fin hi' (by simp[hi',hb])) fun _ h=>⟨rfl,h⟩
  ·have hi2:i=s.There.length:=by omega
   subst hi2
   rw[zbd _ _ _ hi'] at hp
   obtain⟨a,b⟩:=e3 h hp.symm
   subst a b
   refine WL.seq (WL.sreg (by simp;rfl) (by simp;rfl) ?_)
   refine WL.cond (t:=false) (by simp) (by simp) (fun _=>WL.exit ?_)
   refine WL.seq (WL.sreg (by simp;rfl) (by simp;rfl) ?_)
   refine WL.cond (t:=true) (by simp) (fun _=>?_) (by simp)
   refine WL.sregC (RL.call0 false (z2l 3) (by simp) (by simp) (RL.o (by simp;rfl) (RL.nil ⟨_,by simp;rfl,?_⟩)))
   refine WL.ret ⟨rfl,?_⟩
   simp[z3y,rsE]
end Go.OT
namespace Go.OT
open Go.Proofs
set_option maxHeartbeats 4000000 in
theorem y08 (s:St)(cl:Int)(m:Nat)(hm:m < s.Body.length)(h16:s.Body[m].length=16)(P Hd Of Nn:Int)(D:List UInt8)(s':St)(r:Rs)
  (e6:z3i ⟨3,P,Hd,Of,Nn,D⟩ Nn=true→s'=s∧r=rsE 6)
  (ok:∀ o n:Nat,Of=o→Nn=n→o+n≤16→s'=s∧r=⟨0,0,0,(s.Body[m].drop o).take n⟩) :
  WL Try.prog z3y.nt zd1 (rbP s cl ⟨3,P,Hd,Of,Nn,D⟩ m [(7900,0,bl false)]) (rbQ s' r):=by
 refine WL.seq (WL.sreg (by simp<;>rfl) (by simp<;>rfl) ?_)
 refine WL.block (WL.sreg (by simp<;>rfl) (by simp<;>rfl) ?_)
 refine WL.cond (t:=false) (by simp) (by simp) (fun _=>WL.sreg (by simp<;>rfl) (by simp<;>rfl) ?_)
 refine WL.cond (t:=false) (by simp) (by simp) (fun _=>WL.sreg (by simp<;>rfl) (by simp<;>rfl) ?_)
 refine WL.cond (t:=true) (by simp) (fun _=>?_) (by simp)
 refine WL.seq ?_
 by_cases k1:Of < 0
 ·obtain⟨a,b⟩:=e6 (by simp[z3i,k1])
  subst a b
  refine WL.sreg (by simp[k1];rfl) (by simp;rfl) ?_
  refine WL.cond (t:=true) (by simp) (fun _=>?_) (by simp)
  refine WL.sregC (RL.call0 false (z2l 6) (by simp) (by simp) (RL.o (by simp;rfl) (RL.nil ⟨_,by simp;rfl,?_⟩)))
  refine WL.ret ⟨rfl,?_⟩
  simp[z3y,rsE]
 by_cases k2:Nn < 0
 ·obtain⟨a,b⟩:=e6 (by simp[z3i,k2])
  subst a b
  refine WL.sreg (by simp[k1,k2];rfl) (by simp;rfl) ?_
  refine WL.cond (t:=true) (by simp) (fun _=>?_) (by simp)
  refine WL.sregC (RL.call0 false (z2l 6) (by simp) (by simp) (RL.o (by simp;rfl) (RL.nil ⟨_,by simp;rfl,?_⟩)))
  refine WL.ret ⟨rfl,?_⟩
  simp[z3y,rsE]
 by_cases k3:16 < Of
 ·obtain⟨a,b⟩:=e6 (by simp[z3i,k3])
  subst a b
  refine WL.sreg (by simp[k1,k2,k3];rfl) (by simp;rfl) ?_
  refine WL.cond (t:=true) (by simp) (fun _=>?_) (by simp)
  refine WL.sregC (RL.call0 false (z2l 6) (by simp) (by simp) (RL.o (by simp;rfl) (RL.nil ⟨_,by simp;rfl,?_⟩)))
  refine WL.ret ⟨rfl,?_⟩
  simp[z3y,rsE]
 obtain⟨o,ho⟩:=Int.eq_ofNat_of_zero_le (a:=Of) (by omega)
 obtain⟨n,hn⟩:=Int.eq_ofNat_of_zero_le (a:=Nn) (by omega)
 subst ho hn
 have w1:IntKind.wrap .i64 ((16:Int) - (o:Int))=16 - (o:Int):=z01 (by omega) (by omega)
 by_cases k4:16 - (o:Int) < n
 ·obtain⟨a,b⟩:=e6 (by simp[z3i,k4])
  subst a b
  refine WL.sreg (by simp[k1,k2,k3,k4,w1];rfl) (by simp;rfl) ?_
  refine WL.cond (t:=true) (by simp[k4]) (fun _=>?_) (by simp)
  refine WL.sregC (RL.call0 false (z2l 6) (by simp) (by simp) (RL.o (by simp;rfl) (RL.nil ⟨_,by simp;rfl,?_⟩)))
  refine WL.ret ⟨rfl,?_⟩
  simp[z3y,rsE]
 have hon:o+n≤16:=by omega
 obtain⟨a,b⟩:=ok o n rfl rfl hon
 subst a b
 refine WL.sreg (by simp[k1,k2,k3,k4,w1];rfl) (by simp;rfl) ?_
 refine WL.cond (t:=false) (by simp[k4];try omega) (by simp) (fun _=>WL.skip ?_)
 obtain⟨e,he⟩:∃ e,e=o+n:=⟨_,rfl⟩
 have hw:IntKind.wrap .i64 ((o:Int)+(n:Int))=(e:Int):=by rw[z01 (by omega) (by omega)];omega
 have f1:o≤e:=by omega
 have f2:e≤16:=by omega
 have f3:e - o=n:=by omega
 refine WL.seq (WL.draw z0t (by simp[z09,noH]) (DL.o (by simp[hm,h16,hw,f1,f2,f3,z2h,zgi,zi8,Nat.succ_le_of_lt hm,-List.map_take,-List.map_drop];exact⟨rfl,rfl⟩) (DL.nil ⟨by kernel_rfl,_,by simp;rfl,?_⟩)))
 refine WL.ret ⟨rfl,?_⟩
 have f4:min n (16 - o)=n:=by omega
 simp[z3y,h16,f4,List.take_take]
end Go.OT
namespace Go.OT
open Go.Proofs
set_option maxHeartbeats 4000000 in
theorem zsz (s:St)(cl:Int)(m:Nat)(hm:m < s.Body.length)(h16:s.Body[m].length=16)(P Hd Of Nn:Int)(D:List UInt8)(s':St)(r:Rs)
  (e6:z3i ⟨4,P,Hd,Of,Nn,D⟩ D.length=true→s'=s∧r=rsE 6)
  (ok:∀ o:Nat,Of=o→o+D.length≤16→s'=⟨s.There,s.Body.set m (zi1 s.Body[m] o D),s.Handles⟩∧r=rsO) (hD:z0c D.length) :
  WL Try.prog z3y.nt zd1 (rbP s cl ⟨4,P,Hd,Of,Nn,D⟩ m [(7900,0,bl false)]) (rbQ s' r):=by
 refine WL.seq (WL.sreg (by simp<;>rfl) (by simp<;>rfl) ?_)
 refine WL.block (WL.sreg (by simp<;>rfl) (by simp<;>rfl) ?_)
 refine WL.cond (t:=false) (by simp) (by simp) (fun _=>WL.sreg (by simp<;>rfl) (by simp<;>rfl) ?_)
 refine WL.cond (t:=false) (by simp) (by simp) (fun _=>WL.sreg (by simp<;>rfl) (by simp<;>rfl) ?_)
 refine WL.cond (t:=false) (by simp) (by simp) (fun _=>WL.sreg (by simp<;>rfl) (by simp<;>rfl) ?_)
 refine WL.cond (t:=true) (by simp) (fun _=>?_) (by simp)
 refine WL.seq ?_
 by_cases k1:Of < 0
 ·obtain⟨a,b⟩:=e6 (by simp[z3i,k1])
  subst a b
  refine WL.sreg (by simp[k1];rfl) (by simp;rfl) ?_
  refine WL.cond (t:=true) (by simp) (fun _=>?_) (by simp)
  refine WL.sregC (RL.call0 false (z2l 6) (by simp) (by simp) (RL.o (by simp;rfl) (RL.nil ⟨_,by simp;rfl,?_⟩)))
  refine WL.ret ⟨rfl,?_⟩
  simp[z3y,rsE]
 by_cases k3:16 < Of
 ·obtain⟨a,b⟩:=e6 (by simp[z3i,k3])
  subst a b
  refine WL.sreg (by simp[k1,k3];rfl) (by simp;rfl) ?_
  refine WL.cond (t:=true) (by simp) (fun _=>?_) (by simp)
  refine WL.sregC (RL.call0 false (z2l 6) (by simp) (by simp) (RL.o (by simp;rfl) (RL.nil ⟨_,by simp;rfl,?_⟩)))
  refine WL.ret ⟨rfl,?_⟩
  simp[z3y,rsE]
 obtain⟨o,ho⟩:=Int.eq_ofNat_of_zero_le (a:=Of) (by omega)
 subst ho
 have w1:IntKind.wrap .i64 ((16:Int) - (o:Int))=16 - (o:Int):=z01 (by omega) (by omega)
 by_cases k4:16 - (o:Int) < D.length
 ·obtain⟨a,b⟩:=e6 (by simp[z3i,k4])
  subst a b
  refine WL.sreg (by simp[k1,k3,k4,w1];rfl) (by simp;rfl) ?_
  refine WL.cond (t:=true) (by simp[k4]) (fun _=>?_) (by simp)
  refine WL.sregC (RL.call0 false (z2l 6) (by simp) (by simp) (RL.o (by simp;rfl) (RL.nil ⟨_,by simp;rfl,?_⟩)))
  refine WL.ret ⟨rfl,?_⟩
  simp[z3y,rsE]
 have hon:o+D.length≤16:=by omega
 obtain⟨a,b⟩:=ok o rfl hon
 subst a b
 refine WL.sreg (by simp[k1,k3,k4,w1];rfl) (by simp;rfl) ?_
 refine WL.cond (t:=false) (by simp[k4];try omega) (by simp) (fun _=>WL.skip ?_)
 obtain⟨e,he⟩:∃ e,e=o+D.length:=⟨_,rfl⟩
 have hw:IntKind.wrap .i64 ((o:Int)+(D.length:Int))=(e:Int):=by rw[z01 (by omega) (by omega)];omega
 have f1:o≤e:=by omega
 have f2:e≤16:=by omega
 have f5:o≤16:=by omega
 have g1:o+D.length≤4611686018427387904:=by omega
 have g2:o+(D.length+(16 - e))≤4611686018427387904:=by omega
 have g3:o+D.length+(16 - e)≤4611686018427387904:=by omega
 refine WL.draw z0t (by simp[z09,noH]) (DL.o (by simp[hm,h16,hw,f1,f2,f5,g1,g2,g3,z2h,zgi,zbp,zi8,zg1,Nat.succ_le_of_lt hm,-List.map_take,-List.map_drop];exact⟨rfl,rfl⟩) (DL.nil ⟨by kernel_rfl,_,by simp;rfl,?_⟩))
 refine WL.sreg (by simp<;>rfl) (by simp<;>rfl) (WL.nil1 604 true 1 (by simp) (WL.ret ⟨rfl,?_⟩))
 have f6:List.take (16 - e) (List.drop e s.Body[m])=List.drop e s.Body[m]:=List.take_of_length_le (by simp[h16])
 simp[z3y,List.map_set,zi1,← he]
 rw[f6]
end Go.OT
namespace Go.OT
open Go.Proofs
theorem zjy {α:Type}{p q:α→Bool}:∀ (l:List α) (n:Nat),(∀ x ∈ l,p x=q x)→ixF p l n=ixF q l n
 | [],_,_=>rfl
 | x :: l,n,h=>by
  simp only[ixF]
  rw[h x List.mem_cons_self,zjy l (n+1) fun y hy=>h y (List.mem_cons_of_mem _ hy)]
theorem zjz {α:Type}{p q:α→Bool}:∀ (l:List α),(∀ x ∈ l,p x=q x)→l.any p=l.any q
 | [],_=>rfl
 | x :: l,h=>by
  simp only[List.any_cons]
  rw[h x List.mem_cons_self,zjz l fun y hy=>h y (List.mem_cons_of_mem _ hy)]
theorem y09 {s:St}(h:OkSt s){l:List Int}(hl:l ∈ s.Handles):z8w l=zen l∧zi7 l=ixF (· == -1) l 0:=by
 have hx:∀ x ∈ l,decide (x < 0)=(x == -1):=fun x hx=>by
  rcases h.hp l hl x hx with e | e
  ·subst e;rfl
  ·simp only[z2k,Bool.and_eq_true,decide_eq_true_eq] at e
   have h1:¬ x < 0:=by omega
   have h2:¬ x=-1:=by omega
   simp[h1,h2]
 exact⟨zjz _ hx,zjy _ _ hx⟩
theorem zea {s:St}{c k:Nat}(hc:c < s.Handles.length)(hk:k < s.Handles[c].length):z6n s c k=s.Handles[c][k]:=by
 have h1:¬ s.Handles.length≤c:=by omega
 have h2:¬ s.Handles[c].length≤k:=by omega
 have h3:¬ (c:Int) < 0:=by omega
 have h4:¬ (k:Int) < 0:=by omega
 simp[z6n,hc,hk,h1,h2,h3,h4]
theorem zpk {s:St}(h:OkSt s){c:Nat}(hc:c < s.Handles.length)(hd:Int)(hb:z5p s.Handles[c] hd=true):z6n s c hd=-1:=by
 have h6:=h.l6 _ (List.getElem_mem hc)
 have h1:¬ s.Handles.length≤c:=by omega
 simp only[z5p,Bool.or_eq_true,decide_eq_true_eq] at hb
 by_cases e1:hd < 0
 ·simp[z6n,e1]
 obtain⟨k,rfl⟩:=Int.eq_ofNat_of_zero_le (a:=hd) (by omega)
 by_cases e2:6≤k
 ·have e3:(6:Int)≤k:=by omega
  simp[z6n,hc,h6,e3]
 ·have hk:k < s.Handles[c].length:=by omega
  rw[zea hc hk]
  have:=(hb.resolve_left e1).resolve_left (by omega)
  simpa [hk] using this
theorem zlb {s:St}{c:Nat}{q:Op}(h:OkSt s)(hc:c < s.Handles.length):(z06 s s.Handles[c] q ≠ 0→(DoB s c q).2.1=s∧(DoB s c q).2.2=rsE (z06 s s.Handles[c] q))∧(z06 s s.Handles[c] q=0→(DoB s c q).2.1=(z4j s c q).1∧(DoB s c q).2.2=(z4j s c q).2):=by
 have hn:¬ z29 s c=true:=by
  have:=(zbf s).2 h
  simp[z29,this]
  omega
 constructor
 ·intro h0
  simp[DoB,hn,hc,h0]
 ·intro h0
  simp[DoB,hn,hc,h0]
theorem set_self {α:Type}(l:List α)(i:Nat)(h:i < l.length)(v:α)(hv:l[i]=v):l.set i v=l:=by
 subst hv
 exact List.set_getElem_self h
set_option maxHeartbeats 1000000 in
theorem zlc (s:St)(h:OkSt s)(c:Nat)(hc:c < s.Handles.length)(q:Op)(hD:z0c q.Data.length)(hk:1≤q.Kind∧q.Kind≤8)(s':St)(r:Rs)
  (hE:z06 s s.Handles[c] q ≠ 0→s'=s∧r=rsE (z06 s s.Handles[c] q)) (hO:z06 s s.Handles[c] q=0→s'=(z4j s c q).1∧r=(z4j s c q).2) :
  WL Try.prog z3y.nt zbg (rbA s c q ++ ((2600,0,bl false) :: ghT s)) (rbQ s' r):=by
 have hs:=h.sized
 have hmem:=List.getElem_mem hc
 have h6:s.Handles[c].length=6:=h.l6 _ hmem
 have hS:z0c s.Handles[c].length:=by unfold z0c;omega
 have hT:z0c s.There.length:=by have:=hs.t;unfold z0c;omega
 obtain⟨fr,fi⟩:=y09 h hmem
 have hroom:zen s.Handles[c]=true→ix (· == -1) s.Handles[c] < s.Handles[c].length∧zi7 s.Handles[c]=(ix (· == -1) s.Handles[c]:Int):=fun hr=>by
  obtain⟨j1,j2,j3⟩:=z61 hr
  exact⟨j1,by rw[fi,j2]⟩
 have hl:s.Handles.getD c []=s.Handles[c]:=by simp[hc]
 obtain⟨K,P,Hd,Of,Nn,D⟩:=q
 simp only at hk hD
 by_cases k1:K=1
 ·subst k1
  refine ygq s hT h.bn c hc hS P Hd Of Nn D s' r (fun e=>?_) (fun e e3=>?_) (ix (· == -1) s.Handles[c]) (fun e=>hroom (by rw[← fr];exact e)) (fun e i hi hix=>?_)
  ·rw[fr] at e
   have:=hE (by simp[z06,e])
   simpa [z06,e] using this
  ·rw[fr] at e
   have ha:s.There.any (· == false)=false:=by
    cases e':s.There.any (· == false) with
    | false=>rfl
    | true =>
     have:=(zcw (· == false) s.There 0).2 e'
     omega
   have:=hE (by simp only[z06,e,ha,if_true];decide)
   simpa only [z06,e,ha,if_true,Bool.true_eq_false,if_false] using this
  ·rw[fr] at e
   have ha:s.There.any (· == false)=true:=(zcw (· == false) s.There 0).1 (by rw[hix];omega)
   have he:ix (· == false) s.There=i:=by unfold ix;rw[hix];exact Int.toNat_natCast i
   have hb:i < s.Body.length:=by rw[h.bn];exact hi
   obtain⟨i1,i2,i3⟩:=z61 ha
   have hth:s.There[i]=false:=by
    have:=i3
    simp only[he] at this
    simpa using this
   have hz:=h.zero i hb (by simp[hi,hth])
   have:=hO (by simp only[z06,e,ha,if_true,Bool.true_eq_false,if_false])
   simp only[z4j,if_true,hl,he] at this
   rw[set_self s.Body i hb z16 hz]
   exact this
 by_cases k2:K=2∨K=6∨K=8
 ·refine y06 s c ⟨K,P,Hd,Of,Nn,D⟩ s' r k2 hT (fun e=>?_) (fun e1 e2=>?_) (fun e=>?_)
  ·have:=hE (by simp only[z06,if_neg k1,if_pos k2,e,if_true];decide)
   simpa only [z06,if_neg k1,if_pos k2,e,if_true] using this
  ·simp only at e1 e2
   have:=hE (by simp only[z06,if_neg k1,if_pos k2,e1,e2,if_true,Bool.true_eq_false,if_false];decide)
   simpa only [z06,if_neg k1,if_pos k2,e1,e2,if_true,Bool.true_eq_false,if_false] using this
  ·simp only at e
   have hth:=e
   simp only[z2k,Bool.and_eq_true,decide_eq_true_eq] at hth
   obtain⟨m,rfl⟩:=Int.eq_ofNat_of_zero_le hth.1
   have hm:m < s.There.length:=by
    have:=hth.2
    by_cases h:m < s.There.length
    ·exact h
    ·simp[h] at this
   have hmb:m < s.Body.length:=by rw[h.bn];exact hm
   have hpg:z39 s (m:Int)=true:=by simp[z39,hm]
   rcases k2 with k2 | k2 | k2<;>subst k2
   ·refine zsw s c hc hS m Hd Of Nn D s' r (fun e4=>?_) (ix (· == -1) s.Handles[c]) (fun e4=>?_)
    ·rw[fr] at e4
     have:=hE (by simp[z06,hpg,e,e4])
     simpa [z06,hpg,e,e4] using this
    ·rw[fr] at e4
     obtain⟨a,b⟩:=hroom e4
     have:=hO (by simp[z06,hpg,e,e4])
     simp only[z4j,hl] at this
     exact⟨a,b,by simpa using this⟩
   ·have:=hO (by simp[z06,hpg,e])
    simp only[z4j] at this
    obtain⟨a,b⟩:s'=s∧r=rsO:=by simpa using this
    subst a b
    exact zsv s' c m Hd Of Nn D
   ·refine zpj s hs c m hm hmb Hd Of Nn D s' r (fun e7=>?_) (fun e7=>?_)
    ·have:=hE (by simp[z06,hpg,e,e7])
     simpa [z06,hpg,e,e7] using this
    ·have:=hO (by simp[z06,hpg,e,e7])
     simp only[z4j] at this
     simpa [z16] using this
 by_cases k3:K=3∨K=4∨K=5
 ·refine y07 s c ⟨K,P,Hd,Of,Nn,D⟩ s' r k3 (fun e=>?_) (fun e=>?_)
  ·simp only at e
   have hb:z5p s.Handles[c] Hd=true:=by
    cases hb:z5p s.Handles[c] Hd with
    | true=>rfl
    | false =>
     exfalso
     simp only[z5p,Bool.or_eq_false_iff,decide_eq_false_iff_not,beq_eq_false_iff_ne] at hb
     obtain⟨k,rfl⟩:=Int.eq_ofNat_of_zero_le (a:=Hd) (by omega)
     have hk6:k < s.Handles[c].length:=by omega
     rw[zea hc hk6] at e
     have hne:s.Handles[c][k] ≠ -1:=by simpa [hk6] using hb.2.2
     have hth:=(h.hp _ hmem _ (List.getElem_mem hk6)).resolve_left hne
     simp only[z2k,Bool.and_eq_true,decide_eq_true_eq] at hth
     omega
   have:=hE (by simp only[z06,if_neg k1,if_neg k2,if_pos k3,hb,if_true];decide)
   simpa only [z06,if_neg k1,if_neg k2,if_pos k3,hb,if_true] using this
  ·simp only at e
   have hb:z5p s.Handles[c] Hd=false:=by
    cases hb:z5p s.Handles[c] Hd with
    | false=>rfl
    | true=>rw [zpk h hc Hd hb] at e;omega
   have hb':=hb
   simp only[z5p,Bool.or_eq_false_iff,decide_eq_false_iff_not,beq_eq_false_iff_ne] at hb'
   obtain⟨k,rfl⟩:=Int.eq_ofNat_of_zero_le (a:=Hd) (by omega)
   have hk6:k < s.Handles[c].length:=by omega
   simp only
   rw[zea hc hk6] at e ⊢
   have hne:s.Handles[c][k] ≠ -1:=by simpa [hk6] using hb'.2.2
   have hth:=(h.hp _ hmem _ (List.getElem_mem hk6)).resolve_left hne
   simp only[z2k,Bool.and_eq_true,decide_eq_true_eq] at hth
   obtain⟨m,hm⟩:=Int.eq_ofNat_of_zero_le hth.1
   have hmt:m < s.There.length:=by
    have:=hth.2
    rw[hm] at this
    by_cases h:m < s.There.length
    ·exact h
    ·simp[h] at this
   have hmb:m < s.Body.length:=by rw[h.bn];exact hmt
   have h16:=h.b16 _ (List.getElem_mem hmb)
   rcases k3 with k3 | k3 | k3<;>subst k3
   ·rw[hm]
    refine y08 s c m hmb h16 P k Of Nn D s' r (fun e6=>?_) (fun o n ho hn hon=>?_)
    ·have:=hE (by simp[z06,hb,e6])
     simpa [z06,hb,e6] using this
    ·subst ho hn
     have e6:z3i ⟨3,P,k,o,n,D⟩ n=false:=by
      simp[z3i]
      omega
     have:=hO (by simp[z06,hb,e6])
     simpa [z4j,hc,hk6,hm,hmb] using this
   ·rw[hm]
    refine zsz s c m hmb h16 P k Of Nn D s' r (fun e6=>?_) (fun o ho hon=>?_) hD
    ·have:=hE (by simp[z06,hb,e6])
     simpa [z06,hb,e6] using this
    ·subst ho
     have e6:z3i ⟨4,P,k,o,Nn,D⟩ D.length=false:=by
      simp[z3i]
      omega
     have:=hO (by simp[z06,hb,e6])
     simpa [z4j,hc,hk6,hm,hmb] using this
   ·have e6:z3i ⟨5,P,k,Of,Nn,D⟩ Nn=false:=by simp[z3i]
    have:=hO (by simp[z06,hb,e6])
    obtain⟨a,b⟩:s'=⟨s.There,s.Body,s.Handles.set c (s.Handles[c].set k (-1))⟩∧r=rsO:=by simpa [z4j,hc] using this
    subst a b
    exact zsx s c hc k hk6 P _ Of Nn D
 ·have k7:K=7:=by omega
  subst k7
  have:=hO (by simp[z06])
  obtain⟨a,b⟩:s'=s∧r=rsO:=by simpa [z4j] using this
  subst a b
  exact zi9 s' c P Hd Of Nn D
theorem zeb (s:St)(h:OkSt s)(cl:Int)(q:Op)(hD:z0c q.Data.length):FnC Try.prog 77 (gsT s) [vwT s,i64 cl,zqz false q] (gsT (DoB s cl q).2.1) (za2 true (DoB s cl q).2.2):=by
 have hM:May s=true:=(zbf s).2 h
 refine zst s cl q _ _ (fun h1=>?_) (fun h1=>?_)
 ·have:DoB s cl q=(false,s,rsE 1):=by
   by_cases hn:z29 s cl=true
   ·simp only[DoB,if_pos hn]
   ·have hn':=hn
    simp only[z29,hM,Bool.not_true,Bool.false_or,Bool.or_eq_true,decide_eq_true_eq] at hn'
    have hk:q.Kind < 1∨8 < q.Kind:=by omega
    have hcd:z06 s (s.Handles.getD cl.toNat []) q=1:=by
     have a1:¬ q.Kind=1:=by omega
     have a2:¬ (q.Kind=2∨q.Kind=6∨q.Kind=8):=by omega
     have a3:¬ (q.Kind=3∨q.Kind=4∨q.Kind=5):=by omega
     have a4:¬ q.Kind=7:=by omega
     simp only[z06,if_neg a1,if_neg a2,if_neg a3,if_neg a4]
    simp only[DoB,if_neg hn,hcd]
    rfl
  rw[this]
  exact y05 s cl q
 ·obtain⟨c,rfl⟩:=Int.eq_ofNat_of_zero_le (a:=cl) (by omega)
  have hc:c < s.Handles.length:=by omega
  obtain⟨a,b⟩:=zlb (q:=q) h hc
  exact zlc s h c hc q hD (by omega) _ _ a b
end Go.OT
namespace Go.OT
open Go.Proofs
abbrev yv2:SL:=[(400,0,.bptr 4 1 0),(401,0,.sl true () 1 0 []),(402,0,.sl true () 1 0 []),(403,0,.sl true () 1 0 []),(499,1,.non)]
abbrev yv3 (a b c:AU):SL:=[(500,0,.bptr 5 1 0),(501,0,a),(502,0,b),(503,0,c),(599,1,.non)]
abbrev rnA (n m i:Nat):SL:=[(0,0,i64 n),(100,0,i64 m)] ++ (yv2 ++ (yv3 (.sl true () 1 i (List.replicate i (bl false))) (.sl true () 1 i (List.replicate i (str z16))) (.sl true () 1 0 []) ++ [(600,0,i64 i)]))
abbrev rnB (n m j:Nat):SL:=[(100,0,i64 m)] ++ (yv2 ++ (yv3 (.sl true () 1 n (List.replicate n (bl false))) (.sl true () 1 n (List.replicate n (str z16))) (.sl true () 1 j (List.replicate j (sI true [-1,-1,-1,-1,-1,-1]))) ++ [(700,0,i64 j)]))
set_option maxHeartbeats 4000000 in
theorem z8b (p c:Int):FnC Try.prog 76 [] [i64 p,i64 c] [] (ycj true (z0p p c)):=by
 refine FnC.go yyl rfl ?_
 refine WL.sreg (by simp;rfl) (by simp;rfl) ?_
 refine WL.sreg (by simp;rfl) (by simp;rfl) ?_
 refine WL.seq (WL.ifEq (z0q p c) ([(0,0,i64 p),(100,0,i64 c)] ++ (yv2 ++ (yv3 (.sl true () 1 0 []) (.sl true () 1 0 []) (.sl true () 1 0 []) ++ [(2100,0,bl (z0q p c))]))) ?_ (by simp) (fun h=>?_) (fun h=>WL.skip ?_))
 ·by_cases h1:p < 1
  ·simp[z0q,h1]
  by_cases h2:48 < p
  ·simp[z0q,h1,h2]
  by_cases h3:c < 1
  ·simp[z0q,h1,h2,h3]
  by_cases h4:6 < c
  ·simp[z0q,h1,h2,h3,h4]
  ·simp[z0q,h1,h2,h3,h4]
 ·refine WL.sreg (by simp;rfl) (by simp;rfl) (WL.ret ⟨.inr rfl,?_⟩)
  simp[yqw,z0p,h]
 simp only[z0q,Bool.or_eq_false_iff,decide_eq_false_iff_not] at h
 obtain⟨n,rfl⟩:=Int.eq_ofNat_of_zero_le (a:=p) (by omega)
 obtain⟨m,rfl⟩:=Int.eq_ofNat_of_zero_le (a:=c) (by omega)
 have hn:n≤48:=by omega
 have hm:m≤6:=by omega
 have hst:z0p n m=⟨List.replicate n false,List.replicate n (List.replicate 16 0),List.replicate m [-1,-1,-1,-1,-1,-1]⟩:=by
  unfold z0p
  rw[if_neg]
  ·rfl
  ·simp only[z0q,Bool.or_eq_true,decide_eq_true_eq];omega
 rw[hst]
 refine WL.seq (WL.sreg (by simp;rfl) (by simp;rfl) ?_)
 refine WL.block (WL.count n (fun i=>rnA n m i) (fun _=>True) (by simp) trivial fun i hi _=>?_)
 by_cases h:i < n
 ·refine WL.seq (WL.sreg (by simp[h];rfl) (by simp;rfl) ?_)
  refine WL.cond (t:=true) (by simp[h]) (fun _=>WL.skip ?_) (by simp)
  have hm0:i+1≤140737488355328:=by omega
  have hm1:(i+1) * 16≤140737488355328:=by omega
  have hm2:i+1≤maxLen:=by unfold maxLen;omega
  refine WL.seq (WL.block (WL.draw z0t (by simp[z09,noH]) (DL.o (by simp[hm0,hm1,hm2];exact⟨rfl,rfl⟩) (DL.call0 false ze1 (by simp) (by simp) (DL.o (by simp[hm0,hm1,hm2];exact⟨rfl,rfl⟩) (DL.nil ⟨by kernel_rfl,_,by simp;rfl,?_⟩))))))
  have hs:z0c n:=by unfold z0c;omega
  refine WL.reg (RL.run (by simp[z0n hs h];rfl) ⟨_,by simp;rfl,h,?_,trivial⟩)
  simp[← z4y]
  exact⟨List.take_of_length_le (by simp),List.take_of_length_le (by simp)⟩
 ·refine WL.seq (WL.sreg (by simp[h];rfl) (by simp;rfl) ?_)
  refine WL.cond (t:=false) (by simp[h]) (by simp) fun _=>WL.exit ?_
  obtain rfl:i=n:=by omega
  refine WL.seq (WL.sreg (by simp;rfl) (by simp;rfl) ?_)
  refine WL.block (WL.count m (fun j=>rnB i m j) (fun _=>True) (by simp) trivial fun j hj _=>?_)
  by_cases h:j < m
  ·have hs:z0c m:=by unfold z0c;omega
   refine WL.seq (WL.sreg (by simp[h];rfl) (by simp;rfl) ?_)
   refine WL.cond (t:=true) (by simp[h]) (fun _=>WL.skip ?_) (by simp)
   have hm1:(j+1) * 24≤140737488355328:=by omega
   have hm2:j+1≤maxLen:=by unfold maxLen;omega
   refine WL.seq (WL.block (WL.reg (RL.run (by simp[hm1,hm2];rfl) ⟨_,by simp;rfl,?_⟩)))
   refine WL.reg (RL.run (by simp[z0n hs h];rfl) ⟨_,by simp;rfl,h,?_,trivial⟩)
   simp[← z4y]
   exact List.take_of_length_le (by simp)
  ·refine WL.seq (WL.sreg (by simp[h];rfl) (by simp;rfl) ?_)
   refine WL.cond (t:=false) (by simp[h]) (by simp) fun _=>WL.exit ?_
   obtain rfl:j=m:=by omega
   refine WL.sreg (by simp;rfl) (by simp;rfl) (WL.ret ⟨.inr rfl,?_⟩)
   simp[yqw,z16]
end Go.OT
namespace Go.OT
open Go.Proofs
theorem zt0 {n m:Nat}(hn:1≤n)(hn':n≤48)(hm:1≤m)(hm':m≤6):z0p n m=⟨List.replicate n false,List.replicate n (List.replicate 16 0),List.replicate m [-1,-1,-1,-1,-1,-1]⟩:=by
 unfold z0p
 rw[if_neg]
 ·rfl
 ·simp only[z0q,Bool.or_eq_true,decide_eq_true_eq];omega
theorem zt1 {n m:Nat}(hn:1≤n)(hn':n≤48)(hm:1≤m)(hm':m≤6):OkSt (z0p n m):=by
 rw[zt0 hn hn' hm hm']
 refine⟨by simpa using hn,by simpa using hn',by simp,by simpa using hm,by simpa using hm',fun b hb=>?_,fun i hi _=>?_,fun l hl=>?_,fun l hl p hp=>?_⟩
 ·rw[List.eq_of_mem_replicate hb];rfl
 ·simp
 ·rw[List.eq_of_mem_replicate hl];rfl
 ·rw[List.eq_of_mem_replicate hl] at hp
  left
  simpa using hp
theorem yza (r:Rs):z0y (za2 true r)=true:=by
 show z1y [i64 r.Code,i64 r.Page,i64 r.Handle,sU true r.Data]=true
 simp[z0y,z1y,zg5]
theorem zia (s s':St)(r:Rs):z1a true (gsT s) (gsT s') (za2 true r)=true:=by
 have e1:z0y (sB true s'.There:AU)=true:=by simp only[z0y,yv0,Bool.and_self]
 have e2:z0y (sS true s'.Body:AU)=true:=by simp only[z0y,yv1,Bool.and_self]
 have e3:z0y (sII true s'.Handles:AU)=true:=by simp only[z0y,zsu,Bool.and_self]
 have e4:z0y (za2 true r)=true:=yza r
 simp only[z1a,List.all_cons,List.all_nil,z5c,e1,e2,e3,e4]
 simp
end Go.OT
namespace Go.OT
open Go.Proofs
structure Ev where
 Client:Int
 op:Op
 res:Rs
 Begin:Int
 Stamp:Int
 End:Int
 deriving DecidableEq
abbrev z02 (o r:Bool)(e:Ev):List AU:=[i64 e.Client,i64 e.op.Kind,i64 e.op.Page,i64 e.op.Handle,i64 e.op.Off,i64 e.op.N,sU o e.op.Data,i64 e.res.Code,i64 e.res.Page,i64 e.res.Handle,sU r e.res.Data,i64 e.Begin,i64 e.Stamp,i64 e.End]
abbrev sEv (l:List Ev):AU:=.sl false () 14 l.length (l.flatMap (z02 false false))
theorem z1d {o r:Bool}{l:List Ev}{i:Nat}(h:i < l.length):(l.flatMap (z02 o r)).drop (i * 14)=z02 o r l[i] ++ (l.drop (i+1)).flatMap (z02 o r):=by
 induction l generalizing i with
 | nil=>simp at h
 | cons a l ih =>
  cases i with
  | zero=>simp [List.flatMap_cons]
  | succ i =>
   rw[List.flatMap_cons,List.drop_append,List.drop_of_length_le (by simp;omega)]
   have:(i+1) * 14 - (z02 o r a).length=i * 14:=by simp;omega
   rw[this,ih (by simpa using h)]
   simp
theorem z32 (o r:Bool)(l:List Ev):(l.flatMap (z02 o r)).length=l.length * 14:=by
 induction l with
 | nil=>rfl
 | cons a l ih=>rw [List.flatMap_cons,List.length_append,ih];simp;omega
def z6t (l:List Ev)(x:Int):Int:=(l.map (·.Stamp)).getD x.toNat 0
def z9p (l:List Ev)(n:Nat):List Int:=((List.range n).filter fun i=>decide (0 < (l.map (·.Stamp)).getD i 0)).map fun i=>Int.ofNat i
def ygr (l:List Ev):List Int:=z9p l l.length
def z0r (l:List Ev):List Int:=zbj (z6t l) (ygr l)
theorem zbq (l:List Ev)(n:Nat):z9p l (n+1)=z9p l n ++ (if 0 < (l.map (·.Stamp)).getD n 0 then [(n:Int)] else []):=by
 simp only[z9p,List.range_succ,List.filter_append,List.map_append]
 congr 1
 by_cases h:0 < (l.map (·.Stamp)).getD n 0
 ·simp only[List.filter_cons,List.filter_nil,h,decide_true,if_true];rfl
 ·simp only[List.filter_cons,List.filter_nil,h,decide_false,if_false];rfl
theorem za4 {l:List Ev}{n:Nat}{x:Int}(h:x ∈ z9p l n):∃ i:Nat,i < n∧x=i∧0 < (l.map (·.Stamp)).getD i 0:=by
 simp only[z9p,List.mem_map,List.mem_filter,List.mem_range,decide_eq_true_eq] at h
 obtain⟨i,⟨h1,h2⟩,rfl⟩:=h
 exact⟨i,h1,rfl,h2⟩
theorem z5j (l:List Ev)(n:Nat):(z9p l n).Pairwise (· < ·):=by
 unfold z9p
 rw[List.pairwise_map]
 refine List.Pairwise.imp ?_ (List.Pairwise.filter _ List.pairwise_lt_range)
 intro a b h
 exact Int.ofNat_lt.2 h
theorem za5 (l:List Ev)(n:Nat):(z9p l n).length≤n:=by
 unfold z9p
 rw[List.length_map]
 exact Nat.le_trans (List.length_filter_le _ _) (by simp)
theorem za6 {l:List Ev}{x:Int}(h:x ∈ z0r l):∃ i:Nat,i < l.length∧x=i∧0 < (l.map (·.Stamp)).getD i 0 :=
 za4 ((z4b (z6t l) (z5j l _)).1.subset h)
theorem z5k (l:List Ev):(z0r l).length≤l.length:=by
 have:=(z4b (z6t l) (z5j l l.length)).1.length_eq
 unfold z0r ygr
 rw[this];exact za5 l _
def toF (L:List Int)(k:Nat):Int:=L.getD k 0
theorem zup (L:List Int):(rF (toF L) L.length:AU)=sI true L:=by
 show AV.sl true () 1 L.length (tF (toF L) L.length)=_
 congr 1
 apply List.ext_getElem
 ·simp
 ·intro i h1 h2
  have:i < L.length:=by simpa using h2
  simp[toF,this]
theorem zpl (L:List Int):seg (toF L) 0 L.length=L:=by
 apply List.ext_getElem
 ·simp[ze3]
 ·intro i h1 h2
  simp[seg,toF,h2]
theorem ygs (key:Int→Int){L:List Int}(hL:L.Pairwise (· < ·)):SM key (toF L) 0 L.length (toF (zbj key L)):=by
 obtain⟨h1,h2⟩:=z4b key hL
 have hl:=h1.length_eq
 refine⟨fun k hk=>?_,?_,fun i j _ hij hj=>?_⟩
 ·have e1:L.length≤k:=by omega
  simp[toF,List.getD_eq_getElem?_getD,List.getElem?_eq_none e1,List.getElem?_eq_none (by omega:(zbj key L).length≤k)]
 ·rw[Nat.sub_zero,zpl]
  have:=zpl (zbj key L)
  rw[hl] at this
  rw[this];exact h1
 ·have:=List.pairwise_iff_getElem.1 h2 i j (by omega) (by omega) hij
  simpa [toF,List.getD_eq_getElem?_getD,show i < (zbj key L).length by omega,show j < (zbj key L).length by omega] using this
set_option maxHeartbeats 4000000 in
theorem y0a {key:Int→Int}{g:Nat}{cs:List AU}(L:List Int)(hL:L.Pairwise (· < ·))(hn:L.length≤100000000)(hcl:zul key (· ∈ L) g cs) :
  FnC Try.prog 91 [.nod (sI true L)] [.view 1000000 0 [] 0 L.length,.clos g [.vptr () cs]] [.nod (sI true (zbj key L))] (.tuple []):=by
 have hc:=zpg hcl (toF L) L.length hn (fun k hk=>by simp[toF,hk]) (fun i j hij hj=>by
  have:=List.pairwise_iff_getElem.1 hL i j (by omega) hj hij
  simpa [toF,List.getD_eq_getElem?_getD,show i < L.length by omega,hj] using this) _ (ygs key hL)
 have hlen:=(z4b key hL).1.length_eq
 have e2:=zup (zbj key L)
 rw[hlen] at e2
 rw[zup,e2] at hc
 refine FnC.go yz3 rfl ?_
 refine WL.reg (RL.o (by simp;rfl) (RL.callK false [(1000000,[])] hc (by simp) (by simp) (by simp[z35]) (by simp) (by simp[hlen]) (RL.nil ⟨_,by simp;rfl,.inl rfl,?_⟩)))
 simp[yxo]
end Go.OT
namespace Go.OT
open Go.Proofs
theorem yzb:Ty Try.prog 23 (List Int) (fun l=>[sI false l]) (fun l=>l.length≤9223372036854775807) :=
 (Ty.slice (s:=1) Try.underlying23 (by kernel_rfl) (by decide) (fun _=>rfl) ty3).map id (fun l=>by rw[z72];rfl) (fun l h=>h.1)
theorem yzc:TyA Try.prog 23 (List Int) (fun l=>sI false l) (fun l=>l.length≤9223372036854775807):=TyA.slice Try.underlying23 yzb
end Go.OT
namespace Go.OT
open Go.Proofs
def yv4:Cd:=(.seq (.reg [0,1,18,19] [.call none 19 66 [],.o [.asg 4 (.t 19)]]) .ret)
def yv5:Cd:=(.cond (.t 18) yv4 .skip)
def yv6:Cd:=(.cond (.t 23) .skip (.exit 0))
def yv7:Cd:=(.seq (.reg [0,1,5,33,34] [.call none 34 66 [],.o [.asg 4 (.t 34)]]) .ret)
def yv8:Cd:=(.cond (.t 33) yv7 .skip)
def yv9:Cd:=(.reg [33,24,25] [.o [.mov 24 (.t 5),.bin 25 .add (.t 24) (cI 1),.asg 5 (.t 25)]])
def yva:Cd:=(.seq (.block 1 (.seq (.reg [23,26,27,28,29,30,31,32] [.o [.mov 26 (.t 0),.mov 27 (.t 5),.iaddr 28 7 (.t 26) (.t 27),.faddr 29 1 (.t 28),.faddr 30 5 (.t 29),.ld 31 1 false (.t 30),.len 32 (.t 31),.bin 33 .gtr (.t 32) (cI 40)]]) yv8)) yv9)
def yvb:Cd:=(.seq (.seq (.reg [20,21,22] [.o [.mov 20 (.t 5),.mov 21 (.t 0),.len 22 (.t 21),.bin 23 .lss (.t 20) (.t 22)]]) yv6) yva)
def yvc:Cd:=(.block 0 (.loop yvb))
def yvd:Cd:=(.seq (.reg [6,7,44] [.o [.asg 4 (cB false)]]) .ret)
def ygt:Cd:=(.cond (.t 44) yvd .skip)
def ygu:Cd:=(.cond (.t 46) .skip (.exit 2))
def ygv:Cd:=(.reg [64,65] [.call none 65 74 [],.o [.asg 13 (.t 65)]])
def ygw:Cd:=(.cond (.t 64) ygv .skip)
def ygx:Cd:=(.seq (.reg [6,7,9,10,11,12,13,15,78,79] [.call none 79 66 [],.o [.asg 4 (.t 79)]]) .ret)
def zuq:Cd:=(.cond (.t 78) ygx .skip)
def zur:Cd:=(.reg [13,85,86,87,88,89,90,91,92,93] [.o [.mov 85 (.t 9),.mov 86 (.t 13),.s2b 87 (.t 86),.bs1 88 1 (.t 87),.app 89 1 24 (.t 85) (.t 88),.mov 90 (.t 10)],.call none 91 75 [],.o [.bs1 92 1 (.t 91),.app 93 1 24 (.t 90) (.t 92),.asg 9 (.t 89),.asg 10 (.t 93)]])
def zus:Cd:=(.seq (.reg [15,78,80,81,82,83,84] [.o [.mov 80 (.t 11),.mov 81 (.t 80)],.g 81 false [.mov 82 (.t 15),.bin 83 .gtr (.t 82) (cI 0)],.o [.pick 84 (.t 81) (cB true) (.t 83),.asg 11 (.t 84)]]) zur)
def zut:Cd:=(.seq (.seq (.reg [69,70,71,72,73,74,75,76,77] [.o [.faddr 69 0 (.t 7),.ld 70 1 false (.t 69),.mov 71 (.t 12),.iaddr 72 1 (.t 70) (.t 71),.ld 73 1 false (.t 72),.un 74 .not (.t 73),.mov 75 (.t 74)],.g 75 true [.mov 76 (.t 15),.bin 77 .gtr (.t 76) (cI 0)],.o [.pick 78 (.t 75) (.t 77) (cB false)]]) zuq) zus)
def zuu:Cd:=(.seq (.reg [64,66,67,68] [.o [.mov 66 (.t 6),.mov 67 (.t 12)],.call none 68 67 [(.t 66),(cI 5),(cI 3),(.t 67)],.o [.asg 15 (.t 68)]]) zut)
def zuv:Cd:=(.seq (.seq (.reg [59,60,61,62,63] [.o [.faddr 59 0 (.t 7),.ld 60 1 false (.t 59),.mov 61 (.t 12),.iaddr 62 1 (.t 60) (.t 61),.ld 63 1 false (.t 62),.un 64 .not (.t 63)]]) ygw) zuu)
def zuw:Cd:=(.reg [47,48] [.o [.mov 47 (.t 12),.bin 48 .add (.t 47) (cI 1),.asg 12 (.t 48)]])
def ygy:Cd:=(.seq (.block 3 (.seq (.reg [46,50,51,52,53,54,55,56,49,57,58,14] [.o [.mov 50 (.t 12),.faddr 51 1 (.t 7),.ld 52 1 false (.t 51),.mov 53 (.t 12),.iaddr 54 1 (.t 52) (.t 53),.ld 55 1 false (.t 54)],.call none 56 73 [(.t 50),(.t 55)],.o [.mov 49 (.t 56),.ext 57 49 0,.ext 58 49 1,.asg 13 (.t 57),.asg 14 (.t 58)]]) zuv)) zuw)
def ygz:Cd:=(.seq (.seq (.reg [45] [.o [.mov 45 (.t 12),.bin 46 .lss (.t 45) (cI 5)]]) ygu) ygy)
def yh0:Cd:=(.block 2 (.loop ygz))
def zk0:Cd:=(.seq (.reg [6,7,9,10,11,12,45,46,94,95,96,97,98,99,100,101,102,103,104,105,106,107,108,109] [.call none 94 66 [],.o [.mov 95 (.t 94)],.g 95 true [.mov 96 (.t 6),.mov 97 (.t 9)],.call (some (95,true)) 98 69 [(.t 96),(cI 5),(cI 3),(.t 97)],.g 95 true [.bin 99 .eql (.t 98) (cI 0)],.o [.pick 100 (.t 95) (.t 99) (cB false),.mov 101 (.t 100)],.g 101 true [.mov 102 (.t 6),.mov 103 (.t 10)],.call (some (101,true)) 104 69 [(.t 102),(cI 5),(cI 3),(.t 103)],.g 101 true [.bin 105 .eql (.t 104) (cI 0),.mov 106 (.t 11),.un 107 .not (.t 106),.beq 108 true (.t 105) (.t 107)],.o [.pick 109 (.t 101) (.t 108) (cB false),.asg 4 (.t 109)]]) .ret)
def zux:Cd:=(.seq (.seq (.reg [] [.o [.asg 12 (cI 0)]]) yh0) zk0)
def yh1:Cd:=(.seq (.reg [] [.o [.asg 11 (cB false)]]) zux)
def yh2:Cd:=(.seq (.reg [44] [.o [.asg 9 (.c (.sl true () 1 0 [])),.asg 10 (.c (.sl true () 1 0 []))]]) yh1)
def yh3:Cd:=(.seq (.seq (.reg [8,43] [.o [.mov 43 (.t 8),.un 44 .not (.t 43)]]) ygt) yh2)
def yh4:Cd:=(.seq (.reg [39,40,38,41,42] [.o [.mov 39 (.t 6)],.call none 40 31 [(.t 39),(cI 5),(cI 3)],.o [.mov 38 (.t 40),.ext 41 38 0,.ext 42 38 1,.alloc 7 [(.sl true () 1 0 []),(.sl true () 1 0 []),(.sl true () 1 0 [])],.st 3 (.t 7) (.t 41),.asg 8 (.t 42)]]) yh3)
def zuy:Cd:=(.seq (.reg [0,1,5,20,21,22,23,35,36,37] [.o [.mov 35 (.t 0),.mov 36 (.t 1)],.call none 37 41 [(.t 35),(.t 36)],.o [.asg 6 (.t 37)]]) yh4)
def yh5:Cd:=(.seq (.seq (.reg [18] [.o [.asg 5 (cI 0)]]) yvc) zuy)
def yh6:Cd:=(.seq (.seq (.reg [16,17] [.o [.mov 16 (.t 0),.len 17 (.t 16),.bin 18 .gtr (.t 17) (cI 40)]]) yv5) yh5)
def zeo:FI:=⟨110,2,[.t 4],(.seq (.reg [4] [.o [.asg 4 (cB false)]]) yh6)⟩
theorem yzd:z1v Try.prog 19 zeo:=⟨_,_,Try.func19,rfl,by kernel_rfl,by kernel_rfl,Try.call19⟩
def yve:Cd:=(.seq (.reg [3,5,7,8,9,34] [.o [.asg 0 (cB false)]]) .ret)
def yvf:Cd:=(.cond (.t 34) yve .skip)
def yvg:Cd:=(.seq (.reg [3,5,7,8,9,37,38,39,40,41,42,43,44,45,46,47,48,49,50,51,52,53,54,55,56,57,58,59,60,61,62,63,64,65,66,67,68,69,70,71,72,73,74,75,76,77,78,79,80,81,82,83,84,85,86,87,88,89,90,91,92,93,94,95,96,97] [.o [.mov 37 (.t 7)],.call none 38 67 [(.t 37),(cI 1),(cI 1),(cI 0)],.o [.bin 39 .eql (.t 38) (cI 5),.mov 40 (.t 39)],.g 40 true [.mov 41 (.t 7),.slice 42 14 (.t 41) none (some (cI 1))],.call (some (40,true)) 43 67 [(.t 42),(cI 1),(cI 1),(cI 0)],.g 40 true [.bin 44 .eql (.t 43) (cI 0)],.o [.pick 45 (.t 40) (.t 44) (cB false),.mov 46 (.t 45)],.g 46 true [.mov 47 (.t 7),.mov 48 (.t 3),.bs1 49 1 (.t 48)],.call (some (46,true)) 50 69 [(.t 47),(cI 1),(cI 1),(.t 49)],.g 46 true [.bin 51 .eql (.t 50) (cI 0)],.o [.pick 52 (.t 46) (.t 51) (cB false),.mov 53 (.t 52)],.g 53 true [.mov 54 (.t 7),.mov 55 (.t 8),.bs1 56 1 (.t 55)],.call (some (53,true)) 57 69 [(.t 54),(cI 1),(cI 1),(.t 56)],.g 53 true [.bin 58 .eql (.t 57) (cI 1)],.o [.pick 59 (.t 53) (.t 58) (cB false),.mov 60 (.t 59)],.g 60 true [.mov 61 (.t 7),.slice 62 14 (.t 61) none (some (cI 1)),.mov 63 (.t 8),.bs1 64 1 (.t 63)],.call (some (60,true)) 65 69 [(.t 62),(cI 1),(cI 1),(.t 64)],.g 60 true [.bin 66 .eql (.t 65) (cI 0)],.o [.pick 67 (.t 60) (.t 66) (cB false),.mov 68 (.t 67)],.g 68 true [.mov 69 (.t 7),.mov 70 (.t 5),.bs1 71 1 (.t 70)],.call (some (68,true)) 72 69 [(.t 69),(cI 1),(cI 1),(.t 71)],.g 68 true [.bin 73 .eql (.t 72) (cI 1)],.o [.pick 74 (.t 68) (.t 73) (cB false),.mov 75 (.t 74)],.g 75 true [.mov 76 (.t 7),.mov 77 (.t 9),.bs1 78 1 (.t 77)],.call (some (75,true)) 79 69 [(.t 76),(cI 1),(cI 1),(.t 78)],.g 75 true [.bin 80 .eql (.t 79) (cI 1)],.o [.pick 81 (.t 75) (.t 80) (cB false),.mov 82 (.t 81)],.g 82 true [.mov 83 (.t 7),.slice 84 14 (.t 83) none (some (cI 1)),.mov 85 (.t 9),.bs1 86 1 (.t 85)],.call (some (82,true)) 87 69 [(.t 84),(cI 1),(cI 1),(.t 86)],.g 82 true [.bin 88 .eql (.t 87) (cI 0)],.o [.pick 89 (.t 82) (.t 88) (cB false),.mov 90 (.t 89)],.g 90 true [.mov 91 (.t 7),.slice 92 14 (.t 91) (some (cI 1)) none,.mov 93 (.t 3),.bs1 94 1 (.t 93)],.call (some (90,true)) 95 69 [(.t 92),(cI 1),(cI 1),(.t 94)],.g 90 true [.bin 96 .eql (.t 95) (cI (-1))],.o [.pick 97 (.t 90) (.t 96) (cB false),.asg 0 (.t 97)]]) .ret)
def yvh:Cd:=(.seq (.reg [34,35,36] [.o [.mov 35 (.t 9),.iaddr 36 1 (.t 35) (cI 20),.st 1 (.t 36) (.c (.sc (.int .u8 9)))]]) yvg)
def yvi:Cd:=(.seq (.seq (.reg [32,33] [.o [.mov 32 (.t 9),.len 33 (.t 32),.bin 34 .neq (.t 33) (cI 24)]]) yvf) yvh)
def yvj:Cd:=(.seq (.reg [29,30,31] [.o [.bs0 29 1,.mov 30 (.t 3),.app 31 1 1 (.t 29) (.t 30),.asg 9 (.t 31)]]) yvi)
def yvk:Cd:=(.seq (.reg [28] [.call none 28 75 [],.o [.asg 8 (.t 28)]]) yvj)
def yvl:Cd:=(.seq (.reg [1,2,25,26,27] [.o [.ld 25 14 true (.t 1),.ld 26 14 true (.t 2),.bsa 27 14 [(.t 25),(.t 26)],.asg 7 (.t 27)]]) yvk)
def yvm:Cd:=(.seq (.reg [20,21,22,19,23,24,6] [.o [.bsn 20 [(.c (.sc (.int .u8 48))),(.c (.sc (.int .u8 49))),(.c (.sc (.int .u8 50))),(.c (.sc (.int .u8 51))),(.c (.sc (.int .u8 52))),(.c (.sc (.int .u8 53))),(.c (.sc (.int .u8 54))),(.c (.sc (.int .u8 55))),(.c (.sc (.int .u8 56))),(.c (.sc (.int .u8 57))),(.c (.sc (.int .u8 97))),(.c (.sc (.int .u8 98))),(.c (.sc (.int .u8 99))),(.c (.sc (.int .u8 100))),(.c (.sc (.int .u8 101))),(.c (.sc (.int .u8 102)))],.cvb 21 20],.call none 22 113 [(cI 0),(.t 21)],.o [.mov 19 (.t 22),.ext 23 19 0,.ext 24 19 1,.asg 5 (.t 23),.asg 6 (.t 24)]]) yvl)
def yvn:Cd:=(.seq (.reg [15,16,14,17,18,4] [.o [.make 15 1 1 [(.sc (.int .u8 0))] (cI 16) (cI 16)],.call none 16 113 [(cI 0),(.t 15)],.o [.mov 14 (.t 16),.ext 17 14 0,.ext 18 14 1,.asg 3 (.t 17),.asg 4 (.t 18)]]) yvm)
def yh7:Cd:=(.seq (.reg [12,13] [.o [.build 12 [(.sc (.int .i64 0)),(.sc (.int .i64 0)),(.sc (.int .i64 0)),(.sc (.int .i64 0)),(.sc (.int .i64 0)),(.sc (.slice none 0 0))] [(0,1,(cI 6))],.build 13 [(.sc (.int .i64 0)),(.sc (.int .i64 0)),(.sc (.int .i64 0)),(.sc (.int .i64 0)),(.sc (.int .i64 0)),(.sc (.int .i64 0)),(.sc (.slice none 0 0)),(.sc (.int .i64 0)),(.sc (.int .i64 0)),(.sc (.int .i64 0)),(.sc (.slice none 0 0)),(.sc (.int .i64 0)),(.sc (.int .i64 0)),(.sc (.int .i64 0))] [(1,6,(.t 12)),(11,1,(cI 4)),(12,1,(cI 5)),(13,1,(cI 6))],.alloc 2 [(.sc (.int .i64 0)),(.sc (.int .i64 0)),(.sc (.int .i64 0)),(.sc (.int .i64 0)),(.sc (.int .i64 0)),(.sc (.int .i64 0)),(.sl true () 1 0 []),(.sc (.int .i64 0)),(.sc (.int .i64 0)),(.sc (.int .i64 0)),(.sl true () 1 0 []),(.sc (.int .i64 0)),(.sc (.int .i64 0)),(.sc (.int .i64 0))],.st 14 (.t 2) (.t 13)]]) yvn)
def yh8:Cd:=(.seq (.reg [10,11] [.o [.build 10 [(.sc (.int .i64 0)),(.sc (.int .i64 0)),(.sc (.int .i64 0)),(.sc (.int .i64 0)),(.sc (.int .i64 0)),(.sc (.slice none 0 0))] [(0,1,(cI 1))],.build 11 [(.sc (.int .i64 0)),(.sc (.int .i64 0)),(.sc (.int .i64 0)),(.sc (.int .i64 0)),(.sc (.int .i64 0)),(.sc (.int .i64 0)),(.sc (.slice none 0 0)),(.sc (.int .i64 0)),(.sc (.int .i64 0)),(.sc (.int .i64 0)),(.sc (.slice none 0 0)),(.sc (.int .i64 0)),(.sc (.int .i64 0)),(.sc (.int .i64 0))] [(1,6,(.t 10)),(11,1,(cI 1)),(12,1,(cI 2)),(13,1,(cI 3))],.alloc 1 [(.sc (.int .i64 0)),(.sc (.int .i64 0)),(.sc (.int .i64 0)),(.sc (.int .i64 0)),(.sc (.int .i64 0)),(.sc (.int .i64 0)),(.sl true () 1 0 []),(.sc (.int .i64 0)),(.sc (.int .i64 0)),(.sc (.int .i64 0)),(.sl true () 1 0 []),(.sc (.int .i64 0)),(.sc (.int .i64 0)),(.sc (.int .i64 0))],.st 14 (.t 1) (.t 11)]]) yh7)
def yxr:FI:=⟨98,0,[.t 0],(.seq (.reg [0] [.o [.asg 0 (cB false)]]) yh8)⟩
theorem yze:z1v Try.prog 66 yxr:=⟨_,_,Try.func66,rfl,by kernel_rfl,by kernel_rfl,Try.call66⟩
def yvo:Cd:=(.seq (.reg [9,17] [.o [.asg 8 (cI (-1))]]) .ret)
def yvp:Cd:=(.cond (.t 17) yvo .skip)
def yvq:Cd:=(.seq (.reg [9,17,18] [.o [.ld 18 1 false (.t 9),.asg 8 (.t 18)]]) .ret)
def yvr:Cd:=(.seq (.seq (.reg [10,16] [.o [.mov 16 (.t 10),.bin 17 .neq (.t 16) (cI 0)]]) yvp) yvq)
def yvs:Cd:=(.seq (.reg [1,2,4,7,11,12,13,14,15] [.o [.ld 11 1 false (.t 4),.mov 12 (.t 1),.mov 13 (.t 2),.mkf 14 114 [(.t 4),(.t 7),(.t 9)]],.call none 15 88 [(.t 11),(.t 12),(.t 13),(.t 14)],.o [.asg 10 (.t 15)]]) yvr)
def yvt:Cd:=(.seq (.reg [] [.o [.alloc 9 [(.sc (.int .i64 0))],.st 1 (.t 9) (cI 0)]]) yvs)
def yvu:FI:=⟨19,4,[.t 8],(.seq (.reg [0,3,8] [.o [.box 4 (.t 0),.box 7 (.t 3),.asg 8 (cI 0)]]) yvt)⟩
theorem yzf:z1v Try.prog 67 yvu:=⟨_,_,Try.func67,rfl,by kernel_rfl,by kernel_rfl,Try.call67⟩
def yvv:Cd:=(.seq (.reg [0,1,2,3,26] [.o [.asg 8 (cI (-1))]]) .ret)
def yvw:Cd:=(.cond (.t 26) yvv .skip)
def yvx:Cd:=(.seq (.reg [0,1,2,27,28,29,9,75,76,77] [.o [.mov 76 (.t 9),.bin 77 .add (.t 76) (cI 1),.asg 8 (.t 77)]]) .ret)
def yh9:Cd:=(.cond (.t 75) yvx .skip)
def yha:Cd:=(.seq (.reg [15,74] [.o [.mov 74 (.t 15),.un 75 .not (.t 74)]]) yh9)
def yvy:Cd:=(.seq (.reg [11,12,13,14,51,52,53,54,55,56,57,58,59,60,61,62,63,64,65,66,67,68,69,70,71,72,73] [.o [.mov 51 (.t 14),.bin 52 .eql (.t 51) (cI 0),.mov 53 (.t 52)],.g 53 true [.ld 54 2 true (.t 12),.mov 55 (.t 13)],.call (some (53,true)) 56 118 [(.t 54),(.t 55)],.o [.pick 57 (.t 53) (.t 56) (cB false),.mov 58 (.t 57)],.g 58 false [.mov 59 (.t 14),.bin 60 .eql (.t 59) (cI 11),.mov 61 (.t 60)],.g 61 true [.mov 62 (.t 11),.bin 63 .eql (.t 62) (cI 0)],.g 58 false [.pick 64 (.t 61) (.t 63) (cB false)],.o [.pick 65 (.t 58) (cB true) (.t 64),.mov 66 (.t 65)],.g 66 false [.mov 67 (.t 14),.bin 68 .eql (.t 67) (cI 10),.mov 69 (.t 68)],.g 69 true [.faddr 70 1 (.t 12),.ld 71 1 false (.t 70)],.g 66 false [.pick 72 (.t 69) (.t 71) (cB false)],.o [.pick 73 (.t 66) (cB true) (.t 72),.asg 15 (.t 73)]]) yha)
def yvz:Cd:=(.seq (.reg [10,46,47,48,45,49,50] [.o [.mov 46 (.t 9),.mov 47 (.t 10)],.call none 48 117 [(.t 46),(.t 47)],.o [.mov 45 (.t 48),.ext 49 45 0,.ext 50 45 1,.asg 13 (.t 49),.asg 14 (.t 50)]]) yvy)
def yw0:Cd:=(.seq (.reg [39,40,41,42,43,44] [.o [.mov 39 (.t 0),.mov 40 (.t 1),.mov 41 (.t 2),.mov 42 (.t 9),.mov 43 (.t 11)],.call none 44 116 [(.t 39),(.t 40),(.t 41),(.t 42),(.t 43)],.o [.alloc 12 [(.sl true () 1 0 []),(.sc (.bool false))],.st 2 (.t 12) (.t 44)]]) yvz)
def yhb:Cd:=(.seq (.reg [34,35,36,37,38] [.o [.mov 34 (.t 0),.mov 35 (.t 1),.mov 36 (.t 2),.mov 37 (.t 9)],.call none 38 67 [(.t 34),(.t 35),(.t 36),(.t 37)],.o [.asg 11 (.t 38)]]) yw0)
def yw1:Cd:=(.reg [9,75,78] [.o [.bin 78 .add (.t 29) (cI 1),.mov 29 (.t 78)]])
def yhc:Cd:=(.seq (.block 1 (.seq (.reg [30,31,32,33] [.o [.mov 31 (.t 29),.iaddr 32 1 (.t 27) (.t 29),.ld 33 1 false (.t 32),.asg 9 (.t 31),.asg 10 (.t 33)]]) yhb)) yw1)
def yhd:Cd:=(.seq (.cond (.t 30) .skip (.exit 0)) yhc)
def yhe:Cd:=(.seq (.reg [] [.o [.bin 30 .lss (.t 29) (.t 28)]]) yhd)
def yhf:Cd:=(.block 0 (.loop yhe))
def yhg:Cd:=(.seq (.reg [0,1,2,27,28,29,30] [.o [.asg 8 (cI 0)]]) .ret)
def yhh:Cd:=(.seq (.seq (.reg [3,26] [.o [.mov 27 (.t 3),.len 28 (.t 27),.mov 29 (cI 0)]]) yhf) yhg)
def yhi:Cd:=(.seq (.seq (.reg [16,17,18,19,20,21,22,23,24,25] [.o [.mov 16 (.t 0),.mov 17 (.t 1),.mov 18 (.t 2)],.call none 19 28 [(.t 16),(.t 17),(.t 18)],.o [.bin 20 .neq (.t 19) (cI 0),.mov 21 (.t 20)],.g 21 false [.mov 22 (.t 3),.len 23 (.t 22),.mov 24 (.t 1),.bin 25 .neq (.t 23) (.t 24)],.o [.pick 26 (.t 21) (cB true) (.t 25)]]) yvw) yhh)
def zt2:FI:=⟨79,4,[.t 8],(.seq (.reg [8] [.o [.asg 8 (cI 0)]]) yhi)⟩
theorem yzg:z1v Try.prog 69 zt2:=⟨_,_,Try.func69,rfl,by kernel_rfl,by kernel_rfl,Try.call69⟩
def yw2:Cd:=(.seq (.reg [0,1,17] [.o [.asg 4 (.c (.sc (.string ⟨#[]⟩))),.asg 5 (cI 1)]]) .ret)
def yw3:Cd:=(.cond (.t 17) yw2 .skip)
def yw4:Cd:=(.seq (.reg [6,25,26,27,28,29] [.o [.mov 25 (.t 6)],.call none 26 121 [(.t 25)],.call none 27 120 [(.t 26),(cI 4)],.o [.mov 28 (.t 6),.bin 29 .add (.t 27) (.t 28),.asg 4 (.t 29),.asg 5 (cI 0)]]) .ret)
def yw5:Cd:=(.seq (.reg [0,1,17,18,19,20,21,22,23,24] [.o [.mov 18 (.t 0),.bin 19 .add (.t 18) (cI 1),.conv 20 .u32 (.t 19)],.call none 21 120 [(.t 20),(cI 2)],.o [.bin 22 .add (.t 21) (.c (.sc (.string ⟨#[90,165]⟩))),.mov 23 (.t 1),.bin 24 .add (.t 22) (.t 23),.asg 6 (.t 24)]]) yw4)
def yw6:Cd:=(.seq (.seq (.reg [7,8,9,10,11,12,13,14,15,16] [.o [.mov 7 (.t 0),.bin 8 .lss (.t 7) (cI 0),.mov 9 (.t 8)],.g 9 false [.mov 10 (.t 0),.bin 11 .geq (.t 10) (cI 48)],.o [.pick 12 (.t 9) (cB true) (.t 11),.mov 13 (.t 12)],.g 13 false [.mov 14 (.t 1),.slen 15 (.t 14),.bin 16 .neq (.t 15) (cI 16)],.o [.pick 17 (.t 13) (cB true) (.t 16)]]) yw3) yw5)
def y2s:FI:=⟨30,2,[.t 4,.t 5],(.seq (.reg [4,5] [.o [.asg 4 (.c (.sc (.string ⟨#[]⟩))),.asg 5 (cI 0)]]) yw6)⟩
theorem yzh:z1v Try.prog 73 y2s:=⟨_,_,Try.func73,rfl,by kernel_rfl,by kernel_rfl,Try.call73⟩
def yw7:Cd:=(.seq (.reg [1,2] [.o [.make 1 1 1 [(.sc (.int .u8 0))] (cI 24) (cI 24),.b2s 2 (.t 1),.asg 0 (.t 2)]]) .ret)
def yxs:FI:=⟨3,0,[.t 0],(.seq (.reg [0] [.o [.asg 0 (.c (.sc (.string ⟨#[]⟩)))]]) yw7)⟩
theorem yzi:z1v Try.prog 74 yxs:=⟨_,_,Try.func74,rfl,by kernel_rfl,by kernel_rfl,Try.call74⟩
def yw8:Cd:=(.seq (.reg [1] [.o [.make 1 1 1 [(.sc (.int .u8 0))] (cI 24) (cI 24),.asg 0 (.t 1)]]) .ret)
def yxt:FI:=⟨2,0,[.t 0],(.seq (.reg [0] [.o [.asg 0 (.c (.sl true () 1 0 []))]]) yw8)⟩
theorem yzj:z1v Try.prog 75 yxt:=⟨_,_,Try.func75,rfl,by kernel_rfl,by kernel_rfl,Try.call75⟩
def yhj:Cd:=(.seq (.reg [0,1,16] [.o [.asg 4 (.c (.sl true () 1 0 [])),.asg 5 (cI 1)]]) .ret)
def yhk:Cd:=(.cond (.t 16) yhj .skip)
def yhl:Cd:=(.reg [8,43,44,45,46,47,48,49,50,51] [.o [.mov 43 (.t 6),.mov 44 (.t 8),.mov 45 (.t 7),.mov 46 (.t 8),.bin 47 .mul (cI 8) (.t 46),.conv 48 .u64 (.t 47),.bin 49 .shr (.t 45) (.t 48),.conv 50 .u8 (.t 49),.iaddr 51 1 (.t 43) (.t 44),.st 1 (.t 51) (.t 50)]])
def yhm:Cd:=(.reg [52] [.o [.bin 52 .add (.t 40) (cI 1),.mov 40 (.t 52)]])
def yhn:Cd:=(.seq (.block 1 (.seq (.reg [41,42] [.o [.mov 42 (.t 40),.asg 8 (.t 42)]]) yhl)) yhm)
def yho:Cd:=(.seq (.cond (.t 41) .skip (.exit 0)) yhn)
def yhp:Cd:=(.seq (.reg [] [.o [.bin 41 .lss (.t 40) (cI 4)]]) yho)
def yhq:Cd:=(.block 0 (.loop yhp))
def yhr:Cd:=(.seq (.reg [6,7,40,41,53] [.o [.mov 53 (.t 6),.asg 4 (.t 53),.asg 5 (cI 0)]]) .ret)
def yhs:Cd:=(.seq (.seq (.reg [] [.o [.mov 40 (cI 0)]]) yhq) yhr)
def y0b:Cd:=(.seq (.reg [37,38,39] [.o [.mov 37 (.t 6),.slice 38 1 (.t 37) (some (cI 4)) none],.call none 39 153 [(.t 38)],.o [.asg 7 (.t 39)]]) yhs)
def y0c:Cd:=(.seq (.reg [1,33,34,35,36] [.o [.mov 33 (.t 6),.slice 34 1 (.t 33) (some (cI 8)) none,.mov 35 (.t 1),.cpy 36 1 (.t 34) (.t 35)]]) y0b)
def y0d:Cd:=(.seq (.reg [0,18,19,20,21,22,23,24,25,26,27,28,29,30,31,32] [.o [.mov 18 (.t 6),.mov 19 (.t 6),.mov 20 (.t 6),.mov 21 (.t 6),.mov 22 (.t 0),.bin 23 .add (.t 22) (cI 1),.conv 24 .u8 (.t 23),.mov 25 (.t 0),.bin 26 .add (.t 25) (cI 1),.bin 27 .shr (.t 26) (.c (.sc (.int .u64 8))),.conv 28 .u8 (.t 27),.iaddr 29 1 (.t 18) (cI 4),.st 1 (.t 29) (.t 24),.iaddr 30 1 (.t 19) (cI 5),.st 1 (.t 30) (.t 28),.iaddr 31 1 (.t 20) (cI 6),.st 1 (.t 31) (.c (.sc (.int .u8 90))),.iaddr 32 1 (.t 21) (cI 7),.st 1 (.t 32) (.c (.sc (.int .u8 165)))]]) y0c)
def y0e:Cd:=(.seq (.reg [16,17] [.call none 17 75 [],.o [.asg 6 (.t 17)]]) y0d)
def y0f:Cd:=(.seq (.seq (.reg [9,10,11,12,13,14,15] [.o [.mov 9 (.t 0)],.call none 10 152 [(.t 9)],.o [.un 11 .not (.t 10),.mov 12 (.t 11)],.g 12 false [.mov 13 (.t 1),.len 14 (.t 13),.bin 15 .neq (.t 14) (cI 16)],.o [.pick 16 (.t 12) (cB true) (.t 15)]]) yhk) y0e)
def zpm:FI:=⟨54,2,[.t 4,.t 5],(.seq (.reg [4,5] [.o [.asg 4 (.c (.sl true () 1 0 [])),.asg 5 (cI 0)]]) y0f)⟩
theorem yw9:z1v Try.prog 113 zpm:=⟨_,_,Try.func113,rfl,by kernel_rfl,by kernel_rfl,Try.call113⟩
def yht:Cd:=(.reg [4,7,59,60,61,62,63] [.o [.ld 60 1 false (.t 4),.faddr 61 12 (.t 7),.ld 62 1 false (.t 61),.mx 63 true (.t 60) (.t 62),.st 1 (.t 4) (.t 63)]])
def zuz:Cd:=(.cond (.t 59) yht .skip)
def zpn:Cd:=(.seq (.reg [3,6,8,30,31,32,33,34,35,36,37,38,39,40,41,42,43,44,45,46,47,48,49,50,51,52,53,54,55,56,57,58] [.o [.mov 30 (.t 8),.mov 31 (.t 30)],.g 31 true [.faddr 32 13 (.t 7),.ld 33 1 false (.t 32),.bin 34 .gtr (.t 33) (cI 0)],.o [.pick 35 (.t 31) (.t 34) (cB false),.mov 36 (.t 35)],.g 36 true [.faddr 37 7 (.t 7),.faddr 38 0 (.t 37),.ld 39 1 false (.t 38),.bin 40 .eql (.t 39) (cI 0)],.o [.pick 41 (.t 36) (.t 40) (cB false),.mov 42 (.t 41)],.g 42 true [.ld 43 1 false (.t 3),.bin 44 .geq (.t 43) (cI 0)],.o [.pick 45 (.t 42) (.t 44) (cB false),.mov 46 (.t 45)],.g 46 true [.ld 47 1 false (.t 3),.faddr 48 0 (.t 6),.ld 49 1 false (.t 48),.len 50 (.t 49),.bin 51 .lss (.t 47) (.t 50)],.o [.pick 52 (.t 46) (.t 51) (cB false),.mov 53 (.t 52)],.g 53 true [.faddr 54 0 (.t 6),.ld 55 1 false (.t 54),.ld 56 1 false (.t 3),.iaddr 57 1 (.t 55) (.t 56),.ld 58 1 false (.t 57)],.o [.pick 59 (.t 53) (.t 58) (cB false)]]) zuz)
def yhu:Cd:=(.seq (.reg [13,14,15,16,17,18,19,20,21,22,23,24,25,26,27,28,29] [.o [.faddr 13 1 (.t 7),.faddr 14 0 (.t 13),.ld 15 1 false (.t 14),.bin 16 .eql (.t 15) (cI 7),.mov 17 (.t 16)],.g 17 false [.faddr 18 1 (.t 7),.faddr 19 0 (.t 18),.ld 20 1 false (.t 19),.bin 21 .eql (.t 20) (cI 6),.mov 22 (.t 21)],.g 22 true [.faddr 23 1 (.t 7),.faddr 24 1 (.t 23),.ld 25 1 false (.t 24),.ld 26 1 false (.t 3),.bin 27 .eql (.t 25) (.t 26)],.g 17 false [.pick 28 (.t 22) (.t 27) (cB false)],.o [.pick 29 (.t 17) (cB true) (.t 28),.asg 8 (.t 29)]]) zpn)
def yhv:Cd:=(.seq (.reg [0,2,9,10,11,12] [.o [.ld 9 1 false (.t 2),.mov 10 (.t 0),.iaddr 11 14 (.t 9) (.t 10),.ld 12 14 true (.t 11),.alloc 7 [(.sc (.int .i64 0)),(.sc (.int .i64 0)),(.sc (.int .i64 0)),(.sc (.int .i64 0)),(.sc (.int .i64 0)),(.sc (.int .i64 0)),(.sl true () 1 0 []),(.sc (.int .i64 0)),(.sc (.int .i64 0)),(.sc (.int .i64 0)),(.sl true () 1 0 []),(.sc (.int .i64 0)),(.sc (.int .i64 0)),(.sc (.int .i64 0))],.st 14 (.t 7) (.t 12)]]) yhu)
def zib:FI:=⟨64,5,[],(.seq (.reg [1] [.o [.box 6 (.t 1)]]) yhv)⟩
theorem ywa:z1v Try.prog 114 zib:=⟨_,_,Try.func114,rfl,by kernel_rfl,by kernel_rfl,Try.call114⟩
def yhw:Cd:=(.reg [16,35,36,37,38,39,40,41,42,43,44,45,46,47,48] [.o [.faddr 35 1 (.t 11),.ld 36 1 false (.t 35),.mov 37 (.t 36)],.g 37 false [.faddr 38 12 (.t 16),.ld 39 1 false (.t 38),.bin 40 .eql (.t 39) (cI 0),.mov 41 (.t 40)],.g 41 true [.ld 42 14 true (.t 16),.ld 43 3 true (.t 13),.ld 44 1 false (.t 8)],.call (some (41,true)) 45 155 [(.t 42),(.t 43),(.t 44)],.g 37 false [.pick 46 (.t 41) (.t 45) (cB false)],.o [.pick 47 (.t 37) (cB true) (.t 46),.faddr 48 1 (.t 11),.st 1 (.t 48) (.t 47)]])
def zv0:Cd:=(.reg [49] [.o [.bin 49 .add (.t 31) (cI 1),.mov 31 (.t 49)]])
def yhx:Cd:=(.seq (.block 1 (.seq (.reg [32,33,34] [.o [.iaddr 33 14 (.t 29) (.t 31),.ld 34 14 true (.t 33),.alloc 16 [(.sc (.int .i64 0)),(.sc (.int .i64 0)),(.sc (.int .i64 0)),(.sc (.int .i64 0)),(.sc (.int .i64 0)),(.sc (.int .i64 0)),(.sl true () 1 0 []),(.sc (.int .i64 0)),(.sc (.int .i64 0)),(.sc (.int .i64 0)),(.sl true () 1 0 []),(.sc (.int .i64 0)),(.sc (.int .i64 0)),(.sc (.int .i64 0))],.st 14 (.t 16) (.t 34)]]) yhw)) zv0)
def yhy:Cd:=(.seq (.cond (.t 32) .skip (.exit 0)) yhx)
def yhz:Cd:=(.seq (.reg [] [.o [.bin 32 .lss (.t 31) (.t 30)]]) yhy)
def yi0:Cd:=(.block 0 (.loop yhz))
def zv1:Cd:=(.seq (.reg [8,11,13,29,30,31,32,50] [.o [.ld 50 2 true (.t 11),.st 2 (.t 10) (.t 50)]]) .ret)
def yi1:Cd:=(.seq (.seq (.reg [5] [.o [.ld 29 1 false (.t 5),.len 30 (.t 29),.mov 31 (cI 0)]]) yi0) zv1)
def yi2:Cd:=(.seq (.reg [1,2,23,24,25,26,22,27,28,14] [.o [.ld 23 1 false (.t 5),.mov 24 (.t 1),.mov 25 (.t 2)],.call none 26 30 [(.t 23),(.t 24),(.t 25)],.o [.mov 22 (.t 26),.ext 27 22 0,.ext 28 22 1,.alloc 13 [(.sl true () 1 0 []),(.sl true () 1 0 []),(.sl true () 1 0 [])],.st 3 (.t 13) (.t 27),.asg 14 (.t 28)]]) yi1)
def yi3:Cd:=(.seq (.reg [9,12,17,18,19,20,21] [.o [.ld 17 1 false (.t 5),.mov 18 (.t 1),.mov 19 (.t 2),.mkf 20 154 [(.t 5),(.t 9),(.t 8),(.t 11),(.t 12)]],.call none 21 88 [(.t 17),(.t 18),(.t 19),(.t 20)]]) yi2)
def y0g:Cd:=(.seq (.reg [] [.o [.alloc 12 [(.sc (.bool false))],.st 1 (.t 12) (cB false)]]) yi3)
def y0h:Cd:=(.seq (.reg [] [.o [.alloc 11 [(.sl true () 1 0 []),(.sc (.bool false))]]]) y0g)
def zld:FI:=⟨51,5,[.cell 10 2 true],(.seq (.reg [0,3,4] [.o [.box 5 (.t 0),.box 8 (.t 3),.box 9 (.t 4),.alloc 10 [(.sl true () 1 0 []),(.sc (.bool false))]]]) y0h)⟩
theorem ywb:z1v Try.prog 116 zld:=⟨_,_,Try.func116,rfl,by kernel_rfl,by kernel_rfl,Try.call116⟩
def yi4:Cd:=(.seq (.reg [0,1,17] [.o [.asg 4 (.c (.sl true () 1 0 [])),.asg 5 (cI 1)]]) .ret)
def yi5:Cd:=(.cond (.t 17) yi4 .skip)
def yi6:Cd:=(.cond (.t 21) .skip (.exit 0))
def yi7:Cd:=(.cond (.t 26) (.exit 0) .skip)
def yi8:Cd:=(.reg [26,27,28] [.o [.mov 27 (.t 6),.bin 28 .add (.t 27) (cI 1),.asg 6 (.t 28)]])
def yi9:Cd:=(.block 1 (.seq (.seq (.reg [21,22,23,24,25] [.o [.mov 22 (.t 1),.mov 23 (.t 6),.iaddr 24 1 (.t 22) (.t 23),.ld 25 1 false (.t 24),.bin 26 .neq (.t 25) (.c (.sc (.int .u8 0)))]]) yi7) yi8))
def yia:Cd:=(.seq (.seq (.reg [18,19,20] [.o [.mov 18 (.t 6),.mov 19 (.t 1),.len 20 (.t 19),.bin 21 .lss (.t 18) (.t 20)]]) yi6) yi9)
def yib:Cd:=(.seq (.reg [0,1,32] [.o [.asg 4 (.c (.sl true () 1 0 [])),.asg 5 (cI 11)]]) .ret)
def yic:Cd:=(.cond (.t 32) yib .skip)
def yid:Cd:=(.seq (.reg [7,45] [.o [.asg 4 (.c (.sl true () 1 0 [])),.asg 5 (cI 10)]]) .ret)
def y0i:Cd:=(.cond (.t 45) yid .skip)
def y0j:Cd:=(.seq (.reg [1,8,42,43,44] [.o [.mov 42 (.t 8),.mov 43 (.t 1)],.call none 44 102 [(.t 42),(.t 43)],.o [.un 45 .not (.t 44)]]) y0i)
def y0k:Cd:=(.seq (.reg [7,45,46] [.o [.mov 46 (.t 7),.asg 4 (.t 46),.asg 5 (cI 0)]]) .ret)
def y0l:Cd:=(.seq (.seq (.reg [0,37,38,39,36,40,41,9] [.o [.mov 37 (.t 0),.mov 38 (.t 7)],.call none 39 113 [(.t 37),(.t 38)],.o [.mov 36 (.t 39),.ext 40 36 0,.ext 41 36 1,.asg 8 (.t 40),.asg 9 (.t 41)]]) y0j) y0k)
def zpo:Cd:=(.seq (.reg [32,33,34,35] [.o [.mov 33 (.t 1),.slice 34 1 (.t 33) (some (cI 8)) none],.call none 35 108 [(.t 34)],.o [.asg 7 (.t 35)]]) y0l)
def y0m:Cd:=(.seq (.seq (.reg [6,18,19,20,21,29,30,31] [.o [.mov 29 (.t 6),.mov 30 (.t 1),.len 31 (.t 30),.bin 32 .eql (.t 29) (.t 31)]]) yic) zpo)
def y0n:Cd:=(.seq (.block 0 (.loop yia)) y0m)
def y0o:Cd:=(.seq (.label 0) y0n)
def y0p:Cd:=(.seq (.reg [17] [.o [.asg 6 (cI 0)]]) y0o)
def y0q:Cd:=(.scope (.seq (.seq (.reg [10,11,12,13,14,15,16] [.o [.mov 10 (.t 0)],.call none 11 152 [(.t 10)],.o [.un 12 .not (.t 11),.mov 13 (.t 12)],.g 13 false [.mov 14 (.t 1),.len 15 (.t 14),.bin 16 .neq (.t 15) (cI 24)],.o [.pick 17 (.t 13) (cB true) (.t 16)]]) yi5) y0p))
def zgk:FI:=⟨47,2,[.t 4,.t 5],(.seq (.reg [4,5] [.o [.asg 4 (.c (.sl true () 1 0 [])),.asg 5 (cI 0)]]) y0q)⟩
theorem ywc:z1v Try.prog 117 zgk:=⟨_,_,Try.func117,rfl,by kernel_rfl,by kernel_rfl,Try.call117⟩
def yie:Cd:=(.seq (.reg [1,5,6,10,11,12,8,18] [.o [.asg 4 (cB true)]]) .ret)
def yif:Cd:=(.cond (.t 18) yie .skip)
def yig:Cd:=(.reg [23] [.o [.asg 5 (cB true)]])
def yih:Cd:=(.cond (.t 23) yig .skip)
def yii:Cd:=(.cond (.t 29) (.exit 1) .skip)
def yij:Cd:=(.reg [29] [.o [.asg 6 (cB true)]])
def zv2:Cd:=(.seq (.seq (.draw [[],[0],[],[2],[1,3],[4]] [8,23,24,25,26,27,28] [.o [.mov 24 (.t 8),.slice 25 1 (.t 24) (some (cI 4)) none,.mov 26 (.t 1),.slice 27 1 (.t 26) (some (cI 4)) none],.call none 28 102 [(.t 25),(.t 27)],.o [.un 29 .not (.t 28)]]) yii) yij)
def yik:Cd:=(.seq (.seq (.draw [[],[0],[],[2],[1,3]] [18,19,20,21,22] [.o [.mov 19 (.t 8),.slice 20 1 (.t 19) none (some (cI 4)),.mov 21 (.t 1),.slice 22 1 (.t 21) none (some (cI 4))],.call none 23 102 [(.t 20),(.t 22)]]) yih) zv2)
def yil:Cd:=(.seq (.seq (.reg [16,17] [.o [.mov 16 (.t 8),.mov 17 (.t 1)],.call none 18 102 [(.t 16),(.t 17)]]) yif) yik)
def zv3:Cd:=(.reg [30] [.o [.bin 30 .add (.t 12) (cI 1),.mov 12 (.t 30)]])
def y0r:Cd:=(.seq (.block 1 (.seq (.reg [13,14,15] [.o [.iaddr 14 1 (.t 10) (.t 12),.ld 15 1 false (.t 14),.asg 8 (.t 15)]]) yil)) zv3)
def y0s:Cd:=(.seq (.cond (.t 13) .skip (.exit 0)) y0r)
def y0t:Cd:=(.seq (.reg [] [.o [.bin 13 .lss (.t 12) (.t 11)]]) y0s)
def y0u:Cd:=(.block 0 (.loop y0t))
def y0v:Cd:=(.seq (.reg [1,5,6,10,11,12,13,31,32,33,34] [.o [.mov 31 (.t 5),.mov 32 (.t 31)],.g 32 true [.mov 33 (.t 6)],.o [.pick 34 (.t 32) (.t 33) (cB false),.asg 4 (.t 34)]]) .ret)
def y0w:Cd:=(.seq (.seq (.reg [2,9] [.o [.faddr 9 0 (.t 2),.ld 10 1 false (.t 9),.len 11 (.t 10),.mov 12 (cI 0)]]) y0u) y0v)
def y0x:Cd:=(.seq (.label 0) y0w)
def y0y:Cd:=(.scope (.seq (.reg [] [.o [.asg 5 (cB false),.asg 6 (cB false)]]) y0x))
def zle:FI:=⟨35,2,[.t 4],(.seq (.reg [0,4] [.o [.box 2 (.t 0),.asg 4 (cB false)]]) y0y)⟩
theorem ywd:z1v Try.prog 118 zle:=⟨_,_,Try.func118,rfl,by kernel_rfl,by kernel_rfl,Try.call118⟩
def yim:Cd:=(.cond (.t 9) .skip (.exit 0))
def yin:Cd:=(.reg [10,11] [.o [.mov 10 (.t 6),.bin 11 .add (.t 10) (cI 1),.asg 6 (.t 11)]])
def yio:Cd:=(.seq (.block 1 (.reg [9,12,13,14,15,16,17,18,19,20] [.o [.mov 12 (.t 5),.mov 13 (.t 0),.mov 14 (.t 6),.bin 15 .mul (cI 8) (.t 14),.conv 16 .u64 (.t 15),.bin 17 .shr (.t 13) (.t 16),.conv 18 .u8 (.t 17),.bs1 19 1 (.t 18),.app 20 1 1 (.t 12) (.t 19),.asg 5 (.t 20)]])) yin)
def yip:Cd:=(.seq (.seq (.reg [7,8] [.o [.mov 7 (.t 6),.mov 8 (.t 1),.bin 9 .lss (.t 7) (.t 8)]]) yim) yio)
def yiq:Cd:=(.block 0 (.loop yip))
def yir:Cd:=(.seq (.reg [0,1,5,6,7,8,9,21,22] [.o [.mov 21 (.t 5),.b2s 22 (.t 21),.asg 4 (.t 22)]]) .ret)
def yis:Cd:=(.seq (.seq (.reg [] [.o [.asg 6 (cI 0)]]) yiq) yir)
def yit:Cd:=(.seq (.reg [] [.o [.asg 5 (.c (.sl true () 1 0 []))]]) yis)
def yiu:FI:=⟨23,2,[.t 4],(.seq (.reg [4] [.o [.asg 4 (.c (.sc (.string ⟨#[]⟩)))]]) yit)⟩
theorem ywe:z1v Try.prog 120 yiu:=⟨_,_,Try.func120,rfl,by kernel_rfl,by kernel_rfl,Try.call120⟩
def yiv:Cd:=(.seq (.reg [0,3,4,5] [.o [.mov 3 (.t 0)],.call none 4 157 [(.c (.sc (.int .u32 4294967295))),(.t 3)],.o [.un 5 .xor (.t 4),.asg 2 (.t 5)]]) .ret)
def yiw:FI:=⟨6,1,[.t 2],(.seq (.reg [2] [.o [.asg 2 (.c (.sc (.int .u32 0)))]]) yiv)⟩
theorem ywf:z1v Try.prog 121 yiw:=⟨_,_,Try.func121,rfl,by kernel_rfl,by kernel_rfl,Try.call121⟩
def yix:Cd:=(.seq (.reg [0,3,4,5,6,7,8] [.o [.mov 3 (.t 0),.bin 4 .geq (.t 3) (cI 0),.mov 5 (.t 4)],.g 5 true [.mov 6 (.t 0),.bin 7 .lss (.t 6) (cI 48)],.o [.pick 8 (.t 5) (.t 7) (cB false),.asg 2 (.t 8)]]) .ret)
def y0z:FI:=⟨9,1,[.t 2],(.seq (.reg [2] [.o [.asg 2 (cB false)]]) yix)⟩
theorem ywg:z1v Try.prog 152 y0z:=⟨_,_,Try.func152,rfl,by kernel_rfl,by kernel_rfl,Try.call152⟩
def yiy:Cd:=(.seq (.reg [0,3,4,5] [.o [.mov 3 (.t 0)],.call none 4 171 [(.c (.sc (.int .u32 4294967295))),(.t 3)],.o [.un 5 .xor (.t 4),.asg 2 (.t 5)]]) .ret)
def yiz:FI:=⟨6,1,[.t 2],(.seq (.reg [2] [.o [.asg 2 (.c (.sc (.int .u32 0)))]]) yiy)⟩
theorem ywh:z1v Try.prog 153 yiz:=⟨_,_,Try.func153,rfl,by kernel_rfl,by kernel_rfl,Try.call153⟩
def yj0:Cd:=(.draw [[],[0],[],[2],[],[3,4],[5],[6],[7],[1,8,7],[0,1,2,3,4,5,6,7,8,9],[10,9,9,0,1,2,3,4,5,6,7,8,9]] [25,26,27,28,29,30,31,32,33,34,35,36] [.o [.faddr 26 0 (.t 5),.ld 27 1 false (.t 26),.faddr 28 1 (.t 8),.ld 29 1 false (.t 28),.ld 30 1 false (.t 4),.iaddr 31 1 (.t 29) (.t 30),.ld 32 1 false (.t 31)],.call none 33 108 [(.t 32)],.o [.bs1 34 1 (.t 33),.app 35 1 24 (.t 27) (.t 34),.faddr 36 0 (.t 5),.st 1 (.t 36) (.t 35)]])
def zv4:Cd:=(.cond (.t 25) yj0 .skip)
def zv5:Cd:=(.reg [6,4,8,70,71,72,73,74] [.o [.faddr 70 0 (.t 8),.ld 71 1 false (.t 70),.ld 72 1 false (.t 4),.iaddr 73 1 (.t 71) (.t 72),.ld 74 1 false (.t 73),.st 1 (.t 6) (.t 74)]])
def zv6:Cd:=(.seq (.reg [5,3,9,10,52,53,54,55,56,57,58,59,60,61,62,63,64,65,66,67,68,69] [.o [.faddr 52 1 (.t 5),.ld 53 1 false (.t 52),.mov 54 (.t 53)],.g 54 false [.faddr 55 12 (.t 9),.ld 56 1 false (.t 55),.ld 57 1 false (.t 3),.bin 58 .gtr (.t 56) (.t 57),.mov 59 (.t 58)],.g 59 true [.mov 60 (.t 10),.mov 61 (.t 60)],.g 61 false [.ld 62 14 true (.t 9),.ld 63 3 true (.t 8),.ld 64 1 false (.t 4)],.call (some (61,false)) 65 155 [(.t 62),(.t 63),(.t 64)],.g 59 true [.pick 66 (.t 61) (cB true) (.t 65)],.g 54 false [.pick 67 (.t 59) (.t 66) (cB false)],.o [.pick 68 (.t 54) (cB true) (.t 67),.faddr 69 1 (.t 5),.st 1 (.t 69) (.t 68)]]) zv5)
def zk1:Cd:=(.seq (.reg [25,37,38,39,40,41,42,43,44,45,46,47,48,49,50,51] [.o [.faddr 37 1 (.t 9),.faddr 38 0 (.t 37),.ld 39 1 false (.t 38),.bin 40 .eql (.t 39) (cI 1),.mov 41 (.t 40)],.g 41 true [.faddr 42 0 (.t 8),.ld 43 1 false (.t 42),.ld 44 1 false (.t 4),.iaddr 45 1 (.t 43) (.t 44),.ld 46 1 false (.t 45)],.o [.pick 47 (.t 41) (.t 46) (cB false),.mov 48 (.t 47)],.g 48 true [.ld 49 1 false (.t 6),.un 50 .not (.t 49)],.o [.pick 51 (.t 48) (.t 50) (cB false),.asg 10 (.t 51)]]) zv6)
def yj1:Cd:=(.seq (.seq (.reg [15,16,17,18,19,20,21,22,23,24] [.o [.faddr 15 12 (.t 9),.ld 16 1 false (.t 15),.ld 17 1 false (.t 3),.bin 18 .geq (.t 16) (.t 17),.mov 19 (.t 18)],.g 19 true [.faddr 20 0 (.t 8),.ld 21 1 false (.t 20),.ld 22 1 false (.t 4),.iaddr 23 1 (.t 21) (.t 22),.ld 24 1 false (.t 23)],.o [.pick 25 (.t 19) (.t 24) (cB false)]]) zv4) zk1)
def yj2:Cd:=(.seq (.reg [0,2,11,12,13,14] [.o [.ld 11 1 false (.t 2),.mov 12 (.t 0),.iaddr 13 14 (.t 11) (.t 12),.ld 14 14 true (.t 13),.alloc 9 [(.sc (.int .i64 0)),(.sc (.int .i64 0)),(.sc (.int .i64 0)),(.sc (.int .i64 0)),(.sc (.int .i64 0)),(.sc (.int .i64 0)),(.sl true () 1 0 []),(.sc (.int .i64 0)),(.sc (.int .i64 0)),(.sc (.int .i64 0)),(.sl true () 1 0 []),(.sc (.int .i64 0)),(.sc (.int .i64 0)),(.sc (.int .i64 0))],.st 14 (.t 9) (.t 14)]]) yj1)
def zec:FI:=⟨75,7,[],(.seq (.reg [1] [.o [.box 8 (.t 1)]]) yj2)⟩
theorem ywi:z1v Try.prog 154 zec:=⟨_,_,Try.func154,rfl,by kernel_rfl,by kernel_rfl,Try.call154⟩
def yj3:Cd:=(.seq (.reg [2,3,4,7,11,12,13,14,15,16,17,18,19,20,21,22,23,24,25,26,27,28,29,30,31,32,33,34,35] [.o [.faddr 11 1 (.t 3),.faddr 12 0 (.t 11),.ld 13 1 false (.t 12),.bin 14 .eql (.t 13) (cI 4),.mov 15 (.t 14)],.g 15 true [.mov 16 (.t 7),.bin 17 .geq (.t 16) (cI 0)],.o [.pick 18 (.t 15) (.t 17) (cB false),.mov 19 (.t 18)],.g 19 true [.mov 20 (.t 7),.bin 21 .lss (.t 20) (cI 6)],.o [.pick 22 (.t 19) (.t 21) (cB false),.mov 23 (.t 22)],.g 23 true [.faddr 24 2 (.t 4),.ld 25 1 false (.t 24),.faddr 26 0 (.t 3),.ld 27 1 false (.t 26),.iaddr 28 1 (.t 25) (.t 27),.ld 29 1 false (.t 28),.mov 30 (.t 7),.iaddr 31 1 (.t 29) (.t 30),.ld 32 1 false (.t 31),.mov 33 (.t 2),.bin 34 .eql (.t 32) (.t 33)],.o [.pick 35 (.t 23) (.t 34) (cB false),.asg 6 (.t 35)]]) .ret)
def yj4:Cd:=(.seq (.reg [8,9,10] [.o [.faddr 8 1 (.t 3),.faddr 9 2 (.t 8),.ld 10 1 false (.t 9),.asg 7 (.t 10)]]) yj3)
def zpp:FI:=⟨36,3,[.t 6],(.seq (.reg [0,1,6] [.o [.box 3 (.t 0),.box 4 (.t 1),.asg 6 (cB false)]]) yj4)⟩
theorem ywj:z1v Try.prog 155 zpp:=⟨_,_,Try.func155,rfl,by kernel_rfl,by kernel_rfl,Try.call155⟩
def yj5:Cd:=(.cond (.t 9) .skip (.exit 0))
def yj6:Cd:=(.reg [10,11] [.o [.mov 10 (.t 5),.bin 11 .add (.t 10) (cI 1),.asg 5 (.t 11)]])
def yj7:Cd:=(.seq (.block 1 (.reg [9,12,13,14,15,16] [.o [.mov 12 (.t 0),.mov 13 (.t 1),.mov 14 (.t 5),.six 15 (.t 13) (.t 14)],.call none 16 172 [(.t 12),(.t 15)],.o [.asg 0 (.t 16)]])) yj6)
def yj8:Cd:=(.seq (.seq (.reg [6,7,8] [.o [.mov 6 (.t 5),.mov 7 (.t 1),.slen 8 (.t 7),.bin 9 .lss (.t 6) (.t 8)]]) yj5) yj7)
def yj9:Cd:=(.block 0 (.loop yj8))
def yja:Cd:=(.seq (.reg [0,1,5,6,7,8,9,17] [.o [.mov 17 (.t 0),.asg 4 (.t 17)]]) .ret)
def yjb:Cd:=(.seq (.seq (.reg [] [.o [.asg 5 (cI 0)]]) yj9) yja)
def yjc:FI:=⟨18,2,[.t 4],(.seq (.reg [4] [.o [.asg 4 (.c (.sc (.int .u32 0)))]]) yjb)⟩
theorem ywk:z1v Try.prog 157 yjc:=⟨_,_,Try.func157,rfl,by kernel_rfl,by kernel_rfl,Try.call157⟩
def yjd:Cd:=(.reg [6,13,14,15] [.o [.mov 13 (.t 0),.mov 14 (.t 6)],.call none 15 185 [(.t 13),(.t 14)],.o [.asg 0 (.t 15)]])
def yje:Cd:=(.reg [16] [.o [.bin 16 .add (.t 9) (cI 1),.mov 9 (.t 16)]])
def yjf:Cd:=(.seq (.block 1 (.seq (.reg [10,11,12] [.o [.iaddr 11 1 (.t 7) (.t 9),.ld 12 1 false (.t 11),.asg 6 (.t 12)]]) yjd)) yje)
def yjg:Cd:=(.seq (.cond (.t 10) .skip (.exit 0)) yjf)
def yjh:Cd:=(.seq (.reg [] [.o [.bin 10 .lss (.t 9) (.t 8)]]) yjg)
def yji:Cd:=(.block 0 (.loop yjh))
def yjj:Cd:=(.seq (.reg [0,7,8,9,10,17] [.o [.mov 17 (.t 0),.asg 4 (.t 17)]]) .ret)
def yjk:Cd:=(.seq (.seq (.reg [1] [.o [.mov 7 (.t 1),.len 8 (.t 7),.mov 9 (cI 0)]]) yji) yjj)
def yjl:FI:=⟨18,2,[.t 4],(.seq (.reg [4] [.o [.asg 4 (.c (.sc (.int .u32 0)))]]) yjk)⟩
theorem ywl:z1v Try.prog 171 yjl:=⟨_,_,Try.func171,rfl,by kernel_rfl,by kernel_rfl,Try.call171⟩
def yjm:Cd:=(.cond (.t 12) .skip (.exit 0))
def yjn:Cd:=(.reg [20,21,22] [.o [.mov 21 (.t 0),.bin 22 .xor (.t 21) (.c (.sc (.int .u32 2748603157))),.asg 0 (.t 22)]])
def yjo:Cd:=(.cond (.t 20) yjn .skip)
def yjp:Cd:=(.seq (.reg [6,19] [.o [.mov 19 (.t 6),.bin 20 .eql (.t 19) (.c (.sc (.int .u32 1)))]]) yjo)
def yjq:Cd:=(.seq (.reg [17,18] [.o [.mov 17 (.t 0),.bin 18 .shr (.t 17) (.c (.sc (.int .u64 1))),.asg 0 (.t 18)]]) yjp)
def yjr:Cd:=(.reg [20,13,14] [.o [.mov 13 (.t 5),.bin 14 .add (.t 13) (cI 1),.asg 5 (.t 14)]])
def yjs:Cd:=(.seq (.block 1 (.seq (.reg [12,15,16] [.o [.mov 15 (.t 0),.bin 16 .and (.t 15) (.c (.sc (.int .u32 1))),.asg 6 (.t 16)]]) yjq)) yjr)
def yjt:Cd:=(.seq (.seq (.reg [11] [.o [.mov 11 (.t 5),.bin 12 .lss (.t 11) (cI 8)]]) yjm) yjs)
def yju:Cd:=(.block 0 (.loop yjt))
def yjv:Cd:=(.seq (.reg [0,5,11,12,23] [.o [.mov 23 (.t 0),.asg 4 (.t 23)]]) .ret)
def y10:Cd:=(.seq (.seq (.reg [] [.o [.asg 5 (cI 0)]]) yju) yjv)
def y11:Cd:=(.seq (.reg [1,7,8,9,10] [.o [.mov 7 (.t 0),.mov 8 (.t 1),.conv 9 .u32 (.t 8),.bin 10 .xor (.t 7) (.t 9),.asg 0 (.t 10)]]) y10)
def yjw:FI:=⟨24,2,[.t 4],(.seq (.reg [4] [.o [.asg 4 (.c (.sc (.int .u32 0)))]]) y11)⟩
theorem ywm:z1v Try.prog 172 yjw:=⟨_,_,Try.func172,rfl,by kernel_rfl,by kernel_rfl,Try.call172⟩
def yjx:Cd:=(.cond (.t 12) .skip (.exit 0))
def yjy:Cd:=(.cond (.t 21) (.exit 1) .skip)
def yjz:Cd:=(.seq (.reg [6,20] [.o [.mov 20 (.t 6),.un 21 .not (.t 20)]]) yjy)
def yk0:Cd:=(.reg [21,22,23] [.o [.mov 22 (.t 0),.bin 23 .xor (.t 22) (.c (.sc (.int .u32 2748603157))),.asg 0 (.t 23)]])
def yk1:Cd:=(.seq (.seq (.reg [18,19] [.o [.mov 18 (.t 0),.bin 19 .shr (.t 18) (.c (.sc (.int .u64 1))),.asg 0 (.t 19)]]) yjz) yk0)
def yk2:Cd:=(.seq (.reg [15,16,17] [.o [.mov 15 (.t 0),.bin 16 .and (.t 15) (.c (.sc (.int .u32 1))),.bin 17 .eql (.t 16) (.c (.sc (.int .u32 1))),.asg 6 (.t 17)]]) yk1)
def yk3:Cd:=(.block 1 (.seq (.reg [12,13,14] [.o [.mov 13 (.t 5),.bin 14 .add (.t 13) (cI 1),.asg 5 (.t 14)]]) yk2))
def yk4:Cd:=(.seq (.seq (.reg [11] [.o [.mov 11 (.t 5),.bin 12 .lss (.t 11) (cI 8)]]) yjx) yk3)
def yk5:Cd:=(.seq (.reg [0,5,11,12,24] [.o [.mov 24 (.t 0),.asg 4 (.t 24)]]) .ret)
def yk6:Cd:=(.seq (.block 0 (.loop yk4)) yk5)
def y12:Cd:=(.seq (.label 0) yk6)
def y13:Cd:=(.seq (.reg [] [.o [.asg 5 (cI 0)]]) y12)
def y14:Cd:=(.scope (.seq (.reg [1,7,8,9,10] [.o [.mov 7 (.t 0),.mov 8 (.t 1),.conv 9 .u32 (.t 8),.bin 10 .xor (.t 7) (.t 9),.asg 0 (.t 10)]]) y13))
def yk7:FI:=⟨25,2,[.t 4],(.seq (.reg [4] [.o [.asg 4 (.c (.sc (.int .u32 0)))]]) y14)⟩
theorem ywn:z1v Try.prog 185 yk7:=⟨_,_,Try.func185,rfl,by kernel_rfl,by kernel_rfl,Try.call185⟩
end Go.OT
namespace Go.OT
open Go.Proofs
abbrev u32 (n:Int):AU:=.sc (.int .u32 n)
def zpq (a b:Int):Int:=IntKind.u32.wrap (((a % 2 ^ IntKind.u32.bits).toNat ^^^ (b % 2 ^ IntKind.u32.bits).toNat:Nat):Int)
def zpr (a:Int):Int:=IntKind.u32.wrap (((a % 2 ^ IntKind.u32.bits).toNat &&& 1 % 2 ^ IntKind.u32.bits:Nat):Int)
def yxu (a:Int):Int:=a.fdiv (2 ^ min 1 IntKind.u32.bits)
def y15 (s:Int):Int:=if zpr s=1 then zpq (yxu s) 2748603157 else yxu s
def zr0:Nat→Int→Int
 | 0,s=>s
 | k+1,s=>y15 (zr0 k s)
def zlf (s:Int)(c:UInt8):Int:=zr0 8 (zpq s (IntKind.u32.wrap c.toNat))
def z9q (s:Int)(l:List UInt8):Int:=l.foldl zlf s
theorem y16 (s:Int)(c:UInt8):FnC Try.prog 185 [] [u32 s,u8 c.toNat] [] (u32 (zlf s c)):=by
 refine FnC.go ywn rfl ?_
 refine WL.sreg (by simp;rfl) (by simp;rfl) ?_
 refine WL.scope (WL.sreg (by simp;rfl) (by simp;rfl) ?_)
 refine WL.sreg (by simp;rfl) (by simp;rfl) ?_
 refine WL.seq (WL.label ?_)
 refine WL.seq ?_
 refine WL.block (WL.count 8 (fun i=>[(0,0,u32 (zr0 i (zpq s (IntKind.u32.wrap c.toNat)))),(500,0,i64 i)]) (fun i=>True) rfl trivial fun i hi _=>?_)
 by_cases h:i < 8
 ·have h':(i:Int) < 8:=by omega
  have w:IntKind.wrap .i64 ((i:Int)+1)=((i+1:Nat):Int):=by rw[z01 (by omega) (by omega)];omega
  have e:zr0 (i+1) (zpq s (IntKind.u32.wrap c.toNat))=y15 (zr0 i (zpq s (IntKind.u32.wrap c.toNat))):=rfl
  rw[e]
  generalize zr0 i (zpq s (IntKind.u32.wrap c.toNat))=t
  refine WL.seq (WL.sreg (by simp[h'];rfl) (by simp;rfl) ?_)
  refine WL.cond (t:=true) (by simp[h']) (fun _=>WL.skip ?_) (by simp)
  refine WL.block (WL.sreg (by simp[w];rfl) (by simp;rfl) ?_)
  by_cases q:zpr t=1
  ·have q':(IntKind.u32.wrap (((t % 2 ^ IntKind.u32.bits).toNat &&& 1 % 2 ^ IntKind.u32.bits:Nat):Int) == 1)=true:=by simpa [zpr] using q
   refine WL.sreg (by simp[q'];rfl) (by simp;rfl) ?_
   refine WL.seq (WL.sreg (by simp;rfl) (by simp;rfl) ?_)
   refine WL.sreg (by simp[q'];rfl) (by simp;rfl) ?_
   refine WL.cond (t:=false) (by simp) (by simp) fun _=>WL.skip ?_
   refine WL.reg (RL.run (by simp;rfl) ⟨_,by simp;rfl,h,?_,trivial⟩)
   simp only[y15,if_pos q]
   rfl
  ·have q':(IntKind.u32.wrap (((t % 2 ^ IntKind.u32.bits).toNat &&& 1 % 2 ^ IntKind.u32.bits:Nat):Int) == 1)=false:=beq_false_of_ne q
   refine WL.sreg (by simp[q'];rfl) (by simp;rfl) ?_
   refine WL.seq (WL.sreg (by simp;rfl) (by simp;rfl) ?_)
   refine WL.sreg (by simp[q'];rfl) (by simp;rfl) ?_
   refine WL.cond (t:=true) (by simp) (fun _=>WL.fin [21] (by simp;rfl) (WL.exit ⟨h,?_,trivial⟩)) (by simp)
   simp only[y15,if_neg q]
   rfl
 ·obtain rfl:i=8:=by omega
  refine WL.seq (WL.sreg (by simp;rfl) (by simp;rfl) ?_)
  refine WL.cond (t:=false) (by simp) (by simp) fun _=>WL.exit ?_
  refine WL.sreg (by simp;rfl) (by simp;rfl) (WL.ret ⟨.inr rfl,?_⟩)
  simp[yk7,zlf]
theorem zlg (s:Int)(c:UInt8):FnC Try.prog 172 [] [u32 s,u8 c.toNat] [] (u32 (zlf s c)):=by
 refine FnC.go ywm rfl ?_
 refine WL.sreg (by simp;rfl) (by simp;rfl) ?_
 refine WL.sreg (by simp;rfl) (by simp;rfl) ?_
 refine WL.seq (WL.sreg (by simp;rfl) (by simp;rfl) ?_)
 refine WL.block (WL.count 8 (fun i=>[(0,0,u32 (zr0 i (zpq s (IntKind.u32.wrap c.toNat)))),(500,0,i64 i)]) (fun i=>True) rfl trivial fun i hi _=>?_)
 by_cases h:i < 8
 ·have h':(i:Int) < 8:=by omega
  have w:IntKind.wrap .i64 ((i:Int)+1)=((i+1:Nat):Int):=by rw[z01 (by omega) (by omega)];omega
  have e:zr0 (i+1) (zpq s (IntKind.u32.wrap c.toNat))=y15 (zr0 i (zpq s (IntKind.u32.wrap c.toNat))):=rfl
  rw[e]
  generalize zr0 i (zpq s (IntKind.u32.wrap c.toNat))=t
  refine WL.seq (WL.sreg (by simp[h'];rfl) (by simp;rfl) ?_)
  refine WL.cond (t:=true) (by simp[h']) (fun _=>WL.skip ?_) (by simp)
  refine WL.seq (WL.block (WL.sreg (by simp;rfl) (by simp;rfl) ?_))
  refine WL.sreg (by simp;rfl) (by simp;rfl) ?_
  by_cases q:zpr t=1
  ·have q':(IntKind.u32.wrap (((t % 2 ^ IntKind.u32.bits).toNat &&& 1 % 2 ^ IntKind.u32.bits:Nat):Int) == 1)=true:=by simpa [zpr] using q
   refine WL.sreg (by simp[q'];rfl) (by simp;rfl) ?_
   refine WL.cond (t:=true) (by simp) (fun _=>?_) (by simp)
   refine WL.reg (RL.run (by simp;rfl) ⟨_,by simp;rfl,?_⟩)
   refine WL.reg (RL.run (by simp[w];rfl) ⟨_,by simp;rfl,h,?_,trivial⟩)
   simp only[y15,if_pos q]
   rfl
  ·have q':(IntKind.u32.wrap (((t % 2 ^ IntKind.u32.bits).toNat &&& 1 % 2 ^ IntKind.u32.bits:Nat):Int) == 1)=false:=beq_false_of_ne q
   refine WL.sreg (by simp[q'];rfl) (by simp;rfl) ?_
   refine WL.cond (t:=false) (by simp) (by simp) fun _=>WL.skip ?_
   refine WL.reg (RL.run (by simp[w];rfl) ⟨_,by simp;rfl,h,?_,trivial⟩)
   simp only[y15,if_neg q]
   rfl
 ·obtain rfl:i=8:=by omega
  refine WL.seq (WL.sreg (by simp;rfl) (by simp;rfl) ?_)
  refine WL.cond (t:=false) (by simp) (by simp) fun _=>WL.exit ?_
  refine WL.sreg (by simp;rfl) (by simp;rfl) (WL.ret ⟨.inr rfl,?_⟩)
  simp[yjw,zlf]
end Go.OT
namespace Go.OT
open Go.Proofs
theorem zd5 (s:Int)(l:List UInt8){i:Nat}(h:i < l.length):z9q s (l.take (i+1))=zlf (z9q s (l.take i)) l[i]:=by
 unfold z9q;rw[List.take_succ_eq_append_getElem h,List.foldl_append];rfl
theorem y17 (s:Int)(l:List UInt8)(hl:l.length≤1000000):FnC Try.prog 171 [] [u32 s,sU false l] [] (u32 (z9q s l)):=by
 refine FnC.go ywl rfl ?_
 refine WL.sreg (by simp;rfl) (by simp;rfl) ?_
 refine WL.seq (WL.sreg (by simp;rfl) (by simp;rfl) ?_)
 refine WL.block (WL.count l.length (fun i=>[(0,0,u32 (z9q s (l.take i))),(700,0,sU false l),(800,0,i64 l.length),(900,0,i64 i)]) (fun i=>True) (by simp[z9q]) trivial fun i hi _=>?_)
 by_cases h:i < l.length
 ·have w:IntKind.wrap .i64 ((i:Int)+1)=((i+1:Nat):Int):=by rw[z01 (by omega) (by omega)];omega
  have e:=zd5 s l h
  rw[e]
  generalize z9q s (l.take i)=t
  have ht:=y16 t l[i]
  refine WL.sreg (by simp[h];rfl) (by simp;rfl) ?_
  refine WL.seq (WL.cond (t:=true) (by simp[h]) (fun _=>WL.skip ?_) (by simp))
  refine WL.seq (WL.block (WL.sreg (by simp[h];rfl) (by simp;rfl) ?_))
  refine WL.reg (RL.o (by simp[h];rfl) (RL.call0 false ht (by simp) (by simp) (RL.o (by simp;rfl) (RL.nil ⟨_,by simp;rfl,?_⟩))))
  refine WL.reg (RL.run (by simp[w];rfl) ⟨_,by simp;rfl,h,by simp,trivial⟩)
 ·obtain rfl:i=l.length:=by omega
  refine WL.sreg (by simp;rfl) (by simp;rfl) ?_
  refine WL.seq (WL.cond (t:=false) (by simp) (by simp) fun _=>WL.exit ?_)
  refine WL.sreg (by simp;rfl) (by simp;rfl) (WL.ret ⟨.inr rfl,?_⟩)
  simp[yjl]
theorem yk8 (l:List UInt8){i:Nat}(h:i < l.length):(z3g l)[i]?=some l[i]:=by
 have hz:i < (z3g l).size:=by rw[z2h];exact h
 rw[getElem?_pos (z3g l) i hz]
 rfl
@[simp] theorem yxv (l:List UInt8) {i:Nat} (hh:i < (z3g l).size):(z3g l)[i]'hh=l[i]'(by rw[z2h] at hh;exact hh):=rfl
theorem wrap_u64 {x:Int}(h:0≤x)(h':x < 18446744073709551616):IntKind.wrap .u64 x=x:=by
 show x % 18446744073709551616=x
 omega
theorem zlh (s:Int)(l:List UInt8)(hl:l.length≤1000000):FnC Try.prog 157 [] [u32 s,str l] [] (u32 (z9q s l)):=by
 have hz:=z2h l
 refine FnC.go ywk rfl ?_
 refine WL.sreg (by simp;rfl) (by simp;rfl) ?_
 refine WL.seq (WL.sreg (by simp;rfl) (by simp;rfl) ?_)
 refine WL.block (WL.count l.length (fun i=>[(0,0,u32 (z9q s (l.take i))),(100,0,str l),(500,0,i64 i)]) (fun i=>True) (by simp[z9q]) trivial fun i hi _=>?_)
 by_cases h:i < l.length
 ·have w:IntKind.wrap .i64 ((i:Int)+1)=((i+1:Nat):Int):=by rw[z01 (by omega) (by omega)];omega
  have e:=zd5 s l h
  have h2:=yk8 l h
  rw[e]
  generalize z9q s (l.take i)=t
  have ht:=zlg t l[i]
  refine WL.seq (WL.sreg (by simp[h,hz];rfl) (by simp;rfl) ?_)
  refine WL.cond (t:=true) (by simp[h,hz]) (fun _=>WL.skip ?_) (by simp)
  refine WL.seq (WL.block (WL.reg (RL.o (by simp[h,h2,hz];rfl) (RL.call0 false ht (by simp) (by simp) (RL.o (by simp;rfl) (RL.nil ⟨_,by simp;rfl,?_⟩))))))
  refine WL.reg (RL.run (by simp[w];rfl) ⟨_,by simp;rfl,h,by simp,trivial⟩)
 ·obtain rfl:i=l.length:=by omega
  refine WL.seq (WL.sreg (by simp[hz];rfl) (by simp;rfl) ?_)
  refine WL.cond (t:=false) (by simp) (by simp) fun _=>WL.exit ?_
  refine WL.sreg (by simp;rfl) (by simp;rfl) (WL.ret ⟨.inr rfl,?_⟩)
  simp[yjc]
def ofF (l:List UInt8):Int:=zpq (if IntKind.u32.signed=true then -1 else IntKind.u32.max) (z9q 4294967295 l)
theorem ywo (l:List UInt8)(hl:l.length≤1000000):FnC Try.prog 153 [] [sU false l] [] (u32 (ofF l)):=by
 refine FnC.go ywh rfl ?_
 refine WL.sreg (by simp;rfl) (by simp;rfl) ?_
 refine WL.sregC (RL.o (by simp;rfl) (RL.call0 false (y17 4294967295 l hl) (by simp) (by simp) (RL.o (by simp;rfl) (RL.nil ⟨_,by simp;rfl,?_⟩))))
 refine WL.ret ⟨.inr rfl,?_⟩
 simp[yiz]
 rfl
theorem zt3 (l:List UInt8)(hl:l.length≤1000000):FnC Try.prog 121 [] [str l] [] (u32 (ofF l)):=by
 refine FnC.go ywf rfl ?_
 refine WL.sreg (by simp;rfl) (by simp;rfl) ?_
 refine WL.sregC (RL.o (by simp;rfl) (RL.call0 false (zlh 4294967295 l hl) (by simp) (by simp) (RL.o (by simp;rfl) (RL.nil ⟨_,by simp;rfl,?_⟩))))
 refine WL.ret ⟨.inr rfl,?_⟩
 simp[yiw]
 rfl
def zli (v:Int)(i:Nat):UInt8:=UInt8.ofNat ((v.fdiv (2 ^ min (8 * i) IntKind.u32.bits)) % 256).toNat
theorem za7 (v:Int)(i:Nat):IntKind.wrap .u8 (v.fdiv (2 ^ min (8 * i) IntKind.u32.bits))=((zli v i).toNat:Int):=by
 unfold zli
 generalize v.fdiv (2 ^ min (8 * i) IntKind.u32.bits)=x
 have h0:0≤x % 256:=Int.emod_nonneg _ (by decide)
 have h1:x % 256 < 256:=Int.emod_lt_of_pos _ (by decide)
 have e:(UInt8.ofNat (x % 256).toNat).toNat=(x % 256).toNat:=by
  rw[UInt8.toNat_ofNat'];omega
 rw[e,Int.toNat_of_nonneg h0]
 rfl
def z9r (v:Int)(n:Nat):List UInt8:=(List.range n).map (zli v)
theorem zps (v:Int)(n:Nat):z9r v (n+1)=z9r v n ++ [zli v n]:=by simp[z9r,List.range_succ]
theorem z25 (v:Int)(n:Nat):(z9r v n).length=n:=by simp[z9r]
theorem zv7 (v:Int)(n:Nat)(hn:n≤8):FnC Try.prog 120 [] [u32 v,i64 n] [] (str (z9r v n)):=by
 refine FnC.go ywe rfl ?_
 refine WL.sreg (by simp;rfl) (by simp;rfl) ?_
 refine WL.sreg (by simp;rfl) (by simp;rfl) ?_
 refine WL.seq (WL.sreg (by simp;rfl) (by simp;rfl) ?_)
 refine WL.block (WL.count n (fun i=>[(0,0,u32 v),(100,0,i64 n),(500,0,sU true (z9r v i)),(600,0,i64 i)]) (fun i=>True) (by simp[z9r]) trivial fun i hi _=>?_)
 by_cases h:i < n
 ·have h':(i:Int) < n:=by omega
  have w:IntKind.wrap .i64 ((i:Int)+1)=((i+1:Nat):Int):=by rw[z01 (by omega) (by omega)];omega
  have w8:IntKind.wrap .i64 (8 * (i:Int))=8 * (i:Int):=by rw[z01 (by omega) (by omega)]
  have wu:IntKind.wrap .u64 (8 * (i:Int))=8 * (i:Int):=wrap_u64 (by omega) (by omega)
  have n0:¬ 8 * (i:Int) < 0:=by omega
  have ll:=z25 v i
  have m1:i≤140737488355327:=by omega
  have m2:i+1≤maxLen:=by unfold maxLen;omega
  have tn:(8 * (i:Int)).toNat=8 * i:=by omega
  have hb:=za7 v i
  refine WL.seq (WL.sreg (by simp[h'];rfl) (by simp;rfl) ?_)
  refine WL.cond (t:=true) (by simp[h']) (fun _=>WL.skip ?_) (by simp)
  refine WL.seq (WL.block (WL.reg (RL.run (by simp[w8,wu,n0,tn,ll,m1,m2];rfl) ⟨_,by simp;rfl,?_⟩)))
  rw[zps]
  refine WL.reg (RL.run (by simp[w];rfl) ⟨_,by simp;rfl,h,?_,trivial⟩)
  simp[z25,hb]
  rw[List.take_of_length_le (l:=List.map _ (z9r v i)) (by simp[ll]),List.take_of_length_le (by simp[ll])]
 ·obtain rfl:i=n:=by omega
  refine WL.seq (WL.sreg (by simp;rfl) (by simp;rfl) ?_)
  refine WL.cond (t:=false) (by simp) (by simp) fun _=>WL.exit ?_
  refine WL.sreg (by simp;rfl) (by simp;rfl) (WL.ret ⟨.inr rfl,?_⟩)
  simp[yiu,z25]
end Go.OT
namespace Go.OT
open Go.Proofs
abbrev z24:List UInt8:=[0,0,0,0,0,0,0,0,0,0,0,0,0,0,0,0,0,0,0,0,0,0,0,0]
theorem yk9:z8i [.sc (.int .u8 0)] 24=z24.map (fun b=>u8 (b.toNat:Int)):=rfl
theorem zed:FnC Try.prog 75 [] [] [] (sU true z24):=by
 refine FnC.go yzj rfl ?_
 refine WL.sreg (by simp;rfl) (by simp;rfl) ?_
 refine WL.sreg (by simp[yk9];rfl) (by simp;rfl) (WL.ret ⟨.inr rfl,?_⟩)
 simp[yxt]
theorem zic:FnC Try.prog 74 [] [] [] (str z24):=by
 refine FnC.go yzi rfl ?_
 refine WL.sreg (by simp;rfl) (by simp;rfl) ?_
 have tk:List.take 24 (z24.map (fun b=>u8 (b.toNat:Int)))=z24.map (fun b=>u8 (b.toNat:Int)):=rfl
 refine WL.sreg (by simp[yk9,tk,-List.map_cons];rfl) (by simp;rfl) (WL.ret ⟨.inr rfl,?_⟩)
 simp[yxs]
def isP (id:Int):Bool:=decide (0≤id) && decide (id < 48)
theorem zpt (id:Int):FnC Try.prog 152 [] [i64 id] [] (bl (isP id)):=by
 refine FnC.go ywg rfl ?_
 refine WL.sreg (by simp;rfl) (by simp;rfl) ?_
 by_cases h:0≤id
 ·refine WL.sreg (by simp[h];rfl) (by simp;rfl) (WL.ret ⟨.inr rfl,?_⟩)
  simp[y0z,isP,h]
 ·refine WL.sreg (by simp[h];rfl) (by simp;rfl) (WL.ret ⟨.inr rfl,?_⟩)
  simp[y0z,isP,h]
def z3z (id:Int)(body:List UInt8):List UInt8:=z9r (id+1) 2 ++ ([90,165] ++ body)
def z9s (id:Int)(body:List UInt8):List UInt8:=z9r (ofF (z3z id body)) 4 ++ z3z id body
def z4e (id:Int)(body:List UInt8):List UInt8 × Int:=if isP id=true∧body.length=16 then (z9s id body,0) else ([],1)
theorem zbr (id:Int)(body:List UInt8):(z3z id body).length=4+body.length:=by simp[z3z,z25];omega
theorem za8 (id:Int)(body:List UInt8):(z9s id body).length=8+body.length:=by simp[z9s,z25,zbr];omega
abbrev bm (l:List UInt8):List AU:=l.map fun b=>u8 (b.toNat:Int)
theorem zt4 (v:Int)(t:List UInt8):∀ i,i < 4→(bm (z9r v i ++ (([0,0,0,0]:List UInt8).drop i ++ t))).set i (u8 ((zli v i).toNat:Int))=bm (z9r v (i+1) ++ (([0,0,0,0]:List UInt8).drop (i+1) ++ t))
 | 0,_=>rfl
 | 1,_=>rfl
 | 2,_=>rfl
 | 3,_=>rfl
 | n+4,h=>by omega
theorem y18 (id:Int)(h0:0≤id)(h1:id < 48)(body:List UInt8):[u8 (IntKind.wrap .u8 (id+1)),u8 (IntKind.wrap .u8 ((id+1).fdiv 256)),u8 90,u8 165] ++ bm body=bm (z3z id body):=by
 have e0:=za7 (id+1) 0
 have e1:=za7 (id+1) 1
 have f0:(id+1).fdiv (2 ^ min (8 * 0) IntKind.u32.bits)=id+1:=by
  show (id+1).fdiv 1=id+1
  exact Int.fdiv_one _
 rw[f0] at e0
 have f1:(id+1).fdiv (2 ^ min (8 * 1) IntKind.u32.bits)=(id+1).fdiv 256:=rfl
 rw[f1] at e1
 rw[e0,e1]
 rfl
abbrev slQ (p:List UInt8 × Int):Ex→SL→Prop:=fun e L=>e=Ex.ret∧RetOk zpm.rs [] (.tuple [sU true p.1,i64 p.2]) L
set_option maxHeartbeats 4000000 in
theorem zid (id:Int)(body:List UInt8)(hb:body.length≤1000000):FnC Try.prog 113 [] [i64 id,sU false body] [] (.tuple [sU true (z4e id body).1,i64 (z4e id body).2]):=by
 refine FnC.go yw9 rfl ?_
 refine WL.mono (Q':=slQ (z4e id body)) ?_ fun e L h=>⟨.inr h.1,h.2⟩
 refine WL.sreg (by simp;rfl) (by simp;rfl) ?_
 refine WL.seq (WL.sregC (RL.o (by simp;rfl) (RL.call0 false (zpt id) (by simp) (by simp) ?_)))
 cases hp:isP id with
 | false =>
  refine RL.o (by simp;rfl) (RL.g (by simp;rfl) (RL.o (by simp;rfl) (RL.nil ⟨_,by simp;rfl,?_⟩)))
  refine WL.cond (t:=true) (by simp) (fun _=>?_) (by simp)
  refine WL.sreg (by simp;rfl) (by simp;rfl) (WL.ret ⟨rfl,?_⟩)
  simp[zpm,z4e,hp]
 | true =>
 have h0:0≤id∧id < 48:=by simpa [isP] using hp
 by_cases h16:body.length=16
 ·have hbne:((body.length:Int) != 16)=false:=by simp[h16]
  refine RL.o (by simp;rfl) (RL.g (by simp[h16];rfl) (RL.o (by simp;rfl) (RL.nil ⟨_,by simp;rfl,?_⟩)))
  refine WL.cond (t:=false) (by simp) (by simp) fun _=>WL.skip ?_
  refine WL.sregC (RL.call0 false zed (by simp) (by simp) (RL.o (by simp;rfl) (RL.nil ⟨_,by simp;rfl,?_⟩)))
  have w:IntKind.wrap .i64 (id+1)=id+1:=by rw[z01 (by omega) (by omega)]
  have m8:min 8 IntKind.i64.bits=8:=rfl
  refine WL.sreg (by simp[w,m8];rfl) (by simp;rfl) ?_
  have tk16:List.take 16 (bm body)=bm body:=List.take_of_length_le (by simp[h16])
  refine WL.sreg (by simp[h16];rfl) (by simp;rfl) ?_
  have eS:z38 [u8 0,u8 0,u8 0,u8 0,AV.sc (Value.int IntKind.u8 (IntKind.u8.wrap (id+1))),AV.sc (Value.int IntKind.u8 (IntKind.u8.wrap ((id+1).fdiv 256))),AV.sc (Value.int IntKind.u8 90),AV.sc (Value.int IntKind.u8 165),u8 0,u8 0,u8 0,u8 0,u8 0,u8 0,u8 0,u8 0,u8 0,u8 0,u8 0,u8 0,u8 0,u8 0,u8 0,u8 0] 8 (List.take 16 (bm body))=bm ([0,0,0,0] ++ z3z id body):=by
   have e2:bm ([0,0,0,0] ++ z3z id body)=[u8 0,u8 0,u8 0,u8 0] ++ bm (z3z id body):=rfl
   rw[tk16,e2,← y18 id h0.1 h0.2 body]
   simp[z38,h16]
  rw[eS]
  have hlt:(z3z id body).length=20:=by rw[zbr];omega
  have eR:z4e id body=(z9s id body,0):=by simp[z4e,hp,h16]
  have hcrc:=ywo (z3z id body) (by rw[hlt];decide)
  have tkt:List.take 20 (bm (z3z id body))=bm (z3z id body):=List.take_of_length_le (by simp[hlt])
  rw[eR]
  have eI:z9s id body=z9r (ofF (z3z id body)) 4 ++ z3z id body:=rfl
  rw[eI]
  clear eS eI eR w m8 tk16
  generalize z3z id body=tl at *
  generalize ofF tl=v at *
  refine WL.sregC (RL.o (by simp[hlt];rfl) (RL.call0 true hcrc (by simp[hlt,tkt]) (by simp) (RL.o (by simp;rfl) (RL.nil ⟨_,by simp;rfl,?_⟩))))
  refine WL.seq (WL.sreg (by simp;rfl) (by simp;rfl) ?_)
  obtain⟨C,hC⟩:∃ C:Nat→List AU,∀ i,C i=bm (z9r v i ++ (([0,0,0,0]:List UInt8).drop i ++ tl)):=⟨_,fun _=>rfl⟩
  have C0:C 0=bm ([0,0,0,0] ++ tl):=by rw[hC];rfl
  have C4:C 4=bm (z9r v 4 ++ tl):=by rw[hC];rfl
  have Cl:∀ i,i≤4→(C i).length=24:=fun i hi=>by rw[hC];simp[hlt,z25]<;>omega
  have Ca:∀ i,i < 4→∃ b:UInt8,(C i)[i]?=some (u8 b.toNat):=fun i hi=>by
   have hl:i < (z9r v i ++ (([0,0,0,0]:List UInt8).drop i ++ tl)).length:=by simp[hlt,z25]<;>omega
   exact⟨(z9r v i ++ (([0,0,0,0]:List UInt8).drop i ++ tl))[i],by rw[hC,bm,List.getElem?_map,List.getElem?_eq_getElem hl];rfl⟩
  have Cs:∀ i,i < 4→(C i).set i (u8 ((zli v i).toNat:Int))=C (i+1):=fun i hi=>by rw[hC,hC];exact zt4 v tl i hi
  refine WL.block (WL.count 4 (fun i=>[(600,0,.sl true () 1 24 (C i)),(700,0,u32 v),(4000,0,i64 i)]) (fun i=>True) (by simp[C0]) trivial fun i hi _=>?_)
  by_cases h:i < 4
  ·have h':(i:Int) < 4:=by omega
   have w:IntKind.wrap .i64 ((i:Int)+1)=((i+1:Nat):Int):=by rw[z01 (by omega) (by omega)];omega
   have w8:IntKind.wrap .i64 (8 * (i:Int))=8 * (i:Int):=by rw[z01 (by omega) (by omega)]
   have wu:IntKind.wrap .u64 (8 * (i:Int))=8 * (i:Int):=wrap_u64 (by omega) (by omega)
   have n0:¬ 8 * (i:Int) < 0:=by omega
   have tn:(8 * (i:Int)).toNat=8 * i:=by omega
   have hb:=za7 v i
   obtain⟨b,hbc⟩:=Ca i h
   have lcs:=Cl i hi
   have hi24:(i:Int) < 24:=by omega
   have hi24n:i < 24:=by omega
   have hbc':∀ hh:i < (C i).length,(C i)[i]'hh=u8 b.toNat:=fun hh=>by
    rw[List.getElem?_eq_getElem hh] at hbc;exact Option.some.inj hbc
   refine WL.sreg (by simp;rfl) (by simp;rfl) ?_
   refine WL.seq (WL.cond (t:=true) (by simp[h']) (fun _=>WL.skip ?_) (by simp))
   refine WL.seq (WL.block (WL.sreg (by simp;rfl) (by simp;rfl) ?_))
   refine WL.reg (RL.run (by simp[w8,wu,n0,tn,hbc',lcs,hi24,hi24n];rfl) ⟨_,by simp;rfl,?_⟩)
   refine WL.reg (RL.run (by simp[w];rfl) ⟨_,by simp;rfl,h,?_,trivial⟩)
   simp[hb,Cs i h]
  ·obtain rfl:i=4:=by omega
   refine WL.sreg (by simp;rfl) (by simp;rfl) ?_
   refine WL.seq (WL.cond (t:=false) (by simp) (by simp) fun _=>WL.exit ?_)
   refine WL.sregC (RL.mv (by decide) (RL.o (by simp;rfl) (RL.nil ⟨_,by simp;rfl,WL.ret ⟨rfl,?_⟩⟩)))
   simp[zpm,C4,z25,hlt]
   rw[List.take_of_length_le (i:=24) (l:=List.map _ (z9r v 4) ++ _) (by simp[z25,hlt]),List.take_of_length_le (by simp[z25,hlt])]
 ·have hbne:((body.length:Int) != 16)=true:=by simp;omega
  refine RL.o (by simp;rfl) (RL.g (by simp;rfl) (RL.o (by simp;rfl) (RL.nil ⟨_,by simp;rfl,?_⟩)))
  refine WL.cond (t:=true) (by simp;omega) (fun _=>?_) (by simp)
  refine WL.sreg (by simp;rfl) (by simp;rfl) (WL.ret ⟨rfl,?_⟩)
  simp[zpm,z4e,h16]
end Go.OT
namespace Go.OT
open Go.Proofs
abbrev rsQ (p:List UInt8 × Int):Ex→SL→Prop:=fun e L=>e=Ex.ret∧RetOk y2s.rs [] (.tuple [str p.1,i64 p.2]) L
theorem yka:(⟨#[90,165]⟩:ByteArray)=z3g [90,165]:=rfl
theorem zie:(⟨#[]⟩:ByteArray)=z3g []:=rfl
set_option maxHeartbeats 4000000 in
theorem zlj (id:Int)(body:List UInt8)(hb:body.length≤1000000):FnC Try.prog 73 [] [i64 id,str body] [] (.tuple [str (z4e id body).1,i64 (z4e id body).2]):=by
 have hz:=z2h body
 refine FnC.go yzh rfl ?_
 refine WL.mono (Q':=rsQ (z4e id body)) ?_ fun e L h=>⟨.inr h.1,h.2⟩
 refine WL.sreg (by simp;rfl) (by simp;rfl) ?_
 by_cases p1:id < 0
 ·have hp:isP id=false:=by simp[isP];omega
  refine WL.seq (WL.sreg (by simp[p1];rfl) (by simp;rfl) ?_)
  refine WL.cond (t:=true) (by simp) (fun _=>?_) (by simp)
  refine WL.sreg (by simp;rfl) (by simp;rfl) (WL.ret ⟨rfl,?_⟩)
  simp[y2s,z4e,hp,zie]
 by_cases p2:48≤id
 ·have hp:isP id=false:=by simp[isP];omega
  refine WL.seq (WL.sreg (by simp[p1,p2];rfl) (by simp;rfl) ?_)
  refine WL.cond (t:=true) (by simp) (fun _=>?_) (by simp)
  refine WL.sreg (by simp;rfl) (by simp;rfl) (WL.ret ⟨rfl,?_⟩)
  simp[y2s,z4e,hp,zie]
 have hp:isP id=true:=by simp[isP];omega
 by_cases h16:body.length=16
 ·have eR:z4e id body=(z9s id body,0):=by simp[z4e,hp,h16]
  have w:IntKind.wrap .i64 (id+1)=id+1:=by rw[z01 (by omega) (by omega)]
  have w2:IntKind.wrap .u32 (id+1)=id+1:=by show (id+1) % 4294967296=id+1;omega
  have hl2:=zv7 (id+1) 2 (by decide)
  have hlt:=zbr id body
  have hcrc:=zt3 (z3z id body) (by omega)
  have hl4:=zv7 (ofF (z3z id body)) 4 (by decide)
  have eT:z3g (z9r (id+1) 2 ++ 90 :: 165 :: body)=z3g (z3z id body):=rfl
  have eI:z3g (z9r (ofF (z3z id body)) 4 ++ z3z id body)=z3g (z9s id body):=rfl
  rw[eR]
  refine WL.seq (WL.sreg (by simp[p1,p2,hz,h16];rfl) (by simp;rfl) ?_)
  refine WL.cond (t:=false) (by simp) (by simp) fun _=>WL.skip ?_
  refine WL.sregC (RL.o (by simp[w,w2];rfl) (RL.call0 false hl2 (by simp[w,w2]) (by simp) (RL.o (by simp[yka,zbp,z2h,z25,h16];rfl) (RL.nil ⟨_,by simp;rfl,?_⟩))))
  rw[eT]
  refine WL.sregC (RL.o (by simp;rfl) (RL.call0 false hcrc (by simp) (by simp) (RL.call0 false hl4 (by simp) (by simp) (RL.o (by simp[zbp,z2h,z25,hlt,h16];rfl) (RL.nil ⟨_,by simp;rfl,WL.ret ⟨rfl,?_⟩⟩)))))
  rw[eI]
  simp[y2s]
 ·have h16':((body.length:Int) != 16)=true:=by simp;omega
  refine WL.seq (WL.sreg (by simp[p1,p2,hz,h16'];rfl) (by simp;rfl) ?_)
  refine WL.cond (t:=true) (by simp) (fun _=>?_) (by simp)
  refine WL.sreg (by simp;rfl) (by simp;rfl) (WL.ret ⟨rfl,?_⟩)
  simp[y2s,z4e,h16,zie]
def z3v (id:Int)(b:List UInt8):List UInt8 × Int :=
 if isP id=true∧b.length=24 then
  if b=z24 then ([],11) else if z9s id (b.drop 8)=b then (b.drop 8,0) else ([],10)
 else ([],1)
end Go.OT
namespace Go.OT
def z92 (n:Nat):List AL:=List.replicate n .dead
theorem zk2 (n b o:Nat):¬ fpL (z92 n) b o:=by
 rw[z04]
 rintro⟨c,hc,h⟩
 rw[List.eq_of_mem_replicate hc] at h
 simp[fp] at h
theorem zgl:∀ n,z7d (z92 n)
 | 0=>trivial
 | n+1=>by
  show z7d (.dead :: z92 n)
  exact⟨trivial,zgl n,fun _ _ h=>by simp[fp] at h⟩
theorem zgm {w:World}{I:z19}:∀ {cs:List AL} {b o:Nat},z3k w I true cs b o→z3k w I true (z92 cs.length) b o
 | [],_,_,_=>by show z3k w I true [] _ _;simp only[z3k]
 | c :: cs,b,o,h=>by
  simp only[z3k] at h
  obtain⟨⟨y,h1,_⟩,_,_,h4⟩:=h
  show z3k w I true (.dead :: z92 cs.length) b o
  have:=zgm h4
  simp only[z3k,CR,Mem]
  exact⟨⟨y,h1,trivial⟩,trivial,(fun e=>by cases e),this⟩
theorem RelL.wipeS {C:Ctx}{X:XF LO} {β:Nat→Nat × Nat}{I:z19}{rg:Nat→Value}{w:World}(R:RelL C X β I rg w)(k:Nat)(hk:k % 100=0){l:Loc}{cs:List AL}(hX:(X k).2=.bx true (some l) cs) :
  RelL C (X.set k (.bx true (some l) (z92 cs.length))) β I rg w:=by
 have hkp:=z05 X β k (.bx true (some l) (z92 cs.length))
 have hf:∀ k' b o,kfp β (X.set k (.bx true (some l) (z92 cs.length))) k' b o→kfp β X k' b o:=by
  intro k' b o h
  by_cases e:k'=k
  ·subst e
   simp only[kfp,XF.set_self] at h
   rcases h with h | ⟨h,_⟩
   ·left;rw[hX]
    simp only[fp] at h ⊢
    rcases h with h | h
    ·left;simpa [z92] using h
    ·exact absurd h (zk2 _ _ _)
   ·unfold z2b at h;omega
  ·simpa only [kfp,XF.set_ne _ _ e] using h
 refine⟨fun t=>?_,fun k'=>?_,fun a b hne b' o h1 h2=>R.disj a b hne b' o (hf _ _ _ h1) (hf _ _ _ h2),fun b o h=>⟨(R.imm b o h).1,fun a ha=>(R.imm b o h).2 a (hf _ _ _ ha)⟩,fun a b o h=>R.frK a b o (hf _ _ _ h),R.frI,R.frI0,R.fr,R.gh,R.gr⟩
 ·by_cases e:100 * t=k
  ·have:=R.reg t
   rw[e] at this ⊢
   rw[hX] at this
   rw[XF.set_self]
   simp only[RR,CR] at this ⊢
   exact this
  ·rw[XF.set_ne _ _ e];exact z2a hkp _ _ (R.reg t)
 ·by_cases e:k'=k
  ·subst e
   have h:=R.key k'
   have hm:=h.mem
   rw[hX] at hm
   simp only[Mem] at hm
   refine⟨by rw[XF.set_self];simp only[Mem];exact zgm hm,by rw[XF.set_self];simp only[Sep];exact⟨fun _ _=>zk2 _ _ _,zgl _⟩,fun hc=>by unfold z2b at hc;omega,fun b o hb=>h.live b o (hf k' b o hb),fun h99=>by omega⟩
  ·have h:=R.key k'
   refine⟨by rw[XF.set_ne _ _ e];exact h.mem,by rw[XF.set_ne _ _ e];exact h.sep,by rw[XF.set_ne _ _ e];exact fun h1 h2=>⟨(h.cell h1 h2).1.imp fun y hy=>⟨hy.1,hy.2.imp id fun h=>⟨h.1,z2a hkp _ _ h.2⟩⟩,(h.cell h1 h2).2⟩,fun b o hb=>h.live b o (hf k' b o hb),by rw[XF.set_ne _ _ e];exact h.last⟩
theorem RelT.wipe {C:Ctx}{X:XF Unit}{tm:Array Value}{w:World}(h:RelT C X tm w)(k:Nat)(hk:k % 100=0)(hkH:k ≠ 100 * H)(hH:roots (X (100 * H)).2=[]){cs:List AU}(hX:(X k).2=.bx true () cs)
  (h2:∀ t,z4l [k] (X (100 * t)).2=true) (h3:∀ k',z2b k'→noR [k] (X k').2=true):RelT C (X.upd k (.bx true () (List.replicate cs.length .dead))) tm w:=by
 obtain⟨XL,β,I,rg,he,R,hs,ht⟩:=h
 subst he
 obtain⟨l,lcs,hl,hlcs⟩:∃ l lcs,(XL k).2=.bx true l lcs∧lcs.map er=cs:=by
  have:er (XL k).2=.bx true () cs:=hX
  revert this
  generalize (XL k).2=v
  intro this
  cases v<;>simp [er] at this
  rename_i o l lcs
  exact⟨l,lcs,by rw[this.1],by rw[← z0f];exact this.2⟩
 have hmem:=(R.key k).mem
 rw[hl] at hmem
 cases l with
 | none=>simp [Mem] at hmem
 | some l =>
  have R1:=R.wipeS k hk hl
  have e1:(XL.set k (.bx true (some l) (z92 lcs.length)) k).2=.bx true (some l) (z92 lcs.length):=by rw[XF.set_self]
  have hne:∀ j,j ≠ k→(XL.set k (.bx true (some l) (z92 lcs.length))) j=XL j:=fun j hj=>XF.set_ne _ _ hj
  have hlen:lcs.length=cs.length:=by rw[← hlcs];simp
  have R2:=R.regen R1 [k] H (fun j hj=>by simp at hj;subst hj;exact⟨hk,hkH⟩) (fun _ _=>rfl) (by
    rw[hne _ (Ne.symm hkH)]
    have:roots (er (XL (100 * H)).2)=[]:=hH
    rwa [z69] at this) (fun j hj _=>by
    rw[hne j (by intro e;subst e;simp at hj)]) (fun t=>by
    by_cases e:100 * t=k
    ·rw[e,e1];rfl
    ·rw[hne _ e,← z88];exact h2 t) (fun j hj=>by
    have:j ≠ k:=by intro e;subst e;unfold z2b at hj;omega
    rw[hne _ this,← zpa];exact h3 j hj) (fun j hj=>by
    simp at hj;subst hj;rw[hl,e1];rfl)
  refine⟨_,β,I,rg,?_,R2,hs,ht⟩
  rw[zbm]
  funext j
  by_cases e:j=k
  ·subst e
   simp only[z4d,List.contains_cons,beq_self_eq_true,Bool.true_or,if_true,XF.upd_self,erF]
   rw[e1]
   simp only[er,z0f,z92,List.map_replicate,hlen]
  ·have hc:[k].contains j=false:=by simp[e]
   simp only[z4d,hc,Bool.false_eq_true,if_false,XF.upd_ne _ _ e,erF,hne j e]
section
variable {P:Program} {nt:Nat} {L:SL} {Q:Ex→SL→Prop}
def zpu (k:Nat)(L:SL):Bool:=decide (k % 100=0) && (!decide (k=100 * H) && ((roots (fnL L (100 * H)).2).isEmpty && L.all fun e=>z4l [k] e.2.2 && (decide (e.1 % 100=0) || noR [k] e.2.2)))
theorem RelT.wipeL {C:Ctx}{tm:Array Value}{w:World}(h:RelT C (fnL L) tm w)(k:Nat){cs:List AU}(hX:(fnL L k).2=.bx true () cs)(hB:zpu k L=true):RelT C (fnL (z9k L k (.bx true () (List.replicate cs.length .dead)))) tm w:=by
 simp only[zpu,Bool.and_eq_true,decide_eq_true_eq,Bool.not_eq_true',decide_eq_false_iff_not,List.all_eq_true,Bool.or_eq_true,List.isEmpty_iff] at hB
 obtain⟨a1,a2,a3,a4⟩:=hB
 have:=h.wipe k a1 a2 a3 hX (fun t=>?_) (fun k' hc=>?_)
 ·rwa [z47] at this
 ·rcases z90 L (100 * t) with h | ⟨e,he,_,h⟩
  ·rw[h];rfl
  ·rw[h];exact (a4 e he).1
 ·rcases z90 L k' with h | ⟨e,he,e1,h⟩
  ·rw[h];rfl
  ·rw[h]
   rcases (a4 e he).2 with q | q
   ·rw[e1] at q;exact absurd q hc.1
   ·exact q
theorem WL.wipe {cc:Cd}(k:Nat){cs:List AU}(hX:(fnL L k).2=.bx true () cs)(hB:zpu k L=true)(h:WL P nt cc (z9k L k (.bx true () (List.replicate cs.length .dead))) Q):WL P nt cc L Q:=by
 intro C code hP hn hc a w hd hR
 exact h C code hP hn hc a w hd (hR.wipeL k hX hB)
theorem RL.wipe {K:SL→Prop}{segs:List Sg}(k:Nat){cs:List AU}(hX:(fnL L k).2=.bx true () cs)(hB:zpu k L=true)(h:RL P nt segs (z9k L k (.bx true () (List.replicate cs.length .dead))) K):RL P nt segs L K:=by
 intro C ops idx hP hnt hc a w Q hd hR hK
 exact h C ops idx hP hnt hc a w Q hd (hR.wipeL k hX hB) hK
end
attribute [simp] zpu
end Go.OT
namespace Go.OT
theorem RelT.wipe1 {C:Ctx}{X:XF Unit}{tm:Array Value}{w:World}(h:RelT C X tm w)(k:Nat)(p:List Nat)(hk:k % 100=0)(hkH:k ≠ 100 * H)(hH:(X (100 * H)).2=.non){N:AU}(hN:z0m (X k).2 p=some N)(hn:N.isNode=true)(ho:z4g (X k).2 p=true)
  (hsm:z4c (X k).2 (z17 (X k).2 p .dead)=true) (h2:∀ t,z4l [k] (X (100 * t)).2=true) (h3:∀ k',z2b k'→noR [k] (X k').2=true):RelT C (X.upd k (z17 (X k).2 p .dead)) tm w:=by
 obtain⟨XL,β,I,rg,he,R,hs,ht⟩:=h
 subst he
 obtain⟨NL,hNL,hNe⟩:∃ NL,z0m (XL k).2 p=some NL∧er NL=N:=by
  have:=hN
  simp only[erF,z6v] at this
  cases hc:z0m (XL k).2 p with
  | none=>simp [hc] at this
  | some NL =>
   rw[hc] at this
   exact⟨NL,rfl,by simpa using this⟩
 have hnL:NL.isNode=true:=by rw[← hNe,z7f] at hn;exact hn
 have hoL:z4g (XL k).2 p=true:=by rw[← z8l];exact ho
 have hHL:(XL (100 * H)).2=.non:=by
  have:er (XL (100 * H)).2=.non:=hH
  revert this
  generalize (XL (100 * H)).2=v
  intro h;cases v<;>simp [er] at h;rfl
 have R1:=R.takeP k H (by decide) p hkH (v:=.non) (x:=rg H) hNL hnL hoL (by simp[Mem]) (by simp[Sep]) (fun b o hb=>by simp[fp] at hb) (by simp[RR])
 have erg:(fun s=>if s=H then rg H else rg s)=rg:=by funext s;split<;>simp_all
 rw[erg] at R1
 have hM1:∀ j,j ≠ k→((XL.set k (z17 (XL k).2 p .dead)).set (100 * H) .non) j=XL j:=fun j hj=>by
  by_cases e:j=100 * H
  ·subst e
   rw[XF.set_self,XF.set_ne _ _ hj]
   have:XL (100 * H)=((XL (100 * H)).1,.non):=by rw[← hHL]
   rw[this];rfl
  ·rw[XF.set_ne _ _ e,XF.set_ne _ _ hj]
 have hM2:(((XL.set k (z17 (XL k).2 p .dead)).set (100 * H) .non) k).2=z17 (XL k).2 p .dead:=by
  rw[XF.set_ne _ _ hkH,XF.set_self]
 have hsmL:z4c (er (XL k).2) (er (z17 (XL k).2 p .dead))=true:=by rw[z6w];exact hsm
 have hroot:z4l [k] (z17 (XL k).2 p .dead)=true:=by
  rw[← z88]
  revert hsmL
  generalize er (z17 (XL k).2 p .dead)=z
  generalize er (XL k).2=y
  intro h
  cases y<;>cases z<;>simp [z4c] at h<;>rfl
 have R2:=R.regen R1 [k] H (fun j hj=>by simp at hj;subst hj;exact⟨hk,hkH⟩) (fun _ _=>rfl) (by
   rw[hM1 _ (Ne.symm hkH),hHL];rfl) (fun j hj _=>by
   rw[hM1 j (by intro e;subst e;simp at hj)]) (fun t=>by
   by_cases e:100 * t=k
   ·rw[e,hM2];exact hroot
   ·rw[hM1 _ e,← z88];exact h2 t) (fun j hj=>by
   have:j ≠ k:=by intro e;subst e;unfold z2b at hj;omega
   rw[hM1 _ this,← zpa];exact h3 j hj) (fun j hj=>by
   simp at hj;subst hj;rw[hM2];exact hsmL)
 refine⟨_,β,I,rg,?_,R2,hs,ht⟩
 rw[zbm]
 funext j
 by_cases e:j=k
 ·subst e
  simp only[z4d,List.contains_cons,beq_self_eq_true,Bool.true_or,if_true,XF.upd_self,erF]
  rw[hM2,z6w];rfl
 ·have hc:[k].contains j=false:=by simp[e]
  simp only[z4d,hc,Bool.false_eq_true,if_false,XF.upd_ne _ _ e,erF,hM1 j e]
section
variable {P:Program} {nt:Nat} {L:SL} {Q:Ex→SL→Prop}
def ywp:Option AU→Bool
 | some N=>N.isNode
 | none=>false
@[simp] theorem ykb (N:AU):ywp (some N)=N.isNode:=rfl
def zgn (k:Nat)(p:List Nat)(L:SL):Bool:=decide (k % 100=0) && (!decide (k=100 * H) && ((fnL L (100 * H)).2.isNon && (ywp (z0m (fnL L k).2 p) && (z4g (fnL L k).2 p && (z4c (fnL L k).2 (z17 (fnL L k).2 p .dead) && L.all fun e=>z4l [k] e.2.2 && (decide (e.1 % 100=0) || noR [k] e.2.2))))))
theorem RelT.wipe1L {C:Ctx}{tm:Array Value}{w:World}(h:RelT C (fnL L) tm w)(k:Nat)(p:List Nat)(hB:zgn k p L=true):RelT C (fnL (z9k L k (z17 (fnL L k).2 p .dead))) tm w:=by
 simp only[zgn,Bool.and_eq_true,decide_eq_true_eq,Bool.not_eq_true',decide_eq_false_iff_not,List.all_eq_true,Bool.or_eq_true] at hB
 obtain⟨a1,a2,a3,a5,a6,a7,a4⟩:=hB
 have a3':(fnL L (100 * H)).2=.non:=by
  revert a3
  generalize (fnL L (100 * H)).2=v
  intro h;cases v<;>simp [AV.isNon] at h;rfl
 obtain⟨N,hN,hn⟩:∃ N,z0m (fnL L k).2 p=some N∧N.isNode=true:=by
  revert a5
  generalize z0m (fnL L k).2 p=o
  intro h
  cases o with
  | none=>simp [ywp] at h
  | some N=>exact ⟨N,rfl,h⟩
 have:=h.wipe1 k p a1 a2 a3' hN hn a6 a7 (fun t=>?_) (fun k' hc=>?_)
 ·rwa [z47] at this
 ·rcases z90 L (100 * t) with h | ⟨e,he,_,h⟩
  ·rw[h];rfl
  ·rw[h];exact (a4 e he).1
 ·rcases z90 L k' with h | ⟨e,he,e1,h⟩
  ·rw[h];rfl
  ·rw[h]
   rcases (a4 e he).2 with q | q
   ·rw[e1] at q;exact absurd q hc.1
   ·exact q
theorem WL.wipe1 {cc:Cd}(k:Nat)(p:List Nat)(hB:zgn k p L=true)(h:WL P nt cc (z9k L k (z17 (fnL L k).2 p .dead)) Q):WL P nt cc L Q:=by
 intro C code hP hn hc a w hd hR
 exact h C code hP hn hc a w hd (hR.wipe1L k p hB)
theorem RL.wipe1 {K:SL→Prop}{segs:List Sg}(k:Nat)(p:List Nat)(hB:zgn k p L=true)(h:RL P nt segs (z9k L k (z17 (fnL L k).2 p .dead)) K):RL P nt segs L K:=by
 intro C ops idx hP hnt hc a w Q hd hR hK
 exact h C ops idx hP hnt hc a w Q hd (hR.wipe1L k p hB) hK
theorem DL.callLF {K:SL→Fs→Prop}{rest:List Sg}{d f:Nat}{cs:List COd}{gs gs':List (Gh Unit)}{vs:List AU}{r:AU}{fs:Fs}(own:Bool)(ls:List (Nat × List Nat))(hfn:FnC P f gs vs gs' r)(hgs:ls.mapM (z9j (fnL L))=some gs)(hnd:(ls.map (·.1)).Nodup)
  (has:z15 (fnL L) ls own cs=some vs) (hs:z1a own gs gs' r=true) (hcl:z09 (z0j (z5g L (ls.zip gs')) (100 * d) (z1r r))=true)
  (h:DL P nt rest (z0j (z5g L (ls.zip gs')) (100 * d) (z1r r)) ((2 * d :: (ls.map (fun e=>z0z e.1) ++ (uOs (fnL L) cs ++ zfx (fnL L) own cs)),2 * d :: ls.map (fun e=>z0z e.1)) :: fs) K):DL P nt (.call none d f cs :: rest) L fs K:=by
 refine DL.cons (it:=.call none d f cs) (rest:=rest) (by simp[z23]) (fun C ops i o hP hn hc0 hi hit=>?_) h
 have hzip:∀ e ∈ ls.zip gs',e.1 ∈ ls:=fun e he=>(List.of_mem_zip (a:=e.1) (b:=e.2) he).1
 have hcx:=z80 hcl
 have e0:fnL (z0j (z5g L (ls.zip gs')) (100 * d) (z1r r))=(z1w (fnL L) (ls.zip gs')).set (100 * d) (z1r r):=by rw[← z07,z4q]
 rw[e0] at hcx ⊢
 refine⟨fun u hu=>?_,fun k hk=>?_,hcx,fun X hX ha=>?_⟩
 ·simp only[List.mem_cons,List.mem_append] at hu ⊢
  rcases hu with hu | hu
  ·exact .inl hu
  ·exact .inr (.inl hu)
 ·have h1:k ≠ 100 * d:=fun e=>hk (by rw[e,z0h];simp)
  rw[XF.set_ne _ _ h1]
  refine z6i fun e he e'=>hk ?_
  rw[← e']
  exact List.mem_cons_of_mem _ (List.mem_map.2 ⟨e.1,hzip e he,rfl⟩)
 ·have hls:∀ e ∈ ls,X e.1=fnL L e.1:=fun e he=>ha e.1 (by
   simp only[List.mem_cons,List.mem_append]
   exact .inr (.inl (List.mem_map.2 ⟨e,he,rfl⟩)))
  have hzs:∀ e ∈ ls.zip gs',X e.1.1=fnL L e.1.1:=fun e he=>hls _ (hzip e he)
  have hag:agr (uOs (fnL L) cs ++ zfx (fnL L) own cs) X (fnL L):=fun k hk=>ha k (by
   simp only[List.mem_cons,List.mem_append] at hk ⊢
   exact .inr (.inr hk))
  have hd0:X (100 * d)=fnL L (100 * d):=ha _ (by rw[z0h];simp)
  have hsk0:=z9z (ls:=ls) (gs:=gs) (gs':=gs') own hP hn hi hit hfn (by rw[ze6 hls];exact hgs) hnd (by rw[z3f hag];exact has) hs
  have hsk:SOk C ops i X ((z1w X (ls.zip gs')).set (100 * d) (z1r r)):=hsk0.weak fun tm w hR=>by
   have h2:=hR.freeze (100 * d)
   have e:((z1w X (ls.zip gs')).set (100 * d) r).upd (100 * d) (z1r (((z1w X (ls.zip gs')).set (100 * d) r) (100 * d)).2)=(z1w X (ls.zip gs')).set (100 * d) (z1r r):=by
    funext j
    by_cases ej:j=100 * d
    ·subst ej;simp[XF.upd_self,XF.set_self,XF.set,XF.upd]
    ·rw[XF.upd_ne _ _ ej,XF.set_ne _ _ ej,XF.set_ne _ _ ej]
   rw[e] at h2
   exact h2
  have:mix (2 * d :: ls.map (fun e=>z0z e.1)) ((z1w (fnL L) (ls.zip gs')).set (100 * d) (z1r r)) X=(z1w X (ls.zip gs')).set (100 * d) (z1r r):=by
   funext k
   unfold mix
   by_cases hk:z0z k ∈ 2 * d :: ls.map (fun e=>z0z e.1)
   ·rw[if_pos hk]
    have hXk:X k=fnL L k:=by
     rcases List.mem_cons.1 hk with hk | hk
     ·rw[← z0h d] at hk
      rw[z87 hk]
      exact hd0
     ·obtain⟨e,he,hke⟩:=List.mem_map.1 hk
      rw[← z87 hke]
      exact hls e he
    have hb:=zbl hzs k hXk
    by_cases e:k=100 * d
    ·subst e
     simp only[XF.set,if_true,hb]
    ·rw[XF.set_ne _ _ e,XF.set_ne _ _ e,hb]
   ·rw[if_neg hk]
    have h1:k ≠ 100 * d:=fun e=>hk (by rw[e,z0h];simp)
    rw[XF.set_ne _ _ h1,z6i fun e he e'=>hk (by
     rw[← e']
     exact List.mem_cons_of_mem _ (List.mem_map.2 ⟨e.1,hzip e he,rfl⟩))]
  rw[this]
  exact hsk
end
attribute [simp] zgn
end Go.OT
namespace Go.OT
theorem DStep.conv {C:Ctx}{ops:Array Oper}{i:Nat}{R D:List Nat}{Y Y':XF Unit}(h:DStep C ops i R D Y Y')(k:Nat)(hk:z0z k ∈ D)(hh:z2w k=false)(v:AU)(hr:∀ r ∈ roots v,r ∈ roots (Y' k).2)
  (hc:∀ (X:XF Unit) tm w,X k=Y' k→RelT C X tm w→RelT C (X.upd k v) tm w):DStep C ops i R D Y (Y'.upd k v):=by
 have hu:∀ j,(Y'.upd k v) j=if j=k then ((Y' k).1,v) else Y' j:=fun j=>by
  by_cases e:j=k
  ·subst e;rw[XF.upd_self];simp
  ·rw[XF.upd_ne _ _ e];simp[e]
 refine⟨h.sub,fun j hj=>?_,fun j=>?_,fun X hX ha=>?_⟩
 ·have e:j ≠ k:=fun e=>hj (e ▸ hk)
  rw[XF.upd_ne _ _ e];exact h.out j hj
 ·rw[hu]
  by_cases e:j=k
  ·subst e
   simp only[if_true]
   exact⟨fun z=>(by rw[hh] at z;cases z),fun r hr'=>(h.cl j).2 r (hr r hr')⟩
  ·simp only[e,if_false];exact h.cl j
 ·refine (h.step X hX ha).weak fun tm w r=>?_
  have hm:(mix D Y' X) k=Y' k:=by unfold mix;rw[if_pos hk]
  have:=hc (mix D Y' X) tm w hm r
  have e:mix D (Y'.upd k v) X=(mix D Y' X).upd k v:=by
   funext j
   by_cases e:j=k
   ·subst e;rw[XF.upd_self];simp only[mix,hk,if_true,XF.upd_self]
   ·rw[XF.upd_ne _ _ e];simp only[mix,XF.upd_ne _ _ e]
  rw[e];exact this
section
variable {P:Program} {nt:Nat}
theorem WL.eqL {cc:Cd}{L L':SL}{Q:Ex→SL→Prop}(e:L=L')(h:WL P nt cc L' Q):WL P nt cc L Q:=e ▸ h
theorem RL.eqL {segs:List Sg}{L L':SL}{K:SL→Prop}(e:L=L')(h:RL P nt segs L' K):RL P nt segs L K:=e ▸ h
theorem DL.cut {L:SL}{fs:Fs}{K:SL→Fs→Prop}{segs segs':List Sg}(e:z23 segs=z23 segs')(h:DL P nt segs' L fs K):DL P nt segs L fs K:=by
 intro C ops i n hP hn hc0 hc
 exact h C ops i n hP hn hc0 (by rw[← e];exact hc)
end
end Go.OT
namespace Go.OT
open Go.Proofs
abbrev opQ (p:List UInt8 × Int):Ex→SL→Prop:=fun e L=>e=Ex.ret∧RetOk zgk.rs [] (.tuple [sU true p.1,i64 p.2]) L
theorem zt5 {b:List UInt8}(h24:b.length=24)(h:∀ j (hj:j < b.length),b[j]=0):b=z24:=by
 refine List.ext_getElem (by simp[h24]) fun j h1 h2=>?_
 rw[h j h1]
 have:∀ j (hj:j < z24.length),(0:UInt8)=z24[j]:=by decide
 exact this j h2
set_option maxHeartbeats 8000000 in
theorem zpv (id:Int)(hp:isP id=true)(b:List UInt8)(h24:b.length=24)(hne:b ≠ z24):WL Try.prog zgk.nt zpo [(0,0,i64 id),(100,0,sU false b),(3200,0,bl false)] (opQ (z3v id b)):=by
 have eO:z3v id b=if z9s id (b.drop 8)=b then (b.drop 8,0) else ([],10):=by simp[z3v,hp,h24,hne]
 rw[eO]
 clear eO
 obtain⟨bd,ebd⟩:∃ x,x=b.drop 8:=⟨_,rfl⟩
 have hl8:bd.length=16:=by simp[ebd,h24]
 have hsl:=zid id bd (by omega)
 have eS:z4e id bd=(z9s id bd,0):=by simp[z4e,hp,hl8]
 rw[eS] at hsl
 have hcl:=z5i bd (by unfold z0c;omega)
 have heq:=z3h (z9s id bd) b
 have hil:=za8 id bd
 have tk:List.take 16 (List.drop 8 (List.map (fun b=>u8 (b.toNat:Int)) b))=bm bd:=by rw[ebd,bm,List.map_drop,List.take_of_length_le (by simp[h24])]
 have tk2:List.take 16 (bm bd)=bm bd:=List.take_of_length_le (by simp[hl8])
 rw[← ebd]
 clear ebd
 refine WL.sregC (RL.o (by simp[h24];rfl) (RL.call0 false hcl (by simp[h24,tk,hl8]) (by simp) (RL.o (by simp;rfl) (RL.nil ⟨_,by simp;rfl,?_⟩))))
 refine WL.eqL (L':=[(0,0,i64 id),(100,0,sU false b),(700,0,.sl true () 1 16 (bm bd))]) (by simp[hl8,tk2]) ?_
 refine WL.seq (WL.sregC (RL.o (by simp;rfl) (RL.call0 true hsl (by simp[hl8,tk2]) (by simp[zg5]) (RL.mv (by decide) (RL.o (by simp;rfl) (RL.nil ⟨_,by simp;rfl,?_⟩))))))
 generalize z9s id bd=img at *
 have tk3:List.take img.length (bm img)=bm img:=List.take_of_length_le (by simp)
 by_cases r:img=b
 ·rw[if_pos r]
  have rb:(img == b)=true:=by simp[r]
  rw[rb] at heq
  refine WL.sregC (RL.o (by simp;rfl) (RL.call0 true heq (by simp[tk3]) (by simp) (RL.o (by simp;rfl) (RL.nil ⟨_,by simp;rfl,?_⟩))))
  refine WL.cond (t:=false) (by simp) (by simp) fun _=>WL.skip ?_
  refine WL.sregC (RL.mv (by decide) (RL.o (by simp;rfl) (RL.nil ⟨_,by simp;rfl,WL.ret ⟨rfl,?_⟩⟩)))
  simp[zgk,hl8]
  rw[tk2,tk2]
 ·rw[if_neg r]
  have rb:(img == b)=false:=by simp[r]
  rw[rb] at heq
  refine WL.sregC (RL.o (by simp;rfl) (RL.call0 true heq (by simp[tk3]) (by simp) (RL.o (by simp;rfl) (RL.nil ⟨_,by simp;rfl,?_⟩))))
  refine WL.cond (t:=true) (by simp) (fun _=>?_) (by simp)
  refine WL.sreg (by simp;rfl) (by simp;rfl) (WL.ret ⟨rfl,?_⟩)
  simp[zgk]
set_option maxHeartbeats 8000000 in
theorem y19 (id:Int)(b:List UInt8)(hb:b.length≤1000000):FnC Try.prog 117 [] [i64 id,sU false b] [] (.tuple [sU true (z3v id b).1,i64 (z3v id b).2]):=by
 refine FnC.go ywc rfl ?_
 refine WL.mono (Q':=opQ (z3v id b)) ?_ fun e L h=>⟨.inr h.1,h.2⟩
 refine WL.sreg (by simp;rfl) (by simp;rfl) ?_
 refine WL.scope (WL.seq (WL.sregC (RL.o (by simp;rfl) (RL.call0 false (zpt id) (by simp) (by simp) ?_))))
 cases hp:isP id with
 | false =>
  refine RL.o (by simp;rfl) (RL.g (by simp;rfl) (RL.o (by simp;rfl) (RL.nil ⟨_,by simp;rfl,?_⟩)))
  refine WL.cond (t:=true) (by simp) (fun _=>?_) (by simp)
  refine WL.sreg (by simp;rfl) (by simp;rfl) (WL.ret ⟨rfl,?_⟩)
  simp[zgk,z3v,hp]
 | true =>
 by_cases h24:b.length=24
 ·refine RL.o (by simp;rfl) (RL.g (by simp[h24];rfl) (RL.o (by simp;rfl) (RL.nil ⟨_,by simp;rfl,?_⟩)))
  refine WL.cond (t:=false) (by simp) (by simp) fun _=>WL.skip ?_
  refine WL.sreg (by simp;rfl) (by simp;rfl) ?_
  refine WL.seq (WL.label ?_)
  refine WL.seq (WL.block (WL.count 24 (fun i=>[(0,0,i64 id),(100,0,sU false b),(600,0,i64 i)]) (fun i=>∀ j (hj:j < b.length),j < i→b[j]=0) (by simp) (fun j _ h=>absurd h (Nat.not_lt_zero _)) fun i hi hz=>?_))
  by_cases h:i < 24
  ·have h':(i:Int) < 24:=by omega
   have w:IntKind.wrap .i64 ((i:Int)+1)=((i+1:Nat):Int):=by rw[z01 (by omega) (by omega)];omega
   have hib:i < b.length:=by omega
   have f1:List.drop i (List.map (fun b=>u8 (b.toNat:Int)) b)=u8 (b[i].toNat:Int) :: List.drop (i+1) (bm b):=by
    rw[← List.map_drop,List.drop_eq_getElem_cons hib,bm,← List.map_drop];rfl
   refine WL.seq (WL.sreg (by simp[h24];rfl) (by simp;rfl) ?_)
   refine WL.cond (t:=true) (by simp[h',h24]) (fun _=>WL.skip ?_) (by simp)
   refine WL.block (WL.seq ?_)
   by_cases q:b[i]=0
   ·have q':((b[i].toNat:Int) != 0)=false:=by simp[q]
    refine WL.sreg (by simp[h24,hib,h,h',f1,q'];rfl) (by simp;rfl) ?_
    refine WL.cond (t:=false) (by simp[q]) (by simp) fun _=>WL.skip ?_
    refine WL.reg (RL.run (by simp[w];rfl) ⟨_,by simp;rfl,h,by simp,fun j hj hji=>?_⟩)
    by_cases e:j=i
    ·subst e;exact q
    ·exact hz j hj (by omega)
   ·have qn:¬ b[i].toNat=0:=fun e=>q (UInt8.toNat_inj.1 e)
    have q':((b[i].toNat:Int) != 0)=true:=by simp;omega
    refine WL.sreg (by simp[h24,hib,h,h',f1,q'];rfl) (by simp;rfl) ?_
    refine WL.cond (t:=true) (by simp[qn]) (fun _=>WL.fin [26] (by simp;rfl) (WL.exit ?_)) (by simp)
    have hne:b ≠ z24:=fun e=>q (by
     have:∀ j (hj:j < z24.length),z24[j]=0:=by decide
     subst e
     exact this i hib)
    have h24i:((i:Int) == 24)=false:=beq_false_of_ne (by omega)
    refine WL.seq (WL.sreg (by simp[h24,h24i];rfl) (by simp;rfl) ?_)
    refine WL.cond (t:=false) (by simp[h24i]) (by simp) fun _=>WL.skip ?_
    refine WL.eqL ?_ (zpv id hp b h24 hne)
    simp[h24i]
  ·obtain rfl:i=24:=by omega
   have hz24:=zt5 h24 fun j hj=>hz j hj (by omega)
   refine WL.seq (WL.sreg (by simp[h24];rfl) (by simp;rfl) ?_)
   refine WL.cond (t:=false) (by simp[h24]) (by simp) fun _=>WL.exit ?_
   refine WL.seq (WL.sreg (by simp[h24];rfl) (by simp;rfl) ?_)
   refine WL.cond (t:=true) (by simp) (fun _=>?_) (by simp)
   refine WL.sreg (by simp;rfl) (by simp;rfl) (WL.ret ⟨rfl,?_⟩)
   simp[zgk,z3v,hp,hz24]
 ·refine RL.o (by simp;rfl) (RL.g (by simp;rfl) (RL.o (by simp;rfl) (RL.nil ⟨_,by simp;rfl,?_⟩)))
  refine WL.cond (t:=true) (by simp;omega) (fun _=>?_) (by simp)
  refine WL.sreg (by simp;rfl) (by simp;rfl) (WL.ret ⟨rfl,?_⟩)
  simp[zgk,z3v,h24]
end Go.OT
namespace Go.OT
open Go.Proofs
theorem y1a (o r:Bool)(l:List Ev):(z18 (l.flatMap (z02 o r)):List AU)=l.flatMap (z02 false false):=by
 rw[z4m]
 induction l with
 | nil=>rfl
 | cons a l ih=>rw [List.flatMap_cons,List.map_append,ih,List.flatMap_cons];simp[z1r,Function.comp_def]
theorem z93 {l:List Ev}{i:Nat}(h:i < l.length):z6t l (i:Int)=l[i].Stamp:=by
 simp[z6t,h]
set_option maxHeartbeats 4000000 in
theorem zpw (l:List Ev)(a b:Int)(ha:∃ i:Nat,i < l.length∧a=i)(hb:∃ i:Nat,i < l.length∧b=i):FnC Try.prog 92 [] [i64 a,i64 b,.vptr () [sEv l]] [] (i64 (zh4 (z6t l a) (z6t l b))):=by
 obtain⟨i,hi,rfl⟩:=ha
 obtain⟨j,hj,rfl⟩:=hb
 rw[z93 hi,z93 hj]
 have f1:=z1d (o:=false) (r:=false) hi
 have f2:=z1d (o:=false) (r:=false) hj
 have g1:14≤l.length * 14 - i * 14:=by omega
 have g2:14≤l.length * 14 - j * 14:=by omega
 refine FnC.go yz4 rfl ?_
 refine WL.sreg (by simp;rfl) (by simp;rfl) ?_
 refine WL.seq (WL.draw z0t (by simp[z09,noH]) (DL.o (by simp[hi,hj,f1,f2,g1,g2];exact⟨rfl,rfl⟩) (DL.call0 false (ygn l[i].Stamp l[j].Stamp) (by simp) (by simp) (DL.o (by simp;exact⟨rfl,rfl⟩) (DL.nil ⟨by kernel_rfl,_,by simp;rfl,?_⟩)))))
 refine WL.ret ⟨.inr rfl,?_⟩
 simp[yxp]
abbrev orS (l:List Ev)(i:Nat):SL:=[(100,0,.bptr 1 1 0),(101,0,sEv l),(199,1,.non),(300,0,sI true (z9p l i)),(600,0,sEv l),(700,0,i64 l.length),(800,0,i64 i)]
set_option maxHeartbeats 8000000 in
theorem zee (l:List Ev)(hn:l.length≤1000):FnC Try.prog 33 [] [sEv l] [] (sI true (z0r l)):=by
 refine FnC.go yyt rfl ?_
 refine WL.sreg (by simp;rfl) (by simp;rfl) ?_
 refine WL.sreg (by simp;rfl) (by simp;rfl) ?_
 refine WL.seq (WL.sreg (by simp;rfl) (by simp;rfl) ?_)
 refine WL.block (WL.count l.length (fun i=>orS l i) (fun _=>True) (by simp[z9p]) trivial fun i hi _=>?_)
 by_cases hlt:i < l.length
 ·have f1:=z1d (o:=false) (r:=false) hlt
  have g1:14≤l.length * 14 - i * 14:=by omega
  have w:IntKind.wrap .i64 ((i:Int)+1)=((i+1:Nat):Int):=by rw[z01 (by omega) (by omega)];omega
  have hst:(l.map (·.Stamp)).getD i 0=l[i].Stamp:=by simp[hlt]
  have hps:=zbq l i
  rw[hst] at hps
  have hlen:=za5 l i
  refine WL.sreg (by simp[hlt];rfl) (by simp;rfl) ?_
  refine WL.seq (WL.cond (t:=true) (by simp[hlt]) (fun _=>WL.skip ?_) (by simp))
  refine WL.seq (WL.block (WL.sreg (by simp[hlt,f1,g1];rfl) (by simp;rfl) ?_))
  by_cases hs:0 < l[i].Stamp
  ·rw[if_pos hs] at hps
   have m1:((z9p l i).length+1) * 8≤140737488355328:=by omega
   have m2:(z9p l i).length+1≤maxLen:=by unfold maxLen;omega
   refine WL.sreg (by simp[hs];rfl) (by simp;rfl) ?_
   refine WL.cond (t:=true) (by simp) (fun _=>?_) (by simp)
   refine WL.reg (RL.run (by simp[m1,m2];rfl) ⟨_,by simp;rfl,?_⟩)
   refine WL.reg (RL.run (by simp[w];rfl) ⟨_,by simp;rfl,hlt,?_,trivial⟩)
   simp[hps]
   exact List.take_of_length_le (by simp)
  ·rw[if_neg hs] at hps
   refine WL.sreg (by simp[hs];rfl) (by simp;rfl) ?_
   refine WL.cond (t:=false) (by simp) (by simp) fun _=>WL.skip ?_
   refine WL.reg (RL.run (by simp[w];rfl) ⟨_,by simp;rfl,hlt,?_,trivial⟩)
   simp[hps]
 ·obtain rfl:i=l.length:=by omega
  refine WL.sreg (by simp;rfl) (by simp;rfl) ?_
  refine WL.seq (WL.cond (t:=false) (by simp) (by simp) fun _=>WL.exit ?_)
  have hlen:=za5 l l.length
  have hc:=y0a (key:=z6t l) (g:=92) (cs:=[sEv l]) (z9p l l.length) (z5j l _) (by omega) (fun a b ha hb=>by
   obtain⟨i,h1,h2,_⟩:=za4 ha
   obtain⟨j,h3,h4,_⟩:=za4 hb
   exact zpw l a b ⟨i,h1,h2⟩ ⟨j,h3,h4⟩)
  refine WL.sregC (RL.o (by simp;rfl) (RL.call true [(300,[])] hc (by simp) (by simp) (by simp[z35,y1a]) (by simp[yme]) (RL.nil ⟨_,by simp;rfl,?_⟩)))
  refine WL.sregC (RL.mv (by decide) (RL.o (by simp;rfl) (RL.nil ⟨_,by simp;rfl,WL.ret ⟨.inr rfl,?_⟩⟩)))
  simp[yxk,z0r,ygr]
end Go.OT
