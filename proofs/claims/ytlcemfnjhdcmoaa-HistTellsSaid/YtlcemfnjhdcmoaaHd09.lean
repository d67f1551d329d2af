/- Part 9 of the proof: see its last file. -/
import Derived.Orders
import Derived.Below
import Derived.Laws.Entries
import Derived.Laws.Cells
import Derived.Laws.IdiomCopy
import Derived.Scope
import Derived.Calls
import Derived.Laws.Tables
import Derived.Laws.MakeOwn
import Derived.Laws.BytesString
import Derived.ArgAppend
import Derived.WalkSpells
import Derived.Lib.SlBytesConst
import Derived.Lib.ConvBytes
import Derived.WalkKit
import Derived.ProofKit
import Derived.OpenShut
import Derived.ShutString
import Derived.ChangeOld
import Derived.Lib.SmallJoins
import Derived.Test.YtlcemfnjhdcmoaaProg
import Derived.KernelRfl
import Derived.IntWalk
import Derived.Lib.Strings
import Derived.Test.YtlcemfnjhdcmoaaHd08
set_option linter.unusedSimpArgs false
set_option linter.unusedVariables false
namespace Go.OT
open Go.Proofs
theorem half_wrap {i j c:Nat}(h:i+j≤2000000000)(hc:c=(i+j) / 2):IntKind.wrap .i64 ((IntKind.wrap .u64 (IntKind.wrap .i64 ((i:Int)+(j:Int)))).fdiv (2 ^ min 1 (IntKind.bits .u64)))=(c:Int):=by
 rw[wrap_small (x:=(i:Int)+(j:Int)) (by omega) (by omega)]
 have:IntKind.wrap .u64 ((i:Int)+(j:Int))=(i:Int)+(j:Int):=by
  unfold IntKind.wrap
  simp[IntKind.signed,IntKind.bits]
  omega
 rw[this]
 have e:((i:Int)+(j:Int)).fdiv (2 ^ min 1 (IntKind.bits .u64))=(((i+j) / 2:Nat):Int):=by
  show ((i:Int)+(j:Int)).fdiv 2=_
  rw[Int.fdiv_eq_ediv_of_nonneg _ (by omega)]
  omega
 rw[e,wrap_small (by omega) (by omega),hc]
theorem rotF_id (f:Nat→Int){s m e:Nat}(h:s=m∨m=e):rotF f s m e=f:=by
 funext k
 simp only[rotF]
 repeat' split
 all_goals first | rfl | (exfalso;omega) | (congr 1;omega)
theorem left_swap (f:Nat→Int){a k:Nat}(h:a≤k):updF (updF (rotF f a (a+1) (k+1)) k (rotF f a (a+1) (k+1) (k+1))) (k+1) (rotF f a (a+1) (k+1) k)=rotF f a (a+1) (k+1+1):=by
 funext u
 simp only[updF,rotF]
 repeat' split
 all_goals first | rfl | (exfalso;omega) | (congr 1;omega)
theorem SortedF.key_le {key:Int→Int}{f:Nat→Int}{a b i j:Nat}(h:SortedF key f a b)(hi:a≤i)(hij:i≤j)(hj:j < b):key (f i)≤key (f j):=by
 by_cases e:i=j
 ·rw[e];exact Int.le_refl _
 ·have:=h i j hi (by omega) hj
  unfold lexLt at this
  omega
theorem left_done {key:Int→Int}{f:Nat→Int}{a b i:Nat}(h1:a+1≤i)(h2:i≤b)(hs:SortedF key f (a+1) b)(hlt:∀ k,a+1≤k→k < i→key (f k) < key (f a))(hge:∀ k,i≤k→k < b→lexLt key (f a) (f k)) :
  SM key f a b (rotF f a (a+1) i):=by
 have hR:=rotF_Rot f (Nat.le_succ a) h1
 have hfst:∀ k,a≤k→k < i - 1→rotF f a (a+1) i k=f (k+1):=fun k g1 g2=>by
  simp only[rotF];rw[if_pos (by omega)];congr 1;omega
 have hmid:rotF f a (a+1) i (i - 1)=f a:=by
  simp only[rotF]
  rw[if_neg (by omega),if_pos (by omega)];congr 1;omega
 have hrest:∀ k,i≤k→rotF f a (a+1) i k=f k:=fun k g=>hR.out k (.inr g)
 refine sym_step (mid:=i - 1) (Nat.le_refl a) (Nat.le_succ a) h1 h2 (by omega) hR (SM.refl_of fun u v g1 g2 g3=>?_) (SM.refl_of fun u v g1 g2 g3=>?_) (fun u v g1 g2 g3=>by omega) hs (fun u v g1 g2=>by omega) (fun u v g1 g2 g3 g4=>?_)
 ·rw[hfst u g1 (by omega),hfst v (by omega) g3]
  exact hs _ _ (by omega) (by omega) (by omega)
 ·by_cases e:u=i - 1
  ·subst e
   rw[hmid,hrest v (by omega)]
   exact hge v (by omega) g3
  ·rw[hrest u (by omega),hrest v (by omega)]
   exact hs _ _ (by omega) g2 g3
 ·obtain rfl:u=a:=by omega
  exact .inl (hlt v g1 g2)
structure Two (key:Int→Int) (f:Nat→Int) (a m b:Nat):Prop where
 l:SortedF key f a m
 r:SortedF key f m b
 x:∀ i j,a≤i→i < m→m≤j→j < b→f i < f j
theorem lexLt.ne {key:Int→Int}{x y:Int}(h:lexLt key x y):x ≠ y:=by
 intro e;subst e;unfold lexLt at h;omega
theorem Two.dist {key:Int→Int}{f:Nat→Int}{a m b:Nat}(h:Two key f a m b):∀ i j,a≤i→i < b→a≤j→j < b→i ≠ j→f i ≠ f j:=by
 have key':∀ i j,a≤i→i < j→j < b→f i ≠ f j:=fun i j h1 h2 h3=>by
  by_cases c1:j < m
  ·exact (h.l i j h1 h2 c1).ne
  ·by_cases c2:m≤i
   ·exact (h.r i j c2 h2 h3).ne
   ·have:=h.x i j h1 (by omega) (by omega) h3
    omega
 intro i j h1 h2 h3 h4 h5
 rcases Nat.lt_or_gt_of_ne h5 with q | q
 ·exact key' i j h1 q h4
 ·exact (key' j i h3 q h2).symm
structure Part (key:Int→Int) (f:Nat→Int) (a m b s e:Nat):Prop where
 sa:a≤s
 sm:s≤m
 me:m≤e
 eb:e≤b
 c1:∀ i j,a≤i→i < s→e≤j→j < b→lexLt key (f i) (f j)
 c2:∀ i j,m≤j→j < e→s≤i→i < m→lexLt key (f j) (f i)
section
variable {key:Int→Int} {f:Nat→Int} {a m b s e:Nat}
theorem Part.at1 (h:Part key f a m b s e):∀ k,k < s→rotF f s m e k=f k:=fun k hk=>by
 simp only[rotF];rw[if_neg (by omega)];by_cases q:s+(e - m)≤k∧k < e
 ·omega
 ·rw[if_neg q]
theorem Part.at2 (h:Part key f a m b s e):∀ k,s≤k→k < s+(e - m)→rotF f s m e k=f (k+(m - s)):=fun k h1 h2=>by
 simp only[rotF];rw[if_pos ⟨h1,h2⟩]
theorem Part.at3 (h:Part key f a m b s e):∀ k,s+(e - m)≤k→k < e→rotF f s m e k=f (k - (e - m)):=fun k h1 h2=>by
 simp only[rotF];rw[if_neg (by omega),if_pos ⟨h1,h2⟩]
theorem Part.at4 (h:Part key f a m b s e):∀ k,e≤k→rotF f s m e k=f k:=fun k hk=>by
 have:=h.sm;have:=h.me
 simp only[rotF];rw[if_neg (by omega),if_neg (by omega)]
theorem Part.two1 (h:Part key f a m b s e)(T:Two key f a m b):Two key (rotF f s m e) a s (s+(e - m)):=by
 have:=h.sa;have:=h.sm;have:=h.me;have:=h.eb
 refine⟨fun i j h1 h2 h3=>?_,fun i j h1 h2 h3=>?_,fun i j h1 h2 h3 h4=>?_⟩
 ·rw[h.at1 i (by omega),h.at1 j h3];exact T.l i j h1 h2 (by omega)
 ·rw[h.at2 i h1 (by omega),h.at2 j (by omega) h3];exact T.r _ _ (by omega) (by omega) (by omega)
 ·rw[h.at1 i h2,h.at2 j h3 h4];exact T.x _ _ h1 (by omega) (by omega) (by omega)
theorem Part.two2 (h:Part key f a m b s e)(T:Two key f a m b){f2:Nat→Int}(hS:SM key (rotF f s m e) a (s+(e - m)) f2):Two key f2 (s+(e - m)) e b:=by
 have:=h.sa;have:=h.sm;have:=h.me;have:=h.eb
 have ho:∀ k,s+(e - m)≤k→f2 k=rotF f s m e k:=fun k hk=>hS.out k (.inr hk)
 refine⟨fun i j h1 h2 h3=>?_,fun i j h1 h2 h3=>?_,fun i j h1 h2 h3 h4=>?_⟩
 ·rw[ho i h1,ho j (by omega),h.at3 i h1 (by omega),h.at3 j (by omega) h3];exact T.l _ _ (by omega) (by omega) (by omega)
 ·rw[ho i (by omega),ho j (by omega),h.at4 i h1,h.at4 j (by omega)];exact T.r _ _ (by omega) (by omega) (by omega)
 ·rw[ho i h1,ho j (by omega),h.at3 i h1 h2,h.at4 j h3];exact T.x _ _ (by omega) (by omega) (by omega) h4
theorem Two.one {f:Nat→Int}(T:Two key f a m b)(h:a=m∨m=b)(h1:a≤m)(h2:m≤b):SM key f a b f:=by
 refine SM.refl_of fun i j g1 g2 g3=>?_
 rcases h with rfl | rfl
 ·exact T.r i j g1 g2 g3
 ·exact T.l i j g1 g2 g3
theorem Two.ex {f:Nat→Int}(T:Two key f a m b)(h:a≤b):∃ f',SM key f a b f' :=
 SM_exists key f h fun i j h1 h2 h3=>T.dist i j h1 (by omega) (by omega) h3 (by omega)
theorem Part.done (h:Part key f a m b s e)(T:Two key f a m b){f2 f3:Nat→Int}(hA:SM key (rotF f s m e) a (s+(e - m)) f2)(hB:SM key f2 (s+(e - m)) b f3):SM key f a b f3 :=
 sym_step h.sa h.sm h.me h.eb rfl (rotF_Rot f h.sm h.me) hA hB T.l T.r h.c1 h.c2
theorem part_of (T:Two key f a m b){mid s0 r0:Nat}(h1:a < m)(h2:m < b)(hmid:mid=(a+b) / 2)(hs0:s0=if mid < m then mid+m - b else a)(hr0:r0=if mid < m then mid else m)
  (hs:s0≤s) (hr:s≤r0) (hP:∀ c,s0≤c→c < s→¬ key (f (mid+m - 1 - c)) < key (f c)) (hN:∀ c,s≤c→c < r0→key (f (mid+m - 1 - c)) < key (f c)):Part key f a m b s (mid+m - s):=by
 have hb:a≤s0∧r0≤m∧r0≤mid:=by
  rw[hs0,hr0]
  split<;>omega
 have he:m≤mid+m - s∧mid+m - s≤b:=by
  refine⟨by omega,?_⟩
  rw[hs0] at hs
  split at hs<;>omega
 refine⟨by omega,by omega,he.1,he.2,fun i j g1 g2 g3 g4=>?_,fun i j g1 g2 g3 g4=>?_⟩
 ·have hlt:s0 < s:=by
   rcases Nat.lt_or_ge s0 s with q | q
   ·exact q
   ·exfalso
    by_cases hm:mid < m
    ·rw[if_pos hm] at hs0;omega
    ·rw[if_neg hm] at hs0;omega
  have q:=hP (s - 1) (by omega) (by omega)
  rw[show mid+m - 1 - (s - 1)=mid+m - s by omega] at q
  have k1:=T.l.key_le (i:=i) (j:=s - 1) g1 (by omega) (by omega)
  have k2:=T.r.key_le (i:=mid+m - s) (j:=j) (by omega) g3 g4
  have k3:=T.x i j g1 (by omega) (by omega) g4
  unfold lexLt;omega
 ·have hlt:s < r0:=by
   rcases Nat.lt_or_ge s r0 with q | q
   ·exact q
   ·exfalso
    have:s=r0:=by omega
    rw[hr0] at this
    split at this<;>omega
  have q:=hN s (Nat.le_refl _) hlt
  have k1:=T.l.key_le (i:=s) (j:=i) (by omega) g3 g4
  have k2:=T.r.key_le (i:=j) (j:=mid+m - 1 - s) g1 (by omega) (by omega)
  left;omega
theorem part_step (T:Two key f a m b){mid s0 r0:Nat}(h1:a < m)(h2:m < b)(hmid:mid=(a+b) / 2)(hs0:s0=if mid < m then mid+m - b else a)(hr0:r0=if mid < m then mid else m){c c':Nat}(g0:s0≤c)(g1:c≤c')(g2:c' < r0) :
  key (f (mid+m - 1 - c'))≤key (f (mid+m - 1 - c))∧key (f c)≤key (f c')∧mid+m - 1 - c < b∧c' < mid+m∧a≤c∧m≤mid+m - 1 - c':=by
 have hb:a≤s0∧r0≤m∧r0≤mid∧mid+m - 1 - s0 < b:=by
  rw[hs0,hr0]
  split<;>omega
 exact⟨T.r.key_le (by omega) (by omega) (by omega),T.l.key_le (by omega) g1 (by omega),by omega,by omega,by omega,by omega⟩
end
end Go.OT
namespace Go.OT
open Go.Proofs
abbrev syQ (f':Nat→Int)(N:Nat):Ex→SL→Prop:=fun e L=>e=Ex.ret∧RetOk fi164.rs [.nod (rF f' N)] (.tuple []) L
set_option maxHeartbeats 16000000 in
theorem sym_l1 {key:Int→Int}{In:Int→Prop}{g:Nat}{cs:List AU}(hcl:ClOk key In g cs)(f:Nat→Int)(N a m b:Nat)(hN:Small N)(h1:m=a+1)(h2:m < b)(h3:b≤N)(hIn:∀ k,k < N→In (f k))(T:Two key f a m b)
  (f':Nat→Int) (hf':SM key f a b f'):WL Try.prog fi164.nt c164_15 [(0,0,.view 1000000 0 [] 0 N),(100,0,i64 a),(200,0,i64 m),(300,0,i64 b),(400,0,.clos g [.vptr () cs]),(2800,0,bl true),(1000000,0,rF f N)] (syQ f' N):=by
 have hN':=hN
 unfold Small at hN'
 refine WL.sreg (by simp;rfl) (by simp;rfl) ?_
 refine WL.sreg (by simp;rfl) (by simp;rfl) ?_
 refine WL.seq (WL.block (WL.loop (ι:={x:Nat × Nat // m≤x.1∧x.1≤x.2∧x.2≤b∧(∀ k,m≤k→k < x.1→key (f k) < key (f a))∧(∀ k,x.2≤k→k < b→¬ key (f k) < key (f a))})
  (fun x=>[(0,0,.view 1000000 0 [] 0 N),(100,0,i64 a),(400,0,.clos g [.vptr () cs]),(1000,0,i64 x.1.1),(1100,0,i64 x.1.2),(1000000,0,rF f N)]) (fun x=>x.1.2 - x.1.1)
  ⟨(m,b),⟨Nat.le_refl _,by simp only;omega,Nat.le_refl _,fun k g1 g2=>by simp only at g2;omega,fun k g1 g2=>by simp only at g1;omega⟩⟩ (by simp) fun x=>?_))
 obtain⟨⟨i,j⟩,q1,q2,q3,q4,q5⟩:=x
 simp only at q1 q2 q3 q4 q5 ⊢
 by_cases hij:i < j
 ·refine WL.seq (WL.sreg (by simp[hij];rfl) (by simp;rfl) ?_)
  refine WL.cond (t:=true) (by simp[hij]) (fun _=>WL.skip ?_) (by simp)
  obtain⟨c,hc⟩:∃ c,c=(i+j) / 2:=⟨_,rfl⟩
  have hw:=half_wrap (i:=i) (j:=j) (by omega) hc
  have hc1:i≤c∧c < j:=by omega
  have l1:c < N:=by omega
  have l2:a < N:=by omega
  have l1':c+1≤N:=by omega
  have l2':a+1≤N:=by omega
  have hcall:=hcl _ _ (hIn c l1) (hIn a l2)
  refine WL.block (WL.sreg (by simp[hw];rfl) (by simp;rfl) ?_)
  refine WL.seq ?_
  refine WL.draw mixed (by simp[cleanL,noH]) ?_
  refine DL.o (by simp[l1,l2,l1',l2'];exact⟨rfl,rfl⟩) ?_
  refine DL.clo0 (f:=g) (cps:=[.vptr () cs]) false (by simp) hcall (by simp) (by simp) (by simp) ?_
  by_cases hlt:key (f c) < key (f a)
  ·have c1:cmpI (key (f c)) (key (f a)) < 0:=by rw[cmpI_neg];exact hlt
   have w:IntKind.wrap .i64 ((c:Int)+1)=((c+1:Nat):Int):=by rw[wrap_small (by omega) (by omega)];omega
   refine DL.o (by simp[c1];exact⟨rfl,rfl⟩) (DL.nil ⟨by kernel_rfl,_,by simp;rfl,?_⟩)
   refine WL.cond (t:=true) (by simp) (fun _=>?_) (by simp)
   refine WL.reg (RL.run (by simp[w];rfl) ⟨_,by simp;rfl,?_⟩)
   refine⟨⟨(c+1,j),by simp only;omega,by simp only;omega,q3,fun k g1 g2=>?_,q5⟩,by simp,by simp only;omega⟩
   have:=T.r.key_le (i:=k) (j:=c) g1 (by simp only at g2;omega) (by omega)
   omega
  ·have c1:¬ cmpI (key (f c)) (key (f a)) < 0:=by rw[cmpI_neg];exact hlt
   refine DL.o (by simp[c1];exact⟨rfl,rfl⟩) (DL.nil ⟨by kernel_rfl,_,by simp;rfl,?_⟩)
   refine WL.cond (t:=false) (by simp) (by simp) fun _=>?_
   refine WL.reg (RL.run (by simp;rfl) ⟨_,by simp;rfl,?_⟩)
   refine⟨⟨(i,c),q1,by simp only;omega,by simp only;omega,q4,fun k g1 g2=>?_⟩,by simp,by simp only;omega⟩
   have:=T.r.key_le (i:=c) (j:=k) (by omega) g1 g2
   omega
 ·obtain rfl:i=j:=by omega
  refine WL.seq (WL.sreg (by simp;rfl) (by simp;rfl) ?_)
  refine WL.cond (t:=false) (by simp) (by simp) fun _=>WL.exit ?_
  have hdone:=left_done (key:=key) (f:=f) (a:=a) (b:=b) (i:=i) (by omega) q3 (by rw[← h1];exact T.r) (fun k g1 g2=>q4 k (by omega) g2) (fun k g1 g2=>by
   have:=T.x a k (Nat.le_refl a) (by omega) (by omega) g2
   have:=q5 k g1 g2
   unfold lexLt;omega)
  obtain rfl:=SM_unique hdone hf'
  refine WL.seq (WL.sreg (by simp;rfl) (by simp;rfl) ?_)
  have w:IntKind.wrap .i64 ((i:Int) - 1)=((i - 1:Nat):Int):=by rw[wrap_small (by omega) (by omega)];omega
  obtain⟨p,hp⟩:∃ p,p=i - 1:=⟨_,rfl⟩
  rw[← hp] at w
  refine WL.block (WL.loop (ι:={k:Nat // a≤k∧k≤p}) (fun k=>[(0,0,.view 1000000 0 [] 0 N),(1000,0,i64 i),(1300,0,i64 k.1),(1000000,0,rF (rotF f a (a+1) (k.1+1)) N)]) (fun k=>p - k.1)
   ⟨a,Nat.le_refl _,by omega⟩ (by simp[rotF_id f (.inr rfl:a=a+1∨a+1=a+1)]) fun x=>?_)
  obtain⟨k,k1,k2⟩:=x
  simp only
  by_cases hk:k < p
  ·have l1:k < N:=by omega
   have w1:IntKind.wrap .i64 ((k:Int)+1)=((k+1:Nat):Int):=by rw[wrap_small (by omega) (by omega)];omega
   obtain⟨u,hu⟩:∃ u,u=k+1:=⟨_,rfl⟩
   rw[← hu] at w1
   have l2:u < N:=by omega
   have l1':k+1≤N:=by omega
   have l2':u+1≤N:=by omega
   have hsw:=left_swap f k1
   rw[← hu] at hsw
   refine WL.seq (WL.sreg (by simp[w,hk];rfl) (by simp;rfl) ?_)
   refine WL.cond (t:=true) (by simp[hk]) (fun _=>WL.skip ?_) (by simp)
   refine WL.seq (WL.block (WL.draw mixed (by simp[cleanL,noH]) (DL.o (by simp[w1,l1,l2,l1',l2',tF_set'];exact⟨rfl,rfl⟩) (DL.nil ⟨by kernel_rfl,_,by simp;rfl,?_⟩))))
   refine WL.reg (RL.run (by simp[w1];rfl) ⟨_,by simp;rfl,?_⟩)
   refine⟨⟨u,by omega,by omega⟩,by simp only[← hu];simp[hsw],by simp only;omega⟩
  ·obtain rfl:k=p:=by omega
   refine WL.seq (WL.sreg (by simp[w];rfl) (by simp;rfl) ?_)
   refine WL.cond (t:=false) (by simp) (by simp) fun _=>WL.exit ?_
   refine WL.ret ⟨rfl,?_⟩
   rw[show k+1=i by omega]
   simp[fi164]
set_option maxHeartbeats 16000000 in
theorem sym_r1 {key:Int→Int}{In:Int→Prop}{g:Nat}{cs:List AU}(hcl:ClOk key In g cs)(f:Nat→Int)(N a m b:Nat)(hN:Small N)(h1:b=m+1)(h2:a < m)(h3:b≤N)(hIn:∀ k,k < N→In (f k))(T:Two key f a m b)
  (f':Nat→Int) (hf':SM key f a b f'):WL Try.prog fi164.nt c164_32 [(0,0,.view 1000000 0 [] 0 N),(100,0,i64 a),(200,0,i64 m),(300,0,i64 b),(400,0,.clos g [.vptr () cs]),(8000,0,bl true),(1000000,0,rF f N)] (syQ f' N):=by
 have hN':=hN
 unfold Small at hN'
 refine WL.sreg (by simp;rfl) (by simp;rfl) ?_
 refine WL.sreg (by simp;rfl) (by simp;rfl) ?_
 refine WL.seq (WL.block (WL.loop (ι:={x:Nat × Nat // a≤x.1∧x.1≤x.2∧x.2≤m∧(∀ k,a≤k→k < x.1→¬ key (f m) < key (f k))∧(∀ k,x.2≤k→k < m→key (f m) < key (f k))})
  (fun x=>[(0,0,.view 1000000 0 [] 0 N),(200,0,i64 m),(400,0,.clos g [.vptr () cs]),(1400,0,i64 x.1.1),(1500,0,i64 x.1.2),(1000000,0,rF f N)]) (fun x=>x.1.2 - x.1.1)
  ⟨(a,m),⟨Nat.le_refl _,by simp only;omega,Nat.le_refl _,fun k g1 g2=>by simp only at g2;omega,fun k g1 g2=>by simp only at g1;omega⟩⟩ (by simp) fun x=>?_))
 obtain⟨⟨i,j⟩,q1,q2,q3,q4,q5⟩:=x
 simp only at q1 q2 q3 q4 q5 ⊢
 by_cases hij:i < j
 ·refine WL.seq (WL.sreg (by simp[hij];rfl) (by simp;rfl) ?_)
  refine WL.cond (t:=true) (by simp[hij]) (fun _=>WL.skip ?_) (by simp)
  obtain⟨c,hc⟩:∃ c,c=(i+j) / 2:=⟨_,rfl⟩
  have hw:=half_wrap (i:=i) (j:=j) (by omega) hc
  have hc1:i≤c∧c < j:=by omega
  have l1:c < N:=by omega
  have l2:m < N:=by omega
  have l1':c+1≤N:=by omega
  have l2':m+1≤N:=by omega
  have hcall:=hcl _ _ (hIn m l2) (hIn c l1)
  refine WL.block (WL.sreg (by simp[hw];rfl) (by simp;rfl) ?_)
  refine WL.seq ?_
  refine WL.draw mixed (by simp[cleanL,noH]) ?_
  refine DL.o (by simp[l1,l2,l1',l2'];exact⟨rfl,rfl⟩) ?_
  refine DL.clo0 (f:=g) (cps:=[.vptr () cs]) false (by simp) hcall (by simp) (by simp) (by simp) ?_
  by_cases hlt:key (f m) < key (f c)
  ·have c1:cmpI (key (f m)) (key (f c)) < 0:=by rw[cmpI_neg];exact hlt
   refine DL.o (by simp[c1];exact⟨rfl,rfl⟩) (DL.nil ⟨by kernel_rfl,_,by simp;rfl,?_⟩)
   refine WL.cond (t:=false) (by simp) (by simp) fun _=>?_
   refine WL.reg (RL.run (by simp;rfl) ⟨_,by simp;rfl,?_⟩)
   refine⟨⟨(i,c),q1,by simp only;omega,by simp only;omega,q4,fun k g1 g2=>?_⟩,by simp,by simp only;omega⟩
   have:=T.l.key_le (i:=c) (j:=k) (by omega) g1 g2
   omega
  ·have c1:¬ cmpI (key (f m)) (key (f c)) < 0:=by rw[cmpI_neg];exact hlt
   have w:IntKind.wrap .i64 ((c:Int)+1)=((c+1:Nat):Int):=by rw[wrap_small (by omega) (by omega)];omega
   refine DL.o (by simp[c1];exact⟨rfl,rfl⟩) (DL.nil ⟨by kernel_rfl,_,by simp;rfl,?_⟩)
   refine WL.cond (t:=true) (by simp) (fun _=>?_) (by simp)
   refine WL.reg (RL.run (by simp[w];rfl) ⟨_,by simp;rfl,?_⟩)
   refine⟨⟨(c+1,j),by simp only;omega,by simp only;omega,q3,fun k g1 g2=>?_,q5⟩,by simp,by simp only;omega⟩
   have:=T.l.key_le (i:=k) (j:=c) g1 (by simp only at g2;omega) (by omega)
   omega
 ·obtain rfl:i=j:=by omega
  refine WL.seq (WL.sreg (by simp;rfl) (by simp;rfl) ?_)
  refine WL.cond (t:=false) (by simp) (by simp) fun _=>WL.exit ?_
  have hdone:=ins_done (key:=key) (f:=f) (h:=f) (a:=a) (i:=m) (j:=i) q1 q3 (SM.refl_of T.l) (fun k g1 g2=>T.x k m g1 g2 (Nat.le_refl m) (by omega)) q5 (fun hai=>q4 (i - 1) (by omega) (by omega))
  rw[← h1] at hdone
  obtain rfl:=SM_unique hdone hf'
  refine WL.seq (WL.sreg (by simp;rfl) (by simp;rfl) ?_)
  refine WL.block (WL.loop (ι:={k:Nat // i≤k∧k≤m}) (fun k=>[(0,0,.view 1000000 0 [] 0 N),(1400,0,i64 i),(1700,0,i64 k.1),(1000000,0,rF (rotF f k.1 m (m+1)) N)]) (fun k=>k.1)
   ⟨m,q3,Nat.le_refl _⟩ (by simp[ins_start]) fun x=>?_)
  obtain⟨k,k1,k2⟩:=x
  simp only
  by_cases hk:i < k
  ·have l1:k < N:=by omega
   have w1:IntKind.wrap .i64 ((k:Int) - 1)=((k - 1:Nat):Int):=by rw[wrap_small (by omega) (by omega)];omega
   obtain⟨u,hu⟩:∃ u,u=k - 1:=⟨_,rfl⟩
   rw[← hu] at w1
   have l2:u < N:=by omega
   have l1':k+1≤N:=by omega
   have l2':u+1≤N:=by omega
   have hsw:=ins_swap f (i:=m) (j:=k) (by omega) k2
   rw[← hu] at hsw
   refine WL.seq (WL.sreg (by simp[hk];rfl) (by simp;rfl) ?_)
   refine WL.cond (t:=true) (by simp[hk]) (fun _=>WL.skip ?_) (by simp)
   refine WL.seq (WL.block (WL.draw mixed (by simp[cleanL,noH]) (DL.o (by simp[w1,l1,l2,l1',l2',tF_set'];exact⟨rfl,rfl⟩) (DL.nil ⟨by kernel_rfl,_,by simp;rfl,?_⟩))))
   refine WL.reg (RL.run (by simp[w1];rfl) ⟨_,by simp;rfl,?_⟩)
   refine⟨⟨u,by omega,by omega⟩,by simp[hsw],by simp only;omega⟩
  ·obtain rfl:k=i:=by omega
   refine WL.seq (WL.sreg (by simp;rfl) (by simp;rfl) ?_)
   refine WL.cond (t:=false) (by simp) (by simp) fun _=>WL.exit ?_
   refine WL.ret ⟨rfl,?_⟩
   rw[← h1]
   simp[fi164]
end Go.OT
namespace Go.OT
open Go.Proofs
def SymOk (key:Int→Int)(In:Int→Prop)(g:Nat)(cs:List AU)(N n:Nat):Prop:=∀ (f:Nat→Int) (a m b:Nat),b - a < n→a < m→m < b→b≤N→(∀ k,k < N→In (f k))→Two key f a m b→∀ f',SM key f a b f' →
 FnC Try.prog 164 [.nod (rF f N)] [.view 1000000 0 [] 0 N,i64 a,i64 m,i64 b,.clos g [.vptr () cs]] [.nod (rF f' N)] (.tuple [])
abbrev syE (f':Nat→Int)(N:Nat):Ex→SL→Prop:=fun e L=>(e=Ex.nrm∨e=Ex.ret)∧RetOk fi164.rs [.nod (rF f' N)] (.tuple []) L
set_option maxHeartbeats 16000000 in
theorem sym_end {key:Int→Int}{In:Int→Prop}{g:Nat}{cs:List AU}(f:Nat→Int)(N a m b s:Nat)(hN:Small N)(h1:a < m)(h2:m < b)(h3:b≤N)(hIn:∀ k,k < N→In (f k))(T:Two key f a m b)
  (hrec:SymOk key In g cs N (b - a)) (f':Nat→Int) (hf':SM key f a b f') (mid:Nat) (hmid:mid=(a+b) / 2) (hp:Part key f a m b s (mid+m - s)) (hs:s≤mid) (r p:Int) :
  WL Try.prog fi164.nt c164_55 [(0,0,.view 1000000 0 [] 0 N),(100,0,i64 a),(200,0,i64 m),(300,0,i64 b),(400,0,.clos g [.vptr () cs]),(1800,0,i64 mid),(1900,0,i64 (mid+m:Nat)),(2000,0,i64 s),(2100,0,i64 r),(2200,0,i64 p),(15100,0,bl false),(1000000,0,rF f N)] (syE f' N):=by
 have hN':=hN
 unfold Small at hN'
 have b1:=hp.sa
 have b2:=hp.sm
 have b3:=hp.me
 have b4:=hp.eb
 obtain⟨e,he⟩:∃ e,e=mid+m - s:=⟨_,rfl⟩
 rw[← he] at hp b3 b4
 have hme:s+(e - m)=mid:=by omega
 obtain⟨f2,hA⟩:=(hp.two1 T).ex (by omega:a≤s+(e - m))
 obtain⟨f3,hB⟩:=(hp.two2 T hA).ex (by omega:s+(e - m)≤b)
 obtain rfl:=SM_unique (hp.done T hA hB) hf'
 have t1:=hp.two1 T
 have t2:=hp.two2 T hA
 rw[hme] at hA hB t1 t2
 obtain⟨q,hq⟩:∃ q,q=mid+m:=⟨_,rfl⟩
 rw[← hq]
 have w1:IntKind.wrap .i64 ((q:Int) - (s:Int))=(e:Int):=by rw[wrap_small (by omega) (by omega)];omega
 have hIr:∀ k,k < N→In (rotF f s m e k):=fun k hk=>by
  simp only[rotF]
  repeat' split
  all_goals exact hIn _ (by omega)
 have hI2:=hA.inN (by omega) hIr
 refine WL.sreg (by simp[w1];rfl) (by simp;rfl) ?_
 -- behind the rotation
 refine WL.seq (WL.mono (Q':=fun x L=>x=Ex.nrm∧L=[(0,0,.view 1000000 0 [] 0 N),(100,0,i64 a),(300,0,i64 b),(400,0,.clos g [.vptr () cs]),(1800,0,i64 mid),(2000,0,i64 s),(2400,0,i64 e),(1000000,0,rF (rotF f s m e) N)]) ?_ ?_)
 ·by_cases c1:s < m
  ·by_cases c2:m < e
   ·have hc:=rot_fn f N s m e hN c1 c2 (by omega) g cs
    refine WL.sreg (by simp[c1,c2];rfl) (by simp;rfl) ?_
    refine WL.cond (t:=true) (by simp) (fun _=>?_) (by simp)
    refine WL.reg (RL.o (by simp;rfl) (RL.callK false [(1000000,[])] hc (by simp) (by simp) (by simp[gkey]) (by simp) (by simp) (RL.nil ⟨_,by simp;rfl,rfl,?_⟩)))
    simp
   ·refine WL.sreg (by simp[c1,c2];rfl) (by simp;rfl) ?_
    refine WL.cond (t:=false) (by simp) (by simp) fun _=>?_
    refine WL.fin [2,185] (by simp;rfl) (WL.skip ⟨rfl,?_⟩)
    rw[rotF_id f (.inr (by omega))]
  ·refine WL.sreg (by simp[c1];rfl) (by simp;rfl) ?_
   refine WL.cond (t:=false) (by simp) (by simp) fun _=>?_
   refine WL.fin [2,185] (by simp;rfl) (WL.skip ⟨rfl,?_⟩)
   rw[rotF_id f (.inl (by omega))]
 ·rintro x L ⟨rfl,rfl⟩
  refine WL.seq (WL.mono (Q':=fun x L=>x=Ex.nrm∧L=[(0,0,.view 1000000 0 [] 0 N),(300,0,i64 b),(400,0,.clos g [.vptr () cs]),(1800,0,i64 mid),(2400,0,i64 e),(1000000,0,rF f2 N)]) ?_ ?_)
  ·by_cases c1:a < s
   ·by_cases c2:s < mid
    ·have hc:=hrec (rotF f s m e) a s mid (by omega) c1 c2 (by omega) hIr t1 f2 hA
     refine WL.sreg (by simp[c1,c2];rfl) (by simp;rfl) ?_
     refine WL.cond (t:=true) (by simp) (fun _=>?_) (by simp)
     refine WL.reg (RL.o (by simp;rfl) (RL.callK false [(1000000,[])] hc (by simp) (by simp) (by simp[gkey]) (by simp) (by simp) (RL.nil ⟨_,by simp;rfl,rfl,?_⟩)))
     simp
    ·refine WL.sreg (by simp[c1,c2];rfl) (by simp;rfl) ?_
     refine WL.cond (t:=false) (by simp) (by simp) fun _=>?_
     refine WL.fin [1,20,199] (by simp;rfl) (WL.skip ⟨rfl,?_⟩)
     rw[SM_unique (t1.one (.inr (by omega)) (by omega) (by omega)) hA]
   ·refine WL.sreg (by simp[c1];rfl) (by simp;rfl) ?_
    refine WL.cond (t:=false) (by simp) (by simp) fun _=>?_
    refine WL.fin [1,20,199] (by simp;rfl) (WL.skip ⟨rfl,?_⟩)
    rw[SM_unique (t1.one (.inl (by omega)) (by omega) (by omega)) hA]
  ·rintro x L ⟨rfl,rfl⟩
   by_cases c1:mid < e
   ·by_cases c2:e < b
    ·have hc:=hrec f2 mid e b (by omega) c1 c2 h3 hI2 t2 f3 hB
     refine WL.sreg (by simp[c1,c2];rfl) (by simp;rfl) ?_
     refine WL.cond (t:=true) (by simp) (fun _=>?_) (by simp)
     refine WL.reg (RL.o (by simp;rfl) (RL.callK false [(1000000,[])] hc (by simp) (by simp) (by simp[gkey]) (by simp) (by simp) (RL.nil ⟨_,by simp;rfl,.inl rfl,?_⟩)))
     simp[fi164]
    ·obtain rfl:=SM_unique (t2.one (.inr (by omega)) (by omega) (by omega)) hB
     refine WL.sreg (by simp[c1,c2];rfl) (by simp;rfl) ?_
     refine WL.cond (t:=false) (by simp) (by simp) fun _=>WL.skip ⟨.inl rfl,?_⟩
     simp[fi164]
   ·obtain rfl:=SM_unique (t2.one (.inl (by omega)) (by omega) (by omega)) hB
    refine WL.sreg (by simp[c1];rfl) (by simp;rfl) ?_
    refine WL.cond (t:=false) (by simp) (by simp) fun _=>WL.skip ⟨.inl rfl,?_⟩
    simp[fi164]
end Go.OT
namespace Go.OT
open Go.Proofs
set_option maxHeartbeats 16000000 in
theorem sym_search {key:Int→Int}{In:Int→Prop}{g:Nat}{cs:List AU}(hcl:ClOk key In g cs)(f:Nat→Int)(N a m b:Nat)(hN:Small N)(h1:a < m)(h2:m < b)(h3:b≤N)(hIn:∀ k,k < N→In (f k))(T:Two key f a m b)
  (hrec:SymOk key In g cs N (b - a)) (f':Nat→Int) (hf':SM key f a b f') (mid s0 r0:Nat) (hmid:mid=(a+b) / 2) (hs0:s0=if mid < m then mid+m - b else a) (hr0:r0=if mid < m then mid else m) :
  WL Try.prog fi164.nt c164_57 [(0,0,.view 1000000 0 [] 0 N),(100,0,i64 a),(200,0,i64 m),(300,0,i64 b),(400,0,.clos g [.vptr () cs]),(1800,0,i64 mid),(1900,0,i64 (mid+m:Nat)),(2000,0,i64 s0),(2100,0,i64 r0),(1000000,0,rF f N)] (syE f' N):=by
 have hN':=hN
 unfold Small at hN'
 have hb:a≤s0∧s0≤r0∧r0≤m∧r0≤mid∧mid < b∧a≤mid:=by
  by_cases hm:mid < m
  ·rw[if_pos hm] at hs0 hr0;omega
  ·rw[if_neg hm] at hs0 hr0;omega
 obtain⟨b1,b2,b3,b4,b5,b6⟩:=hb
 obtain⟨q,hq⟩:∃ q,q=mid+m:=⟨_,rfl⟩
 obtain⟨p,hp⟩:∃ p,p=q - 1:=⟨_,rfl⟩
 have w1:IntKind.wrap .i64 ((q:Int) - 1)=(p:Int):=by rw[wrap_small (by omega) (by omega)];omega
 rw[← hq]
 refine WL.sreg (by simp[w1];rfl) (by simp;rfl) ?_
 refine WL.seq (WL.block (WL.loop (ι:={x:Nat × Nat // s0≤x.1∧x.1≤x.2∧x.2≤r0∧(∀ c,s0≤c→c < x.1→¬ key (f (mid+m - 1 - c)) < key (f c))∧(∀ c,x.2≤c→c < r0→key (f (mid+m - 1 - c)) < key (f c))})
  (fun x=>[(0,0,.view 1000000 0 [] 0 N),(100,0,i64 a),(200,0,i64 m),(300,0,i64 b),(400,0,.clos g [.vptr () cs]),(1800,0,i64 mid),(1900,0,i64 q),(2000,0,i64 x.1.1),(2100,0,i64 x.1.2),(2200,0,i64 p),(1000000,0,rF f N)]) (fun x=>x.1.2 - x.1.1)
  ⟨(s0,r0),⟨Nat.le_refl _,b2,Nat.le_refl _,fun k g1 g2=>by simp only at g2;omega,fun k g1 g2=>by simp only at g1;omega⟩⟩ (by simp) fun x=>?_))
 obtain⟨⟨i,j⟩,q1,q2,q3,q4,q5⟩:=x
 simp only at q1 q2 q3 q4 q5 ⊢
 by_cases hij:i < j
 ·refine WL.seq (WL.sreg (by simp[hij];rfl) (by simp;rfl) ?_)
  refine WL.cond (t:=true) (by simp[hij]) (fun _=>WL.skip ?_) (by simp)
  obtain⟨c,hc⟩:∃ c,c=(i+j) / 2:=⟨_,rfl⟩
  have hw:=half_wrap (i:=i) (j:=j) (by omega) hc
  have hc1:i≤c∧c < j:=by omega
  have hst:=part_step T h1 h2 hmid hs0 hr0 (c:=c) (c':=c) (by omega) (Nat.le_refl _) (by omega)
  obtain⟨u,hu⟩:∃ u,u=p - c:=⟨_,rfl⟩
  have hu':u=mid+m - 1 - c:=by omega
  have w2:IntKind.wrap .i64 ((p:Int) - (c:Int))=(u:Int):=by rw[wrap_small (by omega) (by omega)];omega
  have l1:u < N:=by omega
  have l2:c < N:=by omega
  have l1':u+1≤N:=by omega
  have l2':c+1≤N:=by omega
  have hcall:=hcl _ _ (hIn u l1) (hIn c l2)
  refine WL.block (WL.sreg (by simp[hw];rfl) (by simp;rfl) ?_)
  refine WL.seq ?_
  refine WL.draw mixed (by simp[cleanL,noH]) ?_
  refine DL.o (by simp[w2,l1,l2,l1',l2'];exact⟨rfl,rfl⟩) ?_
  refine DL.clo0 (f:=g) (cps:=[.vptr () cs]) false (by simp) hcall (by simp) (by simp) (by simp) ?_
  by_cases hlt:key (f u) < key (f c)
  ·have c1:cmpI (key (f u)) (key (f c)) < 0:=by rw[cmpI_neg];exact hlt
   refine DL.o (by simp[c1];exact⟨rfl,rfl⟩) (DL.nil ⟨by kernel_rfl,_,by simp;rfl,?_⟩)
   refine WL.cond (t:=false) (by simp) (by simp) fun _=>?_
   refine WL.reg (RL.run (by simp;rfl) ⟨_,by simp;rfl,?_⟩)
   refine⟨⟨(i,c),q1,by simp only;omega,by simp only;omega,q4,fun k g1 g2=>?_⟩,by simp,by simp only;omega⟩
   have:=part_step T h1 h2 hmid hs0 hr0 (c:=c) (c':=k) (by omega) g1 g2
   rw[hu'] at hlt
   omega
  ·have c1:¬ cmpI (key (f u)) (key (f c)) < 0:=by rw[cmpI_neg];exact hlt
   have w:IntKind.wrap .i64 ((c:Int)+1)=((c+1:Nat):Int):=by rw[wrap_small (by omega) (by omega)];omega
   refine DL.o (by simp[c1];exact⟨rfl,rfl⟩) (DL.nil ⟨by kernel_rfl,_,by simp;rfl,?_⟩)
   refine WL.cond (t:=true) (by simp) (fun _=>?_) (by simp)
   refine WL.reg (RL.run (by simp[w];rfl) ⟨_,by simp;rfl,?_⟩)
   refine⟨⟨(c+1,j),by simp only;omega,by simp only;omega,q3,fun k g1 g2=>?_,q5⟩,by simp,by simp only;omega⟩
   have:=part_step T h1 h2 hmid hs0 hr0 (c:=k) (c':=c) g1 (by simp only at g2;omega) (by omega)
   rw[hu'] at hlt
   omega
 ·obtain rfl:i=j:=by omega
  refine WL.seq (WL.sreg (by simp;rfl) (by simp;rfl) ?_)
  refine WL.cond (t:=false) (by simp) (by simp) fun _=>WL.exit ?_
  have hpart:=part_of T h1 h2 hmid hs0 hr0 q1 q3 q4 q5
  have:=sym_end (g:=g) (cs:=cs) (In:=In) f N a m b i hN h1 h2 h3 hIn T hrec f' hf' mid hmid hpart (by omega) i p
  rw[← hq] at this
  exact this
set_option maxHeartbeats 16000000 in
theorem sym_fn {key:Int→Int}{In:Int→Prop}{g:Nat}{cs:List AU}(hcl:ClOk key In g cs)(N:Nat)(hN:Small N):∀ n,SymOk key In g cs N n
 | 0=>fun f a m b h=>by omega
 | n+1=>fun f a m b hn h1 h2 h3 hIn T f' hf'=>by
  have hN':=hN
  unfold Small at hN'
  have ih:=sym_fn hcl N hN n
  refine FnC.go ok164 rfl ?_
  have w1:IntKind.wrap .i64 ((m:Int) - (a:Int))=((m - a:Nat):Int):=by rw[wrap_small (by omega) (by omega)];omega
  have w2:IntKind.wrap .i64 ((b:Int) - (m:Int))=((b - m:Nat):Int):=by rw[wrap_small (by omega) (by omega)];omega
  obtain⟨u,hu⟩:∃ u,u=m - a:=⟨_,rfl⟩
  obtain⟨v,hv⟩:∃ v,v=b - m:=⟨_,rfl⟩
  rw[← hu] at w1
  rw[← hv] at w2
  by_cases c1:u=1
  ·subst c1
   refine WL.seq (WL.sreg (by simp[w1];rfl) (by simp;rfl) ?_)
   refine WL.cond (t:=true) (by simp) (fun _=>?_) (by simp)
   have:=sym_l1 hcl f N a m b hN (by omega) h2 h3 hIn T f' hf'
   refine this.mono fun e L h=>?_
   obtain⟨rfl,h⟩:=h
   exact⟨.inr rfl,h⟩
  have d1:((u:Int) == 1)=false:=by simpa using (by omega:¬ (u:Int)=1)
  refine WL.seq (WL.sreg (by simp[w1,d1];rfl) (by simp;rfl) ?_)
  refine WL.cond (t:=false) (by simp[c1]) (by simp) fun _=>WL.skip ?_
  by_cases c2:v=1
  ·subst c2
   refine WL.seq (WL.sreg (by simp[w2];rfl) (by simp;rfl) ?_)
   refine WL.cond (t:=true) (by simp) (fun _=>?_) (by simp)
   have:=sym_r1 hcl f N a m b hN (by omega) h1 h3 hIn T f' hf'
   refine this.mono fun e L h=>?_
   obtain⟨rfl,h⟩:=h
   exact⟨.inr rfl,h⟩
  have d2:((v:Int) == 1)=false:=by simpa using (by omega:¬ (v:Int)=1)
  refine WL.seq (WL.sreg (by simp[w2,d2];rfl) (by simp;rfl) ?_)
  refine WL.cond (t:=false) (by simp[c2]) (by simp) fun _=>WL.skip ?_
  obtain⟨mid,hmid⟩:∃ mid,mid=(a+b) / 2:=⟨_,rfl⟩
  have hw:=half_wrap (i:=a) (j:=b) (by omega) hmid
  have hrec:SymOk key In g cs N (b - a):=fun f a' m' b' q=>ih f a' m' b' (by omega)
  refine WL.sreg (by simp[hw];rfl) (by simp;rfl) ?_
  have w3:IntKind.wrap .i64 ((mid:Int)+(m:Int))=((mid+m:Nat):Int):=by rw[wrap_small (by omega) (by omega)];omega
  obtain⟨q,hq⟩:∃ q,q=mid+m:=⟨_,rfl⟩
  rw[← hq] at w3
  refine WL.sreg (by simp[w3];rfl) (by simp;rfl) ?_
  refine WL.sreg (by simp;rfl) (by simp;rfl) ?_
  by_cases hm:mid < m
  ·have w4:IntKind.wrap .i64 ((q:Int) - (b:Int))=((mid+m - b:Nat):Int):=by rw[wrap_small (by omega) (by omega)];omega
   refine WL.seq (WL.sreg (by simp[hm];rfl) (by simp;rfl) ?_)
   refine WL.cond (t:=true) (by simp[hm]) (fun _=>?_) (by simp)
   have:=sym_search hcl f N a m b hN h1 h2 h3 hIn T hrec f' hf' mid (mid+m - b) mid hmid (by rw[if_pos hm]) (by rw[if_pos hm])
   rw[← hq] at this
   obtain⟨z,hz⟩:∃ z,z=mid+m - b:=⟨_,rfl⟩
   rw[← hq] at w4 hz
   rw[← hz] at w4 this
   refine WL.sreg (by simp[w4];rfl) (by simp;rfl) ?_
   refine WL.reg (RL.run (by simp;rfl) ⟨_,by simp;rfl,?_⟩)
   exact this
  ·refine WL.seq (WL.sreg (by simp[hm];rfl) (by simp;rfl) ?_)
   refine WL.cond (t:=false) (by simp[hm]) (by simp) fun _=>?_
   have:=sym_search hcl f N a m b hN h1 h2 h3 hIn T hrec f' hf' mid a m hmid (by rw[if_neg hm]) (by rw[if_neg hm])
   rw[← hq] at this
   refine WL.sreg (by simp;rfl) (by simp;rfl) ?_
   refine WL.reg (RL.run (by simp;rfl) ⟨_,by simp;rfl,?_⟩)
   exact this
end Go.OT
namespace Go.OT
open Go.Proofs
structure Blk (key:Int→Int) (f h:Nat→Int) (x y:Nat):Prop where
 perm:(seg h x (y - x)).Perm (seg f x (y - x))
 sorted:SortedF key h x y
section
variable {key:Int→Int} {f h h':Nat→Int} {x m y:Nat}
theorem Blk.mem (b:Blk key f h x y){k:Nat}(h1:x≤k)(h2:k < y):∃ u,x≤u∧u < y∧h k=f u:=by
 have:h k ∈ seg h x (y - x):=mem_seg.2 ⟨k - x,by omega,by rw[show x+(k - x)=k by omega]⟩
 obtain⟨u,hu,e⟩:=mem_seg.1 (b.perm.subset this)
 exact⟨x+u,by omega,by omega,e.symm⟩
theorem Blk.congr (b:Blk key f h x y)(hc:∀ k,x≤k→k < y→h' k=h k):Blk key f h' x y:=by
 refine⟨?_,fun i j h1 h2 h3=>?_⟩
 ·rw[seg_congr (f:=h') (g:=h) (a:=x) (b:=x) (n:=y - x) (fun k hk=>hc _ (by omega) (by omega))];exact b.perm
 ·rw[hc i h1 (by omega),hc j (by omega) h3];exact b.sorted i j h1 h2 h3
theorem Blk.two (b1:Blk key f h x m)(b2:Blk key f h m y)(hasc:∀ i j,x≤i→i < j→j < y→f i < f j):Two key h x m y:=by
 refine⟨b1.sorted,b2.sorted,fun i j h1 h2 h3 h4=>?_⟩
 obtain⟨u,u1,u2,e1⟩:=b1.mem h1 h2
 obtain⟨v,v1,v2,e2⟩:=b2.mem h3 h4
 rw[e1,e2]
 exact hasc u v u1 (by omega) v2
theorem Blk.merge (b1:Blk key f h x m)(b2:Blk key f h m y)(h1:x≤m)(h2:m≤y)(hS:SM key h x y h'):Blk key f h' x y:=by
 refine⟨hS.perm.trans ?_,hS.sorted⟩
 have e:∀ g:Nat→Int,seg g x (y - x)=seg g x (m - x) ++ seg g m (y - m):=fun g=>by
  rw[show y - x=(m - x)+(y - m) by omega,seg_add,show x+(m - x)=m by omega]
 rw[e,e]
 exact b1.perm.append b2.perm
theorem Blk.ofSM (hc:∀ k,x≤k→k < y→h k=f k)(hS:SM key h x y h'):Blk key f h' x y:=by
 refine⟨hS.perm.trans ?_,hS.sorted⟩
 rw[seg_congr (f:=h) (g:=f) (a:=x) (b:=x) (n:=y - x) (fun k hk=>hc _ (by omega) (by omega))]
theorem Blk.toSM (b:Blk key f h 0 y)(hout:∀ k,y≤k→h k=f k):SM key f 0 y h:=⟨fun k hk=>hout k (by omega),b.perm,b.sorted⟩
end
def AllB (key:Int→Int)(f h:Nat→Int)(N bs:Nat):Prop:=(∀ t,bs * t < N→Blk key f h (bs * t) (min (bs * t+bs) N))∧∀ k,N≤k→h k=f k
def UpB (key:Int→Int)(f h0 h:Nat→Int)(N bs a:Nat):Prop:=(∃ t,a=bs * t)∧a≤N∧(∀ t,bs * t < a→Blk key f h (bs * t) (bs * t+bs))∧∀ k,a≤k→h k=h0 k
theorem mul_lt_step {bs t u:Nat}(h0:0 < bs)(h:bs * t < bs * u):bs * t+bs≤bs * u:=by
 have:t < u:=Nat.lt_of_mul_lt_mul_left h
 have:=Nat.mul_le_mul_left bs (Nat.succ_le_of_lt this)
 rw[Nat.mul_succ] at this;exact this
theorem UpB.next {key:Int→Int}{f h0 h h':Nat→Int}{N bs a:Nat}(h0':0 < bs)(U:UpB key f h0 h N bs a)(hb:a+bs≤N)(hB:Blk key f h' a (a+bs))(ho:∀ k,k < a∨a+bs≤k→h' k=h k):UpB key f h0 h' N bs (a+bs):=by
 obtain⟨⟨t,ht⟩,u1,u2,u3⟩:=U
 refine⟨⟨t+1,by rw[ht,Nat.mul_succ]⟩,hb,fun u hu=>?_,fun k hk=>by rw[ho k (.inr hk),u3 k (by omega)]⟩
 by_cases e:bs * u < a
 ·have:=mul_lt_step h0' (by rw[← ht];exact e:bs * u < bs * t)
  exact (u2 u e).congr fun k g1 g2=>ho k (by omega)
 ·have:bs * u=a:=by
   rw[ht] at e hu ⊢
   have h1:t≤u:=Nat.le_of_mul_le_mul_left (by omega) h0'
   have h2:bs * u < bs * (t+1):=by rw[Nat.mul_succ];exact hu
   have h3:u < t+1:=Nat.lt_of_mul_lt_mul_left h2
   rw[show u=t by omega]
  rw[this];exact hB
theorem UpB.all {key:Int→Int}{f h0 h h':Nat→Int}{N bs a:Nat}(h0':0 < bs)(U:UpB key f h0 h N bs a)(hb:N < a+bs)(hB:a < N→Blk key f h' a N)(ho:∀ k,k < a∨N≤k→h' k=h k)(hf:∀ k,N≤k→h0 k=f k):AllB key f h' N bs:=by
 obtain⟨⟨t,ht⟩,u1,u2,u3⟩:=U
 refine⟨fun u hu=>?_,fun k hk=>by rw[ho k (.inr hk),u3 k (by omega),hf k hk]⟩
 by_cases e:bs * u < a
 ·have:=mul_lt_step h0' (by rw[← ht];exact e:bs * u < bs * t)
  rw[Nat.min_eq_left (by omega)]
  exact (u2 u e).congr fun k g1 g2=>ho k (by omega)
 ·have:bs * u=a:=by
   rw[ht] at e hb ⊢
   have h1:t≤u:=Nat.le_of_mul_le_mul_left (by omega) h0'
   have h2:bs * u < bs * (t+1):=by rw[Nat.mul_succ];omega
   have h3:u < t+1:=Nat.lt_of_mul_lt_mul_left h2
   rw[show u=t by omega]
  rw[this] at hu ⊢
  rw[Nat.min_eq_right (by omega)]
  exact hB hu
theorem asc_ne {f:Nat→Int}{N:Nat}(hasc:∀ i j,i < j→j < N→f i < f j){h:Nat→Int}{a b:Nat}(hb:b≤N)(hc:∀ k,a≤k→h k=f k):∀ i j,a≤i→i < j→j < b→h i ≠ h j:=fun i j h1 h2 h3=>by
 rw[hc i h1,hc j (by omega)]
 have:=hasc i j h2 (by omega)
 omega
abbrev stS1 (h:Nat→Int)(N a q:Nat)(cl:AU):SL:=[(0,0,.view 1000000 0 [] 0 N),(100,0,i64 N),(200,0,cl),(600,0,i64 20),(700,0,i64 a),(800,0,i64 q),(1000000,0,rF h N)]
abbrev stS2 (h:Nat→Int)(N bs:Nat)(cl:AU):SL:=[(0,0,.view 1000000 0 [] 0 N),(100,0,i64 N),(200,0,cl),(600,0,i64 bs),(1000000,0,rF h N)]
abbrev stS3 (h:Nat→Int)(N bs a q:Nat)(cl:AU):SL:=[(0,0,.view 1000000 0 [] 0 N),(100,0,i64 N),(200,0,cl),(600,0,i64 bs),(700,0,i64 a),(800,0,i64 q),(1000000,0,rF h N)]
abbrev stQ (f':Nat→Int)(N:Nat):Ex→SL→Prop:=fun e L=>(e=Ex.nrm∨e=Ex.ret)∧RetOk fi138.rs [.nod (rF f' N)] (.tuple []) L
set_option maxHeartbeats 16000000 in
theorem stable_grow {key:Int→Int}{In:Int→Prop}{g:Nat}{cs:List AU}(hcl:ClOk key In g cs)(f:Nat→Int)(N:Nat)(hN:N≤100000000)(hIn:∀ k,k < N→In (f k))(hasc:∀ i j,i < j→j < N→f i < f j)
  (f':Nat→Int) (hf':SM key f 0 N f') (h:Nat→Int) (hA:AllB key f h N 20):WL Try.prog fi138.nt c138_19 (stS2 h N 20 (.clos g [.vptr () cs])) (stQ f' N):=by
 have hNs:Small N:=by unfold Small;omega
 refine WL.block (WL.loop (ι:={x:(Nat→Int) × Nat // AllB key f x.1 N x.2∧0 < x.2∧x.2≤200000020}) (fun x=>stS2 x.1.1 N x.1.2 (.clos g [.vptr () cs])) (fun x=>N - x.1.2) ⟨(h,20),hA,by simp,by simp⟩ (by simp) fun x=>?_)
 obtain⟨⟨h0,bs⟩,hA0,hbs,hbs2⟩:=x
 simp only at hA0 hbs hbs2 ⊢
 by_cases hlt:bs < N
 ·refine WL.seq (WL.sreg (by simp[hlt];rfl) (by simp;rfl) ?_)
  refine WL.cond (t:=true) (by simp[hlt]) (fun _=>WL.skip ?_) (by simp)
  have w2:IntKind.wrap .i64 (2 * (bs:Int))=((2 * bs:Nat):Int):=by rw[wrap_small (by omega) (by omega)];omega
  have w2':IntKind.wrap .i64 ((bs:Int) * 2)=((2 * bs:Nat):Int):=by rw[wrap_small (by omega) (by omega)];omega
  obtain⟨d,hd⟩:∃ d,d=2 * bs:=⟨_,rfl⟩
  rw[← hd] at w2 w2'
  refine WL.block (WL.sreg (by simp[w2];rfl) (by simp;rfl) ?_)
  refine WL.seq (WL.block (WL.loop (ι:={x:(Nat→Int) × Nat // UpB key f h0 x.1 N d x.2}) (fun x=>stS3 x.1.1 N bs x.1.2 (x.1.2+2 * bs) (.clos g [.vptr () cs])) (fun x=>N - x.1.2)
   ⟨(h0,0),⟨0,by simp⟩,Nat.zero_le _,fun t ht=>absurd ht (Nat.not_lt_zero _),fun k _=>rfl⟩ (by simp[hd]) fun x=>?_))
  obtain⟨⟨h1,a⟩,U⟩:=x
  simp only at U ⊢
  obtain⟨⟨t,ht⟩,haN,_,hrest⟩:=id U
  have hta:bs * (2 * t)=a:=by rw[ht,hd];rw[← Nat.mul_assoc,Nat.mul_comm bs 2]
  have hta2:bs * (2 * t+1)=a+bs:=by rw[Nat.mul_succ,hta]
  have w3:IntKind.wrap .i64 ((a:Int)+(bs:Int))=((a+bs:Nat):Int):=by rw[wrap_small (by omega) (by omega)];omega
  obtain⟨p,hp⟩:∃ p,p=a+bs:=⟨_,rfl⟩
  rw[← hp] at w3
  obtain⟨q,hq⟩:∃ q,q=a+2 * bs:=⟨_,rfl⟩
  rw[← hq]
  have hIn1:∀ k,k < N→In (h1 k):=fun k hk=>by
   obtain⟨_,_,hbl,_⟩:=U
   by_cases hka:k < a
   ·-- in a block that is done
    have hd0:0 < d:=by omega
    have hk1:d * (k / d)≤k:=Nat.mul_div_le k d
    have hk2:k < d * (k / d)+d:=by have:=Nat.lt_mul_div_succ k hd0;rwa [Nat.mul_succ] at this
    have hk3:d * (k / d)+d≤a:=by rw[ht];exact mul_lt_step hd0 (by rw[← ht];omega)
    obtain⟨u,u1,u2,e⟩:=(hbl (k / d) (by omega)).mem hk1 hk2
    rw[e];exact hIn u (by omega)
   ·rw[hrest k (by omega)]
    have hk1:bs * (k / bs)≤k:=Nat.mul_div_le k bs
    have hk2:k < bs * (k / bs)+bs:=by have:=Nat.lt_mul_div_succ k hbs;rwa [Nat.mul_succ] at this
    obtain⟨u,u1,u2,e⟩:=(hA0.1 (k / bs) (by omega)).mem hk1 (by omega)
    rw[e];exact hIn u (by omega)
  by_cases hqN:q≤N
  ·have b1:Blk key f h1 a p:=by
    have:=hA0.1 (2 * t) (by omega)
    rw[hta,Nat.min_eq_left (by omega),← hp] at this
    exact this.congr fun k g1 _=>hrest k g1
   have b2:Blk key f h1 p q:=by
    have:=hA0.1 (2 * t+1) (by omega)
    rw[hta2,Nat.min_eq_left (by omega),← hp,show p+bs=q by omega] at this
    exact this.congr fun k g1 _=>hrest k (by omega)
   have T:=b1.two b2 (fun i j _ g2 g3=>hasc i j g2 (by omega))
   obtain⟨h2,hS⟩:=T.ex (by omega)
   have hc:=sym_fn hcl N hNs (q - a+1) h1 a p q (by omega) (by omega) (by omega) hqN hIn1 T h2 hS
   refine WL.seq (WL.sreg (by simp[hqN];rfl) (by simp;rfl) ?_)
   refine WL.cond (t:=true) (by simp[hqN]) (fun _=>WL.skip ?_) (by simp)
   refine WL.block (WL.sregC (RL.o (by simp[w3];rfl) (RL.callK false [(1000000,[])] hc (by simp) (by simp) (by simp[gkey]) (by simp) (by simp) (RL.nil ⟨_,by simp;rfl,?_⟩))))
   have w4:IntKind.wrap .i64 ((q:Int)+(d:Int))=((q+d:Nat):Int):=by rw[wrap_small (by omega) (by omega)];omega
   refine WL.sreg (by simp;rfl) (by simp;rfl) ?_
   refine WL.reg (RL.run (by simp[w2,w4];rfl) ⟨_,by simp;rfl,?_⟩)
   refine⟨⟨(h2,q),?_⟩,by simp[hd],by simp only;omega⟩
   have:=U.next (h':=h2) (by omega) (by omega) (by rw[show a+d=q by omega];exact b1.merge b2 (by omega) (by omega) hS) (fun k hk=>hS.out k (by omega))
   rwa [show a+d=q by omega] at this
  ·refine WL.seq (WL.sreg (by simp[hqN];rfl) (by simp;rfl) ?_)
   refine WL.cond (t:=false) (by simp[hqN]) (by simp) fun _=>WL.exit ?_
   refine WL.seq (WL.sreg (by simp[w3];rfl) (by simp;rfl) ?_)
   by_cases hpN:p < N
   ·have b1:Blk key f h1 a p:=by
     have:=hA0.1 (2 * t) (by omega)
     rw[hta,Nat.min_eq_left (by omega),← hp] at this
     exact this.congr fun k g1 _=>hrest k g1
    have b2:Blk key f h1 p N:=by
     have:=hA0.1 (2 * t+1) (by omega)
     rw[hta2,Nat.min_eq_right (by omega),← hp] at this
     exact this.congr fun k g1 _=>hrest k (by omega)
    have T:=b1.two b2 (fun i j _ g2 g3=>hasc i j g2 (by omega))
    obtain⟨h2,hS⟩:=T.ex (by omega)
    have hc:=sym_fn hcl N hNs (N - a+1) h1 a p N (by omega) (by omega) hpN (Nat.le_refl _) hIn1 T h2 hS
    have hAll:AllB key f h2 N d:=U.all (by omega) (by omega) (fun _=>b1.merge b2 (by omega) (by omega) hS) (fun k hk=>hS.out k hk) hA0.2
    refine WL.sreg (by simp[hpN];rfl) (by simp;rfl) ?_
    refine WL.cond (t:=true) (by simp[hpN]) (fun _=>?_) (by simp)
    refine WL.reg (RL.o (by simp;rfl) (RL.callK false [(1000000,[])] hc (by simp) (by simp) (by simp[gkey]) (by simp) (by simp) (RL.nil ⟨_,by simp;rfl,?_⟩)))
    refine WL.reg (RL.run (by simp[w2'];rfl) ⟨_,by simp;rfl,?_⟩)
    exact⟨⟨(h2,d),hAll,by simp only;omega,by simp only;omega⟩,by simp,by simp only;omega⟩
   ·have hAll:AllB key f h1 N d:=U.all (by omega) (by omega) (fun haN'=>by
     have:=hA0.1 (2 * t) (by omega)
     rw[hta,Nat.min_eq_right (by omega)] at this
     exact this.congr fun k g1 _=>hrest k g1) (fun k _=>rfl) hA0.2
    refine WL.sreg (by simp[hpN];rfl) (by simp;rfl) ?_
    refine WL.cond (t:=false) (by simp[hpN]) (by simp) fun _=>WL.skip ?_
    refine WL.reg (RL.run (by simp[w2'];rfl) ⟨_,by simp;rfl,?_⟩)
    exact⟨⟨(h1,d),hAll,by simp only;omega,by simp only;omega⟩,by simp,by simp only;omega⟩
 ·refine WL.seq (WL.sreg (by simp[hlt];rfl) (by simp;rfl) ?_)
  refine WL.cond (t:=false) (by simp[hlt]) (by simp) fun _=>WL.exit ?_
  have hS:SM key f 0 N h0:=by
   rcases Nat.eq_zero_or_pos N with e | e
   ·subst e
    exact⟨fun k hk=>hA0.2 k (by omega),by simp[seg],fun i j _ _ hj=>by omega⟩
   ·have:=hA0.1 0 (by simpa using e)
    rw[Nat.mul_zero,Nat.min_eq_right (by omega)] at this
    exact this.toSM hA0.2
  obtain rfl:=SM_unique hS hf'
  refine⟨.inl rfl,?_⟩
  simp[fi138]
set_option maxHeartbeats 16000000 in
theorem stable_fn {key:Int→Int}{In:Int→Prop}{g:Nat}{cs:List AU}(hcl:ClOk key In g cs)(f:Nat→Int)(N:Nat)(hN:N≤100000000)(hIn:∀ k,k < N→In (f k))(hasc:∀ i j,i < j→j < N→f i < f j)
  (f':Nat→Int) (hf':SM key f 0 N f'):FnC Try.prog 138 [.nod (rF f N)] [.view 1000000 0 [] 0 N,i64 N,.clos g [.vptr () cs]] [.nod (rF f' N)] (.tuple []):=by
 have hNs:Small N:=by unfold Small;omega
 refine FnC.go ok138 rfl ?_
 refine WL.sreg (by simp;rfl) (by simp;rfl) ?_
 refine WL.sreg (by simp;rfl) (by simp;rfl) ?_
 refine WL.seq (WL.block (WL.loop (ι:={x:(Nat→Int) × Nat // UpB key f f x.1 N 20 x.2}) (fun x=>stS1 x.1.1 N x.1.2 (x.1.2+20) (.clos g [.vptr () cs])) (fun x=>N - x.1.2)
  ⟨(f,0),⟨0,by simp⟩,Nat.zero_le _,fun t ht=>absurd ht (Nat.not_lt_zero _),fun k _=>rfl⟩ (by simp) fun x=>?_))
 obtain⟨⟨h,a⟩,U⟩:=x
 simp only at U ⊢
 obtain⟨⟨t,ht⟩,haN,hbl,hrest⟩:=id U
 have hIn1:∀ k,k < N→In (h k):=fun k hk=>by
  by_cases hka:k < a
  ·have hk1:20 * (k / 20)≤k:=Nat.mul_div_le k 20
   have hk2:k < 20 * (k / 20)+20:=by omega
   have hk3:20 * (k / 20)+20≤a:=by omega
   obtain⟨u,u1,u2,e⟩:=(hbl (k / 20) (by omega)).mem hk1 hk2
   rw[e];exact hIn u (by omega)
  ·rw[hrest k (by omega)];exact hIn k hk
 obtain⟨q,hq⟩:∃ q,q=a+20:=⟨_,rfl⟩
 rw[← hq]
 by_cases hqN:q≤N
 ·obtain⟨h2,hS⟩:=SM_exists key h (by omega:a≤q) (asc_ne hasc hqN hrest)
  have hc:=ins_fn hcl h N a q hNs (by omega) hqN hIn1 (fun i j g1 g2 g3=>by rw[hrest i g1,hrest j (by omega)];exact hasc i j g2 (by omega)) h2 hS
  refine WL.seq (WL.sreg (by simp[hqN];rfl) (by simp;rfl) ?_)
  refine WL.cond (t:=true) (by simp[hqN]) (fun _=>WL.skip ?_) (by simp)
  refine WL.block (WL.sregC (RL.o (by simp;rfl) (RL.callK false [(1000000,[])] hc (by simp) (by simp) (by simp[gkey]) (by simp) (by simp) (RL.nil ⟨_,by simp;rfl,?_⟩))))
  have w4:IntKind.wrap .i64 ((q:Int)+20)=((q+20:Nat):Int):=by rw[wrap_small (by omega) (by omega)];omega
  refine WL.sreg (by simp;rfl) (by simp;rfl) ?_
  refine WL.reg (RL.run (by simp[w4];rfl) ⟨_,by simp;rfl,?_⟩)
  refine⟨⟨(h2,q),?_⟩,by simp,by simp only;omega⟩
  have:=U.next (h':=h2) (by decide) (by omega) (by rw[← hq];exact Blk.ofSM (fun k g1 _=>hrest k g1) hS) (fun k hk=>hS.out k (by omega))
  rwa [← hq] at this
 ·refine WL.seq (WL.sreg (by simp[hqN];rfl) (by simp;rfl) ?_)
  refine WL.cond (t:=false) (by simp[hqN]) (by simp) fun _=>WL.exit ?_
  obtain⟨h2,hS⟩:=SM_exists key h haN (asc_ne hasc (Nat.le_refl N) hrest)
  have hc:=ins_fn hcl h N a N hNs haN (Nat.le_refl _) hIn1 (fun i j g1 g2 g3=>by rw[hrest i g1,hrest j (by omega)];exact hasc i j g2 g3) h2 hS
  have hAll:AllB key f h2 N 20:=U.all (by decide) (by omega) (fun _=>Blk.ofSM (fun k g1 _=>hrest k g1) hS) (fun k hk=>hS.out k hk) (fun k _=>rfl)
  refine WL.sregC (RL.o (by simp;rfl) (RL.callK false [(1000000,[])] hc (by simp) (by simp) (by simp[gkey]) (by simp) (by simp) (RL.nil ⟨_,by simp;rfl,?_⟩)))
  exact stable_grow hcl f N hN hIn hasc f' hf' h2 hAll
end Go.OT
namespace Go.OT
open Go.Proofs
def heldF (s:St)(c h:Int):Int:=if c < 0∨(s.Handles.length:Int)≤c∨h < 0∨((s.Handles.getD c.toNat []).length:Int)≤h then -1 else (s.Handles.getD c.toNat []).getD h.toNat 0
set_option maxHeartbeats 1000000 in
theorem held_fn (s:St)(c h:Int):FnC Try.prog 124 [] [encT false s,i64 c,i64 h] [] (i64 (heldF s c h)):=by
 refine FnC.go ok124 rfl ?_
 refine WL.sreg (by simp;rfl) (by simp;rfl) ?_
 refine WL.seq ?_
 by_cases h1:c < 0
 ·refine WL.sreg (by simp[h1];rfl) (by simp;rfl) ?_
  refine WL.cond (t:=true) (by simp) (fun _=>WL.sreg (by simp;rfl) (by simp;rfl) (WL.ret ⟨.inr rfl,?_⟩)) (by simp)
  simp[fi124,heldF,h1]
 obtain⟨c,rfl⟩:=Int.eq_ofNat_of_zero_le (a:=c) (by omega)
 by_cases h2:(s.Handles.length:Int)≤c
 ·have h2':s.Handles.length≤c:=by omega
  refine WL.sreg (by simp[h1,h2'];rfl) (by simp;rfl) ?_
  refine WL.cond (t:=true) (by simp) (fun _=>WL.sreg (by simp;rfl) (by simp;rfl) (WL.ret ⟨.inr rfl,?_⟩)) (by simp)
  simp[fi124,heldF,h2']
 have hc:c < s.Handles.length:=by omega
 have hc':¬ s.Handles.length≤c:=by omega
 by_cases h3:h < 0
 ·refine WL.sreg (by simp[h1,hc',hc,h3];rfl) (by simp;rfl) ?_
  refine WL.cond (t:=true) (by simp) (fun _=>WL.sreg (by simp;rfl) (by simp;rfl) (WL.ret ⟨.inr rfl,?_⟩)) (by simp)
  simp[fi124,heldF,h3]
 obtain⟨k,rfl⟩:=Int.eq_ofNat_of_zero_le (a:=h) (by omega)
 by_cases h4:s.Handles[c].length≤k
 ·refine WL.sreg (by simp[h1,h3,hc',hc,h4];rfl) (by simp;rfl) ?_
  refine WL.cond (t:=true) (by simp) (fun _=>WL.sreg (by simp;rfl) (by simp;rfl) (WL.ret ⟨.inr rfl,?_⟩)) (by simp)
  simp[fi124,heldF,hc,h4]
 ·have hk:k < s.Handles[c].length:=by omega
  refine WL.sreg (by simp[h1,h3,hc',hc,h4];rfl) (by simp;rfl) ?_
  refine WL.cond (t:=false) (by simp) (by simp) (fun _=>WL.skip ?_)
  refine WL.sreg (by simp[hc,hk];rfl) (by simp;rfl) (WL.ret ⟨.inr rfl,?_⟩)
  simp[fi124,heldF,hc,hc',h4,hk,h1,h3]
end Go.OT
namespace Go.OT
open Go.Proofs
theorem strOf_size (l:List UInt8):(strOf l).size=l.length:=by simp[strOf,ByteArray.size]
end Go.OT
namespace Go.OT
open Go.Proofs
def isS (s:St)(i:Nat):SL:=[(200,0,.bptr 2 1 0),(201,0,sB false s.There),(202,0,sS false s.Body),(203,0,sII false s.Handles),(299,1,.non),(300,0,.bptr 3 1 0),(301,0,sB false s.There),(302,0,sUU false s.Body),(303,0,sII false s.Handles),(399,1,.non)]
set_option maxHeartbeats 2000000 in
theorem is_fn (s:St)(hs:Sized s)(hb:s.Body.length=s.There.length):FnC Try.prog 36 [] [encT false s,encS false s] [] (bl true):=by
 have hS1:Small s.There.length:=by have:=hs.t;unfold Small;omega
 have hS2:Small s.Handles.length:=by have:=hs.h;unfold Small;omega
 refine FnC.go ok36 rfl ?_
 refine WL.sreg (by simp;rfl) (by simp;rfl) ?_
 refine WL.seq (WL.sreg (by simp;rfl) (by simp;rfl) ?_)
 refine WL.cond (t:=false) (by simp) (by simp) fun _=>WL.skip ?_
 refine WL.seq (WL.sreg (by simp;rfl) (by simp;rfl) ?_)
 refine WL.block (WL.count s.There.length (fun i=>isS s i ++ [(500,0,i64 i)]) (fun _=>True) rfl trivial fun i hi _=>?_)
 by_cases h:i < s.There.length
 ·have h':i < s.Body.length:=by omega
  refine WL.seq (WL.sreg (by simp[isS,h];rfl) (by simp;rfl) ?_)
  refine WL.cond (t:=true) (by simp) (fun _=>WL.skip ?_) (by simp)
  refine WL.seq (WL.block (WL.seq (WL.draw mixed (by simp[cleanL,noH]) (DL.o (by simp[h];exact⟨rfl,rfl⟩) (DL.g (by simp[h'];exact⟨rfl,rfl⟩) (DL.o (by simp;exact⟨rfl,rfl⟩) (DL.nil ⟨by kernel_rfl,_,by simp;rfl,?_⟩)))))))
  refine WL.cond (t:=false) (by simp) (by simp) fun _=>WL.skip ?_
  refine WL.reg (RL.run (by simp[wrap_succ hS1 h];rfl) ⟨_,by simp;rfl,h,?_,trivial⟩)
  simp[isS]
 ·refine WL.seq (WL.sreg (by simp[isS,h];rfl) (by simp;rfl) ?_)
  refine WL.cond (t:=false) (by simp) (by simp) fun _=>WL.exit ?_
  obtain rfl:i=s.There.length:=by omega
  refine WL.seq (WL.sreg (by simp;rfl) (by simp;rfl) ?_)
  refine WL.block (WL.count s.Handles.length (fun i=>isS s i ++ [(600,0,i64 i)]) (fun _=>True) rfl trivial fun i hi _=>?_)
  by_cases h:i < s.Handles.length
  ·have hl:s.Handles[i].length≤1000:=hs.hs _ (List.getElem_mem h)
   have he:=ints_equal s.Handles[i] s.Handles[i] (by unfold Small;omega)
   rw[show (s.Handles[i] == s.Handles[i])=true by simp] at he
   refine WL.seq (WL.sreg (by simp[isS,h];rfl) (by simp;rfl) ?_)
   refine WL.cond (t:=true) (by simp) (fun _=>WL.skip ?_) (by simp)
   refine WL.seq (WL.block (WL.seq (WL.draw mixed (by simp[cleanL,noH]) (DL.o (by simp[h];exact⟨rfl,rfl⟩) (DL.call0 false he (by simp) (by simp) (DL.o (by simp;exact⟨rfl,rfl⟩) (DL.nil ⟨by kernel_rfl,_,by simp;rfl,?_⟩)))))))
   refine WL.cond (t:=false) (by simp) (by simp) fun _=>WL.skip ?_
   refine WL.reg (RL.run (by simp[wrap_succ hS2 h];rfl) ⟨_,by simp;rfl,h,?_,trivial⟩)
   simp[isS]
  ·refine WL.seq (WL.sreg (by simp[isS,h];rfl) (by simp;rfl) ?_)
   refine WL.cond (t:=false) (by simp) (by simp) fun _=>WL.exit ?_
   refine WL.sreg (by simp;rfl) (by simp;rfl) (WL.ret ⟨.inr rfl,?_⟩)
   simp[fi36]
end Go.OT
namespace Go.OT
open Go.Proofs
theorem fm_drop {l:List Cl}{i:Nat}(h:i < l.length):(l.flatMap (cellsCl false)).drop (i * 7)=cellsCl false l[i] ++ (l.drop (i+1)).flatMap (cellsCl false):=by
 induction l generalizing i with
 | nil=>simp at h
 | cons a l ih =>
  cases i with
  | zero=>simp [List.flatMap_cons]
  | succ i =>
   rw[List.flatMap_cons,List.drop_append,List.drop_of_length_le (by simp;omega)]
   have:(i+1) * 7 - (cellsCl false a).length=i * 7:=by simp;omega
   rw[this,ih (by simpa using h)]
   simp
def es (l:List Cl):Nat→St
 | 0=>newSt 5 3
 | i+1=>match l[i]? with
  | some c=>(DoB (es l i) (nearC c 5 3).Client (nearC c 5 3).op).2.1
  | none=>es l i
end Go.OT
namespace Go.OT
open Go.Proofs
abbrev sCl (l:List Cl):AU:=.sl false () 7 l.length (l.flatMap (cellsCl false))
end Go.OT
namespace Go.OT
open Go.Proofs
def freeI (l:List Int):Int:=ixF (fun p=>decide (p < 0)) l 0
set_option maxHeartbeats 2000000 in
theorem give_fn (s:St)(T B:AU)(hT:T=sB false s.There)(hB:B=sS false s.Body)(c:Nat)(hc:c < s.Handles.length)(hs:Small s.Handles[c].length)(page:Int)(k:Nat)(hk:k < s.Handles[c].length)(hfree:freeI s.Handles[c]=(k:Int)) :
  FnC Try.prog 126 [.nod (sII true s.Handles)] [.agg [T,B,.view 1000000 0 [] 0 s.Handles.length],i64 c,i64 page] [.nod (sII true (s.Handles.set c (s.Handles[c].set k page)))] (i64 k):=by
 subst hT hB
 have hc1:c+1≤s.Handles.length:=hc
 refine FnC.go ok126 rfl ?_
 refine WL.sregC (RL.boxW (by simp;rfl) (by simp) (by simp[isVw]) (by simp) (RL.o (by simp;rfl) (RL.nil ⟨_,by simp;rfl,?_⟩)))
 refine WL.seq (WL.sreg (by simp;rfl) (by simp;rfl) ?_)
 refine WL.block (WL.count s.Handles[c].length (fun i=>[(100,0,i64 c),(200,0,i64 page),(300,0,.bptr 3 1 0),(301,0,sB false s.There),(302,0,sS false s.Body),(303,0,.view 1000000 0 [] 0 s.Handles.length),(399,1,.non),(700,0,i64 i),(1000000,0,sII true s.Handles)]) (fun i=>ixF (fun p=>decide (p < 0)) (s.Handles[c].drop i) i=(k:Int)) rfl (by simpa [freeI] using hfree) fun i hi hp=>?_)
 by_cases h:i < s.Handles[c].length
 ·have hi1:i+1≤s.Handles[c].length:=h
  rw[ixF_drop _ _ _ h] at hp
  refine WL.seq (WL.sreg (by simp[hc,h,hc1,hi1];rfl) (by simp;rfl) ?_)
  refine WL.cond (t:=true) (by simp) (fun _=>WL.skip ?_) (by simp)
  refine WL.seq (WL.block (WL.sreg (by simp[hc,h,hc1,hi1];rfl) (by simp;rfl) ?_))
  by_cases hf:s.Handles[c][i] < 0
  ·refine WL.cond (t:=true) (by simp[hf]) (fun _=>?_) (by simp)
   rw[if_pos (by simpa using hf)] at hp
   obtain rfl:i=k:=by omega
   refine WL.sreg (by simp[hc,h,hc1,hi1];rfl) (by simp;rfl) ?_
   refine WL.sreg (by simp;rfl) (by simp;rfl) ?_
   refine WL.ret ⟨.inr rfl,?_⟩
   simp[fi126,List.map_set,sI]
  ·refine WL.cond (t:=false) (by simp;omega) (by simp) fun _=>WL.skip ?_
   rw[if_neg (by simpa using hf)] at hp
   refine WL.reg (RL.run (by simp[wrap_succ hs h];rfl) ⟨_,by simp;rfl,h,?_,hp⟩)
   simp
 ·rw[ixF_end _ _ _ h] at hp
  omega
end Go.OT
namespace Go.OT
open Go.Proofs
abbrev gsT (s:St):List (Gh Unit):=[.nod (sB true s.There),.nod (sS true s.Body),.nod (sII true s.Handles)]
abbrev vwT (s:St):AU:=.agg [.view 1000000 0 [] 0 s.There.length,.view 1000100 0 [] 0 s.Body.length,.view 1000200 0 [] 0 s.Handles.length]
abbrev ghT (s:St):SL:=[(1000000,0,sB true s.There),(1000100,0,sS true s.Body),(1000200,0,sII true s.Handles)]
abbrev rb1 (cl:Int):SL:=[(100,0,i64 cl)]
abbrev rb3 (s:St):SL:=[(300,0,.bptr 3 1 0),(301,0,.view 1000000 0 [] 0 s.There.length),(302,0,.view 1000100 0 [] 0 s.Body.length),(303,0,.view 1000200 0 [] 0 s.Handles.length),(399,1,.non)]
abbrev rb5 (q:Op):SL:=[(500,0,.bptr 5 1 0),(501,0,i64 q.Kind),(502,0,i64 q.Page),(503,0,i64 q.Handle),(504,0,i64 q.Off),(505,0,i64 q.N),(506,0,sU false q.Data),(599,1,.non)]
abbrev rb6:SL:=[(600,0,.bptr 6 1 0),(601,0,i64 0),(602,0,i64 0),(603,0,i64 0),(604,0,.sl true () 1 0 []),(699,1,.non)]
abbrev rbQ (s':St)(r:Rs):Ex→SL→Prop:=fun e L=>e=Ex.ret∧RetOk fi77.rs (gsT s') (encR true r) L
theorem WL.up {P:Program}{nt:Nat}{cc:Cd}{L:SL}{R:SL→Prop}{Q:Ex→SL→Prop}(h:WL P nt cc L fun e L=>e=Ex.ret∧R L)(hq:∀ L,R L→Q .ret L):WL P nt cc L Q :=
 h.mono fun e L ⟨h1,h2⟩=>by subst h1;exact hq L h2
abbrev rbA (s:St)(cl:Int)(q:Op):SL:=rb1 cl ++ (rb3 s ++ (rb5 q ++ rb6))
set_option maxHeartbeats 4000000 in
theorem dr_start (s:St)(cl:Int)(q:Op)(s':St)(r:Rs)
  (h1:(cl < 0∨(s.Handles.length:Int)≤cl∨q.Kind < 1∨8 < q.Kind)→WL Try.prog fi77.nt c77_0 (rbA s cl q ++ ((2600,0,bl true) :: ghT s)) (rbQ s' r))
  (h2:¬ (cl < 0∨(s.Handles.length:Int)≤cl∨q.Kind < 1∨8 < q.Kind)→WL Try.prog fi77.nt c77_60 (rbA s cl q ++ ((2600,0,bl false) :: ghT s)) (rbQ s' r)) :
  FnC Try.prog 77 (gsT s) [vwT s,i64 cl,encO false q] (gsT s') (encR true r):=by
 refine FnC.go ok77 rfl ?_
 refine WL.sregC (RL.boxW (by simp;rfl) (by simp) (by simp[isVw]) (by simp) ?_)
 refine RL.o (by simp;rfl) (RL.nil ⟨_,by simp;rfl,?_⟩)
 refine WL.seq ?_
 by_cases k1:cl < 0
 ·refine WL.sreg (by simp[k1];rfl) (by simp;rfl) ?_
  exact WL.cond (t:=true) (by simp) (fun _=>(h1 (.inl k1)).up fun _ h=>⟨.inr rfl,h⟩) (by simp)
 by_cases k2:(s.Handles.length:Int)≤cl
 ·refine WL.sreg (by simp[k1,k2];rfl) (by simp;rfl) ?_
  exact WL.cond (t:=true) (by simp) (fun _=>(h1 (.inr (.inl k2))).up fun _ h=>⟨.inr rfl,h⟩) (by simp)
 by_cases k3:q.Kind < 1
 ·refine WL.sreg (by simp[k1,k2,k3];rfl) (by simp;rfl) ?_
  exact WL.cond (t:=true) (by simp) (fun _=>(h1 (.inr (.inr (.inl k3)))).up fun _ h=>⟨.inr rfl,h⟩) (by simp)
 by_cases k4:8 < q.Kind
 ·refine WL.sreg (by simp[k1,k2,k3,k4];rfl) (by simp;rfl) ?_
  exact WL.cond (t:=true) (by simp) (fun _=>(h1 (.inr (.inr (.inr k4)))).up fun _ h=>⟨.inr rfl,h⟩) (by simp)
 ·refine WL.sreg (by simp[k1,k2,k3,k4];rfl) (by simp;rfl) ?_
  exact WL.cond (t:=false) (by simp) (by simp) (fun _=>WL.skip ((h2 (by omega)).up fun _ h=>⟨.inr rfl,h⟩))
end Go.OT
namespace Go.OT
open Go.Proofs
abbrev rbP (s:St)(cl:Int)(q:Op)(p:Int)(t:SL):SL:=rb1 cl ++ (rb3 s ++ (rb5 q ++ (rb6 ++ ((700,0,i64 p) :: (t ++ ghT s)))))
set_option maxHeartbeats 4000000 in
theorem dr_none (s:St)(cl:Int)(q:Op):WL Try.prog fi77.nt c77_0 (rbA s cl q ++ ((2600,0,bl true) :: ghT s)) (rbQ s (rsE 1)):=by
 refine WL.sregC (RL.call0 false (fail_fn 1) (by simp) (by simp) (RL.o (by simp;rfl) (RL.nil ⟨_,by simp;rfl,?_⟩)))
 refine WL.ret ⟨rfl,?_⟩
 simp[fi77,rsE]
set_option maxHeartbeats 4000000 in
theorem dr_page (s:St)(cl:Int)(q:Op)(s':St)(r:Rs)(hk:q.Kind=2∨q.Kind=6∨q.Kind=8)(hsm:Small s.There.length)
  (e1:isPage s q.Page=false→s'=s∧r=rsE 1)
  (e2:isPage s q.Page=true→there s q.Page=false→s'=s∧r=rsE 2)
  (k:there s q.Page=true→WL Try.prog fi77.nt c77_58 (rbP s cl q q.Page [(5800,0,bl false)]) (rbQ s' r)) :
  WL Try.prog fi77.nt c77_60 (rbA s cl q ++ ((2600,0,bl false) :: ghT s)) (rbQ s' r):=by
 refine WL.sreg (by simp;rfl) (by simp;rfl) ?_
 refine WL.seq ?_
 suffices h:WL Try.prog fi77.nt c77_8 (rbP s cl q q.Page [(4200,0,bl true)]) (Ex.thenL (fun L'=>WL Try.prog fi77.nt c77_58 L' (rbQ s' r)) (rbQ s' r)) by
  clear e1 e2 k
  obtain⟨K,Pg,Hd,Of,Nn,Dt⟩:=q
  rcases hk with hk | hk | hk<;>(simp only at hk;subst hk;exact WL.sreg (by simp<;>rfl) (by simp<;>rfl) h)
 refine WL.cond (t:=true) (by simp) (fun _=>?_) (by simp)
 refine WL.seq ?_
 by_cases h1:q.Page < 0
 ·obtain⟨a,b⟩:=e1 (by simp[isPage];omega)
  subst a b
  refine WL.sreg (by simp[h1];rfl) (by simp;rfl) ?_
  refine WL.cond (t:=true) (by simp) (fun _=>?_) (by simp)
  refine WL.sregC (RL.call0 false (fail_fn 1) (by simp) (by simp) (RL.o (by simp;rfl) (RL.nil ⟨_,by simp;rfl,?_⟩)))
  refine WL.ret ⟨rfl,?_⟩
  simp[fi77,rsE]
 obtain⟨p,hp⟩:=Int.eq_ofNat_of_zero_le (a:=q.Page) (by omega)
 by_cases h2:s.There.length≤p
 ·obtain⟨a,b⟩:=e1 (by simp[isPage,hp];omega)
  subst a b
  refine WL.sreg (by simp[hp,h2];rfl) (by simp;rfl) ?_
  refine WL.cond (t:=true) (by simp[h2]) (fun _=>?_) (by simp)
  refine WL.sregC (RL.call0 false (fail_fn 1) (by simp) (by simp) (RL.o (by simp;rfl) (RL.nil ⟨_,by simp;rfl,?_⟩)))
  refine WL.ret ⟨rfl,?_⟩
  simp[fi77,rsE]
 have h2':p < s.There.length:=by omega
 refine WL.sreg (by simp[hp,h2,h2'];rfl) (by simp;rfl) ?_
 refine WL.cond (t:=false) (by simp[h2,h2']) (by simp) (fun _=>WL.skip ?_)
 refine WL.sreg (by simp[h2',Nat.succ_le_of_lt h2'];rfl) (by simp;rfl) ?_
 have hth:there s q.Page=s.There[p]:=by simp[there,isPage,hp,h2']
 cases h3:s.There[p] with
 | false =>
  obtain⟨a,b⟩:=e2 (by simp[isPage,hp];omega) (by rw[hth,h3])
  subst a b
  refine WL.cond (t:=true) (by simp[h3]) (fun _=>?_) (by simp)
  refine WL.sregC (RL.call0 false (fail_fn 2) (by simp) (by simp) (RL.o (by simp;rfl) (RL.nil ⟨_,by simp;rfl,?_⟩)))
  refine WL.ret ⟨rfl,?_⟩
  simp[fi77,rsE]
 | true =>
  refine WL.cond (t:=false) (by simp[h3]) (by simp) (fun _=>WL.skip ?_)
  have:=k (by rw[hth,h3])
  simp only[rbP,rb5,hp] at this
  exact this
set_option maxHeartbeats 4000000 in
theorem dr_held (s:St)(cl:Int)(q:Op)(s':St)(r:Rs)(hk:q.Kind=3∨q.Kind=4∨q.Kind=5)
  (e5:heldF s cl q.Handle < 0→s'=s∧r=rsE 5)
  (k:0≤heldF s cl q.Handle→WL Try.prog fi77.nt c77_57 (rbP s cl q (heldF s cl q.Handle) [(7900,0,bl false)]) (rbQ s' r)) :
  WL Try.prog fi77.nt c77_60 (rbA s cl q ++ ((2600,0,bl false) :: ghT s)) (rbQ s' r):=by
 refine WL.sreg (by simp;rfl) (by simp;rfl) ?_
 refine WL.seq ?_
 suffices h:WL Try.prog fi77.nt c77_13 (rbP s cl q q.Page [(7200,0,bl true)]) (Ex.thenL (fun L'=>WL Try.prog fi77.nt c77_57 L' (rbQ s' r)) (rbQ s' r)) by
  clear e5 k
  obtain⟨K,Pg,Hd,Of,Nn,Dt⟩:=q
  rcases hk with hk | hk | hk<;>(simp only at hk;subst hk;exact WL.sreg (by simp<;>rfl) (by simp<;>rfl) (WL.cond (t:=false) (by simp) (by simp) fun _=>WL.skip (WL.seq (WL.sreg (by simp<;>rfl) (by simp<;>rfl) h))))
 refine WL.cond (t:=true) (by simp) (fun _=>?_) (by simp)
 refine WL.sregC (RL.o (by simp;rfl) (RL.call0 true (held_fn s cl q.Handle) (by simp) (by simp) (RL.o (by simp;rfl) (RL.nil ⟨_,by simp;rfl,?_⟩))))
 refine WL.sreg (by simp;rfl) (by simp;rfl) ?_
 by_cases h1:heldF s cl q.Handle < 0
 ·obtain⟨a,b⟩:=e5 h1
  subst a b
  refine WL.cond (t:=true) (by simp[h1]) (fun _=>?_) (by simp)
  refine WL.sregC (RL.call0 false (fail_fn 5) (by simp) (by simp) (RL.o (by simp;rfl) (RL.nil ⟨_,by simp;rfl,?_⟩)))
  refine WL.ret ⟨rfl,?_⟩
  simp[fi77,rsE]
 ·refine WL.cond (t:=false) (by simp;omega) (by simp) (fun _=>WL.skip ?_)
  have d:decide (heldF s cl q.Handle < 0)=false:=by simpa using Int.not_lt.1 h1
  rw[d]
  exact k (by omega)
end Go.OT
namespace Go.OT
open Go.Proofs
theorem immI:∀ l:List Int,noImmL (l.map i64)=true
 | []=>rfl
 | _ :: l=>immI l
theorem immB:∀ l:List Bool,noImmL (l.map bl)=true
 | []=>rfl
 | _ :: l=>immB l
theorem immS:∀ l:List (List UInt8),noImmL (l.map str)=true
 | []=>rfl
 | _ :: l=>immS l
theorem immII:∀ l:List (List Int),noImmL (l.map (sI true))=true
 | []=>rfl
 | a :: l=>by
  show (noImm (sI true a:AU) && noImmL (l.map (sI true)))=true
  rw[immII l,Bool.and_true]
  simp only[noImm,immI,Bool.and_self]
theorem side_give (H H':List (List Int))(hl:H'.length=H.length)(k:Int):sideOk true [.nod (sII true H)] [.nod (sII true H')] (i64 k)=true:=by
 have:noImm (sII true H':AU)=true:=by simp only[noImm,immII,Bool.and_self]
 simp only[sideOk,List.all_cons,List.all_nil,ghImm,this]
 simp[hl]
abbrev rsO:Rs:=⟨0,0,0,[]⟩
set_option maxHeartbeats 4000000 in
theorem dr_flush (s:St)(cl:Int)(P Hd Of Nn:Int)(D:List UInt8):WL Try.prog fi77.nt c77_58 (rbP s cl ⟨6,P,Hd,Of,Nn,D⟩ P [(5800,0,bl false)]) (rbQ s rsO):=by
 refine WL.seq (WL.sreg (by simp<;>rfl) (by simp<;>rfl) ?_)
 refine WL.cond (t:=false) (by simp) (by simp) (fun _=>WL.skip ?_)
 refine WL.seq (WL.sreg (by simp<;>rfl) (by simp<;>rfl) ?_)
 refine WL.block (WL.sreg (by simp<;>rfl) (by simp<;>rfl) ?_)
 refine WL.cond (t:=false) (by simp) (by simp) (fun _=>WL.sreg (by simp<;>rfl) (by simp<;>rfl) ?_)
 refine WL.cond (t:=false) (by simp) (by simp) (fun _=>WL.sreg (by simp<;>rfl) (by simp<;>rfl) ?_)
 refine WL.cond (t:=false) (by simp) (by simp) (fun _=>WL.sreg (by simp<;>rfl) (by simp<;>rfl) ?_)
 refine WL.cond (t:=false) (by simp) (by simp) (fun _=>WL.sreg (by simp<;>rfl) (by simp<;>rfl) ?_)
 refine WL.cond (t:=false) (by simp) (by simp) (fun _=>WL.sreg (by simp<;>rfl) (by simp<;>rfl) ?_)
 refine WL.cond (t:=false) (by simp) (by simp) (fun _=>WL.skip ?_)
 refine WL.sreg (by simp<;>rfl) (by simp<;>rfl) (WL.nil1 604 true 1 (by simp) (WL.ret ⟨rfl,?_⟩))
 simp[fi77]
set_option maxHeartbeats 4000000 in
theorem dr_fetch (s:St)(c:Nat)(hc:c < s.Handles.length)(hs:Small s.Handles[c].length)(P Hd Of Nn:Int)(D:List UInt8)(s':St)(r:Rs)
  (e4:freeH s.Handles[c]=false→s'=s∧r=rsE 4) (k:Nat) (ek:freeH s.Handles[c]=true→k < s.Handles[c].length∧freeI s.Handles[c]=(k:Int)∧s'=⟨s.There,s.Body,s.Handles.set c (s.Handles[c].set k P)⟩∧r=⟨0,P,k,[]⟩) :
  WL Try.prog fi77.nt c77_58 (rbP s c ⟨2,P,Hd,Of,Nn,D⟩ P [(5800,0,bl false)]) (rbQ s' r):=by
 refine WL.seq (WL.sreg (by simp<;>rfl) (by simp<;>rfl) ?_)
 refine WL.cond (t:=false) (by simp) (by simp) (fun _=>WL.skip ?_)
 refine WL.seq (WL.sreg (by simp<;>rfl) (by simp<;>rfl) ?_)
 refine WL.block (WL.sreg (by simp<;>rfl) (by simp<;>rfl) ?_)
 refine WL.cond (t:=false) (by simp) (by simp) (fun _=>WL.sreg (by simp<;>rfl) (by simp<;>rfl) ?_)
 refine WL.cond (t:=true) (by simp) (fun _=>?_) (by simp)
 refine WL.seq (WL.sregC (RL.o (by simp;rfl) (RL.call0 true (room_fn s c hc hs) (by simp) (by simp) (RL.o (by simp;rfl) (RL.nil ⟨_,by simp;rfl,?_⟩)))))
 cases h:freeH s.Handles[c] with
 | false =>
  obtain⟨a,b⟩:=e4 h
  subst a b
  refine WL.cond (t:=true) (by simp) (fun _=>?_) (by simp)
  refine WL.sregC (RL.call0 false (fail_fn 4) (by simp) (by simp) (RL.o (by simp;rfl) (RL.nil ⟨_,by simp;rfl,?_⟩)))
  refine WL.ret ⟨rfl,?_⟩
  simp[fi77,rsE]
 | true =>
  obtain⟨hk,hf,a,b⟩:=ek h
  subst a b
  refine WL.cond (t:=false) (by simp) (by simp) (fun _=>WL.skip ?_)
  refine WL.sregC (RL.o (by simp;rfl) (RL.call true [(1000200,[])] (give_fn s _ _ rfl rfl c hc hs P k hk hf) (by simp) (by simp) (by simp[gkey]) (side_give _ _ (by simp) _) (RL.o (by simp;rfl) (RL.nil ⟨_,by simp;rfl,?_⟩))))
  refine WL.nil1 604 true 1 (by simp) (WL.ret ⟨rfl,?_⟩)
  simp[fi77]
end Go.OT
namespace Go.OT
open Go.Proofs
theorem strOf_ext (w:List UInt8)(lo hi:Nat):(strOf w).extract lo hi=strOf ((w.drop lo).take (hi - lo)):=by
 apply ByteArray.ext
 rw[ByteArray.data_extract]
 simp[strOf]
theorem strOf_app (a b:List UInt8):strOf a ++ strOf b=strOf (a ++ b):=by
 apply ByteArray.ext
 simp[strOf]
theorem strC_of (w:List UInt8):(strC (strOf w):List AU)=w.map fun b=>u8 (b.toNat:Int):=by
 simp[strC,strOf_toList]
set_option maxHeartbeats 4000000 in
theorem dr_flushAll (s:St)(cl:Int)(P Hd Of Nn:Int)(D:List UInt8):WL Try.prog fi77.nt c77_60 (rbA s cl ⟨7,P,Hd,Of,Nn,D⟩ ++ ((2600,0,bl false) :: ghT s)) (rbQ s rsO):=by
 refine WL.sreg (by simp<;>rfl) (by simp<;>rfl) ?_
 refine WL.seq (WL.sreg (by simp<;>rfl) (by simp<;>rfl) ?_)
 refine WL.cond (t:=false) (by simp) (by simp) (fun _=>WL.skip ?_)
 refine WL.seq (WL.sreg (by simp<;>rfl) (by simp<;>rfl) ?_)
 refine WL.cond (t:=false) (by simp) (by simp) (fun _=>WL.skip ?_)
 refine WL.seq (WL.sreg (by simp<;>rfl) (by simp<;>rfl) ?_)
 refine WL.block (WL.sreg (by simp<;>rfl) (by simp<;>rfl) ?_)
 refine WL.cond (t:=false) (by simp) (by simp) (fun _=>WL.sreg (by simp<;>rfl) (by simp<;>rfl) ?_)
 refine WL.cond (t:=false) (by simp) (by simp) (fun _=>WL.sreg (by simp<;>rfl) (by simp<;>rfl) ?_)
 refine WL.cond (t:=false) (by simp) (by simp) (fun _=>WL.sreg (by simp<;>rfl) (by simp<;>rfl) ?_)
 refine WL.cond (t:=false) (by simp) (by simp) (fun _=>WL.sreg (by simp<;>rfl) (by simp<;>rfl) ?_)
 refine WL.cond (t:=false) (by simp) (by simp) (fun _=>WL.sreg (by simp<;>rfl) (by simp<;>rfl) ?_)
 refine WL.cond (t:=false) (by simp) (by simp) (fun _=>WL.skip ?_)
 refine WL.sreg (by simp<;>rfl) (by simp<;>rfl) (WL.nil1 604 true 1 (by simp) (WL.ret ⟨rfl,?_⟩))
 simp[fi77]
set_option maxHeartbeats 4000000 in
theorem dr_unpin (s:St)(c:Nat)(hc:c < s.Handles.length)(k:Nat)(hk:k < s.Handles[c].length)(P p Of Nn:Int)(D:List UInt8) :
  WL Try.prog fi77.nt c77_57 (rbP s c ⟨5,P,k,Of,Nn,D⟩ p [(7900,0,bl false)]) (rbQ ⟨s.There,s.Body,s.Handles.set c (s.Handles[c].set k (-1))⟩ rsO):=by
 refine WL.seq (WL.sreg (by simp<;>rfl) (by simp<;>rfl) ?_)
 refine WL.block (WL.sreg (by simp<;>rfl) (by simp<;>rfl) ?_)
 refine WL.cond (t:=false) (by simp) (by simp) (fun _=>WL.sreg (by simp<;>rfl) (by simp<;>rfl) ?_)
 refine WL.cond (t:=false) (by simp) (by simp) (fun _=>WL.sreg (by simp<;>rfl) (by simp<;>rfl) ?_)
 refine WL.cond (t:=false) (by simp) (by simp) (fun _=>WL.sreg (by simp<;>rfl) (by simp<;>rfl) ?_)
 refine WL.cond (t:=false) (by simp) (by simp) (fun _=>WL.sreg (by simp<;>rfl) (by simp<;>rfl) ?_)
 refine WL.cond (t:=true) (by simp) (fun _=>?_) (by simp)
 refine WL.draw mixed (by simp[cleanL,noH]) (DL.o (by simp[hc,hk,Nat.succ_le_of_lt hk,Nat.succ_le_of_lt hc];exact⟨rfl,rfl⟩) (DL.nil ⟨by kernel_rfl,_,by simp;rfl,?_⟩))
 refine WL.sreg (by simp<;>rfl) (by simp<;>rfl) (WL.nil1 604 true 1 (by simp) (WL.ret ⟨rfl,?_⟩))
 simp[fi77,List.map_set,sI]
end Go.OT
namespace Go.OT
open Go.Proofs
def pcnt (p:Int)(l:List Int):Nat:=if 0≤p then cnt p l else 0
def ppins (p:Int)(l:List (List Int)):Nat:=if 0≤p then pinsL p l else 0
set_option maxHeartbeats 4000000 in
theorem refpins_fn (s:St)(hs:Sized s)(p:Int):FnC Try.prog 127 [] [encT false s,i64 p] [] (i64 (Pins s p)):=by
 have hP:Pins s p=(ppins p s.Handles:Nat):=by
  unfold Pins ppins
  by_cases h:p < 0
  ·rw[if_pos h,if_neg (by omega)];rfl
  ·rw[if_neg h,if_pos (by omega)]
 refine FnC.go ok127 rfl ?_
 refine WL.sreg (by simp;rfl) (by simp;rfl) ?_
 refine WL.sreg (by simp;rfl) (by simp;rfl) ?_
 refine WL.seq (WL.sreg (by simp;rfl) (by simp;rfl) ?_)
 refine WL.block (WL.count s.Handles.length (fun i=>[(100,0,i64 p),(200,0,.bptr 2 1 0),(201,0,sB false s.There),(202,0,sS false s.Body),(203,0,sII false s.Handles),(299,1,.non),(500,0,i64 (ppins p (s.Handles.take i))),(600,0,i64 i)]) (fun _=>True) (by simp[ppins,pinsL]) trivial fun i hi _=>?_)
 have hS:Small s.Handles.length:=by have:=hs.h;unfold Small;omega
 by_cases h:i < s.Handles.length
 ·have hi1:i+1≤s.Handles.length:=h
  have hl:s.Handles[i].length≤1000:=hs.hs _ (List.getElem_mem h)
  have hSl:Small s.Handles[i].length:=by unfold Small;omega
  have hle:ppins p (s.Handles.take i)≤1000 * 1000:=by
   have h1:=pinsL_le p (s.Handles.take i) (fun l hl=>hs.hs l (List.mem_of_mem_take hl))
   have h2:=hs.h
   simp only[List.length_take] at h1
   unfold ppins
   split<;>omega
  have hadd:∀ k,pcnt p (s.Handles[i].take k)≤1000:=fun k=>by
   have:=cnt_le p (s.Handles[i].take k)
   simp only[List.length_take] at this
   unfold pcnt
   split<;>omega
  refine WL.seq (WL.sreg (by simp[h];rfl) (by simp;rfl) ?_)
  refine WL.cond (t:=true) (by simp) (fun _=>WL.skip ?_) (by simp)
  refine WL.seq (WL.block (WL.sreg (by simp;rfl) (by simp;rfl) ?_))
  refine WL.block (WL.count s.Handles[i].length (fun k=>[(100,0,i64 p),(200,0,.bptr 2 1 0),(201,0,sB false s.There),(202,0,sS false s.Body),(203,0,sII false s.Handles),(299,1,.non),(500,0,i64 (ppins p (s.Handles.take i)+pcnt p (s.Handles[i].take k):Nat)),(600,0,i64 i),(700,0,i64 k)]) (fun _=>True) (by simp[pcnt,cnt]) trivial fun k hk _=>?_)
  by_cases h':k < s.Handles[i].length
  ·have hk1:k+1≤s.Handles[i].length:=h'
   have hS2:Small 1000000000:=by unfold Small;omega
   refine WL.seq (WL.sreg (by simp[h,hi1,h'];rfl) (by simp;rfl) ?_)
   refine WL.cond (t:=true) (by simp) (fun _=>WL.skip ?_) (by simp)
   have hcs:=cnt_snoc p s.Handles[i] h'
   have hc:=hadd k
   by_cases e:s.Handles[i][k]=p
   ·by_cases e0:0≤p
    ·rw[if_pos e] at hcs
     have hcs':pcnt p (s.Handles[i].take (k+1))=pcnt p (s.Handles[i].take k)+1:=by simp only[pcnt,if_pos e0,hcs]
     have hw:IntKind.wrap .i64 ((ppins p (s.Handles.take i):Int)+(pcnt p (s.Handles[i].take k):Int)+1)=(ppins p (s.Handles.take i):Int)+(pcnt p (s.Handles[i].take k):Int)+1:=by
      simpa using wrap_succ hS2 (show ppins p (s.Handles.take i)+pcnt p (s.Handles[i].take k) < 1000000000 by omega)
     refine WL.seq (WL.block (WL.sreg (by simp[h,hi1,h',hk1,e,e0];rfl) (by simp;rfl) ?_))
     refine WL.cond (t:=true) (by simp[e0]) (fun _=>?_) (by simp)
     refine WL.reg (RL.run (by simp[hw];rfl) ⟨_,by simp;rfl,?_⟩)
     refine WL.reg (RL.run (by simp[wrap_succ hSl h'];rfl) ⟨_,by simp;rfl,h',?_,trivial⟩)
     simp[hcs']
     omega
    ·have hcs':∀ j,pcnt p (s.Handles[i].take j)=0:=fun j=>by simp only[pcnt,if_neg e0]
     refine WL.seq (WL.block (WL.sreg (by simp[h,hi1,h',hk1,e,e0];rfl) (by simp;rfl) ?_))
     refine WL.cond (t:=false) (by simp[e0]) (by simp) (fun _=>WL.skip ?_)
     refine WL.reg (RL.run (by simp[wrap_succ hSl h'];rfl) ⟨_,by simp;rfl,h',?_,trivial⟩)
     simp[hcs',e0]
   ·rw[if_neg e] at hcs
    have eb:(s.Handles[i][k] == p)=false:=by simp[e]
    have hcs':pcnt p (s.Handles[i].take (k+1))=pcnt p (s.Handles[i].take k):=by simp only[pcnt,hcs,Nat.add_zero]
    refine WL.seq (WL.block (WL.sreg (by simp[h,hi1,h',hk1,eb];rfl) (by simp;rfl) ?_))
    refine WL.cond (t:=false) (by simp) (by simp) (fun _=>WL.skip ?_)
    refine WL.reg (RL.run (by simp[wrap_succ hSl h'];rfl) ⟨_,by simp;rfl,h',?_,trivial⟩)
    simp[hcs']
  ·refine WL.seq (WL.sreg (by simp[h,hi1,h'];rfl) (by simp;rfl) ?_)
   refine WL.cond (t:=false) (by simp) (by simp) fun _=>WL.exit ?_
   refine WL.reg (RL.run (by simp[wrap_succ hS h];rfl) ⟨_,by simp;rfl,h,?_,trivial⟩)
   have hk':k=s.Handles[i].length:=by omega
   subst hk'
   have:ppins p (s.Handles.take (i+1))=ppins p (s.Handles.take i)+pcnt p s.Handles[i]:=by
    unfold ppins pcnt
    split
    ·rw[pinsL_snoc p s.Handles h]
    ·rfl
   simp[this]
 ·refine WL.seq (WL.sreg (by simp[h];rfl) (by simp;rfl) ?_)
  refine WL.cond (t:=false) (by simp) (by simp) fun _=>WL.exit ?_
  have hi':i=s.Handles.length:=by omega
  subst hi'
  refine WL.sreg (by simp;rfl) (by simp;rfl) (WL.ret ⟨.inr rfl,?_⟩)
  simp[fi127,hP]
end Go.OT
namespace Go.OT
open Go.Proofs
set_option maxHeartbeats 4000000 in
theorem dr_delete (s:St)(hs:Sized s)(cl:Int)(p:Nat)(hp:p < s.There.length)(hb:p < s.Body.length)(Hd Of Nn:Int)(D:List UInt8)(s':St)(r:Rs)
  (e7:0 < Pins s p→s'=s∧r=rsE 7) (ok:¬ 0 < Pins s p→s'=⟨s.There.set p false,s.Body.set p z16,s.Handles⟩∧r=rsO) :
  WL Try.prog fi77.nt c77_58 (rbP s cl ⟨8,p,Hd,Of,Nn,D⟩ p [(5800,0,bl false)]) (rbQ s' r):=by
 refine WL.seq (WL.sreg (by simp<;>rfl) (by simp<;>rfl) ?_)
 refine WL.cond (t:=false) (by simp) (by simp) (fun _=>WL.skip ?_)
 refine WL.seq (WL.sreg (by simp<;>rfl) (by simp<;>rfl) ?_)
 refine WL.block (WL.sreg (by simp<;>rfl) (by simp<;>rfl) ?_)
 refine WL.cond (t:=false) (by simp) (by simp) (fun _=>WL.sreg (by simp<;>rfl) (by simp<;>rfl) ?_)
 refine WL.cond (t:=false) (by simp) (by simp) (fun _=>WL.sreg (by simp<;>rfl) (by simp<;>rfl) ?_)
 refine WL.cond (t:=false) (by simp) (by simp) (fun _=>WL.sreg (by simp<;>rfl) (by simp<;>rfl) ?_)
 refine WL.cond (t:=false) (by simp) (by simp) (fun _=>WL.sreg (by simp<;>rfl) (by simp<;>rfl) ?_)
 refine WL.cond (t:=false) (by simp) (by simp) (fun _=>WL.sreg (by simp<;>rfl) (by simp<;>rfl) ?_)
 refine WL.cond (t:=true) (by simp) (fun _=>?_) (by simp)
 refine WL.seq (WL.sregC (RL.o (by simp;rfl) (RL.call0 true (refpins_fn s hs p) (by simp) (by simp) (RL.o (by simp;rfl) (RL.nil ⟨_,by simp;rfl,?_⟩)))))
 by_cases h:0 < Pins s p
 ·obtain⟨a,b⟩:=e7 h
  subst a b
  refine WL.cond (t:=true) (by simp[h]) (fun _=>?_) (by simp)
  refine WL.sregC (RL.call0 false (fail_fn 7) (by simp) (by simp) (RL.o (by simp;rfl) (RL.nil ⟨_,by simp;rfl,?_⟩)))
  refine WL.ret ⟨rfl,?_⟩
  simp[fi77,rsE]
 ·obtain⟨a,b⟩:=ok h
  subst a b
  refine WL.cond (t:=false) (by simp;omega) (by simp) (fun _=>WL.skip ?_)
  refine WL.draw mixed (by simp[cleanL,noH]) (DL.o (by simp;exact⟨rfl,rfl⟩) (DL.call0 false zeros_fn (by simp) (by simp) (DL.o (by simp[hp,hb,Nat.succ_le_of_lt hp,Nat.succ_le_of_lt hb];exact⟨rfl,rfl⟩) (DL.nil ⟨by kernel_rfl,_,by simp;rfl,?_⟩))))
  refine WL.sreg (by simp<;>rfl) (by simp<;>rfl) (WL.nil1 604 true 1 (by simp) (WL.ret ⟨rfl,?_⟩))
  simp[fi77,List.map_set]
abbrev rbN (s:St)(cl:Int)(p:Int)(t:SL):SL:=rb1 cl ++ (rb3 s ++ (rb6 ++ ((700,0,i64 p) :: (t ++ ghT s))))
set_option maxHeartbeats 4000000 in
theorem dr_newAt (s:St)(c:Nat)(hc:c < s.Handles.length)(hs:Small s.Handles[c].length)(i:Nat)(hi:i < s.There.length)(hb:i < s.Body.length)(k:Nat)(hk:k < s.Handles[c].length)(hf:freeI s.Handles[c]=(k:Int)) :
  WL Try.prog fi77.nt c77_22 (rbN s c i [(10800,0,bl false)]) (rbQ ⟨s.There.set i true,s.Body.set i z16,s.Handles.set c (s.Handles[c].set k i)⟩ ⟨0,i,k,[]⟩):=by
 refine WL.seq (WL.draw mixed (by simp[cleanL,noH]) (DL.o (by simp;exact⟨rfl,rfl⟩) (DL.call0 false zeros_fn (by simp) (by simp) (DL.o (by simp[hi,hb,Nat.succ_le_of_lt hi,Nat.succ_le_of_lt hb];exact⟨rfl,rfl⟩) (DL.nil ⟨by kernel_rfl,_,by simp;rfl,?_⟩)))))
 obtain⟨T,hT⟩:∃ T,T=s.There.set i true:=⟨_,rfl⟩
 obtain⟨B,hB⟩:∃ B,B=s.Body.set i z16:=⟨_,rfl⟩
 have eT:(AV.sl true () 1 s.There.length ((s.There.map bl).set i (bl true)):AU)=sB true T:=by simp[hT,List.map_set,sB]
 have eB:(AV.sl true () 1 s.Body.length ((s.Body.map str).set i (str z16)):AU)=sS true B:=by simp[hB,List.map_set,sS]
 have lT:T.length=s.There.length:=by simp[hT]
 have lB:B.length=s.Body.length:=by simp[hB]
 have tT:(T.map bl).take s.There.length=T.map bl:=List.take_of_length_le (by simp[lT])
 have tB:(B.map str).take s.Body.length=B.map str:=List.take_of_length_le (by simp[lB])
 rw[eT,eB,← hT,← hB]
 clear eT eB hT hB
 have hg:=give_fn ⟨T,B,s.Handles⟩ _ _ rfl rfl c hc hs i k hk hf
 refine WL.sregC (RL.o (by simp;rfl) (RL.call true [(1000200,[])] hg (by simp) (by simp) (by simp[gkey,lT,lB,tT,tB]) (side_give _ _ (by simp) _) (RL.o (by simp;rfl) (RL.nil ⟨_,by simp;rfl,?_⟩))))
 refine WL.nil1 604 true 1 (by simp) (WL.ret ⟨rfl,?_⟩)
 simp[fi77,List.map_set,lT,lB]
end Go.OT
namespace Go.OT
open Go.Proofs
set_option maxHeartbeats 4000000 in
theorem dr_new (s:St)(hT:Small s.There.length)(hB:s.Body.length=s.There.length)(c:Nat)(hc:c < s.Handles.length)(hs:Small s.Handles[c].length)(P Hd Of Nn:Int)(D:List UInt8)(s':St)(r:Rs)
  (e4:freeH s.Handles[c]=false→s'=s∧r=rsE 4)
  (e3:freeH s.Handles[c]=true→ixF (· == false) s.There 0=-1→s'=s∧r=rsE 3)
  (k:Nat) (ek:freeH s.Handles[c]=true→k < s.Handles[c].length∧freeI s.Handles[c]=(k:Int))
  (ok:freeH s.Handles[c]=true→∀ i:Nat,i < s.There.length→ixF (· == false) s.There 0=(i:Int)→s'=⟨s.There.set i true,s.Body.set i z16,s.Handles.set c (s.Handles[c].set k i)⟩∧r=⟨0,i,k,[]⟩) :
  WL Try.prog fi77.nt c77_60 (rbA s c ⟨1,P,Hd,Of,Nn,D⟩ ++ ((2600,0,bl false) :: ghT s)) (rbQ s' r):=by
 refine WL.sreg (by simp<;>rfl) (by simp<;>rfl) ?_
 refine WL.seq (WL.sreg (by simp<;>rfl) (by simp<;>rfl) ?_)
 refine WL.cond (t:=false) (by simp) (by simp) (fun _=>WL.skip ?_)
 refine WL.seq (WL.sreg (by simp<;>rfl) (by simp<;>rfl) ?_)
 refine WL.cond (t:=false) (by simp) (by simp) (fun _=>WL.skip ?_)
 refine WL.seq (WL.sreg (by simp<;>rfl) (by simp<;>rfl) ?_)
 refine WL.block (WL.sreg (by simp<;>rfl) (by simp<;>rfl) ?_)
 refine WL.cond (t:=true) (by simp) (fun _=>?_) (by simp)
 refine WL.seq (WL.sregC (RL.o (by simp;rfl) (RL.call0 true (room_fn s c hc hs) (by simp) (by simp) (RL.o (by simp;rfl) (RL.nil ⟨_,by simp;rfl,?_⟩)))))
 cases h:freeH s.Handles[c] with
 | false =>
  obtain⟨a,b⟩:=e4 h
  subst a b
  refine WL.cond (t:=true) (by simp) (fun _=>?_) (by simp)
  refine WL.sregC (RL.call0 false (fail_fn 4) (by simp) (by simp) (RL.o (by simp;rfl) (RL.nil ⟨_,by simp;rfl,?_⟩)))
  refine WL.ret ⟨rfl,?_⟩
  simp[fi77,rsE]
 | true =>
  obtain⟨hk,hf⟩:=ek h
  refine WL.cond (t:=false) (by simp) (by simp) (fun _=>WL.skip ?_)
  refine WL.sreg (by simp;rfl) (by simp;rfl) ?_
  refine WL.seq (WL.block (WL.count s.There.length (fun i=>rbN s c i []) (fun i=>ixF (· == false) (s.There.drop i) i=ixF (· == false) s.There 0) (by simp) rfl fun i hi hp=>?_))
  have fin:i < s.There.length→s.There[i]?=some false→WL Try.prog fi77.nt c77_22 (rbN s c i [(10800,0,bl false)]) (rbQ s' r):=fun hi hf'=>by
   have h1:s.There[i]=false:=by simpa [hi] using hf'
   rw[ixF_drop _ _ _ hi,if_pos (by simp[h1])] at hp
   obtain⟨a,b⟩:=ok h i hi hp.symm
   subst a b
   exact dr_newAt s c hc hs i hi (by omega) k hk hf
  by_cases hi':i < s.There.length
  ·have hi1:i+1≤s.There.length:=hi'
   cases hb:s.There[i] with
   | true =>
    refine WL.seq (WL.sreg (by simp[hi',hi1,hb];rfl) (by simp;rfl) ?_)
    refine WL.cond (t:=true) (by simp[hb]) (fun _=>WL.skip ?_) (by simp)
    rw[ixF_drop _ _ _ hi',if_neg (by simp[hb])] at hp
    refine WL.block (WL.reg (RL.run (by simp[wrap_succ hT hi'];rfl) ⟨_,by simp;rfl,hi',?_,hp⟩))
    simp
   | false =>
    refine WL.seq (WL.sreg (by simp[hi',hi1,hb];rfl) (by simp;rfl) ?_)
    refine WL.cond (t:=false) (by simp[hb]) (by simp) (fun _=>WL.exit ?_)
    have hne:¬ i=s.There.length:=by omega
    have hneI:¬ (i:Int)=s.There.length:=by omega
    refine WL.seq (WL.sreg (by simp[hne,hneI];rfl) (by simp;rfl) ?_)
    refine WL.cond (t:=false) (by simp[hne,hneI]) (by simp) (fun _=>WL.skip ?_)
    have d:((i:Int) == (s.There.length:Int))=false:=by simpa using hneI
    rw[d]
    show WL Try.prog fi77.nt c77_22 _ _
    exact WL.up (fin hi' (by simp[hi',hb])) fun _ h=>⟨rfl,h⟩
  ·have hi2:i=s.There.length:=by omega
   subst hi2
   rw[ixF_end _ _ _ hi'] at hp
   obtain⟨a,b⟩:=e3 h hp.symm
   subst a b
   refine WL.seq (WL.sreg (by simp;rfl) (by simp;rfl) ?_)
   refine WL.cond (t:=false) (by simp) (by simp) (fun _=>WL.exit ?_)
   refine WL.seq (WL.sreg (by simp;rfl) (by simp;rfl) ?_)
   refine WL.cond (t:=true) (by simp) (fun _=>?_) (by simp)
   refine WL.sregC (RL.call0 false (fail_fn 3) (by simp) (by simp) (RL.o (by simp;rfl) (RL.nil ⟨_,by simp;rfl,?_⟩)))
   refine WL.ret ⟨rfl,?_⟩
   simp[fi77,rsE]
end Go.OT
namespace Go.OT
open Go.Proofs
set_option maxHeartbeats 4000000 in
theorem dr_read (s:St)(cl:Int)(m:Nat)(hm:m < s.Body.length)(h16:s.Body[m].length=16)(P Hd Of Nn:Int)(D:List UInt8)(s':St)(r:Rs)
  (e6:badRg ⟨3,P,Hd,Of,Nn,D⟩ Nn=true→s'=s∧r=rsE 6)
  (ok:∀ o n:Nat,Of=o→Nn=n→o+n≤16→s'=s∧r=⟨0,0,0,(s.Body[m].drop o).take n⟩) :
  WL Try.prog fi77.nt c77_57 (rbP s cl ⟨3,P,Hd,Of,Nn,D⟩ m [(7900,0,bl false)]) (rbQ s' r):=by
 refine WL.seq (WL.sreg (by simp<;>rfl) (by simp<;>rfl) ?_)
 refine WL.block (WL.sreg (by simp<;>rfl) (by simp<;>rfl) ?_)
 refine WL.cond (t:=false) (by simp) (by simp) (fun _=>WL.sreg (by simp<;>rfl) (by simp<;>rfl) ?_)
 refine WL.cond (t:=false) (by simp) (by simp) (fun _=>WL.sreg (by simp<;>rfl) (by simp<;>rfl) ?_)
 refine WL.cond (t:=true) (by simp) (fun _=>?_) (by simp)
 refine WL.seq ?_
 by_cases k1:Of < 0
 ·obtain⟨a,b⟩:=e6 (by simp[badRg,k1])
  subst a b
  refine WL.sreg (by simp[k1];rfl) (by simp;rfl) ?_
  refine WL.cond (t:=true) (by simp) (fun _=>?_) (by simp)
  refine WL.sregC (RL.call0 false (fail_fn 6) (by simp) (by simp) (RL.o (by simp;rfl) (RL.nil ⟨_,by simp;rfl,?_⟩)))
  refine WL.ret ⟨rfl,?_⟩
  simp[fi77,rsE]
 by_cases k2:Nn < 0
 ·obtain⟨a,b⟩:=e6 (by simp[badRg,k2])
  subst a b
  refine WL.sreg (by simp[k1,k2];rfl) (by simp;rfl) ?_
  refine WL.cond (t:=true) (by simp) (fun _=>?_) (by simp)
  refine WL.sregC (RL.call0 false (fail_fn 6) (by simp) (by simp) (RL.o (by simp;rfl) (RL.nil ⟨_,by simp;rfl,?_⟩)))
  refine WL.ret ⟨rfl,?_⟩
  simp[fi77,rsE]
 by_cases k3:16 < Of
 ·obtain⟨a,b⟩:=e6 (by simp[badRg,k3])
  subst a b
  refine WL.sreg (by simp[k1,k2,k3];rfl) (by simp;rfl) ?_
  refine WL.cond (t:=true) (by simp) (fun _=>?_) (by simp)
  refine WL.sregC (RL.call0 false (fail_fn 6) (by simp) (by simp) (RL.o (by simp;rfl) (RL.nil ⟨_,by simp;rfl,?_⟩)))
  refine WL.ret ⟨rfl,?_⟩
  simp[fi77,rsE]
 obtain⟨o,ho⟩:=Int.eq_ofNat_of_zero_le (a:=Of) (by omega)
 obtain⟨n,hn⟩:=Int.eq_ofNat_of_zero_le (a:=Nn) (by omega)
 subst ho hn
 have w1:IntKind.wrap .i64 ((16:Int) - (o:Int))=16 - (o:Int):=wrap_small (by omega) (by omega)
 by_cases k4:16 - (o:Int) < n
 ·obtain⟨a,b⟩:=e6 (by simp[badRg,k4])
  subst a b
  refine WL.sreg (by simp[k1,k2,k3,k4,w1];rfl) (by simp;rfl) ?_
  refine WL.cond (t:=true) (by simp[k4]) (fun _=>?_) (by simp)
  refine WL.sregC (RL.call0 false (fail_fn 6) (by simp) (by simp) (RL.o (by simp;rfl) (RL.nil ⟨_,by simp;rfl,?_⟩)))
  refine WL.ret ⟨rfl,?_⟩
  simp[fi77,rsE]
 have hon:o+n≤16:=by omega
 obtain⟨a,b⟩:=ok o n rfl rfl hon
 subst a b
 refine WL.sreg (by simp[k1,k2,k3,k4,w1];rfl) (by simp;rfl) ?_
 refine WL.cond (t:=false) (by simp[k4];try omega) (by simp) (fun _=>WL.skip ?_)
 obtain⟨e,he⟩:∃ e,e=o+n:=⟨_,rfl⟩
 have hw:IntKind.wrap .i64 ((o:Int)+(n:Int))=(e:Int):=by rw[wrap_small (by omega) (by omega)];omega
 have f1:o≤e:=by omega
 have f2:e≤16:=by omega
 have f3:e - o=n:=by omega
 refine WL.seq (WL.draw mixed (by simp[cleanL,noH]) (DL.o (by simp[hm,h16,hw,f1,f2,f3,strOf_size,strOf_ext,strC_of,Nat.succ_le_of_lt hm,-List.map_take,-List.map_drop];exact⟨rfl,rfl⟩) (DL.nil ⟨by kernel_rfl,_,by simp;rfl,?_⟩)))
 refine WL.ret ⟨rfl,?_⟩
 have f4:min n (16 - o)=n:=by omega
 simp[fi77,h16,f4,List.take_take]
end Go.OT
namespace Go.OT
open Go.Proofs
set_option maxHeartbeats 4000000 in
theorem dr_write (s:St)(cl:Int)(m:Nat)(hm:m < s.Body.length)(h16:s.Body[m].length=16)(P Hd Of Nn:Int)(D:List UInt8)(s':St)(r:Rs)
  (e6:badRg ⟨4,P,Hd,Of,Nn,D⟩ D.length=true→s'=s∧r=rsE 6)
  (ok:∀ o:Nat,Of=o→o+D.length≤16→s'=⟨s.There,s.Body.set m (over s.Body[m] o D),s.Handles⟩∧r=rsO) (hD:Small D.length) :
  WL Try.prog fi77.nt c77_57 (rbP s cl ⟨4,P,Hd,Of,Nn,D⟩ m [(7900,0,bl false)]) (rbQ s' r):=by
 refine WL.seq (WL.sreg (by simp<;>rfl) (by simp<;>rfl) ?_)
 refine WL.block (WL.sreg (by simp<;>rfl) (by simp<;>rfl) ?_)
 refine WL.cond (t:=false) (by simp) (by simp) (fun _=>WL.sreg (by simp<;>rfl) (by simp<;>rfl) ?_)
 refine WL.cond (t:=false) (by simp) (by simp) (fun _=>WL.sreg (by simp<;>rfl) (by simp<;>rfl) ?_)
 refine WL.cond (t:=false) (by simp) (by simp) (fun _=>WL.sreg (by simp<;>rfl) (by simp<;>rfl) ?_)
 refine WL.cond (t:=true) (by simp) (fun _=>?_) (by simp)
 refine WL.seq ?_
 by_cases k1:Of < 0
 ·obtain⟨a,b⟩:=e6 (by simp[badRg,k1])
  subst a b
  refine WL.sreg (by simp[k1];rfl) (by simp;rfl) ?_
  refine WL.cond (t:=true) (by simp) (fun _=>?_) (by simp)
  refine WL.sregC (RL.call0 false (fail_fn 6) (by simp) (by simp) (RL.o (by simp;rfl) (RL.nil ⟨_,by simp;rfl,?_⟩)))
  refine WL.ret ⟨rfl,?_⟩
  simp[fi77,rsE]
 by_cases k3:16 < Of
 ·obtain⟨a,b⟩:=e6 (by simp[badRg,k3])
  subst a b
  refine WL.sreg (by simp[k1,k3];rfl) (by simp;rfl) ?_
  refine WL.cond (t:=true) (by simp) (fun _=>?_) (by simp)
  refine WL.sregC (RL.call0 false (fail_fn 6) (by simp) (by simp) (RL.o (by simp;rfl) (RL.nil ⟨_,by simp;rfl,?_⟩)))
  refine WL.ret ⟨rfl,?_⟩
  simp[fi77,rsE]
 obtain⟨o,ho⟩:=Int.eq_ofNat_of_zero_le (a:=Of) (by omega)
 subst ho
 have w1:IntKind.wrap .i64 ((16:Int) - (o:Int))=16 - (o:Int):=wrap_small (by omega) (by omega)
 by_cases k4:16 - (o:Int) < D.length
 ·obtain⟨a,b⟩:=e6 (by simp[badRg,k4])
  subst a b
  refine WL.sreg (by simp[k1,k3,k4,w1];rfl) (by simp;rfl) ?_
  refine WL.cond (t:=true) (by simp[k4]) (fun _=>?_) (by simp)
  refine WL.sregC (RL.call0 false (fail_fn 6) (by simp) (by simp) (RL.o (by simp;rfl) (RL.nil ⟨_,by simp;rfl,?_⟩)))
  refine WL.ret ⟨rfl,?_⟩
  simp[fi77,rsE]
 have hon:o+D.length≤16:=by omega
 obtain⟨a,b⟩:=ok o rfl hon
 subst a b
 refine WL.sreg (by simp[k1,k3,k4,w1];rfl) (by simp;rfl) ?_
 refine WL.cond (t:=false) (by simp[k4];try omega) (by simp) (fun _=>WL.skip ?_)
 obtain⟨e,he⟩:∃ e,e=o+D.length:=⟨_,rfl⟩
 have hw:IntKind.wrap .i64 ((o:Int)+(D.length:Int))=(e:Int):=by rw[wrap_small (by omega) (by omega)];omega
 have f1:o≤e:=by omega
 have f2:e≤16:=by omega
 have f5:o≤16:=by omega
 have g1:o+D.length≤4611686018427387904:=by omega
 have g2:o+(D.length+(16 - e))≤4611686018427387904:=by omega
 have g3:o+D.length+(16 - e)≤4611686018427387904:=by omega
 refine WL.draw mixed (by simp[cleanL,noH]) (DL.o (by simp[hm,h16,hw,f1,f2,f5,g1,g2,g3,strOf_size,strOf_ext,strOf_app,strC_of,b2s_bytes,Nat.succ_le_of_lt hm,-List.map_take,-List.map_drop];exact⟨rfl,rfl⟩) (DL.nil ⟨by kernel_rfl,_,by simp;rfl,?_⟩))
 refine WL.sreg (by simp<;>rfl) (by simp<;>rfl) (WL.nil1 604 true 1 (by simp) (WL.ret ⟨rfl,?_⟩))
 have f6:List.take (16 - e) (List.drop e s.Body[m])=List.drop e s.Body[m]:=List.take_of_length_le (by simp[h16])
 simp[fi77,List.map_set,over,← he]
 rw[f6]
end Go.OT
namespace Go.OT
open Go.Proofs
theorem ixF_cong {α:Type}{p q:α→Bool}:∀ (l:List α) (n:Nat),(∀ x ∈ l,p x=q x)→ixF p l n=ixF q l n
 | [],_,_=>rfl
 | x :: l,n,h=>by
  simp only[ixF]
  rw[h x List.mem_cons_self,ixF_cong l (n+1) fun y hy=>h y (List.mem_cons_of_mem _ hy)]
theorem any_cong {α:Type}{p q:α→Bool}:∀ (l:List α),(∀ x ∈ l,p x=q x)→l.any p=l.any q
 | [],_=>rfl
 | x :: l,h=>by
  simp only[List.any_cons]
  rw[h x List.mem_cons_self,any_cong l fun y hy=>h y (List.mem_cons_of_mem _ hy)]
theorem free_eq {s:St}(h:OkSt s){l:List Int}(hl:l ∈ s.Handles):freeH l=room l∧freeI l=ixF (· == -1) l 0:=by
 have hx:∀ x ∈ l,decide (x < 0)=(x == -1):=fun x hx=>by
  rcases h.hp l hl x hx with e | e
  ·subst e;rfl
  ·simp only[there,Bool.and_eq_true,decide_eq_true_eq] at e
   have h1:¬ x < 0:=by omega
   have h2:¬ x=-1:=by omega
   simp[h1,h2]
 exact⟨any_cong _ hx,ixF_cong _ _ hx⟩
theorem heldF_ok {s:St}{c k:Nat}(hc:c < s.Handles.length)(hk:k < s.Handles[c].length):heldF s c k=s.Handles[c][k]:=by
 have h1:¬ s.Handles.length≤c:=by omega
 have h2:¬ s.Handles[c].length≤k:=by omega
 have h3:¬ (c:Int) < 0:=by omega
 have h4:¬ (k:Int) < 0:=by omega
 simp[heldF,hc,hk,h1,h2,h3,h4]
theorem heldF_bad {s:St}(h:OkSt s){c:Nat}(hc:c < s.Handles.length)(hd:Int)(hb:badHd s.Handles[c] hd=true):heldF s c hd=-1:=by
 have h6:=h.l6 _ (List.getElem_mem hc)
 have h1:¬ s.Handles.length≤c:=by omega
 simp only[badHd,Bool.or_eq_true,decide_eq_true_eq] at hb
 by_cases e1:hd < 0
 ·simp[heldF,e1]
 obtain⟨k,rfl⟩:=Int.eq_ofNat_of_zero_le (a:=hd) (by omega)
 by_cases e2:6≤k
 ·have e3:(6:Int)≤k:=by omega
  simp[heldF,hc,h6,e3]
 ·have hk:k < s.Handles[c].length:=by omega
  rw[heldF_ok hc hk]
  have:=(hb.resolve_left e1).resolve_left (by omega)
  simpa [hk] using this
theorem refdo_kind {s:St}{c:Nat}{q:Op}(h:OkSt s)(hc:c < s.Handles.length):(codeOf s s.Handles[c] q ≠ 0→(DoB s c q).2.1=s∧(DoB s c q).2.2=rsE (codeOf s s.Handles[c] q))∧(codeOf s s.Handles[c] q=0→(DoB s c q).2.1=(Step s c q).1∧(DoB s c q).2.2=(Step s c q).2):=by
 have hn:¬ noCall s c=true:=by
  have:=(May_iff s).2 h
  simp[noCall,this]
  omega
 constructor
 ·intro h0
  simp[DoB,hn,hc,h0]
 ·intro h0
  simp[DoB,hn,hc,h0]
theorem set_self {α:Type}(l:List α)(i:Nat)(h:i < l.length)(v:α)(hv:l[i]=v):l.set i v=l:=by
 subst hv
 exact List.set_getElem_self h
set_option maxHeartbeats 1000000 in
theorem refdo_main (s:St)(h:OkSt s)(c:Nat)(hc:c < s.Handles.length)(q:Op)(hD:Small q.Data.length)(hk:1≤q.Kind∧q.Kind≤8)(s':St)(r:Rs)
  (hE:codeOf s s.Handles[c] q ≠ 0→s'=s∧r=rsE (codeOf s s.Handles[c] q)) (hO:codeOf s s.Handles[c] q=0→s'=(Step s c q).1∧r=(Step s c q).2) :
  WL Try.prog fi77.nt c77_60 (rbA s c q ++ ((2600,0,bl false) :: ghT s)) (rbQ s' r):=by
 have hs:=h.sized
 have hmem:=List.getElem_mem hc
 have h6:s.Handles[c].length=6:=h.l6 _ hmem
 have hS:Small s.Handles[c].length:=by unfold Small;omega
 have hT:Small s.There.length:=by have:=hs.t;unfold Small;omega
 obtain⟨fr,fi⟩:=free_eq h hmem
 have hroom:room s.Handles[c]=true→ix (· == -1) s.Handles[c] < s.Handles[c].length∧freeI s.Handles[c]=(ix (· == -1) s.Handles[c]:Int):=fun hr=>by
  obtain⟨j1,j2,j3⟩:=ix_spec hr
  exact⟨j1,by rw[fi,j2]⟩
 have hl:s.Handles.getD c []=s.Handles[c]:=by simp[hc]
 obtain⟨K,P,Hd,Of,Nn,D⟩:=q
 simp only at hk hD
 by_cases k1:K=1
 ·subst k1
  refine dr_new s hT h.bn c hc hS P Hd Of Nn D s' r (fun e=>?_) (fun e e3=>?_) (ix (· == -1) s.Handles[c]) (fun e=>hroom (by rw[← fr];exact e)) (fun e i hi hix=>?_)
  ·rw[fr] at e
   have:=hE (by simp[codeOf,e])
   simpa [codeOf,e] using this
  ·rw[fr] at e
   have ha:s.There.any (· == false)=false:=by
    cases e':s.There.any (· == false) with
    | false=>rfl
    | true =>
     have:=(ixF_ge (· == false) s.There 0).2 e'
     omega
   have:=hE (by simp only[codeOf,e,ha,if_true];decide)
   simpa only [codeOf,e,ha,if_true,Bool.true_eq_false,if_false] using this
  ·rw[fr] at e
   have ha:s.There.any (· == false)=true:=(ixF_ge (· == false) s.There 0).1 (by rw[hix];omega)
   have he:ix (· == false) s.There=i:=by unfold ix;rw[hix];exact Int.toNat_natCast i
   have hb:i < s.Body.length:=by rw[h.bn];exact hi
   obtain⟨i1,i2,i3⟩:=ix_spec ha
   have hth:s.There[i]=false:=by
    have:=i3
    simp only[he] at this
    simpa using this
   have hz:=h.zero i hb (by simp[hi,hth])
   have:=hO (by simp only[codeOf,e,ha,if_true,Bool.true_eq_false,if_false])
   simp only[Step,if_true,hl,he] at this
   rw[set_self s.Body i hb z16 hz]
   exact this
 by_cases k2:K=2∨K=6∨K=8
 ·refine dr_page s c ⟨K,P,Hd,Of,Nn,D⟩ s' r k2 hT (fun e=>?_) (fun e1 e2=>?_) (fun e=>?_)
  ·have:=hE (by simp only[codeOf,if_neg k1,if_pos k2,e,if_true];decide)
   simpa only [codeOf,if_neg k1,if_pos k2,e,if_true] using this
  ·simp only at e1 e2
   have:=hE (by simp only[codeOf,if_neg k1,if_pos k2,e1,e2,if_true,Bool.true_eq_false,if_false];decide)
   simpa only [codeOf,if_neg k1,if_pos k2,e1,e2,if_true,Bool.true_eq_false,if_false] using this
  ·simp only at e
   have hth:=e
   simp only[there,Bool.and_eq_true,decide_eq_true_eq] at hth
   obtain⟨m,rfl⟩:=Int.eq_ofNat_of_zero_le hth.1
   have hm:m < s.There.length:=by
    have:=hth.2
    by_cases h:m < s.There.length
    ·exact h
    ·simp[h] at this
   have hmb:m < s.Body.length:=by rw[h.bn];exact hm
   have hpg:isPage s (m:Int)=true:=by simp[isPage,hm]
   rcases k2 with k2 | k2 | k2<;>subst k2
   ·refine dr_fetch s c hc hS m Hd Of Nn D s' r (fun e4=>?_) (ix (· == -1) s.Handles[c]) (fun e4=>?_)
    ·rw[fr] at e4
     have:=hE (by simp[codeOf,hpg,e,e4])
     simpa [codeOf,hpg,e,e4] using this
    ·rw[fr] at e4
     obtain⟨a,b⟩:=hroom e4
     have:=hO (by simp[codeOf,hpg,e,e4])
     simp only[Step,hl] at this
     exact⟨a,b,by simpa using this⟩
   ·have:=hO (by simp[codeOf,hpg,e])
    simp only[Step] at this
    obtain⟨a,b⟩:s'=s∧r=rsO:=by simpa using this
    subst a b
    exact dr_flush s' c m Hd Of Nn D
   ·refine dr_delete s hs c m hm hmb Hd Of Nn D s' r (fun e7=>?_) (fun e7=>?_)
    ·have:=hE (by simp[codeOf,hpg,e,e7])
     simpa [codeOf,hpg,e,e7] using this
    ·have:=hO (by simp[codeOf,hpg,e,e7])
     simp only[Step] at this
     simpa [z16] using this
 by_cases k3:K=3∨K=4∨K=5
 ·refine dr_held s c ⟨K,P,Hd,Of,Nn,D⟩ s' r k3 (fun e=>?_) (fun e=>?_)
  ·simp only at e
   have hb:badHd s.Handles[c] Hd=true:=by
    cases hb:badHd s.Handles[c] Hd with
    | true=>rfl
    | false =>
     exfalso
     simp only[badHd,Bool.or_eq_false_iff,decide_eq_false_iff_not,beq_eq_false_iff_ne] at hb
     obtain⟨k,rfl⟩:=Int.eq_ofNat_of_zero_le (a:=Hd) (by omega)
     have hk6:k < s.Handles[c].length:=by omega
     rw[heldF_ok hc hk6] at e
     have hne:s.Handles[c][k] ≠ -1:=by simpa [hk6] using hb.2.2
     have hth:=(h.hp _ hmem _ (List.getElem_mem hk6)).resolve_left hne
     simp only[there,Bool.and_eq_true,decide_eq_true_eq] at hth
     omega
   have:=hE (by simp only[codeOf,if_neg k1,if_neg k2,if_pos k3,hb,if_true];decide)
   simpa only [codeOf,if_neg k1,if_neg k2,if_pos k3,hb,if_true] using this
  ·simp only at e
   have hb:badHd s.Handles[c] Hd=false:=by
    cases hb:badHd s.Handles[c] Hd with
    | false=>rfl
    | true=>rw [heldF_bad h hc Hd hb] at e;omega
   have hb':=hb
   simp only[badHd,Bool.or_eq_false_iff,decide_eq_false_iff_not,beq_eq_false_iff_ne] at hb'
   obtain⟨k,rfl⟩:=Int.eq_ofNat_of_zero_le (a:=Hd) (by omega)
   have hk6:k < s.Handles[c].length:=by omega
   simp only
   rw[heldF_ok hc hk6] at e ⊢
   have hne:s.Handles[c][k] ≠ -1:=by simpa [hk6] using hb'.2.2
   have hth:=(h.hp _ hmem _ (List.getElem_mem hk6)).resolve_left hne
   simp only[there,Bool.and_eq_true,decide_eq_true_eq] at hth
   obtain⟨m,hm⟩:=Int.eq_ofNat_of_zero_le hth.1
   have hmt:m < s.There.length:=by
    have:=hth.2
    rw[hm] at this
    by_cases h:m < s.There.length
    ·exact h
    ·simp[h] at this
   have hmb:m < s.Body.length:=by rw[h.bn];exact hmt
   have h16:=h.b16 _ (List.getElem_mem hmb)
   rcases k3 with k3 | k3 | k3<;>subst k3
   ·rw[hm]
    refine dr_read s c m hmb h16 P k Of Nn D s' r (fun e6=>?_) (fun o n ho hn hon=>?_)
    ·have:=hE (by simp[codeOf,hb,e6])
     simpa [codeOf,hb,e6] using this
    ·subst ho hn
     have e6:badRg ⟨3,P,k,o,n,D⟩ n=false:=by
      simp[badRg]
      omega
     have:=hO (by simp[codeOf,hb,e6])
     simpa [Step,hc,hk6,hm,hmb] using this
   ·rw[hm]
    refine dr_write s c m hmb h16 P k Of Nn D s' r (fun e6=>?_) (fun o ho hon=>?_) hD
    ·have:=hE (by simp[codeOf,hb,e6])
     simpa [codeOf,hb,e6] using this
    ·subst ho
     have e6:badRg ⟨4,P,k,o,Nn,D⟩ D.length=false:=by
      simp[badRg]
      omega
     have:=hO (by simp[codeOf,hb,e6])
     simpa [Step,hc,hk6,hm,hmb] using this
   ·have e6:badRg ⟨5,P,k,Of,Nn,D⟩ Nn=false:=by simp[badRg]
    have:=hO (by simp[codeOf,hb,e6])
    obtain⟨a,b⟩:s'=⟨s.There,s.Body,s.Handles.set c (s.Handles[c].set k (-1))⟩∧r=rsO:=by simpa [Step,hc] using this
    subst a b
    exact dr_unpin s c hc k hk6 P _ Of Nn D
 ·have k7:K=7:=by omega
  subst k7
  have:=hO (by simp[codeOf])
  obtain⟨a,b⟩:s'=s∧r=rsO:=by simpa [Step] using this
  subst a b
  exact dr_flushAll s' c P Hd Of Nn D
theorem refdo_fn (s:St)(h:OkSt s)(cl:Int)(q:Op)(hD:Small q.Data.length):FnC Try.prog 77 (gsT s) [vwT s,i64 cl,encO false q] (gsT (DoB s cl q).2.1) (encR true (DoB s cl q).2.2):=by
 have hM:May s=true:=(May_iff s).2 h
 refine dr_start s cl q _ _ (fun h1=>?_) (fun h1=>?_)
 ·have:DoB s cl q=(false,s,rsE 1):=by
   by_cases hn:noCall s cl=true
   ·simp only[DoB,if_pos hn]
   ·have hn':=hn
    simp only[noCall,hM,Bool.not_true,Bool.false_or,Bool.or_eq_true,decide_eq_true_eq] at hn'
    have hk:q.Kind < 1∨8 < q.Kind:=by omega
    have hcd:codeOf s (s.Handles.getD cl.toNat []) q=1:=by
     have a1:¬ q.Kind=1:=by omega
     have a2:¬ (q.Kind=2∨q.Kind=6∨q.Kind=8):=by omega
     have a3:¬ (q.Kind=3∨q.Kind=4∨q.Kind=5):=by omega
     have a4:¬ q.Kind=7:=by omega
     simp only[codeOf,if_neg a1,if_neg a2,if_neg a3,if_neg a4]
    simp only[DoB,if_neg hn,hcd]
    rfl
  rw[this]
  exact dr_none s cl q
 ·obtain⟨c,rfl⟩:=Int.eq_ofNat_of_zero_le (a:=cl) (by omega)
  have hc:c < s.Handles.length:=by omega
  obtain⟨a,b⟩:=refdo_kind (q:=q) h hc
  exact refdo_main s h c hc q hD (by omega) _ _ a b
end Go.OT
namespace Go.OT
open Go.Proofs
abbrev rb4e:SL:=[(400,0,.bptr 4 1 0),(401,0,.sl true () 1 0 []),(402,0,.sl true () 1 0 []),(403,0,.sl true () 1 0 []),(499,1,.non)]
abbrev rb5e (a b c:AU):SL:=[(500,0,.bptr 5 1 0),(501,0,a),(502,0,b),(503,0,c),(599,1,.non)]
abbrev rnA (n m i:Nat):SL:=[(0,0,i64 n),(100,0,i64 m)] ++ (rb4e ++ (rb5e (.sl true () 1 i (List.replicate i (bl false))) (.sl true () 1 i (List.replicate i (str z16))) (.sl true () 1 0 []) ++ [(600,0,i64 i)]))
abbrev rnB (n m j:Nat):SL:=[(100,0,i64 m)] ++ (rb4e ++ (rb5e (.sl true () 1 n (List.replicate n (bl false))) (.sl true () 1 n (List.replicate n (str z16))) (.sl true () 1 j (List.replicate j (sI true [-1,-1,-1,-1,-1,-1]))) ++ [(700,0,i64 j)]))
set_option maxHeartbeats 4000000 in
theorem refnew_fn (p c:Int):FnC Try.prog 76 [] [i64 p,i64 c] [] (encT true (newSt p c)):=by
 refine FnC.go ok76 rfl ?_
 refine WL.sreg (by simp;rfl) (by simp;rfl) ?_
 refine WL.sreg (by simp;rfl) (by simp;rfl) ?_
 refine WL.seq (WL.ifEq (newBad p c) ([(0,0,i64 p),(100,0,i64 c)] ++ (rb4e ++ (rb5e (.sl true () 1 0 []) (.sl true () 1 0 []) (.sl true () 1 0 []) ++ [(2100,0,bl (newBad p c))]))) ?_ (by simp) (fun h=>?_) (fun h=>WL.skip ?_))
 ·by_cases h1:p < 1
  ·simp[newBad,h1]
  by_cases h2:48 < p
  ·simp[newBad,h1,h2]
  by_cases h3:c < 1
  ·simp[newBad,h1,h2,h3]
  by_cases h4:6 < c
  ·simp[newBad,h1,h2,h3,h4]
  ·simp[newBad,h1,h2,h3,h4]
 ·refine WL.sreg (by simp;rfl) (by simp;rfl) (WL.ret ⟨.inr rfl,?_⟩)
  simp[fi76,newSt,h]
 simp only[newBad,Bool.or_eq_false_iff,decide_eq_false_iff_not] at h
 obtain⟨n,rfl⟩:=Int.eq_ofNat_of_zero_le (a:=p) (by omega)
 obtain⟨m,rfl⟩:=Int.eq_ofNat_of_zero_le (a:=c) (by omega)
 have hn:n≤48:=by omega
 have hm:m≤6:=by omega
 have hst:newSt n m=⟨List.replicate n false,List.replicate n (List.replicate 16 0),List.replicate m [-1,-1,-1,-1,-1,-1]⟩:=by
  unfold newSt
  rw[if_neg]
  ·rfl
  ·simp only[newBad,Bool.or_eq_true,decide_eq_true_eq];omega
 rw[hst]
 refine WL.seq (WL.sreg (by simp;rfl) (by simp;rfl) ?_)
 refine WL.block (WL.count n (fun i=>rnA n m i) (fun _=>True) (by simp) trivial fun i hi _=>?_)
 by_cases h:i < n
 ·refine WL.seq (WL.sreg (by simp[h];rfl) (by simp;rfl) ?_)
  refine WL.cond (t:=true) (by simp[h]) (fun _=>WL.skip ?_) (by simp)
  have hm0:i+1≤140737488355328:=by omega
  have hm1:(i+1) * 16≤140737488355328:=by omega
  have hm2:i+1≤maxLen:=by unfold maxLen;omega
  refine WL.seq (WL.block (WL.draw mixed (by simp[cleanL,noH]) (DL.o (by simp[hm0,hm1,hm2];exact⟨rfl,rfl⟩) (DL.call0 false zeros_fn (by simp) (by simp) (DL.o (by simp[hm0,hm1,hm2];exact⟨rfl,rfl⟩) (DL.nil ⟨by kernel_rfl,_,by simp;rfl,?_⟩))))))
  have hs:Small n:=by unfold Small;omega
  refine WL.reg (RL.run (by simp[wrap_succ hs h];rfl) ⟨_,by simp;rfl,h,?_,trivial⟩)
  simp[← replicate_snoc]
  exact⟨List.take_of_length_le (by simp),List.take_of_length_le (by simp)⟩
 ·refine WL.seq (WL.sreg (by simp[h];rfl) (by simp;rfl) ?_)
  refine WL.cond (t:=false) (by simp[h]) (by simp) fun _=>WL.exit ?_
  obtain rfl:i=n:=by omega
  refine WL.seq (WL.sreg (by simp;rfl) (by simp;rfl) ?_)
  refine WL.block (WL.count m (fun j=>rnB i m j) (fun _=>True) (by simp) trivial fun j hj _=>?_)
  by_cases h:j < m
  ·have hs:Small m:=by unfold Small;omega
   refine WL.seq (WL.sreg (by simp[h];rfl) (by simp;rfl) ?_)
   refine WL.cond (t:=true) (by simp[h]) (fun _=>WL.skip ?_) (by simp)
   have hm1:(j+1) * 24≤140737488355328:=by omega
   have hm2:j+1≤maxLen:=by unfold maxLen;omega
   refine WL.seq (WL.block (WL.reg (RL.run (by simp[hm1,hm2];rfl) ⟨_,by simp;rfl,?_⟩)))
   refine WL.reg (RL.run (by simp[wrap_succ hs h];rfl) ⟨_,by simp;rfl,h,?_,trivial⟩)
   simp[← replicate_snoc]
   exact List.take_of_length_le (by simp)
  ·refine WL.seq (WL.sreg (by simp[h];rfl) (by simp;rfl) ?_)
   refine WL.cond (t:=false) (by simp[h]) (by simp) fun _=>WL.exit ?_
   obtain rfl:j=m:=by omega
   refine WL.sreg (by simp;rfl) (by simp;rfl) (WL.ret ⟨.inr rfl,?_⟩)
   simp[fi76,z16]
end Go.OT
namespace Go.OT
open Go.Proofs
theorem newSt_eq {n m:Nat}(hn:1≤n)(hn':n≤48)(hm:1≤m)(hm':m≤6):newSt n m=⟨List.replicate n false,List.replicate n (List.replicate 16 0),List.replicate m [-1,-1,-1,-1,-1,-1]⟩:=by
 unfold newSt
 rw[if_neg]
 ·rfl
 ·simp only[newBad,Bool.or_eq_true,decide_eq_true_eq];omega
theorem newSt_ok {n m:Nat}(hn:1≤n)(hn':n≤48)(hm:1≤m)(hm':m≤6):OkSt (newSt n m):=by
 rw[newSt_eq hn hn' hm hm']
 refine⟨by simpa using hn,by simpa using hn',by simp,by simpa using hm,by simpa using hm',fun b hb=>?_,fun i hi _=>?_,fun l hl=>?_,fun l hl p hp=>?_⟩
 ·rw[List.eq_of_mem_replicate hb];rfl
 ·simp
 ·rw[List.eq_of_mem_replicate hl];rfl
 ·rw[List.eq_of_mem_replicate hl] at hp
  left
  simpa using hp
theorem immR (r:Rs):noImm (encR true r)=true:=by
 show noImmL [i64 r.Code,i64 r.Page,i64 r.Handle,sU true r.Data]=true
 simp[noImm,noImmL,noImmU]
theorem side_do (s s':St)(r:Rs):sideOk true (gsT s) (gsT s') (encR true r)=true:=by
 have e1:noImm (sB true s'.There:AU)=true:=by simp only[noImm,immB,Bool.and_self]
 have e2:noImm (sS true s'.Body:AU)=true:=by simp only[noImm,immS,Bool.and_self]
 have e3:noImm (sII true s'.Handles:AU)=true:=by simp only[noImm,immII,Bool.and_self]
 have e4:noImm (encR true r)=true:=immR r
 simp only[sideOk,List.all_cons,List.all_nil,ghImm,e1,e2,e3,e4]
 simp
end Go.OT
namespace Go.OT
open Go.Proofs
structure Ev where
 Client:Int
 op:Op
 res:Rs
 Begin:Int
 Stamp:Int
 End:Int
 deriving DecidableEq
abbrev cellsEv (o r:Bool)(e:Ev):List AU:=[i64 e.Client,i64 e.op.Kind,i64 e.op.Page,i64 e.op.Handle,i64 e.op.Off,i64 e.op.N,sU o e.op.Data,i64 e.res.Code,i64 e.res.Page,i64 e.res.Handle,sU r e.res.Data,i64 e.Begin,i64 e.Stamp,i64 e.End]
abbrev sEv (l:List Ev):AU:=.sl false () 14 l.length (l.flatMap (cellsEv false false))
theorem fmE_drop {o r:Bool}{l:List Ev}{i:Nat}(h:i < l.length):(l.flatMap (cellsEv o r)).drop (i * 14)=cellsEv o r l[i] ++ (l.drop (i+1)).flatMap (cellsEv o r):=by
 induction l generalizing i with
 | nil=>simp at h
 | cons a l ih =>
  cases i with
  | zero=>simp [List.flatMap_cons]
  | succ i =>
   rw[List.flatMap_cons,List.drop_append,List.drop_of_length_le (by simp;omega)]
   have:(i+1) * 14 - (cellsEv o r a).length=i * 14:=by simp;omega
   rw[this,ih (by simpa using h)]
   simp
theorem fmE_len (o r:Bool)(l:List Ev):(l.flatMap (cellsEv o r)).length=l.length * 14:=by
 induction l with
 | nil=>rfl
 | cons a l ih=>rw [List.flatMap_cons,List.length_append,ih];simp;omega
def keyE (l:List Ev)(x:Int):Int:=(l.map (·.Stamp)).getD x.toNat 0
def posN (l:List Ev)(n:Nat):List Int:=((List.range n).filter fun i=>decide (0 < (l.map (·.Stamp)).getD i 0)).map fun i=>Int.ofNat i
def posL (l:List Ev):List Int:=posN l l.length
def ordF (l:List Ev):List Int:=ordL (keyE l) (posL l)
theorem posN_succ (l:List Ev)(n:Nat):posN l (n+1)=posN l n ++ (if 0 < (l.map (·.Stamp)).getD n 0 then [(n:Int)] else []):=by
 simp only[posN,List.range_succ,List.filter_append,List.map_append]
 congr 1
 by_cases h:0 < (l.map (·.Stamp)).getD n 0
 ·simp only[List.filter_cons,List.filter_nil,h,decide_true,if_true];rfl
 ·simp only[List.filter_cons,List.filter_nil,h,decide_false,if_false];rfl
theorem posN_mem {l:List Ev}{n:Nat}{x:Int}(h:x ∈ posN l n):∃ i:Nat,i < n∧x=i∧0 < (l.map (·.Stamp)).getD i 0:=by
 simp only[posN,List.mem_map,List.mem_filter,List.mem_range,decide_eq_true_eq] at h
 obtain⟨i,⟨h1,h2⟩,rfl⟩:=h
 exact⟨i,h1,rfl,h2⟩
theorem posN_asc (l:List Ev)(n:Nat):(posN l n).Pairwise (· < ·):=by
 unfold posN
 rw[List.pairwise_map]
 refine List.Pairwise.imp ?_ (List.Pairwise.filter _ List.pairwise_lt_range)
 intro a b h
 exact Int.ofNat_lt.2 h
theorem posN_len (l:List Ev)(n:Nat):(posN l n).length≤n:=by
 unfold posN
 rw[List.length_map]
 exact Nat.le_trans (List.length_filter_le _ _) (by simp)
theorem ordF_mem {l:List Ev}{x:Int}(h:x ∈ ordF l):∃ i:Nat,i < l.length∧x=i∧0 < (l.map (·.Stamp)).getD i 0 :=
 posN_mem ((ordL_spec (keyE l) (posN_asc l _)).1.subset h)
theorem ordF_len (l:List Ev):(ordF l).length≤l.length:=by
 have:=(ordL_spec (keyE l) (posN_asc l l.length)).1.length_eq
 unfold ordF posL
 rw[this];exact posN_len l _
def toF (L:List Int)(k:Nat):Int:=L.getD k 0
theorem rF_toF (L:List Int):(rF (toF L) L.length:AU)=sI true L:=by
 show AV.sl true () 1 L.length (tF (toF L) L.length)=_
 congr 1
 apply List.ext_getElem
 ·simp
 ·intro i h1 h2
  have:i < L.length:=by simpa using h2
  simp[toF,this]
theorem seg_toF (L:List Int):seg (toF L) 0 L.length=L:=by
 apply List.ext_getElem
 ·simp[seg_len]
 ·intro i h1 h2
  simp[seg,toF,h2]
theorem toF_SM (key:Int→Int){L:List Int}(hL:L.Pairwise (· < ·)):SM key (toF L) 0 L.length (toF (ordL key L)):=by
 obtain⟨h1,h2⟩:=ordL_spec key hL
 have hl:=h1.length_eq
 refine⟨fun k hk=>?_,?_,fun i j _ hij hj=>?_⟩
 ·have e1:L.length≤k:=by omega
  simp[toF,List.getD_eq_getElem?_getD,List.getElem?_eq_none e1,List.getElem?_eq_none (by omega:(ordL key L).length≤k)]
 ·rw[Nat.sub_zero,seg_toF]
  have:=seg_toF (ordL key L)
  rw[hl] at this
  rw[this];exact h1
 ·have:=List.pairwise_iff_getElem.1 h2 i j (by omega) (by omega) hij
  simpa [toF,List.getD_eq_getElem?_getD,show i < (ordL key L).length by omega,show j < (ordL key L).length by omega] using this
set_option maxHeartbeats 4000000 in
theorem sort_fn {key:Int→Int}{g:Nat}{cs:List AU}(L:List Int)(hL:L.Pairwise (· < ·))(hn:L.length≤100000000)(hcl:ClOk key (· ∈ L) g cs) :
  FnC Try.prog 91 [.nod (sI true L)] [.view 1000000 0 [] 0 L.length,.clos g [.vptr () cs]] [.nod (sI true (ordL key L))] (.tuple []):=by
 have hc:=stable_fn hcl (toF L) L.length hn (fun k hk=>by simp[toF,hk]) (fun i j hij hj=>by
  have:=List.pairwise_iff_getElem.1 hL i j (by omega) hj hij
  simpa [toF,List.getD_eq_getElem?_getD,show i < L.length by omega,hj] using this) _ (toF_SM key hL)
 have hlen:=(ordL_spec key hL).1.length_eq
 have e2:=rF_toF (ordL key L)
 rw[hlen] at e2
 rw[rF_toF,e2] at hc
 refine FnC.go ok91 rfl ?_
 refine WL.reg (RL.o (by simp;rfl) (RL.callK false [(1000000,[])] hc (by simp) (by simp) (by simp[gkey]) (by simp) (by simp[hlen]) (RL.nil ⟨_,by simp;rfl,.inl rfl,?_⟩)))
 simp[fi91]
end Go.OT
namespace Go.OT
open Go.Proofs
theorem ty23:Ty Try.prog 23 (List Int) (fun l=>[sI false l]) (fun l=>l.length≤9223372036854775807) :=
 (Ty.slice (s:=1) Try.underlying23 (by kernel_rfl) (by decide) (fun _=>rfl) ty3).map id (fun l=>by rw[flatMap_one];rfl) (fun l h=>h.1)
theorem ta23:TyA Try.prog 23 (List Int) (fun l=>sI false l) (fun l=>l.length≤9223372036854775807):=TyA.slice Try.underlying23 ty23
end Go.OT
namespace Go.OT
open Go.Proofs
theorem lendE (o r:Bool)(l:List Ev):(lendL (l.flatMap (cellsEv o r)):List AU)=l.flatMap (cellsEv false false):=by
 rw[lendL_eq]
 induction l with
 | nil=>rfl
 | cons a l ih=>rw [List.flatMap_cons,List.map_append,ih,List.flatMap_cons];simp[lend,Function.comp_def]
theorem keyE_at {l:List Ev}{i:Nat}(h:i < l.length):keyE l (i:Int)=l[i].Stamp:=by
 simp[keyE,h]
set_option maxHeartbeats 4000000 in
theorem order1_fn (l:List Ev)(a b:Int)(ha:∃ i:Nat,i < l.length∧a=i)(hb:∃ i:Nat,i < l.length∧b=i):FnC Try.prog 92 [] [i64 a,i64 b,.vptr () [sEv l]] [] (i64 (cmpI (keyE l a) (keyE l b))):=by
 obtain⟨i,hi,rfl⟩:=ha
 obtain⟨j,hj,rfl⟩:=hb
 rw[keyE_at hi,keyE_at hj]
 have f1:=fmE_drop (o:=false) (r:=false) hi
 have f2:=fmE_drop (o:=false) (r:=false) hj
 have g1:14≤l.length * 14 - i * 14:=by omega
 have g2:14≤l.length * 14 - j * 14:=by omega
 refine FnC.go ok92 rfl ?_
 refine WL.sreg (by simp;rfl) (by simp;rfl) ?_
 refine WL.seq (WL.draw mixed (by simp[cleanL,noH]) (DL.o (by simp[hi,hj,f1,f2,g1,g2];exact⟨rfl,rfl⟩) (DL.call0 false (cmp_fn l[i].Stamp l[j].Stamp) (by simp) (by simp) (DL.o (by simp;exact⟨rfl,rfl⟩) (DL.nil ⟨by kernel_rfl,_,by simp;rfl,?_⟩)))))
 refine WL.ret ⟨.inr rfl,?_⟩
 simp[fi92]
abbrev orS (l:List Ev)(i:Nat):SL:=[(100,0,.bptr 1 1 0),(101,0,sEv l),(199,1,.non),(300,0,sI true (posN l i)),(600,0,sEv l),(700,0,i64 l.length),(800,0,i64 i)]
set_option maxHeartbeats 8000000 in
theorem order_fn (l:List Ev)(hn:l.length≤1000):FnC Try.prog 33 [] [sEv l] [] (sI true (ordF l)):=by
 refine FnC.go ok33 rfl ?_
 refine WL.sreg (by simp;rfl) (by simp;rfl) ?_
 refine WL.sreg (by simp;rfl) (by simp;rfl) ?_
 refine WL.seq (WL.sreg (by simp;rfl) (by simp;rfl) ?_)
 refine WL.block (WL.count l.length (fun i=>orS l i) (fun _=>True) (by simp[posN]) trivial fun i hi _=>?_)
 by_cases hlt:i < l.length
 ·have f1:=fmE_drop (o:=false) (r:=false) hlt
  have g1:14≤l.length * 14 - i * 14:=by omega
  have w:IntKind.wrap .i64 ((i:Int)+1)=((i+1:Nat):Int):=by rw[wrap_small (by omega) (by omega)];omega
  have hst:(l.map (·.Stamp)).getD i 0=l[i].Stamp:=by simp[hlt]
  have hps:=posN_succ l i
  rw[hst] at hps
  have hlen:=posN_len l i
  refine WL.sreg (by simp[hlt];rfl) (by simp;rfl) ?_
  refine WL.seq (WL.cond (t:=true) (by simp[hlt]) (fun _=>WL.skip ?_) (by simp))
  refine WL.seq (WL.block (WL.sreg (by simp[hlt,f1,g1];rfl) (by simp;rfl) ?_))
  by_cases hs:0 < l[i].Stamp
  ·rw[if_pos hs] at hps
   have m1:((posN l i).length+1) * 8≤140737488355328:=by omega
   have m2:(posN l i).length+1≤maxLen:=by unfold maxLen;omega
   refine WL.sreg (by simp[hs];rfl) (by simp;rfl) ?_
   refine WL.cond (t:=true) (by simp) (fun _=>?_) (by simp)
   refine WL.reg (RL.run (by simp[m1,m2];rfl) ⟨_,by simp;rfl,?_⟩)
   refine WL.reg (RL.run (by simp[w];rfl) ⟨_,by simp;rfl,hlt,?_,trivial⟩)
   simp[hps]
   exact List.take_of_length_le (by simp)
  ·rw[if_neg hs] at hps
   refine WL.sreg (by simp[hs];rfl) (by simp;rfl) ?_
   refine WL.cond (t:=false) (by simp) (by simp) fun _=>WL.skip ?_
   refine WL.reg (RL.run (by simp[w];rfl) ⟨_,by simp;rfl,hlt,?_,trivial⟩)
   simp[hps]
 ·obtain rfl:i=l.length:=by omega
  refine WL.sreg (by simp;rfl) (by simp;rfl) ?_
  refine WL.seq (WL.cond (t:=false) (by simp) (by simp) fun _=>WL.exit ?_)
  have hlen:=posN_len l l.length
  have hc:=sort_fn (key:=keyE l) (g:=92) (cs:=[sEv l]) (posN l l.length) (posN_asc l _) (by omega) (fun a b ha hb=>by
   obtain⟨i,h1,h2,_⟩:=posN_mem ha
   obtain⟨j,h3,h4,_⟩:=posN_mem hb
   exact order1_fn l a b ⟨i,h1,h2⟩ ⟨j,h3,h4⟩)
  refine WL.sregC (RL.o (by simp;rfl) (RL.call true [(300,[])] hc (by simp) (by simp) (by simp[gkey,lendE]) (by simp[immI]) (RL.nil ⟨_,by simp;rfl,?_⟩)))
  refine WL.sregC (RL.mv (by decide) (RL.o (by simp;rfl) (RL.nil ⟨_,by simp;rfl,WL.ret ⟨.inr rfl,?_⟩⟩)))
  simp[fi33,ordF,posL]
end Go.OT
namespace Go.OT
open Go.Proofs
def badF (k code:Int):Bool:=if code=8 then decide (k=1) || decide (k=2) else if code=9 then decide (k=1) || (decide (k=2) || (decide (k=6) || decide (k=7))) else if code=10 then decide (k=2) else false
set_option maxHeartbeats 8000000 in
theorem bad_fn (q:Op)(code:Int):FnC Try.prog 37 [] [encO false q,i64 code] [] (bl (badF q.Kind code)):=by
 refine FnC.go ok37 rfl ?_
 refine WL.sreg (by simp;rfl) (by simp;rfl) ?_
 refine WL.seq (WL.sreg (by simp;rfl) (by simp;rfl) ?_)
 refine WL.block ?_
 by_cases c8:code=8
 ·refine WL.sreg (by simp[c8];rfl) (by simp;rfl) (WL.cond (t:=true) (by simp) (fun _=>?_) (by simp))
  by_cases k1:q.Kind=1
  ·refine WL.sreg (by simp[k1];rfl) (by simp;rfl) (WL.ret ⟨.inr rfl,?_⟩)
   simp[fi37,badF,c8,k1]
  ·refine WL.sreg (by simp[beq_false_of_ne k1];rfl) (by simp;rfl) (WL.ret ⟨.inr rfl,?_⟩)
   by_cases k2:q.Kind=2<;>simp [fi37,badF,c8,k1,k2]
 refine WL.sreg (by simp[beq_false_of_ne c8];rfl) (by simp;rfl) (WL.cond (t:=false) (by simp[c8]) (by simp) fun _=>?_)
 by_cases c9:code=9
 ·refine WL.sreg (by simp[c9];rfl) (by simp;rfl) (WL.cond (t:=true) (by simp) (fun _=>?_) (by simp))
  by_cases k1:q.Kind=1
  ·refine WL.sreg (by simp[k1];rfl) (by simp;rfl) (WL.ret ⟨.inr rfl,?_⟩)
   simp[fi37,badF,c9,k1]
  ·by_cases k2:q.Kind=2
   ·refine WL.sreg (by simp[beq_false_of_ne k1,k2];rfl) (by simp;rfl) (WL.ret ⟨.inr rfl,?_⟩)
    simp[fi37,badF,c9,k1,k2]
   ·by_cases k6:q.Kind=6
    ·refine WL.sreg (by simp[beq_false_of_ne k1,beq_false_of_ne k2,k6];rfl) (by simp;rfl) (WL.ret ⟨.inr rfl,?_⟩)
     simp[fi37,badF,c9,k1,k2,k6]
    ·refine WL.sreg (by simp[beq_false_of_ne k1,beq_false_of_ne k2,beq_false_of_ne k6];rfl) (by simp;rfl) (WL.ret ⟨.inr rfl,?_⟩)
     by_cases k7:q.Kind=7<;>simp [fi37,badF,c9,k1,k2,k6,k7]
 refine WL.sreg (by simp[beq_false_of_ne c9];rfl) (by simp;rfl) (WL.cond (t:=false) (by simp[c9]) (by simp) fun _=>?_)
 by_cases c10:code=10
 ·refine WL.sreg (by simp[c10];rfl) (by simp;rfl) (WL.cond (t:=true) (by simp) (fun _=>?_) (by simp))
  refine WL.sreg (by simp;rfl) (by simp;rfl) (WL.ret ⟨.inr rfl,?_⟩)
  by_cases k2:q.Kind=2<;>simp [fi37,badF,c10,k2]
 refine WL.sreg (by simp[beq_false_of_ne c10];rfl) (by simp;rfl) (WL.cond (t:=false) (by simp[c10]) (by simp) fun _=>WL.skip ?_)
 refine WL.sreg (by simp;rfl) (by simp;rfl) (WL.ret ⟨.inr rfl,?_⟩)
 simp[fi37,badF,c8,c9,c10]
def tmPrev (l:List Ev)(i:Nat)(e:Ev):Bool:=decide (0 < i) && decide (e.Begin < (l.getD (i - 1) e).Begin)
def tmBad (l:List Ev)(i:Nat)(c:Int)(e:Ev):Bool:=decide (e.Client < 0) || (decide (c≤e.Client) || (decide (e.Begin < 1) || (tmPrev l i e || decide (e.End < 0))))
def tmStamp (e:Ev):Bool:=(decide (0 < e.End) && (decide (e.Stamp < e.Begin) || decide (e.End < e.Stamp))) || (decide (e.End=0) && (decide (e.Stamp ≠ 0) && decide (e.Stamp < e.Begin)))
def tmOver (e o:Ev):Bool:=decide (o.Client=e.Client) && (decide (o.End < 1) || decide (e.Begin≤o.End))
def timesE (l:List Ev)(i:Nat)(c:Int)(e:Ev):Bool:=!tmBad l i c e && (!tmStamp e && !(l.take i).any (tmOver e))
def timesF (l:List Ev)(i:Nat)(c:Int):Bool:=match l[i]? with
 | some e=>timesE l i c e
 | none=>true
theorem timesF_at {l:List Ev}{i:Nat}(h:i < l.length)(c:Int):timesF l i c=timesE l i c l[i]:=by
 simp[timesF,h]
abbrev bxE (b:Nat)(e:Ev):SL:=[(100 * b,0,.bptr b 1 0),(100 * b+1,0,i64 e.Client),(100 * b+2,0,i64 e.op.Kind),(100 * b+3,0,i64 e.op.Page),(100 * b+4,0,i64 e.op.Handle),(100 * b+5,0,i64 e.op.Off),(100 * b+6,0,i64 e.op.N),(100 * b+7,0,sU false e.op.Data),(100 * b+8,0,i64 e.res.Code),(100 * b+9,0,i64 e.res.Page),(100 * b+10,0,i64 e.res.Handle),(100 * b+11,0,sU false e.res.Data),(100 * b+12,0,i64 e.Begin),(100 * b+13,0,i64 e.Stamp),(100 * b+14,0,i64 e.End),(100 * b+99,1,.non)]
abbrev tmS (l:List Ev)(i:Nat)(r:SL):SL:=[(0,0,sEv l),(100,0,i64 i)] ++ r
abbrev tmQ (v:Bool):Ex→SL→Prop:=fun e L=>e=Ex.ret∧RetOk fi135.rs [] (bl v) L
theorem fmE_take (o r:Bool)(l:List Ev)(i:Nat):(l.flatMap (cellsEv o r)).take (i * 14)=(l.take i).flatMap (cellsEv o r):=by
 induction l generalizing i with
 | nil=>simp
 | cons a l ih =>
  cases i with
  | zero=>simp
  | succ i =>
   rw[List.flatMap_cons,List.take_append,List.take_of_length_le (by simp;omega),List.take_succ_cons,List.flatMap_cons]
   congr 1
   have:(i+1) * 14 - (cellsEv o r a).length=i * 14:=by simp;omega
   rw[this,ih]
theorem any_take_succ {α:Type}{p:α→Bool}{l:List α}{k:Nat}(h:k < l.length)(hp:(l.take k).any p=false)(hk:p l[k]=false):(l.take (k+1)).any p=false:=by
 rw[take_succ_snoc h,List.any_append,hp]
 simp[hk]
theorem any_of_at {α:Type}{p:α→Bool}{l:List α}{k:Nat}(h:k < l.length)(hk:p l[k]=true):l.any p=true:=List.any_eq_true.2 ⟨_,List.getElem_mem h,hk⟩
abbrev tmT (m:List Ev)(e:Ev)(k:Nat):SL:=bxE 7 e ++ [(8500,0,sEv m),(8600,0,i64 m.length),(8700,0,i64 k)]
set_option maxHeartbeats 16000000 in
theorem times_loop (l:List Ev)(hn:l.length≤1000)(i:Nat)(hi:i < l.length)(e:Ev):WL Try.prog fi135.nt c135_20 (tmS l i (bxE 7 e ++ [(6700,0,bl false)])) (tmQ (!(l.take i).any (tmOver e))):=by
 have hlen:=fmE_len false false l
 have htk:=fmE_take false false l i
 have hmi:min i l.length=i:=by omega
 obtain⟨m,hm⟩:∃ m,m=l.take i:=⟨_,rfl⟩
 have hml:m.length=i:=by rw[hm,List.length_take];omega
 refine WL.seq (WL.label ?_)
 refine WL.seq (WL.sreg (by simp[hi,Nat.le_of_lt hi,htk];rfl) (by simp;rfl) ?_)
 rw[← hm]
 refine WL.block (WL.count m.length (fun k=>tmT m e k) (fun k=>(m.take k).any (tmOver e)=false) (by simp[hml]) (by simp) fun k hk hp=>?_)
 by_cases hlt:k < m.length
 ·have f1:=fmE_drop (o:=false) (r:=false) hlt
  have g1:14≤m.length * 14 - k * 14:=by omega
  have w:IntKind.wrap .i64 ((k:Int)+1)=((k+1:Nat):Int):=by rw[wrap_small (by omega) (by omega)];omega
  refine WL.sreg (by simp[hlt];rfl) (by simp;rfl) ?_
  refine WL.seq (WL.cond (t:=true) (by simp[hlt]) (fun _=>WL.skip ?_) (by simp))
  refine WL.seq (WL.block (WL.sreg (by simp[hlt,f1,g1];rfl) (by simp;rfl) ?_))
  have next:∀ (h:tmOver e m[k]=false),WL Try.prog fi135.nt c135_13 (tmT m e k) (Ex.thenL (fun L'=>k < m.length∧L'=tmT m e (k+1)∧(m.take (k+1)).any (tmOver e)=false) (Ex.blkL 1 (Ex.thenL (fun L'=>WL Try.prog fi135.nt c135_18 L' (tmQ (!m.any (tmOver e)))) (tmQ (!m.any (tmOver e)))))):=fun h=>by
   refine WL.reg (RL.run (by simp[w];rfl) ⟨_,by simp;rfl,hlt,?_,any_take_succ hlt hp h⟩)
   simp
  have stop:∀ (h:tmOver e m[k]=true) (L:SL),L=tmT m e k ++ [(10500,0,bl true)]→WL Try.prog fi135.nt c135_9 (tmT m e k ++ [(10500,0,bl true)]) (tmQ (!m.any (tmOver e))):=fun h L _=>by
   rw[any_of_at hlt h]
   refine WL.sreg (by simp;rfl) (by simp;rfl) (WL.ret ⟨rfl,?_⟩)
   simp[fi135]
  generalize ho:m[k]=o at next stop ⊢
  by_cases c1:o.Client=e.Client
  ·have c1':(o.Client != e.Client)=false:=by simp[c1]
   refine WL.seq (WL.sreg (by simp[c1'];rfl) (by simp;rfl) ?_)
   refine WL.cond (t:=false) (by simp) (by simp) fun _=>WL.skip ?_
   by_cases c2:o.End < 1
   ·refine WL.sreg (by simp[c2];rfl) (by simp;rfl) ?_
    refine WL.cond (t:=true) (by simp) (fun _=>?_) (by simp)
    refine WL.mono (Q':=tmQ (!m.any (tmOver e))) ?_ fun x L h=>?_
    ·exact stop (by simp[tmOver,c1,c2]) _ rfl
    ·obtain⟨rfl,h⟩:=h;exact⟨rfl,h⟩
   ·by_cases c3:e.Begin≤o.End
    ·refine WL.sreg (by simp[c2,c3];rfl) (by simp;rfl) ?_
     refine WL.cond (t:=true) (by simp) (fun _=>?_) (by simp)
     refine WL.mono (Q':=tmQ (!m.any (tmOver e))) ?_ fun x L h=>?_
     ·exact stop (by simp[tmOver,c1,c2,c3]) _ rfl
     ·obtain⟨rfl,h⟩:=h;exact⟨rfl,h⟩
    ·refine WL.sreg (by simp[c2,c3];rfl) (by simp;rfl) ?_
     refine WL.cond (t:=false) (by simp) (by simp) fun _=>WL.skip ?_
     have:=next (by simp[tmOver,c1,c2,c3])
     refine WL.fin [105] (by simp;rfl) ?_
     exact this
  ·have c1':(o.Client != e.Client)=true:=by simp[c1]
   refine WL.seq (WL.sreg (by simp[c1'];rfl) (by simp;rfl) ?_)
   refine WL.cond (t:=true) (by simp) (fun _=>WL.exit ?_) (by simp)
   have:=next (by simp[tmOver,c1])
   refine WL.fin [9,95] (by simp;rfl) ?_
   exact this
 ·obtain rfl:k=m.length:=by omega
  rw[List.take_length] at hp
  refine WL.sreg (by simp;rfl) (by simp;rfl) ?_
  refine WL.seq (WL.cond (t:=false) (by simp) (by simp) fun _=>WL.exit ?_)
  rw[hp]
  refine WL.sreg (by simp;rfl) (by simp;rfl) (WL.ret ⟨rfl,?_⟩)
  simp[fi135]
end Go.OT
namespace Go.OT
open Go.Proofs
def plainRes (r:Rs):Bool:=decide (r.Page=0) && (decide (r.Handle=0) && decide (r.Data=[]))
def stepR (s:St)(e:Ev):Bool × St :=
 if (decide (0 < e.End) && badF e.op.Kind e.res.Code)=true then (plainRes e.res,s) else (decide (e.End=0) || SameRes (DoB s e.Client e.op).2.2 e.res,(DoB s e.Client e.op).2.1)
def stepW (s:St)(e:Ev):Option St :=
 if (decide (e.End=0) || SameRes (DoB s e.Client e.op).2.2 e.res)=true then some (DoB s e.Client e.op).2.1
 else if (!badF e.op.Kind e.res.Code || !SameRes e.res (rsE e.res.Code))=true then none else some s
theorem step_code (s:St)(c:Nat)(q:Op):(Step s c q).2.Code=0:=by
 simp only[Step]
 repeat' split
 all_goals rfl
theorem codeOf_le (s:St)(l:List Int)(q:Op):0≤codeOf s l q∧codeOf s l q≤7:=by
 simp only[codeOf]
 repeat' split
 all_goals decide
theorem DoB_code (s:St)(cl:Int)(q:Op):0≤(DoB s cl q).2.2.Code∧(DoB s cl q).2.2.Code≤7:=by
 unfold DoB
 split
 ·simp[rsE]
 ·split
  ·rw[step_code];exact⟨by decide,by decide⟩
  ·exact codeOf_le _ _ _
theorem badF_code {k c:Int}(h:badF k c=true):8≤c:=by
 unfold badF at h
 split at h
 ·omega
 ·split at h
  ·omega
  ·split at h
   ·omega
   ·cases h
theorem stepW_eq (s:St)(e:Ev)(h0:0≤e.End):stepW s e=if (stepR s e).1=true then some (stepR s e).2 else none:=by
 have hc:=DoB_code s e.Client e.op
 unfold stepW stepR
 by_cases p0:e.End=0
 ·have p1:¬ (0 < e.End):=by omega
  simp[p0]
 ·have p1:0 < e.End:=by omega
  cases hb:badF e.op.Kind e.res.Code with
  | true =>
   have h8:=badF_code hb
   have hs:SameRes (DoB s e.Client e.op).2.2 e.res=false:=by
    have:((DoB s e.Client e.op).2.2.Code == e.res.Code)=false:=beq_false_of_ne (by omega)
    simp[SameRes,this]
   have hp:SameRes e.res (rsE e.res.Code)=plainRes e.res:=by
    simp[SameRes,plainRes,rsE]
    by_cases z1:e.res.Page=0<;>by_cases z2:e.res.Handle=0<;>by_cases z3:e.res.Data=[]<;>simp [z1,z2,z3]
   simp only[hs,hp,p0,p1,decide_true,decide_false,Bool.or_false,Bool.not_true,Bool.false_or,Bool.true_and,if_true]
   cases plainRes e.res<;>simp
  | false =>
   simp only[p0,p1,decide_true,decide_false,Bool.and_false,Bool.not_false,Bool.true_or,Bool.false_or,if_true,Bool.false_eq_true,if_false]
def atE (l:List Ev)(x:Int):Ev:=(l[x.toNat]?).getD ⟨0,⟨0,0,0,0,0,[]⟩,⟨0,0,0,[]⟩,0,0,0⟩
theorem atE_at {l:List Ev}{i:Nat}(h:i < l.length):atE l (i:Int)=l[i]:=by simp[atE,h]
def goW {σ:Type}(l:List Ev)(see:σ→Int→St→σ):St→σ→List Int→Int × St × σ
 | s,a,[]=>(0,s,a)
 | s,a,x :: r=>if (stepR s (atE l x)).1=true then goW l see (stepR s (atE l x)).2 (see a x (stepR s (atE l x)).2) r else (x+1,s,a)
theorem goW_code {σ τ:Type}(l:List Ev)(f:σ→Int→St→σ)(g:τ→Int→St→τ):∀ (o:List Int) (s:St) (a:σ) (b:τ),(goW l f s a o).1=(goW l g s b o).1∧(goW l f s a o).2.1=(goW l g s b o).2.1
 | [],s,a,b=>⟨rfl,rfl⟩
 | x :: r,s,a,b=>by
  simp only[goW]
  split
  ·exact goW_code l f g r _ _ _
  ·exact⟨rfl,rfl⟩
theorem goW_last (l:List Ev):∀ (o:List Int) (s:St),(goW l (fun _ _ t=>t) s s o).2.2=(goW l (fun _ _ t=>t) s s o).2.1
 | [],s=>rfl
 | x :: r,s=>by
  simp only[goW]
  split
  ·exact goW_last l r _
  ·rfl
def firstBad (l:List Ev)(c:Int):Option Nat:=(List.range l.length).find? fun i=>!timesF l i c
theorem firstBad_some {l:List Ev}{c:Int}{i:Nat}(hi:i < l.length)(h:∀ j,j < i→timesF l j c=true)(hb:timesF l i c=false):firstBad l c=some i:=by
 unfold firstBad
 rw[List.find?_range_eq_some]
 exact⟨by simp[hb],List.mem_range.2 hi,fun j hj=>by simp[h j hj]⟩
theorem firstBad_none {l:List Ev}{c:Int}(h:∀ j,j < l.length→timesF l j c=true):firstBad l c=none:=by
 unfold firstBad
 rw[List.find?_eq_none]
 intro j hj
 simp[h j (List.mem_range.1 hj)]
def walkF {σ:Type}(see:σ→Int→St→σ)(a:σ)(l:List Ev)(p c:Int):Int × St × σ :=
 if newBad p c=true then (-1,newSt p c,a) else match firstBad l c with
  | some i=>(i+1,newSt p c,a)
  | none=>goW l see (newSt p c) a (ordF l)
def noSee:Unit→Int→St→Unit:=fun _ _ _=>()
def chkF (l:List Ev)(p c:Int):Int:=(walkF noSee () l p c).1
def finF (l:List Ev)(p c:Int):St × Bool:=if chkF l p c=0 then ((walkF noSee () l p c).2.1,true) else (⟨[],[],[]⟩,false)
theorem walkF_code {σ:Type}(see:σ→Int→St→σ)(a:σ)(l:List Ev)(p c:Int):(walkF see a l p c).1=chkF l p c:=by
 unfold chkF walkF
 split
 ·rfl
 ·split
  ·rfl
  ·exact (goW_code l see noSee _ _ a ()).1
theorem walkF_last (l:List Ev)(p c:Int):(walkF (fun _ _ t=>t) (newSt p c) l p c).2.2=(walkF noSee () l p c).2.1:=by
 unfold walkF
 split
 ·rfl
 ·split
  ·rfl
  ·rw[goW_last];exact (goW_code l _ noSee _ _ _ ()).2
theorem stepR_ok {s:St}(h:OkSt s)(e:Ev):OkSt (stepR s e).2:=by
 unfold stepR
 split
 ·exact h
 ·exact h.doB _ _
structure EvOk (l:List Ev):Prop where
 n:l.length≤1000
 d:∀ e ∈ l,e.op.Data.length≤1000
end Go.OT
namespace Go.OT
open Go.Proofs
set_option maxHeartbeats 8000000 in
theorem refbad_fn (q:Op)(code:Int):FnC Try.prog 38 [] [encO false q,i64 code] [] (bl (badF q.Kind code)):=by
 refine FnC.go ok38 rfl ?_
 refine WL.sreg (by simp;rfl) (by simp;rfl) ?_
 refine WL.seq (WL.sreg (by simp;rfl) (by simp;rfl) ?_)
 refine WL.block ?_
 by_cases c8:code=8
 ·refine WL.sreg (by simp[c8];rfl) (by simp;rfl) (WL.cond (t:=true) (by simp) (fun _=>?_) (by simp))
  by_cases k1:q.Kind=1
  ·refine WL.sreg (by simp[k1];rfl) (by simp;rfl) (WL.ret ⟨.inr rfl,?_⟩)
   simp[fi38,badF,c8,k1]
  ·refine WL.sreg (by simp[beq_false_of_ne k1];rfl) (by simp;rfl) (WL.ret ⟨.inr rfl,?_⟩)
   by_cases k2:q.Kind=2<;>simp [fi38,badF,c8,k1,k2]
 refine WL.sreg (by simp[beq_false_of_ne c8];rfl) (by simp;rfl) (WL.cond (t:=false) (by simp[c8]) (by simp) fun _=>?_)
 by_cases c9:code=9
 ·refine WL.sreg (by simp[c9];rfl) (by simp;rfl) (WL.cond (t:=true) (by simp) (fun _=>?_) (by simp))
  by_cases k1:q.Kind=1
  ·refine WL.sreg (by simp[k1];rfl) (by simp;rfl) (WL.ret ⟨.inr rfl,?_⟩)
   simp[fi38,badF,c9,k1]
  ·by_cases k2:q.Kind=2
   ·refine WL.sreg (by simp[beq_false_of_ne k1,k2];rfl) (by simp;rfl) (WL.ret ⟨.inr rfl,?_⟩)
    simp[fi38,badF,c9,k1,k2]
   ·by_cases k6:q.Kind=6
    ·refine WL.sreg (by simp[beq_false_of_ne k1,beq_false_of_ne k2,k6];rfl) (by simp;rfl) (WL.ret ⟨.inr rfl,?_⟩)
     simp[fi38,badF,c9,k1,k2,k6]
    ·refine WL.sreg (by simp[beq_false_of_ne k1,beq_false_of_ne k2,beq_false_of_ne k6];rfl) (by simp;rfl) (WL.ret ⟨.inr rfl,?_⟩)
     by_cases k7:q.Kind=7<;>simp [fi38,badF,c9,k1,k2,k6,k7]
 refine WL.sreg (by simp[beq_false_of_ne c9];rfl) (by simp;rfl) (WL.cond (t:=false) (by simp[c9]) (by simp) fun _=>?_)
 by_cases c10:code=10
 ·refine WL.sreg (by simp[c10];rfl) (by simp;rfl) (WL.cond (t:=true) (by simp) (fun _=>?_) (by simp))
  refine WL.sreg (by simp;rfl) (by simp;rfl) (WL.ret ⟨.inr rfl,?_⟩)
  by_cases k2:q.Kind=2<;>simp [fi38,badF,c10,k2]
 refine WL.sreg (by simp[beq_false_of_ne c10];rfl) (by simp;rfl) (WL.cond (t:=false) (by simp[c10]) (by simp) fun _=>WL.skip ?_)
 refine WL.sreg (by simp;rfl) (by simp;rfl) (WL.ret ⟨.inr rfl,?_⟩)
 simp[fi38,badF,c8,c9,c10]
abbrev spS (s:St)(e:Ev)(r:SL):SL:=[(200,0,.bptr 2 1 0),(201,0,.view 1000000 0 [] 0 s.There.length),(202,0,.view 1000100 0 [] 0 s.Body.length),(203,0,.view 1000200 0 [] 0 s.Handles.length),(299,1,.non)] ++ (bxE 3 e ++ (r ++ ghT s))
abbrev spQ (s':St)(v:Bool):Ex→SL→Prop:=fun e L=>e=Ex.ret∧RetOk fi90.rs (gsT s') (bl v) L
set_option maxHeartbeats 16000000 in
theorem refstep_do (s:St)(h:OkSt s)(e:Ev)(hD:e.op.Data.length≤1000):WL Try.prog fi90.nt c90_3 (spS s e [(1600,0,bl false)]) (spQ (DoB s e.Client e.op).2.1 (decide (e.End=0) || SameRes (DoB s e.Client e.op).2.2 e.res)):=by
 have hdo:=refdo_fn s h e.Client e.op (by unfold Small;omega)
 generalize DoB s e.Client e.op=dd at hdo ⊢
 obtain⟨o',t,r⟩:=dd
 simp only at hdo ⊢
 refine WL.sregC (RL.o (by simp;rfl) ?_)
 refine RL.call true [(1000000,[]),(1000100,[]),(1000200,[])] hdo (by simp) (by simp) (by simp[gkey]) (side_do s t r) ?_
 refine RL.o (by simp;rfl) (RL.nil ⟨_,by simp;rfl,?_⟩)
 by_cases p:e.End=0
 ·have z:(e.End == 0)=true:=by simp[p]
  refine WL.sregC (RL.o (by simp[z];rfl) (RL.g (by simp;rfl) (RL.callN (by simp) (RL.o (by simp;rfl) (RL.nil ⟨_,by simp;rfl,WL.ret ⟨rfl,?_⟩⟩)))))
  simp[fi90,p]
 ·have z:(e.End == 0)=false:=beq_false_of_ne p
  refine WL.sregC (RL.o (by simp[z];rfl) (RL.g (by simp;rfl) (RL.callY0 true (by simp) (refres_fn r e.res) (by simp) (by simp) (RL.o (by simp;rfl) (RL.nil ⟨_,by simp;rfl,WL.ret ⟨rfl,?_⟩⟩)))))
  simp[fi90,p]
set_option maxHeartbeats 16000000 in
theorem refstep_fn (s:St)(h:OkSt s)(e:Ev)(hD:e.op.Data.length≤1000):FnC Try.prog 90 (gsT s) [vwT s,.agg (cellsEv false false e)] (gsT (stepR s e).2) (bl (stepR s e).1):=by
 refine FnC.go ok90 rfl ?_
 refine WL.mono (Q':=spQ (stepR s e).2 (stepR s e).1) ?_ fun x L h=>⟨.inr h.1,h.2⟩
 refine WL.sregC (RL.boxW (by simp;rfl) (by simp) (by simp[isVw]) (by simp) (RL.o (by simp;rfl) (RL.nil ⟨_,by simp;rfl,?_⟩)))
 have hdo:=refstep_do s h e hD
 refine WL.seq ?_
 by_cases p:0 < e.End
 ·have hb:=refbad_fn e.op e.res.Code
  cases hbad:badF e.op.Kind e.res.Code with
  | false =>
   rw[hbad] at hb
   refine WL.sregC (RL.o (by simp[p];rfl) (RL.g (by simp;rfl) (RL.callY0 false (by simp) hb (by simp) (by simp) (RL.o (by simp;rfl) (RL.nil ⟨_,by simp;rfl,?_⟩)))))
   refine WL.cond (t:=false) (by simp) (by simp) fun _=>WL.skip ?_
   simpa [stepR,p,hbad] using hdo
  | true =>
   rw[hbad] at hb
   refine WL.sregC (RL.o (by simp[p];rfl) (RL.g (by simp;rfl) (RL.callY0 false (by simp) hb (by simp) (by simp) (RL.o (by simp;rfl) (RL.nil ⟨_,by simp;rfl,?_⟩)))))
   refine WL.cond (t:=true) (by simp) (fun _=>?_) (by simp)
   by_cases z1:e.res.Page=0
   ·have y1:(e.res.Page == 0)=true:=by simp[z1]
    by_cases z2:e.res.Handle=0
    ·have y2:(e.res.Handle == 0)=true:=by simp[z2]
     refine WL.sreg (by simp[y1,y2];rfl) (by simp;rfl) (WL.ret ⟨rfl,?_⟩)
     by_cases z3:e.res.Data=[]<;>simp [fi90,stepR,plainRes,p,hbad,z1,z2,z3]
    ·have y2:(e.res.Handle == 0)=false:=beq_false_of_ne z2
     refine WL.sreg (by simp[y1,y2];rfl) (by simp;rfl) (WL.ret ⟨rfl,?_⟩)
     simp[fi90,stepR,plainRes,p,hbad,z1,z2]
   ·have y1:(e.res.Page == 0)=false:=beq_false_of_ne z1
    refine WL.sreg (by simp[y1];rfl) (by simp;rfl) (WL.ret ⟨rfl,?_⟩)
    simp[fi90,stepR,plainRes,p,hbad,z1]
 ·refine WL.sregC (RL.o (by simp[p];rfl) (RL.g (by simp;rfl) (RL.callN (by simp) (RL.o (by simp;rfl) (RL.nil ⟨_,by simp;rfl,?_⟩)))))
  refine WL.cond (t:=false) (by simp) (by simp) fun _=>WL.skip ?_
  simpa [stepR,p] using hdo
end Go.OT
namespace Go.OT
open Go.Proofs
@[simp] theorem extra_asg (L:SL) (d:Nat) (c:COd):extra L (.asg d c)=true:=rfl
theorem insA_at (key:Int→Int)(x:Int):∀ (l:List Int) (k:Nat),k≤l.length→(∀ j (h:j < l.length),j < k→¬ key x < key l[j])→(∀ (h:k < l.length),key x < key l[k])→insA key x l=l.take k ++ x :: l.drop k
 | [],k,hk,_,_=>by simp[insA]
 | y :: r,0,_,_,h2=>by
  have:=h2 (by simp)
  simp only[List.getElem_cons_zero] at this
  simp[insA,this]
 | y :: r,k+1,hk,h1,h2=>by
  have:=h1 0 (by simp) (by omega)
  simp only[List.getElem_cons_zero] at this
  have ih:=insA_at key x r k (by simpa using hk) (fun j hj hjk=>by have:=h1 (j+1) (by simpa using hj) (by omega);simpa using this) (fun h=>by have:=h2 (by simpa using h);simpa using this)
  simp[insA,this,ih]
abbrev roS' (l:List Ev)(i:Nat)(r:SL):SL:=[(0,0,sEv l),(300,0,sI true (ordL (keyE l) (posN l i))),(400,0,i64 i)] ++ r
theorem sorted_keys {key:Int→Int}{O:List Int}(h:O.Pairwise (lexLt key)){j k:Nat}(hj:j≤k)(hk:k < O.length):key O[j]≤key O[k]:=by
 by_cases e:j=k
 ·subst e;exact Int.le_refl _
 ·have:=List.pairwise_iff_getElem.1 h j k (by omega) hk (by omega)
  unfold lexLt at this;omega
set_option maxHeartbeats 16000000 in
theorem reford_step (l:List Ev)(hn:l.length≤1000)(i:Nat)(hi:i < l.length)(hs:0 < l[i].Stamp)(Q:Ex→SL→Prop)(hq:Q .nrm [(0,0,sEv l),(300,0,sI true (ordL (keyE l) (posN l (i+1)))),(400,0,i64 i)]) :
  WL Try.prog fi34.nt c34_8 (roS' l i [(1800,0,bl false)]) Q:=by
 obtain⟨sp1,sp2⟩:=ordL_spec (keyE l) (posN_asc l i)
 have hnx:ordL (keyE l) (posN l (i+1))=insA (keyE l) i (ordL (keyE l) (posN l i)):=by
  rw[posN_succ,show (l.map (·.Stamp)).getD i 0=l[i].Stamp by simp[hi],if_pos hs,ordL_snoc]
 have hOl:(ordL (keyE l) (posN l i)).length≤i:=by rw[sp1.length_eq];exact posN_len l i
 have hmem:∀ j (h:j < (ordL (keyE l) (posN l i)).length),∃ u:Nat,u < l.length∧(ordL (keyE l) (posN l i))[j]=(u:Int):=fun j h=>by
  obtain⟨u,h1,h2,_⟩:=posN_mem (sp1.subset (List.getElem_mem h))
  exact⟨u,by omega,h2⟩
 have hki:keyE l (i:Int)=l[i].Stamp:=keyE_at hi
 have f1:=fmE_drop (o:=false) (r:=false) hi
 have g1:14≤l.length * 14 - i * 14:=by omega
 unfold roS'
 rw[hnx] at hq
 generalize ordL (keyE l) (posN l i)=O at sp1 sp2 hOl hmem hq ⊢
 refine WL.sreg (by simp;rfl) (by simp;rfl) ?_
 refine WL.seq (WL.block (WL.loop (ι:={k:Nat // k≤O.length∧∀ j (h:j < O.length),k≤j→l[i].Stamp < keyE l O[j]}) (fun k=>[(0,0,sEv l),(300,0,sI true O),(400,0,i64 i),(500,0,i64 k.1)]) (fun k=>k.1) ⟨O.length,Nat.le_refl _,fun j h h'=>by omega⟩ (by simp) fun x=>?_))
 obtain⟨k,hk,hgt⟩:=x
 simp only
 have fin:(∀ j (h:j < O.length),j < k→¬ l[i].Stamp < keyE l O[j])→WL Try.prog fi34.nt c34_6 [(0,0,sEv l),(300,0,sI true O),(400,0,i64 i),(500,0,i64 k)] Q:=fun hle=>by
  rw[insA_at (keyE l) i O k hk (fun j h h'=>by rw[hki];exact hle j h h') (fun h=>by rw[hki];exact hgt k h (Nat.le_refl _))] at hq
  have e1:min k O.length=k:=by omega
  have m1:k * 8≤140737488355328:=by omega
  have m2:k≤maxLen:=by unfold maxLen;omega
  have m3:(k+1) * 8≤140737488355328:=by omega
  have m4:k+1≤maxLen:=by unfold maxLen;omega
  have e2:k+1+(O.length - k)=O.length+1:=by omega
  have m5:(O.length+1) * 8≤140737488355328:=by omega
  have m6:O.length+1≤maxLen:=by unfold maxLen;omega
  have p1:(List.take k (List.map i64 O)).all plainC=true:=List.all_eq_true.2 fun x hx=>by
   obtain⟨y,_,rfl⟩:=List.mem_map.1 (List.mem_of_mem_take hx)
   rfl
  have p2:(List.take (O.length - k) (List.drop k (List.map i64 O))).all plainC=true:=List.all_eq_true.2 fun x hx=>by
   obtain⟨y,_,rfl⟩:=List.mem_map.1 (List.mem_of_mem_drop (List.mem_of_mem_take hx))
   rfl
  refine WL.sreg (by simp[hk,e1,m1,m2,p1];rfl) (by simp;rfl) ?_
  refine WL.draw mixed (by simp[cleanL,noH]) (DL.run (by simp[hk,e1,e2,m1,m2,m3,m4,m5,m6,p1,p2];exact⟨rfl,rfl⟩) ⟨by kernel_rfl,_,by simp;rfl,?_⟩)
  have e3:List.take k (List.map i64 O)=(O.take k).map i64:=List.map_take.symm
  have e4:List.take (O.length - k) (List.drop k (List.map i64 O))=(O.drop k).map i64:=by rw[← List.map_drop,List.take_of_length_le (by simp)]
  have e5:(List.take k O ++ (i:Int) :: List.drop k O).length=O.length+1:=by simp;omega
  have e6:List.take k (List.take k (List.take k (List.map i64 O)))=(O.take k).map i64:=by rw[List.take_take,List.take_take,Nat.min_self,Nat.min_self,e3]
  have eL:List.take (O.length+1) (List.take (k+1) (List.take k (List.take k (List.take k (List.map i64 O))) ++ [AV.sc (Value.int IntKind.i64 ↑i)]) ++ List.take (O.length - k) (List.drop k (List.map i64 O)))=(List.take k O ++ (i:Int) :: List.drop k O).map i64:=by
   rw[e6,e4,List.take_of_length_le (l:=List.map i64 (List.take k O) ++ _) (by simp;omega),List.take_of_length_le (by simp;omega)]
   simp
  rw[eL,← e5]
  exact hq
 by_cases hk0:0 < k
 ·obtain⟨p,hp⟩:∃ p,p=k - 1:=⟨_,rfl⟩
  have w:IntKind.wrap .i64 ((k:Int) - 1)=(p:Int):=by rw[wrap_small (by omega) (by omega)];omega
  have hpl:p < O.length:=by omega
  have hpl':p+1≤O.length:=hpl
  obtain⟨u,hu,eu⟩:=hmem p hpl
  have f2:=fmE_drop (o:=false) (r:=false) hu
  have g2:14≤l.length * 14 - u * 14:=by omega
  have hku:keyE l O[p]=l[u].Stamp:=by rw[eu];exact keyE_at hu
  refine WL.seq (WL.seq ?_)
  by_cases hc:l[i].Stamp < l[u].Stamp
  ·refine WL.draw mixed (by simp[cleanL,noH]) (DL.run (by simp[hk0,w,hpl,hpl',eu,hu,hi,f1,f2,g1,g2,hc];exact⟨rfl,rfl⟩) ⟨by kernel_rfl,_,by simp;rfl,?_⟩)
   refine WL.cond (t:=true) (by simp) (fun _=>WL.skip ?_) (by simp)
   refine WL.block (WL.reg (RL.run (by simp[w];rfl) ⟨_,by simp;rfl,?_⟩))
   refine⟨⟨p,by omega,fun j h h'=>?_⟩,by simp,by simp only;omega⟩
   by_cases e:j=p
   ·subst e;rw[hku];exact hc
   ·exact hgt j h (by omega)
  ·refine WL.draw mixed (by simp[cleanL,noH]) (DL.run (by simp[hk0,w,hpl,hpl',eu,hu,hi,f1,f2,g1,g2,hc];exact⟨rfl,rfl⟩) ⟨by kernel_rfl,_,by simp;rfl,?_⟩)
   refine WL.cond (t:=false) (by simp) (by simp) fun _=>WL.exit ?_
   refine WL.fin [39] (by simp;rfl) ?_
   refine fin fun j h h'=>?_
   have:=sorted_keys sp2 (j:=j) (k:=p) (by omega) hpl
   rw[hku] at this
   omega
 ·obtain rfl:k=0:=by omega
  refine WL.seq (WL.seq ?_)
  refine WL.draw mixed (by simp[cleanL,noH]) (DL.run (by simp;exact⟨rfl,rfl⟩) ⟨by kernel_rfl,_,by simp;rfl,?_⟩)
  refine WL.cond (t:=false) (by simp) (by simp) fun _=>WL.exit ?_
  refine WL.fin [39] (by simp;rfl) ?_
  exact fin fun j h h'=>by omega
set_option maxHeartbeats 8000000 in
theorem reforder_fn (l:List Ev)(hn:l.length≤1000):FnC Try.prog 34 [] [sEv l] [] (sI true (ordF l)):=by
 refine FnC.go ok34 rfl ?_
 refine WL.sreg (by simp;rfl) (by simp;rfl) ?_
 refine WL.sreg (by simp;rfl) (by simp;rfl) ?_
 refine WL.seq (WL.sreg (by simp;rfl) (by simp;rfl) ?_)
 refine WL.block (WL.count l.length (fun i=>roS' l i []) (fun _=>True) (by simp[posN,ordL]) trivial fun i hi _=>?_)
 by_cases hlt:i < l.length
 ·have f1:=fmE_drop (o:=false) (r:=false) hlt
  have g1:14≤l.length * 14 - i * 14:=by omega
  have w:IntKind.wrap .i64 ((i:Int)+1)=((i+1:Nat):Int):=by rw[wrap_small (by omega) (by omega)];omega
  refine WL.seq (WL.sreg (by simp[hlt];rfl) (by simp;rfl) ?_)
  refine WL.cond (t:=true) (by simp[hlt]) (fun _=>WL.skip ?_) (by simp)
  by_cases hs:l[i].Stamp≤0
  ·have hps:=posN_succ l i
   rw[show (l.map (·.Stamp)).getD i 0=l[i].Stamp by simp[hlt],if_neg (by omega),List.append_nil] at hps
   refine WL.seq (WL.block (WL.seq (WL.sreg (by simp[hlt,f1,g1,hs];rfl) (by simp;rfl) ?_)))
   refine WL.cond (t:=true) (by simp) (fun _=>WL.exit ?_) (by simp)
   refine WL.fin [18] (by simp;rfl) ?_
   refine WL.reg (RL.run (by simp[w];rfl) ⟨_,by simp;rfl,hlt,?_,trivial⟩)
   simp[hps]
  ·refine WL.seq (WL.block (WL.seq (WL.sreg (by simp[hlt,f1,g1,hs];rfl) (by simp;rfl) ?_)))
   refine WL.cond (t:=false) (by simp) (by simp) fun _=>WL.skip ?_
   refine reford_step l hn i hlt (by omega) _ ?_
   refine WL.reg (RL.run (by simp[w];rfl) ⟨_,by simp;rfl,hlt,?_,trivial⟩)
   simp
 ·obtain rfl:i=l.length:=by omega
  refine WL.seq (WL.sreg (by simp;rfl) (by simp;rfl) ?_)
  refine WL.cond (t:=false) (by simp) (by simp) fun _=>WL.exit ?_
  refine WL.sregC (RL.mv (by decide) (RL.o (by simp;rfl) (RL.nil ⟨_,by simp;rfl,WL.ret ⟨.inr rfl,?_⟩⟩)))
  simp[fi34,ordF,posL]
end Go.OT
namespace Go.OT
open Go.Proofs
abbrev alQ (v:Bool):Ex→SL→Prop:=fun e L=>e=Ex.ret∧RetOk fi94.rs [] (bl v) L
abbrev alT (l:List Ev)(i:Nat)(e:Ev)(k:Nat):SL:=[(0,0,sEv l),(100,0,i64 i)] ++ (bxE 7 e ++ [(800,0,i64 k)])
set_option maxHeartbeats 16000000 in
theorem alone_loop (l:List Ev)(hn:l.length≤1000)(i:Nat)(hi:i < l.length)(e:Ev)(x:Nat)(hx:x=56∨x=71):WL Try.prog fi94.nt c94_17 (tmS l i (bxE 7 e ++ [(100 * x,0,bl false)])) (alQ (!(l.take i).any (tmOver e))):=by
 have hmi:min i l.length=i:=by omega
 refine WL.seq (WL.join (alT l i e 0) ?_ ?_)
 ·rcases hx with rfl | rfl
  ·exact WL.regEq (by simp)
  ·exact WL.regEq (by simp)
 refine WL.block (WL.count i (fun k=>alT l i e k) (fun k=>(l.take k).any (tmOver e)=false) rfl (by simp) fun k hk hp=>?_)
 by_cases hlt:k < i
 ·have hkl:k < l.length:=by omega
  have f1:=fmE_drop (o:=false) (r:=false) hkl
  have g1:14≤l.length * 14 - k * 14:=by omega
  have w:IntKind.wrap .i64 ((k:Int)+1)=((k+1:Nat):Int):=by rw[wrap_small (by omega) (by omega)];omega
  refine WL.seq (WL.sreg (by simp[hlt];rfl) (by simp;rfl) ?_)
  refine WL.cond (t:=true) (by simp[hlt]) (fun _=>WL.skip ?_) (by simp)
  have hin:tmOver e l[k]=true→(l.take i).any (tmOver e)=true:=fun h=>by
   have hk':k < (l.take i).length:=by rw[List.length_take];omega
   exact any_of_at hk' (by simpa using h)
  have nx:=fun (h:tmOver e l[k]=false)=>any_take_succ hkl hp h
  refine WL.seq (WL.block (WL.seq ?_))
  by_cases c1:l[k].Client=e.Client
  ·have z1:(l[k].Client == e.Client)=true:=by simp[c1]
   by_cases c2:l[k].End≤0
   ·have hv:=hin (by simp[tmOver,c1];left;omega)
    refine WL.draw mixed (by simp[cleanL,noH]) (DL.run (by simp[hlt,hkl,f1,g1,z1,c2];exact⟨rfl,rfl⟩) ⟨by kernel_rfl,_,by simp;rfl,?_⟩)
    refine WL.cond (t:=true) (by simp) (fun _=>?_) (by simp)
    refine WL.sreg (by simp;rfl) (by simp;rfl) (WL.ret ⟨rfl,?_⟩)
    simp[fi94,hv]
   ·by_cases c3:e.Begin≤l[k].End
    ·have hv:=hin (by simp[tmOver,c1,c3])
     refine WL.draw mixed (by simp[cleanL,noH]) (DL.run (by simp[hlt,hkl,f1,g1,z1,c2,c3];exact⟨rfl,rfl⟩) ⟨by kernel_rfl,_,by simp;rfl,?_⟩)
     refine WL.cond (t:=true) (by simp) (fun _=>?_) (by simp)
     refine WL.sreg (by simp;rfl) (by simp;rfl) (WL.ret ⟨rfl,?_⟩)
     simp[fi94,hv]
    ·have hv:=nx (by simp[tmOver,c1,c3];omega)
     refine WL.draw mixed (by simp[cleanL,noH]) (DL.run (by simp[hlt,hkl,f1,g1,z1,c2,c3];exact⟨rfl,rfl⟩) ⟨by kernel_rfl,_,by simp;rfl,?_⟩)
     refine WL.cond (t:=false) (by simp) (by simp) fun _=>WL.skip ?_
     refine WL.reg (RL.run (by simp[w];rfl) ⟨_,by simp;rfl,hlt,?_,hv⟩)
     simp
  ·have z1:(l[k].Client == e.Client)=false:=beq_false_of_ne c1
   have hv:=nx (by simp[tmOver,c1])
   refine WL.draw mixed (by simp[cleanL,noH]) (DL.run (by simp[hlt,hkl,f1,g1,z1];exact⟨rfl,rfl⟩) ⟨by kernel_rfl,_,by simp;rfl,?_⟩)
   refine WL.cond (t:=false) (by simp) (by simp) fun _=>WL.skip ?_
   refine WL.reg (RL.run (by simp[w];rfl) ⟨_,by simp;rfl,hlt,?_,hv⟩)
   simp
 ·obtain rfl:k=i:=by omega
  refine WL.seq (WL.sreg (by simp;rfl) (by simp;rfl) ?_)
  refine WL.cond (t:=false) (by simp) (by simp) fun _=>WL.exit ?_
  rw[hp]
  refine WL.sreg (by simp;rfl) (by simp;rfl) (WL.ret ⟨rfl,?_⟩)
  simp[fi94]
set_option maxHeartbeats 16000000 in
theorem alone_rest (l:List Ev)(i:Nat)(e:Ev)(v:Bool)(hs:(tmStamp e || decide (e.End < 0))=true→v=false)(hl:(tmStamp e || decide (e.End < 0))=false→∀ x,x=56∨x=71→WL Try.prog fi94.nt c94_17 (tmS l i (bxE 7 e ++ [(100 * x,0,bl false)])) (alQ v)) :
  WL Try.prog fi94.nt c94_18 (tmS l i (bxE 7 e ++ [(4100,0,bl false)])) (alQ v):=by
 refine WL.seq ?_
 by_cases p1:0 < e.End
 ·refine WL.sreg (by simp[p1];rfl) (by simp;rfl) ?_
  refine WL.cond (t:=true) (by simp) (fun _=>?_) (by simp)
  by_cases p2:e.Stamp < e.Begin
  ·have hv:=hs (by simp[tmStamp,p1,p2])
   refine WL.sreg (by simp[p2];rfl) (by simp;rfl) ?_
   refine WL.cond (t:=true) (by simp) (fun _=>?_) (by simp)
   refine WL.sreg (by simp;rfl) (by simp;rfl) (WL.ret ⟨rfl,?_⟩)
   simp[fi94,hv]
  ·by_cases p3:e.End < e.Stamp
   ·have hv:=hs (by simp[tmStamp,p1,p2,p3])
    refine WL.sreg (by simp[p2,p3];rfl) (by simp;rfl) ?_
    refine WL.cond (t:=true) (by simp) (fun _=>?_) (by simp)
    refine WL.sreg (by simp;rfl) (by simp;rfl) (WL.ret ⟨rfl,?_⟩)
    simp[fi94,hv]
   ·refine WL.sreg (by simp[p2,p3];rfl) (by simp;rfl) ?_
    refine WL.cond (t:=false) (by simp) (by simp) fun _=>WL.skip ?_
    exact hl (by simp[tmStamp,p1,p2,p3];omega) 56 (.inl rfl)
 ·refine WL.sreg (by simp[p1];rfl) (by simp;rfl) ?_
  refine WL.cond (t:=false) (by simp) (by simp) fun _=>?_
  by_cases p0:e.End < 0
  ·have hv:=hs (by simp[p0])
   refine WL.sreg (by simp[p0];rfl) (by simp;rfl) ?_
   refine WL.cond (t:=true) (by simp) (fun _=>?_) (by simp)
   refine WL.sreg (by simp;rfl) (by simp;rfl) (WL.ret ⟨rfl,?_⟩)
   simp[fi94,hv]
  ·have pz:e.End=0:=by omega
   by_cases p2:e.Stamp=0
   ·have z2:(e.Stamp != 0)=false:=by simp[p2]
    refine WL.sreg (by simp[p0,z2];rfl) (by simp;rfl) ?_
    refine WL.cond (t:=false) (by simp) (by simp) fun _=>WL.skip ?_
    exact hl (by simp[tmStamp,p1,p0,p2]) 71 (.inr rfl)
   ·have z2:(e.Stamp != 0)=true:=by simp[p2]
    by_cases p3:e.Stamp < e.Begin
    ·have hv:=hs (by simp[tmStamp,pz,p2,p3])
     refine WL.sreg (by simp[p0,z2,p3];rfl) (by simp;rfl) ?_
     refine WL.cond (t:=true) (by simp) (fun _=>?_) (by simp)
     refine WL.sreg (by simp;rfl) (by simp;rfl) (WL.ret ⟨rfl,?_⟩)
     simp[fi94,hv]
    ·refine WL.sreg (by simp[p0,z2,p3];rfl) (by simp;rfl) ?_
     refine WL.cond (t:=false) (by simp) (by simp) fun _=>WL.skip ?_
     exact hl (by simp[tmStamp,p1,p0,p2,p3]) 71 (.inr rfl)
set_option maxHeartbeats 16000000 in
theorem alone_fn (l:List Ev)(hn:l.length≤1000)(i:Nat)(hi:i < l.length)(c:Int):FnC Try.prog 94 [] [sEv l,i64 i,i64 c] [] (bl (timesF l i c)):=by
 rw[timesF_at hi]
 have f1:=fmE_drop (o:=false) (r:=false) hi
 have g1:14≤l.length * 14 - i * 14:=by omega
 refine FnC.go ok94 rfl ?_
 refine WL.mono (Q':=alQ (timesE l i c l[i])) ?_ fun x L h=>⟨.inr h.1,h.2⟩
 refine WL.sreg (by simp;rfl) (by simp;rfl) ?_
 refine WL.sreg (by simp[hi,f1,g1];rfl) (by simp;rfl) ?_
 have loop:=alone_loop l hn i hi l[i]
 generalize l[i]=e at loop ⊢
 clear f1 g1
 have rest:tmBad l i c e=(decide (e.End < 0))→WL Try.prog fi94.nt c94_18 (tmS l i (bxE 7 e ++ [(4100,0,bl false)])) (alQ (timesE l i c e)):=fun hb =>
  alone_rest l i e _ (fun h=>by
   rcases (by simpa only [Bool.or_eq_true] using h:tmStamp e=true∨decide (e.End < 0)=true) with h | h
   ·simp[timesE,h]
   ·simp[timesE,hb,h]) (fun h x hx=>by
   obtain⟨h1,h2⟩:=Bool.or_eq_false_iff.1 h
   simpa [timesE,hb,h1,h2] using loop x hx)
 refine WL.seq (WL.seq ?_)
 by_cases q1:e.Client < 0
 ·refine WL.draw mixed (by simp[cleanL,noH]) (DL.run (by simp[q1];exact⟨rfl,rfl⟩) ⟨by kernel_rfl,_,by simp;rfl,?_⟩)
  refine WL.cond (t:=true) (by simp) (fun _=>?_) (by simp)
  refine WL.sreg (by simp;rfl) (by simp;rfl) (WL.ret ⟨rfl,?_⟩)
  simp[fi94,timesE,tmBad,tmPrev,q1]
 by_cases q2:c≤e.Client
 ·refine WL.draw mixed (by simp[cleanL,noH]) (DL.run (by simp[q1,q2];exact⟨rfl,rfl⟩) ⟨by kernel_rfl,_,by simp;rfl,?_⟩)
  refine WL.cond (t:=true) (by simp) (fun _=>?_) (by simp)
  refine WL.sreg (by simp;rfl) (by simp;rfl) (WL.ret ⟨rfl,?_⟩)
  simp[fi94,timesE,tmBad,tmPrev,q1,q2]
 by_cases q3:e.Begin≤0
 ·have q3x:e.Begin < 1:=by omega
  refine WL.draw mixed (by simp[cleanL,noH]) (DL.run (by simp[q1,q2,q3,q3x];exact⟨rfl,rfl⟩) ⟨by kernel_rfl,_,by simp;rfl,?_⟩)
  refine WL.cond (t:=true) (by simp) (fun _=>?_) (by simp)
  refine WL.sreg (by simp;rfl) (by simp;rfl) (WL.ret ⟨rfl,?_⟩)
  simp[fi94,timesE,tmBad,tmPrev,q1,q2,q3,q3x]
 have q3x:¬ e.Begin < 1:=by omega
 by_cases q4:0 < i
 ·obtain⟨j,hj⟩:∃ j,j=i - 1:=⟨_,rfl⟩
  have w:IntKind.wrap .i64 ((i:Int) - 1)=(j:Int):=by rw[wrap_small (by omega) (by omega)];omega
  have hjl:j < l.length:=by omega
  have f2:=fmE_drop (o:=false) (r:=false) hjl
  have g2:14≤l.length * 14 - j * 14:=by omega
  have hgd:l.getD j e=l[j]:=by simp[hjl]
  by_cases q5:e.Begin < l[j].Begin
  ·refine WL.draw mixed (by simp[cleanL,noH]) (DL.run (by simp[q1,q2,q3,q4,q5,w,hjl,f2,g2,← hj,hgd];exact⟨rfl,rfl⟩) ⟨by kernel_rfl,_,by simp;rfl,?_⟩)
   refine WL.cond (t:=true) (by simp) (fun _=>?_) (by simp)
   refine WL.sreg (by simp;rfl) (by simp;rfl) (WL.ret ⟨rfl,?_⟩)
   simp[fi94,timesE,tmBad,tmPrev,q1,q2,q3,q4,q5,w,hjl,f2,g2,← hj,hgd]
  ·refine WL.draw mixed (by simp[cleanL,noH]) (DL.run (by simp[q1,q2,q3,q4,q5,w,hjl,f2,g2,← hj,hgd];exact⟨rfl,rfl⟩) ⟨by kernel_rfl,_,by simp;rfl,?_⟩)
   refine WL.cond (t:=false) (by simp) (by simp) fun _=>WL.skip ?_
   exact rest (by simp[tmBad,tmPrev,q1,q2,q3,q3x,q4,q5,w,hjl,f2,g2,← hj,hgd])
 ·obtain rfl:i=0:=by omega
  refine WL.draw mixed (by simp[cleanL,noH]) (DL.run (by simp[q1,q2,q3,q4];exact⟨rfl,rfl⟩) ⟨by kernel_rfl,_,by simp;rfl,?_⟩)
  refine WL.cond (t:=false) (by simp) (by simp) fun _=>WL.skip ?_
  exact rest (by simp[tmBad,tmPrev,q1,q2,q3,q3x,q4])
end Go.OT
namespace Go.OT
open Go.Proofs
theorem newBad_len (p c:Int):newBad p c=decide ((newSt p c).There.length=0):=by
 unfold newSt
 cases h:newBad p c with
 | true=>simp
 | false =>
  simp only[newBad,Bool.or_eq_false_iff,decide_eq_false_iff_not] at h
  simp;omega
theorem newSt_ok' {p c:Int}(h:newBad p c=false):OkSt (newSt p c):=by
 have hb':=h
 simp only[newBad,Bool.or_eq_false_iff,decide_eq_false_iff_not] at hb'
 obtain⟨n,rfl⟩:=Int.eq_ofNat_of_zero_le (a:=p) (by omega)
 obtain⟨m,rfl⟩:=Int.eq_ofNat_of_zero_le (a:=c) (by omega)
 exact newSt_ok (by omega) (by omega) (by omega) (by omega)
theorem side_step (s':St)(v:Bool)(s:St):sideOk true (gsT s) (gsT s') (bl v:AU)=true:=by
 have e1:noImm (sB true s'.There:AU)=true:=by simp only[noImm,immB,Bool.and_self]
 have e2:noImm (sS true s'.Body:AU)=true:=by simp only[noImm,immS,Bool.and_self]
 have e3:noImm (sII true s'.Handles:AU)=true:=by simp only[noImm,immII,Bool.and_self]
 simp only[sideOk,List.all_cons,List.all_nil,ghImm,e1,e2,e3]
 simp
theorem ordF_at {l:List Ev}{j:Nat}(h:j < (ordF l).length):∃ u:Nat,∃ hu:u < l.length,(ordF l)[j]=(u:Int):=by
 obtain⟨u,h1,h2,_⟩:=ordF_mem (List.getElem_mem h)
 exact⟨u,h1,h2⟩
abbrev rcB (b:Nat)(s:St):SL:=[(100 * b,0,.bptr b 1 0),(100 * b+1,0,sB true s.There),(100 * b+2,0,sS true s.Body),(100 * b+3,0,sII true s.Handles),(100 * b+99,1,.non)]
abbrev rcQ (v:Int):Ex→SL→Prop:=fun e L=>e=Ex.ret∧RetOk fi35.rs [] (i64 v) L
abbrev rcS (l:List Ev)(c:Int)(s:St)(r:SL):SL:=[(0,0,sEv l),(200,0,i64 c)] ++ (rcB 7 s ++ r)
abbrev rcT (l:List Ev)(s:St)(j:Nat):SL:=[(0,0,sEv l)] ++ (rcB 7 s ++ [(900,0,sI true (ordF l)),(1000,0,i64 j)])
set_option maxHeartbeats 16000000 in
theorem refchk_steps (l:List Ev)(hE:EvOk l)(s0:St)(h0:OkSt s0):WL Try.prog fi35.nt c35_17 ([(0,0,sEv l)] ++ (rcB 7 s0 ++ [(900,0,sI true (ordF l))])) (rcQ (goW l noSee s0 () (ordF l)).1):=by
 have hn:=hE.n
 have hOl:=ordF_len l
 refine WL.seq (WL.sreg (by simp;rfl) (by simp;rfl) ?_)
 refine WL.block (WL.loop (ι:={x:Nat × St // x.1≤(ordF l).length∧OkSt x.2∧(goW l noSee x.2 () ((ordF l).drop x.1)).1=(goW l noSee s0 () (ordF l)).1}) (fun x=>rcT l x.1.2 x.1.1) (fun x=>(ordF l).length - x.1.1) ⟨(0,s0),Nat.zero_le _,h0,rfl⟩ (by simp) fun x=>?_)
 obtain⟨⟨j,s⟩,hj,hs,hg⟩:=x
 simp only at hj hs hg ⊢
 by_cases hlt:j < (ordF l).length
 ·obtain⟨u,hu,eu⟩:=ordF_at hlt
  have f1:=fmE_drop (o:=false) (r:=false) hu
  have g1:14≤l.length * 14 - u * 14:=by omega
  have hlt':j+1≤(ordF l).length:=hlt
  have w:IntKind.wrap .i64 ((j:Int)+1)=((j+1:Nat):Int):=by rw[wrap_small (by omega) (by omega)];omega
  have w2:IntKind.wrap .i64 ((u:Int)+1)=(u:Int)+1:=by rw[wrap_small (by omega) (by omega)]
  have hst:=refstep_fn s hs l[u] (hE.d _ (List.getElem_mem hu))
  rw[List.drop_eq_getElem_cons hlt] at hg
  simp only[goW,eu,atE_at hu] at hg
  have hok:=stepR_ok hs l[u]
  generalize stepR s l[u]=dd at hst hg hok
  obtain⟨v,t⟩:=dd
  simp only at hst hg hok
  refine WL.seq (WL.sreg (by simp[hlt];rfl) (by simp;rfl) ?_)
  refine WL.cond (t:=true) (by simp[hlt]) (fun _=>WL.skip ?_) (by simp)
  refine WL.seq (WL.block (WL.seq ?_))
  refine WL.draw mixed (by simp[cleanL,noH]) (DL.o (by simp[hlt,hlt',eu,hu,f1,g1];exact⟨rfl,rfl⟩) ?_)
  refine DL.callL true [(701,[]),(702,[]),(703,[])] hst (by simp) (by simp) (by simp[gkey]) (side_step t v s) (by simp[cleanL,noH]) ?_
  refine DL.o (by simp;exact⟨rfl,rfl⟩) (DL.nil ⟨by kernel_rfl,_,by simp;rfl,?_⟩)
  cases v with
  | true =>
   simp only[if_true] at hg
   refine WL.cond (t:=false) (by simp) (by simp) fun _=>WL.skip ?_
   refine WL.reg (RL.run (by simp[w];rfl) ⟨_,by simp;rfl,?_⟩)
   refine⟨⟨(j+1,t),hlt,hok,?_⟩,by simp,by simp only;omega⟩
   rw[← hg]
  | false =>
   simp only[Bool.false_eq_true,if_false] at hg
   refine WL.cond (t:=true) (by simp) (fun _=>?_) (by simp)
   refine WL.sreg (by simp[hlt,hlt',eu,w2];rfl) (by simp;rfl) (WL.ret ⟨rfl,?_⟩)
   simp[fi35,← hg]
 ·obtain rfl:j=(ordF l).length:=by omega
  rw[List.drop_length] at hg
  simp only[goW] at hg
  refine WL.seq (WL.sreg (by simp;rfl) (by simp;rfl) ?_)
  refine WL.cond (t:=false) (by simp) (by simp) fun _=>WL.exit ?_
  refine WL.sreg (by simp;rfl) (by simp;rfl) (WL.ret ⟨rfl,?_⟩)
  simp[fi35,← hg]
set_option maxHeartbeats 16000000 in
theorem refchk_fn (l:List Ev)(hE:EvOk l)(p c:Int):FnC Try.prog 35 [] [sEv l,i64 p,i64 c] [] (i64 (chkF l p c)):=by
 have hn:=hE.n
 have hlen:=newBad_len p c
 refine FnC.go ok35 rfl ?_
 refine WL.mono (Q':=rcQ (chkF l p c)) ?_ fun x L h=>⟨.inr h.1,h.2⟩
 refine WL.sreg (by simp;rfl) (by simp;rfl) ?_
 refine WL.sregC (RL.o (by simp;rfl) (RL.call0 false (refnew_fn p c) (by simp) (by simp) (RL.o (by simp;rfl) (RL.nil ⟨_,by simp;rfl,?_⟩))))
 cases hb:newBad p c with
 | true =>
  rw[hb] at hlen
  have hl0:(newSt p c).There.length=0:=by simpa using hlen.symm
  have z:((newSt p c).There == [])=true:=by simpa using hl0
  refine WL.seq (WL.sreg (by simp[hl0];rfl) (by simp;rfl) ?_)
  refine WL.cond (t:=true) (by simp) (fun _=>?_) (by simp)
  refine WL.sreg (by simp;rfl) (by simp;rfl) (WL.ret ⟨rfl,?_⟩)
  simp[fi35,chkF,walkF,hb]
 | false =>
  rw[hb] at hlen
  have hl0:¬ (newSt p c).There.length=0:=by simpa using hlen.symm
  have hok:=newSt_ok' hb
  have hz:(((newSt p c).There.length:Int) == 0)=false:=beq_false_of_ne (by omega)
  refine WL.seq (WL.sreg (by simp[hz];rfl) (by simp;rfl) ?_)
  refine WL.cond (t:=false) (by simp) (by simp) fun _=>WL.skip ?_
  refine WL.seq (WL.sreg (by simp;rfl) (by simp;rfl) ?_)
  have hchk:∀ v,chkF l p c=v→chkF l p c=v:=fun _ h=>h
  unfold chkF walkF at hchk ⊢
  rw[hb] at hchk ⊢
  simp only[Bool.false_eq_true,if_false] at hchk ⊢
  generalize newSt p c=s0 at hok hchk ⊢
  refine WL.block (WL.count l.length (fun i=>rcS l c s0 [(800,0,i64 i)]) (fun i=>∀ j,j < i→timesF l j c=true) rfl (fun j h=>absurd h (Nat.not_lt_zero _)) fun i hi hp=>?_)
  by_cases hlt:i < l.length
  ·have w:IntKind.wrap .i64 ((i:Int)+1)=((i+1:Nat):Int):=by rw[wrap_small (by omega) (by omega)];omega
   have ha:=alone_fn l hn i hlt c
   refine WL.seq (WL.sreg (by simp[hlt];rfl) (by simp;rfl) ?_)
   refine WL.cond (t:=true) (by simp[hlt]) (fun _=>WL.skip ?_) (by simp)
   cases ht:timesF l i c with
   | true =>
    rw[ht] at ha
    refine WL.seq (WL.block (WL.sregC (RL.o (by simp;rfl) (RL.call0 false ha (by simp) (by simp) (RL.o (by simp;rfl) (RL.nil ⟨_,by simp;rfl,?_⟩))))))
    refine WL.cond (t:=false) (by simp) (by simp) fun _=>WL.skip ?_
    refine WL.reg (RL.run (by simp[w];rfl) ⟨_,by simp;rfl,hlt,?_,fun j hj=>?_⟩)
    ·simp
    ·by_cases e:j=i
     ·subst e;exact ht
     ·exact hp j (by omega)
   | false =>
    rw[ht] at ha
    have hf:=firstBad_some hlt hp ht
    refine WL.seq (WL.block (WL.sregC (RL.o (by simp;rfl) (RL.call0 false ha (by simp) (by simp) (RL.o (by simp;rfl) (RL.nil ⟨_,by simp;rfl,?_⟩))))))
    refine WL.cond (t:=true) (by simp) (fun _=>?_) (by simp)
    refine WL.sreg (by simp[w];rfl) (by simp;rfl) (WL.ret ⟨rfl,?_⟩)
    simp[fi35,hf]
  ·obtain rfl:i=l.length:=by omega
   have hf:=firstBad_none hp
   refine WL.seq (WL.sreg (by simp;rfl) (by simp;rfl) ?_)
   refine WL.cond (t:=false) (by simp) (by simp) fun _=>WL.exit ?_
   rw[hf]
   refine WL.sregC (RL.o (by simp;rfl) (RL.call0 false (reforder_fn l hn) (by simp) (by simp) (RL.o (by simp;rfl) (RL.nil ⟨_,by simp;rfl,?_⟩))))
   have:=refchk_steps l hE s0 hok
   exact this
end Go.OT
namespace Go.OT
open Go.Proofs
abbrev rfE6:SL:=[(600,0,.bptr 6 1 0),(601,0,.sl true () 1 0 []),(602,0,.sl true () 1 0 []),(603,0,.sl true () 1 0 []),(699,1,.non)]
abbrev rfT (l:List Ev)(s:St)(j:Nat):SL:=[(0,0,sEv l)] ++ (rfE6 ++ (rcB 8 s ++ [(900,0,sI true (ordF l)),(1000,0,i64 j)]))
set_option maxHeartbeats 16000000 in
theorem reffin_fn (l:List Ev)(hE:EvOk l)(p c:Int):FnC Try.prog 31 [] [sEv l,i64 p,i64 c] [] (.tuple [encT true (finF l p c).1,bl (finF l p c).2]):=by
 have hn:=hE.n
 have hOl:=ordF_len l
 have hchk:=refchk_fn l hE p c
 refine FnC.go ok31 rfl ?_
 refine WL.sreg (by simp;rfl) (by simp;rfl) ?_
 refine WL.seq (WL.sregC (RL.o (by simp;rfl) (RL.call0 false hchk (by simp) (by simp) ?_)))
 by_cases h0:chkF l p c=0
 ·have z:(chkF l p c != 0)=false:=by simp[h0]
  refine RL.o (by simp[z];rfl) (RL.nil ⟨_,by simp;rfl,?_⟩)
  refine WL.cond (t:=false) (by simp) (by simp) fun _=>WL.skip ?_
  have hfin:finF l p c=((walkF noSee () l p c).2.1,true):=by unfold finF;rw[if_pos h0]
  rw[hfin]
  have hb:newBad p c=false:=by
   cases hb:newBad p c with
   | false=>rfl
   | true=>unfold chkF walkF at h0;rw[hb] at h0;simp at h0
  have hok:=newSt_ok' hb
  have hw:walkF noSee () l p c=goW l noSee (newSt p c) () (ordF l)∧(goW l noSee (newSt p c) () (ordF l)).1=0:=by
   unfold chkF at h0
   unfold walkF at h0 ⊢
   rw[hb] at h0 ⊢
   simp only[Bool.false_eq_true,if_false] at h0 ⊢
   split at h0
   ·simp only at h0;omega
   ·exact⟨rfl,h0⟩
  rw[hw.1]
  refine WL.sregC (RL.o (by simp;rfl) (RL.call0 false (refnew_fn p c) (by simp) (by simp) (RL.o (by simp;rfl) (RL.nil ⟨_,by simp;rfl,?_⟩))))
  have hg0:=hw.2
  clear hfin hw z hchk hb
  generalize newSt p c=s0 at hok hg0 ⊢
  refine WL.sregC (RL.o (by simp;rfl) (RL.call0 false (reforder_fn l hn) (by simp) (by simp) (RL.o (by simp;rfl) (RL.nil ⟨_,by simp;rfl,?_⟩))))
  refine WL.seq (WL.sreg (by simp;rfl) (by simp;rfl) ?_)
  refine WL.block (WL.loop (ι:={x:Nat × St // x.1≤(ordF l).length∧OkSt x.2∧(goW l noSee x.2 () ((ordF l).drop x.1)).1=0∧(goW l noSee x.2 () ((ordF l).drop x.1)).2.1=(goW l noSee s0 () (ordF l)).2.1}) (fun x=>rfT l x.1.2 x.1.1) (fun x=>(ordF l).length - x.1.1) ⟨(0,s0),Nat.zero_le _,hok,hg0,rfl⟩ (by simp) fun x=>?_)
  obtain⟨⟨j,s⟩,hj,hs,hg1,hg2⟩:=x
  simp only at hj hs hg1 hg2 ⊢
  by_cases hlt:j < (ordF l).length
  ·obtain⟨u,hu,eu⟩:=ordF_at hlt
   have f1:=fmE_drop (o:=false) (r:=false) hu
   have g1:14≤l.length * 14 - u * 14:=by omega
   have hlt':j+1≤(ordF l).length:=hlt
   have w:IntKind.wrap .i64 ((j:Int)+1)=((j+1:Nat):Int):=by rw[wrap_small (by omega) (by omega)];omega
   have hst:=refstep_fn s hs l[u] (hE.d _ (List.getElem_mem hu))
   rw[List.drop_eq_getElem_cons hlt] at hg1 hg2
   simp only[goW,eu,atE_at hu] at hg1 hg2
   have hok:=stepR_ok hs l[u]
   generalize stepR s l[u]=dd at hst hg1 hg2 hok
   obtain⟨v,t⟩:=dd
   simp only at hst hg1 hg2 hok
   cases v with
   | false=>simp only[Bool.false_eq_true,if_false] at hg1;omega
   | true =>
    simp only[if_true] at hg1 hg2
    refine WL.seq (WL.sreg (by simp[hlt];rfl) (by simp;rfl) ?_)
    refine WL.cond (t:=true) (by simp[hlt]) (fun _=>WL.skip ?_) (by simp)
    refine WL.seq (WL.block ?_)
    refine WL.draw mixed (by simp[cleanL,noH]) (DL.o (by simp[hlt,hlt',eu,hu,f1,g1];exact⟨rfl,rfl⟩) ?_)
    refine DL.callL true [(801,[]),(802,[]),(803,[])] hst (by simp) (by simp) (by simp[gkey]) (side_step t true s) (by simp[cleanL,noH]) ?_
    refine DL.nil ⟨by kernel_rfl,_,by simp;rfl,?_⟩
    refine WL.reg (RL.run (by simp[w];rfl) ⟨_,by simp;rfl,?_⟩)
    exact⟨⟨(j+1,t),hlt,hok,hg1,hg2⟩,by simp,by simp only;omega⟩
  ·obtain rfl:j=(ordF l).length:=by omega
   rw[List.drop_length] at hg2
   simp only[goW] at hg2
   refine WL.seq (WL.sreg (by simp;rfl) (by simp;rfl) ?_)
   refine WL.cond (t:=false) (by simp) (by simp) fun _=>WL.exit ?_
   refine WL.sreg (by simp;rfl) (by simp;rfl) (WL.ret ⟨.inr rfl,?_⟩)
   simp[fi31,← hg2]
 ·have z:(chkF l p c != 0)=true:=by simp[h0]
  refine RL.o (by simp[z];rfl) (RL.nil ⟨_,by simp;rfl,?_⟩)
  refine WL.cond (t:=true) (by simp) (fun _=>?_) (by simp)
  have hfin:finF l p c=(⟨[],[],[]⟩,false):=by unfold finF;rw[if_neg h0]
  rw[hfin]
  refine WL.sreg (by simp;rfl) (by simp;rfl) (WL.nil1 601 true 1 (by simp) (WL.nil1 602 true 1 (by simp) (WL.nil1 603 true 1 (by simp) (WL.ret ⟨.inr rfl,?_⟩))))
  simp[fi31]
end Go.OT
namespace Go.OT
open Go.Proofs
set_option maxHeartbeats 16000000 in
theorem times_rest (l:List Ev)(i:Nat)(e:Ev)(v:Bool)(hs:tmStamp e=true→v=false)(hl:tmStamp e=false→WL Try.prog fi135.nt c135_20 (tmS l i (bxE 7 e ++ [(6700,0,bl false)])) (tmQ v)) :
  WL Try.prog fi135.nt c135_6 (tmS l i (bxE 7 e ++ [(1400,0,bl false)])) (Ex.blkL 0 (Ex.thenL (fun L'=>WL Try.prog fi135.nt c135_20 L' (tmQ v)) (tmQ v))):=by
 by_cases p1:0 < e.End
 ·have z:(e.End == 0)=false:=beq_false_of_ne (by omega)
  by_cases p2:e.Stamp < e.Begin
  ·have hv:=hs (by simp[tmStamp,p1,p2])
   refine WL.sreg (by simp[p1,p2];rfl) (by simp;rfl) ?_
   refine WL.cond (t:=true) (by simp) (fun _=>?_) (by simp)
   refine WL.sreg (by simp;rfl) (by simp;rfl) (WL.ret ⟨rfl,?_⟩)
   simp[fi135,hv]
  ·by_cases p3:e.End < e.Stamp
   ·have hv:=hs (by simp[tmStamp,p1,p2,p3])
    refine WL.sreg (by simp[p1,p2,p3];rfl) (by simp;rfl) ?_
    refine WL.cond (t:=true) (by simp) (fun _=>?_) (by simp)
    refine WL.sreg (by simp;rfl) (by simp;rfl) (WL.ret ⟨rfl,?_⟩)
    simp[fi135,hv]
   ·refine WL.sreg (by simp[p1,p2,p3];rfl) (by simp;rfl) ?_
    refine WL.cond (t:=false) (by simp) (by simp) fun _=>?_
    refine WL.sreg (by simp[z];rfl) (by simp;rfl) ?_
    refine WL.cond (t:=false) (by simp) (by simp) fun _=>WL.skip ?_
    exact hl (by first | (simp [tmStamp,p1,p2,p3];done) | (simp [tmStamp,p1,p2,p3];omega))
 ·by_cases p0:e.End=0
  ·have z0:(e.End == 0)=true:=by simp[p0]
   by_cases p2:e.Stamp=0
   ·have z2:(e.Stamp != 0)=false:=by simp[p2]
    refine WL.sreg (by simp[p1];rfl) (by simp;rfl) ?_
    refine WL.cond (t:=false) (by simp) (by simp) fun _=>?_
    refine WL.sreg (by simp[z0,z2];rfl) (by simp;rfl) ?_
    refine WL.cond (t:=false) (by simp) (by simp) fun _=>WL.skip ?_
    exact hl (by simp[tmStamp,p1,p0,p2])
   ·have z2:(e.Stamp != 0)=true:=by simp[p2]
    by_cases p3:e.Stamp < e.Begin
    ·have hv:=hs (by simp[tmStamp,p0,p2,p3])
     refine WL.sreg (by simp[p1];rfl) (by simp;rfl) ?_
     refine WL.cond (t:=false) (by simp) (by simp) fun _=>?_
     refine WL.sreg (by simp[z0,z2,p3];rfl) (by simp;rfl) ?_
     refine WL.cond (t:=true) (by simp) (fun _=>?_) (by simp)
     refine WL.sreg (by simp;rfl) (by simp;rfl) (WL.ret ⟨rfl,?_⟩)
     simp[fi135,hv]
    ·refine WL.sreg (by simp[p1];rfl) (by simp;rfl) ?_
     refine WL.cond (t:=false) (by simp) (by simp) fun _=>?_
     refine WL.sreg (by simp[z0,z2,p3];rfl) (by simp;rfl) ?_
     refine WL.cond (t:=false) (by simp) (by simp) fun _=>WL.skip ?_
     exact hl (by simp[tmStamp,p1,p0,p2,p3])
  ·have z:(e.End == 0)=false:=beq_false_of_ne p0
   refine WL.sreg (by simp[p1];rfl) (by simp;rfl) ?_
   refine WL.cond (t:=false) (by simp) (by simp) fun _=>?_
   refine WL.sreg (by simp[z];rfl) (by simp;rfl) ?_
   refine WL.cond (t:=false) (by simp) (by simp) fun _=>WL.skip ?_
   exact hl (by simp[tmStamp,p1,p0])
set_option maxHeartbeats 16000000 in
theorem times_fn (l:List Ev)(hn:l.length≤1000)(i:Nat)(hi:i < l.length)(c:Int):FnC Try.prog 135 [] [sEv l,i64 i,i64 c] [] (bl (timesF l i c)):=by
 rw[timesF_at hi]
 have f1:=fmE_drop (o:=false) (r:=false) hi
 have g1:14≤l.length * 14 - i * 14:=by omega
 refine FnC.go ok135 rfl ?_
 refine WL.mono (Q':=tmQ (timesE l i c l[i])) ?_ fun x L h=>⟨.inr h.1,h.2⟩
 refine WL.sreg (by simp;rfl) (by simp;rfl) ?_
 refine WL.scope (WL.sreg (by simp[hi,f1,g1];rfl) (by simp;rfl) ?_)
 have loop:=times_loop l hn i hi l[i]
 generalize l[i]=e at loop ⊢
 clear f1 g1
 have rest:tmBad l i c e=false→WL Try.prog fi135.nt c135_6 (tmS l i (bxE 7 e ++ [(1400,0,bl false)])) (Ex.blkL 0 (Ex.thenL (fun L'=>WL Try.prog fi135.nt c135_20 L' (tmQ (timesE l i c e))) (tmQ (timesE l i c e)))):=fun hb =>
  times_rest l i e _ (fun h=>by simp[timesE,h]) (fun h=>by simpa [timesE,hb,h] using loop)
 refine WL.seq (WL.block (WL.seq ?_))
 by_cases q1:e.Client < 0
 ·refine WL.draw mixed (by simp[cleanL,noH]) (DL.run (by simp[q1];exact⟨rfl,rfl⟩) ⟨by kernel_rfl,_,by simp;rfl,?_⟩)
  refine WL.cond (t:=true) (by simp) (fun _=>?_) (by simp)
  refine WL.sreg (by simp;rfl) (by simp;rfl) (WL.ret ⟨rfl,?_⟩)
  simp[fi135,timesE,tmBad,tmPrev,q1]
 by_cases q2:c≤e.Client
 ·refine WL.draw mixed (by simp[cleanL,noH]) (DL.run (by simp[q1,q2];exact⟨rfl,rfl⟩) ⟨by kernel_rfl,_,by simp;rfl,?_⟩)
  refine WL.cond (t:=true) (by simp) (fun _=>?_) (by simp)
  refine WL.sreg (by simp;rfl) (by simp;rfl) (WL.ret ⟨rfl,?_⟩)
  simp[fi135,timesE,tmBad,tmPrev,q1,q2]
 by_cases q3:e.Begin < 1
 ·refine WL.draw mixed (by simp[cleanL,noH]) (DL.run (by simp[q1,q2,q3];exact⟨rfl,rfl⟩) ⟨by kernel_rfl,_,by simp;rfl,?_⟩)
  refine WL.cond (t:=true) (by simp) (fun _=>?_) (by simp)
  refine WL.sreg (by simp;rfl) (by simp;rfl) (WL.ret ⟨rfl,?_⟩)
  simp[fi135,timesE,tmBad,tmPrev,q1,q2,q3]
 by_cases q4:0 < i
 ·obtain⟨j,hj⟩:∃ j,j=i - 1:=⟨_,rfl⟩
  have w:IntKind.wrap .i64 ((i:Int) - 1)=(j:Int):=by rw[wrap_small (by omega) (by omega)];omega
  have hjl:j < l.length:=by omega
  have f2:=fmE_drop (o:=false) (r:=false) hjl
  have g2:14≤l.length * 14 - j * 14:=by omega
  have hgd:l.getD j e=l[j]:=by simp[hjl]
  by_cases q5:e.Begin < l[j].Begin
  ·refine WL.draw mixed (by simp[cleanL,noH]) (DL.run (by simp[q1,q2,q3,q4,q5,w,hjl,f2,g2,← hj,hgd];exact⟨rfl,rfl⟩) ⟨by kernel_rfl,_,by simp;rfl,?_⟩)
   refine WL.cond (t:=true) (by simp) (fun _=>?_) (by simp)
   refine WL.sreg (by simp;rfl) (by simp;rfl) (WL.ret ⟨rfl,?_⟩)
   simp[fi135,timesE,tmBad,tmPrev,q1,q2,q3,q4,q5,w,hjl,f2,g2,← hj,hgd]
  ·by_cases q6:e.End < 0
   ·refine WL.draw mixed (by simp[cleanL,noH]) (DL.run (by simp[q1,q2,q3,q4,q5,q6,w,hjl,f2,g2,← hj,hgd];exact⟨rfl,rfl⟩) ⟨by kernel_rfl,_,by simp;rfl,?_⟩)
    refine WL.cond (t:=true) (by simp) (fun _=>?_) (by simp)
    refine WL.sreg (by simp;rfl) (by simp;rfl) (WL.ret ⟨rfl,?_⟩)
    simp[fi135,timesE,tmBad,tmPrev,q1,q2,q3,q4,q5,q6,w,hjl,f2,g2,← hj,hgd]
   ·refine WL.draw mixed (by simp[cleanL,noH]) (DL.run (by simp[q1,q2,q3,q4,q5,q6,w,hjl,f2,g2,← hj,hgd];exact⟨rfl,rfl⟩) ⟨by kernel_rfl,_,by simp;rfl,?_⟩)
    refine WL.cond (t:=false) (by simp) (by simp) fun _=>?_
    exact rest (by simp[tmBad,tmPrev,q1,q2,q3,q4,q5,q6,w,hjl,f2,g2,← hj,hgd])
 ·obtain rfl:i=0:=by omega
  by_cases q6:e.End < 0
  ·refine WL.draw mixed (by simp[cleanL,noH]) (DL.run (by simp[q1,q2,q3,q6];exact⟨rfl,rfl⟩) ⟨by kernel_rfl,_,by simp;rfl,?_⟩)
   refine WL.cond (t:=true) (by simp) (fun _=>?_) (by simp)
   refine WL.sreg (by simp;rfl) (by simp;rfl) (WL.ret ⟨rfl,?_⟩)
   simp[fi135,timesE,tmBad,tmPrev,q1,q2,q3,q6]
  ·refine WL.draw mixed (by simp[cleanL,noH]) (DL.run (by simp[q1,q2,q3,q6];exact⟨rfl,rfl⟩) ⟨by kernel_rfl,_,by simp;rfl,?_⟩)
   refine WL.cond (t:=false) (by simp) (by simp) fun _=>?_
   exact rest (by simp[tmBad,tmPrev,q1,q2,q3,q6])
end Go.OT
