/- Part 9 of the proof: see its last file. -/
import Derived.Orders
import Derived.Below
import Derived.Laws.Entries
import Derived.Laws.Cells
import Derived.Laws.IdiomCopy
import Derived.Scope
import Derived.Calls
import Derived.Laws.Tables
import Derived.Laws.MakeOwn
import Derived.Laws.BytesString
import Derived.ArgAppend
import Derived.WalkSpells
import Derived.Lib.SlBytesConst
import Derived.Lib.ConvBytes
import Derived.WalkKit
import Derived.ProofKit
import Derived.OpenShut
import Derived.ShutString
import Derived.ChangeOld
import Derived.Lib.SmallJoins
import Derived.Test.YtlcemfnjhdcmoaaProg
import Derived.KernelRfl
import Derived.IntWalk
import Derived.Lib.Strings
import Derived.Test.YtlcemfnjhdcmoaaWa08
set_option linter.unusedSimpArgs false
set_option linter.unusedVariables false
namespace Go.OT
open Go.Proofs
structure Blk (key:Int→Int) (f h:Nat→Int) (x y:Nat):Prop where
 perm:(seg h x (y - x)).Perm (seg f x (y - x))
 sorted:SortedF key h x y
section
variable {key:Int→Int} {f h h':Nat→Int} {x m y:Nat}
theorem Blk.mem (b:Blk key f h x y){k:Nat}(h1:x≤k)(h2:k < y):∃ u,x≤u∧u < y∧h k=f u:=by
 have:h k ∈ seg h x (y - x):=mem_seg.2 ⟨k - x,by omega,by rw[show x+(k - x)=k by omega]⟩
 obtain⟨u,hu,e⟩:=mem_seg.1 (b.perm.subset this)
 exact⟨x+u,by omega,by omega,e.symm⟩
theorem Blk.congr (b:Blk key f h x y)(hc:∀ k,x≤k→k < y→h' k=h k):Blk key f h' x y:=by
 refine⟨?_,fun i j h1 h2 h3=>?_⟩
 ·rw[seg_congr (f:=h') (g:=h) (a:=x) (b:=x) (n:=y - x) (fun k hk=>hc _ (by omega) (by omega))];exact b.perm
 ·rw[hc i h1 (by omega),hc j (by omega) h3];exact b.sorted i j h1 h2 h3
theorem Blk.two (b1:Blk key f h x m)(b2:Blk key f h m y)(hasc:∀ i j,x≤i→i < j→j < y→f i < f j):Two key h x m y:=by
 refine⟨b1.sorted,b2.sorted,fun i j h1 h2 h3 h4=>?_⟩
 obtain⟨u,u1,u2,e1⟩:=b1.mem h1 h2
 obtain⟨v,v1,v2,e2⟩:=b2.mem h3 h4
 rw[e1,e2]
 exact hasc u v u1 (by omega) v2
theorem Blk.merge (b1:Blk key f h x m)(b2:Blk key f h m y)(h1:x≤m)(h2:m≤y)(hS:SM key h x y h'):Blk key f h' x y:=by
 refine⟨hS.perm.trans ?_,hS.sorted⟩
 have e:∀ g:Nat→Int,seg g x (y - x)=seg g x (m - x) ++ seg g m (y - m):=fun g=>by
  rw[show y - x=(m - x)+(y - m) by omega,seg_add,show x+(m - x)=m by omega]
 rw[e,e]
 exact b1.perm.append b2.perm
theorem Blk.ofSM (hc:∀ k,x≤k→k < y→h k=f k)(hS:SM key h x y h'):Blk key f h' x y:=by
 refine⟨hS.perm.trans ?_,hS.sorted⟩
 rw[seg_congr (f:=h) (g:=f) (a:=x) (b:=x) (n:=y - x) (fun k hk=>hc _ (by omega) (by omega))]
theorem Blk.toSM (b:Blk key f h 0 y)(hout:∀ k,y≤k→h k=f k):SM key f 0 y h:=⟨fun k hk=>hout k (by omega),b.perm,b.sorted⟩
end
def AllB (key:Int→Int)(f h:Nat→Int)(N bs:Nat):Prop:=(∀ t,bs * t < N→Blk key f h (bs * t) (min (bs * t+bs) N))∧∀ k,N≤k→h k=f k
def UpB (key:Int→Int)(f h0 h:Nat→Int)(N bs a:Nat):Prop:=(∃ t,a=bs * t)∧a≤N∧(∀ t,bs * t < a→Blk key f h (bs * t) (bs * t+bs))∧∀ k,a≤k→h k=h0 k
theorem mul_lt_step {bs t u:Nat}(h0:0 < bs)(h:bs * t < bs * u):bs * t+bs≤bs * u:=by
 have:t < u:=Nat.lt_of_mul_lt_mul_left h
 have:=Nat.mul_le_mul_left bs (Nat.succ_le_of_lt this)
 rw[Nat.mul_succ] at this;exact this
theorem UpB.next {key:Int→Int}{f h0 h h':Nat→Int}{N bs a:Nat}(h0':0 < bs)(U:UpB key f h0 h N bs a)(hb:a+bs≤N)(hB:Blk key f h' a (a+bs))(ho:∀ k,k < a∨a+bs≤k→h' k=h k):UpB key f h0 h' N bs (a+bs):=by
 obtain⟨⟨t,ht⟩,u1,u2,u3⟩:=U
 refine⟨⟨t+1,by rw[ht,Nat.mul_succ]⟩,hb,fun u hu=>?_,fun k hk=>by rw[ho k (.inr hk),u3 k (by omega)]⟩
 by_cases e:bs * u < a
 ·have:=mul_lt_step h0' (by rw[← ht];exact e:bs * u < bs * t)
  exact (u2 u e).congr fun k g1 g2=>ho k (by omega)
 ·have:bs * u=a:=by
   rw[ht] at e hu ⊢
   have h1:t≤u:=Nat.le_of_mul_le_mul_left (by omega) h0'
   have h2:bs * u < bs * (t+1):=by rw[Nat.mul_succ];exact hu
   have h3:u < t+1:=Nat.lt_of_mul_lt_mul_left h2
   rw[show u=t by omega]
  rw[this];exact hB
theorem UpB.all {key:Int→Int}{f h0 h h':Nat→Int}{N bs a:Nat}(h0':0 < bs)(U:UpB key f h0 h N bs a)(hb:N < a+bs)(hB:a < N→Blk key f h' a N)(ho:∀ k,k < a∨N≤k→h' k=h k)(hf:∀ k,N≤k→h0 k=f k):AllB key f h' N bs:=by
 obtain⟨⟨t,ht⟩,u1,u2,u3⟩:=U
 refine⟨fun u hu=>?_,fun k hk=>by rw[ho k (.inr hk),u3 k (by omega),hf k hk]⟩
 by_cases e:bs * u < a
 ·have:=mul_lt_step h0' (by rw[← ht];exact e:bs * u < bs * t)
  rw[Nat.min_eq_left (by omega)]
  exact (u2 u e).congr fun k g1 g2=>ho k (by omega)
 ·have:bs * u=a:=by
   rw[ht] at e hb ⊢
   have h1:t≤u:=Nat.le_of_mul_le_mul_left (by omega) h0'
   have h2:bs * u < bs * (t+1):=by rw[Nat.mul_succ];omega
   have h3:u < t+1:=Nat.lt_of_mul_lt_mul_left h2
   rw[show u=t by omega]
  rw[this] at hu ⊢
  rw[Nat.min_eq_right (by omega)]
  exact hB hu
theorem asc_ne {f:Nat→Int}{N:Nat}(hasc:∀ i j,i < j→j < N→f i < f j){h:Nat→Int}{a b:Nat}(hb:b≤N)(hc:∀ k,a≤k→h k=f k):∀ i j,a≤i→i < j→j < b→h i ≠ h j:=fun i j h1 h2 h3=>by
 rw[hc i h1,hc j (by omega)]
 have:=hasc i j h2 (by omega)
 omega
abbrev stS1 (h:Nat→Int)(N a q:Nat)(cl:AU):SL:=[(0,0,.view 1000000 0 [] 0 N),(100,0,i64 N),(200,0,cl),(600,0,i64 20),(700,0,i64 a),(800,0,i64 q),(1000000,0,rF h N)]
abbrev stS2 (h:Nat→Int)(N bs:Nat)(cl:AU):SL:=[(0,0,.view 1000000 0 [] 0 N),(100,0,i64 N),(200,0,cl),(600,0,i64 bs),(1000000,0,rF h N)]
abbrev stS3 (h:Nat→Int)(N bs a q:Nat)(cl:AU):SL:=[(0,0,.view 1000000 0 [] 0 N),(100,0,i64 N),(200,0,cl),(600,0,i64 bs),(700,0,i64 a),(800,0,i64 q),(1000000,0,rF h N)]
abbrev stQ (f':Nat→Int)(N:Nat):Ex→SL→Prop:=fun e L=>(e=Ex.nrm∨e=Ex.ret)∧RetOk fi138.rs [.nod (rF f' N)] (.tuple []) L
set_option maxHeartbeats 16000000 in
theorem stable_grow {key:Int→Int}{In:Int→Prop}{g:Nat}{cs:List AU}(hcl:ClOk key In g cs)(f:Nat→Int)(N:Nat)(hN:N≤100000000)(hIn:∀ k,k < N→In (f k))(hasc:∀ i j,i < j→j < N→f i < f j)
  (f':Nat→Int) (hf':SM key f 0 N f') (h:Nat→Int) (hA:AllB key f h N 20):WL Try.prog fi138.nt c138_19 (stS2 h N 20 (.clos g [.vptr () cs])) (stQ f' N):=by
 have hNs:Small N:=by unfold Small;omega
 refine WL.block (WL.loop (ι:={x:(Nat→Int) × Nat // AllB key f x.1 N x.2∧0 < x.2∧x.2≤200000020}) (fun x=>stS2 x.1.1 N x.1.2 (.clos g [.vptr () cs])) (fun x=>N - x.1.2) ⟨(h,20),hA,by simp,by simp⟩ (by simp) fun x=>?_)
 obtain⟨⟨h0,bs⟩,hA0,hbs,hbs2⟩:=x
 simp only at hA0 hbs hbs2 ⊢
 by_cases hlt:bs < N
 ·refine WL.seq (WL.sreg (by simp[hlt];rfl) (by simp;rfl) ?_)
  refine WL.cond (t:=true) (by simp[hlt]) (fun _=>WL.skip ?_) (by simp)
  have w2:IntKind.wrap .i64 (2 * (bs:Int))=((2 * bs:Nat):Int):=by rw[wrap_small (by omega) (by omega)];omega
  have w2':IntKind.wrap .i64 ((bs:Int) * 2)=((2 * bs:Nat):Int):=by rw[wrap_small (by omega) (by omega)];omega
  obtain⟨d,hd⟩:∃ d,d=2 * bs:=⟨_,rfl⟩
  rw[← hd] at w2 w2'
  refine WL.block (WL.sreg (by simp[w2];rfl) (by simp;rfl) ?_)
  refine WL.seq (WL.block (WL.loop (ι:={x:(Nat→Int) × Nat // UpB key f h0 x.1 N d x.2}) (fun x=>stS3 x.1.1 N bs x.1.2 (x.1.2+2 * bs) (.clos g [.vptr () cs])) (fun x=>N - x.1.2)
   ⟨(h0,0),⟨0,by simp⟩,Nat.zero_le _,fun t ht=>absurd ht (Nat.not_lt_zero _),fun k _=>rfl⟩ (by simp[hd]) fun x=>?_))
  obtain⟨⟨h1,a⟩,U⟩:=x
  simp only at U ⊢
  obtain⟨⟨t,ht⟩,haN,_,hrest⟩:=id U
  have hta:bs * (2 * t)=a:=by rw[ht,hd];rw[← Nat.mul_assoc,Nat.mul_comm bs 2]
  have hta2:bs * (2 * t+1)=a+bs:=by rw[Nat.mul_succ,hta]
  have w3:IntKind.wrap .i64 ((a:Int)+(bs:Int))=((a+bs:Nat):Int):=by rw[wrap_small (by omega) (by omega)];omega
  obtain⟨p,hp⟩:∃ p,p=a+bs:=⟨_,rfl⟩
  rw[← hp] at w3
  obtain⟨q,hq⟩:∃ q,q=a+2 * bs:=⟨_,rfl⟩
  rw[← hq]
  have hIn1:∀ k,k < N→In (h1 k):=fun k hk=>by
   obtain⟨_,_,hbl,_⟩:=U
   by_cases hka:k < a
   ·-- in a block that is done
    have hd0:0 < d:=by omega
    have hk1:d * (k / d)≤k:=Nat.mul_div_le k d
    have hk2:k < d * (k / d)+d:=by have:=Nat.lt_mul_div_succ k hd0;rwa [Nat.mul_succ] at this
    have hk3:d * (k / d)+d≤a:=by rw[ht];exact mul_lt_step hd0 (by rw[← ht];omega)
    obtain⟨u,u1,u2,e⟩:=(hbl (k / d) (by omega)).mem hk1 hk2
    rw[e];exact hIn u (by omega)
   ·rw[hrest k (by omega)]
    have hk1:bs * (k / bs)≤k:=Nat.mul_div_le k bs
    have hk2:k < bs * (k / bs)+bs:=by have:=Nat.lt_mul_div_succ k hbs;rwa [Nat.mul_succ] at this
    obtain⟨u,u1,u2,e⟩:=(hA0.1 (k / bs) (by omega)).mem hk1 (by omega)
    rw[e];exact hIn u (by omega)
  by_cases hqN:q≤N
  ·have b1:Blk key f h1 a p:=by
    have:=hA0.1 (2 * t) (by omega)
    rw[hta,Nat.min_eq_left (by omega),← hp] at this
    exact this.congr fun k g1 _=>hrest k g1
   have b2:Blk key f h1 p q:=by
    have:=hA0.1 (2 * t+1) (by omega)
    rw[hta2,Nat.min_eq_left (by omega),← hp,show p+bs=q by omega] at this
    exact this.congr fun k g1 _=>hrest k (by omega)
   have T:=b1.two b2 (fun i j _ g2 g3=>hasc i j g2 (by omega))
   obtain⟨h2,hS⟩:=T.ex (by omega)
   have hc:=sym_fn hcl N hNs (q - a+1) h1 a p q (by omega) (by omega) (by omega) hqN hIn1 T h2 hS
   refine WL.seq (WL.sreg (by simp[hqN];rfl) (by simp;rfl) ?_)
   refine WL.cond (t:=true) (by simp[hqN]) (fun _=>WL.skip ?_) (by simp)
   refine WL.block (WL.sregC (RL.o (by simp[w3];rfl) (RL.callK false [(1000000,[])] hc (by simp) (by simp) (by simp[gkey]) (by simp) (by simp) (RL.nil ⟨_,by simp;rfl,?_⟩))))
   have w4:IntKind.wrap .i64 ((q:Int)+(d:Int))=((q+d:Nat):Int):=by rw[wrap_small (by omega) (by omega)];omega
   refine WL.sreg (by simp;rfl) (by simp;rfl) ?_
   refine WL.reg (RL.run (by simp[w2,w4];rfl) ⟨_,by simp;rfl,?_⟩)
   refine⟨⟨(h2,q),?_⟩,by simp[hd],by simp only;omega⟩
   have:=U.next (h':=h2) (by omega) (by omega) (by rw[show a+d=q by omega];exact b1.merge b2 (by omega) (by omega) hS) (fun k hk=>hS.out k (by omega))
   rwa [show a+d=q by omega] at this
  ·refine WL.seq (WL.sreg (by simp[hqN];rfl) (by simp;rfl) ?_)
   refine WL.cond (t:=false) (by simp[hqN]) (by simp) fun _=>WL.exit ?_
   refine WL.seq (WL.sreg (by simp[w3];rfl) (by simp;rfl) ?_)
   by_cases hpN:p < N
   ·have b1:Blk key f h1 a p:=by
     have:=hA0.1 (2 * t) (by omega)
     rw[hta,Nat.min_eq_left (by omega),← hp] at this
     exact this.congr fun k g1 _=>hrest k g1
    have b2:Blk key f h1 p N:=by
     have:=hA0.1 (2 * t+1) (by omega)
     rw[hta2,Nat.min_eq_right (by omega),← hp] at this
     exact this.congr fun k g1 _=>hrest k (by omega)
    have T:=b1.two b2 (fun i j _ g2 g3=>hasc i j g2 (by omega))
    obtain⟨h2,hS⟩:=T.ex (by omega)
    have hc:=sym_fn hcl N hNs (N - a+1) h1 a p N (by omega) (by omega) hpN (Nat.le_refl _) hIn1 T h2 hS
    have hAll:AllB key f h2 N d:=U.all (by omega) (by omega) (fun _=>b1.merge b2 (by omega) (by omega) hS) (fun k hk=>hS.out k hk) hA0.2
    refine WL.sreg (by simp[hpN];rfl) (by simp;rfl) ?_
    refine WL.cond (t:=true) (by simp[hpN]) (fun _=>?_) (by simp)
    refine WL.reg (RL.o (by simp;rfl) (RL.callK false [(1000000,[])] hc (by simp) (by simp) (by simp[gkey]) (by simp) (by simp) (RL.nil ⟨_,by simp;rfl,?_⟩)))
    refine WL.reg (RL.run (by simp[w2'];rfl) ⟨_,by simp;rfl,?_⟩)
    exact⟨⟨(h2,d),hAll,by simp only;omega,by simp only;omega⟩,by simp,by simp only;omega⟩
   ·have hAll:AllB key f h1 N d:=U.all (by omega) (by omega) (fun haN'=>by
     have:=hA0.1 (2 * t) (by omega)
     rw[hta,Nat.min_eq_right (by omega)] at this
     exact this.congr fun k g1 _=>hrest k g1) (fun k _=>rfl) hA0.2
    refine WL.sreg (by simp[hpN];rfl) (by simp;rfl) ?_
    refine WL.cond (t:=false) (by simp[hpN]) (by simp) fun _=>WL.skip ?_
    refine WL.reg (RL.run (by simp[w2'];rfl) ⟨_,by simp;rfl,?_⟩)
    exact⟨⟨(h1,d),hAll,by simp only;omega,by simp only;omega⟩,by simp,by simp only;omega⟩
 ·refine WL.seq (WL.sreg (by simp[hlt];rfl) (by simp;rfl) ?_)
  refine WL.cond (t:=false) (by simp[hlt]) (by simp) fun _=>WL.exit ?_
  have hS:SM key f 0 N h0:=by
   rcases Nat.eq_zero_or_pos N with e | e
   ·subst e
    exact⟨fun k hk=>hA0.2 k (by omega),by simp[seg],fun i j _ _ hj=>by omega⟩
   ·have:=hA0.1 0 (by simpa using e)
    rw[Nat.mul_zero,Nat.min_eq_right (by omega)] at this
    exact this.toSM hA0.2
  obtain rfl:=SM_unique hS hf'
  refine⟨.inl rfl,?_⟩
  simp[fi138]
set_option maxHeartbeats 16000000 in
theorem stable_fn {key:Int→Int}{In:Int→Prop}{g:Nat}{cs:List AU}(hcl:ClOk key In g cs)(f:Nat→Int)(N:Nat)(hN:N≤100000000)(hIn:∀ k,k < N→In (f k))(hasc:∀ i j,i < j→j < N→f i < f j)
  (f':Nat→Int) (hf':SM key f 0 N f'):FnC Try.prog 138 [.nod (rF f N)] [.view 1000000 0 [] 0 N,i64 N,.clos g [.vptr () cs]] [.nod (rF f' N)] (.tuple []):=by
 have hNs:Small N:=by unfold Small;omega
 refine FnC.go ok138 rfl ?_
 refine WL.sreg (by simp;rfl) (by simp;rfl) ?_
 refine WL.sreg (by simp;rfl) (by simp;rfl) ?_
 refine WL.seq (WL.block (WL.loop (ι:={x:(Nat→Int) × Nat // UpB key f f x.1 N 20 x.2}) (fun x=>stS1 x.1.1 N x.1.2 (x.1.2+20) (.clos g [.vptr () cs])) (fun x=>N - x.1.2)
  ⟨(f,0),⟨0,by simp⟩,Nat.zero_le _,fun t ht=>absurd ht (Nat.not_lt_zero _),fun k _=>rfl⟩ (by simp) fun x=>?_))
 obtain⟨⟨h,a⟩,U⟩:=x
 simp only at U ⊢
 obtain⟨⟨t,ht⟩,haN,hbl,hrest⟩:=id U
 have hIn1:∀ k,k < N→In (h k):=fun k hk=>by
  by_cases hka:k < a
  ·have hk1:20 * (k / 20)≤k:=Nat.mul_div_le k 20
   have hk2:k < 20 * (k / 20)+20:=by omega
   have hk3:20 * (k / 20)+20≤a:=by omega
   obtain⟨u,u1,u2,e⟩:=(hbl (k / 20) (by omega)).mem hk1 hk2
   rw[e];exact hIn u (by omega)
  ·rw[hrest k (by omega)];exact hIn k hk
 obtain⟨q,hq⟩:∃ q,q=a+20:=⟨_,rfl⟩
 rw[← hq]
 by_cases hqN:q≤N
 ·obtain⟨h2,hS⟩:=SM_exists key h (by omega:a≤q) (asc_ne hasc hqN hrest)
  have hc:=ins_fn hcl h N a q hNs (by omega) hqN hIn1 (fun i j g1 g2 g3=>by rw[hrest i g1,hrest j (by omega)];exact hasc i j g2 (by omega)) h2 hS
  refine WL.seq (WL.sreg (by simp[hqN];rfl) (by simp;rfl) ?_)
  refine WL.cond (t:=true) (by simp[hqN]) (fun _=>WL.skip ?_) (by simp)
  refine WL.block (WL.sregC (RL.o (by simp;rfl) (RL.callK false [(1000000,[])] hc (by simp) (by simp) (by simp[gkey]) (by simp) (by simp) (RL.nil ⟨_,by simp;rfl,?_⟩))))
  have w4:IntKind.wrap .i64 ((q:Int)+20)=((q+20:Nat):Int):=by rw[wrap_small (by omega) (by omega)];omega
  refine WL.sreg (by simp;rfl) (by simp;rfl) ?_
  refine WL.reg (RL.run (by simp[w4];rfl) ⟨_,by simp;rfl,?_⟩)
  refine⟨⟨(h2,q),?_⟩,by simp,by simp only;omega⟩
  have:=U.next (h':=h2) (by decide) (by omega) (by rw[← hq];exact Blk.ofSM (fun k g1 _=>hrest k g1) hS) (fun k hk=>hS.out k (by omega))
  rwa [← hq] at this
 ·refine WL.seq (WL.sreg (by simp[hqN];rfl) (by simp;rfl) ?_)
  refine WL.cond (t:=false) (by simp[hqN]) (by simp) fun _=>WL.exit ?_
  obtain⟨h2,hS⟩:=SM_exists key h haN (asc_ne hasc (Nat.le_refl N) hrest)
  have hc:=ins_fn hcl h N a N hNs haN (Nat.le_refl _) hIn1 (fun i j g1 g2 g3=>by rw[hrest i g1,hrest j (by omega)];exact hasc i j g2 g3) h2 hS
  have hAll:AllB key f h2 N 20:=U.all (by decide) (by omega) (fun _=>Blk.ofSM (fun k g1 _=>hrest k g1) hS) (fun k hk=>hS.out k hk) (fun k _=>rfl)
  refine WL.sregC (RL.o (by simp;rfl) (RL.callK false [(1000000,[])] hc (by simp) (by simp) (by simp[gkey]) (by simp) (by simp) (RL.nil ⟨_,by simp;rfl,?_⟩)))
  exact stable_grow hcl f N hN hIn hasc f' hf' h2 hAll
end Go.OT
namespace Go.OT
open Go.Proofs
def heldF (s:St)(c h:Int):Int:=if c < 0∨(s.Handles.length:Int)≤c∨h < 0∨((s.Handles.getD c.toNat []).length:Int)≤h then -1 else (s.Handles.getD c.toNat []).getD h.toNat 0
set_option maxHeartbeats 1000000 in
theorem held_fn (s:St)(c h:Int):FnC Try.prog 124 [] [encT false s,i64 c,i64 h] [] (i64 (heldF s c h)):=by
 refine FnC.go ok124 rfl ?_
 refine WL.sreg (by simp;rfl) (by simp;rfl) ?_
 refine WL.seq ?_
 by_cases h1:c < 0
 ·refine WL.sreg (by simp[h1];rfl) (by simp;rfl) ?_
  refine WL.cond (t:=true) (by simp) (fun _=>WL.sreg (by simp;rfl) (by simp;rfl) (WL.ret ⟨.inr rfl,?_⟩)) (by simp)
  simp[fi124,heldF,h1]
 obtain⟨c,rfl⟩:=Int.eq_ofNat_of_zero_le (a:=c) (by omega)
 by_cases h2:(s.Handles.length:Int)≤c
 ·have h2':s.Handles.length≤c:=by omega
  refine WL.sreg (by simp[h1,h2'];rfl) (by simp;rfl) ?_
  refine WL.cond (t:=true) (by simp) (fun _=>WL.sreg (by simp;rfl) (by simp;rfl) (WL.ret ⟨.inr rfl,?_⟩)) (by simp)
  simp[fi124,heldF,h2']
 have hc:c < s.Handles.length:=by omega
 have hc':¬ s.Handles.length≤c:=by omega
 by_cases h3:h < 0
 ·refine WL.sreg (by simp[h1,hc',hc,h3];rfl) (by simp;rfl) ?_
  refine WL.cond (t:=true) (by simp) (fun _=>WL.sreg (by simp;rfl) (by simp;rfl) (WL.ret ⟨.inr rfl,?_⟩)) (by simp)
  simp[fi124,heldF,h3]
 obtain⟨k,rfl⟩:=Int.eq_ofNat_of_zero_le (a:=h) (by omega)
 by_cases h4:s.Handles[c].length≤k
 ·refine WL.sreg (by simp[h1,h3,hc',hc,h4];rfl) (by simp;rfl) ?_
  refine WL.cond (t:=true) (by simp) (fun _=>WL.sreg (by simp;rfl) (by simp;rfl) (WL.ret ⟨.inr rfl,?_⟩)) (by simp)
  simp[fi124,heldF,hc,h4]
 ·have hk:k < s.Handles[c].length:=by omega
  refine WL.sreg (by simp[h1,h3,hc',hc,h4];rfl) (by simp;rfl) ?_
  refine WL.cond (t:=false) (by simp) (by simp) (fun _=>WL.skip ?_)
  refine WL.sreg (by simp[hc,hk];rfl) (by simp;rfl) (WL.ret ⟨.inr rfl,?_⟩)
  simp[fi124,heldF,hc,hc',h4,hk,h1,h3]
end Go.OT
namespace Go.OT
open Go.Proofs
theorem strOf_size (l:List UInt8):(strOf l).size=l.length:=by simp[strOf,ByteArray.size]
end Go.OT
namespace Go.OT
open Go.Proofs
end Go.OT
namespace Go.OT
open Go.Proofs
end Go.OT
namespace Go.OT
open Go.Proofs
end Go.OT
namespace Go.OT
open Go.Proofs
def freeI (l:List Int):Int:=ixF (fun p=>decide (p < 0)) l 0
set_option maxHeartbeats 2000000 in
theorem give_fn (s:St)(T B:AU)(hT:T=sB false s.There)(hB:B=sS false s.Body)(c:Nat)(hc:c < s.Handles.length)(hs:Small s.Handles[c].length)(page:Int)(k:Nat)(hk:k < s.Handles[c].length)(hfree:freeI s.Handles[c]=(k:Int)) :
  FnC Try.prog 126 [.nod (sII true s.Handles)] [.agg [T,B,.view 1000000 0 [] 0 s.Handles.length],i64 c,i64 page] [.nod (sII true (s.Handles.set c (s.Handles[c].set k page)))] (i64 k):=by
 subst hT hB
 have hc1:c+1≤s.Handles.length:=hc
 refine FnC.go ok126 rfl ?_
 refine WL.sregC (RL.boxW (by simp;rfl) (by simp) (by simp[isVw]) (by simp) (RL.o (by simp;rfl) (RL.nil ⟨_,by simp;rfl,?_⟩)))
 refine WL.seq (WL.sreg (by simp;rfl) (by simp;rfl) ?_)
 refine WL.block (WL.count s.Handles[c].length (fun i=>[(100,0,i64 c),(200,0,i64 page),(300,0,.bptr 3 1 0),(301,0,sB false s.There),(302,0,sS false s.Body),(303,0,.view 1000000 0 [] 0 s.Handles.length),(399,1,.non),(700,0,i64 i),(1000000,0,sII true s.Handles)]) (fun i=>ixF (fun p=>decide (p < 0)) (s.Handles[c].drop i) i=(k:Int)) rfl (by simpa [freeI] using hfree) fun i hi hp=>?_)
 by_cases h:i < s.Handles[c].length
 ·have hi1:i+1≤s.Handles[c].length:=h
  rw[ixF_drop _ _ _ h] at hp
  refine WL.seq (WL.sreg (by simp[hc,h,hc1,hi1];rfl) (by simp;rfl) ?_)
  refine WL.cond (t:=true) (by simp) (fun _=>WL.skip ?_) (by simp)
  refine WL.seq (WL.block (WL.sreg (by simp[hc,h,hc1,hi1];rfl) (by simp;rfl) ?_))
  by_cases hf:s.Handles[c][i] < 0
  ·refine WL.cond (t:=true) (by simp[hf]) (fun _=>?_) (by simp)
   rw[if_pos (by simpa using hf)] at hp
   obtain rfl:i=k:=by omega
   refine WL.sreg (by simp[hc,h,hc1,hi1];rfl) (by simp;rfl) ?_
   refine WL.sreg (by simp;rfl) (by simp;rfl) ?_
   refine WL.ret ⟨.inr rfl,?_⟩
   simp[fi126,List.map_set,sI]
  ·refine WL.cond (t:=false) (by simp;omega) (by simp) fun _=>WL.skip ?_
   rw[if_neg (by simpa using hf)] at hp
   refine WL.reg (RL.run (by simp[wrap_succ hs h];rfl) ⟨_,by simp;rfl,h,?_,hp⟩)
   simp
 ·rw[ixF_end _ _ _ h] at hp
  omega
end Go.OT
namespace Go.OT
open Go.Proofs
abbrev gsT (s:St):List (Gh Unit):=[.nod (sB true s.There),.nod (sS true s.Body),.nod (sII true s.Handles)]
abbrev vwT (s:St):AU:=.agg [.view 1000000 0 [] 0 s.There.length,.view 1000100 0 [] 0 s.Body.length,.view 1000200 0 [] 0 s.Handles.length]
abbrev ghT (s:St):SL:=[(1000000,0,sB true s.There),(1000100,0,sS true s.Body),(1000200,0,sII true s.Handles)]
abbrev rb1 (cl:Int):SL:=[(100,0,i64 cl)]
abbrev rb3 (s:St):SL:=[(300,0,.bptr 3 1 0),(301,0,.view 1000000 0 [] 0 s.There.length),(302,0,.view 1000100 0 [] 0 s.Body.length),(303,0,.view 1000200 0 [] 0 s.Handles.length),(399,1,.non)]
abbrev rb5 (q:Op):SL:=[(500,0,.bptr 5 1 0),(501,0,i64 q.Kind),(502,0,i64 q.Page),(503,0,i64 q.Handle),(504,0,i64 q.Off),(505,0,i64 q.N),(506,0,sU false q.Data),(599,1,.non)]
abbrev rb6:SL:=[(600,0,.bptr 6 1 0),(601,0,i64 0),(602,0,i64 0),(603,0,i64 0),(604,0,.sl true () 1 0 []),(699,1,.non)]
abbrev rbQ (s':St)(r:Rs):Ex→SL→Prop:=fun e L=>e=Ex.ret∧RetOk fi77.rs (gsT s') (encR true r) L
theorem WL.up {P:Program}{nt:Nat}{cc:Cd}{L:SL}{R:SL→Prop}{Q:Ex→SL→Prop}(h:WL P nt cc L fun e L=>e=Ex.ret∧R L)(hq:∀ L,R L→Q .ret L):WL P nt cc L Q :=
 h.mono fun e L ⟨h1,h2⟩=>by subst h1;exact hq L h2
abbrev rbA (s:St)(cl:Int)(q:Op):SL:=rb1 cl ++ (rb3 s ++ (rb5 q ++ rb6))
set_option maxHeartbeats 4000000 in
theorem dr_start (s:St)(cl:Int)(q:Op)(s':St)(r:Rs)
  (h1:(cl < 0∨(s.Handles.length:Int)≤cl∨q.Kind < 1∨8 < q.Kind)→WL Try.prog fi77.nt c77_0 (rbA s cl q ++ ((2600,0,bl true) :: ghT s)) (rbQ s' r))
  (h2:¬ (cl < 0∨(s.Handles.length:Int)≤cl∨q.Kind < 1∨8 < q.Kind)→WL Try.prog fi77.nt c77_60 (rbA s cl q ++ ((2600,0,bl false) :: ghT s)) (rbQ s' r)) :
  FnC Try.prog 77 (gsT s) [vwT s,i64 cl,encO false q] (gsT s') (encR true r):=by
 refine FnC.go ok77 rfl ?_
 refine WL.sregC (RL.boxW (by simp;rfl) (by simp) (by simp[isVw]) (by simp) ?_)
 refine RL.o (by simp;rfl) (RL.nil ⟨_,by simp;rfl,?_⟩)
 refine WL.seq ?_
 by_cases k1:cl < 0
 ·refine WL.sreg (by simp[k1];rfl) (by simp;rfl) ?_
  exact WL.cond (t:=true) (by simp) (fun _=>(h1 (.inl k1)).up fun _ h=>⟨.inr rfl,h⟩) (by simp)
 by_cases k2:(s.Handles.length:Int)≤cl
 ·refine WL.sreg (by simp[k1,k2];rfl) (by simp;rfl) ?_
  exact WL.cond (t:=true) (by simp) (fun _=>(h1 (.inr (.inl k2))).up fun _ h=>⟨.inr rfl,h⟩) (by simp)
 by_cases k3:q.Kind < 1
 ·refine WL.sreg (by simp[k1,k2,k3];rfl) (by simp;rfl) ?_
  exact WL.cond (t:=true) (by simp) (fun _=>(h1 (.inr (.inr (.inl k3)))).up fun _ h=>⟨.inr rfl,h⟩) (by simp)
 by_cases k4:8 < q.Kind
 ·refine WL.sreg (by simp[k1,k2,k3,k4];rfl) (by simp;rfl) ?_
  exact WL.cond (t:=true) (by simp) (fun _=>(h1 (.inr (.inr (.inr k4)))).up fun _ h=>⟨.inr rfl,h⟩) (by simp)
 ·refine WL.sreg (by simp[k1,k2,k3,k4];rfl) (by simp;rfl) ?_
  exact WL.cond (t:=false) (by simp) (by simp) (fun _=>WL.skip ((h2 (by omega)).up fun _ h=>⟨.inr rfl,h⟩))
end Go.OT
namespace Go.OT
open Go.Proofs
abbrev rbP (s:St)(cl:Int)(q:Op)(p:Int)(t:SL):SL:=rb1 cl ++ (rb3 s ++ (rb5 q ++ (rb6 ++ ((700,0,i64 p) :: (t ++ ghT s)))))
set_option maxHeartbeats 4000000 in
theorem dr_none (s:St)(cl:Int)(q:Op):WL Try.prog fi77.nt c77_0 (rbA s cl q ++ ((2600,0,bl true) :: ghT s)) (rbQ s (rsE 1)):=by
 refine WL.sregC (RL.call0 false (fail_fn 1) (by simp) (by simp) (RL.o (by simp;rfl) (RL.nil ⟨_,by simp;rfl,?_⟩)))
 refine WL.ret ⟨rfl,?_⟩
 simp[fi77,rsE]
set_option maxHeartbeats 4000000 in
theorem dr_page (s:St)(cl:Int)(q:Op)(s':St)(r:Rs)(hk:q.Kind=2∨q.Kind=6∨q.Kind=8)(hsm:Small s.There.length)
  (e1:isPage s q.Page=false→s'=s∧r=rsE 1)
  (e2:isPage s q.Page=true→there s q.Page=false→s'=s∧r=rsE 2)
  (k:there s q.Page=true→WL Try.prog fi77.nt c77_58 (rbP s cl q q.Page [(5800,0,bl false)]) (rbQ s' r)) :
  WL Try.prog fi77.nt c77_60 (rbA s cl q ++ ((2600,0,bl false) :: ghT s)) (rbQ s' r):=by
 refine WL.sreg (by simp;rfl) (by simp;rfl) ?_
 refine WL.seq ?_
 suffices h:WL Try.prog fi77.nt c77_8 (rbP s cl q q.Page [(4200,0,bl true)]) (Ex.thenL (fun L'=>WL Try.prog fi77.nt c77_58 L' (rbQ s' r)) (rbQ s' r)) by
  clear e1 e2 k
  obtain⟨K,Pg,Hd,Of,Nn,Dt⟩:=q
  rcases hk with hk | hk | hk<;>(simp only at hk;subst hk;exact WL.sreg (by simp<;>rfl) (by simp<;>rfl) h)
 refine WL.cond (t:=true) (by simp) (fun _=>?_) (by simp)
 refine WL.seq ?_
 by_cases h1:q.Page < 0
 ·obtain⟨a,b⟩:=e1 (by simp[isPage];omega)
  subst a b
  refine WL.sreg (by simp[h1];rfl) (by simp;rfl) ?_
  refine WL.cond (t:=true) (by simp) (fun _=>?_) (by simp)
  refine WL.sregC (RL.call0 false (fail_fn 1) (by simp) (by simp) (RL.o (by simp;rfl) (RL.nil ⟨_,by simp;rfl,?_⟩)))
  refine WL.ret ⟨rfl,?_⟩
  simp[fi77,rsE]
 obtain⟨p,hp⟩:=Int.eq_ofNat_of_zero_le (a:=q.Page) (by omega)
 by_cases h2:s.There.length≤p
 ·obtain⟨a,b⟩:=e1 (by simp[isPage,hp];omega)
  subst a b
  refine WL.sreg (by simp[hp,h2];rfl) (by simp;rfl) ?_
  refine WL.cond (t:=true) (by simp[h2]) (fun _=>?_) (by simp)
  refine WL.sregC (RL.call0 false (fail_fn 1) (by simp) (by simp) (RL.o (by simp;rfl) (RL.nil ⟨_,by simp;rfl,?_⟩)))
  refine WL.ret ⟨rfl,?_⟩
  simp[fi77,rsE]
 have h2':p < s.There.length:=by omega
 refine WL.sreg (by simp[hp,h2,h2'];rfl) (by simp;rfl) ?_
 refine WL.cond (t:=false) (by simp[h2,h2']) (by simp) (fun _=>WL.skip ?_)
 refine WL.sreg (by simp[h2',Nat.succ_le_of_lt h2'];rfl) (by simp;rfl) ?_
 have hth:there s q.Page=s.There[p]:=by simp[there,isPage,hp,h2']
 cases h3:s.There[p] with
 | false =>
  obtain⟨a,b⟩:=e2 (by simp[isPage,hp];omega) (by rw[hth,h3])
  subst a b
  refine WL.cond (t:=true) (by simp[h3]) (fun _=>?_) (by simp)
  refine WL.sregC (RL.call0 false (fail_fn 2) (by simp) (by simp) (RL.o (by simp;rfl) (RL.nil ⟨_,by simp;rfl,?_⟩)))
  refine WL.ret ⟨rfl,?_⟩
  simp[fi77,rsE]
 | true =>
  refine WL.cond (t:=false) (by simp[h3]) (by simp) (fun _=>WL.skip ?_)
  have:=k (by rw[hth,h3])
  simp only[rbP,rb5,hp] at this
  exact this
set_option maxHeartbeats 4000000 in
theorem dr_held (s:St)(cl:Int)(q:Op)(s':St)(r:Rs)(hk:q.Kind=3∨q.Kind=4∨q.Kind=5)
  (e5:heldF s cl q.Handle < 0→s'=s∧r=rsE 5)
  (k:0≤heldF s cl q.Handle→WL Try.prog fi77.nt c77_57 (rbP s cl q (heldF s cl q.Handle) [(7900,0,bl false)]) (rbQ s' r)) :
  WL Try.prog fi77.nt c77_60 (rbA s cl q ++ ((2600,0,bl false) :: ghT s)) (rbQ s' r):=by
 refine WL.sreg (by simp;rfl) (by simp;rfl) ?_
 refine WL.seq ?_
 suffices h:WL Try.prog fi77.nt c77_13 (rbP s cl q q.Page [(7200,0,bl true)]) (Ex.thenL (fun L'=>WL Try.prog fi77.nt c77_57 L' (rbQ s' r)) (rbQ s' r)) by
  clear e5 k
  obtain⟨K,Pg,Hd,Of,Nn,Dt⟩:=q
  rcases hk with hk | hk | hk<;>(simp only at hk;subst hk;exact WL.sreg (by simp<;>rfl) (by simp<;>rfl) (WL.cond (t:=false) (by simp) (by simp) fun _=>WL.skip (WL.seq (WL.sreg (by simp<;>rfl) (by simp<;>rfl) h))))
 refine WL.cond (t:=true) (by simp) (fun _=>?_) (by simp)
 refine WL.sregC (RL.o (by simp;rfl) (RL.call0 true (held_fn s cl q.Handle) (by simp) (by simp) (RL.o (by simp;rfl) (RL.nil ⟨_,by simp;rfl,?_⟩))))
 refine WL.sreg (by simp;rfl) (by simp;rfl) ?_
 by_cases h1:heldF s cl q.Handle < 0
 ·obtain⟨a,b⟩:=e5 h1
  subst a b
  refine WL.cond (t:=true) (by simp[h1]) (fun _=>?_) (by simp)
  refine WL.sregC (RL.call0 false (fail_fn 5) (by simp) (by simp) (RL.o (by simp;rfl) (RL.nil ⟨_,by simp;rfl,?_⟩)))
  refine WL.ret ⟨rfl,?_⟩
  simp[fi77,rsE]
 ·refine WL.cond (t:=false) (by simp;omega) (by simp) (fun _=>WL.skip ?_)
  have d:decide (heldF s cl q.Handle < 0)=false:=by simpa using Int.not_lt.1 h1
  rw[d]
  exact k (by omega)
end Go.OT
namespace Go.OT
open Go.Proofs
theorem immI:∀ l:List Int,noImmL (l.map i64)=true
 | []=>rfl
 | _ :: l=>immI l
theorem immB:∀ l:List Bool,noImmL (l.map bl)=true
 | []=>rfl
 | _ :: l=>immB l
theorem immS:∀ l:List (List UInt8),noImmL (l.map str)=true
 | []=>rfl
 | _ :: l=>immS l
theorem immII:∀ l:List (List Int),noImmL (l.map (sI true))=true
 | []=>rfl
 | a :: l=>by
  show (noImm (sI true a:AU) && noImmL (l.map (sI true)))=true
  rw[immII l,Bool.and_true]
  simp only[noImm,immI,Bool.and_self]
theorem side_give (H H':List (List Int))(hl:H'.length=H.length)(k:Int):sideOk true [.nod (sII true H)] [.nod (sII true H')] (i64 k)=true:=by
 have:noImm (sII true H':AU)=true:=by simp only[noImm,immII,Bool.and_self]
 simp only[sideOk,List.all_cons,List.all_nil,ghImm,this]
 simp[hl]
abbrev rsO:Rs:=⟨0,0,0,[]⟩
set_option maxHeartbeats 4000000 in
theorem dr_flush (s:St)(cl:Int)(P Hd Of Nn:Int)(D:List UInt8):WL Try.prog fi77.nt c77_58 (rbP s cl ⟨6,P,Hd,Of,Nn,D⟩ P [(5800,0,bl false)]) (rbQ s rsO):=by
 refine WL.seq (WL.sreg (by simp<;>rfl) (by simp<;>rfl) ?_)
 refine WL.cond (t:=false) (by simp) (by simp) (fun _=>WL.skip ?_)
 refine WL.seq (WL.sreg (by simp<;>rfl) (by simp<;>rfl) ?_)
 refine WL.block (WL.sreg (by simp<;>rfl) (by simp<;>rfl) ?_)
 refine WL.cond (t:=false) (by simp) (by simp) (fun _=>WL.sreg (by simp<;>rfl) (by simp<;>rfl) ?_)
 refine WL.cond (t:=false) (by simp) (by simp) (fun _=>WL.sreg (by simp<;>rfl) (by simp<;>rfl) ?_)
 refine WL.cond (t:=false) (by simp) (by simp) (fun _=>WL.sreg (by simp<;>rfl) (by simp<;>rfl) ?_)
 refine WL.cond (t:=false) (by simp) (by simp) (fun _=>WL.sreg (by simp<;>rfl) (by simp<;>rfl) ?_)
 refine WL.cond (t:=false) (by simp) (by simp) (fun _=>WL.sreg (by simp<;>rfl) (by simp<;>rfl) ?_)
 refine WL.cond (t:=false) (by simp) (by simp) (fun _=>WL.skip ?_)
 refine WL.sreg (by simp<;>rfl) (by simp<;>rfl) (WL.nil1 604 true 1 (by simp) (WL.ret ⟨rfl,?_⟩))
 simp[fi77]
set_option maxHeartbeats 4000000 in
theorem dr_fetch (s:St)(c:Nat)(hc:c < s.Handles.length)(hs:Small s.Handles[c].length)(P Hd Of Nn:Int)(D:List UInt8)(s':St)(r:Rs)
  (e4:freeH s.Handles[c]=false→s'=s∧r=rsE 4) (k:Nat) (ek:freeH s.Handles[c]=true→k < s.Handles[c].length∧freeI s.Handles[c]=(k:Int)∧s'=⟨s.There,s.Body,s.Handles.set c (s.Handles[c].set k P)⟩∧r=⟨0,P,k,[]⟩) :
  WL Try.prog fi77.nt c77_58 (rbP s c ⟨2,P,Hd,Of,Nn,D⟩ P [(5800,0,bl false)]) (rbQ s' r):=by
 refine WL.seq (WL.sreg (by simp<;>rfl) (by simp<;>rfl) ?_)
 refine WL.cond (t:=false) (by simp) (by simp) (fun _=>WL.skip ?_)
 refine WL.seq (WL.sreg (by simp<;>rfl) (by simp<;>rfl) ?_)
 refine WL.block (WL.sreg (by simp<;>rfl) (by simp<;>rfl) ?_)
 refine WL.cond (t:=false) (by simp) (by simp) (fun _=>WL.sreg (by simp<;>rfl) (by simp<;>rfl) ?_)
 refine WL.cond (t:=true) (by simp) (fun _=>?_) (by simp)
 refine WL.seq (WL.sregC (RL.o (by simp;rfl) (RL.call0 true (room_fn s c hc hs) (by simp) (by simp) (RL.o (by simp;rfl) (RL.nil ⟨_,by simp;rfl,?_⟩)))))
 cases h:freeH s.Handles[c] with
 | false =>
  obtain⟨a,b⟩:=e4 h
  subst a b
  refine WL.cond (t:=true) (by simp) (fun _=>?_) (by simp)
  refine WL.sregC (RL.call0 false (fail_fn 4) (by simp) (by simp) (RL.o (by simp;rfl) (RL.nil ⟨_,by simp;rfl,?_⟩)))
  refine WL.ret ⟨rfl,?_⟩
  simp[fi77,rsE]
 | true =>
  obtain⟨hk,hf,a,b⟩:=ek h
  subst a b
  refine WL.cond (t:=false) (by simp) (by simp) (fun _=>WL.skip ?_)
  refine WL.sregC (RL.o (by simp;rfl) (RL.call true [(1000200,[])] (give_fn s _ _ rfl rfl c hc hs P k hk hf) (by simp) (by simp) (by simp[gkey]) (side_give _ _ (by simp) _) (RL.o (by simp;rfl) (RL.nil ⟨_,by simp;rfl,?_⟩))))
  refine WL.nil1 604 true 1 (by simp) (WL.ret ⟨rfl,?_⟩)
  simp[fi77]
end Go.OT
namespace Go.OT
open Go.Proofs
theorem strOf_ext (w:List UInt8)(lo hi:Nat):(strOf w).extract lo hi=strOf ((w.drop lo).take (hi - lo)):=by
 apply ByteArray.ext
 rw[ByteArray.data_extract]
 simp[strOf]
theorem strOf_app (a b:List UInt8):strOf a ++ strOf b=strOf (a ++ b):=by
 apply ByteArray.ext
 simp[strOf]
theorem strC_of (w:List UInt8):(strC (strOf w):List AU)=w.map fun b=>u8 (b.toNat:Int):=by
 simp[strC,strOf_toList]
set_option maxHeartbeats 4000000 in
theorem dr_flushAll (s:St)(cl:Int)(P Hd Of Nn:Int)(D:List UInt8):WL Try.prog fi77.nt c77_60 (rbA s cl ⟨7,P,Hd,Of,Nn,D⟩ ++ ((2600,0,bl false) :: ghT s)) (rbQ s rsO):=by
 refine WL.sreg (by simp<;>rfl) (by simp<;>rfl) ?_
 refine WL.seq (WL.sreg (by simp<;>rfl) (by simp<;>rfl) ?_)
 refine WL.cond (t:=false) (by simp) (by simp) (fun _=>WL.skip ?_)
 refine WL.seq (WL.sreg (by simp<;>rfl) (by simp<;>rfl) ?_)
 refine WL.cond (t:=false) (by simp) (by simp) (fun _=>WL.skip ?_)
 refine WL.seq (WL.sreg (by simp<;>rfl) (by simp<;>rfl) ?_)
 refine WL.block (WL.sreg (by simp<;>rfl) (by simp<;>rfl) ?_)
 refine WL.cond (t:=false) (by simp) (by simp) (fun _=>WL.sreg (by simp<;>rfl) (by simp<;>rfl) ?_)
 refine WL.cond (t:=false) (by simp) (by simp) (fun _=>WL.sreg (by simp<;>rfl) (by simp<;>rfl) ?_)
 refine WL.cond (t:=false) (by simp) (by simp) (fun _=>WL.sreg (by simp<;>rfl) (by simp<;>rfl) ?_)
 refine WL.cond (t:=false) (by simp) (by simp) (fun _=>WL.sreg (by simp<;>rfl) (by simp<;>rfl) ?_)
 refine WL.cond (t:=false) (by simp) (by simp) (fun _=>WL.sreg (by simp<;>rfl) (by simp<;>rfl) ?_)
 refine WL.cond (t:=false) (by simp) (by simp) (fun _=>WL.skip ?_)
 refine WL.sreg (by simp<;>rfl) (by simp<;>rfl) (WL.nil1 604 true 1 (by simp) (WL.ret ⟨rfl,?_⟩))
 simp[fi77]
set_option maxHeartbeats 4000000 in
theorem dr_unpin (s:St)(c:Nat)(hc:c < s.Handles.length)(k:Nat)(hk:k < s.Handles[c].length)(P p Of Nn:Int)(D:List UInt8) :
  WL Try.prog fi77.nt c77_57 (rbP s c ⟨5,P,k,Of,Nn,D⟩ p [(7900,0,bl false)]) (rbQ ⟨s.There,s.Body,s.Handles.set c (s.Handles[c].set k (-1))⟩ rsO):=by
 refine WL.seq (WL.sreg (by simp<;>rfl) (by simp<;>rfl) ?_)
 refine WL.block (WL.sreg (by simp<;>rfl) (by simp<;>rfl) ?_)
 refine WL.cond (t:=false) (by simp) (by simp) (fun _=>WL.sreg (by simp<;>rfl) (by simp<;>rfl) ?_)
 refine WL.cond (t:=false) (by simp) (by simp) (fun _=>WL.sreg (by simp<;>rfl) (by simp<;>rfl) ?_)
 refine WL.cond (t:=false) (by simp) (by simp) (fun _=>WL.sreg (by simp<;>rfl) (by simp<;>rfl) ?_)
 refine WL.cond (t:=false) (by simp) (by simp) (fun _=>WL.sreg (by simp<;>rfl) (by simp<;>rfl) ?_)
 refine WL.cond (t:=true) (by simp) (fun _=>?_) (by simp)
 refine WL.draw mixed (by simp[cleanL,noH]) (DL.o (by simp[hc,hk,Nat.succ_le_of_lt hk,Nat.succ_le_of_lt hc];exact⟨rfl,rfl⟩) (DL.nil ⟨by kernel_rfl,_,by simp;rfl,?_⟩))
 refine WL.sreg (by simp<;>rfl) (by simp<;>rfl) (WL.nil1 604 true 1 (by simp) (WL.ret ⟨rfl,?_⟩))
 simp[fi77,List.map_set,sI]
end Go.OT
namespace Go.OT
open Go.Proofs
def pcnt (p:Int)(l:List Int):Nat:=if 0≤p then cnt p l else 0
def ppins (p:Int)(l:List (List Int)):Nat:=if 0≤p then pinsL p l else 0
set_option maxHeartbeats 4000000 in
theorem refpins_fn (s:St)(hs:Sized s)(p:Int):FnC Try.prog 127 [] [encT false s,i64 p] [] (i64 (Pins s p)):=by
 have hP:Pins s p=(ppins p s.Handles:Nat):=by
  unfold Pins ppins
  by_cases h:p < 0
  ·rw[if_pos h,if_neg (by omega)];rfl
  ·rw[if_neg h,if_pos (by omega)]
 refine FnC.go ok127 rfl ?_
 refine WL.sreg (by simp;rfl) (by simp;rfl) ?_
 refine WL.sreg (by simp;rfl) (by simp;rfl) ?_
 refine WL.seq (WL.sreg (by simp;rfl) (by simp;rfl) ?_)
 refine WL.block (WL.count s.Handles.length (fun i=>[(100,0,i64 p),(200,0,.bptr 2 1 0),(201,0,sB false s.There),(202,0,sS false s.Body),(203,0,sII false s.Handles),(299,1,.non),(500,0,i64 (ppins p (s.Handles.take i))),(600,0,i64 i)]) (fun _=>True) (by simp[ppins,pinsL]) trivial fun i hi _=>?_)
 have hS:Small s.Handles.length:=by have:=hs.h;unfold Small;omega
 by_cases h:i < s.Handles.length
 ·have hi1:i+1≤s.Handles.length:=h
  have hl:s.Handles[i].length≤1000:=hs.hs _ (List.getElem_mem h)
  have hSl:Small s.Handles[i].length:=by unfold Small;omega
  have hle:ppins p (s.Handles.take i)≤1000 * 1000:=by
   have h1:=pinsL_le p (s.Handles.take i) (fun l hl=>hs.hs l (List.mem_of_mem_take hl))
   have h2:=hs.h
   simp only[List.length_take] at h1
   unfold ppins
   split<;>omega
  have hadd:∀ k,pcnt p (s.Handles[i].take k)≤1000:=fun k=>by
   have:=cnt_le p (s.Handles[i].take k)
   simp only[List.length_take] at this
   unfold pcnt
   split<;>omega
  refine WL.seq (WL.sreg (by simp[h];rfl) (by simp;rfl) ?_)
  refine WL.cond (t:=true) (by simp) (fun _=>WL.skip ?_) (by simp)
  refine WL.seq (WL.block (WL.sreg (by simp;rfl) (by simp;rfl) ?_))
  refine WL.block (WL.count s.Handles[i].length (fun k=>[(100,0,i64 p),(200,0,.bptr 2 1 0),(201,0,sB false s.There),(202,0,sS false s.Body),(203,0,sII false s.Handles),(299,1,.non),(500,0,i64 (ppins p (s.Handles.take i)+pcnt p (s.Handles[i].take k):Nat)),(600,0,i64 i),(700,0,i64 k)]) (fun _=>True) (by simp[pcnt,cnt]) trivial fun k hk _=>?_)
  by_cases h':k < s.Handles[i].length
  ·have hk1:k+1≤s.Handles[i].length:=h'
   have hS2:Small 1000000000:=by unfold Small;omega
   refine WL.seq (WL.sreg (by simp[h,hi1,h'];rfl) (by simp;rfl) ?_)
   refine WL.cond (t:=true) (by simp) (fun _=>WL.skip ?_) (by simp)
   have hcs:=cnt_snoc p s.Handles[i] h'
   have hc:=hadd k
   by_cases e:s.Handles[i][k]=p
   ·by_cases e0:0≤p
    ·rw[if_pos e] at hcs
     have hcs':pcnt p (s.Handles[i].take (k+1))=pcnt p (s.Handles[i].take k)+1:=by simp only[pcnt,if_pos e0,hcs]
     have hw:IntKind.wrap .i64 ((ppins p (s.Handles.take i):Int)+(pcnt p (s.Handles[i].take k):Int)+1)=(ppins p (s.Handles.take i):Int)+(pcnt p (s.Handles[i].take k):Int)+1:=by
      simpa using wrap_succ hS2 (show ppins p (s.Handles.take i)+pcnt p (s.Handles[i].take k) < 1000000000 by omega)
     refine WL.seq (WL.block (WL.sreg (by simp[h,hi1,h',hk1,e,e0];rfl) (by simp;rfl) ?_))
     refine WL.cond (t:=true) (by simp[e0]) (fun _=>?_) (by simp)
     refine WL.reg (RL.run (by simp[hw];rfl) ⟨_,by simp;rfl,?_⟩)
     refine WL.reg (RL.run (by simp[wrap_succ hSl h'];rfl) ⟨_,by simp;rfl,h',?_,trivial⟩)
     simp[hcs']
     omega
    ·have hcs':∀ j,pcnt p (s.Handles[i].take j)=0:=fun j=>by simp only[pcnt,if_neg e0]
     refine WL.seq (WL.block (WL.sreg (by simp[h,hi1,h',hk1,e,e0];rfl) (by simp;rfl) ?_))
     refine WL.cond (t:=false) (by simp[e0]) (by simp) (fun _=>WL.skip ?_)
     refine WL.reg (RL.run (by simp[wrap_succ hSl h'];rfl) ⟨_,by simp;rfl,h',?_,trivial⟩)
     simp[hcs',e0]
   ·rw[if_neg e] at hcs
    have eb:(s.Handles[i][k] == p)=false:=by simp[e]
    have hcs':pcnt p (s.Handles[i].take (k+1))=pcnt p (s.Handles[i].take k):=by simp only[pcnt,hcs,Nat.add_zero]
    refine WL.seq (WL.block (WL.sreg (by simp[h,hi1,h',hk1,eb];rfl) (by simp;rfl) ?_))
    refine WL.cond (t:=false) (by simp) (by simp) (fun _=>WL.skip ?_)
    refine WL.reg (RL.run (by simp[wrap_succ hSl h'];rfl) ⟨_,by simp;rfl,h',?_,trivial⟩)
    simp[hcs']
  ·refine WL.seq (WL.sreg (by simp[h,hi1,h'];rfl) (by simp;rfl) ?_)
   refine WL.cond (t:=false) (by simp) (by simp) fun _=>WL.exit ?_
   refine WL.reg (RL.run (by simp[wrap_succ hS h];rfl) ⟨_,by simp;rfl,h,?_,trivial⟩)
   have hk':k=s.Handles[i].length:=by omega
   subst hk'
   have:ppins p (s.Handles.take (i+1))=ppins p (s.Handles.take i)+pcnt p s.Handles[i]:=by
    unfold ppins pcnt
    split
    ·rw[pinsL_snoc p s.Handles h]
    ·rfl
   simp[this]
 ·refine WL.seq (WL.sreg (by simp[h];rfl) (by simp;rfl) ?_)
  refine WL.cond (t:=false) (by simp) (by simp) fun _=>WL.exit ?_
  have hi':i=s.Handles.length:=by omega
  subst hi'
  refine WL.sreg (by simp;rfl) (by simp;rfl) (WL.ret ⟨.inr rfl,?_⟩)
  simp[fi127,hP]
end Go.OT
namespace Go.OT
open Go.Proofs
set_option maxHeartbeats 4000000 in
theorem dr_delete (s:St)(hs:Sized s)(cl:Int)(p:Nat)(hp:p < s.There.length)(hb:p < s.Body.length)(Hd Of Nn:Int)(D:List UInt8)(s':St)(r:Rs)
  (e7:0 < Pins s p→s'=s∧r=rsE 7) (ok:¬ 0 < Pins s p→s'=⟨s.There.set p false,s.Body.set p z16,s.Handles⟩∧r=rsO) :
  WL Try.prog fi77.nt c77_58 (rbP s cl ⟨8,p,Hd,Of,Nn,D⟩ p [(5800,0,bl false)]) (rbQ s' r):=by
 refine WL.seq (WL.sreg (by simp<;>rfl) (by simp<;>rfl) ?_)
 refine WL.cond (t:=false) (by simp) (by simp) (fun _=>WL.skip ?_)
 refine WL.seq (WL.sreg (by simp<;>rfl) (by simp<;>rfl) ?_)
 refine WL.block (WL.sreg (by simp<;>rfl) (by simp<;>rfl) ?_)
 refine WL.cond (t:=false) (by simp) (by simp) (fun _=>WL.sreg (by simp<;>rfl) (by simp<;>rfl) ?_)
 refine WL.cond (t:=false) (by simp) (by simp) (fun _=>WL.sreg (by simp<;>rfl) (by simp<;>rfl) ?_)
 refine WL.cond (t:=false) (by simp) (by simp) (fun _=>WL.sreg (by simp<;>rfl) (by simp<;>rfl) ?_)
 refine WL.cond (t:=false) (by simp) (by simp) (fun _=>WL.sreg (by simp<;>rfl) (by simp<;>rfl) ?_)
 refine WL.cond (t:=false) (by simp) (by simp) (fun _=>WL.sreg (by simp<;>rfl) (by simp<;>rfl) ?_)
 refine WL.cond (t:=true) (by simp) (fun _=>?_) (by simp)
 refine WL.seq (WL.sregC (RL.o (by simp;rfl) (RL.call0 true (refpins_fn s hs p) (by simp) (by simp) (RL.o (by simp;rfl) (RL.nil ⟨_,by simp;rfl,?_⟩)))))
 by_cases h:0 < Pins s p
 ·obtain⟨a,b⟩:=e7 h
  subst a b
  refine WL.cond (t:=true) (by simp[h]) (fun _=>?_) (by simp)
  refine WL.sregC (RL.call0 false (fail_fn 7) (by simp) (by simp) (RL.o (by simp;rfl) (RL.nil ⟨_,by simp;rfl,?_⟩)))
  refine WL.ret ⟨rfl,?_⟩
  simp[fi77,rsE]
 ·obtain⟨a,b⟩:=ok h
  subst a b
  refine WL.cond (t:=false) (by simp;omega) (by simp) (fun _=>WL.skip ?_)
  refine WL.draw mixed (by simp[cleanL,noH]) (DL.o (by simp;exact⟨rfl,rfl⟩) (DL.call0 false zeros_fn (by simp) (by simp) (DL.o (by simp[hp,hb,Nat.succ_le_of_lt hp,Nat.succ_le_of_lt hb];exact⟨rfl,rfl⟩) (DL.nil ⟨by kernel_rfl,_,by simp;rfl,?_⟩))))
  refine WL.sreg (by simp<;>rfl) (by simp<;>rfl) (WL.nil1 604 true 1 (by simp) (WL.ret ⟨rfl,?_⟩))
  simp[fi77,List.map_set]
abbrev rbN (s:St)(cl:Int)(p:Int)(t:SL):SL:=rb1 cl ++ (rb3 s ++ (rb6 ++ ((700,0,i64 p) :: (t ++ ghT s))))
set_option maxHeartbeats 4000000 in
theorem dr_newAt (s:St)(c:Nat)(hc:c < s.Handles.length)(hs:Small s.Handles[c].length)(i:Nat)(hi:i < s.There.length)(hb:i < s.Body.length)(k:Nat)(hk:k < s.Handles[c].length)(hf:freeI s.Handles[c]=(k:Int)) :
  WL Try.prog fi77.nt c77_22 (rbN s c i [(10800,0,bl false)]) (rbQ ⟨s.There.set i true,s.Body.set i z16,s.Handles.set c (s.Handles[c].set k i)⟩ ⟨0,i,k,[]⟩):=by
 refine WL.seq (WL.draw mixed (by simp[cleanL,noH]) (DL.o (by simp;exact⟨rfl,rfl⟩) (DL.call0 false zeros_fn (by simp) (by simp) (DL.o (by simp[hi,hb,Nat.succ_le_of_lt hi,Nat.succ_le_of_lt hb];exact⟨rfl,rfl⟩) (DL.nil ⟨by kernel_rfl,_,by simp;rfl,?_⟩)))))
 obtain⟨T,hT⟩:∃ T,T=s.There.set i true:=⟨_,rfl⟩
 obtain⟨B,hB⟩:∃ B,B=s.Body.set i z16:=⟨_,rfl⟩
 have eT:(AV.sl true () 1 s.There.length ((s.There.map bl).set i (bl true)):AU)=sB true T:=by simp[hT,List.map_set,sB]
 have eB:(AV.sl true () 1 s.Body.length ((s.Body.map str).set i (str z16)):AU)=sS true B:=by simp[hB,List.map_set,sS]
 have lT:T.length=s.There.length:=by simp[hT]
 have lB:B.length=s.Body.length:=by simp[hB]
 have tT:(T.map bl).take s.There.length=T.map bl:=List.take_of_length_le (by simp[lT])
 have tB:(B.map str).take s.Body.length=B.map str:=List.take_of_length_le (by simp[lB])
 rw[eT,eB,← hT,← hB]
 clear eT eB hT hB
 have hg:=give_fn ⟨T,B,s.Handles⟩ _ _ rfl rfl c hc hs i k hk hf
 refine WL.sregC (RL.o (by simp;rfl) (RL.call true [(1000200,[])] hg (by simp) (by simp) (by simp[gkey,lT,lB,tT,tB]) (side_give _ _ (by simp) _) (RL.o (by simp;rfl) (RL.nil ⟨_,by simp;rfl,?_⟩))))
 refine WL.nil1 604 true 1 (by simp) (WL.ret ⟨rfl,?_⟩)
 simp[fi77,List.map_set,lT,lB]
end Go.OT
namespace Go.OT
open Go.Proofs
set_option maxHeartbeats 4000000 in
theorem dr_new (s:St)(hT:Small s.There.length)(hB:s.Body.length=s.There.length)(c:Nat)(hc:c < s.Handles.length)(hs:Small s.Handles[c].length)(P Hd Of Nn:Int)(D:List UInt8)(s':St)(r:Rs)
  (e4:freeH s.Handles[c]=false→s'=s∧r=rsE 4)
  (e3:freeH s.Handles[c]=true→ixF (· == false) s.There 0=-1→s'=s∧r=rsE 3)
  (k:Nat) (ek:freeH s.Handles[c]=true→k < s.Handles[c].length∧freeI s.Handles[c]=(k:Int))
  (ok:freeH s.Handles[c]=true→∀ i:Nat,i < s.There.length→ixF (· == false) s.There 0=(i:Int)→s'=⟨s.There.set i true,s.Body.set i z16,s.Handles.set c (s.Handles[c].set k i)⟩∧r=⟨0,i,k,[]⟩) :
  WL Try.prog fi77.nt c77_60 (rbA s c ⟨1,P,Hd,Of,Nn,D⟩ ++ ((2600,0,bl false) :: ghT s)) (rbQ s' r):=by
 refine WL.sreg (by simp<;>rfl) (by simp<;>rfl) ?_
 refine WL.seq (WL.sreg (by simp<;>rfl) (by simp<;>rfl) ?_)
 refine WL.cond (t:=false) (by simp) (by simp) (fun _=>WL.skip ?_)
 refine WL.seq (WL.sreg (by simp<;>rfl) (by simp<;>rfl) ?_)
 refine WL.cond (t:=false) (by simp) (by simp) (fun _=>WL.skip ?_)
 refine WL.seq (WL.sreg (by simp<;>rfl) (by simp<;>rfl) ?_)
 refine WL.block (WL.sreg (by simp<;>rfl) (by simp<;>rfl) ?_)
 refine WL.cond (t:=true) (by simp) (fun _=>?_) (by simp)
 refine WL.seq (WL.sregC (RL.o (by simp;rfl) (RL.call0 true (room_fn s c hc hs) (by simp) (by simp) (RL.o (by simp;rfl) (RL.nil ⟨_,by simp;rfl,?_⟩)))))
 cases h:freeH s.Handles[c] with
 | false =>
  obtain⟨a,b⟩:=e4 h
  subst a b
  refine WL.cond (t:=true) (by simp) (fun _=>?_) (by simp)
  refine WL.sregC (RL.call0 false (fail_fn 4) (by simp) (by simp) (RL.o (by simp;rfl) (RL.nil ⟨_,by simp;rfl,?_⟩)))
  refine WL.ret ⟨rfl,?_⟩
  simp[fi77,rsE]
 | true =>
  obtain⟨hk,hf⟩:=ek h
  refine WL.cond (t:=false) (by simp) (by simp) (fun _=>WL.skip ?_)
  refine WL.sreg (by simp;rfl) (by simp;rfl) ?_
  refine WL.seq (WL.block (WL.count s.There.length (fun i=>rbN s c i []) (fun i=>ixF (· == false) (s.There.drop i) i=ixF (· == false) s.There 0) (by simp) rfl fun i hi hp=>?_))
  have fin:i < s.There.length→s.There[i]?=some false→WL Try.prog fi77.nt c77_22 (rbN s c i [(10800,0,bl false)]) (rbQ s' r):=fun hi hf'=>by
   have h1:s.There[i]=false:=by simpa [hi] using hf'
   rw[ixF_drop _ _ _ hi,if_pos (by simp[h1])] at hp
   obtain⟨a,b⟩:=ok h i hi hp.symm
   subst a b
   exact dr_newAt s c hc hs i hi (by omega) k hk hf
  by_cases hi':i < s.There.length
  ·have hi1:i+1≤s.There.length:=hi'
   cases hb:s.There[i] with
   | true =>
    refine WL.seq (WL.sreg (by simp[hi',hi1,hb];rfl) (by simp;rfl) ?_)
    refine WL.cond (t:=true) (by simp[hb]) (fun _=>WL.skip ?_) (by simp)
    rw[ixF_drop _ _ _ hi',if_neg (by simp[hb])] at hp
    refine WL.block (WL.reg (RL.run (by simp[wrap_succ hT hi'];rfl) ⟨_,by simp;rfl,hi',?_,hp⟩))
    simp
   | false =>
    refine WL.seq (WL.sreg (by simp[hi',hi1,hb];rfl) (by simp;rfl) ?_)
    refine WL.cond (t:=false) (by simp[hb]) (by simp) (fun _=>WL.exit ?_)
    have hne:¬ i=s.There.length:=by omega
    have hneI:¬ (i:Int)=s.There.length:=by omega
    refine WL.seq (WL.sreg (by simp[hne,hneI];rfl) (by simp;rfl) ?_)
    refine WL.cond (t:=false) (by simp[hne,hneI]) (by simp) (fun _=>WL.skip ?_)
    have d:((i:Int) == (s.There.length:Int))=false:=by simpa using hneI
    rw[d]
    show WL Try.prog fi77.nt c77_22 _ _
    exact WL.up (fin hi' (by simp[hi',hb])) fun _ h=>⟨rfl,h⟩
  ·have hi2:i=s.There.length:=by omega
   subst hi2
   rw[ixF_end _ _ _ hi'] at hp
   obtain⟨a,b⟩:=e3 h hp.symm
   subst a b
   refine WL.seq (WL.sreg (by simp;rfl) (by simp;rfl) ?_)
   refine WL.cond (t:=false) (by simp) (by simp) (fun _=>WL.exit ?_)
   refine WL.seq (WL.sreg (by simp;rfl) (by simp;rfl) ?_)
   refine WL.cond (t:=true) (by simp) (fun _=>?_) (by simp)
   refine WL.sregC (RL.call0 false (fail_fn 3) (by simp) (by simp) (RL.o (by simp;rfl) (RL.nil ⟨_,by simp;rfl,?_⟩)))
   refine WL.ret ⟨rfl,?_⟩
   simp[fi77,rsE]
end Go.OT
namespace Go.OT
open Go.Proofs
set_option maxHeartbeats 4000000 in
theorem dr_read (s:St)(cl:Int)(m:Nat)(hm:m < s.Body.length)(h16:s.Body[m].length=16)(P Hd Of Nn:Int)(D:List UInt8)(s':St)(r:Rs)
  (e6:badRg ⟨3,P,Hd,Of,Nn,D⟩ Nn=true→s'=s∧r=rsE 6)
  (ok:∀ o n:Nat,Of=o→Nn=n→o+n≤16→s'=s∧r=⟨0,0,0,(s.Body[m].drop o).take n⟩) :
  WL Try.prog fi77.nt c77_57 (rbP s cl ⟨3,P,Hd,Of,Nn,D⟩ m [(7900,0,bl false)]) (rbQ s' r):=by
 refine WL.seq (WL.sreg (by simp<;>rfl) (by simp<;>rfl) ?_)
 refine WL.block (WL.sreg (by simp<;>rfl) (by simp<;>rfl) ?_)
 refine WL.cond (t:=false) (by simp) (by simp) (fun _=>WL.sreg (by simp<;>rfl) (by simp<;>rfl) ?_)
 refine WL.cond (t:=false) (by simp) (by simp) (fun _=>WL.sreg (by simp<;>rfl) (by simp<;>rfl) ?_)
 refine WL.cond (t:=true) (by simp) (fun _=>?_) (by simp)
 refine WL.seq ?_
 by_cases k1:Of < 0
 ·obtain⟨a,b⟩:=e6 (by simp[badRg,k1])
  subst a b
  refine WL.sreg (by simp[k1];rfl) (by simp;rfl) ?_
  refine WL.cond (t:=true) (by simp) (fun _=>?_) (by simp)
  refine WL.sregC (RL.call0 false (fail_fn 6) (by simp) (by simp) (RL.o (by simp;rfl) (RL.nil ⟨_,by simp;rfl,?_⟩)))
  refine WL.ret ⟨rfl,?_⟩
  simp[fi77,rsE]
 by_cases k2:Nn < 0
 ·obtain⟨a,b⟩:=e6 (by simp[badRg,k2])
  subst a b
  refine WL.sreg (by simp[k1,k2];rfl) (by simp;rfl) ?_
  refine WL.cond (t:=true) (by simp) (fun _=>?_) (by simp)
  refine WL.sregC (RL.call0 false (fail_fn 6) (by simp) (by simp) (RL.o (by simp;rfl) (RL.nil ⟨_,by simp;rfl,?_⟩)))
  refine WL.ret ⟨rfl,?_⟩
  simp[fi77,rsE]
 by_cases k3:16 < Of
 ·obtain⟨a,b⟩:=e6 (by simp[badRg,k3])
  subst a b
  refine WL.sreg (by simp[k1,k2,k3];rfl) (by simp;rfl) ?_
  refine WL.cond (t:=true) (by simp) (fun _=>?_) (by simp)
  refine WL.sregC (RL.call0 false (fail_fn 6) (by simp) (by simp) (RL.o (by simp;rfl) (RL.nil ⟨_,by simp;rfl,?_⟩)))
  refine WL.ret ⟨rfl,?_⟩
  simp[fi77,rsE]
 obtain⟨o,ho⟩:=Int.eq_ofNat_of_zero_le (a:=Of) (by omega)
 obtain⟨n,hn⟩:=Int.eq_ofNat_of_zero_le (a:=Nn) (by omega)
 subst ho hn
 have w1:IntKind.wrap .i64 ((16:Int) - (o:Int))=16 - (o:Int):=wrap_small (by omega) (by omega)
 by_cases k4:16 - (o:Int) < n
 ·obtain⟨a,b⟩:=e6 (by simp[badRg,k4])
  subst a b
  refine WL.sreg (by simp[k1,k2,k3,k4,w1];rfl) (by simp;rfl) ?_
  refine WL.cond (t:=true) (by simp[k4]) (fun _=>?_) (by simp)
  refine WL.sregC (RL.call0 false (fail_fn 6) (by simp) (by simp) (RL.o (by simp;rfl) (RL.nil ⟨_,by simp;rfl,?_⟩)))
  refine WL.ret ⟨rfl,?_⟩
  simp[fi77,rsE]
 have hon:o+n≤16:=by omega
 obtain⟨a,b⟩:=ok o n rfl rfl hon
 subst a b
 refine WL.sreg (by simp[k1,k2,k3,k4,w1];rfl) (by simp;rfl) ?_
 refine WL.cond (t:=false) (by simp[k4];try omega) (by simp) (fun _=>WL.skip ?_)
 obtain⟨e,he⟩:∃ e,e=o+n:=⟨_,rfl⟩
 have hw:IntKind.wrap .i64 ((o:Int)+(n:Int))=(e:Int):=by rw[wrap_small (by omega) (by omega)];omega
 have f1:o≤e:=by omega
 have f2:e≤16:=by omega
 have f3:e - o=n:=by omega
 refine WL.seq (WL.draw mixed (by simp[cleanL,noH]) (DL.o (by simp[hm,h16,hw,f1,f2,f3,strOf_size,strOf_ext,strC_of,Nat.succ_le_of_lt hm,-List.map_take,-List.map_drop];exact⟨rfl,rfl⟩) (DL.nil ⟨by kernel_rfl,_,by simp;rfl,?_⟩)))
 refine WL.ret ⟨rfl,?_⟩
 have f4:min n (16 - o)=n:=by omega
 simp[fi77,h16,f4,List.take_take]
end Go.OT
namespace Go.OT
open Go.Proofs
set_option maxHeartbeats 4000000 in
theorem dr_write (s:St)(cl:Int)(m:Nat)(hm:m < s.Body.length)(h16:s.Body[m].length=16)(P Hd Of Nn:Int)(D:List UInt8)(s':St)(r:Rs)
  (e6:badRg ⟨4,P,Hd,Of,Nn,D⟩ D.length=true→s'=s∧r=rsE 6)
  (ok:∀ o:Nat,Of=o→o+D.length≤16→s'=⟨s.There,s.Body.set m (over s.Body[m] o D),s.Handles⟩∧r=rsO) (hD:Small D.length) :
  WL Try.prog fi77.nt c77_57 (rbP s cl ⟨4,P,Hd,Of,Nn,D⟩ m [(7900,0,bl false)]) (rbQ s' r):=by
 refine WL.seq (WL.sreg (by simp<;>rfl) (by simp<;>rfl) ?_)
 refine WL.block (WL.sreg (by simp<;>rfl) (by simp<;>rfl) ?_)
 refine WL.cond (t:=false) (by simp) (by simp) (fun _=>WL.sreg (by simp<;>rfl) (by simp<;>rfl) ?_)
 refine WL.cond (t:=false) (by simp) (by simp) (fun _=>WL.sreg (by simp<;>rfl) (by simp<;>rfl) ?_)
 refine WL.cond (t:=false) (by simp) (by simp) (fun _=>WL.sreg (by simp<;>rfl) (by simp<;>rfl) ?_)
 refine WL.cond (t:=true) (by simp) (fun _=>?_) (by simp)
 refine WL.seq ?_
 by_cases k1:Of < 0
 ·obtain⟨a,b⟩:=e6 (by simp[badRg,k1])
  subst a b
  refine WL.sreg (by simp[k1];rfl) (by simp;rfl) ?_
  refine WL.cond (t:=true) (by simp) (fun _=>?_) (by simp)
  refine WL.sregC (RL.call0 false (fail_fn 6) (by simp) (by simp) (RL.o (by simp;rfl) (RL.nil ⟨_,by simp;rfl,?_⟩)))
  refine WL.ret ⟨rfl,?_⟩
  simp[fi77,rsE]
 by_cases k3:16 < Of
 ·obtain⟨a,b⟩:=e6 (by simp[badRg,k3])
  subst a b
  refine WL.sreg (by simp[k1,k3];rfl) (by simp;rfl) ?_
  refine WL.cond (t:=true) (by simp) (fun _=>?_) (by simp)
  refine WL.sregC (RL.call0 false (fail_fn 6) (by simp) (by simp) (RL.o (by simp;rfl) (RL.nil ⟨_,by simp;rfl,?_⟩)))
  refine WL.ret ⟨rfl,?_⟩
  simp[fi77,rsE]
 obtain⟨o,ho⟩:=Int.eq_ofNat_of_zero_le (a:=Of) (by omega)
 subst ho
 have w1:IntKind.wrap .i64 ((16:Int) - (o:Int))=16 - (o:Int):=wrap_small (by omega) (by omega)
 by_cases k4:16 - (o:Int) < D.length
 ·obtain⟨a,b⟩:=e6 (by simp[badRg,k4])
  subst a b
  refine WL.sreg (by simp[k1,k3,k4,w1];rfl) (by simp;rfl) ?_
  refine WL.cond (t:=true) (by simp[k4]) (fun _=>?_) (by simp)
  refine WL.sregC (RL.call0 false (fail_fn 6) (by simp) (by simp) (RL.o (by simp;rfl) (RL.nil ⟨_,by simp;rfl,?_⟩)))
  refine WL.ret ⟨rfl,?_⟩
  simp[fi77,rsE]
 have hon:o+D.length≤16:=by omega
 obtain⟨a,b⟩:=ok o rfl hon
 subst a b
 refine WL.sreg (by simp[k1,k3,k4,w1];rfl) (by simp;rfl) ?_
 refine WL.cond (t:=false) (by simp[k4];try omega) (by simp) (fun _=>WL.skip ?_)
 obtain⟨e,he⟩:∃ e,e=o+D.length:=⟨_,rfl⟩
 have hw:IntKind.wrap .i64 ((o:Int)+(D.length:Int))=(e:Int):=by rw[wrap_small (by omega) (by omega)];omega
 have f1:o≤e:=by omega
 have f2:e≤16:=by omega
 have f5:o≤16:=by omega
 have g1:o+D.length≤4611686018427387904:=by omega
 have g2:o+(D.length+(16 - e))≤4611686018427387904:=by omega
 have g3:o+D.length+(16 - e)≤4611686018427387904:=by omega
 refine WL.draw mixed (by simp[cleanL,noH]) (DL.o (by simp[hm,h16,hw,f1,f2,f5,g1,g2,g3,strOf_size,strOf_ext,strOf_app,strC_of,b2s_bytes,Nat.succ_le_of_lt hm,-List.map_take,-List.map_drop];exact⟨rfl,rfl⟩) (DL.nil ⟨by kernel_rfl,_,by simp;rfl,?_⟩))
 refine WL.sreg (by simp<;>rfl) (by simp<;>rfl) (WL.nil1 604 true 1 (by simp) (WL.ret ⟨rfl,?_⟩))
 have f6:List.take (16 - e) (List.drop e s.Body[m])=List.drop e s.Body[m]:=List.take_of_length_le (by simp[h16])
 simp[fi77,List.map_set,over,← he]
 rw[f6]
end Go.OT
namespace Go.OT
open Go.Proofs
theorem ixF_cong {α:Type}{p q:α→Bool}:∀ (l:List α) (n:Nat),(∀ x ∈ l,p x=q x)→ixF p l n=ixF q l n
 | [],_,_=>rfl
 | x :: l,n,h=>by
  simp only[ixF]
  rw[h x List.mem_cons_self,ixF_cong l (n+1) fun y hy=>h y (List.mem_cons_of_mem _ hy)]
theorem any_cong {α:Type}{p q:α→Bool}:∀ (l:List α),(∀ x ∈ l,p x=q x)→l.any p=l.any q
 | [],_=>rfl
 | x :: l,h=>by
  simp only[List.any_cons]
  rw[h x List.mem_cons_self,any_cong l fun y hy=>h y (List.mem_cons_of_mem _ hy)]
theorem free_eq {s:St}(h:OkSt s){l:List Int}(hl:l ∈ s.Handles):freeH l=room l∧freeI l=ixF (· == -1) l 0:=by
 have hx:∀ x ∈ l,decide (x < 0)=(x == -1):=fun x hx=>by
  rcases h.hp l hl x hx with e | e
  ·subst e;rfl
  ·simp only[there,Bool.and_eq_true,decide_eq_true_eq] at e
   have h1:¬ x < 0:=by omega
   have h2:¬ x=-1:=by omega
   simp[h1,h2]
 exact⟨any_cong _ hx,ixF_cong _ _ hx⟩
theorem heldF_ok {s:St}{c k:Nat}(hc:c < s.Handles.length)(hk:k < s.Handles[c].length):heldF s c k=s.Handles[c][k]:=by
 have h1:¬ s.Handles.length≤c:=by omega
 have h2:¬ s.Handles[c].length≤k:=by omega
 have h3:¬ (c:Int) < 0:=by omega
 have h4:¬ (k:Int) < 0:=by omega
 simp[heldF,hc,hk,h1,h2,h3,h4]
theorem heldF_bad {s:St}(h:OkSt s){c:Nat}(hc:c < s.Handles.length)(hd:Int)(hb:badHd s.Handles[c] hd=true):heldF s c hd=-1:=by
 have h6:=h.l6 _ (List.getElem_mem hc)
 have h1:¬ s.Handles.length≤c:=by omega
 simp only[badHd,Bool.or_eq_true,decide_eq_true_eq] at hb
 by_cases e1:hd < 0
 ·simp[heldF,e1]
 obtain⟨k,rfl⟩:=Int.eq_ofNat_of_zero_le (a:=hd) (by omega)
 by_cases e2:6≤k
 ·have e3:(6:Int)≤k:=by omega
  simp[heldF,hc,h6,e3]
 ·have hk:k < s.Handles[c].length:=by omega
  rw[heldF_ok hc hk]
  have:=(hb.resolve_left e1).resolve_left (by omega)
  simpa [hk] using this
theorem refdo_kind {s:St}{c:Nat}{q:Op}(h:OkSt s)(hc:c < s.Handles.length):(codeOf s s.Handles[c] q ≠ 0→(DoB s c q).2.1=s∧(DoB s c q).2.2=rsE (codeOf s s.Handles[c] q))∧(codeOf s s.Handles[c] q=0→(DoB s c q).2.1=(Step s c q).1∧(DoB s c q).2.2=(Step s c q).2):=by
 have hn:¬ noCall s c=true:=by
  have:=(May_iff s).2 h
  simp[noCall,this]
  omega
 constructor
 ·intro h0
  simp[DoB,hn,hc,h0]
 ·intro h0
  simp[DoB,hn,hc,h0]
theorem set_self {α:Type}(l:List α)(i:Nat)(h:i < l.length)(v:α)(hv:l[i]=v):l.set i v=l:=by
 subst hv
 exact List.set_getElem_self h
set_option maxHeartbeats 1000000 in
theorem refdo_main (s:St)(h:OkSt s)(c:Nat)(hc:c < s.Handles.length)(q:Op)(hD:Small q.Data.length)(hk:1≤q.Kind∧q.Kind≤8)(s':St)(r:Rs)
  (hE:codeOf s s.Handles[c] q ≠ 0→s'=s∧r=rsE (codeOf s s.Handles[c] q)) (hO:codeOf s s.Handles[c] q=0→s'=(Step s c q).1∧r=(Step s c q).2) :
  WL Try.prog fi77.nt c77_60 (rbA s c q ++ ((2600,0,bl false) :: ghT s)) (rbQ s' r):=by
 have hs:=h.sized
 have hmem:=List.getElem_mem hc
 have h6:s.Handles[c].length=6:=h.l6 _ hmem
 have hS:Small s.Handles[c].length:=by unfold Small;omega
 have hT:Small s.There.length:=by have:=hs.t;unfold Small;omega
 obtain⟨fr,fi⟩:=free_eq h hmem
 have hroom:room s.Handles[c]=true→ix (· == -1) s.Handles[c] < s.Handles[c].length∧freeI s.Handles[c]=(ix (· == -1) s.Handles[c]:Int):=fun hr=>by
  obtain⟨j1,j2,j3⟩:=ix_spec hr
  exact⟨j1,by rw[fi,j2]⟩
 have hl:s.Handles.getD c []=s.Handles[c]:=by simp[hc]
 obtain⟨K,P,Hd,Of,Nn,D⟩:=q
 simp only at hk hD
 by_cases k1:K=1
 ·subst k1
  refine dr_new s hT h.bn c hc hS P Hd Of Nn D s' r (fun e=>?_) (fun e e3=>?_) (ix (· == -1) s.Handles[c]) (fun e=>hroom (by rw[← fr];exact e)) (fun e i hi hix=>?_)
  ·rw[fr] at e
   have:=hE (by simp[codeOf,e])
   simpa [codeOf,e] using this
  ·rw[fr] at e
   have ha:s.There.any (· == false)=false:=by
    cases e':s.There.any (· == false) with
    | false=>rfl
    | true =>
     have:=(ixF_ge (· == false) s.There 0).2 e'
     omega
   have:=hE (by simp only[codeOf,e,ha,if_true];decide)
   simpa only [codeOf,e,ha,if_true,Bool.true_eq_false,if_false] using this
  ·rw[fr] at e
   have ha:s.There.any (· == false)=true:=(ixF_ge (· == false) s.There 0).1 (by rw[hix];omega)
   have he:ix (· == false) s.There=i:=by unfold ix;rw[hix];exact Int.toNat_natCast i
   have hb:i < s.Body.length:=by rw[h.bn];exact hi
   obtain⟨i1,i2,i3⟩:=ix_spec ha
   have hth:s.There[i]=false:=by
    have:=i3
    simp only[he] at this
    simpa using this
   have hz:=h.zero i hb (by simp[hi,hth])
   have:=hO (by simp only[codeOf,e,ha,if_true,Bool.true_eq_false,if_false])
   simp only[Step,if_true,hl,he] at this
   rw[set_self s.Body i hb z16 hz]
   exact this
 by_cases k2:K=2∨K=6∨K=8
 ·refine dr_page s c ⟨K,P,Hd,Of,Nn,D⟩ s' r k2 hT (fun e=>?_) (fun e1 e2=>?_) (fun e=>?_)
  ·have:=hE (by simp only[codeOf,if_neg k1,if_pos k2,e,if_true];decide)
   simpa only [codeOf,if_neg k1,if_pos k2,e,if_true] using this
  ·simp only at e1 e2
   have:=hE (by simp only[codeOf,if_neg k1,if_pos k2,e1,e2,if_true,Bool.true_eq_false,if_false];decide)
   simpa only [codeOf,if_neg k1,if_pos k2,e1,e2,if_true,Bool.true_eq_false,if_false] using this
  ·simp only at e
   have hth:=e
   simp only[there,Bool.and_eq_true,decide_eq_true_eq] at hth
   obtain⟨m,rfl⟩:=Int.eq_ofNat_of_zero_le hth.1
   have hm:m < s.There.length:=by
    have:=hth.2
    by_cases h:m < s.There.length
    ·exact h
    ·simp[h] at this
   have hmb:m < s.Body.length:=by rw[h.bn];exact hm
   have hpg:isPage s (m:Int)=true:=by simp[isPage,hm]
   rcases k2 with k2 | k2 | k2<;>subst k2
   ·refine dr_fetch s c hc hS m Hd Of Nn D s' r (fun e4=>?_) (ix (· == -1) s.Handles[c]) (fun e4=>?_)
    ·rw[fr] at e4
     have:=hE (by simp[codeOf,hpg,e,e4])
     simpa [codeOf,hpg,e,e4] using this
    ·rw[fr] at e4
     obtain⟨a,b⟩:=hroom e4
     have:=hO (by simp[codeOf,hpg,e,e4])
     simp only[Step,hl] at this
     exact⟨a,b,by simpa using this⟩
   ·have:=hO (by simp[codeOf,hpg,e])
    simp only[Step] at this
    obtain⟨a,b⟩:s'=s∧r=rsO:=by simpa using this
    subst a b
    exact dr_flush s' c m Hd Of Nn D
   ·refine dr_delete s hs c m hm hmb Hd Of Nn D s' r (fun e7=>?_) (fun e7=>?_)
    ·have:=hE (by simp[codeOf,hpg,e,e7])
     simpa [codeOf,hpg,e,e7] using this
    ·have:=hO (by simp[codeOf,hpg,e,e7])
     simp only[Step] at this
     simpa [z16] using this
 by_cases k3:K=3∨K=4∨K=5
 ·refine dr_held s c ⟨K,P,Hd,Of,Nn,D⟩ s' r k3 (fun e=>?_) (fun e=>?_)
  ·simp only at e
   have hb:badHd s.Handles[c] Hd=true:=by
    cases hb:badHd s.Handles[c] Hd with
    | true=>rfl
    | false =>
     exfalso
     simp only[badHd,Bool.or_eq_false_iff,decide_eq_false_iff_not,beq_eq_false_iff_ne] at hb
     obtain⟨k,rfl⟩:=Int.eq_ofNat_of_zero_le (a:=Hd) (by omega)
     have hk6:k < s.Handles[c].length:=by omega
     rw[heldF_ok hc hk6] at e
     have hne:s.Handles[c][k] ≠ -1:=by simpa [hk6] using hb.2.2
     have hth:=(h.hp _ hmem _ (List.getElem_mem hk6)).resolve_left hne
     simp only[there,Bool.and_eq_true,decide_eq_true_eq] at hth
     omega
   have:=hE (by simp only[codeOf,if_neg k1,if_neg k2,if_pos k3,hb,if_true];decide)
   simpa only [codeOf,if_neg k1,if_neg k2,if_pos k3,hb,if_true] using this
  ·simp only at e
   have hb:badHd s.Handles[c] Hd=false:=by
    cases hb:badHd s.Handles[c] Hd with
    | false=>rfl
    | true=>rw [heldF_bad h hc Hd hb] at e;omega
   have hb':=hb
   simp only[badHd,Bool.or_eq_false_iff,decide_eq_false_iff_not,beq_eq_false_iff_ne] at hb'
   obtain⟨k,rfl⟩:=Int.eq_ofNat_of_zero_le (a:=Hd) (by omega)
   have hk6:k < s.Handles[c].length:=by omega
   simp only
   rw[heldF_ok hc hk6] at e ⊢
   have hne:s.Handles[c][k] ≠ -1:=by simpa [hk6] using hb'.2.2
   have hth:=(h.hp _ hmem _ (List.getElem_mem hk6)).resolve_left hne
   simp only[there,Bool.and_eq_true,decide_eq_true_eq] at hth
   obtain⟨m,hm⟩:=Int.eq_ofNat_of_zero_le hth.1
   have hmt:m < s.There.length:=by
    have:=hth.2
    rw[hm] at this
    by_cases h:m < s.There.length
    ·exact h
    ·simp[h] at this
   have hmb:m < s.Body.length:=by rw[h.bn];exact hmt
   have h16:=h.b16 _ (List.getElem_mem hmb)
   rcases k3 with k3 | k3 | k3<;>subst k3
   ·rw[hm]
    refine dr_read s c m hmb h16 P k Of Nn D s' r (fun e6=>?_) (fun o n ho hn hon=>?_)
    ·have:=hE (by simp[codeOf,hb,e6])
     simpa [codeOf,hb,e6] using this
    ·subst ho hn
     have e6:badRg ⟨3,P,k,o,n,D⟩ n=false:=by
      simp[badRg]
      omega
     have:=hO (by simp[codeOf,hb,e6])
     simpa [Step,hc,hk6,hm,hmb] using this
   ·rw[hm]
    refine dr_write s c m hmb h16 P k Of Nn D s' r (fun e6=>?_) (fun o ho hon=>?_) hD
    ·have:=hE (by simp[codeOf,hb,e6])
     simpa [codeOf,hb,e6] using this
    ·subst ho
     have e6:badRg ⟨4,P,k,o,Nn,D⟩ D.length=false:=by
      simp[badRg]
      omega
     have:=hO (by simp[codeOf,hb,e6])
     simpa [Step,hc,hk6,hm,hmb] using this
   ·have e6:badRg ⟨5,P,k,Of,Nn,D⟩ Nn=false:=by simp[badRg]
    have:=hO (by simp[codeOf,hb,e6])
    obtain⟨a,b⟩:s'=⟨s.There,s.Body,s.Handles.set c (s.Handles[c].set k (-1))⟩∧r=rsO:=by simpa [Step,hc] using this
    subst a b
    exact dr_unpin s c hc k hk6 P _ Of Nn D
 ·have k7:K=7:=by omega
  subst k7
  have:=hO (by simp[codeOf])
  obtain⟨a,b⟩:s'=s∧r=rsO:=by simpa [Step] using this
  subst a b
  exact dr_flushAll s' c P Hd Of Nn D
theorem refdo_fn (s:St)(h:OkSt s)(cl:Int)(q:Op)(hD:Small q.Data.length):FnC Try.prog 77 (gsT s) [vwT s,i64 cl,encO false q] (gsT (DoB s cl q).2.1) (encR true (DoB s cl q).2.2):=by
 have hM:May s=true:=(May_iff s).2 h
 refine dr_start s cl q _ _ (fun h1=>?_) (fun h1=>?_)
 ·have:DoB s cl q=(false,s,rsE 1):=by
   by_cases hn:noCall s cl=true
   ·simp only[DoB,if_pos hn]
   ·have hn':=hn
    simp only[noCall,hM,Bool.not_true,Bool.false_or,Bool.or_eq_true,decide_eq_true_eq] at hn'
    have hk:q.Kind < 1∨8 < q.Kind:=by omega
    have hcd:codeOf s (s.Handles.getD cl.toNat []) q=1:=by
     have a1:¬ q.Kind=1:=by omega
     have a2:¬ (q.Kind=2∨q.Kind=6∨q.Kind=8):=by omega
     have a3:¬ (q.Kind=3∨q.Kind=4∨q.Kind=5):=by omega
     have a4:¬ q.Kind=7:=by omega
     simp only[codeOf,if_neg a1,if_neg a2,if_neg a3,if_neg a4]
    simp only[DoB,if_neg hn,hcd]
    rfl
  rw[this]
  exact dr_none s cl q
 ·obtain⟨c,rfl⟩:=Int.eq_ofNat_of_zero_le (a:=cl) (by omega)
  have hc:c < s.Handles.length:=by omega
  obtain⟨a,b⟩:=refdo_kind (q:=q) h hc
  exact refdo_main s h c hc q hD (by omega) _ _ a b
end Go.OT
namespace Go.OT
open Go.Proofs
abbrev rb4e:SL:=[(400,0,.bptr 4 1 0),(401,0,.sl true () 1 0 []),(402,0,.sl true () 1 0 []),(403,0,.sl true () 1 0 []),(499,1,.non)]
abbrev rb5e (a b c:AU):SL:=[(500,0,.bptr 5 1 0),(501,0,a),(502,0,b),(503,0,c),(599,1,.non)]
abbrev rnA (n m i:Nat):SL:=[(0,0,i64 n),(100,0,i64 m)] ++ (rb4e ++ (rb5e (.sl true () 1 i (List.replicate i (bl false))) (.sl true () 1 i (List.replicate i (str z16))) (.sl true () 1 0 []) ++ [(600,0,i64 i)]))
abbrev rnB (n m j:Nat):SL:=[(100,0,i64 m)] ++ (rb4e ++ (rb5e (.sl true () 1 n (List.replicate n (bl false))) (.sl true () 1 n (List.replicate n (str z16))) (.sl true () 1 j (List.replicate j (sI true [-1,-1,-1,-1,-1,-1]))) ++ [(700,0,i64 j)]))
set_option maxHeartbeats 4000000 in
theorem refnew_fn (p c:Int):FnC Try.prog 76 [] [i64 p,i64 c] [] (encT true (newSt p c)):=by
 refine FnC.go ok76 rfl ?_
 refine WL.sreg (by simp;rfl) (by simp;rfl) ?_
 refine WL.sreg (by simp;rfl) (by simp;rfl) ?_
 refine WL.seq (WL.ifEq (newBad p c) ([(0,0,i64 p),(100,0,i64 c)] ++ (rb4e ++ (rb5e (.sl true () 1 0 []) (.sl true () 1 0 []) (.sl true () 1 0 []) ++ [(2100,0,bl (newBad p c))]))) ?_ (by simp) (fun h=>?_) (fun h=>WL.skip ?_))
 ·by_cases h1:p < 1
  ·simp[newBad,h1]
  by_cases h2:48 < p
  ·simp[newBad,h1,h2]
  by_cases h3:c < 1
  ·simp[newBad,h1,h2,h3]
  by_cases h4:6 < c
  ·simp[newBad,h1,h2,h3,h4]
  ·simp[newBad,h1,h2,h3,h4]
 ·refine WL.sreg (by simp;rfl) (by simp;rfl) (WL.ret ⟨.inr rfl,?_⟩)
  simp[fi76,newSt,h]
 simp only[newBad,Bool.or_eq_false_iff,decide_eq_false_iff_not] at h
 obtain⟨n,rfl⟩:=Int.eq_ofNat_of_zero_le (a:=p) (by omega)
 obtain⟨m,rfl⟩:=Int.eq_ofNat_of_zero_le (a:=c) (by omega)
 have hn:n≤48:=by omega
 have hm:m≤6:=by omega
 have hst:newSt n m=⟨List.replicate n false,List.replicate n (List.replicate 16 0),List.replicate m [-1,-1,-1,-1,-1,-1]⟩:=by
  unfold newSt
  rw[if_neg]
  ·rfl
  ·simp only[newBad,Bool.or_eq_true,decide_eq_true_eq];omega
 rw[hst]
 refine WL.seq (WL.sreg (by simp;rfl) (by simp;rfl) ?_)
 refine WL.block (WL.count n (fun i=>rnA n m i) (fun _=>True) (by simp) trivial fun i hi _=>?_)
 by_cases h:i < n
 ·refine WL.seq (WL.sreg (by simp[h];rfl) (by simp;rfl) ?_)
  refine WL.cond (t:=true) (by simp[h]) (fun _=>WL.skip ?_) (by simp)
  have hm0:i+1≤140737488355328:=by omega
  have hm1:(i+1) * 16≤140737488355328:=by omega
  have hm2:i+1≤maxLen:=by unfold maxLen;omega
  refine WL.seq (WL.block (WL.draw mixed (by simp[cleanL,noH]) (DL.o (by simp[hm0,hm1,hm2];exact⟨rfl,rfl⟩) (DL.call0 false zeros_fn (by simp) (by simp) (DL.o (by simp[hm0,hm1,hm2];exact⟨rfl,rfl⟩) (DL.nil ⟨by kernel_rfl,_,by simp;rfl,?_⟩))))))
  have hs:Small n:=by unfold Small;omega
  refine WL.reg (RL.run (by simp[wrap_succ hs h];rfl) ⟨_,by simp;rfl,h,?_,trivial⟩)
  simp[← replicate_snoc]
  exact⟨List.take_of_length_le (by simp),List.take_of_length_le (by simp)⟩
 ·refine WL.seq (WL.sreg (by simp[h];rfl) (by simp;rfl) ?_)
  refine WL.cond (t:=false) (by simp[h]) (by simp) fun _=>WL.exit ?_
  obtain rfl:i=n:=by omega
  refine WL.seq (WL.sreg (by simp;rfl) (by simp;rfl) ?_)
  refine WL.block (WL.count m (fun j=>rnB i m j) (fun _=>True) (by simp) trivial fun j hj _=>?_)
  by_cases h:j < m
  ·have hs:Small m:=by unfold Small;omega
   refine WL.seq (WL.sreg (by simp[h];rfl) (by simp;rfl) ?_)
   refine WL.cond (t:=true) (by simp[h]) (fun _=>WL.skip ?_) (by simp)
   have hm1:(j+1) * 24≤140737488355328:=by omega
   have hm2:j+1≤maxLen:=by unfold maxLen;omega
   refine WL.seq (WL.block (WL.reg (RL.run (by simp[hm1,hm2];rfl) ⟨_,by simp;rfl,?_⟩)))
   refine WL.reg (RL.run (by simp[wrap_succ hs h];rfl) ⟨_,by simp;rfl,h,?_,trivial⟩)
   simp[← replicate_snoc]
   exact List.take_of_length_le (by simp)
  ·refine WL.seq (WL.sreg (by simp[h];rfl) (by simp;rfl) ?_)
   refine WL.cond (t:=false) (by simp[h]) (by simp) fun _=>WL.exit ?_
   obtain rfl:j=m:=by omega
   refine WL.sreg (by simp;rfl) (by simp;rfl) (WL.ret ⟨.inr rfl,?_⟩)
   simp[fi76,z16]
end Go.OT
namespace Go.OT
open Go.Proofs
theorem newSt_eq {n m:Nat}(hn:1≤n)(hn':n≤48)(hm:1≤m)(hm':m≤6):newSt n m=⟨List.replicate n false,List.replicate n (List.replicate 16 0),List.replicate m [-1,-1,-1,-1,-1,-1]⟩:=by
 unfold newSt
 rw[if_neg]
 ·rfl
 ·simp only[newBad,Bool.or_eq_true,decide_eq_true_eq];omega
theorem newSt_ok {n m:Nat}(hn:1≤n)(hn':n≤48)(hm:1≤m)(hm':m≤6):OkSt (newSt n m):=by
 rw[newSt_eq hn hn' hm hm']
 refine⟨by simpa using hn,by simpa using hn',by simp,by simpa using hm,by simpa using hm',fun b hb=>?_,fun i hi _=>?_,fun l hl=>?_,fun l hl p hp=>?_⟩
 ·rw[List.eq_of_mem_replicate hb];rfl
 ·simp
 ·rw[List.eq_of_mem_replicate hl];rfl
 ·rw[List.eq_of_mem_replicate hl] at hp
  left
  simpa using hp
theorem immR (r:Rs):noImm (encR true r)=true:=by
 show noImmL [i64 r.Code,i64 r.Page,i64 r.Handle,sU true r.Data]=true
 simp[noImm,noImmL,noImmU]
theorem side_do (s s':St)(r:Rs):sideOk true (gsT s) (gsT s') (encR true r)=true:=by
 have e1:noImm (sB true s'.There:AU)=true:=by simp only[noImm,immB,Bool.and_self]
 have e2:noImm (sS true s'.Body:AU)=true:=by simp only[noImm,immS,Bool.and_self]
 have e3:noImm (sII true s'.Handles:AU)=true:=by simp only[noImm,immII,Bool.and_self]
 have e4:noImm (encR true r)=true:=immR r
 simp only[sideOk,List.all_cons,List.all_nil,ghImm,e1,e2,e3,e4]
 simp
end Go.OT
namespace Go.OT
open Go.Proofs
structure Ev where
 Client:Int
 op:Op
 res:Rs
 Begin:Int
 Stamp:Int
 End:Int
 deriving DecidableEq
abbrev cellsEv (o r:Bool)(e:Ev):List AU:=[i64 e.Client,i64 e.op.Kind,i64 e.op.Page,i64 e.op.Handle,i64 e.op.Off,i64 e.op.N,sU o e.op.Data,i64 e.res.Code,i64 e.res.Page,i64 e.res.Handle,sU r e.res.Data,i64 e.Begin,i64 e.Stamp,i64 e.End]
abbrev sEv (l:List Ev):AU:=.sl false () 14 l.length (l.flatMap (cellsEv false false))
theorem fmE_drop {o r:Bool}{l:List Ev}{i:Nat}(h:i < l.length):(l.flatMap (cellsEv o r)).drop (i * 14)=cellsEv o r l[i] ++ (l.drop (i+1)).flatMap (cellsEv o r):=by
 induction l generalizing i with
 | nil=>simp at h
 | cons a l ih =>
  cases i with
  | zero=>simp [List.flatMap_cons]
  | succ i =>
   rw[List.flatMap_cons,List.drop_append,List.drop_of_length_le (by simp;omega)]
   have:(i+1) * 14 - (cellsEv o r a).length=i * 14:=by simp;omega
   rw[this,ih (by simpa using h)]
   simp
theorem fmE_len (o r:Bool)(l:List Ev):(l.flatMap (cellsEv o r)).length=l.length * 14:=by
 induction l with
 | nil=>rfl
 | cons a l ih=>rw [List.flatMap_cons,List.length_append,ih];simp;omega
def keyE (l:List Ev)(x:Int):Int:=(l.map (·.Stamp)).getD x.toNat 0
def posN (l:List Ev)(n:Nat):List Int:=((List.range n).filter fun i=>decide (0 < (l.map (·.Stamp)).getD i 0)).map fun i=>Int.ofNat i
def posL (l:List Ev):List Int:=posN l l.length
def ordF (l:List Ev):List Int:=ordL (keyE l) (posL l)
theorem posN_succ (l:List Ev)(n:Nat):posN l (n+1)=posN l n ++ (if 0 < (l.map (·.Stamp)).getD n 0 then [(n:Int)] else []):=by
 simp only[posN,List.range_succ,List.filter_append,List.map_append]
 congr 1
 by_cases h:0 < (l.map (·.Stamp)).getD n 0
 ·simp only[List.filter_cons,List.filter_nil,h,decide_true,if_true];rfl
 ·simp only[List.filter_cons,List.filter_nil,h,decide_false,if_false];rfl
theorem posN_mem {l:List Ev}{n:Nat}{x:Int}(h:x ∈ posN l n):∃ i:Nat,i < n∧x=i∧0 < (l.map (·.Stamp)).getD i 0:=by
 simp only[posN,List.mem_map,List.mem_filter,List.mem_range,decide_eq_true_eq] at h
 obtain⟨i,⟨h1,h2⟩,rfl⟩:=h
 exact⟨i,h1,rfl,h2⟩
theorem posN_asc (l:List Ev)(n:Nat):(posN l n).Pairwise (· < ·):=by
 unfold posN
 rw[List.pairwise_map]
 refine List.Pairwise.imp ?_ (List.Pairwise.filter _ List.pairwise_lt_range)
 intro a b h
 exact Int.ofNat_lt.2 h
theorem posN_len (l:List Ev)(n:Nat):(posN l n).length≤n:=by
 unfold posN
 rw[List.length_map]
 exact Nat.le_trans (List.length_filter_le _ _) (by simp)
theorem ordF_mem {l:List Ev}{x:Int}(h:x ∈ ordF l):∃ i:Nat,i < l.length∧x=i∧0 < (l.map (·.Stamp)).getD i 0 :=
 posN_mem ((ordL_spec (keyE l) (posN_asc l _)).1.subset h)
theorem ordF_len (l:List Ev):(ordF l).length≤l.length:=by
 have:=(ordL_spec (keyE l) (posN_asc l l.length)).1.length_eq
 unfold ordF posL
 rw[this];exact posN_len l _
def toF (L:List Int)(k:Nat):Int:=L.getD k 0
theorem rF_toF (L:List Int):(rF (toF L) L.length:AU)=sI true L:=by
 show AV.sl true () 1 L.length (tF (toF L) L.length)=_
 congr 1
 apply List.ext_getElem
 ·simp
 ·intro i h1 h2
  have:i < L.length:=by simpa using h2
  simp[toF,this]
theorem seg_toF (L:List Int):seg (toF L) 0 L.length=L:=by
 apply List.ext_getElem
 ·simp[seg_len]
 ·intro i h1 h2
  simp[seg,toF,h2]
theorem toF_SM (key:Int→Int){L:List Int}(hL:L.Pairwise (· < ·)):SM key (toF L) 0 L.length (toF (ordL key L)):=by
 obtain⟨h1,h2⟩:=ordL_spec key hL
 have hl:=h1.length_eq
 refine⟨fun k hk=>?_,?_,fun i j _ hij hj=>?_⟩
 ·have e1:L.length≤k:=by omega
  simp[toF,List.getD_eq_getElem?_getD,List.getElem?_eq_none e1,List.getElem?_eq_none (by omega:(ordL key L).length≤k)]
 ·rw[Nat.sub_zero,seg_toF]
  have:=seg_toF (ordL key L)
  rw[hl] at this
  rw[this];exact h1
 ·have:=List.pairwise_iff_getElem.1 h2 i j (by omega) (by omega) hij
  simpa [toF,List.getD_eq_getElem?_getD,show i < (ordL key L).length by omega,show j < (ordL key L).length by omega] using this
set_option maxHeartbeats 4000000 in
theorem sort_fn {key:Int→Int}{g:Nat}{cs:List AU}(L:List Int)(hL:L.Pairwise (· < ·))(hn:L.length≤100000000)(hcl:ClOk key (· ∈ L) g cs) :
  FnC Try.prog 91 [.nod (sI true L)] [.view 1000000 0 [] 0 L.length,.clos g [.vptr () cs]] [.nod (sI true (ordL key L))] (.tuple []):=by
 have hc:=stable_fn hcl (toF L) L.length hn (fun k hk=>by simp[toF,hk]) (fun i j hij hj=>by
  have:=List.pairwise_iff_getElem.1 hL i j (by omega) hj hij
  simpa [toF,List.getD_eq_getElem?_getD,show i < L.length by omega,hj] using this) _ (toF_SM key hL)
 have hlen:=(ordL_spec key hL).1.length_eq
 have e2:=rF_toF (ordL key L)
 rw[hlen] at e2
 rw[rF_toF,e2] at hc
 refine FnC.go ok91 rfl ?_
 refine WL.reg (RL.o (by simp;rfl) (RL.callK false [(1000000,[])] hc (by simp) (by simp) (by simp[gkey]) (by simp) (by simp[hlen]) (RL.nil ⟨_,by simp;rfl,.inl rfl,?_⟩)))
 simp[fi91]
end Go.OT
namespace Go.OT
open Go.Proofs
theorem ty44:Ty Try.prog 44 Rs (fun r=>[i64 r.Code,i64 r.Page,i64 r.Handle,sU false r.Data]) (fun r=>r.Data.length≤9223372036854775807) :=
 (Ty.struct Try.underlying44 (by kernel_rfl) (TyF.cons rfl (by kernel_rfl) ty3 (TyF.cons rfl (by kernel_rfl) ty3 (TyF.cons rfl (by kernel_rfl) ty3 (TyF.cons rfl (by kernel_rfl) ty40 (TyF.nil (off:=4))))))).map
  (fun p=>⟨p.1,p.2.1,p.2.2.1,p.2.2.2.1⟩) (fun p=>rfl) (fun p h=>h.2.2.2.1)
theorem ty46:Ty Try.prog 46 Ev (fun e=>cellsEv false false e) (fun e=>True) :=
 (Ty.struct Try.underlying46 (by kernel_rfl) (TyF.cons rfl (by kernel_rfl) ty3 (TyF.cons rfl (by kernel_rfl) ty42 (TyF.cons rfl (by kernel_rfl) ty44 (TyF.cons rfl (by kernel_rfl) ty3 (TyF.cons rfl (by kernel_rfl) ty3 (TyF.cons rfl (by kernel_rfl) ty3 (TyF.nil (off:=14))))))))).map
  (fun p=>⟨p.1,p.2.1,p.2.2.1,p.2.2.2.1,p.2.2.2.2.1,p.2.2.2.2.2.1⟩) (fun p=>rfl) (fun p h=>trivial)
theorem ta47:TyA Try.prog 47 (List Ev) (fun l=>sEv l) (fun l=>l.length≤9223372036854775807∧∀ c ∈ l,True) :=
 TyA.slice Try.underlying47 (Ty.slice (s:=14) Try.underlying47 (by kernel_rfl) (by decide) (fun _=>rfl) ty46)
end Go.OT
namespace Go.OT
open Go.Proofs
theorem ty52:Ty Try.prog 52 (List (List UInt8)) (fun l=>[sUU false l]) (fun l=>l.length≤9223372036854775807) :=
 (Ty.slice (s:=1) Try.underlying52 (by kernel_rfl) (by decide) (fun _=>rfl) ty40).map id (fun l=>by rw[flatMap_one];rfl) (fun l h=>h.1)
theorem ta52:TyA Try.prog 52 (List (List UInt8)) (fun l=>sUU false l) (fun l=>l.length≤9223372036854775807):=TyA.slice Try.underlying52 ty52
end Go.OT
namespace Go.OT
open Go.Proofs
def c17_0:Cd:=(.seq (.reg [0,1,2,3,4,18,19] [.call none 19 66 [],.o [.asg 10 (.t 19)]]) .ret)
def c17_1:Cd:=(.cond (.t 18) c17_0 .skip)
def c17_2:Cd:=(.seq (.reg [0,1,2,3,4,18,20,21,22,23,24,25,26,27,28,29,30,31,32,33,34,35,36,37,38,39,40,41,42,43,44,45,46,47] [.call none 20 66 [],.o [.mov 21 (.t 20)],.g 21 true [.mov 22 (.t 0),.mov 23 (.t 1),.mov 24 (.t 2),.mov 25 (.t 4)],.call (some (21,true)) 26 67 [(.t 22),(.t 23),(.t 24),(.t 25)],.g 21 true [.mov 27 (.t 0),.mov 28 (.t 1),.mov 29 (.t 2),.mov 30 (.t 4)],.call (some (21,true)) 31 68 [(.t 27),(.t 28),(.t 29),(.t 30)],.g 21 true [.bin 32 .eql (.t 26) (.t 31)],.o [.pick 33 (.t 21) (.t 32) (cB false),.mov 34 (.t 33)],.g 34 true [.mov 35 (.t 0),.mov 36 (.t 1),.mov 37 (.t 2),.mov 38 (.t 3)],.call (some (34,true)) 39 69 [(.t 35),(.t 36),(.t 37),(.t 38)],.g 34 true [.mov 40 (.t 0),.mov 41 (.t 1),.mov 42 (.t 2),.mov 43 (.t 3)],.call (some (34,true)) 44 71 [(.t 43)],.call (some (34,true)) 45 70 [(.t 40),(.t 41),(.t 42),(.t 44)],.g 34 true [.bin 46 .eql (.t 39) (.t 45)],.o [.pick 47 (.t 34) (.t 46) (cB false),.asg 10 (.t 47)]]) .ret)
def c17_3:Cd:=(.seq (.seq (.reg [11,12,13,14,15,16,17] [.o [.mov 11 (.t 0)],.call none 12 29 [(.t 11)],.o [.un 13 .not (.t 12),.mov 14 (.t 13)],.g 14 false [.mov 15 (.t 3)],.call (some (14,false)) 16 65 [(.t 15)],.g 14 false [.un 17 .not (.t 16)],.o [.pick 18 (.t 14) (cB true) (.t 17)]]) c17_1) c17_2)
def fi17:FI:=⟨48,5,[.t 10],(.seq (.reg [10] [.o [.asg 10 (cB false)]]) c17_3)⟩
theorem ok17:fiOk Try.prog 17 fi17:=⟨_,_,Try.func17,rfl,by kernel_rfl,by kernel_rfl,Try.call17⟩
def c65_0:Cd:=(.cond (.t 7) .skip (.exit 0))
def c65_1:Cd:=(.seq (.reg [0,3,15] [.o [.asg 2 (cB false)]]) .ret)
def c65_2:Cd:=(.cond (.t 15) c65_1 .skip)
def c65_3:Cd:=(.reg [15,8,9] [.o [.mov 8 (.t 3),.bin 9 .add (.t 8) (cI 1),.asg 3 (.t 9)]])
def c65_4:Cd:=(.seq (.block 1 (.seq (.reg [7,10,11,12,13,14] [.o [.mov 10 (.t 0),.mov 11 (.t 3),.iaddr 12 1 (.t 10) (.t 11),.ld 13 1 false (.t 12),.len 14 (.t 13),.bin 15 .gtr (.t 14) (cI 40)]]) c65_2)) c65_3)
def c65_5:Cd:=(.seq (.seq (.reg [4,5,6] [.o [.mov 4 (.t 3),.mov 5 (.t 0),.len 6 (.t 5),.bin 7 .lss (.t 4) (.t 6)]]) c65_0) c65_4)
def c65_6:Cd:=(.block 0 (.loop c65_5))
def c65_7:Cd:=(.seq (.reg [0,3,4,5,6,7,16,17,18] [.o [.mov 16 (.t 0),.len 17 (.t 16),.bin 18 .leq (.t 17) (cI 60),.asg 2 (.t 18)]]) .ret)
def c65_8:Cd:=(.seq (.seq (.reg [] [.o [.asg 3 (cI 0)]]) c65_6) c65_7)
def fi65:FI:=⟨19,1,[.t 2],(.seq (.reg [2] [.o [.asg 2 (cB false)]]) c65_8)⟩
theorem ok65:fiOk Try.prog 65 fi65:=⟨_,_,Try.func65,rfl,by kernel_rfl,by kernel_rfl,Try.call65⟩
def c66_0:Cd:=(.seq (.reg [3,5,7,8,9,34] [.o [.asg 0 (cB false)]]) .ret)
def c66_1:Cd:=(.cond (.t 34) c66_0 .skip)
def c66_2:Cd:=(.seq (.reg [3,5,7,8,9,37,38,39,40,41,42,43,44,45,46,47,48,49,50,51,52,53,54,55,56,57,58,59,60,61,62,63,64,65,66,67,68,69,70,71,72,73,74,75,76,77,78,79,80,81,82,83,84,85,86,87,88,89,90,91,92,93,94,95,96,97] [.o [.mov 37 (.t 7)],.call none 38 67 [(.t 37),(cI 1),(cI 1),(cI 0)],.o [.bin 39 .eql (.t 38) (cI 5),.mov 40 (.t 39)],.g 40 true [.mov 41 (.t 7),.slice 42 14 (.t 41) none (some (cI 1))],.call (some (40,true)) 43 67 [(.t 42),(cI 1),(cI 1),(cI 0)],.g 40 true [.bin 44 .eql (.t 43) (cI 0)],.o [.pick 45 (.t 40) (.t 44) (cB false),.mov 46 (.t 45)],.g 46 true [.mov 47 (.t 7),.mov 48 (.t 3),.bs1 49 1 (.t 48)],.call (some (46,true)) 50 69 [(.t 47),(cI 1),(cI 1),(.t 49)],.g 46 true [.bin 51 .eql (.t 50) (cI 0)],.o [.pick 52 (.t 46) (.t 51) (cB false),.mov 53 (.t 52)],.g 53 true [.mov 54 (.t 7),.mov 55 (.t 8),.bs1 56 1 (.t 55)],.call (some (53,true)) 57 69 [(.t 54),(cI 1),(cI 1),(.t 56)],.g 53 true [.bin 58 .eql (.t 57) (cI 1)],.o [.pick 59 (.t 53) (.t 58) (cB false),.mov 60 (.t 59)],.g 60 true [.mov 61 (.t 7),.slice 62 14 (.t 61) none (some (cI 1)),.mov 63 (.t 8),.bs1 64 1 (.t 63)],.call (some (60,true)) 65 69 [(.t 62),(cI 1),(cI 1),(.t 64)],.g 60 true [.bin 66 .eql (.t 65) (cI 0)],.o [.pick 67 (.t 60) (.t 66) (cB false),.mov 68 (.t 67)],.g 68 true [.mov 69 (.t 7),.mov 70 (.t 5),.bs1 71 1 (.t 70)],.call (some (68,true)) 72 69 [(.t 69),(cI 1),(cI 1),(.t 71)],.g 68 true [.bin 73 .eql (.t 72) (cI 1)],.o [.pick 74 (.t 68) (.t 73) (cB false),.mov 75 (.t 74)],.g 75 true [.mov 76 (.t 7),.mov 77 (.t 9),.bs1 78 1 (.t 77)],.call (some (75,true)) 79 69 [(.t 76),(cI 1),(cI 1),(.t 78)],.g 75 true [.bin 80 .eql (.t 79) (cI 1)],.o [.pick 81 (.t 75) (.t 80) (cB false),.mov 82 (.t 81)],.g 82 true [.mov 83 (.t 7),.slice 84 14 (.t 83) none (some (cI 1)),.mov 85 (.t 9),.bs1 86 1 (.t 85)],.call (some (82,true)) 87 69 [(.t 84),(cI 1),(cI 1),(.t 86)],.g 82 true [.bin 88 .eql (.t 87) (cI 0)],.o [.pick 89 (.t 82) (.t 88) (cB false),.mov 90 (.t 89)],.g 90 true [.mov 91 (.t 7),.slice 92 14 (.t 91) (some (cI 1)) none,.mov 93 (.t 3),.bs1 94 1 (.t 93)],.call (some (90,true)) 95 69 [(.t 92),(cI 1),(cI 1),(.t 94)],.g 90 true [.bin 96 .eql (.t 95) (cI (-1))],.o [.pick 97 (.t 90) (.t 96) (cB false),.asg 0 (.t 97)]]) .ret)
def c66_3:Cd:=(.seq (.reg [34,35,36] [.o [.mov 35 (.t 9),.iaddr 36 1 (.t 35) (cI 20),.st 1 (.t 36) (.c (.sc (.int .u8 9)))]]) c66_2)
def c66_4:Cd:=(.seq (.seq (.reg [32,33] [.o [.mov 32 (.t 9),.len 33 (.t 32),.bin 34 .neq (.t 33) (cI 24)]]) c66_1) c66_3)
def c66_5:Cd:=(.seq (.reg [29,30,31] [.o [.bs0 29 1,.mov 30 (.t 3),.app 31 1 1 (.t 29) (.t 30),.asg 9 (.t 31)]]) c66_4)
def c66_6:Cd:=(.seq (.reg [28] [.call none 28 75 [],.o [.asg 8 (.t 28)]]) c66_5)
def c66_7:Cd:=(.seq (.reg [1,2,25,26,27] [.o [.ld 25 14 true (.t 1),.ld 26 14 true (.t 2),.bsa 27 14 [(.t 25),(.t 26)],.asg 7 (.t 27)]]) c66_6)
def c66_8:Cd:=(.seq (.reg [20,21,22,19,23,24,6] [.o [.bsn 20 [(.c (.sc (.int .u8 48))),(.c (.sc (.int .u8 49))),(.c (.sc (.int .u8 50))),(.c (.sc (.int .u8 51))),(.c (.sc (.int .u8 52))),(.c (.sc (.int .u8 53))),(.c (.sc (.int .u8 54))),(.c (.sc (.int .u8 55))),(.c (.sc (.int .u8 56))),(.c (.sc (.int .u8 57))),(.c (.sc (.int .u8 97))),(.c (.sc (.int .u8 98))),(.c (.sc (.int .u8 99))),(.c (.sc (.int .u8 100))),(.c (.sc (.int .u8 101))),(.c (.sc (.int .u8 102)))],.cvb 21 20],.call none 22 113 [(cI 0),(.t 21)],.o [.mov 19 (.t 22),.ext 23 19 0,.ext 24 19 1,.asg 5 (.t 23),.asg 6 (.t 24)]]) c66_7)
def c66_9:Cd:=(.seq (.reg [15,16,14,17,18,4] [.o [.make 15 1 1 [(.sc (.int .u8 0))] (cI 16) (cI 16)],.call none 16 113 [(cI 0),(.t 15)],.o [.mov 14 (.t 16),.ext 17 14 0,.ext 18 14 1,.asg 3 (.t 17),.asg 4 (.t 18)]]) c66_8)
def c66_10:Cd:=(.seq (.reg [12,13] [.o [.build 12 [(.sc (.int .i64 0)),(.sc (.int .i64 0)),(.sc (.int .i64 0)),(.sc (.int .i64 0)),(.sc (.int .i64 0)),(.sc (.slice none 0 0))] [(0,1,(cI 6))],.build 13 [(.sc (.int .i64 0)),(.sc (.int .i64 0)),(.sc (.int .i64 0)),(.sc (.int .i64 0)),(.sc (.int .i64 0)),(.sc (.int .i64 0)),(.sc (.slice none 0 0)),(.sc (.int .i64 0)),(.sc (.int .i64 0)),(.sc (.int .i64 0)),(.sc (.slice none 0 0)),(.sc (.int .i64 0)),(.sc (.int .i64 0)),(.sc (.int .i64 0))] [(1,6,(.t 12)),(11,1,(cI 4)),(12,1,(cI 5)),(13,1,(cI 6))],.alloc 2 [(.sc (.int .i64 0)),(.sc (.int .i64 0)),(.sc (.int .i64 0)),(.sc (.int .i64 0)),(.sc (.int .i64 0)),(.sc (.int .i64 0)),(.sl true () 1 0 []),(.sc (.int .i64 0)),(.sc (.int .i64 0)),(.sc (.int .i64 0)),(.sl true () 1 0 []),(.sc (.int .i64 0)),(.sc (.int .i64 0)),(.sc (.int .i64 0))],.st 14 (.t 2) (.t 13)]]) c66_9)
def c66_11:Cd:=(.seq (.reg [10,11] [.o [.build 10 [(.sc (.int .i64 0)),(.sc (.int .i64 0)),(.sc (.int .i64 0)),(.sc (.int .i64 0)),(.sc (.int .i64 0)),(.sc (.slice none 0 0))] [(0,1,(cI 1))],.build 11 [(.sc (.int .i64 0)),(.sc (.int .i64 0)),(.sc (.int .i64 0)),(.sc (.int .i64 0)),(.sc (.int .i64 0)),(.sc (.int .i64 0)),(.sc (.slice none 0 0)),(.sc (.int .i64 0)),(.sc (.int .i64 0)),(.sc (.int .i64 0)),(.sc (.slice none 0 0)),(.sc (.int .i64 0)),(.sc (.int .i64 0)),(.sc (.int .i64 0))] [(1,6,(.t 10)),(11,1,(cI 1)),(12,1,(cI 2)),(13,1,(cI 3))],.alloc 1 [(.sc (.int .i64 0)),(.sc (.int .i64 0)),(.sc (.int .i64 0)),(.sc (.int .i64 0)),(.sc (.int .i64 0)),(.sc (.int .i64 0)),(.sl true () 1 0 []),(.sc (.int .i64 0)),(.sc (.int .i64 0)),(.sc (.int .i64 0)),(.sl true () 1 0 []),(.sc (.int .i64 0)),(.sc (.int .i64 0)),(.sc (.int .i64 0))],.st 14 (.t 1) (.t 11)]]) c66_10)
def fi66:FI:=⟨98,0,[.t 0],(.seq (.reg [0] [.o [.asg 0 (cB false)]]) c66_11)⟩
theorem ok66:fiOk Try.prog 66 fi66:=⟨_,_,Try.func66,rfl,by kernel_rfl,by kernel_rfl,Try.call66⟩
def c67_0:Cd:=(.seq (.reg [9,17] [.o [.asg 8 (cI (-1))]]) .ret)
def c67_1:Cd:=(.cond (.t 17) c67_0 .skip)
def c67_2:Cd:=(.seq (.reg [9,17,18] [.o [.ld 18 1 false (.t 9),.asg 8 (.t 18)]]) .ret)
def c67_3:Cd:=(.seq (.seq (.reg [10,16] [.o [.mov 16 (.t 10),.bin 17 .neq (.t 16) (cI 0)]]) c67_1) c67_2)
def c67_4:Cd:=(.seq (.reg [1,2,4,7,11,12,13,14,15] [.o [.ld 11 1 false (.t 4),.mov 12 (.t 1),.mov 13 (.t 2),.mkf 14 114 [(.t 4),(.t 7),(.t 9)]],.call none 15 88 [(.t 11),(.t 12),(.t 13),(.t 14)],.o [.asg 10 (.t 15)]]) c67_3)
def c67_5:Cd:=(.seq (.reg [] [.o [.alloc 9 [(.sc (.int .i64 0))],.st 1 (.t 9) (cI 0)]]) c67_4)
def fi67:FI:=⟨19,4,[.t 8],(.seq (.reg [0,3,8] [.o [.box 4 (.t 0),.box 7 (.t 3),.asg 8 (cI 0)]]) c67_5)⟩
theorem ok67:fiOk Try.prog 67 fi67:=⟨_,_,Try.func67,rfl,by kernel_rfl,by kernel_rfl,Try.call67⟩
def c68_0:Cd:=(.seq (.reg [0,1,2,3,18] [.o [.asg 8 (cI (-1))]]) .ret)
def c68_1:Cd:=(.cond (.t 18) c68_0 .skip)
def c68_2:Cd:=(.cond (.t 27) .skip (.exit 0))
def c68_3:Cd:=(.reg [80,81,82,83,84] [.o [.mov 81 (.t 11),.faddr 82 12 (.t 13),.ld 83 1 false (.t 82),.mx 84 true (.t 81) (.t 83),.asg 11 (.t 84)]])
def c68_4:Cd:=(.cond (.t 80) c68_3 .skip)
def c68_5:Cd:=(.reg [13,80,85,86,87] [.o [.ld 85 3 true (.t 9),.ld 86 14 true (.t 13)],.call none 87 115 [(.t 85),(.t 86)]])
def c68_6:Cd:=(.seq (.seq (.reg [37,38,39,40,41,42,43,44,45,46,47,48,49,50,51,52,53,54,55,56,57,58,59,60,61,62,63,64,65,66,67,68,69,70,71,72,73,74,75,76,77,78,79] [.o [.faddr 37 13 (.t 13),.ld 38 1 false (.t 37),.bin 39 .gtr (.t 38) (cI 0),.mov 40 (.t 39)],.g 40 true [.faddr 41 7 (.t 13),.faddr 42 0 (.t 41),.ld 43 1 false (.t 42),.bin 44 .eql (.t 43) (cI 0)],.o [.pick 45 (.t 40) (.t 44) (cB false),.mov 46 (.t 45)],.g 46 true [.faddr 47 1 (.t 13),.faddr 48 0 (.t 47),.ld 49 1 false (.t 48),.bin 50 .eql (.t 49) (cI 6),.mov 51 (.t 50)],.g 51 true [.faddr 52 1 (.t 13),.faddr 53 1 (.t 52),.ld 54 1 false (.t 53),.mov 55 (.t 3),.bin 56 .eql (.t 54) (.t 55)],.g 46 true [.pick 57 (.t 51) (.t 56) (cB false),.mov 58 (.t 57)],.g 58 false [.faddr 59 1 (.t 13),.faddr 60 0 (.t 59),.ld 61 1 false (.t 60),.bin 62 .eql (.t 61) (cI 7),.mov 63 (.t 62)],.g 63 true [.mov 64 (.t 3),.bin 65 .geq (.t 64) (cI 0)],.g 58 false [.pick 66 (.t 63) (.t 65) (cB false),.mov 67 (.t 66)],.g 67 true [.mov 68 (.t 3),.mov 69 (.t 1),.bin 70 .lss (.t 68) (.t 69)],.g 58 false [.pick 71 (.t 67) (.t 70) (cB false),.mov 72 (.t 71)],.g 72 true [.faddr 73 0 (.t 9),.ld 74 1 false (.t 73),.mov 75 (.t 3),.iaddr 76 1 (.t 74) (.t 75),.ld 77 1 false (.t 76)],.g 58 false [.pick 78 (.t 72) (.t 77) (cB false)],.g 46 true [.pick 79 (.t 58) (cB true) (.t 78)],.o [.pick 80 (.t 46) (.t 79) (cB false)]]) c68_4) c68_5)
def c68_7:Cd:=(.reg [28,29] [.o [.mov 28 (.t 12),.bin 29 .add (.t 28) (cI 1),.asg 12 (.t 29)]])
def c68_8:Cd:=(.seq (.block 1 (.seq (.reg [27,30,31,32,33,34,35,36] [.o [.mov 30 (.t 0),.mov 31 (.t 10),.mov 32 (.t 12),.iaddr 33 1 (.t 31) (.t 32),.ld 34 1 false (.t 33),.iaddr 35 14 (.t 30) (.t 34),.ld 36 14 true (.t 35),.alloc 13 [(.sc (.int .i64 0)),(.sc (.int .i64 0)),(.sc (.int .i64 0)),(.sc (.int .i64 0)),(.sc (.int .i64 0)),(.sc (.int .i64 0)),(.sl true () 1 0 []),(.sc (.int .i64 0)),(.sc (.int .i64 0)),(.sc (.int .i64 0)),(.sl true () 1 0 []),(.sc (.int .i64 0)),(.sc (.int .i64 0)),(.sc (.int .i64 0))],.st 14 (.t 13) (.t 36)]]) c68_6)) c68_7)
def c68_9:Cd:=(.seq (.seq (.reg [24,25,26] [.o [.mov 24 (.t 12),.mov 25 (.t 10),.len 26 (.t 25),.bin 27 .lss (.t 24) (.t 26)]]) c68_2) c68_8)
def c68_10:Cd:=(.block 0 (.loop c68_9))
def c68_11:Cd:=(.seq (.reg [0,1,3,9,10,11,12,24,25,26,27,88] [.o [.mov 88 (.t 11),.asg 8 (.t 88)]]) .ret)
def c68_12:Cd:=(.seq (.seq (.reg [] [.o [.asg 12 (cI 0)]]) c68_10) c68_11)
def c68_13:Cd:=(.seq (.reg [] [.o [.asg 11 (cI 0)]]) c68_12)
def c68_14:Cd:=(.seq (.reg [22,23] [.o [.mov 22 (.t 0)],.call none 23 34 [(.t 22)],.o [.asg 10 (.t 23)]]) c68_13)
def c68_15:Cd:=(.seq (.reg [2,18,19,20,21] [.o [.mov 19 (.t 1),.mov 20 (.t 2)],.call none 21 76 [(.t 19),(.t 20)],.o [.alloc 9 [(.sl true () 1 0 []),(.sl true () 1 0 []),(.sl true () 1 0 [])],.st 3 (.t 9) (.t 21)]]) c68_14)
def c68_16:Cd:=(.seq (.seq (.reg [14,15,16,17] [.o [.mov 14 (.t 0),.mov 15 (.t 1),.mov 16 (.t 2)],.call none 17 35 [(.t 14),(.t 15),(.t 16)],.o [.bin 18 .neq (.t 17) (cI 0)]]) c68_1) c68_15)
def fi68:FI:=⟨89,4,[.t 8],(.seq (.reg [8] [.o [.asg 8 (cI 0)]]) c68_16)⟩
theorem ok68:fiOk Try.prog 68 fi68:=⟨_,_,Try.func68,rfl,by kernel_rfl,by kernel_rfl,Try.call68⟩
def c69_0:Cd:=(.seq (.reg [0,1,2,3,26] [.o [.asg 8 (cI (-1))]]) .ret)
def c69_1:Cd:=(.cond (.t 26) c69_0 .skip)
def c69_2:Cd:=(.seq (.reg [0,1,2,27,28,29,9,75,76,77] [.o [.mov 76 (.t 9),.bin 77 .add (.t 76) (cI 1),.asg 8 (.t 77)]]) .ret)
def c69_3:Cd:=(.cond (.t 75) c69_2 .skip)
def c69_4:Cd:=(.seq (.reg [15,74] [.o [.mov 74 (.t 15),.un 75 .not (.t 74)]]) c69_3)
def c69_5:Cd:=(.seq (.reg [11,12,13,14,51,52,53,54,55,56,57,58,59,60,61,62,63,64,65,66,67,68,69,70,71,72,73] [.o [.mov 51 (.t 14),.bin 52 .eql (.t 51) (cI 0),.mov 53 (.t 52)],.g 53 true [.ld 54 2 true (.t 12),.mov 55 (.t 13)],.call (some (53,true)) 56 118 [(.t 54),(.t 55)],.o [.pick 57 (.t 53) (.t 56) (cB false),.mov 58 (.t 57)],.g 58 false [.mov 59 (.t 14),.bin 60 .eql (.t 59) (cI 11),.mov 61 (.t 60)],.g 61 true [.mov 62 (.t 11),.bin 63 .eql (.t 62) (cI 0)],.g 58 false [.pick 64 (.t 61) (.t 63) (cB false)],.o [.pick 65 (.t 58) (cB true) (.t 64),.mov 66 (.t 65)],.g 66 false [.mov 67 (.t 14),.bin 68 .eql (.t 67) (cI 10),.mov 69 (.t 68)],.g 69 true [.faddr 70 1 (.t 12),.ld 71 1 false (.t 70)],.g 66 false [.pick 72 (.t 69) (.t 71) (cB false)],.o [.pick 73 (.t 66) (cB true) (.t 72),.asg 15 (.t 73)]]) c69_4)
def c69_6:Cd:=(.seq (.reg [10,46,47,48,45,49,50] [.o [.mov 46 (.t 9),.mov 47 (.t 10)],.call none 48 117 [(.t 46),(.t 47)],.o [.mov 45 (.t 48),.ext 49 45 0,.ext 50 45 1,.asg 13 (.t 49),.asg 14 (.t 50)]]) c69_5)
def c69_7:Cd:=(.seq (.reg [39,40,41,42,43,44] [.o [.mov 39 (.t 0),.mov 40 (.t 1),.mov 41 (.t 2),.mov 42 (.t 9),.mov 43 (.t 11)],.call none 44 116 [(.t 39),(.t 40),(.t 41),(.t 42),(.t 43)],.o [.alloc 12 [(.sl true () 1 0 []),(.sc (.bool false))],.st 2 (.t 12) (.t 44)]]) c69_6)
def c69_8:Cd:=(.seq (.reg [34,35,36,37,38] [.o [.mov 34 (.t 0),.mov 35 (.t 1),.mov 36 (.t 2),.mov 37 (.t 9)],.call none 38 67 [(.t 34),(.t 35),(.t 36),(.t 37)],.o [.asg 11 (.t 38)]]) c69_7)
def c69_9:Cd:=(.reg [9,75,78] [.o [.bin 78 .add (.t 29) (cI 1),.mov 29 (.t 78)]])
def c69_10:Cd:=(.seq (.block 1 (.seq (.reg [30,31,32,33] [.o [.mov 31 (.t 29),.iaddr 32 1 (.t 27) (.t 29),.ld 33 1 false (.t 32),.asg 9 (.t 31),.asg 10 (.t 33)]]) c69_8)) c69_9)
def c69_11:Cd:=(.seq (.cond (.t 30) .skip (.exit 0)) c69_10)
def c69_12:Cd:=(.seq (.reg [] [.o [.bin 30 .lss (.t 29) (.t 28)]]) c69_11)
def c69_13:Cd:=(.block 0 (.loop c69_12))
def c69_14:Cd:=(.seq (.reg [0,1,2,27,28,29,30] [.o [.asg 8 (cI 0)]]) .ret)
def c69_15:Cd:=(.seq (.seq (.reg [3,26] [.o [.mov 27 (.t 3),.len 28 (.t 27),.mov 29 (cI 0)]]) c69_13) c69_14)
def c69_16:Cd:=(.seq (.seq (.reg [16,17,18,19,20,21,22,23,24,25] [.o [.mov 16 (.t 0),.mov 17 (.t 1),.mov 18 (.t 2)],.call none 19 28 [(.t 16),(.t 17),(.t 18)],.o [.bin 20 .neq (.t 19) (cI 0),.mov 21 (.t 20)],.g 21 false [.mov 22 (.t 3),.len 23 (.t 22),.mov 24 (.t 1),.bin 25 .neq (.t 23) (.t 24)],.o [.pick 26 (.t 21) (cB true) (.t 25)]]) c69_1) c69_15)
def fi69:FI:=⟨79,4,[.t 8],(.seq (.reg [8] [.o [.asg 8 (cI 0)]]) c69_16)⟩
theorem ok69:fiOk Try.prog 69 fi69:=⟨_,_,Try.func69,rfl,by kernel_rfl,by kernel_rfl,Try.call69⟩
def c70_0:Cd:=(.seq (.reg [0,1,2,3,20] [.o [.asg 8 (cI (-1))]]) .ret)
def c70_1:Cd:=(.cond (.t 20) c70_0 .skip)
def c70_2:Cd:=(.cond (.t 23) .skip (.exit 0))
def c70_3:Cd:=(.seq (.reg [0,1,2,3,9,35,36,37] [.o [.mov 36 (.t 9),.bin 37 .add (.t 36) (cI 1),.asg 8 (.t 37)]]) .ret)
def c70_4:Cd:=(.cond (.t 35) c70_3 .skip)
def c70_5:Cd:=(.reg [35,24,25] [.o [.mov 24 (.t 9),.bin 25 .add (.t 24) (cI 1),.asg 9 (.t 25)]])
def c70_6:Cd:=(.seq (.block 1 (.seq (.reg [23,26,27,28,29,30,31,32,33,34] [.o [.mov 26 (.t 0),.mov 27 (.t 1),.mov 28 (.t 2),.mov 29 (.t 9),.mov 30 (.t 3),.mov 31 (.t 9),.iaddr 32 1 (.t 30) (.t 31),.ld 33 1 false (.t 32)],.call none 34 119 [(.t 26),(.t 27),(.t 28),(.t 29),(.t 33)],.o [.un 35 .not (.t 34)]]) c70_4)) c70_5)
def c70_7:Cd:=(.seq (.seq (.reg [21,22] [.o [.mov 21 (.t 9),.mov 22 (.t 1),.bin 23 .lss (.t 21) (.t 22)]]) c70_2) c70_6)
def c70_8:Cd:=(.block 0 (.loop c70_7))
def c70_9:Cd:=(.seq (.reg [0,1,2,3,9,21,22,23] [.o [.asg 8 (cI 0)]]) .ret)
def c70_10:Cd:=(.seq (.seq (.reg [20] [.o [.asg 9 (cI 0)]]) c70_8) c70_9)
def c70_11:Cd:=(.seq (.seq (.reg [10,11,12,13,14,15,16,17,18,19] [.o [.mov 10 (.t 0),.mov 11 (.t 1),.mov 12 (.t 2)],.call none 13 35 [(.t 10),(.t 11),(.t 12)],.o [.bin 14 .neq (.t 13) (cI 0),.mov 15 (.t 14)],.g 15 false [.mov 16 (.t 3),.len 17 (.t 16),.mov 18 (.t 1),.bin 19 .neq (.t 17) (.t 18)],.o [.pick 20 (.t 15) (cB true) (.t 19)]]) c70_1) c70_10)
def fi70:FI:=⟨38,4,[.t 8],(.seq (.reg [8] [.o [.asg 8 (cI 0)]]) c70_11)⟩
theorem ok70:fiOk Try.prog 70 fi70:=⟨_,_,Try.func70,rfl,by kernel_rfl,by kernel_rfl,Try.call70⟩
def c71_0:Cd:=(.cond (.t 8) .skip (.exit 0))
def c71_1:Cd:=(.reg [9,10] [.o [.mov 9 (.t 4),.bin 10 .add (.t 9) (cI 1),.asg 4 (.t 10)]])
def c71_2:Cd:=(.seq (.block 1 (.reg [8,11,12,13,14,15,16,17,18] [.o [.mov 11 (.t 3),.mov 12 (.t 0),.mov 13 (.t 4),.iaddr 14 1 (.t 12) (.t 13),.ld 15 1 false (.t 14),.b2s 16 (.t 15),.bs1 17 1 (.t 16),.app 18 1 16 (.t 11) (.t 17),.asg 3 (.t 18)]])) c71_1)
def c71_3:Cd:=(.seq (.seq (.reg [5,6,7] [.o [.mov 5 (.t 4),.mov 6 (.t 0),.len 7 (.t 6),.bin 8 .lss (.t 5) (.t 7)]]) c71_0) c71_2)
def c71_4:Cd:=(.block 0 (.loop c71_3))
def c71_5:Cd:=(.seq (.reg [0,3,4,5,6,7,8,19] [.o [.mov 19 (.t 3),.asg 2 (.t 19)]]) .ret)
def c71_6:Cd:=(.seq (.seq (.reg [] [.o [.asg 4 (cI 0)]]) c71_4) c71_5)
def c71_7:Cd:=(.seq (.reg [] [.o [.asg 3 (.c (.sl true () 1 0 []))]]) c71_6)
def fi71:FI:=⟨20,1,[.t 2],(.seq (.reg [2] [.o [.asg 2 (.c (.sl true () 1 0 []))]]) c71_7)⟩
theorem ok71:fiOk Try.prog 71 fi71:=⟨_,_,Try.func71,rfl,by kernel_rfl,by kernel_rfl,Try.call71⟩
def c73_0:Cd:=(.seq (.reg [0,1,17] [.o [.asg 4 (.c (.sc (.string ⟨#[]⟩))),.asg 5 (cI 1)]]) .ret)
def c73_1:Cd:=(.cond (.t 17) c73_0 .skip)
def c73_2:Cd:=(.seq (.reg [6,25,26,27,28,29] [.o [.mov 25 (.t 6)],.call none 26 121 [(.t 25)],.call none 27 120 [(.t 26),(cI 4)],.o [.mov 28 (.t 6),.bin 29 .add (.t 27) (.t 28),.asg 4 (.t 29),.asg 5 (cI 0)]]) .ret)
def c73_3:Cd:=(.seq (.reg [0,1,17,18,19,20,21,22,23,24] [.o [.mov 18 (.t 0),.bin 19 .add (.t 18) (cI 1),.conv 20 .u32 (.t 19)],.call none 21 120 [(.t 20),(cI 2)],.o [.bin 22 .add (.t 21) (.c (.sc (.string ⟨#[90,165]⟩))),.mov 23 (.t 1),.bin 24 .add (.t 22) (.t 23),.asg 6 (.t 24)]]) c73_2)
def c73_4:Cd:=(.seq (.seq (.reg [7,8,9,10,11,12,13,14,15,16] [.o [.mov 7 (.t 0),.bin 8 .lss (.t 7) (cI 0),.mov 9 (.t 8)],.g 9 false [.mov 10 (.t 0),.bin 11 .geq (.t 10) (cI 48)],.o [.pick 12 (.t 9) (cB true) (.t 11),.mov 13 (.t 12)],.g 13 false [.mov 14 (.t 1),.slen 15 (.t 14),.bin 16 .neq (.t 15) (cI 16)],.o [.pick 17 (.t 13) (cB true) (.t 16)]]) c73_1) c73_3)
def fi73:FI:=⟨30,2,[.t 4,.t 5],(.seq (.reg [4,5] [.o [.asg 4 (.c (.sc (.string ⟨#[]⟩))),.asg 5 (cI 0)]]) c73_4)⟩
theorem ok73:fiOk Try.prog 73 fi73:=⟨_,_,Try.func73,rfl,by kernel_rfl,by kernel_rfl,Try.call73⟩
def c74_0:Cd:=(.seq (.reg [1,2] [.o [.make 1 1 1 [(.sc (.int .u8 0))] (cI 24) (cI 24),.b2s 2 (.t 1),.asg 0 (.t 2)]]) .ret)
def fi74:FI:=⟨3,0,[.t 0],(.seq (.reg [0] [.o [.asg 0 (.c (.sc (.string ⟨#[]⟩)))]]) c74_0)⟩
theorem ok74:fiOk Try.prog 74 fi74:=⟨_,_,Try.func74,rfl,by kernel_rfl,by kernel_rfl,Try.call74⟩
def c75_0:Cd:=(.seq (.reg [1] [.o [.make 1 1 1 [(.sc (.int .u8 0))] (cI 24) (cI 24),.asg 0 (.t 1)]]) .ret)
def fi75:FI:=⟨2,0,[.t 0],(.seq (.reg [0] [.o [.asg 0 (.c (.sl true () 1 0 []))]]) c75_0)⟩
theorem ok75:fiOk Try.prog 75 fi75:=⟨_,_,Try.func75,rfl,by kernel_rfl,by kernel_rfl,Try.call75⟩
def c113_0:Cd:=(.seq (.reg [0,1,16] [.o [.asg 4 (.c (.sl true () 1 0 [])),.asg 5 (cI 1)]]) .ret)
def c113_1:Cd:=(.cond (.t 16) c113_0 .skip)
def c113_2:Cd:=(.reg [8,43,44,45,46,47,48,49,50,51] [.o [.mov 43 (.t 6),.mov 44 (.t 8),.mov 45 (.t 7),.mov 46 (.t 8),.bin 47 .mul (cI 8) (.t 46),.conv 48 .u64 (.t 47),.bin 49 .shr (.t 45) (.t 48),.conv 50 .u8 (.t 49),.iaddr 51 1 (.t 43) (.t 44),.st 1 (.t 51) (.t 50)]])
def c113_3:Cd:=(.reg [52] [.o [.bin 52 .add (.t 40) (cI 1),.mov 40 (.t 52)]])
def c113_4:Cd:=(.seq (.block 1 (.seq (.reg [41,42] [.o [.mov 42 (.t 40),.asg 8 (.t 42)]]) c113_2)) c113_3)
def c113_5:Cd:=(.seq (.cond (.t 41) .skip (.exit 0)) c113_4)
def c113_6:Cd:=(.seq (.reg [] [.o [.bin 41 .lss (.t 40) (cI 4)]]) c113_5)
def c113_7:Cd:=(.block 0 (.loop c113_6))
def c113_8:Cd:=(.seq (.reg [6,7,40,41,53] [.o [.mov 53 (.t 6),.asg 4 (.t 53),.asg 5 (cI 0)]]) .ret)
def c113_9:Cd:=(.seq (.seq (.reg [] [.o [.mov 40 (cI 0)]]) c113_7) c113_8)
def c113_10:Cd:=(.seq (.reg [37,38,39] [.o [.mov 37 (.t 6),.slice 38 1 (.t 37) (some (cI 4)) none],.call none 39 153 [(.t 38)],.o [.asg 7 (.t 39)]]) c113_9)
def c113_11:Cd:=(.seq (.reg [1,33,34,35,36] [.o [.mov 33 (.t 6),.slice 34 1 (.t 33) (some (cI 8)) none,.mov 35 (.t 1),.cpy 36 1 (.t 34) (.t 35)]]) c113_10)
def c113_12:Cd:=(.seq (.reg [0,18,19,20,21,22,23,24,25,26,27,28,29,30,31,32] [.o [.mov 18 (.t 6),.mov 19 (.t 6),.mov 20 (.t 6),.mov 21 (.t 6),.mov 22 (.t 0),.bin 23 .add (.t 22) (cI 1),.conv 24 .u8 (.t 23),.mov 25 (.t 0),.bin 26 .add (.t 25) (cI 1),.bin 27 .shr (.t 26) (.c (.sc (.int .u64 8))),.conv 28 .u8 (.t 27),.iaddr 29 1 (.t 18) (cI 4),.st 1 (.t 29) (.t 24),.iaddr 30 1 (.t 19) (cI 5),.st 1 (.t 30) (.t 28),.iaddr 31 1 (.t 20) (cI 6),.st 1 (.t 31) (.c (.sc (.int .u8 90))),.iaddr 32 1 (.t 21) (cI 7),.st 1 (.t 32) (.c (.sc (.int .u8 165)))]]) c113_11)
def c113_13:Cd:=(.seq (.reg [16,17] [.call none 17 75 [],.o [.asg 6 (.t 17)]]) c113_12)
def c113_14:Cd:=(.seq (.seq (.reg [9,10,11,12,13,14,15] [.o [.mov 9 (.t 0)],.call none 10 152 [(.t 9)],.o [.un 11 .not (.t 10),.mov 12 (.t 11)],.g 12 false [.mov 13 (.t 1),.len 14 (.t 13),.bin 15 .neq (.t 14) (cI 16)],.o [.pick 16 (.t 12) (cB true) (.t 15)]]) c113_1) c113_13)
def fi113:FI:=⟨54,2,[.t 4,.t 5],(.seq (.reg [4,5] [.o [.asg 4 (.c (.sl true () 1 0 [])),.asg 5 (cI 0)]]) c113_14)⟩
theorem ok113:fiOk Try.prog 113 fi113:=⟨_,_,Try.func113,rfl,by kernel_rfl,by kernel_rfl,Try.call113⟩
def c114_0:Cd:=(.reg [4,7,59,60,61,62,63] [.o [.ld 60 1 false (.t 4),.faddr 61 12 (.t 7),.ld 62 1 false (.t 61),.mx 63 true (.t 60) (.t 62),.st 1 (.t 4) (.t 63)]])
def c114_1:Cd:=(.cond (.t 59) c114_0 .skip)
def c114_2:Cd:=(.seq (.reg [3,6,8,30,31,32,33,34,35,36,37,38,39,40,41,42,43,44,45,46,47,48,49,50,51,52,53,54,55,56,57,58] [.o [.mov 30 (.t 8),.mov 31 (.t 30)],.g 31 true [.faddr 32 13 (.t 7),.ld 33 1 false (.t 32),.bin 34 .gtr (.t 33) (cI 0)],.o [.pick 35 (.t 31) (.t 34) (cB false),.mov 36 (.t 35)],.g 36 true [.faddr 37 7 (.t 7),.faddr 38 0 (.t 37),.ld 39 1 false (.t 38),.bin 40 .eql (.t 39) (cI 0)],.o [.pick 41 (.t 36) (.t 40) (cB false),.mov 42 (.t 41)],.g 42 true [.ld 43 1 false (.t 3),.bin 44 .geq (.t 43) (cI 0)],.o [.pick 45 (.t 42) (.t 44) (cB false),.mov 46 (.t 45)],.g 46 true [.ld 47 1 false (.t 3),.faddr 48 0 (.t 6),.ld 49 1 false (.t 48),.len 50 (.t 49),.bin 51 .lss (.t 47) (.t 50)],.o [.pick 52 (.t 46) (.t 51) (cB false),.mov 53 (.t 52)],.g 53 true [.faddr 54 0 (.t 6),.ld 55 1 false (.t 54),.ld 56 1 false (.t 3),.iaddr 57 1 (.t 55) (.t 56),.ld 58 1 false (.t 57)],.o [.pick 59 (.t 53) (.t 58) (cB false)]]) c114_1)
def c114_3:Cd:=(.seq (.reg [13,14,15,16,17,18,19,20,21,22,23,24,25,26,27,28,29] [.o [.faddr 13 1 (.t 7),.faddr 14 0 (.t 13),.ld 15 1 false (.t 14),.bin 16 .eql (.t 15) (cI 7),.mov 17 (.t 16)],.g 17 false [.faddr 18 1 (.t 7),.faddr 19 0 (.t 18),.ld 20 1 false (.t 19),.bin 21 .eql (.t 20) (cI 6),.mov 22 (.t 21)],.g 22 true [.faddr 23 1 (.t 7),.faddr 24 1 (.t 23),.ld 25 1 false (.t 24),.ld 26 1 false (.t 3),.bin 27 .eql (.t 25) (.t 26)],.g 17 false [.pick 28 (.t 22) (.t 27) (cB false)],.o [.pick 29 (.t 17) (cB true) (.t 28),.asg 8 (.t 29)]]) c114_2)
def c114_4:Cd:=(.seq (.reg [0,2,9,10,11,12] [.o [.ld 9 1 false (.t 2),.mov 10 (.t 0),.iaddr 11 14 (.t 9) (.t 10),.ld 12 14 true (.t 11),.alloc 7 [(.sc (.int .i64 0)),(.sc (.int .i64 0)),(.sc (.int .i64 0)),(.sc (.int .i64 0)),(.sc (.int .i64 0)),(.sc (.int .i64 0)),(.sl true () 1 0 []),(.sc (.int .i64 0)),(.sc (.int .i64 0)),(.sc (.int .i64 0)),(.sl true () 1 0 []),(.sc (.int .i64 0)),(.sc (.int .i64 0)),(.sc (.int .i64 0))],.st 14 (.t 7) (.t 12)]]) c114_3)
def fi114:FI:=⟨64,5,[],(.seq (.reg [1] [.o [.box 6 (.t 1)]]) c114_4)⟩
theorem ok114:fiOk Try.prog 114 fi114:=⟨_,_,Try.func114,rfl,by kernel_rfl,by kernel_rfl,Try.call114⟩
def c115_0:Cd:=(.reg [2,3,15,16,17,18,19,20,21] [.o [.ld 16 3 true (.t 2),.faddr 17 0 (.t 3),.ld 18 1 false (.t 17),.faddr 19 1 (.t 3),.ld 20 6 true (.t 19)],.call none 21 77 [(.t 16),(.t 18),(.t 20)]])
def c115_1:Cd:=(.cond (.t 15) c115_0 .skip)
def c115_2:Cd:=(.seq (.reg [4,5,6,7,8,9,10,11,12,13,14] [.o [.faddr 4 13 (.t 3),.ld 5 1 false (.t 4),.bin 6 .eql (.t 5) (cI 0),.mov 7 (.t 6)],.g 7 false [.faddr 8 1 (.t 3),.ld 9 6 true (.t 8),.faddr 10 7 (.t 3),.faddr 11 0 (.t 10),.ld 12 1 false (.t 11)],.call (some (7,false)) 13 38 [(.t 9),(.t 12)],.g 7 false [.un 14 .not (.t 13)],.o [.pick 15 (.t 7) (cB true) (.t 14)]]) c115_1)
def fi115:FI:=⟨22,2,[],(.seq (.reg [0,1] [.o [.box 2 (.t 0),.box 3 (.t 1)]]) c115_2)⟩
theorem ok115:fiOk Try.prog 115 fi115:=⟨_,_,Try.func115,rfl,by kernel_rfl,by kernel_rfl,Try.call115⟩
def c116_0:Cd:=(.reg [16,35,36,37,38,39,40,41,42,43,44,45,46,47,48] [.o [.faddr 35 1 (.t 11),.ld 36 1 false (.t 35),.mov 37 (.t 36)],.g 37 false [.faddr 38 12 (.t 16),.ld 39 1 false (.t 38),.bin 40 .eql (.t 39) (cI 0),.mov 41 (.t 40)],.g 41 true [.ld 42 14 true (.t 16),.ld 43 3 true (.t 13),.ld 44 1 false (.t 8)],.call (some (41,true)) 45 155 [(.t 42),(.t 43),(.t 44)],.g 37 false [.pick 46 (.t 41) (.t 45) (cB false)],.o [.pick 47 (.t 37) (cB true) (.t 46),.faddr 48 1 (.t 11),.st 1 (.t 48) (.t 47)]])
def c116_1:Cd:=(.reg [49] [.o [.bin 49 .add (.t 31) (cI 1),.mov 31 (.t 49)]])
def c116_2:Cd:=(.seq (.block 1 (.seq (.reg [32,33,34] [.o [.iaddr 33 14 (.t 29) (.t 31),.ld 34 14 true (.t 33),.alloc 16 [(.sc (.int .i64 0)),(.sc (.int .i64 0)),(.sc (.int .i64 0)),(.sc (.int .i64 0)),(.sc (.int .i64 0)),(.sc (.int .i64 0)),(.sl true () 1 0 []),(.sc (.int .i64 0)),(.sc (.int .i64 0)),(.sc (.int .i64 0)),(.sl true () 1 0 []),(.sc (.int .i64 0)),(.sc (.int .i64 0)),(.sc (.int .i64 0))],.st 14 (.t 16) (.t 34)]]) c116_0)) c116_1)
def c116_3:Cd:=(.seq (.cond (.t 32) .skip (.exit 0)) c116_2)
def c116_4:Cd:=(.seq (.reg [] [.o [.bin 32 .lss (.t 31) (.t 30)]]) c116_3)
def c116_5:Cd:=(.block 0 (.loop c116_4))
def c116_6:Cd:=(.seq (.reg [8,11,13,29,30,31,32,50] [.o [.ld 50 2 true (.t 11),.st 2 (.t 10) (.t 50)]]) .ret)
def c116_7:Cd:=(.seq (.seq (.reg [5] [.o [.ld 29 1 false (.t 5),.len 30 (.t 29),.mov 31 (cI 0)]]) c116_5) c116_6)
def c116_8:Cd:=(.seq (.reg [1,2,23,24,25,26,22,27,28,14] [.o [.ld 23 1 false (.t 5),.mov 24 (.t 1),.mov 25 (.t 2)],.call none 26 30 [(.t 23),(.t 24),(.t 25)],.o [.mov 22 (.t 26),.ext 27 22 0,.ext 28 22 1,.alloc 13 [(.sl true () 1 0 []),(.sl true () 1 0 []),(.sl true () 1 0 [])],.st 3 (.t 13) (.t 27),.asg 14 (.t 28)]]) c116_7)
def c116_9:Cd:=(.seq (.reg [9,12,17,18,19,20,21] [.o [.ld 17 1 false (.t 5),.mov 18 (.t 1),.mov 19 (.t 2),.mkf 20 154 [(.t 5),(.t 9),(.t 8),(.t 11),(.t 12)]],.call none 21 88 [(.t 17),(.t 18),(.t 19),(.t 20)]]) c116_8)
def c116_10:Cd:=(.seq (.reg [] [.o [.alloc 12 [(.sc (.bool false))],.st 1 (.t 12) (cB false)]]) c116_9)
def c116_11:Cd:=(.seq (.reg [] [.o [.alloc 11 [(.sl true () 1 0 []),(.sc (.bool false))]]]) c116_10)
def fi116:FI:=⟨51,5,[.cell 10 2 true],(.seq (.reg [0,3,4] [.o [.box 5 (.t 0),.box 8 (.t 3),.box 9 (.t 4),.alloc 10 [(.sl true () 1 0 []),(.sc (.bool false))]]]) c116_11)⟩
theorem ok116:fiOk Try.prog 116 fi116:=⟨_,_,Try.func116,rfl,by kernel_rfl,by kernel_rfl,Try.call116⟩
def c117_0:Cd:=(.seq (.reg [0,1,17] [.o [.asg 4 (.c (.sl true () 1 0 [])),.asg 5 (cI 1)]]) .ret)
def c117_1:Cd:=(.cond (.t 17) c117_0 .skip)
def c117_2:Cd:=(.cond (.t 21) .skip (.exit 0))
def c117_3:Cd:=(.cond (.t 26) (.exit 0) .skip)
def c117_4:Cd:=(.reg [26,27,28] [.o [.mov 27 (.t 6),.bin 28 .add (.t 27) (cI 1),.asg 6 (.t 28)]])
def c117_5:Cd:=(.block 1 (.seq (.seq (.reg [21,22,23,24,25] [.o [.mov 22 (.t 1),.mov 23 (.t 6),.iaddr 24 1 (.t 22) (.t 23),.ld 25 1 false (.t 24),.bin 26 .neq (.t 25) (.c (.sc (.int .u8 0)))]]) c117_3) c117_4))
def c117_6:Cd:=(.seq (.seq (.reg [18,19,20] [.o [.mov 18 (.t 6),.mov 19 (.t 1),.len 20 (.t 19),.bin 21 .lss (.t 18) (.t 20)]]) c117_2) c117_5)
def c117_7:Cd:=(.seq (.reg [0,1,32] [.o [.asg 4 (.c (.sl true () 1 0 [])),.asg 5 (cI 11)]]) .ret)
def c117_8:Cd:=(.cond (.t 32) c117_7 .skip)
def c117_9:Cd:=(.seq (.reg [7,45] [.o [.asg 4 (.c (.sl true () 1 0 [])),.asg 5 (cI 10)]]) .ret)
def c117_10:Cd:=(.cond (.t 45) c117_9 .skip)
def c117_11:Cd:=(.seq (.reg [1,8,42,43,44] [.o [.mov 42 (.t 8),.mov 43 (.t 1)],.call none 44 102 [(.t 42),(.t 43)],.o [.un 45 .not (.t 44)]]) c117_10)
def c117_12:Cd:=(.seq (.reg [7,45,46] [.o [.mov 46 (.t 7),.asg 4 (.t 46),.asg 5 (cI 0)]]) .ret)
def c117_13:Cd:=(.seq (.seq (.reg [0,37,38,39,36,40,41,9] [.o [.mov 37 (.t 0),.mov 38 (.t 7)],.call none 39 113 [(.t 37),(.t 38)],.o [.mov 36 (.t 39),.ext 40 36 0,.ext 41 36 1,.asg 8 (.t 40),.asg 9 (.t 41)]]) c117_11) c117_12)
def c117_14:Cd:=(.seq (.reg [32,33,34,35] [.o [.mov 33 (.t 1),.slice 34 1 (.t 33) (some (cI 8)) none],.call none 35 108 [(.t 34)],.o [.asg 7 (.t 35)]]) c117_13)
def c117_15:Cd:=(.seq (.seq (.reg [6,18,19,20,21,29,30,31] [.o [.mov 29 (.t 6),.mov 30 (.t 1),.len 31 (.t 30),.bin 32 .eql (.t 29) (.t 31)]]) c117_8) c117_14)
def c117_16:Cd:=(.seq (.block 0 (.loop c117_6)) c117_15)
def c117_17:Cd:=(.seq (.label 0) c117_16)
def c117_18:Cd:=(.seq (.reg [17] [.o [.asg 6 (cI 0)]]) c117_17)
def c117_19:Cd:=(.scope (.seq (.seq (.reg [10,11,12,13,14,15,16] [.o [.mov 10 (.t 0)],.call none 11 152 [(.t 10)],.o [.un 12 .not (.t 11),.mov 13 (.t 12)],.g 13 false [.mov 14 (.t 1),.len 15 (.t 14),.bin 16 .neq (.t 15) (cI 24)],.o [.pick 17 (.t 13) (cB true) (.t 16)]]) c117_1) c117_18))
def fi117:FI:=⟨47,2,[.t 4,.t 5],(.seq (.reg [4,5] [.o [.asg 4 (.c (.sl true () 1 0 [])),.asg 5 (cI 0)]]) c117_19)⟩
theorem ok117:fiOk Try.prog 117 fi117:=⟨_,_,Try.func117,rfl,by kernel_rfl,by kernel_rfl,Try.call117⟩
def c118_0:Cd:=(.seq (.reg [1,5,6,10,11,12,8,18] [.o [.asg 4 (cB true)]]) .ret)
def c118_1:Cd:=(.cond (.t 18) c118_0 .skip)
def c118_2:Cd:=(.reg [23] [.o [.asg 5 (cB true)]])
def c118_3:Cd:=(.cond (.t 23) c118_2 .skip)
def c118_4:Cd:=(.cond (.t 29) (.exit 1) .skip)
def c118_5:Cd:=(.reg [29] [.o [.asg 6 (cB true)]])
def c118_6:Cd:=(.seq (.seq (.draw [[],[0],[],[2],[1,3],[4]] [8,23,24,25,26,27,28] [.o [.mov 24 (.t 8),.slice 25 1 (.t 24) (some (cI 4)) none,.mov 26 (.t 1),.slice 27 1 (.t 26) (some (cI 4)) none],.call none 28 102 [(.t 25),(.t 27)],.o [.un 29 .not (.t 28)]]) c118_4) c118_5)
def c118_7:Cd:=(.seq (.seq (.draw [[],[0],[],[2],[1,3]] [18,19,20,21,22] [.o [.mov 19 (.t 8),.slice 20 1 (.t 19) none (some (cI 4)),.mov 21 (.t 1),.slice 22 1 (.t 21) none (some (cI 4))],.call none 23 102 [(.t 20),(.t 22)]]) c118_3) c118_6)
def c118_8:Cd:=(.seq (.seq (.reg [16,17] [.o [.mov 16 (.t 8),.mov 17 (.t 1)],.call none 18 102 [(.t 16),(.t 17)]]) c118_1) c118_7)
def c118_9:Cd:=(.reg [30] [.o [.bin 30 .add (.t 12) (cI 1),.mov 12 (.t 30)]])
def c118_10:Cd:=(.seq (.block 1 (.seq (.reg [13,14,15] [.o [.iaddr 14 1 (.t 10) (.t 12),.ld 15 1 false (.t 14),.asg 8 (.t 15)]]) c118_8)) c118_9)
def c118_11:Cd:=(.seq (.cond (.t 13) .skip (.exit 0)) c118_10)
def c118_12:Cd:=(.seq (.reg [] [.o [.bin 13 .lss (.t 12) (.t 11)]]) c118_11)
def c118_13:Cd:=(.block 0 (.loop c118_12))
def c118_14:Cd:=(.seq (.reg [1,5,6,10,11,12,13,31,32,33,34] [.o [.mov 31 (.t 5),.mov 32 (.t 31)],.g 32 true [.mov 33 (.t 6)],.o [.pick 34 (.t 32) (.t 33) (cB false),.asg 4 (.t 34)]]) .ret)
def c118_15:Cd:=(.seq (.seq (.reg [2,9] [.o [.faddr 9 0 (.t 2),.ld 10 1 false (.t 9),.len 11 (.t 10),.mov 12 (cI 0)]]) c118_13) c118_14)
def c118_16:Cd:=(.seq (.label 0) c118_15)
def c118_17:Cd:=(.scope (.seq (.reg [] [.o [.asg 5 (cB false),.asg 6 (cB false)]]) c118_16))
def fi118:FI:=⟨35,2,[.t 4],(.seq (.reg [0,4] [.o [.box 2 (.t 0),.asg 4 (cB false)]]) c118_17)⟩
theorem ok118:fiOk Try.prog 118 fi118:=⟨_,_,Try.func118,rfl,by kernel_rfl,by kernel_rfl,Try.call118⟩
def c119_0:Cd:=(.seq (.reg [0,1,2,3,11,12,13,36,37,38] [.o [.mov 37 (.t 11),.bin 38 .eql (.t 37) (cI 0),.asg 10 (.t 38)]]) .ret)
def c119_1:Cd:=(.cond (.t 36) c119_0 .skip)
def c119_2:Cd:=(.cond (.t 47) .skip (.exit 0))
def c119_3:Cd:=(.reg [103] [.o [.asg 16 (cB true)]])
def c119_4:Cd:=(.cond (.t 103) c119_3 .skip)
def c119_5:Cd:=(.draw [[],[0],[1],[2,1],[1],[3,4,1],[5,1],[6,1],[1],[8,1],[7,9,1],[1,10],[11,1,0,1,2,3,4,5,6,7,8,9,10,11]] [131,132,133,134,135,136,137,138,139,140,141,142] [.o [.mov 131 (.t 18),.mov 132 (.t 131)],.g 132 false [.faddr 133 1 (.t 14),.ld 134 1 false (.t 133),.mov 135 (.t 3),.iaddr 136 1 (.t 134) (.t 135),.ld 137 1 false (.t 136),.ssl 138 (.t 137) (some (cI 4)) none,.mov 139 (.t 12),.ssl 140 (.t 139) (some (cI 4)) none,.bin 141 .eql (.t 138) (.t 140)],.o [.pick 142 (.t 132) (cB true) (.t 141),.asg 18 (.t 142)]])
def c119_6:Cd:=(.seq (.draw [[],[0],[1],[2,1],[1],[3,4,1],[5,1],[6,1],[1],[8,1],[7,9,1],[1,10],[11,1,0,1,2,3,4,5,6,7,8,9,10,11]] [118,119,120,121,122,123,124,125,126,127,128,129,130] [.o [.mov 119 (.t 17),.mov 120 (.t 119)],.g 120 false [.faddr 121 1 (.t 14),.ld 122 1 false (.t 121),.mov 123 (.t 3),.iaddr 124 1 (.t 122) (.t 123),.ld 125 1 false (.t 124),.ssl 126 (.t 125) none (some (cI 4)),.mov 127 (.t 12),.ssl 128 (.t 127) none (some (cI 4)),.bin 129 .eql (.t 126) (.t 128)],.o [.pick 130 (.t 120) (cB true) (.t 129),.asg 17 (.t 130)]]) c119_5)
def c119_7:Cd:=(.cond (.t 118) c119_6 .skip)
def c119_8:Cd:=(.seq (.reg [20,103,104,105,106,107,108,109,110,111,112,113,114,115,116,117] [.o [.faddr 104 12 (.t 20),.ld 105 1 false (.t 104),.mov 106 (.t 11),.bin 107 .geq (.t 105) (.t 106),.mov 108 (.t 107)],.g 108 true [.faddr 109 0 (.t 14),.ld 110 1 false (.t 109),.mov 111 (.t 3),.iaddr 112 1 (.t 110) (.t 111),.ld 113 1 false (.t 112)],.o [.pick 114 (.t 108) (.t 113) (cB false),.mov 115 (.t 114)],.g 115 true [.mov 116 (.t 13),.bin 117 .eql (.t 116) (cI 0)],.o [.pick 118 (.t 115) (.t 117) (cB false)]]) c119_7)
def c119_9:Cd:=(.seq (.seq (.reg [21,22,72,73,74,75,76,77,78,79,80,81,82,83,84,85,86,87,88,89,90,91,92,93,94,95,96,97,98,99,100,101,102] [.o [.faddr 72 12 (.t 20),.ld 73 1 false (.t 72),.mov 74 (.t 11),.bin 75 .gtr (.t 73) (.t 74),.mov 76 (.t 75)],.g 76 true [.faddr 77 1 (.t 20),.faddr 78 0 (.t 77),.ld 79 1 false (.t 78),.bin 80 .eql (.t 79) (cI 4),.mov 81 (.t 80)],.g 81 true [.mov 82 (.t 21),.mov 83 (.t 3),.bin 84 .eql (.t 82) (.t 83)],.g 76 true [.pick 85 (.t 81) (.t 84) (cB false),.mov 86 (.t 85)],.g 86 false [.faddr 87 1 (.t 20),.faddr 88 0 (.t 87),.ld 89 1 false (.t 88),.bin 90 .eql (.t 89) (cI 1),.mov 91 (.t 90)],.g 91 true [.mov 92 (.t 22),.un 93 .not (.t 92)],.g 86 false [.pick 94 (.t 91) (.t 93) (cB false),.mov 95 (.t 94)],.g 95 true [.faddr 96 0 (.t 14),.ld 97 1 false (.t 96),.mov 98 (.t 3),.iaddr 99 1 (.t 97) (.t 98),.ld 100 1 false (.t 99)],.g 86 false [.pick 101 (.t 95) (.t 100) (cB false)],.g 76 true [.pick 102 (.t 86) (cB true) (.t 101)],.o [.pick 103 (.t 76) (.t 102) (cB false)]]) c119_4) c119_8)
def c119_10:Cd:=(.seq (.reg [69,70,71] [.o [.ld 69 3 true (.t 14),.ld 70 14 true (.t 20)],.call none 71 115 [(.t 69),(.t 70)]]) c119_9)
def c119_11:Cd:=(.seq (.reg [64,65,66,67,68] [.o [.faddr 64 0 (.t 14),.ld 65 1 false (.t 64),.mov 66 (.t 3),.iaddr 67 1 (.t 65) (.t 66),.ld 68 1 false (.t 67),.asg 22 (.t 68)]]) c119_10)
def c119_12:Cd:=(.seq (.reg [57,58,59,60,61,62,63] [.o [.ld 57 3 true (.t 14),.faddr 58 0 (.t 20),.ld 59 1 false (.t 58),.faddr 60 1 (.t 20),.faddr 61 2 (.t 60),.ld 62 1 false (.t 61)],.call none 63 124 [(.t 57),(.t 59),(.t 62)],.o [.asg 21 (.t 63)]]) c119_11)
def c119_13:Cd:=(.reg [118,48,49] [.o [.mov 48 (.t 19),.bin 49 .add (.t 48) (cI 1),.asg 19 (.t 49)]])
def c119_14:Cd:=(.seq (.block 1 (.seq (.reg [47,50,51,52,53,54,55,56] [.o [.mov 50 (.t 0),.mov 51 (.t 15),.mov 52 (.t 19),.iaddr 53 1 (.t 51) (.t 52),.ld 54 1 false (.t 53),.iaddr 55 14 (.t 50) (.t 54),.ld 56 14 true (.t 55),.alloc 20 [(.sc (.int .i64 0)),(.sc (.int .i64 0)),(.sc (.int .i64 0)),(.sc (.int .i64 0)),(.sc (.int .i64 0)),(.sc (.int .i64 0)),(.sl true () 1 0 []),(.sc (.int .i64 0)),(.sc (.int .i64 0)),(.sc (.int .i64 0)),(.sl true () 1 0 []),(.sc (.int .i64 0)),(.sc (.int .i64 0)),(.sc (.int .i64 0))],.st 14 (.t 20) (.t 56)]]) c119_12)) c119_13)
def c119_15:Cd:=(.seq (.seq (.reg [44,45,46] [.o [.mov 44 (.t 19),.mov 45 (.t 15),.len 46 (.t 45),.bin 47 .lss (.t 44) (.t 46)]]) c119_2) c119_14)
def c119_16:Cd:=(.block 0 (.loop c119_15))
def c119_17:Cd:=(.cond (.t 146) .skip (.exit 2))
def c119_18:Cd:=(.reg [188] [.o [.asg 16 (cB true)]])
def c119_19:Cd:=(.cond (.t 188) c119_18 .skip)
def c119_20:Cd:=(.reg [188,147,148] [.o [.mov 147 (.t 23),.bin 148 .add (.t 147) (cI 1),.asg 23 (.t 148)]])
def c119_21:Cd:=(.seq (.block 3 (.seq (.draw [[],[],[0,1],[2],[3],[4],[5],[6],[6],[7,8,6],[9,6],[10,6],[11,6],[6,12],[13,6],[14],[14],[15,16,14],[17,14],[18,14],[19,14],[20,14],[14,21],[22,14],[23],[23],[23],[25,26,23],[27,23],[28,23],[23],[23],[30,31,23],[32,23],[33,23],[34,23],[24,29,35,23,23],[23],[36,37,23],[23,38]] [146,149,150,151,152,153,154,155,156,157,158,159,160,161,162,163,164,165,166,167,168,169,170,171,172,173,174,175,176,177,178,179,180,181,182,183,184,185,186,187] [.o [.mov 149 (.t 0),.mov 150 (.t 23),.iaddr 151 14 (.t 149) (.t 150),.faddr 152 12 (.t 151),.ld 153 1 false (.t 152),.bin 154 .eql (.t 153) (cI 0),.mov 155 (.t 154)],.g 155 true [.mov 156 (.t 0),.mov 157 (.t 23),.iaddr 158 14 (.t 156) (.t 157),.faddr 159 13 (.t 158),.ld 160 1 false (.t 159),.bin 161 .eql (.t 160) (cI 0)],.o [.pick 162 (.t 155) (.t 161) (cB false),.mov 163 (.t 162)],.g 163 true [.mov 164 (.t 0),.mov 165 (.t 23),.iaddr 166 14 (.t 164) (.t 165),.faddr 167 1 (.t 166),.faddr 168 0 (.t 167),.ld 169 1 false (.t 168),.bin 170 .eql (.t 169) (cI 4)],.o [.pick 171 (.t 163) (.t 170) (cB false),.mov 172 (.t 171)],.g 172 true [.ld 173 3 true (.t 14),.mov 174 (.t 0),.mov 175 (.t 23),.iaddr 176 14 (.t 174) (.t 175),.faddr 177 0 (.t 176),.ld 178 1 false (.t 177),.mov 179 (.t 0),.mov 180 (.t 23),.iaddr 181 14 (.t 179) (.t 180),.faddr 182 1 (.t 181),.faddr 183 2 (.t 182),.ld 184 1 false (.t 183)],.call (some (172,true)) 185 124 [(.t 173),(.t 178),(.t 184)],.g 172 true [.mov 186 (.t 3),.bin 187 .eql (.t 185) (.t 186)],.o [.pick 188 (.t 172) (.t 187) (cB false)]]) c119_19)) c119_20)
def c119_22:Cd:=(.seq (.seq (.reg [143,144,145] [.o [.mov 143 (.t 23),.mov 144 (.t 0),.len 145 (.t 144),.bin 146 .lss (.t 143) (.t 145)]]) c119_17) c119_21)
def c119_23:Cd:=(.block 2 (.loop c119_22))
def c119_24:Cd:=(.seq (.reg [13,16,17,18,190,191] [.o [.mov 191 (.t 16),.asg 10 (.t 191)]]) .ret)
def c119_25:Cd:=(.cond (.t 190) c119_24 .skip)
def c119_26:Cd:=(.seq (.reg [13,16,17,18,190,192,193,194,195,196,197,198,199] [.o [.mov 192 (.t 13),.bin 193 .eql (.t 192) (cI 0),.mov 194 (.t 193)],.g 194 true [.mov 195 (.t 17)],.o [.pick 196 (.t 194) (.t 195) (cB false),.mov 197 (.t 196)],.g 197 true [.mov 198 (.t 18)],.o [.pick 199 (.t 197) (.t 198) (cB false),.asg 10 (.t 199)]]) .ret)
def c119_27:Cd:=(.seq (.seq (.reg [0,3,14,23,143,144,145,146,189] [.o [.mov 189 (.t 13),.bin 190 .eql (.t 189) (cI 10)]]) c119_25) c119_26)
def c119_28:Cd:=(.seq (.seq (.reg [11,12,15,19,44,45,46,47] [.o [.asg 23 (cI 0)]]) c119_23) c119_27)
def c119_29:Cd:=(.seq (.seq (.reg [] [.o [.asg 19 (cI 0)]]) c119_16) c119_28)
def c119_30:Cd:=(.seq (.reg [] [.o [.asg 16 (cB false),.asg 17 (cB false),.asg 18 (cB false)]]) c119_29)
def c119_31:Cd:=(.seq (.reg [42,43] [.o [.mov 42 (.t 0)],.call none 43 34 [(.t 42)],.o [.asg 15 (.t 43)]]) c119_30)
def c119_32:Cd:=(.seq (.reg [1,2,36,39,40,41] [.o [.mov 39 (.t 1),.mov 40 (.t 2)],.call none 41 76 [(.t 39),(.t 40)],.o [.alloc 14 [(.sl true () 1 0 []),(.sl true () 1 0 []),(.sl true () 1 0 [])],.st 3 (.t 14) (.t 41)]]) c119_31)
def c119_33:Cd:=(.seq (.seq (.reg [35] [.o [.mov 35 (.t 13),.bin 36 .eql (.t 35) (cI 11)]]) c119_1) c119_32)
def c119_34:Cd:=(.seq (.reg [4,30,31,32,29,33,34] [.o [.mov 30 (.t 3),.mov 31 (.t 4)],.call none 32 156 [(.t 30),(.t 31)],.o [.mov 29 (.t 32),.ext 33 29 0,.ext 34 29 1,.asg 12 (.t 33),.asg 13 (.t 34)]]) c119_33)
def c119_35:Cd:=(.seq (.reg [24,25,26,27,28] [.o [.mov 24 (.t 0),.mov 25 (.t 1),.mov 26 (.t 2),.mov 27 (.t 3)],.call none 28 68 [(.t 24),(.t 25),(.t 26),(.t 27)],.o [.asg 11 (.t 28)]]) c119_34)
def fi119:FI:=⟨200,5,[.t 10],(.seq (.reg [10] [.o [.asg 10 (cB false)]]) c119_35)⟩
theorem ok119:fiOk Try.prog 119 fi119:=⟨_,_,Try.func119,rfl,by kernel_rfl,by kernel_rfl,Try.call119⟩
def c120_0:Cd:=(.cond (.t 9) .skip (.exit 0))
def c120_1:Cd:=(.reg [10,11] [.o [.mov 10 (.t 6),.bin 11 .add (.t 10) (cI 1),.asg 6 (.t 11)]])
def c120_2:Cd:=(.seq (.block 1 (.reg [9,12,13,14,15,16,17,18,19,20] [.o [.mov 12 (.t 5),.mov 13 (.t 0),.mov 14 (.t 6),.bin 15 .mul (cI 8) (.t 14),.conv 16 .u64 (.t 15),.bin 17 .shr (.t 13) (.t 16),.conv 18 .u8 (.t 17),.bs1 19 1 (.t 18),.app 20 1 1 (.t 12) (.t 19),.asg 5 (.t 20)]])) c120_1)
def c120_3:Cd:=(.seq (.seq (.reg [7,8] [.o [.mov 7 (.t 6),.mov 8 (.t 1),.bin 9 .lss (.t 7) (.t 8)]]) c120_0) c120_2)
def c120_4:Cd:=(.block 0 (.loop c120_3))
def c120_5:Cd:=(.seq (.reg [0,1,5,6,7,8,9,21,22] [.o [.mov 21 (.t 5),.b2s 22 (.t 21),.asg 4 (.t 22)]]) .ret)
def c120_6:Cd:=(.seq (.seq (.reg [] [.o [.asg 6 (cI 0)]]) c120_4) c120_5)
def c120_7:Cd:=(.seq (.reg [] [.o [.asg 5 (.c (.sl true () 1 0 []))]]) c120_6)
def fi120:FI:=⟨23,2,[.t 4],(.seq (.reg [4] [.o [.asg 4 (.c (.sc (.string ⟨#[]⟩)))]]) c120_7)⟩
theorem ok120:fiOk Try.prog 120 fi120:=⟨_,_,Try.func120,rfl,by kernel_rfl,by kernel_rfl,Try.call120⟩
def c121_0:Cd:=(.seq (.reg [0,3,4,5] [.o [.mov 3 (.t 0)],.call none 4 157 [(.c (.sc (.int .u32 4294967295))),(.t 3)],.o [.un 5 .xor (.t 4),.asg 2 (.t 5)]]) .ret)
def fi121:FI:=⟨6,1,[.t 2],(.seq (.reg [2] [.o [.asg 2 (.c (.sc (.int .u32 0)))]]) c121_0)⟩
theorem ok121:fiOk Try.prog 121 fi121:=⟨_,_,Try.func121,rfl,by kernel_rfl,by kernel_rfl,Try.call121⟩
def c152_0:Cd:=(.seq (.reg [0,3,4,5,6,7,8] [.o [.mov 3 (.t 0),.bin 4 .geq (.t 3) (cI 0),.mov 5 (.t 4)],.g 5 true [.mov 6 (.t 0),.bin 7 .lss (.t 6) (cI 48)],.o [.pick 8 (.t 5) (.t 7) (cB false),.asg 2 (.t 8)]]) .ret)
def fi152:FI:=⟨9,1,[.t 2],(.seq (.reg [2] [.o [.asg 2 (cB false)]]) c152_0)⟩
theorem ok152:fiOk Try.prog 152 fi152:=⟨_,_,Try.func152,rfl,by kernel_rfl,by kernel_rfl,Try.call152⟩
def c153_0:Cd:=(.seq (.reg [0,3,4,5] [.o [.mov 3 (.t 0)],.call none 4 171 [(.c (.sc (.int .u32 4294967295))),(.t 3)],.o [.un 5 .xor (.t 4),.asg 2 (.t 5)]]) .ret)
def fi153:FI:=⟨6,1,[.t 2],(.seq (.reg [2] [.o [.asg 2 (.c (.sc (.int .u32 0)))]]) c153_0)⟩
theorem ok153:fiOk Try.prog 153 fi153:=⟨_,_,Try.func153,rfl,by kernel_rfl,by kernel_rfl,Try.call153⟩
def c154_0:Cd:=(.draw [[],[0],[],[2],[],[3,4],[5],[6],[7],[1,8,7],[0,1,2,3,4,5,6,7,8,9],[10,9,9,0,1,2,3,4,5,6,7,8,9]] [25,26,27,28,29,30,31,32,33,34,35,36] [.o [.faddr 26 0 (.t 5),.ld 27 1 false (.t 26),.faddr 28 1 (.t 8),.ld 29 1 false (.t 28),.ld 30 1 false (.t 4),.iaddr 31 1 (.t 29) (.t 30),.ld 32 1 false (.t 31)],.call none 33 108 [(.t 32)],.o [.bs1 34 1 (.t 33),.app 35 1 24 (.t 27) (.t 34),.faddr 36 0 (.t 5),.st 1 (.t 36) (.t 35)]])
def c154_1:Cd:=(.cond (.t 25) c154_0 .skip)
def c154_2:Cd:=(.reg [6,4,8,70,71,72,73,74] [.o [.faddr 70 0 (.t 8),.ld 71 1 false (.t 70),.ld 72 1 false (.t 4),.iaddr 73 1 (.t 71) (.t 72),.ld 74 1 false (.t 73),.st 1 (.t 6) (.t 74)]])
def c154_3:Cd:=(.seq (.reg [5,3,9,10,52,53,54,55,56,57,58,59,60,61,62,63,64,65,66,67,68,69] [.o [.faddr 52 1 (.t 5),.ld 53 1 false (.t 52),.mov 54 (.t 53)],.g 54 false [.faddr 55 12 (.t 9),.ld 56 1 false (.t 55),.ld 57 1 false (.t 3),.bin 58 .gtr (.t 56) (.t 57),.mov 59 (.t 58)],.g 59 true [.mov 60 (.t 10),.mov 61 (.t 60)],.g 61 false [.ld 62 14 true (.t 9),.ld 63 3 true (.t 8),.ld 64 1 false (.t 4)],.call (some (61,false)) 65 155 [(.t 62),(.t 63),(.t 64)],.g 59 true [.pick 66 (.t 61) (cB true) (.t 65)],.g 54 false [.pick 67 (.t 59) (.t 66) (cB false)],.o [.pick 68 (.t 54) (cB true) (.t 67),.faddr 69 1 (.t 5),.st 1 (.t 69) (.t 68)]]) c154_2)
def c154_4:Cd:=(.seq (.reg [25,37,38,39,40,41,42,43,44,45,46,47,48,49,50,51] [.o [.faddr 37 1 (.t 9),.faddr 38 0 (.t 37),.ld 39 1 false (.t 38),.bin 40 .eql (.t 39) (cI 1),.mov 41 (.t 40)],.g 41 true [.faddr 42 0 (.t 8),.ld 43 1 false (.t 42),.ld 44 1 false (.t 4),.iaddr 45 1 (.t 43) (.t 44),.ld 46 1 false (.t 45)],.o [.pick 47 (.t 41) (.t 46) (cB false),.mov 48 (.t 47)],.g 48 true [.ld 49 1 false (.t 6),.un 50 .not (.t 49)],.o [.pick 51 (.t 48) (.t 50) (cB false),.asg 10 (.t 51)]]) c154_3)
def c154_5:Cd:=(.seq (.seq (.reg [15,16,17,18,19,20,21,22,23,24] [.o [.faddr 15 12 (.t 9),.ld 16 1 false (.t 15),.ld 17 1 false (.t 3),.bin 18 .geq (.t 16) (.t 17),.mov 19 (.t 18)],.g 19 true [.faddr 20 0 (.t 8),.ld 21 1 false (.t 20),.ld 22 1 false (.t 4),.iaddr 23 1 (.t 21) (.t 22),.ld 24 1 false (.t 23)],.o [.pick 25 (.t 19) (.t 24) (cB false)]]) c154_1) c154_4)
def c154_6:Cd:=(.seq (.reg [0,2,11,12,13,14] [.o [.ld 11 1 false (.t 2),.mov 12 (.t 0),.iaddr 13 14 (.t 11) (.t 12),.ld 14 14 true (.t 13),.alloc 9 [(.sc (.int .i64 0)),(.sc (.int .i64 0)),(.sc (.int .i64 0)),(.sc (.int .i64 0)),(.sc (.int .i64 0)),(.sc (.int .i64 0)),(.sl true () 1 0 []),(.sc (.int .i64 0)),(.sc (.int .i64 0)),(.sc (.int .i64 0)),(.sl true () 1 0 []),(.sc (.int .i64 0)),(.sc (.int .i64 0)),(.sc (.int .i64 0))],.st 14 (.t 9) (.t 14)]]) c154_5)
def fi154:FI:=⟨75,7,[],(.seq (.reg [1] [.o [.box 8 (.t 1)]]) c154_6)⟩
theorem ok154:fiOk Try.prog 154 fi154:=⟨_,_,Try.func154,rfl,by kernel_rfl,by kernel_rfl,Try.call154⟩
def c155_0:Cd:=(.seq (.reg [2,3,4,7,11,12,13,14,15,16,17,18,19,20,21,22,23,24,25,26,27,28,29,30,31,32,33,34,35] [.o [.faddr 11 1 (.t 3),.faddr 12 0 (.t 11),.ld 13 1 false (.t 12),.bin 14 .eql (.t 13) (cI 4),.mov 15 (.t 14)],.g 15 true [.mov 16 (.t 7),.bin 17 .geq (.t 16) (cI 0)],.o [.pick 18 (.t 15) (.t 17) (cB false),.mov 19 (.t 18)],.g 19 true [.mov 20 (.t 7),.bin 21 .lss (.t 20) (cI 6)],.o [.pick 22 (.t 19) (.t 21) (cB false),.mov 23 (.t 22)],.g 23 true [.faddr 24 2 (.t 4),.ld 25 1 false (.t 24),.faddr 26 0 (.t 3),.ld 27 1 false (.t 26),.iaddr 28 1 (.t 25) (.t 27),.ld 29 1 false (.t 28),.mov 30 (.t 7),.iaddr 31 1 (.t 29) (.t 30),.ld 32 1 false (.t 31),.mov 33 (.t 2),.bin 34 .eql (.t 32) (.t 33)],.o [.pick 35 (.t 23) (.t 34) (cB false),.asg 6 (.t 35)]]) .ret)
def c155_1:Cd:=(.seq (.reg [8,9,10] [.o [.faddr 8 1 (.t 3),.faddr 9 2 (.t 8),.ld 10 1 false (.t 9),.asg 7 (.t 10)]]) c155_0)
def fi155:FI:=⟨36,3,[.t 6],(.seq (.reg [0,1,6] [.o [.box 3 (.t 0),.box 4 (.t 1),.asg 6 (cB false)]]) c155_1)⟩
theorem ok155:fiOk Try.prog 155 fi155:=⟨_,_,Try.func155,rfl,by kernel_rfl,by kernel_rfl,Try.call155⟩
def c156_0:Cd:=(.seq (.reg [0,1,18] [.o [.asg 4 (.c (.sc (.string ⟨#[]⟩))),.asg 5 (cI 1)]]) .ret)
def c156_1:Cd:=(.cond (.t 18) c156_0 .skip)
def c156_2:Cd:=(.seq (.reg [0,1,21] [.o [.asg 4 (.c (.sc (.string ⟨#[]⟩))),.asg 5 (cI 11)]]) .ret)
def c156_3:Cd:=(.cond (.t 21) c156_2 .skip)
def c156_4:Cd:=(.seq (.reg [1,31] [.o [.asg 4 (.c (.sc (.string ⟨#[]⟩))),.asg 5 (cI 10)]]) .ret)
def c156_5:Cd:=(.cond (.t 31) c156_4 .skip)
def c156_6:Cd:=(.seq (.reg [1,31,32,33] [.o [.mov 32 (.t 1),.ssl 33 (.t 32) (some (cI 8)) none,.asg 4 (.t 33),.asg 5 (cI 0)]]) .ret)
def c156_7:Cd:=(.seq (.seq (.reg [6,29,30] [.o [.mov 29 (.t 6),.mov 30 (.t 1),.bin 31 .neq (.t 29) (.t 30)]]) c156_5) c156_6)
def c156_8:Cd:=(.seq (.reg [0,21,23,24,25,26,22,27,28,7] [.o [.mov 23 (.t 0),.mov 24 (.t 1),.ssl 25 (.t 24) (some (cI 8)) none],.call none 26 73 [(.t 23),(.t 25)],.o [.mov 22 (.t 26),.ext 27 22 0,.ext 28 22 1,.asg 6 (.t 27),.asg 7 (.t 28)]]) c156_7)
def c156_9:Cd:=(.seq (.seq (.reg [18,19,20] [.o [.mov 19 (.t 1)],.call none 20 74 [],.o [.bin 21 .eql (.t 19) (.t 20)]]) c156_3) c156_8)
def c156_10:Cd:=(.seq (.seq (.reg [8,9,10,11,12,13,14,15,16,17] [.o [.mov 8 (.t 0),.bin 9 .lss (.t 8) (cI 0),.mov 10 (.t 9)],.g 10 false [.mov 11 (.t 0),.bin 12 .geq (.t 11) (cI 48)],.o [.pick 13 (.t 10) (cB true) (.t 12),.mov 14 (.t 13)],.g 14 false [.mov 15 (.t 1),.slen 16 (.t 15),.bin 17 .neq (.t 16) (cI 24)],.o [.pick 18 (.t 14) (cB true) (.t 17)]]) c156_1) c156_9)
def fi156:FI:=⟨34,2,[.t 4,.t 5],(.seq (.reg [4,5] [.o [.asg 4 (.c (.sc (.string ⟨#[]⟩))),.asg 5 (cI 0)]]) c156_10)⟩
theorem ok156:fiOk Try.prog 156 fi156:=⟨_,_,Try.func156,rfl,by kernel_rfl,by kernel_rfl,Try.call156⟩
def c157_0:Cd:=(.cond (.t 9) .skip (.exit 0))
def c157_1:Cd:=(.reg [10,11] [.o [.mov 10 (.t 5),.bin 11 .add (.t 10) (cI 1),.asg 5 (.t 11)]])
def c157_2:Cd:=(.seq (.block 1 (.reg [9,12,13,14,15,16] [.o [.mov 12 (.t 0),.mov 13 (.t 1),.mov 14 (.t 5),.six 15 (.t 13) (.t 14)],.call none 16 172 [(.t 12),(.t 15)],.o [.asg 0 (.t 16)]])) c157_1)
def c157_3:Cd:=(.seq (.seq (.reg [6,7,8] [.o [.mov 6 (.t 5),.mov 7 (.t 1),.slen 8 (.t 7),.bin 9 .lss (.t 6) (.t 8)]]) c157_0) c157_2)
def c157_4:Cd:=(.block 0 (.loop c157_3))
def c157_5:Cd:=(.seq (.reg [0,1,5,6,7,8,9,17] [.o [.mov 17 (.t 0),.asg 4 (.t 17)]]) .ret)
def c157_6:Cd:=(.seq (.seq (.reg [] [.o [.asg 5 (cI 0)]]) c157_4) c157_5)
def fi157:FI:=⟨18,2,[.t 4],(.seq (.reg [4] [.o [.asg 4 (.c (.sc (.int .u32 0)))]]) c157_6)⟩
theorem ok157:fiOk Try.prog 157 fi157:=⟨_,_,Try.func157,rfl,by kernel_rfl,by kernel_rfl,Try.call157⟩
def c171_0:Cd:=(.reg [6,13,14,15] [.o [.mov 13 (.t 0),.mov 14 (.t 6)],.call none 15 185 [(.t 13),(.t 14)],.o [.asg 0 (.t 15)]])
def c171_1:Cd:=(.reg [16] [.o [.bin 16 .add (.t 9) (cI 1),.mov 9 (.t 16)]])
def c171_2:Cd:=(.seq (.block 1 (.seq (.reg [10,11,12] [.o [.iaddr 11 1 (.t 7) (.t 9),.ld 12 1 false (.t 11),.asg 6 (.t 12)]]) c171_0)) c171_1)
def c171_3:Cd:=(.seq (.cond (.t 10) .skip (.exit 0)) c171_2)
def c171_4:Cd:=(.seq (.reg [] [.o [.bin 10 .lss (.t 9) (.t 8)]]) c171_3)
def c171_5:Cd:=(.block 0 (.loop c171_4))
def c171_6:Cd:=(.seq (.reg [0,7,8,9,10,17] [.o [.mov 17 (.t 0),.asg 4 (.t 17)]]) .ret)
def c171_7:Cd:=(.seq (.seq (.reg [1] [.o [.mov 7 (.t 1),.len 8 (.t 7),.mov 9 (cI 0)]]) c171_5) c171_6)
def fi171:FI:=⟨18,2,[.t 4],(.seq (.reg [4] [.o [.asg 4 (.c (.sc (.int .u32 0)))]]) c171_7)⟩
theorem ok171:fiOk Try.prog 171 fi171:=⟨_,_,Try.func171,rfl,by kernel_rfl,by kernel_rfl,Try.call171⟩
def c172_0:Cd:=(.cond (.t 12) .skip (.exit 0))
def c172_1:Cd:=(.reg [20,21,22] [.o [.mov 21 (.t 0),.bin 22 .xor (.t 21) (.c (.sc (.int .u32 2748603157))),.asg 0 (.t 22)]])
def c172_2:Cd:=(.cond (.t 20) c172_1 .skip)
def c172_3:Cd:=(.seq (.reg [6,19] [.o [.mov 19 (.t 6),.bin 20 .eql (.t 19) (.c (.sc (.int .u32 1)))]]) c172_2)
def c172_4:Cd:=(.seq (.reg [17,18] [.o [.mov 17 (.t 0),.bin 18 .shr (.t 17) (.c (.sc (.int .u64 1))),.asg 0 (.t 18)]]) c172_3)
def c172_5:Cd:=(.reg [20,13,14] [.o [.mov 13 (.t 5),.bin 14 .add (.t 13) (cI 1),.asg 5 (.t 14)]])
def c172_6:Cd:=(.seq (.block 1 (.seq (.reg [12,15,16] [.o [.mov 15 (.t 0),.bin 16 .and (.t 15) (.c (.sc (.int .u32 1))),.asg 6 (.t 16)]]) c172_4)) c172_5)
def c172_7:Cd:=(.seq (.seq (.reg [11] [.o [.mov 11 (.t 5),.bin 12 .lss (.t 11) (cI 8)]]) c172_0) c172_6)
def c172_8:Cd:=(.block 0 (.loop c172_7))
def c172_9:Cd:=(.seq (.reg [0,5,11,12,23] [.o [.mov 23 (.t 0),.asg 4 (.t 23)]]) .ret)
def c172_10:Cd:=(.seq (.seq (.reg [] [.o [.asg 5 (cI 0)]]) c172_8) c172_9)
def c172_11:Cd:=(.seq (.reg [1,7,8,9,10] [.o [.mov 7 (.t 0),.mov 8 (.t 1),.conv 9 .u32 (.t 8),.bin 10 .xor (.t 7) (.t 9),.asg 0 (.t 10)]]) c172_10)
def fi172:FI:=⟨24,2,[.t 4],(.seq (.reg [4] [.o [.asg 4 (.c (.sc (.int .u32 0)))]]) c172_11)⟩
theorem ok172:fiOk Try.prog 172 fi172:=⟨_,_,Try.func172,rfl,by kernel_rfl,by kernel_rfl,Try.call172⟩
def c185_0:Cd:=(.cond (.t 12) .skip (.exit 0))
def c185_1:Cd:=(.cond (.t 21) (.exit 1) .skip)
def c185_2:Cd:=(.seq (.reg [6,20] [.o [.mov 20 (.t 6),.un 21 .not (.t 20)]]) c185_1)
def c185_3:Cd:=(.reg [21,22,23] [.o [.mov 22 (.t 0),.bin 23 .xor (.t 22) (.c (.sc (.int .u32 2748603157))),.asg 0 (.t 23)]])
def c185_4:Cd:=(.seq (.seq (.reg [18,19] [.o [.mov 18 (.t 0),.bin 19 .shr (.t 18) (.c (.sc (.int .u64 1))),.asg 0 (.t 19)]]) c185_2) c185_3)
def c185_5:Cd:=(.seq (.reg [15,16,17] [.o [.mov 15 (.t 0),.bin 16 .and (.t 15) (.c (.sc (.int .u32 1))),.bin 17 .eql (.t 16) (.c (.sc (.int .u32 1))),.asg 6 (.t 17)]]) c185_4)
def c185_6:Cd:=(.block 1 (.seq (.reg [12,13,14] [.o [.mov 13 (.t 5),.bin 14 .add (.t 13) (cI 1),.asg 5 (.t 14)]]) c185_5))
def c185_7:Cd:=(.seq (.seq (.reg [11] [.o [.mov 11 (.t 5),.bin 12 .lss (.t 11) (cI 8)]]) c185_0) c185_6)
def c185_8:Cd:=(.seq (.reg [0,5,11,12,24] [.o [.mov 24 (.t 0),.asg 4 (.t 24)]]) .ret)
def c185_9:Cd:=(.seq (.block 0 (.loop c185_7)) c185_8)
def c185_10:Cd:=(.seq (.label 0) c185_9)
def c185_11:Cd:=(.seq (.reg [] [.o [.asg 5 (cI 0)]]) c185_10)
def c185_12:Cd:=(.scope (.seq (.reg [1,7,8,9,10] [.o [.mov 7 (.t 0),.mov 8 (.t 1),.conv 9 .u32 (.t 8),.bin 10 .xor (.t 7) (.t 9),.asg 0 (.t 10)]]) c185_11))
def fi185:FI:=⟨25,2,[.t 4],(.seq (.reg [4] [.o [.asg 4 (.c (.sc (.int .u32 0)))]]) c185_12)⟩
theorem ok185:fiOk Try.prog 185 fi185:=⟨_,_,Try.func185,rfl,by kernel_rfl,by kernel_rfl,Try.call185⟩
end Go.OT
namespace Go.OT
open Go.Proofs
abbrev u32 (n:Int):AU:=.sc (.int .u32 n)
def xr32 (a b:Int):Int:=IntKind.u32.wrap (((a % 2 ^ IntKind.u32.bits).toNat ^^^ (b % 2 ^ IntKind.u32.bits).toNat:Nat):Int)
def low32 (a:Int):Int:=IntKind.u32.wrap (((a % 2 ^ IntKind.u32.bits).toNat &&& 1 % 2 ^ IntKind.u32.bits:Nat):Int)
def sh32 (a:Int):Int:=a.fdiv (2 ^ min 1 IntKind.u32.bits)
def bit1 (s:Int):Int:=if low32 s=1 then xr32 (sh32 s) 2748603157 else sh32 s
def bitN:Nat→Int→Int
 | 0,s=>s
 | k+1,s=>bit1 (bitN k s)
def turnF (s:Int)(c:UInt8):Int:=bitN 8 (xr32 s (IntKind.u32.wrap c.toNat))
def moreF (s:Int)(l:List UInt8):Int:=l.foldl turnF s
theorem turn_fn (s:Int)(c:UInt8):FnC Try.prog 185 [] [u32 s,u8 c.toNat] [] (u32 (turnF s c)):=by
 refine FnC.go ok185 rfl ?_
 refine WL.sreg (by simp;rfl) (by simp;rfl) ?_
 refine WL.scope (WL.sreg (by simp;rfl) (by simp;rfl) ?_)
 refine WL.sreg (by simp;rfl) (by simp;rfl) ?_
 refine WL.seq (WL.label ?_)
 refine WL.seq ?_
 refine WL.block (WL.count 8 (fun i=>[(0,0,u32 (bitN i (xr32 s (IntKind.u32.wrap c.toNat)))),(500,0,i64 i)]) (fun i=>True) rfl trivial fun i hi _=>?_)
 by_cases h:i < 8
 ·have h':(i:Int) < 8:=by omega
  have w:IntKind.wrap .i64 ((i:Int)+1)=((i+1:Nat):Int):=by rw[wrap_small (by omega) (by omega)];omega
  have e:bitN (i+1) (xr32 s (IntKind.u32.wrap c.toNat))=bit1 (bitN i (xr32 s (IntKind.u32.wrap c.toNat))):=rfl
  rw[e]
  generalize bitN i (xr32 s (IntKind.u32.wrap c.toNat))=t
  refine WL.seq (WL.sreg (by simp[h'];rfl) (by simp;rfl) ?_)
  refine WL.cond (t:=true) (by simp[h']) (fun _=>WL.skip ?_) (by simp)
  refine WL.block (WL.sreg (by simp[w];rfl) (by simp;rfl) ?_)
  by_cases q:low32 t=1
  ·have q':(IntKind.u32.wrap (((t % 2 ^ IntKind.u32.bits).toNat &&& 1 % 2 ^ IntKind.u32.bits:Nat):Int) == 1)=true:=by simpa [low32] using q
   refine WL.sreg (by simp[q'];rfl) (by simp;rfl) ?_
   refine WL.seq (WL.sreg (by simp;rfl) (by simp;rfl) ?_)
   refine WL.sreg (by simp[q'];rfl) (by simp;rfl) ?_
   refine WL.cond (t:=false) (by simp) (by simp) fun _=>WL.skip ?_
   refine WL.reg (RL.run (by simp;rfl) ⟨_,by simp;rfl,h,?_,trivial⟩)
   simp only[bit1,if_pos q]
   rfl
  ·have q':(IntKind.u32.wrap (((t % 2 ^ IntKind.u32.bits).toNat &&& 1 % 2 ^ IntKind.u32.bits:Nat):Int) == 1)=false:=beq_false_of_ne q
   refine WL.sreg (by simp[q'];rfl) (by simp;rfl) ?_
   refine WL.seq (WL.sreg (by simp;rfl) (by simp;rfl) ?_)
   refine WL.sreg (by simp[q'];rfl) (by simp;rfl) ?_
   refine WL.cond (t:=true) (by simp) (fun _=>WL.fin [21] (by simp;rfl) (WL.exit ⟨h,?_,trivial⟩)) (by simp)
   simp only[bit1,if_neg q]
   rfl
 ·obtain rfl:i=8:=by omega
  refine WL.seq (WL.sreg (by simp;rfl) (by simp;rfl) ?_)
  refine WL.cond (t:=false) (by simp) (by simp) fun _=>WL.exit ?_
  refine WL.sreg (by simp;rfl) (by simp;rfl) (WL.ret ⟨.inr rfl,?_⟩)
  simp[fi185,turnF]
theorem refturn_fn (s:Int)(c:UInt8):FnC Try.prog 172 [] [u32 s,u8 c.toNat] [] (u32 (turnF s c)):=by
 refine FnC.go ok172 rfl ?_
 refine WL.sreg (by simp;rfl) (by simp;rfl) ?_
 refine WL.sreg (by simp;rfl) (by simp;rfl) ?_
 refine WL.seq (WL.sreg (by simp;rfl) (by simp;rfl) ?_)
 refine WL.block (WL.count 8 (fun i=>[(0,0,u32 (bitN i (xr32 s (IntKind.u32.wrap c.toNat)))),(500,0,i64 i)]) (fun i=>True) rfl trivial fun i hi _=>?_)
 by_cases h:i < 8
 ·have h':(i:Int) < 8:=by omega
  have w:IntKind.wrap .i64 ((i:Int)+1)=((i+1:Nat):Int):=by rw[wrap_small (by omega) (by omega)];omega
  have e:bitN (i+1) (xr32 s (IntKind.u32.wrap c.toNat))=bit1 (bitN i (xr32 s (IntKind.u32.wrap c.toNat))):=rfl
  rw[e]
  generalize bitN i (xr32 s (IntKind.u32.wrap c.toNat))=t
  refine WL.seq (WL.sreg (by simp[h'];rfl) (by simp;rfl) ?_)
  refine WL.cond (t:=true) (by simp[h']) (fun _=>WL.skip ?_) (by simp)
  refine WL.seq (WL.block (WL.sreg (by simp;rfl) (by simp;rfl) ?_))
  refine WL.sreg (by simp;rfl) (by simp;rfl) ?_
  by_cases q:low32 t=1
  ·have q':(IntKind.u32.wrap (((t % 2 ^ IntKind.u32.bits).toNat &&& 1 % 2 ^ IntKind.u32.bits:Nat):Int) == 1)=true:=by simpa [low32] using q
   refine WL.sreg (by simp[q'];rfl) (by simp;rfl) ?_
   refine WL.cond (t:=true) (by simp) (fun _=>?_) (by simp)
   refine WL.reg (RL.run (by simp;rfl) ⟨_,by simp;rfl,?_⟩)
   refine WL.reg (RL.run (by simp[w];rfl) ⟨_,by simp;rfl,h,?_,trivial⟩)
   simp only[bit1,if_pos q]
   rfl
  ·have q':(IntKind.u32.wrap (((t % 2 ^ IntKind.u32.bits).toNat &&& 1 % 2 ^ IntKind.u32.bits:Nat):Int) == 1)=false:=beq_false_of_ne q
   refine WL.sreg (by simp[q'];rfl) (by simp;rfl) ?_
   refine WL.cond (t:=false) (by simp) (by simp) fun _=>WL.skip ?_
   refine WL.reg (RL.run (by simp[w];rfl) ⟨_,by simp;rfl,h,?_,trivial⟩)
   simp only[bit1,if_neg q]
   rfl
 ·obtain rfl:i=8:=by omega
  refine WL.seq (WL.sreg (by simp;rfl) (by simp;rfl) ?_)
  refine WL.cond (t:=false) (by simp) (by simp) fun _=>WL.exit ?_
  refine WL.sreg (by simp;rfl) (by simp;rfl) (WL.ret ⟨.inr rfl,?_⟩)
  simp[fi172,turnF]
end Go.OT
namespace Go.OT
open Go.Proofs
theorem moreF_succ (s:Int)(l:List UInt8){i:Nat}(h:i < l.length):moreF s (l.take (i+1))=turnF (moreF s (l.take i)) l[i]:=by
 unfold moreF;rw[List.take_succ_eq_append_getElem h,List.foldl_append];rfl
theorem more_fn (s:Int)(l:List UInt8)(hl:l.length≤1000000):FnC Try.prog 171 [] [u32 s,sU false l] [] (u32 (moreF s l)):=by
 refine FnC.go ok171 rfl ?_
 refine WL.sreg (by simp;rfl) (by simp;rfl) ?_
 refine WL.seq (WL.sreg (by simp;rfl) (by simp;rfl) ?_)
 refine WL.block (WL.count l.length (fun i=>[(0,0,u32 (moreF s (l.take i))),(700,0,sU false l),(800,0,i64 l.length),(900,0,i64 i)]) (fun i=>True) (by simp[moreF]) trivial fun i hi _=>?_)
 by_cases h:i < l.length
 ·have w:IntKind.wrap .i64 ((i:Int)+1)=((i+1:Nat):Int):=by rw[wrap_small (by omega) (by omega)];omega
  have e:=moreF_succ s l h
  rw[e]
  generalize moreF s (l.take i)=t
  have ht:=turn_fn t l[i]
  refine WL.sreg (by simp[h];rfl) (by simp;rfl) ?_
  refine WL.seq (WL.cond (t:=true) (by simp[h]) (fun _=>WL.skip ?_) (by simp))
  refine WL.seq (WL.block (WL.sreg (by simp[h];rfl) (by simp;rfl) ?_))
  refine WL.reg (RL.o (by simp[h];rfl) (RL.call0 false ht (by simp) (by simp) (RL.o (by simp;rfl) (RL.nil ⟨_,by simp;rfl,?_⟩))))
  refine WL.reg (RL.run (by simp[w];rfl) ⟨_,by simp;rfl,h,by simp,trivial⟩)
 ·obtain rfl:i=l.length:=by omega
  refine WL.sreg (by simp;rfl) (by simp;rfl) ?_
  refine WL.seq (WL.cond (t:=false) (by simp) (by simp) fun _=>WL.exit ?_)
  refine WL.sreg (by simp;rfl) (by simp;rfl) (WL.ret ⟨.inr rfl,?_⟩)
  simp[fi171]
theorem str_at (l:List UInt8){i:Nat}(h:i < l.length):(strOf l)[i]?=some l[i]:=by
 have hz:i < (strOf l).size:=by rw[strOf_size];exact h
 rw[getElem?_pos (strOf l) i hz]
 rfl
@[simp] theorem str_ix (l:List UInt8) {i:Nat} (hh:i < (strOf l).size):(strOf l)[i]'hh=l[i]'(by rw[strOf_size] at hh;exact hh):=rfl
theorem wrap_u64 {x:Int}(h:0≤x)(h':x < 18446744073709551616):IntKind.wrap .u64 x=x:=by
 show x % 18446744073709551616=x
 omega
theorem refmore_fn (s:Int)(l:List UInt8)(hl:l.length≤1000000):FnC Try.prog 157 [] [u32 s,str l] [] (u32 (moreF s l)):=by
 have hz:=strOf_size l
 refine FnC.go ok157 rfl ?_
 refine WL.sreg (by simp;rfl) (by simp;rfl) ?_
 refine WL.seq (WL.sreg (by simp;rfl) (by simp;rfl) ?_)
 refine WL.block (WL.count l.length (fun i=>[(0,0,u32 (moreF s (l.take i))),(100,0,str l),(500,0,i64 i)]) (fun i=>True) (by simp[moreF]) trivial fun i hi _=>?_)
 by_cases h:i < l.length
 ·have w:IntKind.wrap .i64 ((i:Int)+1)=((i+1:Nat):Int):=by rw[wrap_small (by omega) (by omega)];omega
  have e:=moreF_succ s l h
  have h2:=str_at l h
  rw[e]
  generalize moreF s (l.take i)=t
  have ht:=refturn_fn t l[i]
  refine WL.seq (WL.sreg (by simp[h,hz];rfl) (by simp;rfl) ?_)
  refine WL.cond (t:=true) (by simp[h,hz]) (fun _=>WL.skip ?_) (by simp)
  refine WL.seq (WL.block (WL.reg (RL.o (by simp[h,h2,hz];rfl) (RL.call0 false ht (by simp) (by simp) (RL.o (by simp;rfl) (RL.nil ⟨_,by simp;rfl,?_⟩))))))
  refine WL.reg (RL.run (by simp[w];rfl) ⟨_,by simp;rfl,h,by simp,trivial⟩)
 ·obtain rfl:i=l.length:=by omega
  refine WL.seq (WL.sreg (by simp[hz];rfl) (by simp;rfl) ?_)
  refine WL.cond (t:=false) (by simp) (by simp) fun _=>WL.exit ?_
  refine WL.sreg (by simp;rfl) (by simp;rfl) (WL.ret ⟨.inr rfl,?_⟩)
  simp[fi157]
def ofF (l:List UInt8):Int:=xr32 (if IntKind.u32.signed=true then -1 else IntKind.u32.max) (moreF 4294967295 l)
theorem of_fn (l:List UInt8)(hl:l.length≤1000000):FnC Try.prog 153 [] [sU false l] [] (u32 (ofF l)):=by
 refine FnC.go ok153 rfl ?_
 refine WL.sreg (by simp;rfl) (by simp;rfl) ?_
 refine WL.sregC (RL.o (by simp;rfl) (RL.call0 false (more_fn 4294967295 l hl) (by simp) (by simp) (RL.o (by simp;rfl) (RL.nil ⟨_,by simp;rfl,?_⟩))))
 refine WL.ret ⟨.inr rfl,?_⟩
 simp[fi153]
 rfl
theorem refof_fn (l:List UInt8)(hl:l.length≤1000000):FnC Try.prog 121 [] [str l] [] (u32 (ofF l)):=by
 refine FnC.go ok121 rfl ?_
 refine WL.sreg (by simp;rfl) (by simp;rfl) ?_
 refine WL.sregC (RL.o (by simp;rfl) (RL.call0 false (refmore_fn 4294967295 l hl) (by simp) (by simp) (RL.o (by simp;rfl) (RL.nil ⟨_,by simp;rfl,?_⟩))))
 refine WL.ret ⟨.inr rfl,?_⟩
 simp[fi121]
 rfl
def byteN (v:Int)(i:Nat):UInt8:=UInt8.ofNat ((v.fdiv (2 ^ min (8 * i) IntKind.u32.bits)) % 256).toNat
theorem byteN_eq (v:Int)(i:Nat):IntKind.wrap .u8 (v.fdiv (2 ^ min (8 * i) IntKind.u32.bits))=((byteN v i).toNat:Int):=by
 unfold byteN
 generalize v.fdiv (2 ^ min (8 * i) IntKind.u32.bits)=x
 have h0:0≤x % 256:=Int.emod_nonneg _ (by decide)
 have h1:x % 256 < 256:=Int.emod_lt_of_pos _ (by decide)
 have e:(UInt8.ofNat (x % 256).toNat).toNat=(x % 256).toNat:=by
  rw[UInt8.toNat_ofNat'];omega
 rw[e,Int.toNat_of_nonneg h0]
 rfl
def lowF (v:Int)(n:Nat):List UInt8:=(List.range n).map (byteN v)
theorem lowF_succ (v:Int)(n:Nat):lowF v (n+1)=lowF v n ++ [byteN v n]:=by simp[lowF,List.range_succ]
theorem lowF_len (v:Int)(n:Nat):(lowF v n).length=n:=by simp[lowF]
theorem low_fn (v:Int)(n:Nat)(hn:n≤8):FnC Try.prog 120 [] [u32 v,i64 n] [] (str (lowF v n)):=by
 refine FnC.go ok120 rfl ?_
 refine WL.sreg (by simp;rfl) (by simp;rfl) ?_
 refine WL.sreg (by simp;rfl) (by simp;rfl) ?_
 refine WL.seq (WL.sreg (by simp;rfl) (by simp;rfl) ?_)
 refine WL.block (WL.count n (fun i=>[(0,0,u32 v),(100,0,i64 n),(500,0,sU true (lowF v i)),(600,0,i64 i)]) (fun i=>True) (by simp[lowF]) trivial fun i hi _=>?_)
 by_cases h:i < n
 ·have h':(i:Int) < n:=by omega
  have w:IntKind.wrap .i64 ((i:Int)+1)=((i+1:Nat):Int):=by rw[wrap_small (by omega) (by omega)];omega
  have w8:IntKind.wrap .i64 (8 * (i:Int))=8 * (i:Int):=by rw[wrap_small (by omega) (by omega)]
  have wu:IntKind.wrap .u64 (8 * (i:Int))=8 * (i:Int):=wrap_u64 (by omega) (by omega)
  have n0:¬ 8 * (i:Int) < 0:=by omega
  have ll:=lowF_len v i
  have m1:i≤140737488355327:=by omega
  have m2:i+1≤maxLen:=by unfold maxLen;omega
  have tn:(8 * (i:Int)).toNat=8 * i:=by omega
  have hb:=byteN_eq v i
  refine WL.seq (WL.sreg (by simp[h'];rfl) (by simp;rfl) ?_)
  refine WL.cond (t:=true) (by simp[h']) (fun _=>WL.skip ?_) (by simp)
  refine WL.seq (WL.block (WL.reg (RL.run (by simp[w8,wu,n0,tn,ll,m1,m2];rfl) ⟨_,by simp;rfl,?_⟩)))
  rw[lowF_succ]
  refine WL.reg (RL.run (by simp[w];rfl) ⟨_,by simp;rfl,h,?_,trivial⟩)
  simp[lowF_len,hb]
  rw[List.take_of_length_le (l:=List.map _ (lowF v i)) (by simp[ll]),List.take_of_length_le (by simp[ll])]
 ·obtain rfl:i=n:=by omega
  refine WL.seq (WL.sreg (by simp;rfl) (by simp;rfl) ?_)
  refine WL.cond (t:=false) (by simp) (by simp) fun _=>WL.exit ?_
  refine WL.sreg (by simp;rfl) (by simp;rfl) (WL.ret ⟨.inr rfl,?_⟩)
  simp[fi120,lowF_len]
end Go.OT
namespace Go.OT
open Go.Proofs
abbrev z24:List UInt8:=[0,0,0,0,0,0,0,0,0,0,0,0,0,0,0,0,0,0,0,0,0,0,0,0]
theorem rep24:repL [.sc (.int .u8 0)] 24=z24.map (fun b=>u8 (b.toNat:Int)):=rfl
theorem blank_fn:FnC Try.prog 75 [] [] [] (sU true z24):=by
 refine FnC.go ok75 rfl ?_
 refine WL.sreg (by simp;rfl) (by simp;rfl) ?_
 refine WL.sreg (by simp[rep24];rfl) (by simp;rfl) (WL.ret ⟨.inr rfl,?_⟩)
 simp[fi75]
theorem refblank_fn:FnC Try.prog 74 [] [] [] (str z24):=by
 refine FnC.go ok74 rfl ?_
 refine WL.sreg (by simp;rfl) (by simp;rfl) ?_
 have tk:List.take 24 (z24.map (fun b=>u8 (b.toNat:Int)))=z24.map (fun b=>u8 (b.toNat:Int)):=rfl
 refine WL.sreg (by simp[rep24,tk,-List.map_cons];rfl) (by simp;rfl) (WL.ret ⟨.inr rfl,?_⟩)
 simp[fi74]
def isP (id:Int):Bool:=decide (0≤id) && decide (id < 48)
theorem pgis_fn (id:Int):FnC Try.prog 152 [] [i64 id] [] (bl (isP id)):=by
 refine FnC.go ok152 rfl ?_
 refine WL.sreg (by simp;rfl) (by simp;rfl) ?_
 by_cases h:0≤id
 ·refine WL.sreg (by simp[h];rfl) (by simp;rfl) (WL.ret ⟨.inr rfl,?_⟩)
  simp[fi152,isP,h]
 ·refine WL.sreg (by simp[h];rfl) (by simp;rfl) (WL.ret ⟨.inr rfl,?_⟩)
  simp[fi152,isP,h]
def tailF (id:Int)(body:List UInt8):List UInt8:=lowF (id+1) 2 ++ ([90,165] ++ body)
def imgF (id:Int)(body:List UInt8):List UInt8:=lowF (ofF (tailF id body)) 4 ++ tailF id body
def sealF (id:Int)(body:List UInt8):List UInt8 × Int:=if isP id=true∧body.length=16 then (imgF id body,0) else ([],1)
theorem tailF_len (id:Int)(body:List UInt8):(tailF id body).length=4+body.length:=by simp[tailF,lowF_len];omega
theorem imgF_len (id:Int)(body:List UInt8):(imgF id body).length=8+body.length:=by simp[imgF,lowF_len,tailF_len];omega
abbrev bm (l:List UInt8):List AU:=l.map fun b=>u8 (b.toNat:Int)
theorem lowF_set (v:Int)(t:List UInt8):∀ i,i < 4→(bm (lowF v i ++ (([0,0,0,0]:List UInt8).drop i ++ t))).set i (u8 ((byteN v i).toNat:Int))=bm (lowF v (i+1) ++ (([0,0,0,0]:List UInt8).drop (i+1) ++ t))
 | 0,_=>rfl
 | 1,_=>rfl
 | 2,_=>rfl
 | 3,_=>rfl
 | n+4,h=>by omega
theorem bm_tail (id:Int)(h0:0≤id)(h1:id < 48)(body:List UInt8):[u8 (IntKind.wrap .u8 (id+1)),u8 (IntKind.wrap .u8 ((id+1).fdiv 256)),u8 90,u8 165] ++ bm body=bm (tailF id body):=by
 have e0:=byteN_eq (id+1) 0
 have e1:=byteN_eq (id+1) 1
 have f0:(id+1).fdiv (2 ^ min (8 * 0) IntKind.u32.bits)=id+1:=by
  show (id+1).fdiv 1=id+1
  exact Int.fdiv_one _
 rw[f0] at e0
 have f1:(id+1).fdiv (2 ^ min (8 * 1) IntKind.u32.bits)=(id+1).fdiv 256:=rfl
 rw[f1] at e1
 rw[e0,e1]
 rfl
abbrev slQ (p:List UInt8 × Int):Ex→SL→Prop:=fun e L=>e=Ex.ret∧RetOk fi113.rs [] (.tuple [sU true p.1,i64 p.2]) L
set_option maxHeartbeats 4000000 in
theorem seal_fn (id:Int)(body:List UInt8)(hb:body.length≤1000000):FnC Try.prog 113 [] [i64 id,sU false body] [] (.tuple [sU true (sealF id body).1,i64 (sealF id body).2]):=by
 refine FnC.go ok113 rfl ?_
 refine WL.mono (Q':=slQ (sealF id body)) ?_ fun e L h=>⟨.inr h.1,h.2⟩
 refine WL.sreg (by simp;rfl) (by simp;rfl) ?_
 refine WL.seq (WL.sregC (RL.o (by simp;rfl) (RL.call0 false (pgis_fn id) (by simp) (by simp) ?_)))
 cases hp:isP id with
 | false =>
  refine RL.o (by simp;rfl) (RL.g (by simp;rfl) (RL.o (by simp;rfl) (RL.nil ⟨_,by simp;rfl,?_⟩)))
  refine WL.cond (t:=true) (by simp) (fun _=>?_) (by simp)
  refine WL.sreg (by simp;rfl) (by simp;rfl) (WL.ret ⟨rfl,?_⟩)
  simp[fi113,sealF,hp]
 | true =>
 have h0:0≤id∧id < 48:=by simpa [isP] using hp
 by_cases h16:body.length=16
 ·have hbne:((body.length:Int) != 16)=false:=by simp[h16]
  refine RL.o (by simp;rfl) (RL.g (by simp[h16];rfl) (RL.o (by simp;rfl) (RL.nil ⟨_,by simp;rfl,?_⟩)))
  refine WL.cond (t:=false) (by simp) (by simp) fun _=>WL.skip ?_
  refine WL.sregC (RL.call0 false blank_fn (by simp) (by simp) (RL.o (by simp;rfl) (RL.nil ⟨_,by simp;rfl,?_⟩)))
  have w:IntKind.wrap .i64 (id+1)=id+1:=by rw[wrap_small (by omega) (by omega)]
  have m8:min 8 IntKind.i64.bits=8:=rfl
  refine WL.sreg (by simp[w,m8];rfl) (by simp;rfl) ?_
  have tk16:List.take 16 (bm body)=bm body:=List.take_of_length_le (by simp[h16])
  refine WL.sreg (by simp[h16];rfl) (by simp;rfl) ?_
  have eS:splice [u8 0,u8 0,u8 0,u8 0,AV.sc (Value.int IntKind.u8 (IntKind.u8.wrap (id+1))),AV.sc (Value.int IntKind.u8 (IntKind.u8.wrap ((id+1).fdiv 256))),AV.sc (Value.int IntKind.u8 90),AV.sc (Value.int IntKind.u8 165),u8 0,u8 0,u8 0,u8 0,u8 0,u8 0,u8 0,u8 0,u8 0,u8 0,u8 0,u8 0,u8 0,u8 0,u8 0,u8 0] 8 (List.take 16 (bm body))=bm ([0,0,0,0] ++ tailF id body):=by
   have e2:bm ([0,0,0,0] ++ tailF id body)=[u8 0,u8 0,u8 0,u8 0] ++ bm (tailF id body):=rfl
   rw[tk16,e2,← bm_tail id h0.1 h0.2 body]
   simp[splice,h16]
  rw[eS]
  have hlt:(tailF id body).length=20:=by rw[tailF_len];omega
  have eR:sealF id body=(imgF id body,0):=by simp[sealF,hp,h16]
  have hcrc:=of_fn (tailF id body) (by rw[hlt];decide)
  have tkt:List.take 20 (bm (tailF id body))=bm (tailF id body):=List.take_of_length_le (by simp[hlt])
  rw[eR]
  have eI:imgF id body=lowF (ofF (tailF id body)) 4 ++ tailF id body:=rfl
  rw[eI]
  clear eS eI eR w m8 tk16
  generalize tailF id body=tl at *
  generalize ofF tl=v at *
  refine WL.sregC (RL.o (by simp[hlt];rfl) (RL.call0 true hcrc (by simp[hlt,tkt]) (by simp) (RL.o (by simp;rfl) (RL.nil ⟨_,by simp;rfl,?_⟩))))
  refine WL.seq (WL.sreg (by simp;rfl) (by simp;rfl) ?_)
  obtain⟨C,hC⟩:∃ C:Nat→List AU,∀ i,C i=bm (lowF v i ++ (([0,0,0,0]:List UInt8).drop i ++ tl)):=⟨_,fun _=>rfl⟩
  have C0:C 0=bm ([0,0,0,0] ++ tl):=by rw[hC];rfl
  have C4:C 4=bm (lowF v 4 ++ tl):=by rw[hC];rfl
  have Cl:∀ i,i≤4→(C i).length=24:=fun i hi=>by rw[hC];simp[hlt,lowF_len]<;>omega
  have Ca:∀ i,i < 4→∃ b:UInt8,(C i)[i]?=some (u8 b.toNat):=fun i hi=>by
   have hl:i < (lowF v i ++ (([0,0,0,0]:List UInt8).drop i ++ tl)).length:=by simp[hlt,lowF_len]<;>omega
   exact⟨(lowF v i ++ (([0,0,0,0]:List UInt8).drop i ++ tl))[i],by rw[hC,bm,List.getElem?_map,List.getElem?_eq_getElem hl];rfl⟩
  have Cs:∀ i,i < 4→(C i).set i (u8 ((byteN v i).toNat:Int))=C (i+1):=fun i hi=>by rw[hC,hC];exact lowF_set v tl i hi
  refine WL.block (WL.count 4 (fun i=>[(600,0,.sl true () 1 24 (C i)),(700,0,u32 v),(4000,0,i64 i)]) (fun i=>True) (by simp[C0]) trivial fun i hi _=>?_)
  by_cases h:i < 4
  ·have h':(i:Int) < 4:=by omega
   have w:IntKind.wrap .i64 ((i:Int)+1)=((i+1:Nat):Int):=by rw[wrap_small (by omega) (by omega)];omega
   have w8:IntKind.wrap .i64 (8 * (i:Int))=8 * (i:Int):=by rw[wrap_small (by omega) (by omega)]
   have wu:IntKind.wrap .u64 (8 * (i:Int))=8 * (i:Int):=wrap_u64 (by omega) (by omega)
   have n0:¬ 8 * (i:Int) < 0:=by omega
   have tn:(8 * (i:Int)).toNat=8 * i:=by omega
   have hb:=byteN_eq v i
   obtain⟨b,hbc⟩:=Ca i h
   have lcs:=Cl i hi
   have hi24:(i:Int) < 24:=by omega
   have hi24n:i < 24:=by omega
   have hbc':∀ hh:i < (C i).length,(C i)[i]'hh=u8 b.toNat:=fun hh=>by
    rw[List.getElem?_eq_getElem hh] at hbc;exact Option.some.inj hbc
   refine WL.sreg (by simp;rfl) (by simp;rfl) ?_
   refine WL.seq (WL.cond (t:=true) (by simp[h']) (fun _=>WL.skip ?_) (by simp))
   refine WL.seq (WL.block (WL.sreg (by simp;rfl) (by simp;rfl) ?_))
   refine WL.reg (RL.run (by simp[w8,wu,n0,tn,hbc',lcs,hi24,hi24n];rfl) ⟨_,by simp;rfl,?_⟩)
   refine WL.reg (RL.run (by simp[w];rfl) ⟨_,by simp;rfl,h,?_,trivial⟩)
   simp[hb,Cs i h]
  ·obtain rfl:i=4:=by omega
   refine WL.sreg (by simp;rfl) (by simp;rfl) ?_
   refine WL.seq (WL.cond (t:=false) (by simp) (by simp) fun _=>WL.exit ?_)
   refine WL.sregC (RL.mv (by decide) (RL.o (by simp;rfl) (RL.nil ⟨_,by simp;rfl,WL.ret ⟨rfl,?_⟩⟩)))
   simp[fi113,C4,lowF_len,hlt]
   rw[List.take_of_length_le (i:=24) (l:=List.map _ (lowF v 4) ++ _) (by simp[lowF_len,hlt]),List.take_of_length_le (by simp[lowF_len,hlt])]
 ·have hbne:((body.length:Int) != 16)=true:=by simp;omega
  refine RL.o (by simp;rfl) (RL.g (by simp;rfl) (RL.o (by simp;rfl) (RL.nil ⟨_,by simp;rfl,?_⟩)))
  refine WL.cond (t:=true) (by simp;omega) (fun _=>?_) (by simp)
  refine WL.sreg (by simp;rfl) (by simp;rfl) (WL.ret ⟨rfl,?_⟩)
  simp[fi113,sealF,h16]
end Go.OT
namespace Go.OT
open Go.Proofs
abbrev rsQ (p:List UInt8 × Int):Ex→SL→Prop:=fun e L=>e=Ex.ret∧RetOk fi73.rs [] (.tuple [str p.1,i64 p.2]) L
theorem lit_5a:(⟨#[90,165]⟩:ByteArray)=strOf [90,165]:=rfl
theorem lit_nil:(⟨#[]⟩:ByteArray)=strOf []:=rfl
set_option maxHeartbeats 4000000 in
theorem refseal_fn (id:Int)(body:List UInt8)(hb:body.length≤1000000):FnC Try.prog 73 [] [i64 id,str body] [] (.tuple [str (sealF id body).1,i64 (sealF id body).2]):=by
 have hz:=strOf_size body
 refine FnC.go ok73 rfl ?_
 refine WL.mono (Q':=rsQ (sealF id body)) ?_ fun e L h=>⟨.inr h.1,h.2⟩
 refine WL.sreg (by simp;rfl) (by simp;rfl) ?_
 by_cases p1:id < 0
 ·have hp:isP id=false:=by simp[isP];omega
  refine WL.seq (WL.sreg (by simp[p1];rfl) (by simp;rfl) ?_)
  refine WL.cond (t:=true) (by simp) (fun _=>?_) (by simp)
  refine WL.sreg (by simp;rfl) (by simp;rfl) (WL.ret ⟨rfl,?_⟩)
  simp[fi73,sealF,hp,lit_nil]
 by_cases p2:48≤id
 ·have hp:isP id=false:=by simp[isP];omega
  refine WL.seq (WL.sreg (by simp[p1,p2];rfl) (by simp;rfl) ?_)
  refine WL.cond (t:=true) (by simp) (fun _=>?_) (by simp)
  refine WL.sreg (by simp;rfl) (by simp;rfl) (WL.ret ⟨rfl,?_⟩)
  simp[fi73,sealF,hp,lit_nil]
 have hp:isP id=true:=by simp[isP];omega
 by_cases h16:body.length=16
 ·have eR:sealF id body=(imgF id body,0):=by simp[sealF,hp,h16]
  have w:IntKind.wrap .i64 (id+1)=id+1:=by rw[wrap_small (by omega) (by omega)]
  have w2:IntKind.wrap .u32 (id+1)=id+1:=by show (id+1) % 4294967296=id+1;omega
  have hl2:=low_fn (id+1) 2 (by decide)
  have hlt:=tailF_len id body
  have hcrc:=refof_fn (tailF id body) (by omega)
  have hl4:=low_fn (ofF (tailF id body)) 4 (by decide)
  have eT:strOf (lowF (id+1) 2 ++ 90 :: 165 :: body)=strOf (tailF id body):=rfl
  have eI:strOf (lowF (ofF (tailF id body)) 4 ++ tailF id body)=strOf (imgF id body):=rfl
  rw[eR]
  refine WL.seq (WL.sreg (by simp[p1,p2,hz,h16];rfl) (by simp;rfl) ?_)
  refine WL.cond (t:=false) (by simp) (by simp) fun _=>WL.skip ?_
  refine WL.sregC (RL.o (by simp[w,w2];rfl) (RL.call0 false hl2 (by simp[w,w2]) (by simp) (RL.o (by simp[lit_5a,strOf_app,strOf_size,lowF_len,h16];rfl) (RL.nil ⟨_,by simp;rfl,?_⟩))))
  rw[eT]
  refine WL.sregC (RL.o (by simp;rfl) (RL.call0 false hcrc (by simp) (by simp) (RL.call0 false hl4 (by simp) (by simp) (RL.o (by simp[strOf_app,strOf_size,lowF_len,hlt,h16];rfl) (RL.nil ⟨_,by simp;rfl,WL.ret ⟨rfl,?_⟩⟩)))))
  rw[eI]
  simp[fi73]
 ·have h16':((body.length:Int) != 16)=true:=by simp;omega
  refine WL.seq (WL.sreg (by simp[p1,p2,hz,h16'];rfl) (by simp;rfl) ?_)
  refine WL.cond (t:=true) (by simp) (fun _=>?_) (by simp)
  refine WL.sreg (by simp;rfl) (by simp;rfl) (WL.ret ⟨rfl,?_⟩)
  simp[fi73,sealF,h16,lit_nil]
def openF (id:Int)(b:List UInt8):List UInt8 × Int :=
 if isP id=true∧b.length=24 then
  if b=z24 then ([],11) else if imgF id (b.drop 8)=b then (b.drop 8,0) else ([],10)
 else ([],1)
abbrev roQ (p:List UInt8 × Int):Ex→SL→Prop:=fun e L=>e=Ex.ret∧RetOk fi156.rs [] (.tuple [str p.1,i64 p.2]) L
theorem strOf_ne {a b:List UInt8}:((strOf a).toList != (strOf b).toList)=(a != b):=by rw[strOf_toList,strOf_toList]
set_option maxHeartbeats 4000000 in
theorem refopen_fn (id:Int)(b:List UInt8)(hb:b.length≤1000000):FnC Try.prog 156 [] [i64 id,str b] [] (.tuple [str (openF id b).1,i64 (openF id b).2]):=by
 have hz:=strOf_size b
 refine FnC.go ok156 rfl ?_
 refine WL.mono (Q':=roQ (openF id b)) ?_ fun e L h=>⟨.inr h.1,h.2⟩
 refine WL.sreg (by simp;rfl) (by simp;rfl) ?_
 by_cases p1:id < 0
 ·have hp:isP id=false:=by simp[isP];omega
  refine WL.seq (WL.sreg (by simp[p1];rfl) (by simp;rfl) ?_)
  refine WL.cond (t:=true) (by simp) (fun _=>?_) (by simp)
  refine WL.sreg (by simp;rfl) (by simp;rfl) (WL.ret ⟨rfl,?_⟩)
  simp[fi156,openF,hp,lit_nil]
 by_cases p2:48≤id
 ·have hp:isP id=false:=by simp[isP];omega
  refine WL.seq (WL.sreg (by simp[p1,p2];rfl) (by simp;rfl) ?_)
  refine WL.cond (t:=true) (by simp) (fun _=>?_) (by simp)
  refine WL.sreg (by simp;rfl) (by simp;rfl) (WL.ret ⟨rfl,?_⟩)
  simp[fi156,openF,hp,lit_nil]
 have hp:isP id=true:=by simp[isP];omega
 by_cases h24:b.length=24
 ·have hl8:(b.drop 8).length=16:=by simp[h24]
  have hsl:=refseal_fn id (b.drop 8) (by omega)
  have eS:sealF id (b.drop 8)=(imgF id (b.drop 8),0):=by simp[sealF,hp,hl8]
  rw[eS] at hsl
  have ext:(strOf b).extract 8 24=strOf (b.drop 8):=by rw[strOf_ext,List.take_of_length_le (by omega)]
  refine WL.seq (WL.sreg (by simp[p1,p2,hz,h24];rfl) (by simp;rfl) ?_)
  refine WL.cond (t:=false) (by simp) (by simp) fun _=>WL.skip ?_
  refine WL.seq (WL.sregC (RL.o (by simp;rfl) (RL.call0 false refblank_fn (by simp) (by simp) ?_)))
  by_cases q:b=z24
  ·subst q
   refine RL.o (by simp;rfl) (RL.nil ⟨_,by simp;rfl,?_⟩)
   refine WL.cond (t:=true) (by simp) (fun _=>?_) (by simp)
   refine WL.sreg (by simp;rfl) (by simp;rfl) (WL.ret ⟨rfl,?_⟩)
   simp[fi156,openF,hp,lit_nil]
  ·have qb:(b == z24)=false:=beq_false_of_ne q
   refine RL.o (by simp[strOf_inj,qb];rfl) (RL.nil ⟨_,by simp;rfl,?_⟩)
   refine WL.cond (t:=false) (by simp) (by simp) fun _=>WL.skip ?_
   refine WL.sregC (RL.o (by simp[hz,h24,ext];rfl) (RL.call0 false hsl (by simp[hz,h24,ext]) (by simp) (RL.o (by simp;rfl) (RL.nil ⟨_,by simp;rfl,?_⟩))))
   by_cases r:imgF id (b.drop 8)=b
   ·have rb:(imgF id (b.drop 8) != b)=false:=by simp[r]
    refine WL.seq (WL.sreg (by simp[strOf_ne,rb];rfl) (by simp;rfl) ?_)
    refine WL.cond (t:=false) (by simp[strOf_toList,r]) (by simp) fun _=>WL.skip ?_
    refine WL.sreg (by simp[hz,h24,ext];rfl) (by simp;rfl) (WL.ret ⟨rfl,?_⟩)
    simp[fi156,openF,hp,h24,q,r]
   ·have rb:(imgF id (b.drop 8) != b)=true:=by simp[r]
    refine WL.seq (WL.sreg (by simp[strOf_ne,rb];rfl) (by simp;rfl) ?_)
    refine WL.cond (t:=true) (by simp[strOf_toList,r]) (fun _=>?_) (by simp)
    refine WL.sreg (by simp;rfl) (by simp;rfl) (WL.ret ⟨rfl,?_⟩)
    simp[fi156,openF,hp,h24,q,r,lit_nil]
 ·have h24':((b.length:Int) != 24)=true:=by simp;omega
  refine WL.seq (WL.sreg (by simp[p1,p2,hz,h24'];rfl) (by simp;rfl) ?_)
  refine WL.cond (t:=true) (by simp) (fun _=>?_) (by simp)
  refine WL.sreg (by simp;rfl) (by simp;rfl) (WL.ret ⟨rfl,?_⟩)
  simp[fi156,openF,h24,lit_nil]
end Go.OT
namespace Go.OT
def deadL (n:Nat):List AL:=List.replicate n .dead
theorem fpL_dead (n b o:Nat):¬ fpL (deadL n) b o:=by
 rw[fpL_iff]
 rintro⟨c,hc,h⟩
 rw[List.eq_of_mem_replicate hc] at h
 simp[fp] at h
theorem SepL_dead:∀ n,SepL (deadL n)
 | 0=>trivial
 | n+1=>by
  show SepL (.dead :: deadL n)
  exact⟨trivial,SepL_dead n,fun _ _ h=>by simp[fp] at h⟩
theorem MemL_dead {w:World}{I:ASet}:∀ {cs:List AL} {b o:Nat},MemL w I true cs b o→MemL w I true (deadL cs.length) b o
 | [],_,_,_=>by show MemL w I true [] _ _;simp only[MemL]
 | c :: cs,b,o,h=>by
  simp only[MemL] at h
  obtain⟨⟨y,h1,_⟩,_,_,h4⟩:=h
  show MemL w I true (.dead :: deadL cs.length) b o
  have:=MemL_dead h4
  simp only[MemL,CR,Mem]
  exact⟨⟨y,h1,trivial⟩,trivial,(fun e=>by cases e),this⟩
theorem RelL.wipeS {C:Ctx}{X:XF LO} {β:Nat→Nat × Nat}{I:ASet}{rg:Nat→Value}{w:World}(R:RelL C X β I rg w)(k:Nat)(hk:k % 100=0){l:Loc}{cs:List AL}(hX:(X k).2=.bx true (some l) cs) :
  RelL C (X.set k (.bx true (some l) (deadL cs.length))) β I rg w:=by
 have hkp:=keeps_set X β k (.bx true (some l) (deadL cs.length))
 have hf:∀ k' b o,kfp β (X.set k (.bx true (some l) (deadL cs.length))) k' b o→kfp β X k' b o:=by
  intro k' b o h
  by_cases e:k'=k
  ·subst e
   simp only[kfp,XF.set_self] at h
   rcases h with h | ⟨h,_⟩
   ·left;rw[hX]
    simp only[fp] at h ⊢
    rcases h with h | h
    ·left;simpa [deadL] using h
    ·exact absurd h (fpL_dead _ _ _)
   ·unfold isCell at h;omega
  ·simpa only [kfp,XF.set_ne _ _ e] using h
 refine⟨fun t=>?_,fun k'=>?_,fun a b hne b' o h1 h2=>R.disj a b hne b' o (hf _ _ _ h1) (hf _ _ _ h2),fun b o h=>⟨(R.imm b o h).1,fun a ha=>(R.imm b o h).2 a (hf _ _ _ ha)⟩,fun a b o h=>R.frK a b o (hf _ _ _ h),R.frI,R.frI0,R.fr,R.gh,R.gr⟩
 ·by_cases e:100 * t=k
  ·have:=R.reg t
   rw[e] at this ⊢
   rw[hX] at this
   rw[XF.set_self]
   simp only[RR,CR] at this ⊢
   exact this
  ·rw[XF.set_ne _ _ e];exact RR_keep hkp _ _ (R.reg t)
 ·by_cases e:k'=k
  ·subst e
   have h:=R.key k'
   have hm:=h.mem
   rw[hX] at hm
   simp only[Mem] at hm
   refine⟨by rw[XF.set_self];simp only[Mem];exact MemL_dead hm,by rw[XF.set_self];simp only[Sep];exact⟨fun _ _=>fpL_dead _ _ _,SepL_dead _⟩,fun hc=>by unfold isCell at hc;omega,fun b o hb=>h.live b o (hf k' b o hb),fun h99=>by omega⟩
  ·have h:=R.key k'
   refine⟨by rw[XF.set_ne _ _ e];exact h.mem,by rw[XF.set_ne _ _ e];exact h.sep,by rw[XF.set_ne _ _ e];exact fun h1 h2=>⟨(h.cell h1 h2).1.imp fun y hy=>⟨hy.1,hy.2.imp id fun h=>⟨h.1,RR_keep hkp _ _ h.2⟩⟩,(h.cell h1 h2).2⟩,fun b o hb=>h.live b o (hf k' b o hb),by rw[XF.set_ne _ _ e];exact h.last⟩
theorem RelT.wipe {C:Ctx}{X:XF Unit}{tm:Array Value}{w:World}(h:RelT C X tm w)(k:Nat)(hk:k % 100=0)(hkH:k ≠ 100 * H)(hH:roots (X (100 * H)).2=[]){cs:List AU}(hX:(X k).2=.bx true () cs)
  (h2:∀ t,rootR [k] (X (100 * t)).2=true) (h3:∀ k',isCell k'→noR [k] (X k').2=true):RelT C (X.upd k (.bx true () (List.replicate cs.length .dead))) tm w:=by
 obtain⟨XL,β,I,rg,he,R,hs,ht⟩:=h
 subst he
 obtain⟨l,lcs,hl,hlcs⟩:∃ l lcs,(XL k).2=.bx true l lcs∧lcs.map er=cs:=by
  have:er (XL k).2=.bx true () cs:=hX
  revert this
  generalize (XL k).2=v
  intro this
  cases v<;>simp [er] at this
  rename_i o l lcs
  exact⟨l,lcs,by rw[this.1],by rw[← erL_eq];exact this.2⟩
 have hmem:=(R.key k).mem
 rw[hl] at hmem
 cases l with
 | none=>simp [Mem] at hmem
 | some l =>
  have R1:=R.wipeS k hk hl
  have e1:(XL.set k (.bx true (some l) (deadL lcs.length)) k).2=.bx true (some l) (deadL lcs.length):=by rw[XF.set_self]
  have hne:∀ j,j ≠ k→(XL.set k (.bx true (some l) (deadL lcs.length))) j=XL j:=fun j hj=>XF.set_ne _ _ hj
  have hlen:lcs.length=cs.length:=by rw[← hlcs];simp
  have R2:=R.regen R1 [k] H (fun j hj=>by simp at hj;subst hj;exact⟨hk,hkH⟩) (fun _ _=>rfl) (by
    rw[hne _ (Ne.symm hkH)]
    have:roots (er (XL (100 * H)).2)=[]:=hH
    rwa [er_roots] at this) (fun j hj _=>by
    rw[hne j (by intro e;subst e;simp at hj)]) (fun t=>by
    by_cases e:100 * t=k
    ·rw[e,e1];rfl
    ·rw[hne _ e,← er_rootR];exact h2 t) (fun j hj=>by
    have:j ≠ k:=by intro e;subst e;unfold isCell at hj;omega
    rw[hne _ this,← er_noR];exact h3 j hj) (fun j hj=>by
    simp at hj;subst hj;rw[hl,e1];rfl)
  refine⟨_,β,I,rg,?_,R2,hs,ht⟩
  rw[erF_ungen]
  funext j
  by_cases e:j=k
  ·subst e
   simp only[ungen,List.contains_cons,beq_self_eq_true,Bool.true_or,if_true,XF.upd_self,erF]
   rw[e1]
   simp only[er,erL_eq,deadL,List.map_replicate,hlen]
  ·have hc:[k].contains j=false:=by simp[e]
   simp only[ungen,hc,Bool.false_eq_true,if_false,XF.upd_ne _ _ e,erF,hne j e]
section
variable {P:Program} {nt:Nat} {L:SL} {Q:Ex→SL→Prop}
def wipeB (k:Nat)(L:SL):Bool:=decide (k % 100=0) && (!decide (k=100 * H) && ((roots (fnL L (100 * H)).2).isEmpty && L.all fun e=>rootR [k] e.2.2 && (decide (e.1 % 100=0) || noR [k] e.2.2)))
theorem RelT.wipeL {C:Ctx}{tm:Array Value}{w:World}(h:RelT C (fnL L) tm w)(k:Nat){cs:List AU}(hX:(fnL L k).2=.bx true () cs)(hB:wipeB k L=true):RelT C (fnL (updL L k (.bx true () (List.replicate cs.length .dead)))) tm w:=by
 simp only[wipeB,Bool.and_eq_true,decide_eq_true_eq,Bool.not_eq_true',decide_eq_false_iff_not,List.all_eq_true,Bool.or_eq_true,List.isEmpty_iff] at hB
 obtain⟨a1,a2,a3,a4⟩:=hB
 have:=h.wipe k a1 a2 a3 hX (fun t=>?_) (fun k' hc=>?_)
 ·rwa [fnL_upd] at this
 ·rcases fnL_mem L (100 * t) with h | ⟨e,he,_,h⟩
  ·rw[h];rfl
  ·rw[h];exact (a4 e he).1
 ·rcases fnL_mem L k' with h | ⟨e,he,e1,h⟩
  ·rw[h];rfl
  ·rw[h]
   rcases (a4 e he).2 with q | q
   ·rw[e1] at q;exact absurd q hc.1
   ·exact q
theorem WL.wipe {cc:Cd}(k:Nat){cs:List AU}(hX:(fnL L k).2=.bx true () cs)(hB:wipeB k L=true)(h:WL P nt cc (updL L k (.bx true () (List.replicate cs.length .dead))) Q):WL P nt cc L Q:=by
 intro C code hP hn hc a w hd hR
 exact h C code hP hn hc a w hd (hR.wipeL k hX hB)
theorem RL.wipe {K:SL→Prop}{segs:List Sg}(k:Nat){cs:List AU}(hX:(fnL L k).2=.bx true () cs)(hB:wipeB k L=true)(h:RL P nt segs (updL L k (.bx true () (List.replicate cs.length .dead))) K):RL P nt segs L K:=by
 intro C ops idx hP hnt hc a w Q hd hR hK
 exact h C ops idx hP hnt hc a w Q hd (hR.wipeL k hX hB) hK
end
attribute [simp] wipeB
end Go.OT
namespace Go.OT
section
variable {P:Program} {nt:Nat} {L:SL} {Q:Ex→SL→Prop}
def nodQ:Option AU→Bool
 | some N=>N.isNode
 | none=>false
@[simp] theorem nodQ_some (N:AU):nodQ (some N)=N.isNode:=rfl
def wipe1B (k:Nat)(p:List Nat)(L:SL):Bool:=decide (k % 100=0) && (!decide (k=100 * H) && ((fnL L (100 * H)).2.isNon && (nodQ (getN (fnL L k).2 p) && (ownQ (fnL L k).2 p && (hdSame (fnL L k).2 (setN (fnL L k).2 p .dead) && L.all fun e=>rootR [k] e.2.2 && (decide (e.1 % 100=0) || noR [k] e.2.2))))))
end
attribute [simp] wipe1B
end Go.OT
namespace Go.OT
theorem DStep.conv {C:Ctx}{ops:Array Oper}{i:Nat}{R D:List Nat}{Y Y':XF Unit}(h:DStep C ops i R D Y Y')(k:Nat)(hk:unitK k ∈ D)(hh:handB k=false)(v:AU)(hr:∀ r ∈ roots v,r ∈ roots (Y' k).2)
  (hc:∀ (X:XF Unit) tm w,X k=Y' k→RelT C X tm w→RelT C (X.upd k v) tm w):DStep C ops i R D Y (Y'.upd k v):=by
 have hu:∀ j,(Y'.upd k v) j=if j=k then ((Y' k).1,v) else Y' j:=fun j=>by
  by_cases e:j=k
  ·subst e;rw[XF.upd_self];simp
  ·rw[XF.upd_ne _ _ e];simp[e]
 refine⟨h.sub,fun j hj=>?_,fun j=>?_,fun X hX ha=>?_⟩
 ·have e:j ≠ k:=fun e=>hj (e ▸ hk)
  rw[XF.upd_ne _ _ e];exact h.out j hj
 ·rw[hu]
  by_cases e:j=k
  ·subst e
   simp only[if_true]
   exact⟨fun z=>(by rw[hh] at z;cases z),fun r hr'=>(h.cl j).2 r (hr r hr')⟩
  ·simp only[e,if_false];exact h.cl j
 ·refine (h.step X hX ha).weak fun tm w r=>?_
  have hm:(mix D Y' X) k=Y' k:=by unfold mix;rw[if_pos hk]
  have:=hc (mix D Y' X) tm w hm r
  have e:mix D (Y'.upd k v) X=(mix D Y' X).upd k v:=by
   funext j
   by_cases e:j=k
   ·subst e;rw[XF.upd_self];simp only[mix,hk,if_true,XF.upd_self]
   ·rw[XF.upd_ne _ _ e];simp only[mix,XF.upd_ne _ _ e]
  rw[e];exact this
section
variable {P:Program} {nt:Nat}
theorem WL.eqL {cc:Cd}{L L':SL}{Q:Ex→SL→Prop}(e:L=L')(h:WL P nt cc L' Q):WL P nt cc L Q:=e ▸ h
theorem RL.eqL {segs:List Sg}{L L':SL}{K:SL→Prop}(e:L=L')(h:RL P nt segs L' K):RL P nt segs L K:=e ▸ h
end
end Go.OT
namespace Go.OT
open Go.Proofs
abbrev opQ (p:List UInt8 × Int):Ex→SL→Prop:=fun e L=>e=Ex.ret∧RetOk fi117.rs [] (.tuple [sU true p.1,i64 p.2]) L
theorem all0_z24 {b:List UInt8}(h24:b.length=24)(h:∀ j (hj:j < b.length),b[j]=0):b=z24:=by
 refine List.ext_getElem (by simp[h24]) fun j h1 h2=>?_
 rw[h j h1]
 have:∀ j (hj:j < z24.length),(0:UInt8)=z24[j]:=by decide
 exact this j h2
set_option maxHeartbeats 8000000 in
theorem open_rest (id:Int)(hp:isP id=true)(b:List UInt8)(h24:b.length=24)(hne:b ≠ z24):WL Try.prog fi117.nt c117_14 [(0,0,i64 id),(100,0,sU false b),(3200,0,bl false)] (opQ (openF id b)):=by
 have eO:openF id b=if imgF id (b.drop 8)=b then (b.drop 8,0) else ([],10):=by simp[openF,hp,h24,hne]
 rw[eO]
 clear eO
 obtain⟨bd,ebd⟩:∃ x,x=b.drop 8:=⟨_,rfl⟩
 have hl8:bd.length=16:=by simp[ebd,h24]
 have hsl:=seal_fn id bd (by omega)
 have eS:sealF id bd=(imgF id bd,0):=by simp[sealF,hp,hl8]
 rw[eS] at hsl
 have hcl:=bytes_clone bd (by unfold Small;omega)
 have heq:=bytes_equal (imgF id bd) b
 have hil:=imgF_len id bd
 have tk:List.take 16 (List.drop 8 (List.map (fun b=>u8 (b.toNat:Int)) b))=bm bd:=by rw[ebd,bm,List.map_drop,List.take_of_length_le (by simp[h24])]
 have tk2:List.take 16 (bm bd)=bm bd:=List.take_of_length_le (by simp[hl8])
 rw[← ebd]
 clear ebd
 refine WL.sregC (RL.o (by simp[h24];rfl) (RL.call0 false hcl (by simp[h24,tk,hl8]) (by simp) (RL.o (by simp;rfl) (RL.nil ⟨_,by simp;rfl,?_⟩))))
 refine WL.eqL (L':=[(0,0,i64 id),(100,0,sU false b),(700,0,.sl true () 1 16 (bm bd))]) (by simp[hl8,tk2]) ?_
 refine WL.seq (WL.sregC (RL.o (by simp;rfl) (RL.call0 true hsl (by simp[hl8,tk2]) (by simp[noImmU]) (RL.mv (by decide) (RL.o (by simp;rfl) (RL.nil ⟨_,by simp;rfl,?_⟩))))))
 generalize imgF id bd=img at *
 have tk3:List.take img.length (bm img)=bm img:=List.take_of_length_le (by simp)
 by_cases r:img=b
 ·rw[if_pos r]
  have rb:(img == b)=true:=by simp[r]
  rw[rb] at heq
  refine WL.sregC (RL.o (by simp;rfl) (RL.call0 true heq (by simp[tk3]) (by simp) (RL.o (by simp;rfl) (RL.nil ⟨_,by simp;rfl,?_⟩))))
  refine WL.cond (t:=false) (by simp) (by simp) fun _=>WL.skip ?_
  refine WL.sregC (RL.mv (by decide) (RL.o (by simp;rfl) (RL.nil ⟨_,by simp;rfl,WL.ret ⟨rfl,?_⟩⟩)))
  simp[fi117,hl8]
  rw[tk2,tk2]
 ·rw[if_neg r]
  have rb:(img == b)=false:=by simp[r]
  rw[rb] at heq
  refine WL.sregC (RL.o (by simp;rfl) (RL.call0 true heq (by simp[tk3]) (by simp) (RL.o (by simp;rfl) (RL.nil ⟨_,by simp;rfl,?_⟩))))
  refine WL.cond (t:=true) (by simp) (fun _=>?_) (by simp)
  refine WL.sreg (by simp;rfl) (by simp;rfl) (WL.ret ⟨rfl,?_⟩)
  simp[fi117]
set_option maxHeartbeats 8000000 in
theorem open_fn (id:Int)(b:List UInt8)(hb:b.length≤1000000):FnC Try.prog 117 [] [i64 id,sU false b] [] (.tuple [sU true (openF id b).1,i64 (openF id b).2]):=by
 refine FnC.go ok117 rfl ?_
 refine WL.mono (Q':=opQ (openF id b)) ?_ fun e L h=>⟨.inr h.1,h.2⟩
 refine WL.sreg (by simp;rfl) (by simp;rfl) ?_
 refine WL.scope (WL.seq (WL.sregC (RL.o (by simp;rfl) (RL.call0 false (pgis_fn id) (by simp) (by simp) ?_))))
 cases hp:isP id with
 | false =>
  refine RL.o (by simp;rfl) (RL.g (by simp;rfl) (RL.o (by simp;rfl) (RL.nil ⟨_,by simp;rfl,?_⟩)))
  refine WL.cond (t:=true) (by simp) (fun _=>?_) (by simp)
  refine WL.sreg (by simp;rfl) (by simp;rfl) (WL.ret ⟨rfl,?_⟩)
  simp[fi117,openF,hp]
 | true =>
 by_cases h24:b.length=24
 ·refine RL.o (by simp;rfl) (RL.g (by simp[h24];rfl) (RL.o (by simp;rfl) (RL.nil ⟨_,by simp;rfl,?_⟩)))
  refine WL.cond (t:=false) (by simp) (by simp) fun _=>WL.skip ?_
  refine WL.sreg (by simp;rfl) (by simp;rfl) ?_
  refine WL.seq (WL.label ?_)
  refine WL.seq (WL.block (WL.count 24 (fun i=>[(0,0,i64 id),(100,0,sU false b),(600,0,i64 i)]) (fun i=>∀ j (hj:j < b.length),j < i→b[j]=0) (by simp) (fun j _ h=>absurd h (Nat.not_lt_zero _)) fun i hi hz=>?_))
  by_cases h:i < 24
  ·have h':(i:Int) < 24:=by omega
   have w:IntKind.wrap .i64 ((i:Int)+1)=((i+1:Nat):Int):=by rw[wrap_small (by omega) (by omega)];omega
   have hib:i < b.length:=by omega
   have f1:List.drop i (List.map (fun b=>u8 (b.toNat:Int)) b)=u8 (b[i].toNat:Int) :: List.drop (i+1) (bm b):=by
    rw[← List.map_drop,List.drop_eq_getElem_cons hib,bm,← List.map_drop];rfl
   refine WL.seq (WL.sreg (by simp[h24];rfl) (by simp;rfl) ?_)
   refine WL.cond (t:=true) (by simp[h',h24]) (fun _=>WL.skip ?_) (by simp)
   refine WL.block (WL.seq ?_)
   by_cases q:b[i]=0
   ·have q':((b[i].toNat:Int) != 0)=false:=by simp[q]
    refine WL.sreg (by simp[h24,hib,h,h',f1,q'];rfl) (by simp;rfl) ?_
    refine WL.cond (t:=false) (by simp[q]) (by simp) fun _=>WL.skip ?_
    refine WL.reg (RL.run (by simp[w];rfl) ⟨_,by simp;rfl,h,by simp,fun j hj hji=>?_⟩)
    by_cases e:j=i
    ·subst e;exact q
    ·exact hz j hj (by omega)
   ·have qn:¬ b[i].toNat=0:=fun e=>q (UInt8.toNat_inj.1 e)
    have q':((b[i].toNat:Int) != 0)=true:=by simp;omega
    refine WL.sreg (by simp[h24,hib,h,h',f1,q'];rfl) (by simp;rfl) ?_
    refine WL.cond (t:=true) (by simp[qn]) (fun _=>WL.fin [26] (by simp;rfl) (WL.exit ?_)) (by simp)
    have hne:b ≠ z24:=fun e=>q (by
     have:∀ j (hj:j < z24.length),z24[j]=0:=by decide
     subst e
     exact this i hib)
    have h24i:((i:Int) == 24)=false:=beq_false_of_ne (by omega)
    refine WL.seq (WL.sreg (by simp[h24,h24i];rfl) (by simp;rfl) ?_)
    refine WL.cond (t:=false) (by simp[h24i]) (by simp) fun _=>WL.skip ?_
    refine WL.eqL ?_ (open_rest id hp b h24 hne)
    simp[h24i]
  ·obtain rfl:i=24:=by omega
   have hz24:=all0_z24 h24 fun j hj=>hz j hj (by omega)
   refine WL.seq (WL.sreg (by simp[h24];rfl) (by simp;rfl) ?_)
   refine WL.cond (t:=false) (by simp[h24]) (by simp) fun _=>WL.exit ?_
   refine WL.seq (WL.sreg (by simp[h24];rfl) (by simp;rfl) ?_)
   refine WL.cond (t:=true) (by simp) (fun _=>?_) (by simp)
   refine WL.sreg (by simp;rfl) (by simp;rfl) (WL.ret ⟨rfl,?_⟩)
   simp[fi117,openF,hp,hz24]
 ·refine RL.o (by simp;rfl) (RL.g (by simp;rfl) (RL.o (by simp;rfl) (RL.nil ⟨_,by simp;rfl,?_⟩)))
  refine WL.cond (t:=true) (by simp;omega) (fun _=>?_) (by simp)
  refine WL.sreg (by simp;rfl) (by simp;rfl) (WL.ret ⟨rfl,?_⟩)
  simp[fi117,openF,h24]
end Go.OT
namespace Go.OT
open Go.Proofs
theorem lendE (o r:Bool)(l:List Ev):(lendL (l.flatMap (cellsEv o r)):List AU)=l.flatMap (cellsEv false false):=by
 rw[lendL_eq]
 induction l with
 | nil=>rfl
 | cons a l ih=>rw [List.flatMap_cons,List.map_append,ih,List.flatMap_cons];simp[lend,Function.comp_def]
theorem keyE_at {l:List Ev}{i:Nat}(h:i < l.length):keyE l (i:Int)=l[i].Stamp:=by
 simp[keyE,h]
set_option maxHeartbeats 4000000 in
theorem order1_fn (l:List Ev)(a b:Int)(ha:∃ i:Nat,i < l.length∧a=i)(hb:∃ i:Nat,i < l.length∧b=i):FnC Try.prog 92 [] [i64 a,i64 b,.vptr () [sEv l]] [] (i64 (cmpI (keyE l a) (keyE l b))):=by
 obtain⟨i,hi,rfl⟩:=ha
 obtain⟨j,hj,rfl⟩:=hb
 rw[keyE_at hi,keyE_at hj]
 have f1:=fmE_drop (o:=false) (r:=false) hi
 have f2:=fmE_drop (o:=false) (r:=false) hj
 have g1:14≤l.length * 14 - i * 14:=by omega
 have g2:14≤l.length * 14 - j * 14:=by omega
 refine FnC.go ok92 rfl ?_
 refine WL.sreg (by simp;rfl) (by simp;rfl) ?_
 refine WL.seq (WL.draw mixed (by simp[cleanL,noH]) (DL.o (by simp[hi,hj,f1,f2,g1,g2];exact⟨rfl,rfl⟩) (DL.call0 false (cmp_fn l[i].Stamp l[j].Stamp) (by simp) (by simp) (DL.o (by simp;exact⟨rfl,rfl⟩) (DL.nil ⟨by kernel_rfl,_,by simp;rfl,?_⟩)))))
 refine WL.ret ⟨.inr rfl,?_⟩
 simp[fi92]
abbrev orS (l:List Ev)(i:Nat):SL:=[(100,0,.bptr 1 1 0),(101,0,sEv l),(199,1,.non),(300,0,sI true (posN l i)),(600,0,sEv l),(700,0,i64 l.length),(800,0,i64 i)]
set_option maxHeartbeats 8000000 in
theorem order_fn (l:List Ev)(hn:l.length≤1000):FnC Try.prog 33 [] [sEv l] [] (sI true (ordF l)):=by
 refine FnC.go ok33 rfl ?_
 refine WL.sreg (by simp;rfl) (by simp;rfl) ?_
 refine WL.sreg (by simp;rfl) (by simp;rfl) ?_
 refine WL.seq (WL.sreg (by simp;rfl) (by simp;rfl) ?_)
 refine WL.block (WL.count l.length (fun i=>orS l i) (fun _=>True) (by simp[posN]) trivial fun i hi _=>?_)
 by_cases hlt:i < l.length
 ·have f1:=fmE_drop (o:=false) (r:=false) hlt
  have g1:14≤l.length * 14 - i * 14:=by omega
  have w:IntKind.wrap .i64 ((i:Int)+1)=((i+1:Nat):Int):=by rw[wrap_small (by omega) (by omega)];omega
  have hst:(l.map (·.Stamp)).getD i 0=l[i].Stamp:=by simp[hlt]
  have hps:=posN_succ l i
  rw[hst] at hps
  have hlen:=posN_len l i
  refine WL.sreg (by simp[hlt];rfl) (by simp;rfl) ?_
  refine WL.seq (WL.cond (t:=true) (by simp[hlt]) (fun _=>WL.skip ?_) (by simp))
  refine WL.seq (WL.block (WL.sreg (by simp[hlt,f1,g1];rfl) (by simp;rfl) ?_))
  by_cases hs:0 < l[i].Stamp
  ·rw[if_pos hs] at hps
   have m1:((posN l i).length+1) * 8≤140737488355328:=by omega
   have m2:(posN l i).length+1≤maxLen:=by unfold maxLen;omega
   refine WL.sreg (by simp[hs];rfl) (by simp;rfl) ?_
   refine WL.cond (t:=true) (by simp) (fun _=>?_) (by simp)
   refine WL.reg (RL.run (by simp[m1,m2];rfl) ⟨_,by simp;rfl,?_⟩)
   refine WL.reg (RL.run (by simp[w];rfl) ⟨_,by simp;rfl,hlt,?_,trivial⟩)
   simp[hps]
   exact List.take_of_length_le (by simp)
  ·rw[if_neg hs] at hps
   refine WL.sreg (by simp[hs];rfl) (by simp;rfl) ?_
   refine WL.cond (t:=false) (by simp) (by simp) fun _=>WL.skip ?_
   refine WL.reg (RL.run (by simp[w];rfl) ⟨_,by simp;rfl,hlt,?_,trivial⟩)
   simp[hps]
 ·obtain rfl:i=l.length:=by omega
  refine WL.sreg (by simp;rfl) (by simp;rfl) ?_
  refine WL.seq (WL.cond (t:=false) (by simp) (by simp) fun _=>WL.exit ?_)
  have hlen:=posN_len l l.length
  have hc:=sort_fn (key:=keyE l) (g:=92) (cs:=[sEv l]) (posN l l.length) (posN_asc l _) (by omega) (fun a b ha hb=>by
   obtain⟨i,h1,h2,_⟩:=posN_mem ha
   obtain⟨j,h3,h4,_⟩:=posN_mem hb
   exact order1_fn l a b ⟨i,h1,h2⟩ ⟨j,h3,h4⟩)
  refine WL.sregC (RL.o (by simp;rfl) (RL.call true [(300,[])] hc (by simp) (by simp) (by simp[gkey,lendE]) (by simp[immI]) (RL.nil ⟨_,by simp;rfl,?_⟩)))
  refine WL.sregC (RL.mv (by decide) (RL.o (by simp;rfl) (RL.nil ⟨_,by simp;rfl,WL.ret ⟨.inr rfl,?_⟩⟩)))
  simp[fi33,ordF,posL]
end Go.OT
