/- Part 11 of the proof: see its last file. -/
import Derived.Orders
import Derived.Below
import Derived.Laws.Entries
import Derived.Laws.Cells
import Derived.Laws.IdiomCopy
import Derived.Scope
import Derived.Calls
import Derived.Laws.Tables
import Derived.Laws.MakeOwn
import Derived.Laws.BytesString
import Derived.ArgAppend
import Derived.WalkSpells
import Derived.Lib.SlBytesConst
import Derived.Lib.ConvBytes
import Derived.WalkKit
import Derived.ProofKit
import Derived.OpenShut
import Derived.ShutString
import Derived.ChangeOld
import Derived.Lib.SmallJoins
import Derived.Test.YtlcemfnjhdcmoaaProg
import Derived.KernelRfl
import Derived.IntWalk
import Derived.Lib.Strings
import Derived.Test.YtlcemfnjhdcmoaaRows
import Derived.Test.YtlcemfnjhdcmoaaWa10
set_option linter.unusedSimpArgs false
set_option linter.unusedVariables false
namespace Go.OT
open Go.Proofs
theorem goW_past (l:List Ev)(fl:Int)(q:Nat):∀ (o:List Int) (s:St) (a:Pst),OkSt s→q < s.There.length→(∀ x ∈ a.1,x.length=16) →
  (∀ x ∈ (goW l (seeP l fl q) s a o).2.2.1,x.length=16)∧(goW l (seeP l fl q) s a o).2.2.1.length≤a.1.length+o.length
 | [],s,a,_,_,h=>⟨h,by simp[goW]⟩
 | x :: r,s,a,hs,hq,h=>by
  simp only[goW]
  split
  ·have hs':=stepR_ok hs (atE l x)
   have hq':q < (stepR s (atE l x)).2.There.length:=by rw[stepR_tlen];exact hq
   generalize (stepR s (atE l x)).2=t at *
   have hqb:q < t.Body.length:=by rw[hs'.bn];exact hq'
   have h2:∀ y ∈ (seeP l fl q a x t).1,y.length=16:=fun y hy=>by
    simp only[seeP,seeB] at hy
    split at hy
    ·rcases List.mem_append.1 hy with hy | hy
     ·exact h y hy
     ·rw[List.mem_singleton.1 hy,List.getD_eq_getElem?_getD,List.getElem?_eq_getElem hqb]
      exact hs'.b16 _ (List.getElem_mem hqb)
    ·exact h y hy
   have h3:(seeP l fl q a x t).1.length≤a.1.length+1:=by
    simp only[seeP,seeB]
    split<;>simp
   have ih:=goW_past l fl q r t (seeP l fl q a x t) hs' hq' h2
   exact⟨ih.1,by have:=ih.2;simp only[List.length_cons];omega⟩
  ·exact⟨h,by simp⟩
theorem past_ok (l:List Ev)(p c:Int)(h0:chkF l p c=0)(hn:l.length≤1000)(q:Nat)(hq:(q:Int) < p)(fl:Int):(∀ x ∈ (pastF l p c fl q).1,x.length=16)∧(pastF l p c fl q).1.length≤1000:=by
 obtain⟨hb,hw0,hg0,htm⟩:=walk_goW (seeP l fl q) ([],false,false) h0
 have en:newSt p c=⟨List.replicate p.toNat false,List.replicate p.toNat z16,List.replicate c.toNat [-1,-1,-1,-1,-1,-1]⟩:=by unfold newSt;rw[hb];rfl
 have:=goW_past l fl q (ordF l) (newSt p c) ([],false,false) (newSt_ok' hb) (by rw[en];simp;omega) (by simp)
 unfold pastF
 rw[hw0]
 have hO:=ordF_len l
 refine⟨this.1,?_⟩
 have h2:=this.2
 simp only[List.length_nil,Nat.zero_add] at h2 ⊢
 omega
theorem open_len {id:Int}{b:List UInt8}(h:(openF id b).2=0):(openF id b).1.length=16:=by
 unfold openF at h ⊢
 split
 ·rename_i hc
  rw[if_pos hc] at h
  split
  ·rename_i hz;rw[if_pos hz] at h;simp at h
  ·rename_i hz
   rw[if_neg hz] at h
   split
   ·simp[hc.2]
   ·rename_i hi;rw[if_neg hi] at h;simp at h
 ·rename_i hc;rw[if_neg hc] at h;simp at h
def okP (l:List Ev)(p c:Int)(q:Nat)(b:List UInt8):Bool :=
 (decide ((openF q b).2=0) && mayF (pastF l p c (flushF l p c q) q).1 (openF q b).1) || ((decide ((openF q b).2=11) && decide (flushF l p c q=0)) || (decide ((openF q b).2=10) && (pastF l p c (flushF l p c q) q).2))
def firstW (l:List Ev)(p c:Int)(im:List (List UInt8)):Option Nat:=(List.range im.length).find? fun q=>!okP l p c q (im.getD q [])
def wreckF (l:List Ev)(p c:Int)(im:List (List UInt8)):Int:=if chkF l p c ≠ 0∨(im.length:Int) ≠ p then -1 else match firstW l p c im with
 | some q=>q+1
 | none=>0
abbrev wcS (l:List Ev)(p c:Int)(im:List (List UInt8))(i:Nat)(m r:SL):SL:=[(0,0,sEv l),(100,0,i64 p),(200,0,i64 c)] ++ (m ++ ([(2700,0,sUU false im),(2800,0,i64 im.length),(2900,0,i64 i)] ++ r))
abbrev wcQ (v:Int):Ex→SL→Prop:=fun e L=>e=Ex.ret∧RetOk fi69.rs [] (i64 v) L
set_option maxHeartbeats 16000000 in
theorem wcheck_one (l:List Ev)(hE:EvOk l)(p c:Int)(h0:chkF l p c=0)(hp48:p≤48)(im:List (List UInt8))(i:Nat)(h:i < im.length)(hi:(i:Int) < p)(hb:im[i].length≤1000000)(Q:Ex→SL→Prop)
  (hK:∀ L,L=wcS l p c im i [(900,0,i64 i)] [(7500,0,bl (!okP l p c i im[i]))]→WL Try.prog fi69.nt c69_3 L Q) :
  WL Try.prog fi69.nt c69_8 (wcS l p c im i [(900,0,i64 i),(1000,0,sU false im[i])] []) Q:=by
 have hfl:=flush_fn l hE p c i
 have hps:=past_fn l hE p c h0 i hi (flushF l p c i)
 have hop:=open_fn i im[i] hb
 obtain⟨hk1,hk2⟩:=past_ok l p c h0 hE.n i hi (flushF l p c i)
 have hol:=open_len (id:=i) (b:=im[i])
 have eO:okP l p c i im[i]=((decide ((openF i im[i]).2=0) && mayF (pastF l p c (flushF l p c i) i).1 (openF i im[i]).1) || ((decide ((openF i im[i]).2=11) && decide (flushF l p c i=0)) || (decide ((openF i im[i]).2=10) && (pastF l p c (flushF l p c i) i).2))):=rfl
 generalize okP l p c i im[i]=ok at eO hK
 generalize flushF l p c i=fl at *
 generalize pastF l p c fl i=ps at *
 obtain⟨bs,tn⟩:=ps
 generalize openF (i:Int) im[i]=o at *
 obtain⟨bd,code⟩:=o
 simp only at hps hop hk1 hk2 hol eO
 refine WL.sregC (RL.o (by simp;rfl) (RL.call0 false hfl (by simp) (by simp) (RL.o (by simp;rfl) (RL.nil ⟨_,by simp;rfl,?_⟩))))
 refine WL.sregC (RL.o (by simp;rfl) (RL.call0 false hps (by simp) (by simp) (RL.freeze 4400 (RL.o (by simp;rfl) (RL.nil ⟨_,by simp;rfl,?_⟩)))))
 refine WL.sregC (RL.o (by simp;rfl) (RL.call0 false hop (by simp) (by simp) (RL.mv (by decide) (RL.o (by simp;rfl) (RL.nil ⟨_,by simp;rfl,?_⟩)))))
 have fin:∀ L,L=wcS l p c im i [(900,0,i64 i),(1500,0,bl ok)] []→WL Try.prog fi69.nt c69_4 L Q:=fun L hL=>by
  subst hL
  exact WL.sreg (by simp;rfl) (by simp;rfl) (hK _ (by simp))
 by_cases z0:code=0
 ·subst z0
  have hm:=mayp_fn bs (by omega) hk1 tn bd (hol rfl)
  have eO':ok=mayF bs bd:=by rw[eO];simp
  rw[← eO'] at hm
  have tk:List.take bd.length (bm bd)=bm bd:=List.take_of_length_le (by simp)
  refine WL.sregC (RL.o (by simp;rfl) (RL.g (by simp;rfl) (RL.callY0 true (by simp) hm (by simp[tk]) (by simp) ?_)))
  cases ok with
  | true=>exact RL.o (by simp;rfl) (RL.g (by simp;rfl) (RL.g (by simp;rfl) (RL.g (by simp;rfl) (RL.o (by simp;rfl) (RL.g (by simp;rfl) (RL.g (by simp;rfl) (RL.g (by simp;rfl) (RL.o (by simp;rfl) (RL.nil ⟨_,by simp;rfl,fin _ (by simp)⟩)))))))))
  | false=>exact RL.o (by simp;rfl) (RL.g (by simp;rfl) (RL.g (by simp;rfl) (RL.g (by simp;rfl) (RL.o (by simp;rfl) (RL.g (by simp;rfl) (RL.g (by simp;rfl) (RL.g (by simp;rfl) (RL.o (by simp;rfl) (RL.nil ⟨_,by simp;rfl,fin _ (by simp)⟩)))))))))
 ·have z0':(code == 0)=false:=beq_false_of_ne z0
  by_cases z11:code=11
  ·subst z11
   by_cases zf:fl=0
   ·have zf':(fl == 0)=true:=by simp[zf]
    have eO':ok=true:=by rw[eO];simp[zf]
    refine WL.sregC (RL.o (by simp;rfl) (RL.g (by simp;rfl) (RL.callN (by simp) (RL.o (by simp;rfl) (RL.g (by simp;rfl) (RL.g (by simp[zf'];rfl) (RL.g (by simp;rfl) (RL.o (by simp;rfl) (RL.g (by simp;rfl) (RL.g (by simp;rfl) (RL.g (by simp;rfl) (RL.o (by simp;rfl) (RL.nil ⟨_,by simp;rfl,fin _ ?_⟩)))))))))))))
    simp[eO']
   ·have zf':(fl == 0)=false:=beq_false_of_ne zf
    have eO':ok=false:=by rw[eO];simp[zf]
    refine WL.sregC (RL.o (by simp;rfl) (RL.g (by simp;rfl) (RL.callN (by simp) (RL.o (by simp;rfl) (RL.g (by simp;rfl) (RL.g (by simp[zf'];rfl) (RL.g (by simp;rfl) (RL.o (by simp;rfl) (RL.g (by simp;rfl) (RL.g (by simp;rfl) (RL.g (by simp;rfl) (RL.o (by simp;rfl) (RL.nil ⟨_,by simp;rfl,fin _ ?_⟩)))))))))))))
    simp[eO']
  ·have z11':(code == 11)=false:=beq_false_of_ne z11
   by_cases z10:code=10
   ·subst z10
    have eO':ok=tn:=by rw[eO];simp
    subst eO'
    refine WL.sregC (RL.o (by simp;rfl) (RL.g (by simp;rfl) (RL.callN (by simp) (RL.o (by simp;rfl) (RL.g (by simp;rfl) (RL.g (by simp;rfl) (RL.g (by simp;rfl) (RL.o (by simp;rfl) (RL.g (by simp;rfl) (RL.g (by simp;rfl) (RL.g (by simp;rfl) (RL.o (by simp;rfl) (RL.nil ⟨_,by simp;rfl,fin _ ?_⟩)))))))))))))
    simp
   ·have z10':(code == 10)=false:=beq_false_of_ne z10
    have eO':ok=false:=by rw[eO];simp[z0,z11,z10]
    refine WL.sregC (RL.o (by simp[z0'];rfl) (RL.g (by simp;rfl) (RL.callN (by simp) (RL.o (by simp;rfl) (RL.g (by simp[z11'];rfl) (RL.g (by simp;rfl) (RL.g (by simp;rfl) (RL.o (by simp;rfl) (RL.g (by simp[z10'];rfl) (RL.g (by simp;rfl) (RL.g (by simp;rfl) (RL.o (by simp;rfl) (RL.nil ⟨_,by simp;rfl,fin _ ?_⟩)))))))))))))
    simp[eO']
set_option maxHeartbeats 16000000 in
theorem wcheck_fn (l:List Ev)(hE:EvOk l)(p c:Int)(im:List (List UInt8))(hn:im.length≤9223372036854775807)(hb:∀ b ∈ im,b.length≤1000000):FnC Try.prog 69 [] [sEv l,i64 p,i64 c,sUU false im] [] (i64 (wreckF l p c im)):=by
 have hc:=chk_fn l hE p c
 refine FnC.go ok69 rfl ?_
 refine WL.mono (Q':=wcQ (wreckF l p c im)) ?_ fun e L h=>⟨.inr h.1,h.2⟩
 refine WL.sreg (by simp;rfl) (by simp;rfl) ?_
 refine WL.seq (WL.sregC (RL.o (by simp;rfl) (RL.call0 false hc (by simp) (by simp) ?_)))
 by_cases h0:chkF l p c=0
 ·have z:(chkF l p c != 0)=false:=by simp[h0]
  by_cases hl:(im.length:Int)=p
  ·have zl:((im.length:Int) != p)=false:=by simp[hl]
   have hp48:p≤48:=by
    have hb:=(walk_goW noSee () h0).1
    simp only[newBad,Bool.or_eq_false_iff,decide_eq_false_iff_not] at hb
    omega
   have eW:wreckF l p c im=match firstW l p c im with | some q=>(q:Int)+1 | none=>0:=by unfold wreckF;rw[if_neg (by simp[h0,hl])]
   rw[eW]
   clear eW
   refine RL.o (by simp[z];rfl) (RL.g (by simp[zl];rfl) (RL.o (by simp;rfl) (RL.nil ⟨_,by simp;rfl,?_⟩)))
   refine WL.cond (t:=false) (by simp) (by simp) fun _=>WL.skip ?_
   refine WL.seq (WL.sreg (by simp;rfl) (by simp;rfl) ?_)
   refine WL.block (WL.count im.length (fun i=>wcS l p c im i [] []) (fun i=>∀ j,j < i→okP l p c j (im.getD j [])=true) (by simp) (fun j h=>absurd h (Nat.not_lt_zero _)) fun i hi hp=>?_)
   by_cases h:i < im.length
   ·have w:IntKind.wrap .i64 ((i:Int)+1)=((i+1:Nat):Int):=by rw[wrap_small (by omega) (by omega)];omega
    have w2:IntKind.wrap .i64 ((i:Int)+1)=(i:Int)+1:=by rw[wrap_small (by omega) (by omega)]
    have eg:im.getD i []=im[i]:=by simp[h]
    refine WL.sreg (by simp[h];rfl) (by simp;rfl) ?_
    refine WL.seq (WL.cond (t:=true) (by simp[h]) (fun _=>WL.skip ?_) (by simp))
    refine WL.seq (WL.block (WL.sreg (by simp[h];rfl) (by simp;rfl) ?_))
    refine WL.eqL (L':=wcS l p c im i [(900,0,i64 i),(1000,0,sU false im[i])] []) (by simp) (wcheck_one l hE p c h0 hp48 im i h (by omega) (hb _ (List.getElem_mem h)) _ fun L hL=>?_)
    subst hL
    cases ho:okP l p c i im[i] with
    | true =>
     refine WL.cond (t:=false) (by simp[ho]) (by simp) fun _=>WL.skip ?_
     refine WL.reg (RL.run (by simp[w];rfl) ⟨_,by simp;rfl,h,by simp,fun j hj=>?_⟩)
     by_cases e:j=i
     ·subst e;rw[eg];exact ho
     ·exact hp j (by omega)
    | false =>
     have hf:firstW l p c im=some i:=by
      unfold firstW
      rw[List.find?_range_eq_some]
      exact⟨by rw[eg,ho];rfl,List.mem_range.2 h,fun j hj=>by rw[hp j hj];rfl⟩
     refine WL.cond (t:=true) (by simp[ho]) (fun _=>?_) (by simp)
     refine WL.sreg (by simp[w2];rfl) (by simp;rfl) (WL.ret ⟨rfl,?_⟩)
     simp[fi69,hf]
   ·obtain rfl:i=im.length:=by omega
    have hf:firstW l p c im=none:=by
     unfold firstW
     rw[List.find?_eq_none]
     intro j hj
     rw[hp j (List.mem_range.1 hj)];simp
    rw[hf]
    refine WL.sreg (by simp;rfl) (by simp;rfl) ?_
    refine WL.seq (WL.cond (t:=false) (by simp) (by simp) fun _=>WL.exit ?_)
    refine WL.sreg (by simp;rfl) (by simp;rfl) (WL.ret ⟨rfl,?_⟩)
    simp[fi69]
  ·have zl:((im.length:Int) != p)=true:=by simp[hl]
   have eW:wreckF l p c im=-1:=by unfold wreckF;rw[if_pos (.inr hl)]
   refine RL.o (by simp[z];rfl) (RL.g (by simp[zl];rfl) (RL.o (by simp;rfl) (RL.nil ⟨_,by simp;rfl,?_⟩)))
   refine WL.cond (t:=true) (by simp[hl]) (fun _=>?_) (by simp)
   refine WL.sreg (by simp;rfl) (by simp;rfl) (WL.ret ⟨rfl,?_⟩)
   simp[fi69,eW]
 ·have z:(chkF l p c != 0)=true:=by simp[h0]
  have eW:wreckF l p c im=-1:=by unfold wreckF;rw[if_pos (.inl h0)]
  refine RL.o (by simp[z];rfl) (RL.g (by simp;rfl) (RL.o (by simp;rfl) (RL.nil ⟨_,by simp;rfl,?_⟩)))
  refine WL.cond (t:=true) (by simp) (fun _=>?_) (by simp)
  refine WL.sreg (by simp;rfl) (by simp;rfl) (WL.ret ⟨rfl,?_⟩)
  simp[fi69,eW]
end Go.OT
namespace Go.OT
open Go.Proofs
theorem mayF_eq (bs:List (List UInt8))(b:List UInt8):mayF bs b=(bs.any (fun x=>x.take 4 == b.take 4) && bs.any (fun x=>x.drop 4 == b.drop 4)):=by
 unfold mayF
 cases h:bs.any (· == b) with
 | false=>rfl
 | true =>
  obtain⟨x,hx,hxb⟩:=List.any_eq_true.1 h
  have e:x=b:=by simpa using hxb
  have h1:bs.any (fun x=>x.take 4 == b.take 4)=true:=List.any_eq_true.2 ⟨x,hx,by rw[e];simp⟩
  have h2:bs.any (fun x=>x.drop 4 == b.drop 4)=true:=List.any_eq_true.2 ⟨x,hx,by rw[e];simp⟩
  rw[h1,h2];rfl
theorem DoB_write (s:St)(cl:Int)(q:Op)(hk:q.Kind=4):(DoB s cl q).2.1.Handles=s.Handles:=by
 unfold DoB
 split
 ·rfl
 ·split
  ·simp only[Step,hk];simp
  ·rfl
theorem stepR_write (s:St)(e:Ev)(hk:e.op.Kind=4):(stepR s e).2.Handles=s.Handles:=by
 unfold stepR
 split
 ·rfl
 ·exact DoB_write _ _ _ hk
theorem wrF_held (s:St)(hs:OkSt s)(e:Ev)(hc0:0≤e.Client)(hc1:e.Client < s.Handles.length)(q:Nat):wrF e s q=(decide (e.op.Kind=4) && decide (heldF s e.Client e.op.Handle=q)):=by
 obtain⟨c,hc⟩:=Int.eq_ofNat_of_zero_le hc0
 have hcl:c < s.Handles.length:=by omega
 have hcl':¬ s.Handles.length≤c:=by omega
 have h6:s.Handles[c].length=6:=hs.l6 _ (List.getElem_mem hcl)
 unfold wrF heldF
 rw[hc]
 by_cases k:e.op.Kind=4
 ·by_cases h0:0≤e.op.Handle
  ·by_cases h1:e.op.Handle < 6
   ·have n1:¬ e.op.Handle < 0:=by omega
    have n2:¬ (6:Int)≤e.op.Handle:=by omega
    have n3:¬ (c:Int) < 0:=by omega
    simp[k,h0,h1,n1,n2,n3,hcl,hcl',h6]
   ·have n2:(6:Int)≤e.op.Handle:=by omega
    simp[k,h1,hcl,h6,n2]
  ·have n1:e.op.Handle < 0:=by omega
   simp[k,h0,n1]
 ·simp[k]
abbrev rpS (l:List Ev)(q:Nat)(fl:Int)(bd:List UInt8)(code:Int)(s:St)(tn f la:Bool)(j:Nat)(r:SL):SL :=
 [(0,0,sEv l),(300,0,i64 q),(1100,0,i64 fl),(1200,0,str bd),(1300,0,i64 code)] ++ (rcB 14 s ++ ([(1500,0,sI true (ordF l)),(1600,0,bl tn),(1700,0,bl f),(1800,0,bl la),(1900,0,i64 j)] ++ r))
set_option maxHeartbeats 16000000 in
theorem rp_body (l:List Ev)(q:Nat)(fl:Int)(bd:List UInt8)(code:Int)(hbd:code=0→bd.length=16)(s:St)(hs:OkSt s)(hq:q < s.There.length)(tn f la:Bool)(j:Nat)(e:Ev)(r:SL)(hr:r=[]∨r=[(10300,0,bl false)])(Q:Ex→SL→Prop)
  (hK:∀ L,(∃ r,(r=[]∨r=[(11800,0,bl false)])∧L=rpS l q fl bd code s tn (f || (decide (fl≤e.Stamp) && (pThere s q && (decide (code=0) && ((s.Body.getD q []).take 4 == bd.take 4))))) (la || (decide (fl≤e.Stamp) && (pThere s q && (decide (code=0) && ((s.Body.getD q []).drop 4 == bd.drop 4))))) j r)→Q .nrm L) :
  WL Try.prog fi119.nt c119_8 (rpS l q fl bd code s tn f la j (bxE 20 e ++ r)) Q:=by
 have hq':q+1≤s.There.length:=hq
 have hqb:q < s.Body.length:=by rw[hs.bn];exact hq
 have hqb':q+1≤s.Body.length:=hqb
 have h16:s.Body[q].length=16:=hs.b16 _ (List.getElem_mem hqb)
 have hgd:s.Body.getD q []=s.Body[q]:=by simp[hqb]
 rw[hgd] at hK
 obtain⟨th,hth⟩:∃ th,s.There[q]=th:=⟨_,rfl⟩
 have eth:pThere s q=th:=by simp[pThere,hq,hth]
 rw[eth] at hK
 have no:(decide (fl≤e.Stamp) && (th && decide (code=0)))=false→∀ L,L=rpS l q fl bd code s tn f la j [(11800,0,bl false)]→WL Try.prog fi119.nt c119_7 L Q:=fun hz L hL=>by
  subst hL
  refine WL.cond (t:=false) (by simp) (by simp) fun _=>WL.skip (hK _ ⟨_,.inr rfl,?_⟩)
  have e1:∀ x:Bool,(decide (fl≤e.Stamp) && (th && (decide (code=0) && x)))=false:=fun x=>by
   revert hz
   cases decide (fl≤e.Stamp)<;>cases th<;>cases decide (code=0)<;>simp
  rw[e1,e1]
  simp
 by_cases k1:fl≤e.Stamp
 ·cases th with
  | true =>
   by_cases k2:code=0
   ·have k2':(code == 0)=true:=by simp[k2]
    have hb16:=hbd k2
    have x1:(strOf s.Body[q]).extract 0 4=strOf (s.Body[q].take 4):=by rw[strOf_ext];simp
    have x2:(strOf bd).extract 0 4=strOf (bd.take 4):=by rw[strOf_ext];simp
    have x3:(strOf s.Body[q]).extract 4 16=strOf (s.Body[q].drop 4):=by rw[strOf_ext,List.take_of_length_le (by simp[h16])]
    have x4:(strOf bd).extract 4 16=strOf (bd.drop 4):=by rw[strOf_ext,List.take_of_length_le (by simp[hb16])]
    have z1:=strOf_size s.Body[q]
    have z2:=strOf_size bd
    have go:WL Try.prog fi119.nt c119_7 (rpS l q fl bd code s tn f la j [(11800,0,bl true)]) Q:=by
     refine WL.cond (t:=true) (by simp) (fun _=>?_) (by simp)
     have tail:∀ f',WL Try.prog fi119.nt c119_5 (rpS l q fl bd code s tn f' la j []) (fun e L=>e=Ex.nrm∧L=rpS l q fl bd code s tn f' (la || (s.Body[q].drop 4 == bd.drop 4)) j []):=fun f'=>by
      cases la with
      | true =>
       refine WL.draw mixed (by simp[cleanL,noH]) (DL.run (by simp;exact⟨rfl,rfl⟩) ⟨by kernel_rfl,_,by simp;rfl,rfl,?_⟩)
       simp
      | false =>
       refine WL.draw mixed (by simp[cleanL,noH]) (DL.run (by simp[hq,hq',hqb,hqb',z1,z2,h16,hb16,x3,x4,strOf_inj];exact⟨rfl,rfl⟩) ⟨by kernel_rfl,_,by simp;rfl,rfl,?_⟩)
       simp
     have done:∀ f',f'=(f || (s.Body[q].take 4 == bd.take 4))→WL Try.prog fi119.nt c119_5 (rpS l q fl bd code s tn f' la j []) Q:=fun f' hf=>by
      refine WL.mono (tail f') ?_
      rintro x L ⟨rfl,rfl⟩
      refine hK _ ⟨[],.inl rfl,?_⟩
      simp only[k1,k2,decide_true,Bool.true_and,hf]
     cases f with
     | true =>
      refine WL.seq (WL.draw mixed (by simp[cleanL,noH]) (DL.run (by simp;exact⟨rfl,rfl⟩) ⟨by kernel_rfl,_,by simp;rfl,?_⟩))
      exact WL.eqL (by simp) (done true (by simp))
     | false =>
      refine WL.seq (WL.draw mixed (by simp[cleanL,noH]) (DL.run (by simp[hq,hq',hqb,hqb',z1,z2,h16,hb16,x1,x2,strOf_inj];exact⟨rfl,rfl⟩) ⟨by kernel_rfl,_,by simp;rfl,?_⟩))
      exact WL.eqL (by simp) (done (s.Body[q].take 4 == bd.take 4) (by simp))
    rcases hr with rfl | rfl
    ·exact WL.sreg (by simp[k1,hq,hq',hth,k2'];rfl) (by simp;rfl) (WL.eqL (by simp) go)
    ·exact WL.sreg (by simp[k1,hq,hq',hth,k2'];rfl) (by simp;rfl) (WL.eqL (by simp) go)
   ·have k2':(code == 0)=false:=beq_false_of_ne k2
    rcases hr with rfl | rfl
    ·exact WL.sreg (by simp[k1,hq,hq',hth,k2'];rfl) (by simp;rfl) (no (by simp[k2]) _ (by simp))
    ·exact WL.sreg (by simp[k1,hq,hq',hth,k2'];rfl) (by simp;rfl) (no (by simp[k2]) _ (by simp))
  | false =>
   rcases hr with rfl | rfl
   ·exact WL.sreg (by simp[k1,hq,hq',hth];rfl) (by simp;rfl) (no (by simp) _ (by simp))
   ·exact WL.sreg (by simp[k1,hq,hq',hth];rfl) (by simp;rfl) (no (by simp) _ (by simp))
 ·rcases hr with rfl | rfl
  ·exact WL.sreg (by simp[k1];rfl) (by simp;rfl) (no (by simp[k1]) _ (by simp))
  ·exact WL.sreg (by simp[k1];rfl) (by simp;rfl) (no (by simp[k1]) _ (by simp))
end Go.OT
namespace Go.OT
open Go.Proofs
def tnQ (fl:Int)(q:Nat)(t:St)(e:Ev)(hd:Int)(ws:Bool):Bool:=decide (fl < e.Stamp) && ((decide (e.op.Kind=4) && decide (hd=q)) || (decide (e.op.Kind=1) && (!ws && pThere t q)))
set_option maxHeartbeats 16000000 in
theorem rp_torn (l:List Ev)(q:Nat)(fl:Int)(bd:List UInt8)(code:Int)(t:St)(hq:q < t.There.length)(tn f la:Bool)(j:Nat)(e:Ev)(hd:Int)(ws:Bool)(Q:Ex→SL→Prop)
  (hK:∀ r L,(r=[]∨r=[(10300,0,bl false)])→L=rpS l q fl bd code t (tn || tnQ fl q t e hd ws) f la j (bxE 20 e ++ r)→WL Try.prog fi119.nt c119_8 L Q) :
  WL Try.prog fi119.nt c119_9 (rpS l q fl bd code t tn f la j (bxE 20 e ++ [(2100,0,i64 hd),(2200,0,bl ws)])) Q:=by
 have hq':q+1≤t.There.length:=hq
 obtain⟨th,hth⟩:∃ th,t.There[q]=th:=⟨_,rfl⟩
 have eth:pThere t q=th:=by simp[pThere,hq,hth]
 have eQ:tnQ fl q t e hd ws=(decide (fl < e.Stamp) && ((decide (e.op.Kind=4) && decide (hd=q)) || (decide (e.op.Kind=1) && (!ws && th)))):=by unfold tnQ;rw[eth]
 generalize tnQ fl q t e hd ws=x at eQ hK
 have yes:x=true→∀ L,L=rpS l q fl bd code t tn f la j (bxE 20 e ++ [(10300,0,bl true)])→WL Try.prog fi119.nt c119_4 L (Ex.thenL (fun L'=>WL Try.prog fi119.nt c119_8 L' Q) Q):=fun h L hL=>by
  subst hL h
  refine WL.cond (t:=true) (by simp) (fun _=>?_) (by simp)
  exact WL.reg (RL.run (by simp;rfl) ⟨_,by simp;rfl,hK [] _ (.inl rfl) (by simp)⟩)
 have no:x=false→∀ L,L=rpS l q fl bd code t tn f la j (bxE 20 e ++ [(10300,0,bl false)])→WL Try.prog fi119.nt c119_4 L (Ex.thenL (fun L'=>WL Try.prog fi119.nt c119_8 L' Q) Q):=fun h L hL=>by
  subst hL h
  refine WL.cond (t:=false) (by simp) (by simp) fun _=>WL.skip (hK _ _ (.inr rfl) (by simp))
 by_cases k1:fl < e.Stamp
 ·by_cases k4:e.op.Kind=4
  ·have k4':(e.op.Kind == 4)=true:=by simp[k4]
   have k1':(e.op.Kind == 1)=false:=beq_false_of_ne (by omega)
   by_cases hh:hd=q
   ·have hh':(hd == (q:Int))=true:=by simp[hh]
    exact WL.seq (WL.sreg (by simp[k1,k4',hh'];rfl) (by simp;rfl) (yes (by simp[eQ,k1,k4,hh]) _ (by simp)))
   ·have hh':(hd == (q:Int))=false:=beq_false_of_ne hh
    exact WL.seq (WL.sreg (by simp[k1,k4',k1',hh'];rfl) (by simp;rfl) (no (by simp[eQ,k4,hh]) _ (by simp)))
  ·have k4':(e.op.Kind == 4)=false:=beq_false_of_ne k4
   by_cases kk:e.op.Kind=1
   ·have kk':(e.op.Kind == 1)=true:=by simp[kk]
    cases ws with
    | true=>exact WL.seq (WL.sreg (by simp[k1,k4',kk'];rfl) (by simp;rfl) (no (by simp[eQ,k4]) _ (by simp)))
    | false =>
     cases th with
     | true=>exact WL.seq (WL.sreg (by simp[k1,k4',kk',hq,hq',hth];rfl) (by simp;rfl) (yes (by simp[eQ,k1,kk]) _ (by simp)))
     | false=>exact WL.seq (WL.sreg (by simp[k1,k4',kk',hq,hq',hth];rfl) (by simp;rfl) (no (by simp[eQ,k4]) _ (by simp)))
   ·have kk':(e.op.Kind == 1)=false:=beq_false_of_ne kk
    exact WL.seq (WL.sreg (by simp[k1,k4',kk'];rfl) (by simp;rfl) (no (by simp[eQ,k4,kk]) _ (by simp)))
 ·exact WL.seq (WL.sreg (by simp[k1];rfl) (by simp;rfl) (no (by simp[eQ,k1]) _ (by simp)))
set_option maxHeartbeats 16000000 in
theorem rp_event (l:List Ev)(q:Nat)(fl:Int)(bd:List UInt8)(code:Int)(hbd:code=0→bd.length=16)(s:St)(hs:OkSt s)(hq:q < s.There.length)(tn f la:Bool)(j:Nat)(e:Ev)(hE0:0≤e.End)(hD:e.op.Data.length≤1000)(Q:Ex→SL→Prop)
  (hK:∀ L,(∃ r,(r=[]∨r=[(11800,0,bl false)])∧L=rpS l q fl bd code (stepR s e).2 (tn || tnQ fl q (stepR s e).2 e (heldF s e.Client e.op.Handle) (pThere s q)) (f || (decide (fl≤e.Stamp) && (pThere (stepR s e).2 q && (decide (code=0) && (((stepR s e).2.Body.getD q []).take 4 == bd.take 4))))) (la || (decide (fl≤e.Stamp) && (pThere (stepR s e).2 q && (decide (code=0) && (((stepR s e).2.Body.getD q []).drop 4 == bd.drop 4))))) j r)→Q .nrm L) :
  WL Try.prog fi119.nt c119_12 (rpS l q fl bd code s tn f la j (bxE 20 e)) Q:=by
 have hq':q+1≤s.There.length:=hq
 have hh:=held_fn s e.Client e.op.Handle
 have hst:=refstp_fn s hs e hE0 hD
 have hs':=stepR_ok hs e
 have hqt:q < (stepR s e).2.There.length:=by rw[stepR_tlen];exact hq
 obtain⟨th,hth⟩:∃ th,s.There[q]=th:=⟨_,rfl⟩
 have eth:pThere s q=th:=by simp[pThere,hq,hth]
 rw[eth] at hK
 have side:=side_stp (stepR s e).2 s
 generalize (stepR s e).2=t at *
 generalize heldF s e.Client e.op.Handle=hd at *
 refine WL.sregC (RL.o (by simp;rfl) (RL.call0 true hh (by simp) (by simp) (RL.o (by simp;rfl) (RL.nil ⟨_,by simp;rfl,?_⟩))))
 refine WL.sreg (by simp[hq,hq',hth];rfl) (by simp;rfl) ?_
 refine WL.sregC (RL.o (by simp;rfl) (RL.call true [(1401,[]),(1402,[]),(1403,[])] hst (by simp) (by simp) (by simp[gkey]) side (RL.nil ⟨_,by simp;rfl,?_⟩)))
 refine WL.eqL (by simp) (rp_torn l q fl bd code t hqt tn f la j e hd th Q fun r L hr hL=>?_)
 subst hL
 exact rp_body l q fl bd code hbd t hs' hqt _ f la j e r hr Q hK
end Go.OT
namespace Go.OT
open Go.Proofs
abbrev rqS (l:List Ev)(q:Nat)(code:Int)(S:St)(tn f la:Bool)(i:Nat)(r:SL):SL :=
 [(0,0,sEv l),(300,0,i64 q),(1300,0,i64 code)] ++ (rcB 14 S ++ ([(1600,0,bl tn),(1700,0,bl f),(1800,0,bl la),(2300,0,i64 i)] ++ r))
abbrev rqQ (v:Bool):Ex→SL→Prop:=fun e L=>e=Ex.ret∧RetOk fi119.rs [] (bl v) L
def lateQ (S:St)(q:Nat)(e:Ev):Bool:=decide (e.Stamp=0) && (decide (e.End=0) && (decide (e.op.Kind=4) && decide (heldF S e.Client e.op.Handle=q)))
set_option maxHeartbeats 16000000 in
theorem rq_late (l:List Ev)(hn:l.length≤1000)(q:Nat)(code:Int)(S:St)(tn f la:Bool)(v:Bool)
  (hv:v=if code=10 then (tn || l.any (lateQ S q)) else decide (code=0) && (f && la)) :
  WL Try.prog fi119.nt c119_28 ([(0,0,sEv l),(300,0,i64 q),(1300,0,i64 code)] ++ (rcB 14 S ++ [(1600,0,bl tn),(1700,0,bl f),(1800,0,bl la)])) (rqQ v):=by
 refine WL.seq (WL.sreg (by simp;rfl) (by simp;rfl) ?_)
 refine WL.block (WL.count l.length (fun i=>rqS l q code S (tn || (l.take i).any (lateQ S q)) f la i []) (fun _=>True) (by simp) trivial fun i hi _=>?_)
 by_cases h:i < l.length
 ·have w:IntKind.wrap .i64 ((i:Int)+1)=((i+1:Nat):Int):=by rw[wrap_small (by omega) (by omega)];omega
  have f1:=fmE_drop (o:=false) (r:=false) h
  have g1:14≤l.length * 14 - i * 14:=by omega
  have hh:=held_fn S l[i].Client l[i].op.Handle
  have e1:(tn || (l.take (i+1)).any (lateQ S q))=((tn || (l.take i).any (lateQ S q)) || lateQ S q l[i]):=by
   rw[List.take_succ_eq_append_getElem h,List.any_append]
   simp[Bool.or_assoc]
  have eL:lateQ S q l[i]=(decide (l[i].Stamp=0) && (decide (l[i].End=0) && (decide (l[i].op.Kind=4) && decide (heldF S l[i].Client l[i].op.Handle=q)))):=rfl
  rw[e1]
  generalize (tn || (l.take i).any (lateQ S q))=x
  generalize lateQ S q l[i]=y at eL ⊢
  refine WL.seq (WL.sreg (by simp[h];rfl) (by simp;rfl) ?_)
  refine WL.cond (t:=true) (by simp[h]) (fun _=>WL.skip ?_) (by simp)
  refine WL.seq (WL.block (WL.seq ?_))
  have fin:∀ z L,z=y→L=rqS l q code S x f la i [(18800,0,bl z)]→∀ Q,(∀ L',(i < l.length∧L'=rqS l q code S (x || y) f la (i+1) []∧True)→Q Ex.nrm L')→WL Try.prog fi119.nt c119_19 L (Ex.blkL 3 (Ex.thenL (fun L'=>WL Try.prog fi119.nt c119_20 L' Q) Q)):=fun z L hz hL Q hQ=>by
   subst hL
   cases z with
   | true =>
    refine WL.cond (t:=true) (by simp) (fun _=>?_) (by simp)
    refine WL.reg (RL.run (by simp;rfl) ⟨_,by simp;rfl,?_⟩)
    refine WL.reg (RL.run (by simp[w];rfl) ⟨_,by simp;rfl,hQ _ ⟨h,?_,trivial⟩⟩)
    simp[← hz]
   | false =>
    refine WL.cond (t:=false) (by simp) (by simp) fun _=>WL.skip ?_
    refine WL.reg (RL.run (by simp[w];rfl) ⟨_,by simp;rfl,hQ _ ⟨h,?_,trivial⟩⟩)
    simp[← hz]
  by_cases k1:l[i].Stamp=0
  ·have k1':(l[i].Stamp == 0)=true:=by simp[k1]
   by_cases k2:l[i].End=0
   ·have k2':(l[i].End == 0)=true:=by simp[k2]
    by_cases k3:l[i].op.Kind=4
    ·have k3':(l[i].op.Kind == 4)=true:=by simp[k3]
     generalize heldF S l[i].Client l[i].op.Handle=hd at hh eL
     refine WL.draw mixed (by simp[cleanL,noH]) (DL.o (by simp[h,f1,g1,k1'];exact⟨rfl,rfl⟩) (DL.g (by simp[h,f1,g1,k2'];exact⟨rfl,rfl⟩) (DL.o (by simp;exact⟨rfl,rfl⟩) (DL.g (by simp[h,f1,g1,k3'];exact⟨rfl,rfl⟩) (DL.o (by simp;exact⟨rfl,rfl⟩) (DL.g (by simp[h,f1,g1];exact⟨rfl,rfl⟩) ?_))))))
     refine DL.callY0 true (by simp) hh (by simp) (by simp) (DL.g (by simp;exact⟨rfl,rfl⟩) (DL.o (by simp;exact⟨rfl,rfl⟩) (DL.nil ⟨by kernel_rfl,_,by simp;rfl,?_⟩)))
     refine fin (hd == (q:Int)) _ ?_ (by simp) _ fun L h=>h
     rw[eL];simp only[k1,k2,k3,decide_true,Bool.true_and]
     by_cases e:hd=q<;>simp [e]
    ·have k3':(l[i].op.Kind == 4)=false:=beq_false_of_ne k3
     refine WL.draw mixed (by simp[cleanL,noH]) (DL.o (by simp[h,f1,g1,k1'];exact⟨rfl,rfl⟩) (DL.g (by simp[h,f1,g1,k2'];exact⟨rfl,rfl⟩) (DL.o (by simp;exact⟨rfl,rfl⟩) (DL.g (by simp[h,f1,g1,k3'];exact⟨rfl,rfl⟩) (DL.o (by simp;exact⟨rfl,rfl⟩) (DL.g (by simp[h,f1,g1];exact⟨rfl,rfl⟩) ?_))))))
     refine DL.callN (by simp) (DL.g (by simp;exact⟨rfl,rfl⟩) (DL.o (by simp;exact⟨rfl,rfl⟩) (DL.nil ⟨by kernel_rfl,_,by simp;rfl,?_⟩)))
     exact fin false _ (by rw[eL];simp[k3]) (by simp) _ fun L h=>h
   ·have k2':(l[i].End == 0)=false:=beq_false_of_ne k2
    refine WL.draw mixed (by simp[cleanL,noH]) (DL.o (by simp[h,f1,g1,k1'];exact⟨rfl,rfl⟩) (DL.g (by simp[h,f1,g1,k2'];exact⟨rfl,rfl⟩) (DL.o (by simp;exact⟨rfl,rfl⟩) (DL.g (by simp[h,f1,g1];exact⟨rfl,rfl⟩) (DL.o (by simp;exact⟨rfl,rfl⟩) (DL.g (by simp[h,f1,g1];exact⟨rfl,rfl⟩) ?_))))))
    refine DL.callN (by simp) (DL.g (by simp;exact⟨rfl,rfl⟩) (DL.o (by simp;exact⟨rfl,rfl⟩) (DL.nil ⟨by kernel_rfl,_,by simp;rfl,?_⟩)))
    exact fin false _ (by rw[eL];simp[k2]) (by simp) _ fun L h=>h
  ·have k1':(l[i].Stamp == 0)=false:=beq_false_of_ne k1
   refine WL.draw mixed (by simp[cleanL,noH]) (DL.o (by simp[h,f1,g1,k1'];exact⟨rfl,rfl⟩) (DL.g (by simp[h,f1,g1];exact⟨rfl,rfl⟩) (DL.o (by simp;exact⟨rfl,rfl⟩) (DL.g (by simp[h,f1,g1];exact⟨rfl,rfl⟩) (DL.o (by simp;exact⟨rfl,rfl⟩) (DL.g (by simp[h,f1,g1];exact⟨rfl,rfl⟩) ?_))))))
   refine DL.callN (by simp) (DL.g (by simp;exact⟨rfl,rfl⟩) (DL.o (by simp;exact⟨rfl,rfl⟩) (DL.nil ⟨by kernel_rfl,_,by simp;rfl,?_⟩)))
   exact fin false _ (by rw[eL];simp[k1]) (by simp) _ fun L h=>h
 ·obtain rfl:i=l.length:=by omega
  rw[List.take_length]
  generalize (tn || l.any (lateQ S q))=x at hv ⊢
  refine WL.seq (WL.sreg (by simp;rfl) (by simp;rfl) ?_)
  refine WL.cond (t:=false) (by simp) (by simp) fun _=>WL.exit ?_
  by_cases k10:code=10
  ·have k10':(code == 10)=true:=by simp[k10]
   rw[if_pos k10] at hv
   refine WL.seq (WL.sreg (by simp[k10'];rfl) (by simp;rfl) ?_)
   refine WL.cond (t:=true) (by simp[k10']) (fun _=>?_) (by simp)
   refine WL.sreg (by simp;rfl) (by simp;rfl) (WL.ret ⟨rfl,?_⟩)
   simp[fi119,hv]
  ·have k10':(code == 10)=false:=beq_false_of_ne k10
   rw[if_neg k10] at hv
   refine WL.seq (WL.sreg (by simp[k10'];rfl) (by simp;rfl) ?_)
   refine WL.cond (t:=false) (by simp[k10']) (by simp) fun _=>WL.skip ?_
   by_cases k0:code=0
   ·have k0':(code == 0)=true:=by simp[k0]
    cases f with
    | true =>
     refine WL.sreg (by simp[k0',k10'];rfl) (by simp;rfl) (WL.ret ⟨rfl,?_⟩)
     simp[fi119,hv,k0]
    | false =>
     refine WL.sreg (by simp[k0',k10'];rfl) (by simp;rfl) (WL.ret ⟨rfl,?_⟩)
     simp[fi119,hv,k0]
   ·have k0':(code == 0)=false:=beq_false_of_ne k0
    refine WL.sreg (by simp[k0',k10'];rfl) (by simp;rfl) (WL.ret ⟨rfl,?_⟩)
    simp[fi119,hv,k0]
end Go.OT
namespace Go.OT
open Go.Proofs
theorem tnQ_eq (fl:Int)(q:Nat)(s:St)(hs:OkSt s)(e:Ev)(hc0:0≤e.Client)(hc1:e.Client < s.Handles.length) :
  tnQ fl q (stepR s e).2 e (heldF s e.Client e.op.Handle) (pThere s q)=(decide (fl < e.Stamp) && ((decide (e.op.Kind=1) && (pThere (stepR s e).2 q && !pThere s q)) || wrF e (stepR s e).2 q)):=by
 have h1:=wrF_held (stepR s e).2 (stepR_ok hs e) e hc0 (by rw[stepR_hlen];exact hc1) q
 rw[h1]
 unfold tnQ
 congr 1
 by_cases k:e.op.Kind=4
 ·have hw:=stepR_write s e k
  have:heldF (stepR s e).2 e.Client e.op.Handle=heldF s e.Client e.op.Handle:=by unfold heldF;rw[hw]
  rw[this]
  have k1:¬ e.op.Kind=1:=by omega
  simp[k]
 ·simp[k]
  cases decide (e.op.Kind=1)<;>cases pThere s q<;>cases pThere (stepR s e).2 q<;>rfl
def fsT (code:Int)(bd:List UInt8)(bs:List (List UInt8)):Bool:=decide (code=0) && bs.any (fun x=>x.take 4 == bd.take 4)
def lsT (code:Int)(bd:List UInt8)(bs:List (List UInt8)):Bool:=decide (code=0) && bs.any (fun x=>x.drop 4 == bd.drop 4)
theorem fsT_see (code:Int)(bd:List UInt8)(l:List Ev)(fl:Int)(q:Nat)(a:Pst)(x:Int)(t:St):fsT code bd (seeP l fl q a x t).1=(fsT code bd a.1 || (decide (fl≤(atE l x).Stamp) && (pThere t q && (decide (code=0) && ((t.Body.getD q []).take 4 == bd.take 4))))):=by
 simp only[seeP,seeB,fsT]
 split
 ·rename_i h
  simp only[Bool.and_eq_true,decide_eq_true_eq] at h
  rw[List.any_append]
  simp only[h.1,h.2,decide_true,Bool.true_and,List.any_cons,List.any_nil,Bool.or_false]
  cases decide (code=0)<;>simp
 ·rename_i h
  have:(decide (fl≤(atE l x).Stamp) && pThere t q)=false:=by simpa using h
  cases h1:decide (fl≤(atE l x).Stamp) with
  | false=>simp
  | true=>rw [h1] at this;simp only[Bool.true_and] at this;rw[this];simp
theorem lsT_see (code:Int)(bd:List UInt8)(l:List Ev)(fl:Int)(q:Nat)(a:Pst)(x:Int)(t:St):lsT code bd (seeP l fl q a x t).1=(lsT code bd a.1 || (decide (fl≤(atE l x).Stamp) && (pThere t q && (decide (code=0) && ((t.Body.getD q []).drop 4 == bd.drop 4))))):=by
 simp only[seeP,seeB,lsT]
 split
 ·rename_i h
  simp only[Bool.and_eq_true,decide_eq_true_eq] at h
  rw[List.any_append]
  simp only[h.1,h.2,decide_true,Bool.true_and,List.any_cons,List.any_nil,Bool.or_false]
  cases decide (code=0)<;>simp
 ·rename_i h
  have:(decide (fl≤(atE l x).Stamp) && pThere t q)=false:=by simpa using h
  cases h1:decide (fl≤(atE l x).Stamp) with
  | false=>simp
  | true=>rw [h1] at this;simp only[Bool.true_and] at this;rw[this];simp
theorem lateQ_eq {l:List Ev}{c:Int}(ht:∀ j,j < l.length→timesF l j c=true)(S:St)(hS:OkSt S)(hc:(S.Handles.length:Int)=c)(q:Nat):(l.any fun e=>decide (e.Stamp=0) && wrF e S q)=l.any (lateQ S q):=by
 rw[Bool.eq_iff_iff,List.any_eq_true,List.any_eq_true]
 have key:∀ e ∈ l,(decide (e.Stamp=0) && wrF e S q)=lateQ S q e:=fun e he=>by
  obtain⟨u,hu,rfl⟩:=List.mem_iff_getElem.1 he
  have h1:=times_client hu (ht u hu)
  have h2:=ht u hu
  rw[timesF_at hu] at h2
  rw[wrF_held S hS _ h1.1 (by omega) q]
  unfold lateQ
  by_cases k:l[u].Stamp=0
  ·have hE:l[u].End=0:=by
    simp only[timesE,Bool.and_eq_true,Bool.not_eq_true',tmBad,tmStamp,Bool.or_eq_false_iff,decide_eq_false_iff_not,Bool.and_eq_false_iff] at h2
    omega
   simp[k,hE]
  ·simp[k]
 exact⟨fun ⟨e,he,h⟩=>⟨e,he,by rw[← key e he];exact h⟩,fun ⟨e,he,h⟩=>⟨e,he,by rw[key e he];exact h⟩⟩
theorem okP_eq (l:List Ev)(p c:Int)(q:Nat)(b:List UInt8):okP l p c q b=if (openF q b).2=11 then decide (flushF l p c q=0) else if (openF q b).2=10 then (pastF l p c (flushF l p c q) q).2 else decide ((openF q b).2=0) && (fsT (openF q b).2 (openF q b).1 (pastF l p c (flushF l p c q) q).1 && lsT (openF q b).2 (openF q b).1 (pastF l p c (flushF l p c q) q).1):=by
 unfold okP fsT lsT
 rw[mayF_eq]
 by_cases k11:(openF q b).2=11
 ·simp[k11]
 ·by_cases k10:(openF q b).2=10
  ·simp[k10]
  ·by_cases k0:(openF q b).2=0
   ·simp[k0]
   ·simp[k11,k10,k0]
set_option maxHeartbeats 16000000 in
theorem refpage_fn (l:List Ev)(hE:EvOk l)(p c:Int)(h0:chkF l p c=0)(q:Nat)(hq:(q:Int) < p)(b:List UInt8)(hb:b.length≤1000000):FnC Try.prog 119 [] [sEv l,i64 p,i64 c,i64 q,str b] [] (bl (okP l p c q b)):=by
 have hn:=hE.n
 have hfl:=refflush_fn l hE p c q
 have hop:=refopen_fn q b hb
 have hol:=open_len (id:=q) (b:=b)
 have eO:=okP_eq l p c q b
 generalize okP l p c q b=ok at eO ⊢
 generalize flushF l p c q=fl at *
 generalize openF (q:Int) b=o at *
 obtain⟨bd,code⟩:=o
 simp only at hop hol eO
 obtain⟨hnb,hw0,hg0,htm⟩:=walk_goW (seeP l fl q) ([],false,false) h0
 have en:newSt p c=⟨List.replicate p.toNat false,List.replicate p.toNat z16,List.replicate c.toNat [-1,-1,-1,-1,-1,-1]⟩:=by unfold newSt;rw[hnb];rfl
 have hp1:1≤p∧p≤48∧1≤c∧c≤6:=by
  have:=hnb
  simp only[newBad,Bool.or_eq_false_iff,decide_eq_false_iff_not] at this
  omega
 refine FnC.go ok119 rfl ?_
 refine WL.mono (Q':=rqQ ok) ?_ fun e L h=>⟨.inr h.1,h.2⟩
 refine WL.sreg (by simp;rfl) (by simp;rfl) ?_
 refine WL.sregC (RL.o (by simp;rfl) (RL.call0 false hfl (by simp) (by simp) (RL.o (by simp;rfl) (RL.nil ⟨_,by simp;rfl,?_⟩))))
 refine WL.sregC (RL.o (by simp;rfl) (RL.call0 false hop (by simp) (by simp) (RL.o (by simp;rfl) (RL.nil ⟨_,by simp;rfl,?_⟩))))
 by_cases k11:code=11
 ·have k11':(code == 11)=true:=by simp[k11]
  rw[if_pos k11] at eO
  refine WL.seq (WL.sreg (by simp[k11'];rfl) (by simp;rfl) ?_)
  refine WL.cond (t:=true) (by simp[k11']) (fun _=>?_) (by simp)
  refine WL.sreg (by simp;rfl) (by simp;rfl) (WL.ret ⟨rfl,?_⟩)
  by_cases z:fl=0<;>simp [fi119,eO,z]
 have k11':(code == 11)=false:=beq_false_of_ne k11
 rw[if_neg k11] at eO
 refine WL.seq (WL.sreg (by simp[k11'];rfl) (by simp;rfl) ?_)
 refine WL.cond (t:=false) (by simp[k11']) (by simp) fun _=>WL.skip ?_
 refine WL.sregC (RL.o (by simp;rfl) (RL.call0 false (refnew_fn p c) (by simp) (by simp) (RL.o (by simp;rfl) (RL.nil ⟨_,by simp;rfl,?_⟩))))
 refine WL.sregC (RL.o (by simp;rfl) (RL.call0 false (reforder_fn l hn) (by simp) (by simp) (RL.o (by simp;rfl) (RL.nil ⟨_,by simp;rfl,?_⟩))))
 refine WL.sreg (by simp;rfl) (by simp;rfl) ?_
 have hfin:(finF l p c).1=(goW l (seeP l fl q) (newSt p c) ([],false,false) (ordF l)).2.1:=by
  have h1:=(walk_goW noSee () h0).2.1
  unfold finF
  rw[if_pos h0,h1]
  exact (goW_code l noSee (seeP l fl q) (ordF l) (newSt p c) () ([],false,false)).2
 have hSok:OkSt (finF l p c).1:=finF_ok (by unfold finF;rw[if_pos h0])
 have hSh:((finF l p c).1.Handles.length:Int)=c:=by
  rw[hfin]
  simp only[goW_hlen,en,List.length_replicate]
  omega
 have hlate:=lateQ_eq htm (finF l p c).1 hSok hSh q
 have eB:(pastF l p c fl q).1=(goW l (seeP l fl q) (newSt p c) ([],false,false) (ordF l)).2.2.1:=by unfold pastF;rw[hw0]
 have eT:(pastF l p c fl q).2=((goW l (seeP l fl q) (newSt p c) ([],false,false) (ordF l)).2.2.2.1 || l.any (lateQ (finF l p c).1 q)):=by unfold pastF;rw[hw0,← hlate]
 rw[eB,eT,hfin] at eO
 have hok:=newSt_ok' hnb
 have hws:pThere (newSt p c) q=false:=by
  rw[en]
  simp[pThere,List.getD_eq_getElem?_getD,List.getElem?_replicate]
  split<;>rfl
 have hqn:q < (newSt p c).There.length:=by rw[en];simp;omega
 have hhn:((newSt p c).Handles.length:Int)=c:=by rw[en];simp;omega
 clear hlate eB eT hfin hSok hSh hw0 en hfl hop hnb
 generalize newSt p c=s0 at *
 refine WL.seq (WL.sreg (by simp;rfl) (by simp;rfl) ?_)
 refine WL.block (WL.loop (ι:={x:Nat × St × Pst // x.1≤(ordF l).length∧OkSt x.2.1∧q < x.2.1.There.length∧(x.2.1.Handles.length:Int)=c∧x.2.2.2.2=pThere x.2.1 q∧(goW l (seeP l fl q) x.2.1 x.2.2 ((ordF l).drop x.1)).1=0∧(goW l (seeP l fl q) x.2.1 x.2.2 ((ordF l).drop x.1)).2=(goW l (seeP l fl q) s0 ([],false,false) (ordF l)).2}) (fun x=>rpS l q fl bd code x.1.2.1 x.1.2.2.2.1 (fsT code bd x.1.2.2.1) (lsT code bd x.1.2.2.1) x.1.1 []) (fun x=>(ordF l).length - x.1.1) ⟨(0,s0,([],false,false)),Nat.zero_le _,hok,hqn,hhn,hws.symm,hg0,rfl⟩ (by simp[fsT,lsT]) fun x=>?_)
 obtain⟨⟨j,s,a⟩,hj,hs,hqs,hhs,haw,hg1,hg2⟩:=x
 simp only at hj hs hqs hhs haw hg1 hg2 ⊢
 have hOl:=ordF_len l
 by_cases hlt:j < (ordF l).length
 ·obtain⟨u,hu,eu⟩:=ordF_at hlt
  have f1:=fmE_drop (o:=false) (r:=false) hu
  have g1:14≤l.length * 14 - u * 14:=by omega
  have hlt':j+1≤(ordF l).length:=hlt
  have w:IntKind.wrap .i64 ((j:Int)+1)=((j+1:Nat):Int):=by rw[wrap_small (by omega) (by omega)];omega
  have hE0:=times_end hu (htm u hu)
  have hcl:=times_client hu (htm u hu)
  rw[List.drop_eq_getElem_cons hlt] at hg1 hg2
  simp only[goW,eu,atE_at hu] at hg1 hg2
  have hr:(stepR s l[u]).1=true:=by
   cases hv:(stepR s l[u]).1 with
   | true=>rfl
   | false=>rw [hv] at hg1;simp only[Bool.false_eq_true,if_false] at hg1;omega
  rw[hr] at hg1 hg2
  simp only[if_true] at hg1 hg2
  refine WL.seq (WL.sreg (by simp[hlt];rfl) (by simp;rfl) ?_)
  refine WL.cond (t:=true) (by simp[hlt]) (fun _=>WL.skip ?_) (by simp)
  refine WL.seq (WL.block (WL.sreg (by simp[hlt,hlt',eu,hu,f1,g1];rfl) (by simp;rfl) ?_))
  refine WL.eqL (L':=rpS l q fl bd code s a.2.1 (fsT code bd a.1) (lsT code bd a.1) j (bxE 20 l[u])) (by simp) (rp_event l q fl bd code (fun h=>hol h) s hs hqs a.2.1 (fsT code bd a.1) (lsT code bd a.1) j l[u] hE0 (hE.d _ (List.getElem_mem hu)) _ ?_)
  rintro L ⟨r,hr',rfl⟩
  have e1:=tnQ_eq fl q s hs l[u] hcl.1 (by omega)
  have e2:(a.2.1 || tnQ fl q (stepR s l[u]).2 l[u] (heldF s l[u].Client l[u].op.Handle) (pThere s q))=(seeP l fl q a u (stepR s l[u]).2).2.1:=by
   rw[e1]
   simp only[seeP,seeT,atE_at hu,haw]
  have e3:=fsT_see code bd l fl q a u (stepR s l[u]).2
  have e4:=lsT_see code bd l fl q a u (stepR s l[u]).2
  rw[atE_at hu] at e3 e4
  rw[e2,← e3,← e4]
  have hs':=stepR_ok hs l[u]
  have hq':q < (stepR s l[u]).2.There.length:=by rw[stepR_tlen];exact hqs
  have hh':((stepR s l[u]).2.Handles.length:Int)=c:=by rw[stepR_hlen];exact hhs
  have haw':(seeP l fl q a u (stepR s l[u]).2).2.2=pThere (stepR s l[u]).2 q:=rfl
  generalize (stepR s l[u]).2=t at *
  generalize seeP l fl q a u t=a' at *
  have fin:∀ L',L'=rpS l q fl bd code t a'.2.1 (fsT code bd a'.1) (lsT code bd a'.1) (j+1) []→∃ i:{x:Nat × St × Pst // x.1≤(ordF l).length∧OkSt x.2.1∧q < x.2.1.There.length∧(x.2.1.Handles.length:Int)=c∧x.2.2.2.2=pThere x.2.1 q∧(goW l (seeP l fl q) x.2.1 x.2.2 ((ordF l).drop x.1)).1=0∧(goW l (seeP l fl q) x.2.1 x.2.2 ((ordF l).drop x.1)).2=(goW l (seeP l fl q) s0 ([],false,false) (ordF l)).2},L'=rpS l q fl bd code i.1.2.1 i.1.2.2.2.1 (fsT code bd i.1.2.2.1) (lsT code bd i.1.2.2.1) i.1.1 []∧(ordF l).length - i.1.1 < (ordF l).length - j:=fun L' hL' =>
   ⟨⟨(j+1,t,a'),hlt,hs',hq',hh',haw',hg1,hg2⟩,hL',by simp only;omega⟩
  rcases hr' with rfl | rfl
  ·exact WL.reg (RL.run (by simp[w];rfl) ⟨_,by simp;rfl,fin _ (by simp)⟩)
  ·exact WL.reg (RL.run (by simp[w];rfl) ⟨_,by simp;rfl,fin _ (by simp)⟩)
 ·obtain rfl:j=(ordF l).length:=by omega
  rw[List.drop_length] at hg2
  simp only[goW] at hg2
  rw[← hg2] at eO
  refine WL.seq (WL.sreg (by simp;rfl) (by simp;rfl) ?_)
  refine WL.cond (t:=false) (by simp) (by simp) fun _=>WL.exit ?_
  have hr:=rq_late l hn q code s a.2.1 (fsT code bd a.1) (lsT code bd a.1) ok (by rw[eO])
  refine WL.fin [11,12,15,19,47] (by simp;rfl) (WL.eqL (by simp) hr)
end Go.OT
namespace Go.OT
open Go.Proofs
abbrev rwQ (v:Int):Ex→SL→Prop:=fun e L=>e=Ex.ret∧RetOk fi70.rs [] (i64 v) L
abbrev rwS (l:List Ev)(p c:Int)(im:List (List UInt8))(i:Nat)(r:SL):SL:=[(0,0,sEv l),(100,0,i64 p),(200,0,i64 c),(300,0,sS false im),(900,0,i64 i)] ++ r
set_option maxHeartbeats 16000000 in
theorem refwreck_fn (l:List Ev)(hE:EvOk l)(p c:Int)(im:List (List UInt8))(hn:im.length≤9223372036854775807)(hb:∀ b ∈ im,b.length≤1000000):FnC Try.prog 70 [] [sEv l,i64 p,i64 c,sS false im] [] (i64 (wreckF l p c im)):=by
 have hc:=refchk_fn l hE p c
 refine FnC.go ok70 rfl ?_
 refine WL.mono (Q':=rwQ (wreckF l p c im)) ?_ fun e L h=>⟨.inr h.1,h.2⟩
 refine WL.sreg (by simp;rfl) (by simp;rfl) ?_
 refine WL.seq (WL.sregC (RL.o (by simp;rfl) (RL.call0 false hc (by simp) (by simp) ?_)))
 by_cases h0:chkF l p c=0
 ·have z:(chkF l p c != 0)=false:=by simp[h0]
  by_cases hl:(im.length:Int)=p
  ·have zl:((im.length:Int) != p)=false:=by simp[hl]
   have hp48:p≤48:=by
    have hb:=(walk_goW noSee () h0).1
    simp only[newBad,Bool.or_eq_false_iff,decide_eq_false_iff_not] at hb
    omega
   have eW:wreckF l p c im=match firstW l p c im with | some q=>(q:Int)+1 | none=>0:=by unfold wreckF;rw[if_neg (by simp[h0,hl])]<;>cases firstW l p c im<;>rfl
   rw[eW]
   clear eW
   refine RL.o (by simp[z];rfl) (RL.g (by simp[zl];rfl) (RL.o (by simp;rfl) (RL.nil ⟨_,by simp;rfl,?_⟩)))
   refine WL.cond (t:=false) (by simp) (by simp) fun _=>WL.skip ?_
   refine WL.seq (WL.sreg (by simp;rfl) (by simp;rfl) ?_)
   refine WL.block (WL.count im.length (fun i=>rwS l p c im i []) (fun i=>∀ j,j < i→okP l p c j (im.getD j [])=true) (by simp) (fun j h=>absurd h (Nat.not_lt_zero _)) fun i hi hp=>?_)
   by_cases h:i < im.length
   ·have hip:(i:Int) < p:=by omega
    have h':i+1≤im.length:=h
    have w:IntKind.wrap .i64 ((i:Int)+1)=((i+1:Nat):Int):=by rw[wrap_small (by omega) (by omega)];omega
    have w2:IntKind.wrap .i64 ((i:Int)+1)=(i:Int)+1:=by rw[wrap_small (by omega) (by omega)]
    have eg:im.getD i []=im[i]:=by simp[h]
    have hpg:=refpage_fn l hE p c h0 i hip im[i] (hb _ (List.getElem_mem h))
    refine WL.seq (WL.sreg (by simp[hip];rfl) (by simp;rfl) ?_)
    refine WL.cond (t:=true) (by simp[hip]) (fun _=>WL.skip ?_) (by simp)
    refine WL.seq (WL.block (WL.sregC (RL.o (by simp[h,h'];rfl) (RL.call0 false hpg (by simp) (by simp) (RL.o (by simp;rfl) (RL.nil ⟨_,by simp;rfl,?_⟩))))))
    cases ho:okP l p c i im[i] with
    | true =>
     refine WL.cond (t:=false) (by simp[ho]) (by simp) fun _=>WL.skip ?_
     refine WL.reg (RL.run (by simp[w];rfl) ⟨_,by simp;rfl,h,by simp,fun j hj=>?_⟩)
     by_cases e:j=i
     ·subst e;rw[eg];exact ho
     ·exact hp j (by omega)
    | false =>
     have hf:firstW l p c im=some i:=by
      unfold firstW
      rw[List.find?_range_eq_some]
      exact⟨by rw[eg,ho];rfl,List.mem_range.2 h,fun j hj=>by rw[hp j hj];rfl⟩
     refine WL.cond (t:=true) (by simp[ho]) (fun _=>?_) (by simp)
     refine WL.sreg (by simp[w2];rfl) (by simp;rfl) (WL.ret ⟨rfl,?_⟩)
     simp[fi70,hf]
   ·obtain rfl:i=im.length:=by omega
    have hip:¬ (im.length:Int) < p:=by omega
    have hf:firstW l p c im=none:=by
     unfold firstW
     rw[List.find?_eq_none]
     intro j hj
     rw[hp j (List.mem_range.1 hj)];simp
    rw[hf]
    refine WL.seq (WL.sreg (by simp[hip];rfl) (by simp;rfl) ?_)
    refine WL.cond (t:=false) (by simp[hip]) (by simp) fun _=>WL.exit ?_
    refine WL.sreg (by simp;rfl) (by simp;rfl) (WL.ret ⟨rfl,?_⟩)
    simp[fi70]
  ·have zl:((im.length:Int) != p)=true:=by simp[hl]
   have eW:wreckF l p c im=-1:=by unfold wreckF;rw[if_pos (.inr hl)]
   refine RL.o (by simp[z];rfl) (RL.g (by simp[zl];rfl) (RL.o (by simp;rfl) (RL.nil ⟨_,by simp;rfl,?_⟩)))
   refine WL.cond (t:=true) (by simp[hl]) (fun _=>?_) (by simp)
   refine WL.sreg (by simp;rfl) (by simp;rfl) (WL.ret ⟨rfl,?_⟩)
   simp[fi70,eW]
 ·have z:(chkF l p c != 0)=true:=by simp[h0]
  have eW:wreckF l p c im=-1:=by unfold wreckF;rw[if_pos (.inl h0)]
  refine RL.o (by simp[z];rfl) (RL.g (by simp;rfl) (RL.o (by simp;rfl) (RL.nil ⟨_,by simp;rfl,?_⟩)))
  refine WL.cond (t:=true) (by simp) (fun _=>?_) (by simp)
  refine WL.sreg (by simp;rfl) (by simp;rfl) (WL.ret ⟨rfl,?_⟩)
  simp[fi70,eW]
end Go.OT
namespace Go.OT
open Go.Proofs
def wfewF (im:List (List UInt8)):Bool:=im.all (fun b=>decide (b.length≤40)) && decide (im.length≤60)
theorem wfewF_ok {im:List (List UInt8)}(h:wfewF im=true):im.length≤60∧∀ b ∈ im,b.length≤40:=by
 simp only[wfewF,Bool.and_eq_true,decide_eq_true_eq,List.all_eq_true] at h
 exact⟨h.2,h.1⟩
set_option maxHeartbeats 8000000 in
theorem wfew_fn (im:List (List UInt8))(hl:im.length≤9223372036854775807):FnC Try.prog 65 [] [sUU false im] [] (bl (wfewF im)):=by
 refine FnC.go ok65 rfl ?_
 refine WL.sreg (by simp;rfl) (by simp;rfl) ?_
 refine WL.seq (WL.sreg (by simp;rfl) (by simp;rfl) ?_)
 refine WL.block (WL.count im.length (fun i=>[(0,0,sUU false im),(300,0,i64 i)]) (fun i=>∀ j (hj:j < im.length),j < i→im[j].length≤40) (by simp) (fun j _ h=>absurd h (Nat.not_lt_zero _)) fun i hi hp=>?_)
 by_cases h:i < im.length
 ·have w:IntKind.wrap .i64 ((i:Int)+1)=((i+1:Nat):Int):=by rw[wrap_small (by omega) (by omega)];omega
  refine WL.seq (WL.sreg (by simp[h];rfl) (by simp;rfl) ?_)
  refine WL.cond (t:=true) (by simp[h]) (fun _=>WL.skip ?_) (by simp)
  by_cases k:40 < im[i].length
  ·have k':(40:Int) < im[i].length:=by omega
   have hv:wfewF im=false:=by
    have:im.all (fun b=>decide (b.length≤40))=false:=List.all_eq_false.2 ⟨_,List.getElem_mem h,by simp;omega⟩
    simp[wfewF,this]
   refine WL.seq (WL.block (WL.sreg (by simp[h,k,k'];rfl) (by simp;rfl) ?_))
   refine WL.cond (t:=true) (by simp[k,k']) (fun _=>WL.sreg (by simp;rfl) (by simp;rfl) (WL.ret ⟨.inr rfl,?_⟩)) (by simp)
   simp[fi65,hv]
  ·have k':¬ (40:Int) < im[i].length:=by omega
   refine WL.seq (WL.block (WL.sreg (by simp[h,k,k'];rfl) (by simp;rfl) ?_))
   refine WL.cond (t:=false) (by simp[k,k']) (by simp) fun _=>WL.skip ?_
   refine WL.reg (RL.run (by simp[w];rfl) ⟨_,by simp;rfl,h,by simp,fun j hj hji=>?_⟩)
   by_cases e:j=i
   ·subst e;omega
   ·exact hp j hj (by omega)
 ·obtain rfl:i=im.length:=by omega
  have ha:im.all (fun b=>decide (b.length≤40))=true:=List.all_eq_true.2 fun e he=>by
   obtain⟨j,hj,rfl⟩:=List.mem_iff_getElem.1 he
   simpa using hp j hj hj
  refine WL.seq (WL.sreg (by simp;rfl) (by simp;rfl) ?_)
  refine WL.cond (t:=false) (by simp) (by simp) fun _=>WL.exit ?_
  refine WL.sreg (by simp;rfl) (by simp;rfl) (WL.ret ⟨.inr rfl,?_⟩)
  simp[fi65,wfewF,ha]
  try omega
set_option maxHeartbeats 8000000 in
theorem texts_fn (im:List (List UInt8))(hl:im.length≤1000):FnC Try.prog 71 [] [sUU false im] [] (sS true im):=by
 refine FnC.go ok71 rfl ?_
 refine WL.sreg (by simp;rfl) (by simp;rfl) ?_
 refine WL.sreg (by simp;rfl) (by simp;rfl) ?_
 refine WL.seq (WL.sreg (by simp;rfl) (by simp;rfl) ?_)
 refine WL.block (WL.count im.length (fun i=>[(0,0,sUU false im),(300,0,sS true (im.take i)),(400,0,i64 i)]) (fun i=>True) (by simp) trivial fun i hi _=>?_)
 by_cases h:i < im.length
 ·have w:IntKind.wrap .i64 ((i:Int)+1)=((i+1:Nat):Int):=by rw[wrap_small (by omega) (by omega)];omega
  have m1:(i+1) * 16≤140737488355328:=by omega
  have m2:i+1≤maxLen:=by unfold maxLen;omega
  have tl:(im.take i).length=i:=by simp;omega
  have tk:List.take (im[i]).length (im[i].map (fun b=>u8 (b.toNat:Int)))=im[i].map (fun b=>u8 (b.toNat:Int)):=List.take_of_length_le (by simp)
  refine WL.seq (WL.sreg (by simp[h];rfl) (by simp;rfl) ?_)
  refine WL.cond (t:=true) (by simp[h]) (fun _=>WL.skip ?_) (by simp)
  refine WL.seq (WL.block ?_)
  refine WL.reg (RL.run (by simp[h,tk,m1,m2,tl];rfl) ⟨_,by simp;rfl,?_⟩)
  refine WL.reg (RL.run (by simp[w];rfl) ⟨_,by simp;rfl,h,?_,trivial⟩)
  have hg:=grow_take (f:=str) h
  simp[hg,Nat.min_eq_left h]
 ·obtain rfl:i=im.length:=by omega
  refine WL.seq (WL.sreg (by simp;rfl) (by simp;rfl) ?_)
  refine WL.cond (t:=false) (by simp) (by simp) fun _=>WL.exit ?_
  refine WL.sregC (RL.mv (by decide) (RL.o (by simp;rfl) (RL.nil ⟨_,by simp;rfl,WL.ret ⟨.inr rfl,?_⟩⟩)))
  simp[fi71]
end Go.OT
namespace Go.OT
open Go.Proofs
abbrev wvA:Ev:=⟨0,⟨1,0,0,0,0,[]⟩,⟨0,0,0,[]⟩,1,2,3⟩
abbrev wvB:Ev:=⟨0,⟨6,0,0,0,0,[]⟩,⟨0,0,0,[]⟩,4,5,6⟩
abbrev tx16:List UInt8:=[48,49,50,51,52,53,54,55,56,57,97,98,99,100,101,102]
def wz:List UInt8:=(sealF 0 z16).1
def wy:List UInt8:=(sealF 0 tx16).1
def wt:List UInt8:=wz.set 20 9
theorem wtold_z:sealF 0 z16=(wz,0)∧wz.length=24:=⟨by kernel_rfl,by kernel_rfl⟩
theorem wtold_y:sealF 0 tx16=(wy,0)∧wy.length=24:=⟨by kernel_rfl,by kernel_rfl⟩
theorem wtold_0:flushF [wvA,wvB] 1 1 0=5:=by kernel_rfl
theorem wtold_1:flushF [wvA] 1 1 0=0:=by kernel_rfl
theorem wtold_2:wreckF [wvA,wvB] 1 1 [wz]=0:=by kernel_rfl
theorem wtold_3:wreckF [wvA,wvB] 1 1 [z24]=1:=by kernel_rfl
theorem wtold_4:wreckF [wvA] 1 1 [z24]=0:=by kernel_rfl
theorem wtold_5:wreckF [wvA,wvB] 1 1 [wy]=1:=by kernel_rfl
theorem wtold_6:wreckF [wvA,wvB] 1 1 [wt]=1:=by kernel_rfl
theorem wtold_7:wreckF [wvA] 1 1 [wt]=0:=by kernel_rfl
theorem wtold_8:wreckF [wvB] 1 1 [wz]=-1:=by kernel_rfl
set_option maxRecDepth 20000 in
set_option maxHeartbeats 32000000 in
theorem wreckTold_fn:FnC Try.prog 66 [] [] [] (bl true):=by
 have hz:=seal_fn 0 z16 (by decide)
 have hy:=seal_fn 0 tx16 (by simp)
 rw[wtold_z.1] at hz
 rw[wtold_y.1] at hy
 have lz:=wtold_z.2
 have ly:=wtold_y.2
 have lt:wt.length=24:=by unfold wt;rw[List.length_set];exact lz
 have E2:EvOk [wvA,wvB]:=evOk_of (by simp) (by simp)
 have EA:EvOk [wvA]:=evOk_of (by simp) (by simp)
 have EB:EvOk [wvB]:=evOk_of (by simp) (by simp)
 have h0:=flush_fn _ E2 1 1 0
 have h1:=flush_fn _ EA 1 1 0
 have h2:=wcheck_fn _ E2 1 1 [wz] (by simp) (by simp[lz])
 have h3:=wcheck_fn _ E2 1 1 [z24] (by simp) (by simp)
 have h4:=wcheck_fn _ EA 1 1 [z24] (by simp) (by simp)
 have h5:=wcheck_fn _ E2 1 1 [wy] (by simp) (by simp[ly])
 have h6:=wcheck_fn _ E2 1 1 [wt] (by simp) (by simp[lt])
 have h7:=wcheck_fn _ EA 1 1 [wt] (by simp) (by simp[lt])
 have h8:=wcheck_fn _ EB 1 1 [wz] (by simp) (by simp[lz])
 rw[wtold_0] at h0;rw[wtold_1] at h1;rw[wtold_2] at h2;rw[wtold_3] at h3;rw[wtold_4] at h4;rw[wtold_5] at h5;rw[wtold_6] at h6;rw[wtold_7] at h7;rw[wtold_8] at h8
 have eT:wt=wz.set 20 9:=rfl
 refine FnC.go ok66 rfl ?_
 refine WL.sreg (by simp;rfl) (by simp;rfl) ?_
 refine WL.sreg (by simp;rfl) (by simp;rfl) (WL.nil1 107 false 1 (by simp) (WL.nil1 111 false 1 (by simp) ?_))
 refine WL.sreg (by simp;rfl) (by simp;rfl) (WL.nil1 207 false 1 (by simp) (WL.nil1 211 false 1 (by simp) ?_))
 have tk16:List.take 16 (z16.map (fun b=>u8 (b.toNat:Int)))=z16.map (fun b=>u8 (b.toNat:Int)):=rfl
 refine WL.sregC (RL.o (by simp[rep16];rfl) (RL.freeze 1500 (RL.call0 false hz (by simp[len16]) (by simp) (RL.mv (by decide) (RL.o (by simp;rfl) (RL.nil ⟨_,by simp;rfl,?_⟩))))))
 refine WL.freeze 300 ?_
 refine WL.sregC (RL.o (by simp;rfl) (RL.freeze 2000 (RL.call0 false hy (by simp) (by simp) (RL.mv (by decide) (RL.o (by simp;rfl) (RL.nil ⟨_,by simp;rfl,?_⟩))))))
 refine WL.freeze 500 ?_
 refine WL.sreg (by simp;rfl) (by simp;rfl) ?_
 refine WL.freeze 700 ?_
 refine WL.sregC (RL.call0 false blank_fn (by simp) (by simp) (RL.o (by simp;rfl) (RL.nil ⟨_,by simp;rfl,?_⟩)))
 refine WL.freeze 800 ?_
 have m1:wz.length≤140737488355328:=by omega
 have m2:wz.length≤maxLen:=by unfold maxLen;omega
 have hpz:(bm wz).all plainC=true:=by rw[List.all_eq_true];intro x hx;obtain ⟨b,_,rfl⟩:=List.mem_map.1 hx;rfl
 have tkz:List.take 24 (bm wz)=bm wz:=List.take_of_length_le (by simp[lz])
 obtain⟨b20,hb20⟩:∃ b:UInt8,(bm wz)[20]?=some (u8 b.toNat):=⟨wz[20],by rw[bm,List.getElem?_map,List.getElem?_eq_getElem (by omega)];rfl⟩
 have hb20':∀ hh,(bm wz)[20]'hh=u8 b20.toNat:=fun hh=>by rw[List.getElem?_eq_getElem hh] at hb20;exact Option.some.inj hb20
 refine WL.eqL (L':=[(300,0,sU false wz),(500,0,sU false wy),(700,0,sEv [wvA,wvB]),(800,0,sU false z24)]) (by simp) ?_
 refine WL.sreg (by simp[m1,m2,hpz,lz];rfl) (by simp;rfl) ?_
 refine WL.eqL (L':=[(300,0,sU false wz),(500,0,sU false wy),(700,0,sEv [wvA,wvB]),(800,0,sU false z24),(900,0,.sl true () 1 24 (bm wz))]) (by rw[tkz]) ?_
 have ebt:bm wt=(bm wz).set 20 (u8 9):=by rw[eT,bm,List.map_set];rfl
 refine WL.seq (WL.sreg (by simp;rfl) (by simp;rfl) ?_)
 refine WL.cond (t:=false) (by simp) (by simp) fun _=>WL.skip ?_
 refine WL.sreg (by simp[lz,hb20'];rfl) (by simp;rfl) ?_
 refine WL.eqL (L':=[(300,0,sU false wz),(500,0,sU false wy),(700,0,sEv [wvA,wvB]),(800,0,sU false z24),(900,0,.sl true () 1 24 (bm wt))]) (by rw[ebt]) ?_
 refine WL.freeze 900 ?_
 refine WL.eqL (L':=[(300,0,sU false wz),(500,0,sU false wy),(700,0,sEv [wvA,wvB]),(800,0,sU false z24),(900,0,sU false wt)]) (by simp[lt]) ?_
 clear hz hy eT hpz tkz hb20 hb20' ebt m1 m2 tk16
 generalize wz=z at *
 generalize wy=y at *
 generalize wt=v at *
 refine WL.sregC (RL.o (by simp;rfl) (RL.call0 false h0 (by simp) (by simp) (RL.o (by simp;rfl) ?_)))
 refine RL.g (by simp;rfl) (RL.callY0 false (by simp) h1 (by simp) (by simp) (RL.g (by simp;rfl) (RL.o (by simp;rfl) ?_)))
 refine RL.fin [37,38,39,40,41,42,43,44,45] (by simp;rfl) ?_
 refine RL.g (by simp;rfl) (RL.freeze 4900 (RL.callY0 false (by simp) h2 (by simp) (by simp) (RL.g (by simp;rfl) (RL.o (by simp;rfl) ?_))))
 refine RL.fin [46,47,48,49,50,51,52] (by simp;rfl) ?_
 refine RL.g (by simp;rfl) (RL.freeze 5600 (RL.callY0 false (by simp) h3 (by simp) (by simp) (RL.g (by simp;rfl) (RL.o (by simp;rfl) ?_))))
 refine RL.fin [53,54,55,56,57,58,59] (by simp;rfl) ?_
 refine RL.g (by simp;rfl) (RL.freeze 6400 (RL.callY0 false (by simp) h4 (by simp) (by simp) (RL.g (by simp;rfl) (RL.o (by simp;rfl) ?_))))
 refine RL.fin [60,61,62,63,64,65,66,67] (by simp;rfl) ?_
 refine RL.g (by simp;rfl) (RL.freeze 7100 (RL.callY0 false (by simp) h5 (by simp) (by simp) (RL.g (by simp;rfl) (RL.o (by simp;rfl) ?_))))
 refine RL.fin [68,69,70,71,72,73,74] (by simp;rfl) ?_
 refine RL.g (by simp;rfl) (RL.freeze 7800 (RL.callY0 false (by simp) h6 (by simp) (by simp) (RL.g (by simp;rfl) (RL.o (by simp;rfl) ?_))))
 refine RL.fin [75,76,77,78,79,80,81] (by simp;rfl) ?_
 refine RL.g (by simp;rfl) (RL.freeze 8600 (RL.callY0 false (by simp) h7 (by simp) (by simp) (RL.g (by simp;rfl) (RL.o (by simp;rfl) ?_))))
 refine RL.fin [82,83,84,85,86,87,88,89] (by simp;rfl) ?_
 refine RL.g (by simp;rfl) (RL.freeze 9400 (RL.callY0 false (by simp) h8 (by simp) (by simp) (RL.g (by simp;rfl) (RL.o (by simp;rfl) (RL.nil ⟨_,by simp;rfl,WL.ret ⟨.inr rfl,?_⟩⟩)))))
 simp[fi66]
end Go.OT
namespace Go.OT
open Go.Proofs
abbrev waQ:Ex→SL→Prop:=fun e L=>e=Ex.ret∧RetOk fi17.rs [] (bl true) L
abbrev waS (l:List Ev)(p c:Int)(im:List (List UInt8))(q:Int)(b:Bool):SL:=[(0,0,sEv l),(100,0,i64 p),(200,0,i64 c),(300,0,sUU false im),(400,0,i64 q),(1800,0,bl b)]
set_option maxHeartbeats 32000000 in
theorem wreckAsks_law (l:List Ev)(hl:l.length≤9223372036854775807)(p c:Int)(im:List (List UInt8))(him:im.length≤9223372036854775807)(q:Int):FnC Try.prog 17 [] [sEv l,i64 p,i64 c,sUU false im,i64 q] [] (bl true):=by
 refine FnC.go ok17 rfl ?_
 refine WL.mono (Q':=waQ) ?_ fun e L h=>⟨.inr h.1,h.2⟩
 refine WL.sreg (by simp;rfl) (by simp;rfl) ?_
 have tl:WL Try.prog fi17.nt c17_0 (waS l p c im q true) waQ:=by
  refine WL.sregC (RL.call0 false wreckTold_fn (by simp) (by simp) (RL.o (by simp;rfl) (RL.nil ⟨_,by simp;rfl,WL.ret ⟨rfl,?_⟩⟩)))
  simp[fi17]
 refine WL.seq (WL.sregC (RL.o (by simp;rfl) (RL.call0 false (histFew_fn l hl) (by simp) (by simp) ?_)))
 cases hf:fewE l with
 | false =>
  refine RL.o (by simp;rfl) (RL.g (by simp;rfl) (RL.callN (by simp) (RL.g (by simp;rfl) (RL.o (by simp;rfl) (RL.nil ⟨_,by simp;rfl,?_⟩)))))
  refine WL.cond (t:=true) (by simp) (fun _=>?_) (by simp)
  exact WL.mono (WL.eqL (by simp) tl) fun e L h=>h.1 ▸ ⟨rfl,h.2⟩
 | true =>
 refine RL.o (by simp;rfl) (RL.g (by simp;rfl) (RL.callY0 false (by simp) (wfew_fn im him) (by simp) (by simp) ?_))
 cases hw:wfewF im with
 | false =>
  refine RL.g (by simp;rfl) (RL.o (by simp;rfl) (RL.nil ⟨_,by simp;rfl,?_⟩))
  refine WL.cond (t:=true) (by simp) (fun _=>?_) (by simp)
  exact WL.mono (WL.eqL (by simp) tl) fun e L h=>h.1 ▸ ⟨rfl,h.2⟩
 | true =>
 clear tl
 have hE:=EvOk.of_few hf
 obtain⟨hi1,hi2⟩:=wfewF_ok hw
 have hb:∀ b ∈ im,b.length≤1000000:=fun b hb=>by have:=hi2 b hb;omega
 have h1:=flush_fn l hE p c q
 have h2:=refflush_fn l hE p c q
 have h3:=wcheck_fn l hE p c im him hb
 have h4:=texts_fn im (by omega)
 have h5:=refwreck_fn l hE p c im him hb
 generalize flushF l p c q=fl at *
 generalize wreckF l p c im=wr at *
 have tk:List.take im.length (im.map str)=im.map str:=List.take_of_length_le (by simp)
 refine RL.g (by simp;rfl) (RL.o (by simp;rfl) (RL.nil ⟨_,by simp;rfl,?_⟩))
 refine WL.cond (t:=false) (by simp) (by simp) fun _=>WL.skip ?_
 refine WL.sregC (RL.call0 false wreckTold_fn (by simp) (by simp) (RL.o (by simp;rfl) (RL.g (by simp;rfl) ?_)))
 refine RL.callY0 false (by simp) h1 (by simp) (by simp) (RL.g (by simp;rfl) ?_)
 refine RL.callY0 false (by simp) h2 (by simp) (by simp) (RL.g (by simp;rfl) (RL.o (by simp;rfl) (RL.g (by simp;rfl) ?_)))
 refine RL.callY0 false (by simp) h3 (by simp) (by simp) (RL.g (by simp;rfl) ?_)
 refine RL.callY0 false (by simp) h4 (by simp) (by simp) ?_
 refine RL.callY0 true (by simp) h5 (by simp[tk]) (by simp) (RL.g (by simp;rfl) (RL.o (by simp;rfl) (RL.nil ⟨_,by simp;rfl,WL.ret ⟨rfl,?_⟩⟩)))
 simp[fi17]
end Go.OT
namespace Go.Proofs.Ytlcemfnjhdcmoaa
open Go.ChangeShapes Go.WideShapes Go.ChangeAt Go.RowKit Go.Joins Go.OT
theorem wreckAsks_own:ownKnob Try.prog.godebug=none:=by kernel_rfl
theorem wreckAsks_laid:laidOutB Try.prog=true:=by kernel_rfl
theorem wreckAsks_read:((Try.f17.params.toList).all fun t=>Try.prog.readableRec t && decide (t < Try.prog.types.size))=true:=by kernel_rfl
set_option maxRecDepth 100000 in
theorem wreckAsks_lifted (os:Os)(started:os.Started)(H:Type)(enc:TypeId × Value→H) :
  ReturnsInHanded {} Try.checked os 17 .any (Rows.wreckAsksSpec.pre6 enc Try.prog Try.f17 Rows.wreckAsksRow.domain false) (Rows.wreckAsksSpec.post enc Try.prog Try.f17 false true false false):=by
 refine returnsInHanded_of_change (C:=Try.checked) wreckAsks_own started (by kernel_rfl) Try.func17
  (ChangeSpec.witness6 (enc:=enc) (C:=Try.checked) false ⟨#[],#[.slice none 0 0,.int .i64 0,.int .i64 0,.slice none 0 0,.int .i64 0],[]⟩ 8 (by kernel_rfl) (by kernel_rfl) (by kernel_rfl) (by kernel_rfl)) ?_
 intro W base args ds gs before hval0 hW hcnd _
 have hval:∀ (j:Nat) t v,Try.f17.params[j]?=some t→args[j]?=some v→Value.okWide Try.prog W .any base t v:=hval0
 have hW':=hW
 obtain⟨p,q,hA0,hV,rfl,hfz,hnd⟩:=hW
 have hA:DataW.TrodAll enc Try.prog W 0 (fun _=>true) true Try.f17.params.toList args.toList ds p:=hA0
 have hB:=hA
 rw[Try.params17] at hA hval
 obtain⟨v0,vs0,d0,ds0,p0,q0,hargs,rfl,rfl,h0,r0⟩:=trodAll_cons hA
 obtain⟨v1,vs1,d1,ds1,p1,q1,rfl,rfl,rfl,h1,r1⟩:=trodAll_cons r0
 obtain⟨v2,vs2,d2,ds2,p2,q2,rfl,rfl,rfl,h2,r2⟩:=trodAll_cons r1
 obtain⟨v3,vs3,d3,ds3,p3,q3,rfl,rfl,rfl,h3,r3⟩:=trodAll_cons r2
 obtain⟨v4,vs4,d4,ds4,p4,q4,rfl,rfl,rfl,h4,r4⟩:=trodAll_cons r3
 obtain⟨rfl,rfl,rfl⟩:=trodAll_nil r4
 obtain rfl:args=#[v0,v1,v2,v3,v4]:=by cases args;simp_all
 obtain⟨rfl,rfl⟩:=trodVars_none hV
 obtain⟨a0,l0,e0,k0,rr0,mm0,no0,ro0⟩:=ta47 H enc W .any base v0 d0 p0 (hval 0 _ v0 rfl rfl) h0
 obtain⟨a1,l1,e1,k1,rr1,mm1,no1,ro1⟩:=ta3 H enc W .any base v1 d1 p1 (hval 1 _ v1 rfl rfl) h1
 obtain⟨a2,l2,e2,k2,rr2,mm2,no2,ro2⟩:=ta3 H enc W .any base v2 d2 p2 (hval 2 _ v2 rfl rfl) h2
 obtain⟨a3,l3,e3,k3,rr3,mm3,no3,ro3⟩:=ta52 H enc W .any base v3 d3 p3 (hval 3 _ v3 rfl rfl) h3
 obtain⟨a4,l4,e4,k4,rr4,mm4,no4,ro4⟩:=ta3 H enc W .any base v4 d4 p4 (hval 4 _ v4 rfl rfl) h4
 have hwalk:Calls Try.prog 17 #[v0,v1,v2,v3,v4] W fun e w'=>e=.returned (.bool true)∧Below W.heap.size W w':=by
  refine Fn.law ((fun (l:List Ev) (p c:Int) (im:List (List UInt8)) (q:Int) (h:l.length≤9223372036854775807∧∀ c ∈ l,True) (h2:im.length≤9223372036854775807)=>wreckAsks_law l h.1 p c im h2 q) a0 a1 a2 a3 a4 k0 k3).1 (Wc W) [l0,l1,l2,l3,l4] (fun _ _ h=>Wc_lt h) rfl (by simp) (by simp only[List.map_cons,List.map_nil,e0,e1,e2,e3,e4]) fun t la h=>?_
  match t,h with
  | 0,h=>simp at h;subst h;exact⟨rr0,mm0,no0,ro0⟩
  | 1,h=>simp at h;subst h;exact⟨rr1,mm1,no1,ro1⟩
  | 2,h=>simp at h;subst h;exact⟨rr2,mm2,no2,ro2⟩
  | 3,h=>simp at h;subst h;exact⟨rr3,mm3,no3,ro3⟩
  | 4,h=>simp at h;subst h;exact⟨rr4,mm4,no4,ro4⟩
  | t+5,h=>simp at h
 clear hA0 hval0
 refine hwalk.mono fun e W' ⟨he,bel⟩=>?_
 subst he
 exact⟨_,rfl,_,_,_,[],_,[],hW',trodAll_mk1 (shut_bool Try.underlying4 _),below_all wreckAsks_laid bel wreckAsks_read hB,rfl,bel.frame _,fun h=>by cases h⟩
end Go.Proofs.Ytlcemfnjhdcmoaa
