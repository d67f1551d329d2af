/- Part 8 of the proof: see its last file. -/
import Derived.Orders
import Derived.Below
import Derived.Laws.Entries
import Derived.Laws.Cells
import Derived.Laws.IdiomCopy
import Derived.Scope
import Derived.Calls
import Derived.Laws.Tables
import Derived.Laws.MakeOwn
import Derived.Laws.BytesString
import Derived.ArgAppend
import Derived.WalkSpells
import Derived.Lib.SlBytesConst
import Derived.Lib.ConvBytes
import Derived.Test.YtlcemfnjhdcmoaaProg
import Derived.KernelRfl
import Derived.IntWalk
import Derived.Shelf.Spec.SlicesInsertGrow
import Derived.Shelf.Abstract
import Derived.Test.YtlcemfnjhdcmoaaLg07
set_option linter.unusedSimpArgs false
set_option linter.unusedVariables false
namespace Go.Proofs
open Go.Shelf
def Try.lays133_ren:Go.Shelf.Ren:=⟨fun | 21=>133 | 27=>161 | 28=>162 | 35=>173 | 39=>186 | n=>n,fun | 22=>23 | 3=>3 | 4=>4 | 0=>0 | n=>n,fun | n=>n⟩
theorem Try.lays133:Go.Proofs.Lays2.n21 Try.prog Try.lays133_ren :=
 { mixed:=by kernel_rfl,f21:=Try.func133.trans (congrArg some (by kernel_rfl)),f27:=Try.func161.trans (congrArg some (by kernel_rfl)),f28:=Try.func162.trans (congrArg some (by kernel_rfl)),f35:=Try.func173.trans (congrArg some (by kernel_rfl)),f39:=Try.func186.trans (congrArg some (by kernel_rfl)),t0:=Try.underlying0,a0:=Try.isAgg0,z0:=Try.sizeOf0,v0:=Try.zeroValue0,t3:=Try.underlying3,a3:=Try.isAgg3,z3:=Try.sizeOf3,v3:=Try.zeroValue3,t4:=Try.underlying4,a4:=Try.isAgg4,z4:=Try.sizeOf4,v4:=Try.zeroValue4,t22:=Try.underlying23,a22:=Try.isAgg23,z22:=Try.sizeOf23,v22:=Try.zeroValue23,i3:=by kernel_rfl }
end Go.Proofs
namespace Go.OT
open Go.Proofs
theorem RL.cutO {P:Program}{nt:Nat}{L:SL}{K:SL→Prop}{rest:List Sg}{l:List COp}(n:Nat)(h:RL P nt (.o (l.take n) :: .o (l.drop n) :: rest) L K):RL P nt (.o l :: rest) L K:=by
 have e:flatS (.o l :: rest)=flatS (.o (l.take n) :: .o (l.drop n) :: rest):=by
  simp only[flatS]
  rw[← List.append_assoc,← List.map_append,List.take_append_drop]
 intro C ops idx hP hn hc
 rw[e] at hc
 exact h C ops idx hP hn hc
def inL (l:Lt)(t:Int)(b:Bool):Lt:=if b then { l with R:=insAt l.R (rank l.R t) t } else { l with W:=t }
set_option maxHeartbeats 4000000 in
theorem in_fn (l:Lt)(t:Int)(b:Bool)(hs:l.R.Pairwise (·≤·))(hr:l.R.length≤100000) :
  FnC Try.prog 85 [.nod (sI true l.R)] [.agg [i64 l.W,.view 1000000 0 [] 0 l.R.length,sI false l.Q],i64 t,bl b] [.nod .dead] (.agg [i64 (inL l t b).W,sI true (inL l t b).R,sI false (inL l t b).Q]):=by
 refine FnC.go ok85 rfl ?_
 refine WL.sreg (by simp;rfl) (by simp;rfl) ?_
 refine WL.seq (WL.sreg (by simp;rfl) (by simp;rfl) ?_)
 cases b with
 | false =>
  refine WL.cond (t:=true) (by simp) (fun _=>?_) (by simp)
  refine WL.sreg (by simp;rfl) (by simp;rfl) ?_
  refine WL.sreg (by simp;rfl) (by simp;rfl) (WL.ret ⟨.inr rfl,?_⟩)
  simp[fi85,inL]
 | true =>
  refine WL.cond (t:=false) (by simp) (by simp) (fun _=>WL.skip ?_)
  simp only[Ex.thenL_nrm]
  have hsr:Small l.R.length:=by unfold Small;omega
  refine WL.sregC (RL.o (by simp;rfl) (RL.call0 true (search_fn l.R t hsr hs) (by simp) (by simp) (RL.o (by simp;rfl) (RL.nil ⟨_,by simp;rfl,?_⟩))))
  refine WL.sregC (RL.cutO 4 (RL.o (by simp;rfl) ?_))
  refine RL.ins (i:=23) (k:=rank l.R t) (n:=l.R.length) (v:=.int .i64 t) (xs:=l.R.map (Value.int .i64)) Try.lays133 (by rfl) (fun args w=>Try.call133 args w) (by simp;rfl) (by simp) rfl (by simp;rfl) (by simp) (by simp) (by simp) (by simp) ?_ (by omega) ?_
  ·exact List.length_filter_le _ _
  refine RL.o (by simp;rfl) (RL.nil ⟨_,by simp;rfl,?_⟩)
  refine WL.sreg (by simp;rfl) (by simp;rfl) (WL.ret ⟨.inr rfl,?_⟩)
  have hk:rank l.R t≤l.R.length:=List.length_filter_le _ _
  have hl:=insAt_length l.R (rank l.R t) t hk
  simp[fi85,inL]
  refine⟨hl.symm,?_⟩
  rw[← map_insAt (Value.int IntKind.i64),List.map_map,List.take_of_length_le (by simp[hl]),List.take_of_length_le (by simp[hl]),List.take_of_length_le (by simp[hl])]
  rfl
theorem clL_sc {L:SL}{z:Value}{k g off n m:Nat}{p:List Nat}{row:List Int}(h1:(fnL L k).1=g∧k ≠ 100 * hh∧ownQ (fnL L k).2 p=true)(h2:getN (fnL L k).2 p=some (.sl true () 1 m (row.map i64)))(h3:off+n≤row.length) :
  clL L z (.view k g p off n)=some (updL (setL L (100 * hh) .non) k (setN (fnL L k).2 p (.sl true () 1 m (splice (row.map i64) off (List.replicate n (.sc z)))))):=by
 have hall:(((row.map i64).drop off).take n).all isSc=true:=by
  rw[List.all_eq_true]
  intro x hx
  obtain⟨y,_,rfl⟩:=List.mem_map.1 (List.mem_of_mem_drop (List.mem_of_mem_take hx))
  rfl
 simp only[clL,if_pos h1,h2]
 rw[if_pos ⟨by simpa using h3,hall⟩]
def dl81 (l:List Int)(p:Int→Bool)(f:Nat)(cs:List AU)(j:Nat)(row:List Int):SL :=
 [(0,0,.view 1000000 0 [] 0 l.length),(100,0,.clos f [.vptr () cs]),(500,0,i64 ((l.take j).filter fun x=>!p x).length),(600,0,i64 j),(1000000,0,.sl true () 1 l.length (row.map i64))]
theorem ixF_range {α:Type}(p:α→Bool):∀ (l:List α) (i:Nat),ixF p l i=-1∧l.any p=false∨∃ k,∃ h:k < l.length,ixF p l i=((i+k:Nat):Int)∧p l[k]=true∧∀ m (hm:m < k),p (l[m]'(by omega))=false
 | [],i=>.inl ⟨rfl,rfl⟩
 | x :: l,i=>by
  by_cases hx:p x=true
  ·exact .inr ⟨0,by simp,by simp[ixF,hx],by simpa using hx,fun m hm=>absurd hm (by omega)⟩
  ·have hx':p x=false:=by simpa using hx
   rcases ixF_range p l (i+1) with ⟨h1,h2⟩ | ⟨k,hk,h1,h2,h3⟩
   ·exact .inl ⟨by simp[ixF,hx',h1],by simp[hx',h2]⟩
   ·refine .inr ⟨k+1,by simp;omega,by simp[ixF,hx',h1];omega,by simpa using h2,fun m hm=>?_⟩
    cases m with
    | zero=>simpa using hx'
    | succ m=>simpa using h3 m (by omega)
theorem take_succ_eq_app {α:Type}{l:List α}{i:Nat}(h:i < l.length):l.take (i+1)=l.take i ++ [l[i]]:=List.take_succ_eq_append_getElem h
structure DelI (l:List Int) (p:Int→Bool) (j:Nat) (row:List Int):Prop where
 hj:j≤l.length
 len:row.length=l.length
 rest:row.drop j=l.drop j
 kept:row.take ((l.take j).filter fun x=>!p x).length=(l.take j).filter fun x=>!p x
 lt:((l.take j).filter fun x=>!p x).length < j
set_option maxHeartbeats 4000000 in
theorem del_fn (l:List Int)(f:Nat)(cs:List AU)(p:Int→Bool)(hl:Small l.length)(hf:∀ x ∈ l,FnC Try.prog f [] [i64 x,.vptr () cs] [] (bl (p x))) :
  FnC Try.prog 81 [.nod (sI true l)] [.view 1000000 0 [] 0 l.length,.clos f [.vptr () cs]] [.nod .dead] (sI true (l.filter fun x=>!p x)):=by
 refine FnC.go ok81 rfl ?_
 refine WL.sreg (by simp;rfl) (by simp;rfl) ?_
 refine WL.sregC (RL.o (by simp;rfl) (RL.call0 true (indexfunc l f cs p hl hf) (by simp) (by simp) (RL.o (by simp;rfl) (RL.nil ⟨_,by simp;rfl,?_⟩))))
 rcases ixF_range p l 0 with ⟨h1,h2⟩ | ⟨k,hk,h1,h2,h3⟩
 ·refine WL.seq (WL.sreg (by simp[h1];rfl) (by simp;rfl) (WL.cond (t:=true) (by simp) (fun _=>?_) (by simp)))
  refine WL.sreg (by simp;rfl) (by simp;rfl) (WL.ret ⟨.inr rfl,?_⟩)
  have hfl:(l.filter fun x=>!p x)=l:=by
   rw[List.filter_eq_self]
   intro a ha
   have:=List.any_eq_false.1 h2 a ha
   simpa using this
  simp[fi81,hfl]
 ·rw[Nat.zero_add] at h1
  have hkn:¬ ((k:Int)=-1):=by omega
  have hw:IntKind.wrap .i64 ((k:Int)+1)=((k+1:Nat):Int):=wrap_succ hl hk
  have hflk:(l.take k).filter (fun x=>!p x)=l.take k:=by
   rw[List.filter_eq_self]
   intro a ha
   obtain⟨m,hm,rfl⟩:=List.getElem_of_mem ha
   simp at hm
   simp[h3 m (by omega)]
  have hflk1:(l.take (k+1)).filter (fun x=>!p x)=l.take k:=by
   rw[take_succ_eq_app hk,List.filter_append,hflk]
   simp[h2]
  refine WL.seq (WL.sreg (by simp[h1];rfl) (by simp;rfl) (WL.cond (t:=false) (by simp[hkn]) (by simp) (fun _=>WL.skip ?_)))
  simp only[Ex.thenL_nrm]
  refine WL.seq (WL.sreg (by simp[hw];rfl) (by simp;rfl) ?_)
  refine WL.block (WL.loop (ι:={x:Nat × List Int // DelI l p x.1 x.2}) (fun x=>dl81 l p f cs x.1.1 x.1.2) (fun x=>l.length - x.1.1) ⟨(k+1,l),hk,rfl,rfl,by rw[hflk1];simp,by rw[hflk1];simp;omega⟩ (by simp[dl81,hflk1,Nat.min_eq_left (Nat.le_of_lt hk)]) fun ⟨⟨j,row⟩,I⟩=>?_)
  simp only[dl81]
  have hj:=I.hj
  have hlen:=I.len
  simp only at hj hlen
  by_cases h:j < l.length
  ·have hrj:row[j]'(by omega)=l[j]:=by
    have h5:(row.drop j)[0]?=(l.drop j)[0]?:=by rw[I.rest]
    simp only[List.getElem?_drop,Nat.add_zero] at h5
    rw[List.getElem?_eq_getElem (by omega),List.getElem?_eq_getElem h] at h5
    exact Option.some.inj h5
   refine WL.seq (WL.sreg (by simp[h];rfl) (by simp;rfl) (WL.cond (t:=true) (by simp) (fun _=>WL.skip ?_) (by simp)))
   simp only[Ex.thenL_nrm]
   have hj1:j+1≤l.length:=h
   have hIl:=I.lt
   have hIk:=I.kept
   have hIr:=I.rest
   simp only at hIl hIk hIr
   generalize hi:((l.take j).filter fun x=>!p x).length=i at hIl hIk ⊢
   have hir:i < row.length:=by omega
   have hil:i < l.length:=by omega
   have hwi:IntKind.wrap .i64 ((i:Int)+1)=((i+1:Nat):Int):=wrap_succ hl hil
   have hwj:IntKind.wrap .i64 ((j:Int)+1)=((j+1:Nat):Int):=wrap_succ hl h
   refine WL.seq (WL.block (WL.sreg (by simp[h,hlen,hrj,hj1];rfl) (by simp;rfl) ?_))
   refine WL.sregC (RL.o (by simp;rfl) (RL.clo0 (f:=f) (cps:=[.vptr () cs]) false (by simp) (hf l[j] (List.getElem_mem h)) (by simp) (by simp) (by simp) (RL.o (by simp;rfl) (RL.nil ⟨_,by simp;rfl,?_⟩))))
   have hrest:row.drop (j+1)=l.drop (j+1):=by
    have:=congrArg (List.drop 1) hIr
    simpa [List.drop_drop] using this
   cases hp:p l[j] with
   | false =>
    refine WL.cond (t:=true) (by simp[hp]) (fun _=>?_) (by simp)
    refine WL.sreg (by simp[hil,hir];rfl) (by simp;rfl) ?_
    refine WL.reg (RL.run (by simp[hwi];rfl) ⟨_,by simp;rfl,?_⟩)
    refine WL.reg (RL.run (by simp[hwj];rfl) ⟨_,by simp;rfl,?_⟩)
    have hf1:(l.take (j+1)).filter (fun x=>!p x)=((l.take j).filter fun x=>!p x) ++ [l[j]]:=by
     rw[take_succ_eq_app h,List.filter_append]
     simp[hp]
    refine⟨⟨(j+1,row.set i l[j]),hj1,by simp[hlen],?_,?_,?_⟩,?_,?_⟩
    ·show (row.set i l[j]).drop (j+1)=_
     rw[List.drop_set_of_lt (by omega),hrest]
    ·show (row.set i l[j]).take ((l.take (j+1)).filter fun x=>!p x).length=(l.take (j+1)).filter fun x=>!p x
     rw[hf1,List.length_append,hi,← hIk]
     have h8:(row.set i l[j]).take (i+1)=row.take i ++ [l[j]]:=by
      rw[take_succ_eq_app (by simpa using hir),List.take_set_of_le (Nat.le_refl _)]
      simp
     simpa using h8
    ·show ((l.take (j+1)).filter fun x=>!p x).length < j+1
     rw[hf1,List.length_append,hi];simp;omega
    ·simp only[hf1,List.length_append,hi]
     simp[List.map_set]
    ·show l.length - (j+1) < l.length - j
     omega
   | true =>
    refine WL.cond (t:=false) (by simp[hp]) (by simp) (fun _=>WL.skip ?_)
    refine WL.reg (RL.run (by simp[hwj];rfl) ⟨_,by simp;rfl,?_⟩)
    have hf1:(l.take (j+1)).filter (fun x=>!p x)=((l.take j).filter fun x=>!p x):=by
     rw[take_succ_eq_app h,List.filter_append]
     simp[hp]
    refine⟨⟨(j+1,row),hj1,hlen,hrest,?_,?_⟩,?_,?_⟩
    ·show row.take ((l.take (j+1)).filter fun x=>!p x).length=(l.take (j+1)).filter fun x=>!p x
     rw[hf1,hi,hIk]
    ·show ((l.take (j+1)).filter fun x=>!p x).length < j+1
     rw[hf1,hi];omega
    ·simp only[hf1,hi]
     simp
    ·show l.length - (j+1) < l.length - j
     omega
  ·have hjn:j=l.length:=by omega
   subst hjn
   have hIl:=I.lt
   have hIk:=I.kept
   simp only[List.take_length] at hIl hIk
   generalize hi:(l.filter fun x=>!p x).length=i at hIl hIk
   simp only[List.take_length,hi]
   refine WL.seq (WL.sreg (by simp;rfl) (by simp;rfl) (WL.cond (t:=false) (by simp) (by simp) fun _=>WL.exit ?_))
   simp
   have hi1:i≤l.length:=by omega
   refine WL.sregC (RL.o (by simp[hi1];rfl) (RL.clear (z:=.int .i64 0) Try.underlying23 Try.zeroValue3 rfl rfl (by decide) (by decide) ((congrArg (clL _ _) (show _=AV.view 1000000 0 [] i (l.length - i) by simp)).trans (clL_sc (row:=row) (m:=l.length) (by simp) (by simp) (by omega))) (RL.nil ⟨_,by simp;rfl,?_⟩)))
   refine WL.sreg (by simp[hi1];rfl) (by simp;rfl) (WL.ret ⟨.inr rfl,?_⟩)
   have hsp:List.take i (splice (row.map i64) i (List.replicate (l.length - i) (AV.sc (Value.int IntKind.i64 0))))=(l.filter fun x=>!p x).map i64:=by
    have hmin:i≤(row.map i64).length:=by simp;omega
    rw[← hIk]
    have h9:min i row.length=i:=by omega
    simp[splice,List.take_append,hmin,List.map_take,h9,List.take_take]
   simp[fi81,hsp,hi]
end Go.OT
namespace Go.OT
open Go.Proofs
def okRd (R:List Int)(i:Nat):Bool:=isT (R.getD i 0) && !(decide (0 < i) && decide (R.getD i 0≤R.getD (i - 1) 0))
def okWt (l:Lt)(i:Nat):Bool:=isT (whoT (l.Q.getD i 0)).1 && !hasL l (whoT (l.Q.getD i 0)).1 && !(decide (i=0) && fitsL l (whoT (l.Q.getD i 0)).2) && !waitsL (l.Q.take i) (whoT (l.Q.getD i 0)).1
def mayW (l:Lt):Bool:=l.W == -1 || (isT l.W && !decide (0 < l.R.length))
def mayL (l:Lt):Bool:=mayW l && (List.range l.R.length).all (okRd l.R) && (List.range l.Q.length).all (okWt l)
structure LSz (l:Lt):Prop where
 r:l.R.length≤1000
 q:l.Q.length≤1000
 n:∀ w ∈ l.Q,N64 w
def m79a (l:Lt)(i:Nat):SL:=[(100,0,.bptr 1 1 0),(101,0,i64 l.W),(102,0,sI false l.R),(103,0,sI false l.Q),(199,1,.non),(2500,0,sI false l.R),(2600,0,i64 l.R.length),(2700,0,i64 i)]
def m79b (l:Lt)(i:Nat):SL:=[(100,0,.bptr 1 1 0),(101,0,i64 l.W),(102,0,sI false l.R),(103,0,sI false l.Q),(199,1,.non),(5100,0,sI false l.Q),(5200,0,i64 l.Q.length),(5300,0,i64 i)]
theorem mayL_notR {l:Lt}{i:Nat}(h:i < l.R.length)(hn:okRd l.R i=false):mayL l=false:=by
 have:(List.range l.R.length).all (okRd l.R)=false:=by
  rw[List.all_eq_false]
  exact⟨i,by simpa using h,by simp[hn]⟩
 simp[mayL,this]
theorem mayL_notQ {l:Lt}{i:Nat}(h:i < l.Q.length)(hn:okWt l i=false):mayL l=false:=by
 have:(List.range l.Q.length).all (okWt l)=false:=by
  rw[List.all_eq_false]
  exact⟨i,by simpa using h,by simp[hn]⟩
 simp[mayL,this]
set_option maxHeartbeats 4000000 in
theorem may_fn (l:Lt)(hz:LSz l):FnC Try.prog 79 [] [encL false l] [] (bl (mayL l)):=by
 have hR:Small l.R.length:=by have:=hz.r;unfold Small;omega
 have hQ:Small l.Q.length:=by have:=hz.q;unfold Small;omega
 refine FnC.go ok79 rfl ?_
 refine WL.sreg (by simp;rfl) (by simp;rfl) ?_
 refine WL.seq (WL.join [(100,0,.bptr 1 1 0),(101,0,i64 l.W),(102,0,sI false l.R),(103,0,sI false l.Q),(199,1,.non),(2300,0,bl (!mayW l))] ?_ ?_)
 ·by_cases h1:l.W=-1
  ·refine WL.reg (RL.o (by simp[h1];rfl) (RL.g (by simp;rfl) (RL.callN (by simp) (RL.g (by simp;rfl) (RL.g (by simp;rfl) (RL.g (by simp;rfl) (RL.o (by simp;rfl) (RL.nil ⟨_,by simp;rfl,rfl,?_⟩))))))))
   simp[mayW,h1]
  ·have h1':(l.W != -1)=true:=by simpa using h1
   have h1'':(l.W == -1)=false:=by simpa using h1
   cases h2:isT l.W with
   | false =>
    refine WL.reg (RL.o (by simp[h1'];rfl) (RL.g (by simp;rfl) (RL.callY0 false (by simp) (is_fn l.W) (by simp) (by simp) (RL.g (by simp[h2];rfl) (RL.g (by simp;rfl) (RL.g (by simp;rfl) (RL.o (by simp;rfl) (RL.nil ⟨_,by simp;rfl,rfl,?_⟩))))))))
    simp[mayW,h1'',h2]
   | true =>
    refine WL.reg (RL.o (by simp[h1'];rfl) (RL.g (by simp;rfl) (RL.callY0 false (by simp) (is_fn l.W) (by simp) (by simp) (RL.g (by simp[h2];rfl) (RL.g (by simp;rfl) (RL.g (by simp;rfl) (RL.o (by simp;rfl) (RL.nil ⟨_,by simp;rfl,rfl,?_⟩))))))))
    simp[mayW,h1'',h2]
 refine WL.cond (t:=!mayW l) (by simp) (fun h=>?_) (fun h=>WL.skip ?_)
 ·refine WL.sreg (by simp;rfl) (by simp;rfl) (WL.ret ⟨.inr rfl,?_⟩)
  have:mayW l=false:=by simpa using h
  simp[fi79,mayL,this]
 have hw:mayW l=true:=by simpa using h
 simp only[Ex.thenL_nrm]
 refine WL.seq (WL.sreg (by simp;rfl) (by simp;rfl) ?_)
 refine WL.block (WL.count l.R.length (m79a l) (fun i=>∀ m,m < i→okRd l.R m=true) (by simp[m79a]) (fun m hm=>absurd hm (by omega)) fun i hi hinv=>?_)
 simp only[m79a]
 by_cases h:i < l.R.length
 ·refine WL.sreg (by simp[h];rfl) (by simp;rfl) ?_
  refine WL.seq (WL.cond (t:=true) (by simp) (fun _=>WL.skip ?_) (by simp))
  simp only[Ex.thenL_nrm]
  have hwi:IntKind.wrap .i64 ((i:Int)+1)=((i+1:Nat):Int):=wrap_succ hR h
  have hg:l.R.getD i 0=l.R[i]:=by simp[List.getD_eq_getElem?_getD,h]
  refine WL.seq (WL.block (WL.sreg (by simp[h];rfl) (by simp;rfl) ?_))
  refine WL.join [(100,0,.bptr 1 1 0),(101,0,i64 l.W),(102,0,sI false l.R),(103,0,sI false l.Q),(199,1,.non),(2500,0,sI false l.R),(2600,0,i64 l.R.length),(2700,0,i64 i),(4800,0,bl (!okRd l.R i))] ?_ ?_
  ·cases h2:isT l.R[i] with
   | false =>
    refine WL.reg (RL.o (by simp;rfl) (RL.call0 false (is_fn l.R[i]) (by simp) (by simp) (RL.o (by simp[h2];rfl) (RL.g (by simp;rfl) (RL.g (by simp;rfl) (RL.g (by simp;rfl) (RL.o (by simp;rfl) (RL.nil ⟨_,by simp;rfl,rfl,?_⟩))))))))
    have hok:okRd l.R i=false:=by simp only[okRd,hg,h2,Bool.false_and]
    simp[hok]
   | true =>
    cases i with
    | zero =>
     refine WL.reg (RL.o (by simp;rfl) (RL.call0 false (is_fn l.R[0]) (by simp) (by simp) (RL.o (by simp[h2];rfl) (RL.g (by simp;rfl) (RL.g (by simp;rfl) (RL.g (by simp;rfl) (RL.o (by simp;rfl) (RL.nil ⟨_,by simp;rfl,rfl,?_⟩))))))))
     have hok:okRd l.R 0=true:=by simp only[okRd,hg,h2];simp
     simp[hok]
    | succ k =>
     have hk:k < l.R.length:=by omega
     have hw1:IntKind.wrap .i64 (k:Int)=(k:Int):=by rw[wrap_small (by omega) (by unfold Small at hR;omega)]
     have hg1:l.R.getD k 0=l.R[k]:=by simp[List.getD_eq_getElem?_getD,hk]
     have hpos:(0:Int) < ((k+1:Nat):Int):=by omega
     refine WL.reg (RL.o (by simp;rfl) (RL.call0 false (is_fn l.R[k+1]) (by simp) (by simp) (RL.o (by simp[h2];rfl) (RL.g (by simp[hpos];rfl) (RL.g (by simp[hw1,hk];rfl) (RL.g (by simp;rfl) (RL.o (by simp;rfl) (RL.nil ⟨_,by simp;rfl,rfl,?_⟩))))))))
     have hok:okRd l.R (k+1)=!decide (l.R[k+1]≤l.R[k]):=by simp only[okRd,hg,Nat.add_sub_cancel,hg1,h2];simp
     simp[hok]
  refine WL.cond (t:=!okRd l.R i) (by simp) (fun h5=>?_) (fun h5=>WL.skip ?_)
  ·refine WL.sreg (by simp;rfl) (by simp;rfl) (WL.ret ⟨.inr rfl,?_⟩)
   have:=mayL_notR h (by simpa using h5)
   simp[fi79,this]
  ·refine WL.reg (RL.run (by simp[hwi];rfl) ⟨_,by simp;rfl,?_⟩)
   exact⟨h,by simp[m79a],fun m hm=>by
    rcases Nat.lt_or_ge m i with h6 | h6
    ·exact hinv m h6
    ·have e:m=i:=by omega
     subst e;simpa using h5⟩
 ·have hin:i=l.R.length:=by omega
  subst hin
  have hRall:(List.range l.R.length).all (okRd l.R)=true:=by
   rw[List.all_eq_true]
   intro m hm
   exact hinv m (by simpa using hm)
  refine WL.sreg (by simp;rfl) (by simp;rfl) ?_
  refine WL.seq (WL.cond (t:=false) (by simp) (by simp) (fun _=>WL.exit ?_))
  simp only[Ex.thenL_nrm,Ex.thenL,Ex.blkL]
  simp
  refine WL.seq (WL.sreg (by simp;rfl) (by simp;rfl) ?_)
  refine WL.block (WL.count l.Q.length (m79b l) (fun i=>∀ m,m < i→okWt l m=true) (by simp[m79b]) (fun m hm=>absurd hm (by omega)) fun i hi hinv=>?_)
  simp only[m79b]
  by_cases h:i < l.Q.length
  ·refine WL.sreg (by simp[h];rfl) (by simp;rfl) ?_
   refine WL.seq (WL.cond (t:=true) (by simp) (fun _=>WL.skip ?_) (by simp))
   simp only[Ex.thenL_nrm]
   have hwi:IntKind.wrap .i64 ((i:Int)+1)=((i+1:Nat):Int):=wrap_succ hQ h
   have hg:l.Q.getD i 0=l.Q[i]:=by simp[List.getD_eq_getElem?_getD,h]
   have hn:=hz.n l.Q[i] (List.getElem_mem h)
   refine WL.seq (WL.block (WL.sreg (by simp[h];rfl) (by simp;rfl) ?_))
   refine WL.sregC (RL.o (by simp;rfl) (RL.call0 false (who_fn l.Q[i] hn) (by simp) (by simp) (RL.o (by simp;rfl) (RL.nil ⟨_,by simp;rfl,?_⟩))))
   generalize hwt:whoT l.Q[i]=wt
   obtain⟨x,b⟩:=wt
   have hok:okWt l i=(isT x && !hasL l x && !(decide (i=0) && fitsL l b) && !waitsL (l.Q.take i) x):=by simp only[okWt,hg,hwt]
   simp only
   refine WL.join [(100,0,.bptr 1 1 0),(101,0,i64 l.W),(102,0,sI false l.R),(103,0,sI false l.Q),(199,1,.non),(5100,0,sI false l.Q),(5200,0,i64 l.Q.length),(5300,0,i64 i),(8800,0,bl (!okWt l i))] ?_ ?_
   ·have hi1:i≤l.Q.length:=hi
    have hQi:Small (l.Q.take i).length:=by unfold Small at hQ ⊢;simp;omega
    have hni:∀ w ∈ l.Q.take i,N64 w:=fun w hw=>hz.n w (List.mem_of_mem_take hw)
    cases h2:isT x with
    | false =>
     refine WL.reg (RL.o (by simp;rfl) (RL.call0 false (is_fn x) (by simp) (by simp) (RL.o (by simp[h2];rfl) (RL.g (by simp;rfl) (RL.callN (by simp) (RL.o (by simp;rfl) (RL.g (by simp;rfl) (RL.g (by simp;rfl) (RL.callN (by simp) (RL.g (by simp;rfl) (RL.o (by simp;rfl) (RL.g (by simp;rfl) (RL.callN (by simp) (RL.o (by simp;rfl) (RL.nil ⟨_,by simp;rfl,rfl,?_⟩)))))))))))))))
     simp[hok,h2]
    | true =>
     cases h3:hasL l x with
     | true =>
      refine WL.reg (RL.o (by simp;rfl) (RL.call0 false (is_fn x) (by simp) (by simp) (RL.o (by simp[h2];rfl) (RL.g (by simp;rfl) (RL.callY0 false (by simp) (has_fn l x hR) (by simp) (by simp) (RL.o (by simp[h3];rfl) (RL.g (by simp;rfl) (RL.g (by simp;rfl) (RL.callN (by simp) (RL.g (by simp;rfl) (RL.o (by simp;rfl) (RL.g (by simp;rfl) (RL.callN (by simp) (RL.o (by simp;rfl) (RL.nil ⟨_,by simp;rfl,rfl,?_⟩)))))))))))))))
      simp[hok,h2,h3]
     | false =>
      by_cases h4:i=0
      ·subst h4
       cases h5:fitsL l b with
       | true =>
        refine WL.reg (RL.o (by simp;rfl) (RL.call0 false (is_fn x) (by simp) (by simp) (RL.o (by simp[h2];rfl) (RL.g (by simp;rfl) (RL.callY0 false (by simp) (has_fn l x hR) (by simp) (by simp) (RL.o (by simp[h3];rfl) (RL.g (by simp;rfl) (RL.g (by simp;rfl) (RL.callY0 false (by simp) (fits_fn l b) (by simp) (by simp) (RL.g (by simp[h5];rfl) (RL.o (by simp;rfl) (RL.g (by simp;rfl) (RL.callN (by simp) (RL.o (by simp;rfl) (RL.nil ⟨_,by simp;rfl,rfl,?_⟩)))))))))))))))
        simp[hok,h2,h3,h5]
       | false =>
        refine WL.reg (RL.o (by simp;rfl) (RL.call0 false (is_fn x) (by simp) (by simp) (RL.o (by simp[h2];rfl) (RL.g (by simp;rfl) (RL.callY0 false (by simp) (has_fn l x hR) (by simp) (by simp) (RL.o (by simp[h3];rfl) (RL.g (by simp;rfl) (RL.g (by simp;rfl) (RL.callY0 false (by simp) (fits_fn l b) (by simp) (by simp) (RL.g (by simp[h5];rfl) (RL.o (by simp;rfl) (RL.g (by simp[hi1];rfl) (RL.nilA 85 1 1 (by simp;rfl) (by simp) (by simp) (RL.callY0 false (by simp) (waits_fn ⟨0,[],l.Q.take 0⟩ x hQi hni) (by simp) (by simp) (RL.o (by simp;rfl) (RL.nil ⟨_,by simp;rfl,rfl,?_⟩))))))))))))))))
        simp[hok,h2,h3,h5]
      ·have h4b:((i:Int) == 0)=false:=by simp;omega
       refine WL.reg (RL.o (by simp;rfl) (RL.call0 false (is_fn x) (by simp) (by simp) (RL.o (by simp[h2];rfl) (RL.g (by simp;rfl) (RL.callY0 false (by simp) (has_fn l x hR) (by simp) (by simp) (RL.o (by simp[h3];rfl) (RL.g (by simp[h4b];rfl) (RL.g (by simp;rfl) (RL.callN (by simp) (RL.g (by simp;rfl) (RL.o (by simp;rfl) (RL.g (by simp[hi1];rfl) (RL.nilA 85 1 1 (by simp;rfl) (by simp) (by simp) (RL.callY0 false (by simp) (waits_fn ⟨0,[],l.Q.take i⟩ x hQi hni) (by simp[Nat.min_eq_left hi1]) (by simp) (RL.o (by simp;rfl) (RL.nil ⟨_,by simp;rfl,rfl,?_⟩))))))))))))))))
       simp[hok,h2,h3,h4]
   refine WL.cond (t:=!okWt l i) (by simp) (fun h5=>?_) (fun h5=>WL.skip ?_)
   ·refine WL.sreg (by simp;rfl) (by simp;rfl) (WL.ret ⟨.inr rfl,?_⟩)
    have:=mayL_notQ h (by simpa using h5)
    simp[fi79,this]
   ·refine WL.reg (RL.run (by simp[hwi];rfl) ⟨_,by simp;rfl,?_⟩)
    exact⟨h,by simp[m79b],fun m hm=>by
     rcases Nat.lt_or_ge m i with h6 | h6
     ·exact hinv m h6
     ·have e:m=i:=by omega
      subst e;simpa using h5⟩
  ·have hin:i=l.Q.length:=by omega
   subst hin
   have hQall:(List.range l.Q.length).all (okWt l)=true:=by
    rw[List.all_eq_true]
    intro m hm
    exact hinv m (by simpa using hm)
   refine WL.sreg (by simp;rfl) (by simp;rfl) ?_
   refine WL.seq (WL.cond (t:=false) (by simp) (by simp) (fun _=>WL.exit ?_))
   simp
   refine WL.sreg (by simp;rfl) (by simp;rfl) (WL.ret ⟨.inr rfl,?_⟩)
   simp[fi79,mayL,hw,hRall,hQall]
end Go.OT
namespace Go.OT
open Go.Proofs
def askBad (l:Lt)(t:Int):Bool:=!mayL l || !isT t || hasL l t || waitsL l.Q t
def askIn (l:Lt)(b:Bool):Bool:=decide (l.Q.length=0) && fitsL l b
def askL (l:Lt)(t:Int)(b:Bool):Lt × Bool :=
 if askBad l t=true then (l,false)
 else if askIn l b=true then (inL l t b,true)
 else ({ l with Q:=l.Q ++ [if b=true then -2 - t else t] },false)
theorem sorted_of_ok {R:List Int}(h:(List.range R.length).all (okRd R)=true):R.Pairwise (· < ·):=by
 have hs:∀ i (hi:i+1 < R.length),R[i] < R[i+1]:=by
  intro i hi
  have:=List.all_eq_true.1 h (i+1) (by simpa using hi)
  simp only[okRd,Nat.add_sub_cancel] at this
  simp[List.getD_eq_getElem?_getD,hi,show i < R.length by omega] at this
  omega
 rw[List.pairwise_iff_getElem]
 intro i j hi hj hij
 obtain⟨k,rfl⟩:∃ k,j=i+1+k:=⟨j - i - 1,by omega⟩
 induction k with
 | zero=>exact hs i hj
 | succ k ih=>exact Int.lt_trans (ih (by omega) (by omega)) (hs (i+1+k) hj)
theorem may_sorted {l:Lt}(h:mayL l=true):l.R.Pairwise (· < ·):=by
 simp only[mayL,Bool.and_eq_true] at h
 exact sorted_of_ok h.1.2
set_option maxHeartbeats 4000000 in
theorem ask_fn (l:Lt)(hz:LSz l)(t:Int)(b:Bool):FnC Try.prog 78 [] [encL false l,i64 t,bl b] [] (.tuple [encL false (askL l t b).1,bl (askL l t b).2]):=by
 have hR:Small l.R.length:=by have:=hz.r;unfold Small;omega
 have hQ:Small l.Q.length:=by have:=hz.q;unfold Small;omega
 refine FnC.go ok78 rfl ?_
 refine WL.sreg (by simp;rfl) (by simp;rfl) ?_
 refine WL.seq (WL.join [(100,0,i64 t),(200,0,bl b),(300,0,.bptr 3 1 0),(301,0,i64 l.W),(302,0,sI false l.R),(303,0,sI false l.Q),(399,1,.non),(600,0,.bptr 6 1 0),(601,0,i64 0),(602,0,.sl true () 1 0 []),(603,0,.sl true () 1 0 []),(699,1,.non),(2500,0,bl (askBad l t))] ?_ ?_)
 ·cases h1:mayL l with
  | false =>
   refine WL.reg (RL.o (by simp;rfl) (RL.call0 false (may_fn l hz) (by simp) (by simp) (RL.o (by simp[h1];rfl) (RL.g (by simp;rfl) (RL.callN (by simp) (RL.g (by simp;rfl) (RL.o (by simp;rfl) (RL.g (by simp;rfl) (RL.callN (by simp) (RL.o (by simp;rfl) (RL.g (by simp;rfl) (RL.callN (by simp) (RL.o (by simp;rfl) (RL.nil ⟨_,by simp;rfl,rfl,?_⟩))))))))))))))
   simp[askBad,h1]
  | true =>
   cases h2:isT t with
   | false =>
    refine WL.reg (RL.o (by simp;rfl) (RL.call0 false (may_fn l hz) (by simp) (by simp) (RL.o (by simp[h1];rfl) (RL.g (by simp;rfl) (RL.callY0 false (by simp) (is_fn t) (by simp) (by simp) (RL.g (by simp[h2];rfl) (RL.o (by simp;rfl) (RL.g (by simp;rfl) (RL.callN (by simp) (RL.o (by simp;rfl) (RL.g (by simp;rfl) (RL.callN (by simp) (RL.o (by simp;rfl) (RL.nil ⟨_,by simp;rfl,rfl,?_⟩))))))))))))))
    simp[askBad,h1,h2]
   | true =>
    cases h3:hasL l t with
    | true =>
     refine WL.reg (RL.o (by simp;rfl) (RL.call0 false (may_fn l hz) (by simp) (by simp) (RL.o (by simp[h1];rfl) (RL.g (by simp;rfl) (RL.callY0 false (by simp) (is_fn t) (by simp) (by simp) (RL.g (by simp[h2];rfl) (RL.o (by simp;rfl) (RL.g (by simp;rfl) (RL.callY0 false (by simp) (has_fn l t hR) (by simp) (by simp) (RL.o (by simp[h3];rfl) (RL.g (by simp;rfl) (RL.callN (by simp) (RL.o (by simp;rfl) (RL.nil ⟨_,by simp;rfl,rfl,?_⟩))))))))))))))
     simp[askBad,h1,h2,h3]
    | false =>
     refine WL.reg (RL.o (by simp;rfl) (RL.call0 false (may_fn l hz) (by simp) (by simp) (RL.o (by simp[h1];rfl) (RL.g (by simp;rfl) (RL.callY0 false (by simp) (is_fn t) (by simp) (by simp) (RL.g (by simp[h2];rfl) (RL.o (by simp;rfl) (RL.g (by simp;rfl) (RL.callY0 false (by simp) (has_fn l t hR) (by simp) (by simp) (RL.o (by simp[h3];rfl) (RL.g (by simp;rfl) (RL.callY0 false (by simp) (waits_fn l t hQ hz.n) (by simp) (by simp) (RL.o (by simp;rfl) (RL.nil ⟨_,by simp;rfl,rfl,?_⟩))))))))))))))
     simp[askBad,h1,h2,h3]
 refine WL.cond (t:=askBad l t) (by simp) (fun h=>?_) (fun h=>WL.skip ?_)
 ·refine WL.sreg (by simp;rfl) (by simp;rfl) (WL.ret ⟨.inr rfl,?_⟩)
  simp[fi78,askL,h]
 simp only[Ex.thenL_nrm]
 have hm:mayL l=true∧isT t=true:=by
  simp only[askBad,Bool.or_eq_false_iff,Bool.not_eq_false'] at h
  exact h.1.1
 refine WL.sregC (RL.o (by simp;rfl) (RL.call0 false (lown_fn l hR hQ) (by simp) (by simp) (RL.o (by simp;rfl) (RL.nil ⟨_,by simp;rfl,?_⟩))))
 refine WL.seq (WL.join [(100,0,i64 t),(200,0,bl b),(300,0,.bptr 3 1 0),(301,0,i64 l.W),(302,0,sI true l.R),(303,0,sI true l.Q),(399,1,.non),(600,0,.bptr 6 1 0),(601,0,i64 0),(602,0,.sl true () 1 0 []),(603,0,.sl true () 1 0 []),(699,1,.non),(3700,0,bl (askIn l b))] ?_ ?_)
 ·by_cases h4:l.Q.length=0
  ·refine WL.reg (RL.o (by simp[h4];rfl) (RL.g (by simp;rfl) (RL.callY0 true (by simp) (fits_fn l b) (by simp) (by simp) (RL.o (by simp;rfl) (RL.nil ⟨_,by simp;rfl,rfl,?_⟩)))))
   simp[askIn,h4]
  ·have h4':l.Q ≠ []:=fun e=>h4 (by rw[e];rfl)
   have h4c:((l.Q.length:Int) == 0)=false:=by simp;exact h4'
   refine WL.reg (RL.o (by simp[h4c];rfl) (RL.g (by simp;rfl) (RL.callN (by simp) (RL.o (by simp;rfl) (RL.nil ⟨_,by simp;rfl,rfl,?_⟩)))))
   simp[askIn,h4']
 refine WL.cond (t:=askIn l b) (by simp) (fun h5=>?_) (fun h5=>WL.skip ?_)
 ·refine WL.freeze 303 ?_
  refine WL.sregC (RL.o (by simp;rfl) (RL.call false [(302,[])] (in_fn l t b ((may_sorted hm.1).imp fun h=>Int.le_of_lt h) (Nat.le_trans hz.r (by decide))) (by simp) (by simp) (by simp[gkey]) (by simp) (RL.o (by simp;rfl) (RL.nil ⟨_,by simp;rfl,?_⟩))))
  refine WL.freeze 602 (WL.ret ⟨.inr rfl,?_⟩)
  have e:askL l t b=(inL l t b,true):=by simp[askL,h,h5]
  simp[fi78,e]
 ·simp only[Ex.thenL_nrm]
  have e:askL l t b=({ l with Q:=l.Q ++ [if b=true then -2 - t else t] },false):=by simp[askL,h,h5]
  have ht:0≤t∧t < 64:=by simpa [isT] using hm.2
  have hw:IntKind.wrap .i64 (-2 - t)=-2 - t:=wrap_small (by omega) (by omega)
  have hn:=hz.q
  have hm1:(l.Q.length+1) * 8≤140737488355328:=by omega
  have hm2:l.Q.length+1≤maxLen:=by unfold maxLen;omega
  refine WL.seq (WL.sreg (by simp;rfl) (by simp;rfl) ?_)
  cases b with
  | true =>
   refine WL.cond (t:=true) (by simp) (fun _=>?_) (by simp)
   refine WL.reg (RL.run (by simp[hw];rfl) ⟨_,by simp;rfl,?_⟩)
   simp only[Ex.thenL_nrm]
   refine WL.sreg (by simp[hm1,hm2];rfl) (by simp;rfl) ?_
   refine WL.sreg (by simp;rfl) (by simp;rfl) ?_
   refine WL.freeze 602 (WL.freeze 603 (WL.ret ⟨.inr rfl,?_⟩))
   simp[fi78,e]
   rw[List.take_of_length_le (by simp),List.take_of_length_le (by simp)]
   have hmp:List.map i64 l.Q ++ [AV.sc (Value.int IntKind.i64 (-2 - t))]=(l.Q ++ [(-2 - t)]).map i64:=by simp
   rw[hmp,lendL_map]
   simp
  | false =>
   refine WL.cond (t:=false) (by simp) (by simp) (fun _=>WL.skip ?_)
   simp only[Ex.thenL_nrm]
   refine WL.sreg (by simp[hm1,hm2];rfl) (by simp;rfl) ?_
   refine WL.sreg (by simp;rfl) (by simp;rfl) ?_
   refine WL.freeze 602 (WL.freeze 603 (WL.ret ⟨.inr rfl,?_⟩))
   simp[fi78,e]
   rw[List.take_of_length_le (by simp),List.take_of_length_le (by simp)]
   have hmp:List.map i64 l.Q ++ [AV.sc (Value.int IntKind.i64 t)]=(l.Q ++ [t]).map i64:=by simp
   rw[hmp,lendL_map]
   simp
end Go.OT
namespace Go.OT
open Go.Proofs
def newL:Lt:=⟨-1,[],[]⟩
set_option maxHeartbeats 4000000 in
theorem lnew_fn:FnC Try.prog 21 [] [] [] (encL true newL):=by
 refine FnC.go ok21 rfl ?_
 refine WL.sreg (by simp;rfl) (by simp;rfl) ?_
 refine WL.sreg (by simp;rfl) (by simp;rfl) ?_
 refine WL.nil1 2 true 1 (by simp) (WL.nil1 3 true 1 (by simp) (WL.ret ⟨.inr rfl,?_⟩))
 simp[fi21,newL]
set_option maxHeartbeats 4000000 in
theorem lock_fn (l:Lt)(hz:LSz l)(t:Int):FnC Try.prog 22 [] [encL false l,i64 t] [] (.tuple [encL false (askL l t false).1,bl (askL l t false).2]):=by
 refine FnC.go ok22 rfl ?_
 refine WL.sreg (by simp;rfl) (by simp;rfl) ?_
 refine WL.sregC (RL.o (by simp;rfl) (RL.call0 false (ask_fn l hz t false) (by simp) (by simp) (RL.o (by simp;rfl) (RL.nil ⟨_,by simp;rfl,WL.ret ⟨.inr rfl,?_⟩⟩))))
 simp[fi22]
set_option maxHeartbeats 4000000 in
theorem share_fn (l:Lt)(hz:LSz l)(t:Int):FnC Try.prog 23 [] [encL false l,i64 t] [] (.tuple [encL false (askL l t true).1,bl (askL l t true).2]):=by
 refine FnC.go ok23 rfl ?_
 refine WL.sreg (by simp;rfl) (by simp;rfl) ?_
 refine WL.sregC (RL.o (by simp;rfl) (RL.call0 false (ask_fn l hz t true) (by simp) (by simp) (RL.o (by simp;rfl) (RL.nil ⟨_,by simp;rfl,WL.ret ⟨.inr rfl,?_⟩⟩))))
 simp[fi23]
def letQ (w:Int)(r:List Int):List Int→Lt × List Int
 | []=>(⟨w,r,[]⟩,[])
 | q :: qs=>if fitsL ⟨w,r,q :: qs⟩ (whoT q).2=true then
   ((letQ (inL ⟨w,r,qs⟩ (whoT q).1 (whoT q).2).W (inL ⟨w,r,qs⟩ (whoT q).1 (whoT q).2).R qs).1,(whoT q).1 :: (letQ (inL ⟨w,r,qs⟩ (whoT q).1 (whoT q).2).W (inL ⟨w,r,qs⟩ (whoT q).1 (whoT q).2).R qs).2)
  else (⟨w,r,q :: qs⟩,[])
def freeL (l:Lt)(t:Int):Lt × List Int × Int :=
 if mayL l=false then (l,[],1)
 else if hasL l t=false then (l,[],12)
 else ((letQ (if l.W=t then -1 else l.W) (l.R.filter fun r=>!(r == t)) l.Q).1,(letQ (if l.W=t then -1 else l.W) (l.R.filter fun r=>!(r == t)) l.Q).2,0)
theorem insAt_sorted {t:Int}:∀ {l:List Int},l.Pairwise (·≤·)→(insAt l (rank l t) t).Pairwise (·≤·)
 | [],_=>by simp[insAt]
 | a :: l,h=>by
  have ha:=(List.pairwise_cons.1 h).1
  by_cases h1:a < t
  ·have e:insAt (a :: l) (rank (a :: l) t) t=a :: insAt l (rank l t) t:=by simp[insAt,rank,h1]
   rw[e,List.pairwise_cons]
   refine⟨fun x hx=>?_,insAt_sorted (List.pairwise_cons.1 h).2⟩
   simp only[insAt,List.mem_append,List.mem_cons] at hx
   rcases hx with hx | rfl | hx
   ·exact ha x (List.mem_of_mem_take hx)
   ·omega
   ·exact ha x (List.mem_of_mem_drop hx)
  ·have e0:rank (a :: l) t=0:=by
    unfold rank
    rw[List.length_eq_zero_iff,List.filter_eq_nil_iff]
    intro x hx
    rcases List.mem_cons.1 hx with rfl | hx
    ·simpa using h1
    ·have:=ha x hx
     simp;omega
   rw[e0]
   have e:insAt (a :: l) 0 t=t :: a :: l:=by simp[insAt]
   rw[e,List.pairwise_cons]
   refine⟨fun x hx=>?_,h⟩
   rcases List.mem_cons.1 hx with rfl | hx
   ·omega
   ·have:=ha x hx;omega
theorem noImm_ints:∀ l:List Int,noImmL (l.map i64)=true
 | []=>rfl
 | x :: l=>by simp only[List.map_cons,noImmL,noImm,noImm_ints l,Bool.and_self]
structure FreeI (N:Nat) (fin:Lt × List Int) (l:Lt) (ls:List Int):Prop where
 srt:l.R.Pairwise (·≤·)
 len:l.R.length+l.Q.length≤N
 len2:ls.length+l.Q.length≤N
 n:∀ w ∈ l.Q,N64 w
 go:(letQ l.W l.R l.Q).1=fin.1∧ls ++ (letQ l.W l.R l.Q).2=fin.2
def fr24 (l:Lt)(ls:List Int):SL:=[(200,0,.bptr 2 1 0),(201,0,i64 l.W),(202,0,sI true l.R),(203,0,sI false l.Q),(299,1,.non),(400,0,.bptr 4 1 0),(401,0,i64 0),(402,0,.sl true () 1 0 []),(403,0,.sl true () 1 0 []),(499,1,.non),(700,0,sI true ls)]
set_option maxHeartbeats 4000000 in
theorem free_fn (l:Lt)(hz:LSz l)(t:Int):FnC Try.prog 24 [] [encL false l,i64 t] [] (.tuple [encL false (freeL l t).1,sI true (freeL l t).2.1,i64 (freeL l t).2.2]):=by
 have hR:Small l.R.length:=by have:=hz.r;unfold Small;omega
 have hQ:Small l.Q.length:=by have:=hz.q;unfold Small;omega
 refine FnC.go ok24 rfl ?_
 refine WL.sreg (by simp;rfl) (by simp;rfl) ?_
 refine WL.scope (WL.seq (WL.block ?_))
 refine WL.sregC (RL.o (by simp;rfl) (RL.call0 false (may_fn l hz) (by simp) (by simp) (RL.o (by simp;rfl) (RL.nil ⟨_,by simp;rfl,?_⟩))))
 cases hm:mayL l with
 | false =>
  refine WL.cond (t:=true) (by simp[hm]) (fun _=>?_) (by simp)
  refine WL.sreg (by simp;rfl) (by simp;rfl) (WL.ret ⟨.inr rfl,?_⟩)
  simp[fi24,freeL,hm]
 | true =>
  refine WL.cond (t:=false) (by simp[hm]) (by simp) (fun _=>?_)
  refine WL.sregC (RL.o (by simp;rfl) (RL.call0 false (has_fn l t hR) (by simp) (by simp) (RL.o (by simp;rfl) (RL.nil ⟨_,by simp;rfl,?_⟩))))
  cases hh:hasL l t with
  | false =>
   refine WL.cond (t:=true) (by simp[hh]) (fun _=>?_) (by simp)
   refine WL.sreg (by simp;rfl) (by simp;rfl) (WL.ret ⟨.inr rfl,?_⟩)
   simp[fi24,freeL,hm,hh]
  | true =>
  refine WL.cond (t:=false) (by simp[hh]) (by simp) (fun _=>WL.skip ?_)
  simp only[Ex.blkL,Ex.thenL]
  refine WL.sregC (RL.o (by simp;rfl) (RL.call0 false (lown_fn l hR hQ) (by simp) (by simp) (RL.o (by simp;rfl) (RL.nil ⟨_,by simp;rfl,?_⟩))))
  refine WL.freeze 203 ?_
  generalize hW:(if l.W=t then -1 else l.W)=W1
  have hrest:WL Try.prog fi24.nt c24_19 [(200,0,.bptr 2 1 0),(201,0,i64 W1),(202,0,sI true l.R),(203,0,sI false l.Q),(299,1,.non),(300,0,.bptr 3 1 0),(301,0,i64 t),(399,1,.non),(400,0,.bptr 4 1 0),(401,0,i64 0),(402,0,.sl true () 1 0 []),(403,0,.sl true () 1 0 []),(499,1,.non)] (fun e L=>(e=Ex.nrm∨e=Ex.ret)∧RetOk fi24.rs [] (AV.tuple [encL false (freeL l t).fst,sI true (freeL l t).snd.fst,i64 (freeL l t).snd.snd]) L):=by
   refine WL.sregC (RL.o (by simp;rfl) (RL.call true [(202,[])] (del_fn l.R 82 [i64 t] (fun r=>r == t) hR fun r _=>free1_fn r t) (by simp) (by simp) (by simp[gkey]) (by simp[noImm_ints]) (RL.o (by simp;rfl) (RL.nil ⟨_,by simp;rfl,?_⟩))))
   have hgo:freeL l t=((letQ W1 (l.R.filter fun r=>!(r == t)) l.Q).1,(letQ W1 (l.R.filter fun r=>!(r == t)) l.Q).2,0):=by
    simp[freeL,hm,hh,hW]
   have hsr:(l.R.filter fun r=>!(r == t)).Pairwise (·≤·):=((may_sorted hm).imp fun h=>Int.le_of_lt h).filter _
   have hfl:(l.R.filter fun r=>!(r == t)).length≤l.R.length:=List.length_filter_le _ _
   generalize hrr:(l.R.filter fun r=>!(r == t))=R1 at hgo hsr hfl ⊢
   have hz1:=hz.r
   have hz2:=hz.q
   refine WL.sreg (by simp;rfl) (by simp;rfl) ?_
   refine WL.seq (WL.label ?_)
   simp only[Ex.thenL_nrm]
   refine WL.seq (WL.block (WL.loop (ι:={x:Lt × List Int // FreeI 2000 ((freeL l t).1,(freeL l t).2.1) x.1 x.2}) (fun x=>fr24 x.1.1 x.1.2) (fun x=>x.1.1.Q.length) ⟨(⟨W1,R1,l.Q⟩,[]),hsr,by show R1.length+l.Q.length≤2000;omega,by show 0+l.Q.length≤2000;omega,hz.n,by simp[hgo]⟩ (by simp[fr24]) fun ⟨⟨x,ls⟩,I⟩=>?_))
   simp only[fr24]
   have hret:∀ (y:Lt) (ls:List Int),(y,ls)=((freeL l t).1,(freeL l t).2.1)→WL Try.prog fi24.nt c24_15 (fr24 y ls) (fun e L=>(e=Ex.nrm∨e=Ex.ret)∧RetOk fi24.rs [] (AV.tuple [encL false (freeL l t).fst,sI true (freeL l t).snd.fst,i64 (freeL l t).snd.snd]) L):=by
    intro y ls he
    simp only[fr24]
    obtain⟨e1,e2⟩:=Prod.mk.inj he
    have e3:(freeL l t).2.2=0:=by rw[hgo]
    refine WL.sregC (RL.o (by simp;rfl) (RL.own 5 (by decide) (by simp;rfl) (RL.nil ⟨_,by simp;rfl,?_⟩)))
    refine WL.freeze 402 (WL.ret ⟨.inr rfl,?_⟩)
    simp[fi24,← e1,← e2,e3]
   obtain⟨W,R,Q⟩:=x
   have hI1:=I.len
   have hI2:=I.len2
   have hI3:=I.srt
   have hI4:=I.go
   have hI5:=I.n
   simp only at hI1 hI2 hI3 hI4 hI5
   cases Q with
   | nil =>
    refine WL.seq (WL.sreg (by simp;rfl) (by simp;rfl) (WL.cond (t:=false) (by simp) (by simp) fun _=>WL.exit ?_))
    simp only[Ex.thenL_nrm,Ex.thenL,Ex.blkL]
    have:=hret ⟨W,R,[]⟩ ls (by rw[← hI4.1,← hI4.2];simp[letQ])
    simp only[fr24] at this
    refine WL.fin [36] (by simp;rfl) ?_
    simpa using this
   | cons q qs =>
    have hq:=hI5 q (by simp)
    simp only[List.length_cons] at hI1 hI2
    have hpos:(0:Int) < ((qs.length+1:Nat):Int):=by omega
    refine WL.seq (WL.sreg (by simp[hpos];rfl) (by simp;rfl) (WL.cond (t:=true) (by simp) (fun _=>WL.skip ?_) (by simp)))
    simp only[Ex.thenL_nrm]
    refine WL.block ?_
    refine WL.sregC (RL.o (by simp;rfl) (RL.call0 false (who_fn q hq) (by simp) (by simp) (RL.o (by simp;rfl) (RL.nil ⟨_,by simp;rfl,?_⟩))))
    generalize hwq:whoT q=wq
    obtain⟨u,b⟩:=wq
    simp only
    refine WL.seq (WL.sregC (RL.o (by simp;rfl) (RL.call0 true (fits_fn ⟨W,R,q :: qs⟩ b) (by simp) (by simp) (RL.o (by simp;rfl) (RL.nil ⟨_,by simp;rfl,?_⟩)))))
    have hg:letQ W R (q :: qs)=if fitsL ⟨W,R,q :: qs⟩ b=true then ((letQ (inL ⟨W,R,qs⟩ u b).W (inL ⟨W,R,qs⟩ u b).R qs).1,u :: (letQ (inL ⟨W,R,qs⟩ u b).W (inL ⟨W,R,qs⟩ u b).R qs).2) else (⟨W,R,q :: qs⟩,[]):=by
     simp only[letQ,hwq]
    rw[hg] at hI4
    cases hf:fitsL ⟨W,R,q :: qs⟩ b with
    | false =>
     refine WL.cond (t:=true) (by simp[hf]) (fun _=>WL.exit ?_) (by simp)
     simp only[Ex.thenL_nrm,Ex.thenL,Ex.blkL]
     rw[if_neg (by simp[hf])] at hI4
     have:=hret ⟨W,R,q :: qs⟩ ls (by rw[← hI4.1,← hI4.2];simp)
     rw[if_neg (by decide),if_pos trivial]
     simp only[fr24] at this
     refine WL.fin [8,9,48] (by simp;rfl) ?_
     simpa using this
    | true =>
     rw[if_pos hf] at hI4
     refine WL.cond (t:=false) (by simp[hf]) (by simp) (fun _=>WL.skip ?_)
     simp only[Ex.thenL_nrm]
     refine WL.sreg (by simp;rfl) (by simp;rfl) ?_
     refine WL.sregC (RL.o (by simp;rfl) (RL.call false [(202,[])] (in_fn ⟨W,R,qs⟩ u b hI3 (by show R.length≤100000;omega)) (by simp) (by simp) (by simp[gkey]) (by simp) (RL.o (by simp;rfl) (RL.nil ⟨_,by simp;rfl,?_⟩))))
     have hm1:(ls.length+1) * 8≤140737488355328:=by omega
     have hm2:ls.length+1≤maxLen:=by unfold maxLen;omega
     refine WL.reg (RL.run (by simp[hm1,hm2];rfl) ⟨_,by simp;rfl,?_⟩)
     have hQi:(inL ⟨W,R,qs⟩ u b).Q=qs:=by simp only[inL];split<;>rfl
     have hRi:(inL ⟨W,R,qs⟩ u b).R.length≤R.length+1∧(inL ⟨W,R,qs⟩ u b).R.Pairwise (·≤·):=by
      cases b with
      | false=>exact ⟨Nat.le_succ _,hI3⟩
      | true=>exact ⟨Nat.le_of_eq (insAt_length R (rank R u) u (List.length_filter_le _ _)),insAt_sorted hI3⟩
     simp only[Ex.blkL,Ex.thenL]
     refine⟨⟨(inL ⟨W,R,qs⟩ u b,ls ++ [u]),hRi.2,?_,?_,?_,?_⟩,?_,?_⟩
     ·show (inL ⟨W,R,qs⟩ u b).R.length+(inL ⟨W,R,qs⟩ u b).Q.length≤2000
      rw[hQi];omega
     ·show (ls ++ [u]).length+(inL ⟨W,R,qs⟩ u b).Q.length≤2000
      rw[hQi,List.length_append];simp;omega
     ·show ∀ w ∈ (inL ⟨W,R,qs⟩ u b).Q,N64 w
      rw[hQi];exact fun w hw=>hI5 w (by simp[hw])
     ·show (letQ (inL ⟨W,R,qs⟩ u b).W (inL ⟨W,R,qs⟩ u b).R (inL ⟨W,R,qs⟩ u b).Q).1=_∧(ls ++ [u]) ++ (letQ (inL ⟨W,R,qs⟩ u b).W (inL ⟨W,R,qs⟩ u b).R (inL ⟨W,R,qs⟩ u b).Q).2=_
      rw[hQi]
      exact⟨hI4.1,by rw[← hI4.2];simp⟩
     ·rw[List.take_of_length_le (by simp)]
      simp
     ·show (inL ⟨W,R,qs⟩ u b).Q.length < (q :: qs).length
      rw[hQi];simp
  refine WL.seq (WL.sreg (by simp;rfl) (by simp;rfl) ?_)
  by_cases hwt:l.W=t
  ·have hW1:W1=-1:=by rw[← hW,if_pos hwt]
   subst hW1
   refine WL.cond (t:=true) (by simp[hwt]) (fun _=>?_) (by simp)
   refine WL.reg (RL.run (by simp;rfl) ⟨_,by simp;rfl,?_⟩)
   simpa using hrest
  ·have hW1:W1=l.W:=by rw[← hW,if_neg hwt]
   subst hW1
   refine WL.cond (t:=false) (by simp[hwt]) (by simp) (fun _=>WL.skip ?_)
   refine WL.fin [26] (by simp;rfl) ?_
   simpa using hrest
end Go.OT
namespace Go.OT
open Go.Proofs
def sameL (a b:Lt):Bool:=a.W == b.W && (a.R == b.R && a.Q == b.Q)
set_option maxHeartbeats 4000000 in
theorem lsame_fn (a b:Lt)(h1:Small a.R.length)(h2:Small a.Q.length):FnC Try.prog 87 [] [encL false a,encL false b] [] (bl (sameL a b)):=by
 refine FnC.go ok87 rfl ?_
 refine WL.sreg (by simp;rfl) (by simp;rfl) ?_
 cases hw:(a.W == b.W) with
 | false =>
  refine WL.sregC (RL.o (by simp[hw];rfl) (RL.g (by simp;rfl) (RL.callN (by simp) (RL.o (by simp;rfl) (RL.g (by simp;rfl) (RL.callN (by simp) (RL.o (by simp;rfl) (RL.nil ⟨_,by simp;rfl,WL.ret ⟨.inr rfl,?_⟩⟩))))))))
  simp[fi87,sameL,hw]
 | true =>
  cases hr:(a.R == b.R) with
  | false =>
   refine WL.sregC (RL.o (by simp[hw];rfl) (RL.g (by simp;rfl) (RL.callY0 false (by simp) (equal_int a.R b.R h1) (by simp) (by simp) (RL.o (by simp[hr];rfl) (RL.g (by simp;rfl) (RL.callN (by simp) (RL.o (by simp;rfl) (RL.nil ⟨_,by simp;rfl,WL.ret ⟨.inr rfl,?_⟩⟩))))))))
   simp[fi87,sameL,hw,hr]
  | true =>
   refine WL.sregC (RL.o (by simp[hw];rfl) (RL.g (by simp;rfl) (RL.callY0 false (by simp) (equal_int a.R b.R h1) (by simp) (by simp) (RL.o (by simp[hr];rfl) (RL.g (by simp;rfl) (RL.callY0 false (by simp) (equal_int a.Q b.Q h2) (by simp) (by simp) (RL.o (by simp;rfl) (RL.nil ⟨_,by simp;rfl,WL.ret ⟨.inr rfl,?_⟩⟩))))))))
   simp[fi87,sameL,hw,hr]
theorem sz_small {l:Lt}(h:l.R.length≤1000∧l.Q.length≤1000∧∀ w ∈ l.Q,N64 w):LSz l:=⟨h.1,h.2.1,h.2.2⟩
def ltA:Lt:=⟨1,[],[]⟩
def ltC:Lt:=⟨1,[],[-4]⟩
def ltE:Lt:=⟨1,[],[-4,-5]⟩
def ltZ:Lt:=⟨0,[],[]⟩
def ltY:Lt:=⟨-1,[],[3]⟩
def ltG:Lt:=⟨-1,[2,3],[]⟩
set_option maxRecDepth 100000 in
set_option maxHeartbeats 8000000 in
theorem ltold_fn:FnC Try.prog 26 [] [] [] (bl true):=by
 have zn:LSz newL:=sz_small ⟨by decide,by decide,by simp[newL]⟩
 have za:LSz ltA:=sz_small ⟨by decide,by decide,by simp[ltA]⟩
 have zc:LSz ltC:=sz_small ⟨by decide,by decide,by simp[ltC,N64]⟩
 have ze:LSz ltE:=sz_small ⟨by decide,by decide,by simp[ltE,N64]⟩
 have zg:LSz ltG:=sz_small ⟨by decide,by decide,by simp[ltG]⟩
 have ha:FnC Try.prog 22 [] [encL false newL,i64 1] [] (.tuple [encL false ltA,bl true]):=by
  have:=lock_fn newL zn 1
  rwa [show askL newL 1 false=(ltA,true) by decide] at this
 have hc:FnC Try.prog 23 [] [encL false ltA,i64 2] [] (.tuple [encL false ltC,bl false]):=by
  have:=share_fn ltA za 2
  rwa [show askL ltA 2 true=(ltC,false) by decide] at this
 have he:FnC Try.prog 23 [] [encL false ltC,i64 3] [] (.tuple [encL false ltE,bl false]):=by
  have:=share_fn ltC zc 3
  rwa [show askL ltC 3 true=(ltE,false) by decide] at this
 have hg:FnC Try.prog 24 [] [encL false ltE,i64 1] [] (.tuple [encL false ltG,sI true [2,3],i64 0]):=by
  have:=free_fn ltE ze 1
  rwa [show freeL ltE 1=(ltG,[2,3],0) by decide] at this
 have hi:FnC Try.prog 24 [] [encL false ltG,i64 1] [] (.tuple [encL false ltG,sI true [],i64 12]):=by
  have:=free_fn ltG zg 1
  rwa [show freeL ltG 1=(ltG,[],12) by decide] at this
 refine FnC.go ok26 rfl ?_
 refine WL.sreg (by simp;rfl) (by simp;rfl) ?_
 refine WL.sregC (RL.call0 false lnew_fn (by simp) (by simp) (RL.freeze 1400 (RL.call0 false ha (by simp[newL]) (by simp) (RL.o (by simp;rfl) (RL.nil ⟨_,by simp;rfl,?_⟩)))))
 refine WL.sregC (RL.o (by simp;rfl) (RL.call0 false hc (by simp[ltA]) (by simp) (RL.o (by simp;rfl) (RL.nil ⟨_,by simp;rfl,?_⟩))))
 refine WL.sregC (RL.o (by simp;rfl) (RL.call0 false he (by simp[ltC]) (by simp) (RL.o (by simp;rfl) (RL.nil ⟨_,by simp;rfl,?_⟩))))
 refine WL.sregC (RL.o (by simp;rfl) (RL.call0 false hg (by simp[ltE]) (by simp) (RL.freeze 3000 (RL.o (by simp;rfl) (RL.nil ⟨_,by simp;rfl,?_⟩)))))
 refine WL.sregC (RL.o (by simp;rfl) (RL.call0 false hi (by simp[ltG]) (by simp) (RL.freeze 3600 (RL.o (by simp;rfl) (RL.nil ⟨_,by simp;rfl,?_⟩)))))
 have zz:LSz ltZ:=sz_small ⟨by decide,by decide,by simp[ltZ]⟩
 have zy:LSz ltY:=sz_small ⟨by decide,by decide,by simp[ltY,N64]⟩
 have hmg:FnC Try.prog 79 [] [encL false ltG] [] (bl true):=by
  have:=may_fn ltG zg
  rwa [show mayL ltG=true by decide] at this
 have hmz:FnC Try.prog 79 [] [encL false ltZ] [] (bl true):=by
  have:=may_fn ltZ zz
  rwa [show mayL ltZ=true by decide] at this
 have hmy:FnC Try.prog 79 [] [encL false ltY] [] (bl false):=by
  have:=may_fn ltY zy
  rwa [show mayL ltY=false by decide] at this
 have hh3:FnC Try.prog 25 [] [encL false ltG,i64 3] [] (bl true):=by
  have:=has_fn ltG 3 (by unfold Small;decide)
  rwa [show hasL ltG 3=true by decide] at this
 have hh1:FnC Try.prog 25 [] [encL false ltG,i64 1] [] (bl false):=by
  have:=has_fn ltG 1 (by unfold Small;decide)
  rwa [show hasL ltG 1=false by decide] at this
 have hz0:FnC Try.prog 25 [] [encL false ltZ,i64 0] [] (bl true):=by
  have:=has_fn ltZ 0 (by unfold Small;decide)
  rwa [show hasL ltZ 0=true by decide] at this
 have hsg:FnC Try.prog 87 [] [encL false ltG,encL false ltG] [] (bl true):=by
  have:=lsame_fn ltG ltG (by unfold Small;decide) (by unfold Small;decide)
  rwa [show sameL ltG ltG=true by decide] at this
 refine WL.sregC (RL.o (by simp[ltA,ltC,ltG];rfl) (RL.g (by simp[ltA,ltC,ltG];rfl) (RL.o (by simp[ltA,ltC,ltG];rfl) (RL.g (by simp[ltA,ltC,ltG];rfl) (RL.o (by simp[ltA,ltC,ltG];rfl) (RL.g (by simp[ltA,ltC,ltG];rfl) (RL.o (by simp[ltA,ltC,ltG];rfl) (RL.g (by simp[ltA,ltC,ltG];rfl) (RL.o (by simp[ltA,ltC,ltG];rfl) (RL.g (by simp[ltA,ltC,ltG];rfl) (RL.o (by simp[ltA,ltC,ltG];rfl) (RL.g (by simp[ltA,ltC,ltG];rfl) (RL.o (by simp[ltA,ltC,ltG];rfl) (RL.g (by simp[ltA,ltC,ltG];rfl) (RL.o (by simp[ltA,ltC,ltG];rfl) (RL.g (by simp[ltA,ltC,ltG];rfl) (RL.o (by simp[ltA,ltC,ltG];rfl) (RL.g (by simp[ltA,ltC,ltG];rfl) (RL.o (by simp[ltA,ltC,ltG];rfl) (RL.g (by simp[ltA,ltC,ltG];rfl) (RL.o (by simp[ltA,ltC,ltG];rfl) (RL.g (by simp[ltA,ltC,ltG];rfl) (RL.o (by simp[ltA,ltC,ltG];rfl) (RL.g (by simp[ltA,ltC,ltG];rfl) (RL.callY0 false (by simp) hmg (by simp[ltA,ltC,ltG]) (by simp) (RL.o (by simp[ltA,ltC,ltG];rfl) (RL.g (by simp[ltA,ltC,ltG];rfl) (RL.callY0 false (by simp) hh3 (by simp[ltA,ltC,ltG]) (by simp) (RL.o (by simp[ltA,ltC,ltG];rfl) (RL.g (by simp[ltA,ltC,ltG];rfl) (RL.callY0 false (by simp) hh1 (by simp[ltA,ltC,ltG]) (by simp) (RL.g (by simp[ltA,ltC,ltG];rfl) (RL.o (by simp[ltA,ltC,ltG];rfl) (RL.g (by simp[ltA,ltC,ltG];rfl) (RL.nilA 112 1 1 (by simp;rfl) (by simp) (by simp) (RL.nilA 112 2 1 (by simp;rfl) (by simp) (by simp) (RL.callY0 false (by simp) hz0 (by simp[ltZ]) (by simp) (RL.o (by simp[ltA,ltC,ltG];rfl) (RL.g (by simp[ltA,ltC,ltG];rfl) (RL.nilA 116 1 1 (by simp;rfl) (by simp) (by simp) (RL.nilA 116 2 1 (by simp;rfl) (by simp) (by simp) (RL.callY0 false (by simp) hmz (by simp[ltZ]) (by simp) (RL.o (by simp[ltA,ltC,ltG];rfl) (RL.g (by simp[ltA,ltC,ltG];rfl) (RL.nilA 121 1 1 (by simp;rfl) (by simp) (by simp) (RL.callY0 true (by simp) hmy (by simp[ltY]) (by simp) (RL.g (by simp[ltA,ltC,ltG];rfl) (RL.o (by simp[ltA,ltC,ltG];rfl) (RL.g (by simp[ltA,ltC,ltG];rfl) (RL.callY0 false (by simp) hsg (by simp[ltA,ltC,ltG]) (by simp) (RL.o (by simp[ltA,ltC,ltG];rfl) (RL.nil ⟨_,by simp;rfl,WL.ret ⟨.inr rfl,?_⟩⟩))))))))))))))))))))))))))))))))))))))))))))))))))))
 simp[fi26]
end Go.OT
namespace Go.OT
open Go.Proofs
def qT (x:Lt):List Int:=x.Q.map fun w=>(whoT w).1
structure Vl (x:Lt):Prop where
 w:x.W=-1∨(0≤x.W∧x.W < 64∧x.R=[])
 rs:x.R.Pairwise (· < ·)
 rr:∀ r ∈ x.R,0≤r∧r < 64
 qd:(qT x).Nodup
 qr:∀ w ∈ x.Q,0≤(whoT w).1∧(whoT w).1 < 64
 qh:∀ w ∈ x.Q,(whoT w).1 ≠ x.W∧(whoT w).1 ∉ x.R
 q0:∀ w q,x.Q=w :: q→fitsL x (whoT w).2=false
theorem isT_of {t:Int}(h:0≤t∧t < 64):isT t=true:=by simp[isT,h.1,h.2]
theorem hasL_of {x:Lt}{t:Int}(h1:t ≠ x.W)(h2:t ∉ x.R):hasL x t=false:=by
 have e1:(x.W == t)=false:=by simp;exact fun e=>h1 e.symm
 have e2:x.R.any (· == t)=false:=by
  rw[List.any_eq_false]
  intro a ha
  simp
  exact fun e=>h2 (e ▸ ha)
 simp only[hasL,e1,e2,Bool.and_false,Bool.or_false]
theorem waitsL_of {q:List Int}{t:Int}(h:t ∉ q.map fun w=>(whoT w).1):waitsL q t=false:=by
 unfold waitsL
 rw[List.any_eq_false]
 intro a ha
 simp
 exact fun e=>h (e ▸ List.mem_map_of_mem ha)
theorem Vl.may {x:Lt}(V:Vl x):mayL x=true:=by
 have h1:mayW x=true:=by
  rcases V.w with h | ⟨h1,h2,h3⟩
  ·simp[mayW,h]
  ·simp[mayW,h3,isT_of ⟨h1,h2⟩]
 have h2:(List.range x.R.length).all (okRd x.R)=true:=by
  rw[List.all_eq_true]
  intro i hi
  have hi:i < x.R.length:=by simpa using hi
  have g1:x.R.getD i 0=x.R[i]:=by simp[List.getD_eq_getElem?_getD,hi]
  simp only[okRd,g1,isT_of (V.rr _ (List.getElem_mem hi)),Bool.true_and]
  cases i with
  | zero=>simp
  | succ k =>
   have hk:k < x.R.length:=by omega
   have g2:x.R.getD k 0=x.R[k]:=by simp[List.getD_eq_getElem?_getD,hk]
   have:=List.pairwise_iff_getElem.1 V.rs k (k+1) hk hi (by omega)
   simp only[Nat.add_sub_cancel,g2]
   simp
   omega
 have h3:(List.range x.Q.length).all (okWt x)=true:=by
  rw[List.all_eq_true]
  intro i hi
  have hi:i < x.Q.length:=by simpa using hi
  have g1:x.Q.getD i 0=x.Q[i]:=by simp[List.getD_eq_getElem?_getD,hi]
  have hm:=List.getElem_mem hi
  have e1:=isT_of (V.qr _ hm)
  have e2:=hasL_of (V.qh _ hm).1 (V.qh _ hm).2
  have e3:waitsL (x.Q.take i) (whoT x.Q[i]).1=false:=by
   refine waitsL_of fun hmem=>?_
   rw[List.map_take] at hmem
   obtain⟨k,hk,he⟩:=List.getElem_of_mem hmem
   simp at hk
   rw[List.getElem_take] at he
   have h9:=List.pairwise_iff_getElem.1 V.qd k i (by simp[qT];omega) (by simpa [qT] using hi) (by omega)
   apply h9
   simpa [qT] using he
  have e4:(decide (i=0) && fitsL x (whoT x.Q[i]).2)=false:=by
   by_cases h0:i=0
   ·subst h0
    obtain⟨a,l,hq⟩:=List.exists_cons_of_length_pos hi
    have e5:x.Q[0]=a:=by simp[hq]
    simp[e5,V.q0 a l hq]
   ·simp[h0]
  simp only[okWt,g1,e1,e2,e3,e4]
  rfl
 simp[mayL,h1,h2,h3]
theorem Vl.n64 {x:Lt}(V:Vl x):∀ w ∈ x.Q,N64 w:=by
 intro w hw
 have:=V.qr w hw
 unfold whoT at this
 unfold N64
 split at this<;>simp at this<;>omega
theorem whoT_code {t:Int}(h:0≤t)(b:Bool):whoT (if b=true then -2 - t else t)=(t,b):=by
 cases b with
 | true=>simp [whoT,show -2 - t < 0 by omega];omega
 | false=>simp [whoT,show ¬ t < 0 by omega]
theorem Vl.askBad {x:Lt}(V:Vl x){t:Int}(ht:0≤t∧t < 64)(h1:t ≠ x.W)(h2:t ∉ x.R)(h3:t ∉ qT x):askBad x t=false:=by
 simp[OT.askBad,V.may,isT_of ht,hasL_of h1 h2,waitsL_of h3]
theorem insAt_strict {t:Int}{l:List Int}(h:l.Pairwise (· < ·))(hn:t ∉ l):(insAt l (rank l t) t).Pairwise (· < ·):=by
 have h1:=insAt_sorted (t:=t) (h.imp fun h=>Int.le_of_lt h)
 have hnd:(insAt l (rank l t) t).Nodup:=by
  have hl:l.Nodup:=h.imp fun h=>Int.ne_of_lt h
  have e:l=l.take (rank l t) ++ l.drop (rank l t):=(List.take_append_drop _ l).symm
  unfold insAt
  rw[e] at hl hn
  rw[List.nodup_append] at hl ⊢
  simp only[List.mem_append,not_or] at hn
  refine⟨hl.1,List.nodup_cons.2 ⟨hn.2,hl.2.1⟩,fun a ha b hb=>?_⟩
  rcases List.mem_cons.1 hb with rfl | hb
  ·exact fun e=>hn.1 (e ▸ ha)
  ·exact hl.2.2 a ha b hb
 have:=List.Pairwise.and h1 hnd
 exact this.imp fun h=>by have:=h.1;have:=h.2;omega
theorem mem_insAt {t a:Int}{l:List Int}{k:Nat}:a ∈ insAt l k t ↔ a=t∨a ∈ l:=by
 unfold insAt
 have e:a ∈ l ↔ a ∈ l.take k∨a ∈ l.drop k:=by rw[← List.mem_append,List.take_append_drop]
 simp only[List.mem_append,List.mem_cons,e]
 exact or_left_comm
theorem Vl.ask {x:Lt}(V:Vl x){t:Int}(ht:0≤t∧t < 64)(h1:t ≠ x.W)(h2:t ∉ x.R)(h3:t ∉ qT x)(b:Bool):Vl (askL x t b).1:=by
 have hb:=V.askBad ht h1 h2 h3
 unfold askL
 rw[if_neg (by simp[hb])]
 split
 ·rename_i hi
  simp only[askIn,Bool.and_eq_true,decide_eq_true_eq,fitsL,beq_iff_eq,Bool.or_eq_true,List.length_eq_zero_iff] at hi
  obtain⟨hq,hw,hr⟩:=hi
  cases b with
  | true =>
   simp only[inL,if_true]
   exact⟨.inl hw,insAt_strict V.rs h2,fun r hr=>by rcases mem_insAt.1 hr with rfl | hr;exact ht;exact V.rr r hr,by simp[qT,hq],by simp[hq],by simp[hq],by simp[hq]⟩
  | false =>
   have hr:x.R=[]:=by simpa using hr
   simp only[inL]
   exact⟨.inr ⟨ht.1,ht.2,hr⟩,V.rs,V.rr,by simp[qT,hq],by simp[hq],by simp[hq],by simp[hq]⟩
 ·rename_i hi
  have hc:=whoT_code ht.1 b
  generalize (if b=true then -2 - t else t)=c at hc
  refine⟨V.w,V.rs,V.rr,?_,fun w hw=>?_,fun w hw=>?_,fun w q hq=>?_⟩
  ·have e:qT { x with Q:=x.Q ++ [c] }=qT x ++ [t]:=by simp[qT,hc]
   rw[e,List.nodup_append]
   exact⟨V.qd,by simp,fun a ha b hb=>by simp at hb;subst hb;exact fun e=>h3 (e ▸ ha)⟩
  ·rcases List.mem_append.1 hw with hw | hw
   ·exact V.qr w hw
   ·simp at hw;subst hw;rw[hc];exact ht
  ·rcases List.mem_append.1 hw with hw | hw
   ·exact V.qh w hw
   ·simp at hw;subst hw;rw[hc];exact⟨h1,h2⟩
  ·have hfe:∀ b',fitsL { x with Q:=x.Q ++ [c] } b'=fitsL x b':=fun _=>rfl
   rw[hfe]
   cases hxq:x.Q with
   | nil =>
    simp only[hxq,List.nil_append,List.cons.injEq] at hq
    obtain⟨rfl,_⟩:=hq
    rw[hc]
    simpa [askIn,hxq] using hi
   | cons a l =>
    simp only[hxq,List.cons_append,List.cons.injEq] at hq
    obtain⟨rfl,_⟩:=hq
    exact V.q0 _ _ hxq
end Go.OT
namespace Go.OT
open Go.Proofs
structure Vp (x:Lt):Prop where
 w:x.W=-1∨(0≤x.W∧x.W < 64∧x.R=[])
 rs:x.R.Pairwise (· < ·)
 rr:∀ r ∈ x.R,0≤r∧r < 64
 qd:(qT x).Nodup
 qr:∀ w ∈ x.Q,0≤(whoT w).1∧(whoT w).1 < 64
 qh:∀ w ∈ x.Q,(whoT w).1 ≠ x.W∧(whoT w).1 ∉ x.R
theorem letQ_spec:∀ (Q:List Int) (W:Int) (R:List Int),Vp ⟨W,R,Q⟩ →
  Vl (letQ W R Q).1∧qT ⟨W,R,Q⟩=(letQ W R Q).2 ++ qT (letQ W R Q).1∧(letQ W R Q).1.R.length+(letQ W R Q).1.Q.length≤R.length+Q.length ∧
  ∀ k:Int,0≤k→(k ∈ (letQ W R Q).2→((letQ W R Q).1.W=k∨k ∈ (letQ W R Q).1.R))∧(k ∉ (letQ W R Q).2→((letQ W R Q).1.W=k ↔ W=k)∧(k ∈ (letQ W R Q).1.R ↔ k ∈ R))
 | [],W,R,V=>by
  simp only[letQ]
  exact⟨⟨V.w,V.rs,V.rr,V.qd,V.qr,V.qh,fun w q h=>by simp at h⟩,by simp[qT],Nat.le_refl _,fun k hk=>by simp⟩
 | q :: qs,W,R,V=>by
  have hq:=V.qr q (by simp)
  have hqh:=V.qh q (by simp)
  simp only at hqh
  have hnd:=V.qd
  simp only[qT,List.map_cons,List.nodup_cons] at hnd
  simp only[letQ]
  by_cases hf:fitsL ⟨W,R,q :: qs⟩ (whoT q).2=true
  ·simp only[if_pos hf]
   have hqT:qT ⟨W,R,q :: qs⟩=(whoT q).1 :: qs.map fun w=>(whoT w).1:=rfl
   generalize hwq:whoT q=wq at *
   obtain⟨u,b⟩:=wq
   simp only at hq hqh hnd hf hqT ⊢
   simp only[fitsL,Bool.and_eq_true,beq_iff_eq,Bool.or_eq_true,List.length_eq_zero_iff] at hf
   obtain⟨hW,hR⟩:=hf
   have hQi:(inL ⟨W,R,qs⟩ u b).Q=qs:=by simp only[inL];split<;>rfl
   have hne:∀ w ∈ qs,(whoT w).1 ≠ u:=fun w hw e=>hnd.1 (e ▸ List.mem_map_of_mem hw)
   have V':Vp (inL ⟨W,R,qs⟩ u b):=by
    cases b with
    | true =>
     exact⟨.inl hW,insAt_strict V.rs hqh.2,fun r hr=>by
      rcases mem_insAt.1 hr with rfl | hr
      ·exact hq
      ·exact V.rr r hr,hnd.2,fun w hw=>V.qr w (by simp at hw ⊢;exact .inr hw),fun w hw=>by
      have hw:w ∈ qs:=hw
      have h1:=V.qh w (by simp[hw])
      exact⟨h1.1,fun hm=>by
       rcases mem_insAt.1 hm with e | hm
       ·exact hne w hw e
       ·exact h1.2 hm⟩⟩
    | false =>
     have hR:R=[]:=by simpa using hR
     exact⟨.inr ⟨hq.1,hq.2,hR⟩,V.rs,V.rr,hnd.2,fun w hw=>V.qr w (by simp at hw ⊢;exact .inr hw),fun w hw=>⟨hne w hw,(V.qh w (by have hw:w ∈ qs:=hw;simp[hw])).2⟩⟩
   have e3:inL ⟨W,R,qs⟩ u b=⟨(inL ⟨W,R,qs⟩ u b).W,(inL ⟨W,R,qs⟩ u b).R,qs⟩:=by cases b<;>rfl
   have ih:=letQ_spec qs (inL ⟨W,R,qs⟩ u b).W (inL ⟨W,R,qs⟩ u b).R (by rw[← e3];exact V')
   have hlen:(inL ⟨W,R,qs⟩ u b).R.length≤R.length+1:=by
    cases b with
    | true=>exact Nat.le_of_eq (insAt_length R (rank R u) u (List.length_filter_le _ _))
    | false=>exact Nat.le_succ _
   generalize hy:letQ (inL ⟨W,R,qs⟩ u b).W (inL ⟨W,R,qs⟩ u b).R qs=yy at ih
   obtain⟨y,ls⟩:=yy
   obtain⟨i1,i2,i3,i4⟩:=ih
   simp only at i1 i2 i3 i4 ⊢
   have i2':(qs.map fun w=>(whoT w).1)=ls ++ qT y:=i2
   refine⟨i1,by rw[hqT,i2'];rfl,by simp only[List.length_cons];omega,fun k hk=>⟨fun hm=>?_,fun hm=>?_⟩⟩
   ·rcases List.mem_cons.1 hm with rfl | hm
    ·have hul:k ∉ ls:=fun h=>hnd.1 (by rw[i2'];simp[h])
     have h5:=(i4 k hk).2 hul
     cases b with
     | true=>exact .inr (h5.2.2 (mem_insAt.2 (.inl rfl)))
     | false=>exact .inl (h5.1.2 rfl)
    ·exact (i4 k hk).1 hm
   ·simp only[List.mem_cons,not_or] at hm
    have h5:=(i4 k hk).2 hm.2
    cases b with
    | true=>exact ⟨h5.1,h5.2.trans (mem_insAt.trans ⟨fun h=>h.resolve_left hm.1,.inr⟩)⟩
    | false=>exact ⟨h5.1.trans ⟨fun h=>absurd h.symm hm.1,fun h=>by rw[hW] at h;omega⟩,h5.2⟩
  ·simp only[if_neg hf]
   refine⟨⟨V.w,V.rs,V.rr,V.qd,V.qr,V.qh,fun w q' h=>?_⟩,by simp,Nat.le_refl _,fun k hk=>by simp⟩
   simp only[List.cons.injEq] at h
   obtain⟨rfl,_⟩:=h
   simpa using hf
def stat (x:Lt)(k:Int):Int:=if x.W=k then 1 else if k ∈ x.R then 2 else 0
theorem Vl.hasL {x:Lt}{k:Int}(hk:0≤k):hasL x k=decide (0 < stat x k):=by
 unfold OT.hasL stat
 by_cases h1:x.W=k
 ·simp[h1,hk]
 ·have e1:(x.W == k)=false:=by simpa using h1
  have e2:x.R.any (· == k)=decide (k ∈ x.R):=by
   rw[Bool.eq_iff_iff];simp
  rw[if_neg h1,e1,e2,Bool.and_false,Bool.false_or]
  by_cases h2:k ∈ x.R<;>simp [h2]
theorem Vl.free {x:Lt}(V:Vl x){t:Int}(ht:0≤t)(hs:stat x t ≠ 0) :
  ∃ y ls,freeL x t=(y,ls,0)∧Vl y∧qT x=ls ++ qT y∧y.R.length+y.Q.length≤x.R.length+x.Q.length∧∀ k:Int,0≤k→(k ∈ ls→stat y k=if y.W=k then 1 else 2)∧(k ∉ ls→stat y k=if k=t then 0 else stat x k):=by
 have hpos:(0:Int) < stat x t:=by
  unfold stat at hs ⊢
  split
  ·decide
  ·split
   ·decide
   ·rename_i h1 h2;simp[h1,h2] at hs
 have hh:OT.hasL x t=true:=by rw[Vl.hasL ht];simpa using hpos
 have hV:Vp ⟨if x.W=t then -1 else x.W,x.R.filter fun r=>!(r == t),x.Q⟩:=by
  refine⟨?_,V.rs.filter _,fun r hr=>V.rr r ((List.mem_filter.1 hr).1),V.qd,V.qr,fun w hw=>⟨?_,fun hm=>(V.qh w hw).2 ((List.mem_filter.1 hm).1)⟩⟩
  ·show (if x.W=t then -1 else x.W)=-1∨_
   split
   ·exact .inl rfl
   ·rcases V.w with h | ⟨h1,h2,h3⟩
    ·exact .inl h
    ·exact .inr ⟨h1,h2,by rw[h3];rfl⟩
  ·show (whoT w).1 ≠ if x.W=t then -1 else x.W
   split
   ·have:=(V.qr w hw).1;omega
   ·exact (V.qh w hw).1
 obtain⟨l1,l2,l3,l4⟩:=letQ_spec _ _ _ hV
 have hw1:∀ k:Int,0≤k→((if x.W=t then -1 else x.W)=k ↔ x.W=k∧k ≠ t):=by
  intro k hk
  by_cases h:x.W=t
  ·rw[if_pos h]
   exact⟨fun h'=>by omega,fun h'=>absurd (h'.1.symm.trans h) h'.2⟩
  ·rw[if_neg h]
   exact⟨fun h'=>⟨h',fun e=>h (h'.trans e)⟩,fun h'=>h'.1⟩
 have hfr:freeL x t=((letQ (if x.W=t then -1 else x.W) (x.R.filter fun r=>!(r == t)) x.Q).1,(letQ (if x.W=t then -1 else x.W) (x.R.filter fun r=>!(r == t)) x.Q).2,0):=by
  simp only[freeL,V.may,hh]
  rfl
 have hle:=List.length_filter_le (fun r=>!(r == t)) x.R
 have hmf:∀ k,k ∈ (x.R.filter fun r=>!(r == t)) ↔ k ∈ x.R∧k ≠ t:=fun k=>by rw[List.mem_filter];simp
 generalize (if x.W=t then -1 else x.W)=W1 at *
 generalize (x.R.filter fun r=>!(r == t))=R1 at *
 have l2':qT x=(letQ W1 R1 x.Q).2 ++ qT (letQ W1 R1 x.Q).1:=l2
 refine⟨_,_,hfr,l1,l2',by omega,fun k hk=>⟨fun hm=>?_,fun hm=>?_⟩⟩
 ·have:=(l4 k hk).1 hm
  unfold stat
  by_cases h1:(letQ W1 R1 x.Q).1.W=k
  ·rw[if_pos h1,if_pos h1]
  ·rw[if_neg h1,if_neg h1,if_pos (this.resolve_left h1)]
 ·obtain⟨h1,h2⟩:=(l4 k hk).2 hm
  have e1:=h1.trans (hw1 k hk)
  have e2:=h2.trans (hmf k)
  unfold stat
  by_cases hkt:k=t
  ·rw[if_neg (fun h=>(e1.1 h).2 hkt),if_neg (fun h=>(e2.1 h).2 hkt),if_pos hkt]
  ·rw[if_neg hkt]
   simp only[e1,e2]
   simp[hkt]
end Go.OT
