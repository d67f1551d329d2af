/- Part 11 of the proof: see its last file. -/
import Derived.Orders
import Derived.Below
import Derived.Laws.Entries
import Derived.Laws.Cells
import Derived.Laws.IdiomCopy
import Derived.Scope
import Derived.Calls
import Derived.Laws.Tables
import Derived.Laws.MakeOwn
import Derived.Laws.BytesString
import Derived.ArgAppend
import Derived.WalkSpells
import Derived.Lib.SlBytesConst
import Derived.Lib.ConvBytes
import Derived.WalkKit
import Derived.ProofKit
import Derived.OpenShut
import Derived.ShutString
import Derived.ChangeOld
import Derived.Lib.SmallJoins
import Derived.Test.YtlcemfnjhdcmoaaProg
import Derived.KernelRfl
import Derived.IntWalk
import Derived.Lib.Strings
import Derived.Test.YtlcemfnjhdcmoaaHd10
set_option linter.unusedSimpArgs false
set_option linter.unusedVariables false
namespace Go.OT
open Go.Proofs
theorem snoc_get {l:List Ev}{e x:Ev}{i:Nat}(hx:(l ++ [e])[i]?=some x):(i=l.length∧x=e)∨(i < l.length∧l[i]?=some x):=by
 rcases Nat.lt_or_ge i l.length with hi | hi
 ·rw[List.getElem?_append_left hi] at hx;exact .inr ⟨hi,hx⟩
 ·rw[List.getElem?_append_right hi] at hx
  have hz:=get_lt hx
  simp at hz
  have e:i=l.length:=by omega
  subst e
  simp at hx
  exact .inl ⟨rfl,hx.symm⟩
theorem Tm.snoc {l:List Ev}{now now':Int}(h:Tm l now){e:Ev}(hc:0≤e.Client∧e.Client < 3)(hb:now < e.Begin)(hb1:1≤e.Begin)(hs:e.Begin < e.Stamp)(he:e.Stamp < e.End)(hn:e.End≤now')(ho:∀ f ∈ l,f.Client=e.Client→f.End ≠ 0):Tm (l ++ [e]) now':=by
 refine⟨fun i x hx=>?_,fun i x hx=>?_,fun i x hx=>?_,fun i x hx=>?_,fun i j x y hx hy hij=>?_,fun i j x y hx hy hij hcl=>?_⟩
 ·rcases snoc_get hx with ⟨rfl,rfl⟩ | ⟨_,hx1⟩
  ·exact hc
  ·exact h.c i x hx1
 ·rcases snoc_get hx with ⟨rfl,rfl⟩ | ⟨_,hx1⟩
  ·omega
  ·have:=h.b i x hx1;omega
 ·rcases snoc_get hx with ⟨rfl,rfl⟩ | ⟨_,hx1⟩
  ·omega
  ·have:=h.s i x hx1;omega
 ·rcases snoc_get hx with ⟨rfl,rfl⟩ | ⟨_,hx1⟩
  ·omega
  ·have:=h.e i x hx1;omega
 ·rcases snoc_get hx with ⟨rfl,rfl⟩ | ⟨hi,hx1⟩
  ·rcases snoc_get hy with ⟨rfl,rfl⟩ | ⟨_,hy1⟩<;>omega
  ·rcases snoc_get hy with ⟨rfl,rfl⟩ | ⟨_,hy1⟩
   ·have:=h.b i x hx1;omega
   ·exact h.inc i j x y hx1 hy1 hij
 ·rcases snoc_get hx with ⟨rfl,rfl⟩ | ⟨hi,hx1⟩
  ·rcases snoc_get hy with ⟨rfl,rfl⟩ | ⟨_,hy1⟩<;>omega
  ·rcases snoc_get hy with ⟨rfl,rfl⟩ | ⟨_,hy1⟩
   ·have h1:=ho x (List.mem_of_getElem? hx1) hcl
    have h2:=h.e i x hx1
    have h3:=h.b i x hx1
    omega
   ·exact h.al i j x y hx1 hy1 hij hcl
theorem posN_append (l m:List Ev):∀ n,n≤l.length→posN (l ++ m) n=posN l n
 | 0,_=>rfl
 | n+1,hn=>by
  have e:((l ++ m).map (·.Stamp)).getD n 0=(l.map (·.Stamp)).getD n 0:=by
   simp only[List.getD_eq_getElem?_getD,List.map_append]
   rw[List.getElem?_append_left (by simp;omega)]
  rw[posN_succ,posN_succ,posN_append l m n (by omega),e]
theorem ordF_snoc {l:List Ev}{e:Ev}(hs:∀ f ∈ l,f.Stamp < e.Stamp)(h0:0 < e.Stamp):ordF (l ++ [e])=ordF l ++ [(l.length:Int)]:=by
 have eP:posL (l ++ [e])=posL l ++ [(l.length:Int)]:=by
  unfold posL
  rw[show (l ++ [e]).length=l.length+1 by simp,posN_succ,posN_append l [e] l.length (Nat.le_refl _)]
  have:((l ++ [e]).map (·.Stamp)).getD l.length 0=e.Stamp:=by simp[List.getD_eq_getElem?_getD]
  rw[this,if_pos h0]
 have hk:∀ {i:Nat},i < l.length→keyE (l ++ [e]) (i:Int)=keyE l (i:Int):=fun {i} hi=>by
  rw[keyE_at hi,keyE_at (l:=l ++ [e]) (by simp;omega),List.getElem_append_left hi]
 have hkl:keyE (l ++ [e]) (l.length:Int)=e.Stamp:=by rw[keyE_at (l:=l ++ [e]) (by simp)];simp
 have sp:=ordL_spec (keyE l) (posN_asc l l.length)
 have hm:∀ x ∈ ordF l,∃ i:Nat,i < l.length∧x=i:=fun x hx=>by
  obtain⟨i,h1,h2,_⟩:=ordF_mem hx
  exact⟨i,h1,h2⟩
 symm
 show _=ordL (keyE (l ++ [e])) (posL (l ++ [e]))
 refine ordL_unique (keyE (l ++ [e])) (posN_asc _ _) ?_ ?_
 ·rw[eP]
  exact sp.1.append_right _
 ·rw[List.pairwise_append]
  refine⟨?_,List.pairwise_singleton _ _,fun x hx y hy=>?_⟩
  ·refine List.Pairwise.imp_of_mem ?_ sp.2
   intro a b ha hb hab
   obtain⟨i,hi,rfl⟩:=hm a ha
   obtain⟨j,hj,rfl⟩:=hm b hb
   unfold lexLt at hab ⊢
   rw[hk hi,hk hj];exact hab
  ·obtain⟨i,hi,rfl⟩:=hm x hx
   rw[List.mem_singleton.1 hy]
   left
   rw[hk hi,hkl,keyE_at hi]
   exact hs _ (List.getElem_mem hi)
theorem goW_snoc {l m:List Ev}{s':St}:∀ (o r:List Int) (s:St),(∀ x ∈ o,∃ i:Nat,i < l.length∧x=i)→goW l noSee s () o=(0,s',())→goW (l ++ m) noSee s () (o ++ r)=goW (l ++ m) noSee s' () r
 | [],r,s,_,h=>by
  simp only[goW] at h
  have:s=s':=by injection h with _ h;injection h
  subst this;rfl
 | x :: o,r,s,hx,h=>by
  obtain⟨i,hi,rfl⟩:=hx x (List.mem_cons_self ..)
  have e:atE (l ++ m) (i:Int)=atE l (i:Int):=by
   simp only[atE,Int.toNat_natCast]
   rw[List.getElem?_append_left hi]
  simp only[goW,List.cons_append,e] at h ⊢
  split
  ·rename_i hq
   rw[if_pos hq] at h
   exact goW_snoc o r _ (fun y hy=>hx y (List.mem_cons_of_mem _ hy)) h
  ·rename_i hq
   rw[if_neg hq] at h
   simp only[Prod.mk.injEq] at h
   omega
abbrev failE (c k:Int):Ev:=⟨c,⟨k,0,0,0,0,[]⟩,⟨9,0,0,[]⟩,10000,10001,10002⟩
theorem fails_walk {h:List Ev}{now:Int}{s:St}(ht:Tm h now)(hn:now < 10000)(hw:walkF noSee () h 5 3=(0,s,())){c:Int}(hc:0≤c∧c < 3)(ho:∀ f ∈ h,f.Client=c→f.End ≠ 0)(k:Int) :
  walkF noSee () (h ++ [failE c k]) 5 3=if badF k 9=true then (0,s,()) else ((h.length:Int)+1,s,()):=by
 have hb:newBad 5 3=false:=by kernel_rfl
 have ht':Tm (h ++ [failE c k]) 10002:=ht.snoc hc (by show now < 10000;omega) (by show (1:Int)≤10000;decide) (by show (10000:Int) < 10001;decide) (by show (10001:Int) < 10002;decide) (by show (10002:Int)≤10002;decide) ho
 have hst:∀ f ∈ h,f.Stamp < (failE c k).Stamp:=fun f hf=>by
  obtain⟨i,hi⟩:=List.getElem?_of_mem hf
  have h1:=ht.s i f hi
  have h2:=ht.b i f hi
  show f.Stamp < 10001
  omega
 have hgo:goW h noSee (newSt 5 3) () (ordF h)=(0,s,()):=by
  have:=hw
  unfold walkF at this
  rw[hb,firstBad_none (fun j hj=>ht.times j hj)] at this
  simpa only [Bool.false_eq_true,if_false] using this
 unfold walkF
 rw[hb,firstBad_none (fun j hj=>ht'.times j hj),ordF_snoc hst (by show (0:Int) < 10001;decide)]
 simp only[Bool.false_eq_true,if_false]
 rw[goW_snoc (ordF h) _ _ (fun x hx=>by obtain ⟨i,h1,h2,_⟩:=ordF_mem hx;exact⟨i,h1,h2⟩) hgo]
 have hat:atE (h ++ [failE c k]) (h.length:Int)=failE c k:=by simp[atE]
 simp only[goW,hat]
 cases hq:badF k 9 with
 | true =>
  have e:stepR s (failE c k)=(true,s):=by
   simp only[stepR,hq]
   simp[plainRes]
  rw[e]
 | false =>
  have e:(stepR s (failE c k)).1=false:=by
   have hcode:=(DoB_code s c ⟨k,0,0,0,0,[]⟩).2
   have hne:((DoB s c ⟨k,0,0,0,0,[]⟩).2.2.Code == 9)=false:=beq_false_of_ne (by omega)
   simp only[stepR,hq,Bool.and_false,Bool.false_eq_true,if_false]
   simp[SameRes,hne]
  rw[e];simp
end Go.OT
namespace Go.OT
open Go.Proofs
abbrev hfQ:Ex→SL→Prop:=fun e L=>e=Ex.ret∧RetOk fi9.rs [] (bl true) L
abbrev hfS (l:List Cl)(wt:List Int)(kd cl:Int)(i:Nat):SL:=[(0,0,sCl l),(100,0,sI false wt),(200,0,i64 kd),(300,0,i64 cl),(900,0,i64 i)]
abbrev hfT (kd:Int)(h:List Ev)(c:Nat)(i:Nat):SL:=[(200,0,i64 kd),(1000,0,sEv h),(1100,0,i64 c),(1200,0,i64 i)]
abbrev fo15 (k:Int):SL:=[(1500,0,.bptr 15 1 0),(1501,0,i64 k),(1502,0,i64 0),(1503,0,i64 0),(1504,0,i64 0),(1505,0,i64 0),(1506,0,sU false []),(1599,1,.non)]
set_option maxHeartbeats 32000000 in
theorem fails_end (kd:Int)(h:List Ev)(hE:EvOk h)(s:St)(hok:OkSt s)(now:Int)(ht:Tm h now)(hnow:now < 10000)(hw:walkF noSee () h 5 3=(0,s,()))(c:Nat)(hc:c < 3)(ho:∀ f ∈ h,f.Client=c→f.End ≠ 0)(hn:h.length≤50)(i:Nat) :
  WL Try.prog fi9.nt c9_24 (hfT kd h c i ++ [(5000,0,bl false)]) hfQ:=by
 obtain⟨hk,ek⟩:=um_spec kd 8 (by decide) (by decide)
 generalize um kd 8=k at hk ek
 have ek':IntKind.wrap .i64 ((IntKind.wrap .u64 kd).tmod 8)=(k:Int):=ek
 have w1:IntKind.wrap .i64 (1+(k:Int))=1+(k:Int):=by rw[wrap_small (by omega) (by omega)]
 have hx:=fails_walk ht hnow hw (c:=(c:Int)) ⟨by omega,by omega⟩ ho (1+(k:Int))
 have hf:finF h 5 3=(s,true):=by unfold finF chkF;rw[hw];simp
 have hEx:EvOk (h ++ [failE c (1+(k:Int))]):=⟨by have:=hE.n;simp;omega,fun e he=>by
  rcases List.mem_append.1 he with he | he
  ·exact hE.d e he
  ·rw[List.mem_singleton.1 he];simp⟩
 have cf:=fin_fn h hE 5 3
 have crf:=reffin_fn h hE 5 3
 have cfx:=fin_fn _ hEx 5 3
 have ccx:=chk_fn _ hEx 5 3
 have hbad:=bad_fn ⟨1+(k:Int),0,0,0,0,[]⟩ 9
 have his:=is_fn s hok.sized hok.bn
 rw[hf] at cf crf
 simp only at cf crf hbad
 have hL:=fmE_len false false h
 have hp:=plainEv h
 have m1:h.length * 144≤140737488355328:=by omega
 have m2:h.length≤maxLen:=by unfold maxLen;omega
 have m3:(h.length+1) * 144≤140737488355328:=by omega
 have m4:h.length+1≤maxLen:=by unfold maxLen;omega
 have tk:List.take (h.length * 14) (h.flatMap (cellsEv false false))=h.flatMap (cellsEv false false):=List.take_of_length_le (by rw[fmE_len];exact Nat.le_refl _)
 refine WL.sregC (RL.o (by simp;rfl) (RL.call0 false cf (by simp) (by simp) (RL.o (by simp;rfl) (RL.nil ⟨_,by simp;rfl,?_⟩))))
 refine WL.sregC ?_
 refine RL.cut (segs':=.o [.mov 74 (.t 2),.conv 75 .u64 (.t 74),.bin 76 .rem (.t 75) (.c (.sc (.int .u64 8))),.conv 77 .i64 (.t 76),.bin 78 .add (cI 1) (.t 77),.build 79 [(.sc (.int .i64 0)),(.sc (.int .i64 0)),(.sc (.int .i64 0)),(.sc (.int .i64 0)),(.sc (.int .i64 0)),(.sc (.slice none 0 0))] [(0,1,(.t 78))]] :: .o [.alloc 15 [(.sc (.int .i64 0)),(.sc (.int .i64 0)),(.sc (.int .i64 0)),(.sc (.int .i64 0)),(.sc (.int .i64 0)),(.sl true () 1 0 [])],.st 6 (.t 15) (.t 79)] :: []) rfl ?_
 refine RL.o (by simp[ek',w1];rfl) (RL.nilA 79 5 1 (by simp;rfl) rfl rfl ?_)
 refine RL.o (by simp;rfl) (RL.nil ⟨_,by simp;rfl,?_⟩)
 refine WL.seq (WL.draw mixed (by simp[cleanL,noH]) ?_)
 refine DL.cut (segs':=.o [.bs0 80 14,.mov 81 (.t 10),.app 82 14 144 (.t 80) (.t 81),.mov 83 (.t 11),.ld 84 6 true (.t 15)] :: .o [.build 85 [(.sc (.int .i64 0)),(.sc (.int .i64 0)),(.sc (.int .i64 0)),(.sc (.slice none 0 0))] [(0,1,(cI 9))],.build 86 [(.sc (.int .i64 0)),(.sc (.int .i64 0)),(.sc (.int .i64 0)),(.sc (.int .i64 0)),(.sc (.int .i64 0)),(.sc (.int .i64 0)),(.sc (.slice none 0 0)),(.sc (.int .i64 0)),(.sc (.int .i64 0)),(.sc (.int .i64 0)),(.sc (.slice none 0 0)),(.sc (.int .i64 0)),(.sc (.int .i64 0)),(.sc (.int .i64 0))] [(0,1,(.t 83)),(1,6,(.t 84)),(7,4,(.t 85)),(11,1,(cI 10000)),(12,1,(cI 10001)),(13,1,(cI 10002))],.bs1 87 14 (.t 86),.app 88 14 144 (.t 82) (.t 87),.asg 16 (.t 88)] :: []) rfl ?_
 refine DL.o (by simp[hL,hp,m1,m2];exact⟨rfl,rfl⟩) ?_
 refine DL.oA 85 3 1 (by simp;exact⟨rfl,rfl,rfl⟩) (by simp) (by decide) (by simp;rfl) rfl rfl ?_
 refine DL.o (by simp[hL,m3,m4];exact⟨rfl,rfl⟩) (DL.nil ⟨by kernel_rfl,_,by simp;rfl,?_⟩)
 have tk2:List.take ((h.length+1) * 14) (h.flatMap (cellsEv false false) ++ cellsEv false false (failE c (1+(k:Int))))=(h ++ [failE c (1+(k:Int))]).flatMap (cellsEv false false):=by
  rw[List.take_of_length_le (by rw[List.length_append,fmE_len];simp;omega)]
  simp[List.flatMap_append]
 have hlx:(h ++ [failE c (1+(k:Int))]).length=h.length+1:=by simp
 generalize (h ++ [failE c (1+(k:Int))])=x at *
 refine WL.eqL (L':=[(1000,0,sEv h)] ++ (rcF 13 s ++ ([(1400,0,bl true)] ++ (fo15 (1+(k:Int)) ++ [(1600,0,hEv x)])))) (by simp[hlx,← tk2];rfl) ?_
 refine WL.freeze 1600 ?_
 clear ht hnow hw ho hf hEx hE tk2
 cases hb:badF (1+(k:Int)) 9 with
 | true =>
  rw[hb] at hx hbad
  simp only[if_true] at hx
  have hfx:finF x 5 3=(s,true):=by unfold finF chkF;rw[hx];simp
  rw[hfx] at cfx
  simp only at cfx
  refine WL.sregC (RL.o (by simp;rfl) (RL.call0 false cfx (by simp) (by simp) (RL.o (by simp;rfl) (RL.nil ⟨_,by simp;rfl,?_⟩))))
  refine WL.seq (WL.sregC (RL.o (by simp;rfl) (RL.call0 false hbad (by simp) (by simp) (RL.o (by simp;rfl) (RL.nil ⟨_,by simp;rfl,?_⟩)))))
  refine WL.cond (t:=false) (by simp) (by simp) fun _=>WL.skip ?_
  refine WL.sregC (RL.o (by simp;rfl) (RL.call0 false crf (by simp) (by simp) (RL.mv (by decide) (RL.o (by simp;rfl) (RL.nil ⟨_,by simp;rfl,?_⟩)))))
  refine WL.sregC (RL.call0 false histTold_fn (by simp) (by simp) (RL.o (by simp;rfl) (RL.g (by simp;rfl) (RL.o (by simp;rfl) (RL.g (by simp;rfl) (RL.o (by simp;rfl) (RL.g (by simp;rfl) ?_)))))))
  refine RL.callY0 true (by simp) his (by simp) (by simp) (RL.o (by simp;rfl) (RL.g (by simp;rfl) ?_))
  refine RL.callY0 true (by simp) his (by simp) (by simp) (RL.o (by simp;rfl) (RL.nil ⟨_,by simp;rfl,WL.ret ⟨rfl,?_⟩⟩))
  simp[fi9]
 | false =>
  rw[hb] at hx hbad
  simp only[Bool.false_eq_true,if_false] at hx
  have hcx:chkF x 5 3=(h.length:Int)+1:=by unfold chkF;rw[hx]
  have hfx:finF x 5 3=(⟨[],[],[]⟩,false):=by unfold finF;rw[hcx,if_neg (by omega)]
  rw[hfx] at cfx
  rw[hcx] at ccx
  simp only at cfx
  refine WL.sregC (RL.o (by simp;rfl) (RL.call0 false cfx (by simp) (by simp) (RL.o (by simp;rfl) (RL.nil ⟨_,by simp;rfl,?_⟩))))
  refine WL.seq (WL.sregC (RL.o (by simp;rfl) (RL.call0 false hbad (by simp) (by simp) (RL.o (by simp;rfl) (RL.nil ⟨_,by simp;rfl,?_⟩)))))
  refine WL.cond (t:=true) (by simp) (fun _=>?_) (by simp)
  refine WL.sregC (RL.call0 false histTold_fn (by simp) (by simp) (RL.o (by simp;rfl) (RL.g (by simp;rfl) (RL.o (by simp;rfl) (RL.g (by simp;rfl) (RL.o (by simp;rfl) (RL.g (by simp;rfl) ?_)))))))
  refine RL.callY0 false (by simp) ccx (by simp) (by simp) (RL.g (by simp[hlx];rfl) (RL.o (by simp;rfl) (RL.nil ⟨_,by simp;rfl,WL.ret ⟨rfl,?_⟩⟩)))
  simp[fi9,hlx]
set_option maxHeartbeats 32000000 in
theorem fails_top (l:List Cl)(hl:l.length≤40)(hD:∀ x ∈ l,x.op.Data.length≤1000)(wt:List Int)(kd cl:Int)(i:Nat):WL Try.prog fi9.nt c9_27 (hfS l wt kd cl i ++ [(2800,0,bl false)]) hfQ:=by
 have hg:=good_fn l (by omega) hD wt
 have hE:=good_ev l wt (by omega)
 have ht:=good_tm l wt
 have hw:=good_walk l wt
 have hok:=good_okS l wt
 have hlen:=good_len l wt
 generalize goodF l wt=h at *
 generalize goodS l wt=s at *
 have hn:=hE.n
 obtain⟨hc,ec⟩:=um_spec cl 3 (by decide) (by decide)
 generalize um cl 3=c at hc ec
 have ec':IntKind.wrap .i64 ((IntKind.wrap .u64 cl).tmod 3)=(c:Int):=ec
 refine WL.sregC (RL.o (by simp;rfl) (RL.call0 false hg (by simp) (by simp) (RL.o (by simp;rfl) (RL.nil ⟨_,by simp;rfl,?_⟩))))
 refine WL.freeze 1000 ?_
 refine WL.sreg (by simp[ec'];rfl) (by simp;rfl) ?_
 refine WL.seq (WL.sreg (by simp;rfl) (by simp;rfl) ?_)
 refine WL.block (WL.count h.length (fun i=>hfT kd h c i) (fun i=>∀ f ∈ h.take i,f.Client=c→f.End ≠ 0) (by simp) (by simp) fun i hi hp=>?_)
 by_cases q:i < h.length
 ·have w:IntKind.wrap .i64 ((i:Int)+1)=((i+1:Nat):Int):=by rw[wrap_small (by omega) (by omega)];omega
  have f1:=fmE_drop (o:=false) (r:=false) q
  have g1:14≤h.length * 14 - i * 14:=by omega
  have next:(h[i].Client=c→h[i].End ≠ 0)→∀ f ∈ h.take (i+1),f.Client=c→f.End ≠ 0:=fun hh f hf=>by
   rw[List.take_succ_eq_append_getElem q] at hf
   rcases List.mem_append.1 hf with hf | hf
   ·exact hp f hf
   ·rw[List.mem_singleton.1 hf];exact hh
  refine WL.seq (WL.sreg (by simp[q];rfl) (by simp;rfl) ?_)
  refine WL.cond (t:=true) (by simp[q]) (fun _=>WL.skip ?_) (by simp)
  refine WL.seq (WL.block ?_)
  by_cases z1:h[i].Client=c
  ·have z1':(h[i].Client == (c:Int))=true:=by simp[z1]
   by_cases z2:h[i].End=0
   ·have z2':(h[i].End == 0)=true:=by simp[z2]
    refine WL.sreg (by simp[q,f1,g1,z1',z2'];rfl) (by simp;rfl) ?_
    refine WL.cond (t:=true) (by simp[z2]) (fun _=>?_) (by simp)
    refine WL.sregC (RL.call0 false histTold_fn (by simp) (by simp) (RL.o (by simp;rfl) (RL.nil ⟨_,by simp;rfl,WL.ret ⟨rfl,?_⟩⟩)))
    simp[fi9]
   ·have z2':(h[i].End == 0)=false:=beq_false_of_ne z2
    refine WL.sreg (by simp[q,f1,g1,z1',z2'];rfl) (by simp;rfl) ?_
    refine WL.cond (t:=false) (by simp[z2]) (by simp) fun _=>WL.skip ?_
    refine WL.reg (RL.run (by simp[w];rfl) ⟨_,by simp;rfl,q,by simp,next fun _=>z2⟩)
  ·have z1':(h[i].Client == (c:Int))=false:=beq_false_of_ne z1
   refine WL.sreg (by simp[q,f1,g1,z1'];rfl) (by simp;rfl) ?_
   refine WL.cond (t:=false) (by simp) (by simp) fun _=>WL.skip ?_
   refine WL.reg (RL.run (by simp[w];rfl) ⟨_,by simp;rfl,q,by simp,next fun e=>absurd e z1⟩)
 ·obtain rfl:i=h.length:=by omega
  refine WL.seq (WL.sreg (by simp;rfl) (by simp;rfl) ?_)
  refine WL.cond (t:=false) (by simp) (by simp) fun _=>WL.exit ?_
  rw[List.take_length] at hp
  exact fails_end kd h hE s hok _ ht (by omega) hw c hc hp (by omega) _
set_option maxHeartbeats 32000000 in
theorem histFails_law (l:List Cl)(hl:l.length≤9223372036854775807)(wt:List Int)(hw:wt.length≤9223372036854775807)(kd cl:Int):FnC Try.prog 9 [] [sCl l,sI false wt,i64 kd,i64 cl] [] (bl true):=by
 refine FnC.go ok9 rfl ?_
 refine WL.mono (Q':=hfQ) ?_ fun e L h=>⟨.inr h.1,h.2⟩
 refine WL.sreg (by simp;rfl) (by simp;rfl) ?_
 by_cases h40:l.length≤40
 ·have q:¬ (40:Int) < l.length:=by omega
  refine WL.seq (WL.sreg (by simp[q];rfl) (by simp;rfl) ?_)
  refine WL.cond (t:=false) (by simp[q]) (by simp) fun _=>WL.skip ?_
  refine WL.seq (WL.sreg (by simp;rfl) (by simp;rfl) ?_)
  refine WL.block (WL.count l.length (fun i=>hfS l wt kd cl i) (fun i=>∀ x ∈ l.take i,x.op.Data.length≤40) (by simp) (by simp) fun i hi hp=>?_)
  by_cases h:i < l.length
  ·have w:IntKind.wrap .i64 ((i:Int)+1)=((i+1:Nat):Int):=by rw[wrap_small (by omega) (by omega)];omega
   have f1:=fm_drop h
   have g1:7≤l.length * 7 - i * 7:=by omega
   refine WL.seq (WL.sreg (by simp[h];rfl) (by simp;rfl) ?_)
   refine WL.cond (t:=true) (by simp[h]) (fun _=>WL.skip ?_) (by simp)
   refine WL.seq (WL.block ?_)
   by_cases z:40 < l[i].op.Data.length
   ·have z':(40:Int) < l[i].op.Data.length:=by omega
    refine WL.sreg (by simp[h,f1,g1,z,z'];rfl) (by simp;rfl) ?_
    refine WL.cond (t:=true) (by simp[z,z']) (fun _=>?_) (by simp)
    refine WL.sregC (RL.call0 false histTold_fn (by simp) (by simp) (RL.o (by simp;rfl) (RL.nil ⟨_,by simp;rfl,WL.ret ⟨rfl,?_⟩⟩)))
    simp[fi9]
   ·have z':¬ (40:Int) < l[i].op.Data.length:=by omega
    refine WL.sreg (by simp[h,f1,g1,z,z'];rfl) (by simp;rfl) ?_
    refine WL.cond (t:=false) (by simp[z,z']) (by simp) fun _=>WL.skip ?_
    refine WL.reg (RL.run (by simp[w];rfl) ⟨_,by simp;rfl,h,by simp,fun x hx=>?_⟩)
    rw[List.take_succ_eq_append_getElem h] at hx
    rcases List.mem_append.1 hx with hx | hx
    ·exact hp x hx
    ·rw[List.mem_singleton.1 hx];omega
  ·obtain rfl:i=l.length:=by omega
   refine WL.seq (WL.sreg (by simp;rfl) (by simp;rfl) ?_)
   refine WL.cond (t:=false) (by simp) (by simp) fun _=>WL.exit ?_
   rw[List.take_length] at hp
   exact fails_top l h40 (fun x hx=>by have:=hp x hx;omega) wt kd cl _
 ·have q:(40:Int) < l.length:=by omega
  refine WL.seq (WL.sreg (by simp[q];rfl) (by simp;rfl) ?_)
  refine WL.cond (t:=true) (by simp[q]) (fun _=>?_) (by simp)
  refine WL.sregC (RL.call0 false histTold_fn (by simp) (by simp) (RL.o (by simp;rfl) (RL.nil ⟨_,by simp;rfl,WL.ret ⟨rfl,?_⟩⟩)))
  simp[fi9]
end Go.OT
