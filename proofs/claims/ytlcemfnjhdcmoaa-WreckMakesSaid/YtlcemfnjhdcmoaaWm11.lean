/- Part 11 of the proof: see its last file. -/
import Derived.Test.YtlcemfnjhdcmoaaRows
import Derived.Test.YtlcemfnjhdcmoaaWm10
set_option linter.unusedSimpArgs false
set_option linter.unusedVariables false
set_option maxHeartbeats 64000000
namespace Go.OT
open Go.Proofs
theorem zqh (s:St)(c:Nat)(q:Op):(z4d s c q).1.Handles.length=s.Handles.length:=by
 simp only[z4d]
 repeat' split
 all_goals simp
theorem ztf (s:St)(cl:Int)(q:Op):(DoB s cl q).2.1.Handles.length=s.Handles.length:=by
 unfold DoB
 repeat' split
 all_goals first | rfl | exact zqh _ _ _
theorem z5a (s:St)(e:Ev):(z0d s e).2.Handles.length=s.Handles.length:=by
 unfold z0d
 split
 ·rfl
 ·exact ztf _ _ _
theorem z4y {l:List Ev}{u:Nat}{c:Int}(hu:u < l.length)(h:z1w l u c=true):0≤l[u].Client∧l[u].Client < c:=by
 rw[z6a hu] at h
 simp only[z28,pp,qp] at h
 have h1:=h.1
 simp only[z58,qm,decide_eq_false_iff_not] at h1
 omega
theorem zlu (l:List Ev)(c fl:Int)(q:Nat):SeeN l c 154 [.vptr () [sEv l],.vptr () [i64 fl],.vptr () [i64 q],.ptr 1000000 0 [] 0,.ptr 1000100 0 [] 0] (fun a:Pst=>[sUU true a.1,bl a.2.1]) (fun a=>[bl a.2.2]) (z5d l fl q)
  (fun j a s=>a.1.length≤j∧q < s.There.length∧(s.Handles.length:Int)=c∧l.length≤1000) :=
 ⟨rfl,rfl,rfl,by simp,fun X k h=>by
  obtain⟨h1,b,h2⟩:=h (1000000,[]) (by simp)
  obtain⟨h3,d,h4⟩:=h (1000100,[]) (by simp)
  simp at h1 h2 h3 h4
  simp[h1,h2,h3,h4,z31],fun j a s u hu ht hok hi hr=>by
  obtain⟨h1,h2,h3,h4⟩:=hi
  refine⟨?_,by rw[z45];exact h2,by rw[z5a];exact h3,h4⟩
  simp only[z5d,zr3]
  split
  ·simp;omega
  ·omega,fun j a s u hu hj ht hok hi hr=>by
  obtain⟨h1,h2,h3,h4⟩:=hi
  have hc:=z4y hu ht
  exact zqf l fl q a (z0d s l[u]).2 (z37 hok _) (by rw[z45];exact h2) u hu (by omega) hc.1 (by rw[z5a,h3];exact hc.2)⟩
theorem zeh {σ:Type}(l:List Ev)(see:σ→Int→St→σ):∀ (o:List Int) (s:St) (a:σ),(goW l see s a o).2.1.Handles.length=s.Handles.length
 | [],s,a=>rfl
 | x :: r,s,a=>by
  simp only[goW]
  split
  ·rw[zeh l see r,z5a]
  ·rfl
def z5u (l:List Ev)(p c fl:Int)(q:Nat):List (List UInt8) × Bool :=
 ((z1g (z5d l fl q) ([],false,false) l p c).2.2.1,(z1g (z5d l fl q) ([],false,false) l p c).2.2.2.1 || l.any fun e=>decide (e.Stamp=0) && wrF e (zbn l p c).1 q)
theorem y29 (l:List (List UInt8)):z20 (l.map (sU true))=true:=zgv (sU true) (fun a=>by simp only[z12,zg3,rr]) l
abbrev ptS (l:List Ev)(p c:Int)(q:Nat)(bs:List (List UInt8))(tn:Bool)(S:St)(fb:Bool)(i:Nat):SL :=
 [(800,0,.bptr 8 1 0),(801,0,i64 q),(899,1,.non),(1000,0,.bptr 10 1 0),(1001,0,.sl true () 1 0 []),(1002,0,bl false),(1099,1,.non),(1100,0,.bx true () [sUU true bs,bl tn])] ++ (rcF 13 S ++ [(2900,0,sEv l),(3000,0,i64 l.length),(3100,0,i64 i)])
theorem y2a (l:List Ev)(hE:EvOk l)(p c:Int)(h0:z6t l p c=0)(q:Nat)(hq:(q:Int) < p)(fl:Int):FnC Try.prog 116 [] [sEv l,i64 p,i64 c,i64 q,i64 fl] [] (.agg [sUU true (z5u l p c fl q).1,bl (z5u l p c fl q).2]):=by
 have hn:=hE.n
 obtain⟨hb,hw0,hg0,htm⟩:=z4x (z5d l fl q) ([],false,false) h0
 have hp1:1≤p∧p≤48∧1≤c∧c≤6:=by
  simp only[z0u,qm,decide_eq_false_iff_not] at hb
  omega
 have en:z0r p c=⟨List.replicate p.toNat false,List.replicate p.toNat z16,List.replicate c.toNat [-1,-1,-1,-1,-1,-1]⟩:=by unfold z0r;rw[hb];rfl
 have hw:=zqe hE (zlu l c fl q) p ([],false,false) (fun _=>⟨by simp,by rw[en];simp;omega,by rw[en];simp;omega,hE.n⟩)
 have hf:=ymb l hE p c
 have eP:z5u l p c fl q=((z1g (z5d l fl q) ([],false,false) l p c).2.2.1,(z1g (z5d l fl q) ([],false,false) l p c).2.2.2.1 || l.any fun e=>decide (e.Stamp=0) && wrF e (zbn l p c).1 q):=rfl
 have hSok:OkSt (zbn l p c).1:=zqg (by unfold zbn;rw[if_pos h0])
 have hSh:((zbn l p c).1.Handles.length:Int)=c:=by
  have:=(z4x z6b () h0).2.1
  unfold zbn
  rw[if_pos h0,this]
  simp only[zeh,en,List.length_replicate]
  omega
 rw[eP]
 clear eP
 have hcode:=z59 (z5d l fl q) ([],false,false) l p c
 generalize z1g (z5d l fl q) ([],false,false) l p c=W at hw hcode ⊢
 obtain⟨code,sw,bs,tn,ws⟩:=W
 generalize zbn l p c=F at hf hSok hSh ⊢
 obtain⟨S,fb⟩:=F
 simp only at hw hf hSok hSh ⊢
 simp only[Sh.gs,Sh.fv] at hw
 refine wb yyy rfl ?_
 refine WL.sreg (by simp;rfl) (by simp;rfl) ?_
 refine WL.sreg (by simp;rfl) (by simp;rfl) ?_
 refine WL.sreg (by simp;rfl) (by simp;rfl) ?_
 refine WL.raise 11 2 (by simp) (by simp;rfl) (by simp) ?_
 refine WL.raise 12 1 (by simp) (by simp;rfl) (by simp) ?_
 refine w7 (RL.o (by simp;rfl) (wn true [(1100,[]),(1200,[])] hw (by simp) (by simp) (by simp[z31,y27]) (by simp[y29]) (by simp) (RL.nil ⟨_,by simp;rfl,?_⟩)))
 refine w7 (RL.o (by simp;rfl) (RL.call0 false hf (by simp) (by simp) (RL.o (by simp;rfl) (RL.nil ⟨_,by simp;rfl,?_⟩))))
 refine WL.seq (WL.sreg (by simp;rfl) (by simp;rfl) ?_)
 refine WL.block (wd l.length (fun i=>ptS l p c q bs (tn || (l.take i).any fun e=>decide (e.Stamp=0) && wrF e S q) S fb i) (fun _=>True) (by simp) trivial fun i hi _=>?_)
 by_cases h:i < l.length
 ·have w:IntKind.wrap .i64 ((i:Int)+1)=((i+1:Nat):Int):=by rw[z01 (by omega) (by omega)];omega
  have f1:=z0y (o:=false) (r:=false) h
  have g1:14≤l.length * 14 - i * 14:=by omega
  have hcl:=z4y h (htm i h)
  have hwr:=zk7 l[i] S hSok hcl.1 (by omega) (q:Int)
  have e1:(tn || (l.take (i+1)).any fun e=>decide (e.Stamp=0) && wrF e S q)=((tn || (l.take i).any fun e=>decide (e.Stamp=0) && wrF e S q) || (decide (l[i].Stamp=0) && wrF l[i] S q)):=by
   rw[sf h,List.any_append]
   simp[Bool.or_assoc]
  rw[e1]
  generalize (tn || (l.take i).any fun e=>decide (e.Stamp=0) && wrF e S q)=x
  refine WL.sreg (by simp[h];rfl) (by simp;rfl) ?_
  refine WL.seq (WL.cond (t:=true) (by simp[h]) (fun _=>WL.skip ?_) (by simp))
  refine WL.seq (WL.block (WL.sreg (by simp[h,f1,g1];rfl) (by simp;rfl) ?_))
  generalize l[i]=e at *
  have fin:∀ x',x'=(x || (decide (e.Stamp=0) && wrF e S q))→∀ L,L=ptS l p c q bs x' S fb i→WL Try.prog zld.nt zv6 L (wg (fun L'=>i < l.length∧L'=ptS l p c q bs (x || (decide (e.Stamp=0) && wrF e S q)) S fb (i+1)∧True) (wm 0 (wg (fun L'=>WL Try.prog zld.nt zv7 L' fun e L=>(e=Ex.nrm∨e=Ex.ret)∧RetOk zld.rs [] (AV.agg [sUU true bs,bl (tn || l.any fun e=>decide (e.Stamp=0) && wrF e S q)]) L) fun e L=>(e=Ex.nrm∨e=Ex.ret)∧RetOk zld.rs [] (AV.agg [sUU true bs,bl (tn || l.any fun e=>decide (e.Stamp=0) && wrF e S q)]) L))):=fun x' hx L hL=>by
   subst hL hx
   exact WL.reg (RL.run (by simp[w];rfl) ⟨_,by simp;rfl,h,by simp,trivial⟩)
  cases x with
  | true =>
   refine WL.reg (RL.o (by simp;rfl) (RL.g (by simp;rfl) (RL.g (by simp;rfl) (RL.callN (by simp) (RL.g (by simp;rfl) (RL.o (by simp;rfl) (RL.nil ⟨_,by simp;rfl,fin true (by simp) _ ?_⟩)))))))
   simp
  | false =>
   by_cases k:e.Stamp=0
   ·have k':(e.Stamp == 0)=true:=by simp[k]
    refine WL.reg (RL.o (by simp;rfl) (RL.g (by simp[k'];rfl) (RL.g (by simp;rfl) (RL.callY0 false (by simp) hwr (by simp) (by simp) (RL.g (by simp;rfl) (RL.o (by simp;rfl) (RL.nil ⟨_,by simp;rfl,fin (wrF e S q) (by simp[k]) _ ?_⟩)))))))
    simp
   ·have k':(e.Stamp == 0)=false:=beq_false_of_ne k
    refine WL.reg (RL.o (by simp;rfl) (RL.g (by simp[k'];rfl) (RL.g (by simp;rfl) (RL.callN (by simp) (RL.g (by simp;rfl) (RL.o (by simp;rfl) (RL.nil ⟨_,by simp;rfl,fin false (by simp[k]) _ ?_⟩)))))))
    simp
 ·obtain rfl:i=l.length:=by omega
  rw[List.take_length]
  generalize (tn || l.any fun e=>decide (e.Stamp=0) && wrF e S q)=x
  refine WL.sreg (by simp;rfl) (by simp;rfl) ?_
  refine WL.seq (WL.cond (t:=false) (by simp) (by simp) fun _=>WL.exit ?_)
  refine WL.sreg (by simp;rfl) (by simp;rfl) (WL.ret ⟨.inr rfl,?_⟩)
  simp[zld]
theorem zk8 (l:List Ev)(fl:Int)(q:Nat):∀ (o:List Int) (s:St) (a:Pst),OkSt s→q < s.There.length→(∀ x ∈ a.1,x.length=16) →
  (∀ x ∈ (goW l (z5d l fl q) s a o).2.2.1,x.length=16)∧(goW l (z5d l fl q) s a o).2.2.1.length≤a.1.length+o.length
 | [],s,a,_,_,h=>⟨h,by simp[goW]⟩
 | x :: r,s,a,hs,hq,h=>by
  simp only[goW]
  split
  ·have hs':=z37 hs (atE l x)
   have hq':q < (z0d s (atE l x)).2.There.length:=by rw[z45];exact hq
   generalize (z0d s (atE l x)).2=t at *
   have hqb:q < t.Body.length:=by rw[hs'.bn];exact hq'
   have h2:∀ y ∈ (z5d l fl q a x t).1,y.length=16:=fun y hy=>by
    simp only[z5d,zr3] at hy
    split at hy
    ·rcases qj.1 hy with hy | hy
     ·exact h y hy
     ·rw[rj.1 hy,pk,po hqb]
      exact hs'.b16 _ (qc hqb)
    ·exact h y hy
   have h3:(z5d l fl q a x t).1.length≤a.1.length+1:=by
    simp only[z5d,zr3]
    split<;>simp
   have ih:=zk8 l fl q r t (z5d l fl q a x t) hs' hq' h2
   exact⟨ih.1,by have:=ih.2;simp only[se];omega⟩
  ·exact⟨h,by simp⟩
theorem y2b (l:List Ev)(p c:Int)(h0:z6t l p c=0)(hn:l.length≤1000)(q:Nat)(hq:(q:Int) < p)(fl:Int):(∀ x ∈ (z5u l p c fl q).1,x.length=16)∧(z5u l p c fl q).1.length≤1000:=by
 obtain⟨hb,hw0,hg0,htm⟩:=z4x (z5d l fl q) ([],false,false) h0
 have en:z0r p c=⟨List.replicate p.toNat false,List.replicate p.toNat z16,List.replicate c.toNat [-1,-1,-1,-1,-1,-1]⟩:=by unfold z0r;rw[hb];rfl
 have:=zk8 l fl q (z0s l) (z0r p c) ([],false,false) (z1x hb) (by rw[en];simp;omega) (by simp)
 unfold z5u
 rw[hw0]
 have hO:=z3z l
 refine⟨this.1,?_⟩
 have h2:=this.2
 simp only[List.length_nil,sy] at h2 ⊢
 omega
theorem zk9 {id:Int}{b:List UInt8}(h:(z1v id b).2=0):(z1v id b).1.length=16:=by
 unfold z1v at h ⊢
 split
 ·rename_i hc
  rw[if_pos hc] at h
  split
  ·rename_i hz;rw[if_pos hz] at h;simp at h
  ·rename_i hz
   rw[if_neg hz] at h
   split
   ·simp[hc.2]
   ·rename_i hi;rw[if_neg hi] at h;simp at h
 ·rename_i hc;rw[if_neg hc] at h;simp at h
def okP (l:List Ev)(p c:Int)(q:Nat)(b:List UInt8):Bool :=
 (decide ((z1v q b).2=0) && zqc (z5u l p c (z2d l p c q) q).1 (z1v q b).1) || ((decide ((z1v q b).2=11) && decide (z2d l p c q=0)) || (decide ((z1v q b).2=10) && (z5u l p c (z2d l p c q) q).2))
def z5r (l:List Ev)(p c:Int)(im:List (List UInt8)):Option Nat:=(List.range im.length).find? fun q=>!okP l p c q (im.getD q [])
def z2e (l:List Ev)(p c:Int)(im:List (List UInt8)):Int:=if z6t l p c ≠ 0∨(im.length:Int) ≠ p then -1 else match z5r l p c im with
 | some q=>q+1
 | none=>0
abbrev wcS (l:List Ev)(p c:Int)(im:List (List UInt8))(i:Nat)(m r:SL):SL:=[(0,0,sEv l),(100,0,i64 p),(200,0,i64 c)] ++ (m ++ ([(2700,0,sUU false im),(2800,0,i64 im.length),(2900,0,i64 i)] ++ r))
abbrev wcQ (v:Int):Ex→SL→Prop:=fun e L=>e=Ex.ret∧RetOk zt5.rs [] (i64 v) L
theorem zlv (l:List Ev)(hE:EvOk l)(p c:Int)(h0:z6t l p c=0)(hp48:p≤48)(im:List (List UInt8))(i:Nat)(h:i < im.length)(hi:(i:Int) < p)(hb:im[i].length≤1000000)(Q:Ex→SL→Prop)
  (hK:∀ L,L=wcS l p c im i [(900,0,i64 i)] [(7500,0,bl (!okP l p c i im[i]))]→WL Try.prog zt5.nt yic L Q) :
  WL Try.prog zt5.nt yie (wcS l p c im i [(900,0,i64 i),(1000,0,sU false im[i])] []) Q:=by
 have hfl:=zef l hE p c i
 have hps:=y2a l hE p c h0 i hi (z2d l p c i)
 have hop:=y26 i im[i] hb
 obtain⟨hk1,hk2⟩:=y2b l p c h0 hE.n i hi (z2d l p c i)
 have hol:=zk9 (id:=i) (b:=im[i])
 have eO:okP l p c i im[i]=((decide ((z1v i im[i]).2=0) && zqc (z5u l p c (z2d l p c i) i).1 (z1v i im[i]).1) || ((decide ((z1v i im[i]).2=11) && decide (z2d l p c i=0)) || (decide ((z1v i im[i]).2=10) && (z5u l p c (z2d l p c i) i).2))):=rfl
 generalize okP l p c i im[i]=ok at eO hK
 generalize z2d l p c i=fl at *
 generalize z5u l p c fl i=ps at *
 obtain⟨bs,tn⟩:=ps
 generalize z1v (i:Int) im[i]=o at *
 obtain⟨bd,code⟩:=o
 simp only at hps hop hk1 hk2 hol eO
 refine w7 (RL.o (by simp;rfl) (RL.call0 false hfl (by simp) (by simp) (RL.o (by simp;rfl) (RL.nil ⟨_,by simp;rfl,?_⟩))))
 refine w7 (RL.o (by simp;rfl) (RL.call0 false hps (by simp) (by simp) (RL.freeze 4400 (RL.o (by simp;rfl) (RL.nil ⟨_,by simp;rfl,?_⟩)))))
 refine w7 (RL.o (by simp;rfl) (RL.call0 false hop (by simp) (by simp) (n5 (by decide) (RL.o (by simp;rfl) (RL.nil ⟨_,by simp;rfl,?_⟩)))))
 have fin:∀ L,L=wcS l p c im i [(900,0,i64 i),(1500,0,bl ok)] []→WL Try.prog zt5.nt yid L Q:=fun L hL=>by
  subst hL
  exact WL.sreg (by simp;rfl) (by simp;rfl) (hK _ (by simp))
 by_cases z0:code=0
 ·subst z0
  have hm:=y28 bs (by omega) hk1 tn bd (hol rfl)
  have eO':ok=zqc bs bd:=by rw[eO];simp
  rw[← eO'] at hm
  have tk:List.take bd.length (bm bd)=bm bd:=pr (by simp)
  refine w7 (RL.o (by simp;rfl) (RL.g (by simp;rfl) (RL.callY0 true (by simp) hm (by simp[tk]) (by simp) ?_)))
  cases ok with
  | true=>exact RL.o (by simp;rfl) (RL.g (by simp;rfl) (RL.g (by simp;rfl) (RL.g (by simp;rfl) (RL.o (by simp;rfl) (RL.g (by simp;rfl) (RL.g (by simp;rfl) (RL.g (by simp;rfl) (RL.o (by simp;rfl) (RL.nil ⟨_,by simp;rfl,fin _ (by simp)⟩)))))))))
  | false=>exact RL.o (by simp;rfl) (RL.g (by simp;rfl) (RL.g (by simp;rfl) (RL.g (by simp;rfl) (RL.o (by simp;rfl) (RL.g (by simp;rfl) (RL.g (by simp;rfl) (RL.g (by simp;rfl) (RL.o (by simp;rfl) (RL.nil ⟨_,by simp;rfl,fin _ (by simp)⟩)))))))))
 ·have z0':(code == 0)=false:=beq_false_of_ne z0
  by_cases z11:code=11
  ·subst z11
   by_cases zf:fl=0
   ·have zf':(fl == 0)=true:=by simp[zf]
    have eO':ok=true:=by rw[eO];simp[zf]
    refine w7 (RL.o (by simp;rfl) (RL.g (by simp;rfl) (RL.callN (by simp) (RL.o (by simp;rfl) (RL.g (by simp;rfl) (RL.g (by simp[zf'];rfl) (RL.g (by simp;rfl) (RL.o (by simp;rfl) (RL.g (by simp;rfl) (RL.g (by simp;rfl) (RL.g (by simp;rfl) (RL.o (by simp;rfl) (RL.nil ⟨_,by simp;rfl,fin _ ?_⟩)))))))))))))
    simp[eO']
   ·have zf':(fl == 0)=false:=beq_false_of_ne zf
    have eO':ok=false:=by rw[eO];simp[zf]
    refine w7 (RL.o (by simp;rfl) (RL.g (by simp;rfl) (RL.callN (by simp) (RL.o (by simp;rfl) (RL.g (by simp;rfl) (RL.g (by simp[zf'];rfl) (RL.g (by simp;rfl) (RL.o (by simp;rfl) (RL.g (by simp;rfl) (RL.g (by simp;rfl) (RL.g (by simp;rfl) (RL.o (by simp;rfl) (RL.nil ⟨_,by simp;rfl,fin _ ?_⟩)))))))))))))
    simp[eO']
  ·have z11':(code == 11)=false:=beq_false_of_ne z11
   by_cases z10:code=10
   ·subst z10
    have eO':ok=tn:=by rw[eO];simp
    subst eO'
    refine w7 (RL.o (by simp;rfl) (RL.g (by simp;rfl) (RL.callN (by simp) (RL.o (by simp;rfl) (RL.g (by simp;rfl) (RL.g (by simp;rfl) (RL.g (by simp;rfl) (RL.o (by simp;rfl) (RL.g (by simp;rfl) (RL.g (by simp;rfl) (RL.g (by simp;rfl) (RL.o (by simp;rfl) (RL.nil ⟨_,by simp;rfl,fin _ ?_⟩)))))))))))))
    simp
   ·have z10':(code == 10)=false:=beq_false_of_ne z10
    have eO':ok=false:=by rw[eO];simp[z0,z11,z10]
    refine w7 (RL.o (by simp[z0'];rfl) (RL.g (by simp;rfl) (RL.callN (by simp) (RL.o (by simp;rfl) (RL.g (by simp[z11'];rfl) (RL.g (by simp;rfl) (RL.g (by simp;rfl) (RL.o (by simp;rfl) (RL.g (by simp[z10'];rfl) (RL.g (by simp;rfl) (RL.g (by simp;rfl) (RL.o (by simp;rfl) (RL.nil ⟨_,by simp;rfl,fin _ ?_⟩)))))))))))))
    simp[eO']
theorem z3t (l:List Ev)(hE:EvOk l)(p c:Int)(im:List (List UInt8))(hn:im.length≤9223372036854775807)(hb:∀ b ∈ im,b.length≤1000000):FnC Try.prog 69 [] [sEv l,i64 p,i64 c,sUU false im] [] (i64 (z2e l p c im)):=by
 have hc:=yma l hE p c
 refine wb x26 rfl ?_
 refine WL.mono (Q':=wcQ (z2e l p c im)) ?_ fun e L h=>⟨.inr h.1,h.2⟩
 refine WL.sreg (by simp;rfl) (by simp;rfl) ?_
 refine WL.seq (w7 (RL.o (by simp;rfl) (RL.call0 false hc (by simp) (by simp) ?_)))
 by_cases h0:z6t l p c=0
 ·have z:(z6t l p c != 0)=false:=by simp[h0]
  by_cases hl:(im.length:Int)=p
  ·have zl:((im.length:Int) != p)=false:=by simp[hl]
   have hp48:p≤48:=by
    have hb:=(z4x z6b () h0).1
    simp only[z0u,qm,decide_eq_false_iff_not] at hb
    omega
   have eW:z2e l p c im=match z5r l p c im with | some q=>(q:Int)+1 | none=>0:=by unfold z2e;rw[if_neg (by simp[h0,hl])]
   rw[eW]
   clear eW
   refine RL.o (by simp[z];rfl) (RL.g (by simp[zl];rfl) (RL.o (by simp;rfl) (RL.nil ⟨_,by simp;rfl,?_⟩)))
   refine WL.cond (t:=false) (by simp) (by simp) fun _=>WL.skip ?_
   refine WL.seq (WL.sreg (by simp;rfl) (by simp;rfl) ?_)
   refine WL.block (wd im.length (fun i=>wcS l p c im i [] []) (fun i=>∀ j,j < i→okP l p c j (im.getD j [])=true) (by simp) (fun j h=>absurd h (rx _)) fun i hi hp=>?_)
   by_cases h:i < im.length
   ·have w:IntKind.wrap .i64 ((i:Int)+1)=((i+1:Nat):Int):=by rw[z01 (by omega) (by omega)];omega
    have w2:IntKind.wrap .i64 ((i:Int)+1)=(i:Int)+1:=by rw[z01 (by omega) (by omega)]
    have eg:im.getD i []=im[i]:=by simp[h]
    refine WL.sreg (by simp[h];rfl) (by simp;rfl) ?_
    refine WL.seq (WL.cond (t:=true) (by simp[h]) (fun _=>WL.skip ?_) (by simp))
    refine WL.seq (WL.block (WL.sreg (by simp[h];rfl) (by simp;rfl) ?_))
    refine WL.eqL (L':=wcS l p c im i [(900,0,i64 i),(1000,0,sU false im[i])] []) (by simp) (zlv l hE p c h0 hp48 im i h (by omega) (hb _ (qc h)) _ fun L hL=>?_)
    subst hL
    cases ho:okP l p c i im[i] with
    | true =>
     refine WL.cond (t:=false) (by simp[ho]) (by simp) fun _=>WL.skip ?_
     refine WL.reg (RL.run (by simp[w];rfl) ⟨_,by simp;rfl,h,by simp,fun j hj=>?_⟩)
     by_cases e:j=i
     ·subst e;rw[eg];exact ho
     ·exact hp j (by omega)
    | false =>
     have hf:z5r l p c im=some i:=by
      unfold z5r
      rw[List.find?_range_eq_some]
      exact⟨by rw[eg,ho];rfl,qw.2 h,fun j hj=>by rw[hp j hj];rfl⟩
     refine WL.cond (t:=true) (by simp[ho]) (fun _=>?_) (by simp)
     refine WL.sreg (by simp[w2];rfl) (by simp;rfl) (WL.ret ⟨rfl,?_⟩)
     simp[zt5,hf]
   ·obtain rfl:i=im.length:=by omega
    have hf:z5r l p c im=none:=by
     unfold z5r
     rw[List.find?_eq_none]
     intro j hj
     rw[hp j (qw.1 hj)];simp
    rw[hf]
    refine WL.sreg (by simp;rfl) (by simp;rfl) ?_
    refine WL.seq (WL.cond (t:=false) (by simp) (by simp) fun _=>WL.exit ?_)
    refine WL.sreg (by simp;rfl) (by simp;rfl) (WL.ret ⟨rfl,?_⟩)
    simp[zt5]
  ·have zl:((im.length:Int) != p)=true:=by simp[hl]
   have eW:z2e l p c im=-1:=by unfold z2e;rw[if_pos (.inr hl)]
   refine RL.o (by simp[z];rfl) (RL.g (by simp[zl];rfl) (RL.o (by simp;rfl) (RL.nil ⟨_,by simp;rfl,?_⟩)))
   refine WL.cond (t:=true) (by simp[hl]) (fun _=>?_) (by simp)
   refine WL.sreg (by simp;rfl) (by simp;rfl) (WL.ret ⟨rfl,?_⟩)
   simp[zt5,eW]
 ·have z:(z6t l p c != 0)=true:=by simp[h0]
  have eW:z2e l p c im=-1:=by unfold z2e;rw[if_pos (.inl h0)]
  refine RL.o (by simp[z];rfl) (RL.g (by simp;rfl) (RL.o (by simp;rfl) (RL.nil ⟨_,by simp;rfl,?_⟩)))
  refine WL.cond (t:=true) (by simp) (fun _=>?_) (by simp)
  refine WL.sreg (by simp;rfl) (by simp;rfl) (WL.ret ⟨rfl,?_⟩)
  simp[zt5,eW]
theorem y2c (bs:List (List UInt8))(b:List UInt8):zqc bs b=(bs.any (fun x=>x.take 4 == b.take 4) && bs.any (fun x=>x.drop 4 == b.drop 4)):=by
 unfold zqc
 cases h:bs.any (· == b) with
 | false=>rfl
 | true =>
  obtain⟨x,hx,hxb⟩:=t6.1 h
  have e:x=b:=by simpa using hxb
  have h1:bs.any (fun x=>x.take 4 == b.take 4)=true:=t6.2 ⟨x,hx,by rw[e];simp⟩
  have h2:bs.any (fun x=>x.drop 4 == b.drop 4)=true:=t6.2 ⟨x,hx,by rw[e];simp⟩
  rw[h1,h2];rfl
theorem zqi (s:St)(cl:Int)(q:Op)(hk:q.Kind=4):(DoB s cl q).2.1.Handles=s.Handles:=by
 unfold DoB
 split
 ·rfl
 ·split
  ·simp only[z4d,hk];simp
  ·rfl
theorem zii (s:St)(e:Ev)(hk:e.op.Kind=4):(z0d s e).2.Handles=s.Handles:=by
 unfold z0d
 split
 ·rfl
 ·exact zqi _ _ _ hk
theorem zka (s:St)(hs:OkSt s)(e:Ev)(hc0:0≤e.Client)(hc1:e.Client < s.Handles.length)(q:Nat):wrF e s q=(decide (e.op.Kind=4) && decide (z38 s e.Client e.op.Handle=q)):=by
 obtain⟨c,hc⟩:=pu hc0
 have hcl:c < s.Handles.length:=by omega
 have hcl':¬ s.Handles.length≤c:=by omega
 have h6:s.Handles[c].length=6:=hs.l6 _ (qc hcl)
 unfold wrF z38
 rw[hc]
 by_cases k:e.op.Kind=4
 ·by_cases h0:0≤e.op.Handle
  ·by_cases h1:e.op.Handle < 6
   ·have n1:¬ e.op.Handle < 0:=by omega
    have n2:¬ (6:Int)≤e.op.Handle:=by omega
    have n3:¬ (c:Int) < 0:=by omega
    simp[k,h0,h1,n1,n2,n3,hcl,hcl',h6]
   ·have n2:(6:Int)≤e.op.Handle:=by omega
    simp[k,h1,hcl,h6,n2]
  ·have n1:e.op.Handle < 0:=by omega
   simp[k,h0,n1]
 ·simp[k]
abbrev rpS (l:List Ev)(q:Nat)(fl:Int)(bd:List UInt8)(code:Int)(s:St)(tn f la:Bool)(j:Nat)(r:SL):SL :=
 [(0,0,sEv l),(300,0,i64 q),(1100,0,i64 fl),(1200,0,str bd),(1300,0,i64 code)] ++ (rcB 14 s ++ ([(1500,0,sI true (z0s l)),(1600,0,bl tn),(1700,0,bl f),(1800,0,bl la),(1900,0,i64 j)] ++ r))
theorem y2d (l:List Ev)(q:Nat)(fl:Int)(bd:List UInt8)(code:Int)(hbd:code=0→bd.length=16)(s:St)(hs:OkSt s)(hq:q < s.There.length)(tn f la:Bool)(j:Nat)(e:Ev)(r:SL)(hr:r=[]∨r=[(10300,0,bl false)])(Q:Ex→SL→Prop)
  (hK:∀ L,(∃ r,(r=[]∨r=[(11800,0,bl false)])∧L=rpS l q fl bd code s tn (f || (decide (fl≤e.Stamp) && (z0t s q && (decide (code=0) && ((s.Body.getD q []).take 4 == bd.take 4))))) (la || (decide (fl≤e.Stamp) && (z0t s q && (decide (code=0) && ((s.Body.getD q []).drop 4 == bd.drop 4))))) j r)→Q .nrm L) :
  WL Try.prog z4p.nt zgi (rpS l q fl bd code s tn f la j (bxE 20 e ++ r)) Q:=by
 have hq':q+1≤s.There.length:=hq
 have hqb:q < s.Body.length:=by rw[hs.bn];exact hq
 have hqb':q+1≤s.Body.length:=hqb
 have h16:s.Body[q].length=16:=hs.b16 _ (qc hqb)
 have hgd:s.Body.getD q []=s.Body[q]:=by simp[hqb]
 rw[hgd] at hK
 obtain⟨th,hth⟩:∃ th,s.There[q]=th:=⟨_,rfl⟩
 have eth:z0t s q=th:=by simp[z0t,hq,hth]
 rw[eth] at hK
 have no:(decide (fl≤e.Stamp) && (th && decide (code=0)))=false→∀ L,L=rpS l q fl bd code s tn f la j [(11800,0,bl false)]→WL Try.prog z4p.nt zpp L Q:=fun hz L hL=>by
  subst hL
  refine WL.cond (t:=false) (by simp) (by simp) fun _=>WL.skip (hK _ ⟨_,.inr rfl,?_⟩)
  have e1:∀ x:Bool,(decide (fl≤e.Stamp) && (th && (decide (code=0) && x)))=false:=fun x=>by
   revert hz
   cases decide (fl≤e.Stamp)<;>cases th<;>cases decide (code=0)<;>simp
  rw[e1,e1]
  simp
 by_cases k1:fl≤e.Stamp
 ·cases th with
  | true =>
   by_cases k2:code=0
   ·have k2':(code == 0)=true:=by simp[k2]
    have hb16:=hbd k2
    have x1:(z27 s.Body[q]).extract 0 4=z27 (s.Body[q].take 4):=by rw[z4g];simp
    have x2:(z27 bd).extract 0 4=z27 (bd.take 4):=by rw[z4g];simp
    have x3:(z27 s.Body[q]).extract 4 16=z27 (s.Body[q].drop 4):=by rw[z4g,pr (by simp[h16])]
    have x4:(z27 bd).extract 4 16=z27 (bd.drop 4):=by rw[z4g,pr (by simp[hb16])]
    have z1:=z1i s.Body[q]
    have z2:=z1i bd
    have go:WL Try.prog z4p.nt zpp (rpS l q fl bd code s tn f la j [(11800,0,bl true)]) Q:=by
     refine WL.cond (t:=true) (by simp) (fun _=>?_) (by simp)
     have tail:∀ f',WL Try.prog z4p.nt zpo (rpS l q fl bd code s tn f' la j []) (fun e L=>e=Ex.nrm∧L=rpS l q fl bd code s tn f' (la || (s.Body[q].drop 4 == bd.drop 4)) j []):=fun f'=>by
      cases la with
      | true =>
       refine WL.draw z0p (by simp[z05,noH]) (DL.run (by simp;exact⟨rfl,rfl⟩) ⟨by kernel_rfl,_,by simp;rfl,rfl,?_⟩)
       simp
      | false =>
       refine WL.draw z0p (by simp[z05,noH]) (DL.run (by simp[hq,hq',hqb,hqb',z1,z2,h16,hb16,x3,x4,z87];exact⟨rfl,rfl⟩) ⟨by kernel_rfl,_,by simp;rfl,rfl,?_⟩)
       simp
     have done:∀ f',f'=(f || (s.Body[q].take 4 == bd.take 4))→WL Try.prog z4p.nt zpo (rpS l q fl bd code s tn f' la j []) Q:=fun f' hf=>by
      refine WL.mono (tail f') ?_
      rintro x L ⟨rfl,rfl⟩
      refine hK _ ⟨[],.inl rfl,?_⟩
      simp only[k1,k2,decide_true,ri,hf]
     cases f with
     | true =>
      refine WL.seq (WL.draw z0p (by simp[z05,noH]) (DL.run (by simp;exact⟨rfl,rfl⟩) ⟨by kernel_rfl,_,by simp;rfl,?_⟩))
      exact WL.eqL (by simp) (done true (by simp))
     | false =>
      refine WL.seq (WL.draw z0p (by simp[z05,noH]) (DL.run (by simp[hq,hq',hqb,hqb',z1,z2,h16,hb16,x1,x2,z87];exact⟨rfl,rfl⟩) ⟨by kernel_rfl,_,by simp;rfl,?_⟩))
      exact WL.eqL (by simp) (done (s.Body[q].take 4 == bd.take 4) (by simp))
    rcases hr with rfl | rfl
    ·exact WL.sreg (by simp[k1,hq,hq',hth,k2'];rfl) (by simp;rfl) (WL.eqL (by simp) go)
    ·exact WL.sreg (by simp[k1,hq,hq',hth,k2'];rfl) (by simp;rfl) (WL.eqL (by simp) go)
   ·have k2':(code == 0)=false:=beq_false_of_ne k2
    rcases hr with rfl | rfl
    ·exact WL.sreg (by simp[k1,hq,hq',hth,k2'];rfl) (by simp;rfl) (no (by simp[k2]) _ (by simp))
    ·exact WL.sreg (by simp[k1,hq,hq',hth,k2'];rfl) (by simp;rfl) (no (by simp[k2]) _ (by simp))
  | false =>
   rcases hr with rfl | rfl
   ·exact WL.sreg (by simp[k1,hq,hq',hth];rfl) (by simp;rfl) (no (by simp) _ (by simp))
   ·exact WL.sreg (by simp[k1,hq,hq',hth];rfl) (by simp;rfl) (no (by simp) _ (by simp))
 ·rcases hr with rfl | rfl
  ·exact WL.sreg (by simp[k1];rfl) (by simp;rfl) (no (by simp[k1]) _ (by simp))
  ·exact WL.sreg (by simp[k1];rfl) (by simp;rfl) (no (by simp[k1]) _ (by simp))
def tnQ (fl:Int)(q:Nat)(t:St)(e:Ev)(hd:Int)(ws:Bool):Bool:=decide (fl < e.Stamp) && ((decide (e.op.Kind=4) && decide (hd=q)) || (decide (e.op.Kind=1) && (!ws && z0t t q)))
theorem y2e (l:List Ev)(q:Nat)(fl:Int)(bd:List UInt8)(code:Int)(t:St)(hq:q < t.There.length)(tn f la:Bool)(j:Nat)(e:Ev)(hd:Int)(ws:Bool)(Q:Ex→SL→Prop)
  (hK:∀ r L,(r=[]∨r=[(10300,0,bl false)])→L=rpS l q fl bd code t (tn || tnQ fl q t e hd ws) f la j (bxE 20 e ++ r)→WL Try.prog z4p.nt zgi L Q) :
  WL Try.prog z4p.nt zva (rpS l q fl bd code t tn f la j (bxE 20 e ++ [(2100,0,i64 hd),(2200,0,bl ws)])) Q:=by
 have hq':q+1≤t.There.length:=hq
 obtain⟨th,hth⟩:∃ th,t.There[q]=th:=⟨_,rfl⟩
 have eth:z0t t q=th:=by simp[z0t,hq,hth]
 have eQ:tnQ fl q t e hd ws=(decide (fl < e.Stamp) && ((decide (e.op.Kind=4) && decide (hd=q)) || (decide (e.op.Kind=1) && (!ws && th)))):=by unfold tnQ;rw[eth]
 generalize tnQ fl q t e hd ws=x at eQ hK
 have yes:x=true→∀ L,L=rpS l q fl bd code t tn f la j (bxE 20 e ++ [(10300,0,bl true)])→WL Try.prog z4p.nt zpn L (wg (fun L'=>WL Try.prog z4p.nt zgi L' Q) Q):=fun h L hL=>by
  subst hL h
  refine WL.cond (t:=true) (by simp) (fun _=>?_) (by simp)
  exact WL.reg (RL.run (by simp;rfl) ⟨_,by simp;rfl,hK [] _ (.inl rfl) (by simp)⟩)
 have no:x=false→∀ L,L=rpS l q fl bd code t tn f la j (bxE 20 e ++ [(10300,0,bl false)])→WL Try.prog z4p.nt zpn L (wg (fun L'=>WL Try.prog z4p.nt zgi L' Q) Q):=fun h L hL=>by
  subst hL h
  refine WL.cond (t:=false) (by simp) (by simp) fun _=>WL.skip (hK _ _ (.inr rfl) (by simp))
 by_cases k1:fl < e.Stamp
 ·by_cases k4:e.op.Kind=4
  ·have k4':(e.op.Kind == 4)=true:=by simp[k4]
   have k1':(e.op.Kind == 1)=false:=beq_false_of_ne (by omega)
   by_cases hh:hd=q
   ·have hh':(hd == (q:Int))=true:=by simp[hh]
    exact WL.seq (WL.sreg (by simp[k1,k4',hh'];rfl) (by simp;rfl) (yes (by simp[eQ,k1,k4,hh]) _ (by simp)))
   ·have hh':(hd == (q:Int))=false:=beq_false_of_ne hh
    exact WL.seq (WL.sreg (by simp[k1,k4',k1',hh'];rfl) (by simp;rfl) (no (by simp[eQ,k4,hh]) _ (by simp)))
  ·have k4':(e.op.Kind == 4)=false:=beq_false_of_ne k4
   by_cases kk:e.op.Kind=1
   ·have kk':(e.op.Kind == 1)=true:=by simp[kk]
    cases ws with
    | true=>exact WL.seq (WL.sreg (by simp[k1,k4',kk'];rfl) (by simp;rfl) (no (by simp[eQ,k4]) _ (by simp)))
    | false =>
     cases th with
     | true=>exact WL.seq (WL.sreg (by simp[k1,k4',kk',hq,hq',hth];rfl) (by simp;rfl) (yes (by simp[eQ,k1,kk]) _ (by simp)))
     | false=>exact WL.seq (WL.sreg (by simp[k1,k4',kk',hq,hq',hth];rfl) (by simp;rfl) (no (by simp[eQ,k4]) _ (by simp)))
   ·have kk':(e.op.Kind == 1)=false:=beq_false_of_ne kk
    exact WL.seq (WL.sreg (by simp[k1,k4',kk'];rfl) (by simp;rfl) (no (by simp[eQ,k4,kk]) _ (by simp)))
 ·exact WL.seq (WL.sreg (by simp[k1];rfl) (by simp;rfl) (no (by simp[eQ,k1]) _ (by simp)))
theorem ztg (l:List Ev)(q:Nat)(fl:Int)(bd:List UInt8)(code:Int)(hbd:code=0→bd.length=16)(s:St)(hs:OkSt s)(hq:q < s.There.length)(tn f la:Bool)(j:Nat)(e:Ev)(hE0:0≤e.End)(hD:e.op.Data.length≤1000)(Q:Ex→SL→Prop)
  (hK:∀ L,(∃ r,(r=[]∨r=[(11800,0,bl false)])∧L=rpS l q fl bd code (z0d s e).2 (tn || tnQ fl q (z0d s e).2 e (z38 s e.Client e.op.Handle) (z0t s q)) (f || (decide (fl≤e.Stamp) && (z0t (z0d s e).2 q && (decide (code=0) && (((z0d s e).2.Body.getD q []).take 4 == bd.take 4))))) (la || (decide (fl≤e.Stamp) && (z0t (z0d s e).2 q && (decide (code=0) && (((z0d s e).2.Body.getD q []).drop 4 == bd.drop 4))))) j r)→Q .nrm L) :
  WL Try.prog z4p.nt zpq (rpS l q fl bd code s tn f la j (bxE 20 e)) Q:=by
 have hq':q+1≤s.There.length:=hq
 have hh:=zi2 s e.Client e.op.Handle
 have hst:=zgt s hs e hE0 hD
 have hs':=z37 hs e
 have hqt:q < (z0d s e).2.There.length:=by rw[z45];exact hq
 obtain⟨th,hth⟩:∃ th,s.There[q]=th:=⟨_,rfl⟩
 have eth:z0t s q=th:=by simp[z0t,hq,hth]
 rw[eth] at hK
 have side:=zeg (z0d s e).2 s
 generalize (z0d s e).2=t at *
 generalize z38 s e.Client e.op.Handle=hd at *
 refine w7 (RL.o (by simp;rfl) (RL.call0 true hh (by simp) (by simp) (RL.o (by simp;rfl) (RL.nil ⟨_,by simp;rfl,?_⟩))))
 refine WL.sreg (by simp[hq,hq',hth];rfl) (by simp;rfl) ?_
 refine w7 (RL.o (by simp;rfl) (RL.call true [(1401,[]),(1402,[]),(1403,[])] hst (by simp) (by simp) (by simp[z31]) side (RL.nil ⟨_,by simp;rfl,?_⟩)))
 refine WL.eqL (by simp) (y2e l q fl bd code t hqt tn f la j e hd th Q fun r L hr hL=>?_)
 subst hL
 exact y2d l q fl bd code hbd t hs' hqt _ f la j e r hr Q hK
abbrev rqS (l:List Ev)(q:Nat)(code:Int)(S:St)(tn f la:Bool)(i:Nat)(r:SL):SL :=
 [(0,0,sEv l),(300,0,i64 q),(1300,0,i64 code)] ++ (rcB 14 S ++ ([(1600,0,bl tn),(1700,0,bl f),(1800,0,bl la),(2300,0,i64 i)] ++ r))
abbrev rqQ (v:Bool):Ex→SL→Prop:=fun e L=>e=Ex.ret∧RetOk z4p.rs [] (bl v) L
def z95 (S:St)(q:Nat)(e:Ev):Bool:=decide (e.Stamp=0) && (decide (e.End=0) && (decide (e.op.Kind=4) && decide (z38 S e.Client e.op.Handle=q)))
theorem y2f (l:List Ev)(hn:l.length≤1000)(q:Nat)(code:Int)(S:St)(tn f la:Bool)(v:Bool)
  (hv:v=if code=10 then (tn || l.any (z95 S q)) else decide (code=0) && (f && la)) :
  WL Try.prog z4p.nt zpt ([(0,0,sEv l),(300,0,i64 q),(1300,0,i64 code)] ++ (rcB 14 S ++ [(1600,0,bl tn),(1700,0,bl f),(1800,0,bl la)])) (rqQ v):=by
 refine WL.seq (WL.sreg (by simp;rfl) (by simp;rfl) ?_)
 refine WL.block (wd l.length (fun i=>rqS l q code S (tn || (l.take i).any (z95 S q)) f la i []) (fun _=>True) (by simp) trivial fun i hi _=>?_)
 by_cases h:i < l.length
 ·have w:IntKind.wrap .i64 ((i:Int)+1)=((i+1:Nat):Int):=by rw[z01 (by omega) (by omega)];omega
  have f1:=z0y (o:=false) (r:=false) h
  have g1:14≤l.length * 14 - i * 14:=by omega
  have hh:=zi2 S l[i].Client l[i].op.Handle
  have e1:(tn || (l.take (i+1)).any (z95 S q))=((tn || (l.take i).any (z95 S q)) || z95 S q l[i]):=by
   rw[sf h,List.any_append]
   simp[Bool.or_assoc]
  have eL:z95 S q l[i]=(decide (l[i].Stamp=0) && (decide (l[i].End=0) && (decide (l[i].op.Kind=4) && decide (z38 S l[i].Client l[i].op.Handle=q)))):=rfl
  rw[e1]
  generalize (tn || (l.take i).any (z95 S q))=x
  generalize z95 S q l[i]=y at eL ⊢
  refine WL.seq (WL.sreg (by simp[h];rfl) (by simp;rfl) ?_)
  refine WL.cond (t:=true) (by simp[h]) (fun _=>WL.skip ?_) (by simp)
  refine WL.seq (WL.block (WL.seq ?_))
  have fin:∀ z L,z=y→L=rqS l q code S x f la i [(18800,0,bl z)]→∀ Q,(∀ L',(i < l.length∧L'=rqS l q code S (x || y) f la (i+1) []∧True)→Q Ex.nrm L')→WL Try.prog z4p.nt zpr L (wm 3 (wg (fun L'=>WL Try.prog z4p.nt zps L' Q) Q)):=fun z L hz hL Q hQ=>by
   subst hL
   cases z with
   | true =>
    refine WL.cond (t:=true) (by simp) (fun _=>?_) (by simp)
    refine WL.reg (RL.run (by simp;rfl) ⟨_,by simp;rfl,?_⟩)
    refine WL.reg (RL.run (by simp[w];rfl) ⟨_,by simp;rfl,hQ _ ⟨h,?_,trivial⟩⟩)
    simp[← hz]
   | false =>
    refine WL.cond (t:=false) (by simp) (by simp) fun _=>WL.skip ?_
    refine WL.reg (RL.run (by simp[w];rfl) ⟨_,by simp;rfl,hQ _ ⟨h,?_,trivial⟩⟩)
    simp[← hz]
  by_cases k1:l[i].Stamp=0
  ·have k1':(l[i].Stamp == 0)=true:=by simp[k1]
   by_cases k2:l[i].End=0
   ·have k2':(l[i].End == 0)=true:=by simp[k2]
    by_cases k3:l[i].op.Kind=4
    ·have k3':(l[i].op.Kind == 4)=true:=by simp[k3]
     generalize z38 S l[i].Client l[i].op.Handle=hd at hh eL
     refine WL.draw z0p (by simp[z05,noH]) (DL.o (by simp[h,f1,g1,k1'];exact⟨rfl,rfl⟩) (DL.g (by simp[h,f1,g1,k2'];exact⟨rfl,rfl⟩) (DL.o (by simp;exact⟨rfl,rfl⟩) (DL.g (by simp[h,f1,g1,k3'];exact⟨rfl,rfl⟩) (DL.o (by simp;exact⟨rfl,rfl⟩) (DL.g (by simp[h,f1,g1];exact⟨rfl,rfl⟩) ?_))))))
     refine DL.callY0 true (by simp) hh (by simp) (by simp) (DL.g (by simp;exact⟨rfl,rfl⟩) (DL.o (by simp;exact⟨rfl,rfl⟩) (DL.nil ⟨by kernel_rfl,_,by simp;rfl,?_⟩)))
     refine fin (hd == (q:Int)) _ ?_ (by simp) _ fun L h=>h
     rw[eL];simp only[k1,k2,k3,decide_true,ri]
     by_cases e:hd=q<;>simp [e]
    ·have k3':(l[i].op.Kind == 4)=false:=beq_false_of_ne k3
     refine WL.draw z0p (by simp[z05,noH]) (DL.o (by simp[h,f1,g1,k1'];exact⟨rfl,rfl⟩) (DL.g (by simp[h,f1,g1,k2'];exact⟨rfl,rfl⟩) (DL.o (by simp;exact⟨rfl,rfl⟩) (DL.g (by simp[h,f1,g1,k3'];exact⟨rfl,rfl⟩) (DL.o (by simp;exact⟨rfl,rfl⟩) (DL.g (by simp[h,f1,g1];exact⟨rfl,rfl⟩) ?_))))))
     refine DL.callN (by simp) (DL.g (by simp;exact⟨rfl,rfl⟩) (DL.o (by simp;exact⟨rfl,rfl⟩) (DL.nil ⟨by kernel_rfl,_,by simp;rfl,?_⟩)))
     exact fin false _ (by rw[eL];simp[k3]) (by simp) _ fun L h=>h
   ·have k2':(l[i].End == 0)=false:=beq_false_of_ne k2
    refine WL.draw z0p (by simp[z05,noH]) (DL.o (by simp[h,f1,g1,k1'];exact⟨rfl,rfl⟩) (DL.g (by simp[h,f1,g1,k2'];exact⟨rfl,rfl⟩) (DL.o (by simp;exact⟨rfl,rfl⟩) (DL.g (by simp[h,f1,g1];exact⟨rfl,rfl⟩) (DL.o (by simp;exact⟨rfl,rfl⟩) (DL.g (by simp[h,f1,g1];exact⟨rfl,rfl⟩) ?_))))))
    refine DL.callN (by simp) (DL.g (by simp;exact⟨rfl,rfl⟩) (DL.o (by simp;exact⟨rfl,rfl⟩) (DL.nil ⟨by kernel_rfl,_,by simp;rfl,?_⟩)))
    exact fin false _ (by rw[eL];simp[k2]) (by simp) _ fun L h=>h
  ·have k1':(l[i].Stamp == 0)=false:=beq_false_of_ne k1
   refine WL.draw z0p (by simp[z05,noH]) (DL.o (by simp[h,f1,g1,k1'];exact⟨rfl,rfl⟩) (DL.g (by simp[h,f1,g1];exact⟨rfl,rfl⟩) (DL.o (by simp;exact⟨rfl,rfl⟩) (DL.g (by simp[h,f1,g1];exact⟨rfl,rfl⟩) (DL.o (by simp;exact⟨rfl,rfl⟩) (DL.g (by simp[h,f1,g1];exact⟨rfl,rfl⟩) ?_))))))
   refine DL.callN (by simp) (DL.g (by simp;exact⟨rfl,rfl⟩) (DL.o (by simp;exact⟨rfl,rfl⟩) (DL.nil ⟨by kernel_rfl,_,by simp;rfl,?_⟩)))
   exact fin false _ (by rw[eL];simp[k1]) (by simp) _ fun L h=>h
 ·obtain rfl:i=l.length:=by omega
  rw[List.take_length]
  generalize (tn || l.any (z95 S q))=x at hv ⊢
  refine WL.seq (WL.sreg (by simp;rfl) (by simp;rfl) ?_)
  refine WL.cond (t:=false) (by simp) (by simp) fun _=>WL.exit ?_
  by_cases k10:code=10
  ·have k10':(code == 10)=true:=by simp[k10]
   rw[if_pos k10] at hv
   refine WL.seq (WL.sreg (by simp[k10'];rfl) (by simp;rfl) ?_)
   refine WL.cond (t:=true) (by simp[k10']) (fun _=>?_) (by simp)
   refine WL.sreg (by simp;rfl) (by simp;rfl) (WL.ret ⟨rfl,?_⟩)
   simp[z4p,hv]
  ·have k10':(code == 10)=false:=beq_false_of_ne k10
   rw[if_neg k10] at hv
   refine WL.seq (WL.sreg (by simp[k10'];rfl) (by simp;rfl) ?_)
   refine WL.cond (t:=false) (by simp[k10']) (by simp) fun _=>WL.skip ?_
   by_cases k0:code=0
   ·have k0':(code == 0)=true:=by simp[k0]
    cases f with
    | true =>
     refine WL.sreg (by simp[k0',k10'];rfl) (by simp;rfl) (WL.ret ⟨rfl,?_⟩)
     simp[z4p,hv,k0]
    | false =>
     refine WL.sreg (by simp[k0',k10'];rfl) (by simp;rfl) (WL.ret ⟨rfl,?_⟩)
     simp[z4p,hv,k0]
   ·have k0':(code == 0)=false:=beq_false_of_ne k0
    refine WL.sreg (by simp[k0',k10'];rfl) (by simp;rfl) (WL.ret ⟨rfl,?_⟩)
    simp[z4p,hv,k0]
theorem ymd (fl:Int)(q:Nat)(s:St)(hs:OkSt s)(e:Ev)(hc0:0≤e.Client)(hc1:e.Client < s.Handles.length) :
  tnQ fl q (z0d s e).2 e (z38 s e.Client e.op.Handle) (z0t s q)=(decide (fl < e.Stamp) && ((decide (e.op.Kind=1) && (z0t (z0d s e).2 q && !z0t s q)) || wrF e (z0d s e).2 q)):=by
 have h1:=zka (z0d s e).2 (z37 hs e) e hc0 (by rw[z5a];exact hc1) q
 rw[h1]
 unfold tnQ
 congr 1
 by_cases k:e.op.Kind=4
 ·have hw:=zii s e k
  have:z38 (z0d s e).2 e.Client e.op.Handle=z38 s e.Client e.op.Handle:=by unfold z38;rw[hw]
  rw[this]
  have k1:¬ e.op.Kind=1:=by omega
  simp[k]
 ·simp[k]
  cases decide (e.op.Kind=1)<;>cases z0t s q<;>cases z0t (z0d s e).2 q<;>rfl
def fsT (code:Int)(bd:List UInt8)(bs:List (List UInt8)):Bool:=decide (code=0) && bs.any (fun x=>x.take 4 == bd.take 4)
def lsT (code:Int)(bd:List UInt8)(bs:List (List UInt8)):Bool:=decide (code=0) && bs.any (fun x=>x.drop 4 == bd.drop 4)
theorem y2g (code:Int)(bd:List UInt8)(l:List Ev)(fl:Int)(q:Nat)(a:Pst)(x:Int)(t:St):fsT code bd (z5d l fl q a x t).1=(fsT code bd a.1 || (decide (fl≤(atE l x).Stamp) && (z0t t q && (decide (code=0) && ((t.Body.getD q []).take 4 == bd.take 4))))):=by
 simp only[z5d,zr3,fsT]
 split
 ·rename_i h
  simp only[pp,decide_eq_true_eq] at h
  rw[List.any_append]
  simp only[h.1,h.2,decide_true,ri,tg,List.any_nil,Bool.or_false]
  cases decide (code=0)<;>simp
 ·rename_i h
  have:(decide (fl≤(atE l x).Stamp) && z0t t q)=false:=by simpa using h
  cases h1:decide (fl≤(atE l x).Stamp) with
  | false=>simp
  | true=>rw [h1] at this;simp only[ri] at this;rw[this];simp
theorem y2h (code:Int)(bd:List UInt8)(l:List Ev)(fl:Int)(q:Nat)(a:Pst)(x:Int)(t:St):lsT code bd (z5d l fl q a x t).1=(lsT code bd a.1 || (decide (fl≤(atE l x).Stamp) && (z0t t q && (decide (code=0) && ((t.Body.getD q []).drop 4 == bd.drop 4))))):=by
 simp only[z5d,zr3,lsT]
 split
 ·rename_i h
  simp only[pp,decide_eq_true_eq] at h
  rw[List.any_append]
  simp only[h.1,h.2,decide_true,ri,tg,List.any_nil,Bool.or_false]
  cases decide (code=0)<;>simp
 ·rename_i h
  have:(decide (fl≤(atE l x).Stamp) && z0t t q)=false:=by simpa using h
  cases h1:decide (fl≤(atE l x).Stamp) with
  | false=>simp
  | true=>rw [h1] at this;simp only[ri] at this;rw[this];simp
theorem zth {l:List Ev}{c:Int}(ht:∀ j,j < l.length→z1w l j c=true)(S:St)(hS:OkSt S)(hc:(S.Handles.length:Int)=c)(q:Nat):(l.any fun e=>decide (e.Stamp=0) && wrF e S q)=l.any (z95 S q):=by
 rw[tt,t6,t6]
 have key:∀ e ∈ l,(decide (e.Stamp=0) && wrF e S q)=z95 S q e:=fun e he=>by
  obtain⟨u,hu,rfl⟩:=List.mem_iff_getElem.1 he
  have h1:=z4y hu (ht u hu)
  have h2:=ht u hu
  rw[z6a hu] at h2
  rw[zka S hS _ h1.1 (by omega) q]
  unfold z95
  by_cases k:l[u].Stamp=0
  ·have hE:l[u].End=0:=by
    simp only[z28,pp,qp,z58,z1s,qm,decide_eq_false_iff_not,Bool.and_eq_false_iff] at h2
    omega
   simp[k,hE]
  ·simp[k]
 exact⟨fun ⟨e,he,h⟩=>⟨e,he,by rw[← key e he];exact h⟩,fun ⟨e,he,h⟩=>⟨e,he,by rw[key e he];exact h⟩⟩
theorem yme (l:List Ev)(p c:Int)(q:Nat)(b:List UInt8):okP l p c q b=if (z1v q b).2=11 then decide (z2d l p c q=0) else if (z1v q b).2=10 then (z5u l p c (z2d l p c q) q).2 else decide ((z1v q b).2=0) && (fsT (z1v q b).2 (z1v q b).1 (z5u l p c (z2d l p c q) q).1 && lsT (z1v q b).2 (z1v q b).1 (z5u l p c (z2d l p c q) q).1):=by
 unfold okP fsT lsT
 rw[y2c]
 by_cases k11:(z1v q b).2=11
 ·simp[k11]
 ·by_cases k10:(z1v q b).2=10
  ·simp[k10]
  ·by_cases k0:(z1v q b).2=0
   ·simp[k0]
   ·simp[k11,k10,k0]
theorem zlw (l:List Ev)(hE:EvOk l)(p c:Int)(h0:z6t l p c=0)(q:Nat)(hq:(q:Int) < p)(b:List UInt8)(hb:b.length≤1000000):FnC Try.prog 119 [] [sEv l,i64 p,i64 c,i64 q,str b] [] (bl (okP l p c q b)):=by
 have hn:=hE.n
 have hfl:=zig l hE p c q
 have hop:=zlj q b hb
 have hol:=zk9 (id:=q) (b:=b)
 have eO:=yme l p c q b
 generalize okP l p c q b=ok at eO ⊢
 generalize z2d l p c q=fl at *
 generalize z1v (q:Int) b=o at *
 obtain⟨bd,code⟩:=o
 simp only at hop hol eO
 obtain⟨hnb,hw0,hg0,htm⟩:=z4x (z5d l fl q) ([],false,false) h0
 have en:z0r p c=⟨List.replicate p.toNat false,List.replicate p.toNat z16,List.replicate c.toNat [-1,-1,-1,-1,-1,-1]⟩:=by unfold z0r;rw[hnb];rfl
 have hp1:1≤p∧p≤48∧1≤c∧c≤6:=by
  have:=hnb
  simp only[z0u,qm,decide_eq_false_iff_not] at this
  omega
 refine wb yz1 rfl ?_
 refine WL.mono (Q':=rqQ ok) ?_ fun e L h=>⟨.inr h.1,h.2⟩
 refine WL.sreg (by simp;rfl) (by simp;rfl) ?_
 refine w7 (RL.o (by simp;rfl) (RL.call0 false hfl (by simp) (by simp) (RL.o (by simp;rfl) (RL.nil ⟨_,by simp;rfl,?_⟩))))
 refine w7 (RL.o (by simp;rfl) (RL.call0 false hop (by simp) (by simp) (RL.o (by simp;rfl) (RL.nil ⟨_,by simp;rfl,?_⟩))))
 by_cases k11:code=11
 ·have k11':(code == 11)=true:=by simp[k11]
  rw[if_pos k11] at eO
  refine WL.seq (WL.sreg (by simp[k11'];rfl) (by simp;rfl) ?_)
  refine WL.cond (t:=true) (by simp[k11']) (fun _=>?_) (by simp)
  refine WL.sreg (by simp;rfl) (by simp;rfl) (WL.ret ⟨rfl,?_⟩)
  by_cases z:fl=0<;>simp [z4p,eO,z]
 have k11':(code == 11)=false:=beq_false_of_ne k11
 rw[if_neg k11] at eO
 refine WL.seq (WL.sreg (by simp[k11'];rfl) (by simp;rfl) ?_)
 refine WL.cond (t:=false) (by simp[k11']) (by simp) fun _=>WL.skip ?_
 refine w7 (RL.o (by simp;rfl) (RL.call0 false (z56 p c) (by simp) (by simp) (RL.o (by simp;rfl) (RL.nil ⟨_,by simp;rfl,?_⟩))))
 refine w7 (RL.o (by simp;rfl) (RL.call0 false (z4i l hn) (by simp) (by simp) (RL.o (by simp;rfl) (RL.nil ⟨_,by simp;rfl,?_⟩))))
 refine WL.sreg (by simp;rfl) (by simp;rfl) ?_
 have hfin:(zbn l p c).1=(goW l (z5d l fl q) (z0r p c) ([],false,false) (z0s l)).2.1:=by
  have h1:=(z4x z6b () h0).2.1
  unfold zbn
  rw[if_pos h0,h1]
  exact (za3 l z6b (z5d l fl q) (z0s l) (z0r p c) () ([],false,false)).2
 have hSok:OkSt (zbn l p c).1:=zqg (by unfold zbn;rw[if_pos h0])
 have hSh:((zbn l p c).1.Handles.length:Int)=c:=by
  rw[hfin]
  simp only[zeh,en,List.length_replicate]
  omega
 have hlate:=zth htm (zbn l p c).1 hSok hSh q
 have eB:(z5u l p c fl q).1=(goW l (z5d l fl q) (z0r p c) ([],false,false) (z0s l)).2.2.1:=by unfold z5u;rw[hw0]
 have eT:(z5u l p c fl q).2=((goW l (z5d l fl q) (z0r p c) ([],false,false) (z0s l)).2.2.2.1 || l.any (z95 (zbn l p c).1 q)):=by unfold z5u;rw[hw0,← hlate]
 rw[eB,eT,hfin] at eO
 have hok:=z1x hnb
 have hws:z0t (z0r p c) q=false:=by
  rw[en]
  simp[z0t,pk,List.getElem?_replicate]
  split<;>rfl
 have hqn:q < (z0r p c).There.length:=by rw[en];simp;omega
 have hhn:((z0r p c).Handles.length:Int)=c:=by rw[en];simp;omega
 clear hlate eB eT hfin hSok hSh hw0 en hfl hop hnb
 generalize z0r p c=s0 at *
 refine WL.seq (WL.sreg (by simp;rfl) (by simp;rfl) ?_)
 refine WL.block (WL.loop (ι:={x:Nat × St × Pst // x.1≤(z0s l).length∧OkSt x.2.1∧q < x.2.1.There.length∧(x.2.1.Handles.length:Int)=c∧x.2.2.2.2=z0t x.2.1 q∧(goW l (z5d l fl q) x.2.1 x.2.2 ((z0s l).drop x.1)).1=0∧(goW l (z5d l fl q) x.2.1 x.2.2 ((z0s l).drop x.1)).2=(goW l (z5d l fl q) s0 ([],false,false) (z0s l)).2}) (fun x=>rpS l q fl bd code x.1.2.1 x.1.2.2.2.1 (fsT code bd x.1.2.2.1) (lsT code bd x.1.2.2.1) x.1.1 []) (fun x=>(z0s l).length - x.1.1) ⟨(0,s0,([],false,false)),r9 _,hok,hqn,hhn,hws.symm,hg0,rfl⟩ (by simp[fsT,lsT]) fun x=>?_)
 obtain⟨⟨j,s,a⟩,hj,hs,hqs,hhs,haw,hg1,hg2⟩:=x
 simp only at hj hs hqs hhs haw hg1 hg2 ⊢
 have hOl:=z3z l
 by_cases hlt:j < (z0s l).length
 ·obtain⟨u,hu,eu⟩:=z6c hlt
  have f1:=z0y (o:=false) (r:=false) hu
  have g1:14≤l.length * 14 - u * 14:=by omega
  have hlt':j+1≤(z0s l).length:=hlt
  have w:IntKind.wrap .i64 ((j:Int)+1)=((j+1:Nat):Int):=by rw[z01 (by omega) (by omega)];omega
  have hE0:=z6d hu (htm u hu)
  have hcl:=z4y hu (htm u hu)
  rw[qx hlt] at hg1 hg2
  simp only[goW,eu,z3s hu] at hg1 hg2
  have hr:(z0d s l[u]).1=true:=by
   cases hv:(z0d s l[u]).1 with
   | true=>rfl
   | false=>rw [hv] at hg1;simp only[py,if_false] at hg1;omega
  rw[hr] at hg1 hg2
  simp only[if_true] at hg1 hg2
  refine WL.seq (WL.sreg (by simp[hlt];rfl) (by simp;rfl) ?_)
  refine WL.cond (t:=true) (by simp[hlt]) (fun _=>WL.skip ?_) (by simp)
  refine WL.seq (WL.block (WL.sreg (by simp[hlt,hlt',eu,hu,f1,g1];rfl) (by simp;rfl) ?_))
  refine WL.eqL (L':=rpS l q fl bd code s a.2.1 (fsT code bd a.1) (lsT code bd a.1) j (bxE 20 l[u])) (by simp) (ztg l q fl bd code (fun h=>hol h) s hs hqs a.2.1 (fsT code bd a.1) (lsT code bd a.1) j l[u] hE0 (hE.d _ (qc hu)) _ ?_)
  rintro L ⟨r,hr',rfl⟩
  have e1:=ymd fl q s hs l[u] hcl.1 (by omega)
  have e2:(a.2.1 || tnQ fl q (z0d s l[u]).2 l[u] (z38 s l[u].Client l[u].op.Handle) (z0t s q))=(z5d l fl q a u (z0d s l[u]).2).2.1:=by
   rw[e1]
   simp only[z5d,y43,z3s hu,haw]
  have e3:=y2g code bd l fl q a u (z0d s l[u]).2
  have e4:=y2h code bd l fl q a u (z0d s l[u]).2
  rw[z3s hu] at e3 e4
  rw[e2,← e3,← e4]
  have hs':=z37 hs l[u]
  have hq':q < (z0d s l[u]).2.There.length:=by rw[z45];exact hqs
  have hh':((z0d s l[u]).2.Handles.length:Int)=c:=by rw[z5a];exact hhs
  have haw':(z5d l fl q a u (z0d s l[u]).2).2.2=z0t (z0d s l[u]).2 q:=rfl
  generalize (z0d s l[u]).2=t at *
  generalize z5d l fl q a u t=a' at *
  have fin:∀ L',L'=rpS l q fl bd code t a'.2.1 (fsT code bd a'.1) (lsT code bd a'.1) (j+1) []→∃ i:{x:Nat × St × Pst // x.1≤(z0s l).length∧OkSt x.2.1∧q < x.2.1.There.length∧(x.2.1.Handles.length:Int)=c∧x.2.2.2.2=z0t x.2.1 q∧(goW l (z5d l fl q) x.2.1 x.2.2 ((z0s l).drop x.1)).1=0∧(goW l (z5d l fl q) x.2.1 x.2.2 ((z0s l).drop x.1)).2=(goW l (z5d l fl q) s0 ([],false,false) (z0s l)).2},L'=rpS l q fl bd code i.1.2.1 i.1.2.2.2.1 (fsT code bd i.1.2.2.1) (lsT code bd i.1.2.2.1) i.1.1 []∧(z0s l).length - i.1.1 < (z0s l).length - j:=fun L' hL' =>
   ⟨⟨(j+1,t,a'),hlt,hs',hq',hh',haw',hg1,hg2⟩,hL',by simp only;omega⟩
  rcases hr' with rfl | rfl
  ·exact WL.reg (RL.run (by simp[w];rfl) ⟨_,by simp;rfl,fin _ (by simp)⟩)
  ·exact WL.reg (RL.run (by simp[w];rfl) ⟨_,by simp;rfl,fin _ (by simp)⟩)
 ·obtain rfl:j=(z0s l).length:=by omega
  rw[tz] at hg2
  simp only[goW] at hg2
  rw[← hg2] at eO
  refine WL.seq (WL.sreg (by simp;rfl) (by simp;rfl) ?_)
  refine WL.cond (t:=false) (by simp) (by simp) fun _=>WL.exit ?_
  have hr:=y2f l hn q code s a.2.1 (fsT code bd a.1) (lsT code bd a.1) ok (by rw[eO])
  refine WL.fin [11,12,15,19,47] (by simp;rfl) (WL.eqL (by simp) hr)
abbrev rwQ (v:Int):Ex→SL→Prop:=fun e L=>e=Ex.ret∧RetOk y41.rs [] (i64 v) L
abbrev rwS (l:List Ev)(p c:Int)(im:List (List UInt8))(i:Nat)(r:SL):SL:=[(0,0,sEv l),(100,0,i64 p),(200,0,i64 c),(300,0,sS false im),(900,0,i64 i)] ++ r
theorem zij (l:List Ev)(hE:EvOk l)(p c:Int)(im:List (List UInt8))(hn:im.length≤9223372036854775807)(hb:∀ b ∈ im,b.length≤1000000):FnC Try.prog 70 [] [sEv l,i64 p,i64 c,sS false im] [] (i64 (z2e l p c im)):=by
 have hc:=zgs l hE p c
 refine wb x27 rfl ?_
 refine WL.mono (Q':=rwQ (z2e l p c im)) ?_ fun e L h=>⟨.inr h.1,h.2⟩
 refine WL.sreg (by simp;rfl) (by simp;rfl) ?_
 refine WL.seq (w7 (RL.o (by simp;rfl) (RL.call0 false hc (by simp) (by simp) ?_)))
 by_cases h0:z6t l p c=0
 ·have z:(z6t l p c != 0)=false:=by simp[h0]
  by_cases hl:(im.length:Int)=p
  ·have zl:((im.length:Int) != p)=false:=by simp[hl]
   have hp48:p≤48:=by
    have hb:=(z4x z6b () h0).1
    simp only[z0u,qm,decide_eq_false_iff_not] at hb
    omega
   have eW:z2e l p c im=match z5r l p c im with | some q=>(q:Int)+1 | none=>0:=by unfold z2e;rw[if_neg (by simp[h0,hl])]<;>cases z5r l p c im<;>rfl
   rw[eW]
   clear eW
   refine RL.o (by simp[z];rfl) (RL.g (by simp[zl];rfl) (RL.o (by simp;rfl) (RL.nil ⟨_,by simp;rfl,?_⟩)))
   refine WL.cond (t:=false) (by simp) (by simp) fun _=>WL.skip ?_
   refine WL.seq (WL.sreg (by simp;rfl) (by simp;rfl) ?_)
   refine WL.block (wd im.length (fun i=>rwS l p c im i []) (fun i=>∀ j,j < i→okP l p c j (im.getD j [])=true) (by simp) (fun j h=>absurd h (rx _)) fun i hi hp=>?_)
   by_cases h:i < im.length
   ·have hip:(i:Int) < p:=by omega
    have h':i+1≤im.length:=h
    have w:IntKind.wrap .i64 ((i:Int)+1)=((i+1:Nat):Int):=by rw[z01 (by omega) (by omega)];omega
    have w2:IntKind.wrap .i64 ((i:Int)+1)=(i:Int)+1:=by rw[z01 (by omega) (by omega)]
    have eg:im.getD i []=im[i]:=by simp[h]
    have hpg:=zlw l hE p c h0 i hip im[i] (hb _ (qc h))
    refine WL.seq (WL.sreg (by simp[hip];rfl) (by simp;rfl) ?_)
    refine WL.cond (t:=true) (by simp[hip]) (fun _=>WL.skip ?_) (by simp)
    refine WL.seq (WL.block (w7 (RL.o (by simp[h,h'];rfl) (RL.call0 false hpg (by simp) (by simp) (RL.o (by simp;rfl) (RL.nil ⟨_,by simp;rfl,?_⟩))))))
    cases ho:okP l p c i im[i] with
    | true =>
     refine WL.cond (t:=false) (by simp[ho]) (by simp) fun _=>WL.skip ?_
     refine WL.reg (RL.run (by simp[w];rfl) ⟨_,by simp;rfl,h,by simp,fun j hj=>?_⟩)
     by_cases e:j=i
     ·subst e;rw[eg];exact ho
     ·exact hp j (by omega)
    | false =>
     have hf:z5r l p c im=some i:=by
      unfold z5r
      rw[List.find?_range_eq_some]
      exact⟨by rw[eg,ho];rfl,qw.2 h,fun j hj=>by rw[hp j hj];rfl⟩
     refine WL.cond (t:=true) (by simp[ho]) (fun _=>?_) (by simp)
     refine WL.sreg (by simp[w2];rfl) (by simp;rfl) (WL.ret ⟨rfl,?_⟩)
     simp[y41,hf]
   ·obtain rfl:i=im.length:=by omega
    have hip:¬ (im.length:Int) < p:=by omega
    have hf:z5r l p c im=none:=by
     unfold z5r
     rw[List.find?_eq_none]
     intro j hj
     rw[hp j (qw.1 hj)];simp
    rw[hf]
    refine WL.seq (WL.sreg (by simp[hip];rfl) (by simp;rfl) ?_)
    refine WL.cond (t:=false) (by simp[hip]) (by simp) fun _=>WL.exit ?_
    refine WL.sreg (by simp;rfl) (by simp;rfl) (WL.ret ⟨rfl,?_⟩)
    simp[y41]
  ·have zl:((im.length:Int) != p)=true:=by simp[hl]
   have eW:z2e l p c im=-1:=by unfold z2e;rw[if_pos (.inr hl)]
   refine RL.o (by simp[z];rfl) (RL.g (by simp[zl];rfl) (RL.o (by simp;rfl) (RL.nil ⟨_,by simp;rfl,?_⟩)))
   refine WL.cond (t:=true) (by simp[hl]) (fun _=>?_) (by simp)
   refine WL.sreg (by simp;rfl) (by simp;rfl) (WL.ret ⟨rfl,?_⟩)
   simp[y41,eW]
 ·have z:(z6t l p c != 0)=true:=by simp[h0]
  have eW:z2e l p c im=-1:=by unfold z2e;rw[if_pos (.inl h0)]
  refine RL.o (by simp[z];rfl) (RL.g (by simp;rfl) (RL.o (by simp;rfl) (RL.nil ⟨_,by simp;rfl,?_⟩)))
  refine WL.cond (t:=true) (by simp) (fun _=>?_) (by simp)
  refine WL.sreg (by simp;rfl) (by simp;rfl) (WL.ret ⟨rfl,?_⟩)
  simp[y41,eW]
theorem zti (im:List (List UInt8))(hl:im.length≤1000):FnC Try.prog 71 [] [sUU false im] [] (sS true im):=by
 refine wb x28 rfl ?_
 refine WL.sreg (by simp;rfl) (by simp;rfl) ?_
 refine WL.sreg (by simp;rfl) (by simp;rfl) ?_
 refine WL.seq (WL.sreg (by simp;rfl) (by simp;rfl) ?_)
 refine WL.block (wd im.length (fun i=>[(0,0,sUU false im),(300,0,sS true (im.take i)),(400,0,i64 i)]) (fun i=>True) (by simp) trivial fun i hi _=>?_)
 by_cases h:i < im.length
 ·have w:IntKind.wrap .i64 ((i:Int)+1)=((i+1:Nat):Int):=by rw[z01 (by omega) (by omega)];omega
  have m1:(i+1) * 16≤140737488355328:=by omega
  have m2:i+1≤maxLen:=by unfold maxLen;omega
  have tl:(im.take i).length=i:=by simp;omega
  have tk:List.take (im[i]).length (im[i].map (fun b=>u8 (b.toNat:Int)))=im[i].map (fun b=>u8 (b.toNat:Int)):=pr (by simp)
  refine WL.seq (WL.sreg (by simp[h];rfl) (by simp;rfl) ?_)
  refine WL.cond (t:=true) (by simp[h]) (fun _=>WL.skip ?_) (by simp)
  refine WL.seq (WL.block ?_)
  refine WL.reg (RL.run (by simp[h,tk,m1,m2,tl];rfl) ⟨_,by simp;rfl,?_⟩)
  refine WL.reg (RL.run (by simp[w];rfl) ⟨_,by simp;rfl,h,?_,trivial⟩)
  have hg:=zb6 (f:=str) h
  simp[hg,tu h]
 ·obtain rfl:i=im.length:=by omega
  refine WL.seq (WL.sreg (by simp;rfl) (by simp;rfl) ?_)
  refine WL.cond (t:=false) (by simp) (by simp) fun _=>WL.exit ?_
  refine w7 (n5 (by decide) (RL.o (by simp;rfl) (RL.nil ⟨_,by simp;rfl,WL.ret ⟨.inr rfl,?_⟩⟩)))
  simp[x0i]
abbrev wvA:Ev:=⟨0,⟨1,0,0,0,0,[]⟩,⟨0,0,0,[]⟩,1,2,3⟩
abbrev wvB:Ev:=⟨0,⟨6,0,0,0,0,[]⟩,⟨0,0,0,[]⟩,4,5,6⟩
abbrev yzg:List UInt8:=[48,49,50,51,52,53,54,55,56,57,97,98,99,100,101,102]
def wz:List UInt8:=(z3w 0 z16).1
def wy:List UInt8:=(z3w 0 yzg).1
def wt:List UInt8:=wz.set 20 9
theorem zqj:z3w 0 z16=(wz,0)∧wz.length=24:=⟨by kernel_rfl,by kernel_rfl⟩
theorem zqk:z3w 0 yzg=(wy,0)∧wy.length=24:=⟨by kernel_rfl,by kernel_rfl⟩
theorem y2i:z2d [wvA,wvB] 1 1 0=5:=by kernel_rfl
theorem y2j:z2d [wvA] 1 1 0=0:=by kernel_rfl
theorem y2k:z2e [wvA,wvB] 1 1 [wz]=0:=by kernel_rfl
theorem y2l:z2e [wvA,wvB] 1 1 [z24]=1:=by kernel_rfl
theorem y2m:z2e [wvA] 1 1 [z24]=0:=by kernel_rfl
theorem y2n:z2e [wvA,wvB] 1 1 [wy]=1:=by kernel_rfl
theorem y2o:z2e [wvA,wvB] 1 1 [wt]=1:=by kernel_rfl
theorem y2p:z2e [wvA] 1 1 [wt]=0:=by kernel_rfl
theorem y2q:z2e [wvB] 1 1 [wz]=-1:=by kernel_rfl
set_option maxRecDepth 20000 in
theorem z6e:FnC Try.prog 66 [] [] [] (bl true):=by
 have hz:=zi7 0 z16 (by decide)
 have hy:=zi7 0 yzg (by simp)
 rw[zqj.1] at hz
 rw[zqk.1] at hy
 have lz:=zqj.2
 have ly:=zqk.2
 have lt:wt.length=24:=by unfold wt;rw[List.length_set];exact lz
 have E2:EvOk [wvA,wvB]:=zif (by simp) (by simp)
 have EA:EvOk [wvA]:=zif (by simp) (by simp)
 have EB:EvOk [wvB]:=zif (by simp) (by simp)
 have h0:=zef _ E2 1 1 0
 have h1:=zef _ EA 1 1 0
 have h2:=z3t _ E2 1 1 [wz] (by simp) (by simp[lz])
 have h3:=z3t _ E2 1 1 [z24] (by simp) (by simp)
 have h4:=z3t _ EA 1 1 [z24] (by simp) (by simp)
 have h5:=z3t _ E2 1 1 [wy] (by simp) (by simp[ly])
 have h6:=z3t _ E2 1 1 [wt] (by simp) (by simp[lt])
 have h7:=z3t _ EA 1 1 [wt] (by simp) (by simp[lt])
 have h8:=z3t _ EB 1 1 [wz] (by simp) (by simp[lz])
 rw[y2i] at h0;rw[y2j] at h1;rw[y2k] at h2;rw[y2l] at h3;rw[y2m] at h4;rw[y2n] at h5;rw[y2o] at h6;rw[y2p] at h7;rw[y2q] at h8
 have eT:wt=wz.set 20 9:=rfl
 refine wb x23 rfl ?_
 refine WL.sreg (by simp;rfl) (by simp;rfl) ?_
 refine WL.sreg (by simp;rfl) (by simp;rfl) (WL.nil1 107 false 1 (by simp) (WL.nil1 111 false 1 (by simp) ?_))
 refine WL.sreg (by simp;rfl) (by simp;rfl) (WL.nil1 207 false 1 (by simp) (WL.nil1 211 false 1 (by simp) ?_))
 have tk16:List.take 16 (z16.map (fun b=>u8 (b.toNat:Int)))=z16.map (fun b=>u8 (b.toNat:Int)):=rfl
 refine w7 (RL.o (by simp[ydu];rfl) (RL.freeze 1500 (RL.call0 false hz (by simp[ydv]) (by simp) (n5 (by decide) (RL.o (by simp;rfl) (RL.nil ⟨_,by simp;rfl,?_⟩))))))
 refine WL.freeze 300 ?_
 refine w7 (RL.o (by simp;rfl) (RL.freeze 2000 (RL.call0 false hy (by simp) (by simp) (n5 (by decide) (RL.o (by simp;rfl) (RL.nil ⟨_,by simp;rfl,?_⟩))))))
 refine WL.freeze 500 ?_
 refine WL.sreg (by simp;rfl) (by simp;rfl) ?_
 refine WL.freeze 700 ?_
 refine w7 (RL.call0 false zjz (by simp) (by simp) (RL.o (by simp;rfl) (RL.nil ⟨_,by simp;rfl,?_⟩)))
 refine WL.freeze 800 ?_
 have m1:wz.length≤140737488355328:=by omega
 have m2:wz.length≤maxLen:=by unfold maxLen;omega
 have hpz:(bm wz).all z1k=true:=by rw[qh];intro x hx;obtain ⟨b,_,rfl⟩:=s7.1 hx;rfl
 have tkz:List.take 24 (bm wz)=bm wz:=pr (by simp[lz])
 obtain⟨b20,hb20⟩:∃ b:UInt8,(bm wz)[20]?=some (u8 b.toNat):=⟨wz[20],by rw[bm,qf,po (by omega)];rfl⟩
 have hb20':∀ hh,(bm wz)[20]'hh=u8 b20.toNat:=fun hh=>by rw[po hh] at hb20;exact Option.some.inj hb20
 refine WL.eqL (L':=[(300,0,sU false wz),(500,0,sU false wy),(700,0,sEv [wvA,wvB]),(800,0,sU false z24)]) (by simp) ?_
 refine WL.sreg (by simp[m1,m2,hpz,lz];rfl) (by simp;rfl) ?_
 refine WL.eqL (L':=[(300,0,sU false wz),(500,0,sU false wy),(700,0,sEv [wvA,wvB]),(800,0,sU false z24),(900,0,.sl true () 1 24 (bm wz))]) (by rw[tkz]) ?_
 have ebt:bm wt=(bm wz).set 20 (u8 9):=by rw[eT,bm,sq];rfl
 refine WL.seq (WL.sreg (by simp;rfl) (by simp;rfl) ?_)
 refine WL.cond (t:=false) (by simp) (by simp) fun _=>WL.skip ?_
 refine WL.sreg (by simp[lz,hb20'];rfl) (by simp;rfl) ?_
 refine WL.eqL (L':=[(300,0,sU false wz),(500,0,sU false wy),(700,0,sEv [wvA,wvB]),(800,0,sU false z24),(900,0,.sl true () 1 24 (bm wt))]) (by rw[ebt]) ?_
 refine WL.freeze 900 ?_
 refine WL.eqL (L':=[(300,0,sU false wz),(500,0,sU false wy),(700,0,sEv [wvA,wvB]),(800,0,sU false z24),(900,0,sU false wt)]) (by simp[lt]) ?_
 clear hz hy eT hpz tkz hb20 hb20' ebt m1 m2 tk16
 generalize wz=z at *
 generalize wy=y at *
 generalize wt=v at *
 refine w7 (RL.o (by simp;rfl) (RL.call0 false h0 (by simp) (by simp) (RL.o (by simp;rfl) ?_)))
 refine RL.g (by simp;rfl) (RL.callY0 false (by simp) h1 (by simp) (by simp) (RL.g (by simp;rfl) (RL.o (by simp;rfl) ?_)))
 refine RL.fin [37,38,39,40,41,42,43,44,45] (by simp;rfl) ?_
 refine RL.g (by simp;rfl) (RL.freeze 4900 (RL.callY0 false (by simp) h2 (by simp) (by simp) (RL.g (by simp;rfl) (RL.o (by simp;rfl) ?_))))
 refine RL.fin [46,47,48,49,50,51,52] (by simp;rfl) ?_
 refine RL.g (by simp;rfl) (RL.freeze 5600 (RL.callY0 false (by simp) h3 (by simp) (by simp) (RL.g (by simp;rfl) (RL.o (by simp;rfl) ?_))))
 refine RL.fin [53,54,55,56,57,58,59] (by simp;rfl) ?_
 refine RL.g (by simp;rfl) (RL.freeze 6400 (RL.callY0 false (by simp) h4 (by simp) (by simp) (RL.g (by simp;rfl) (RL.o (by simp;rfl) ?_))))
 refine RL.fin [60,61,62,63,64,65,66,67] (by simp;rfl) ?_
 refine RL.g (by simp;rfl) (RL.freeze 7100 (RL.callY0 false (by simp) h5 (by simp) (by simp) (RL.g (by simp;rfl) (RL.o (by simp;rfl) ?_))))
 refine RL.fin [68,69,70,71,72,73,74] (by simp;rfl) ?_
 refine RL.g (by simp;rfl) (RL.freeze 7800 (RL.callY0 false (by simp) h6 (by simp) (by simp) (RL.g (by simp;rfl) (RL.o (by simp;rfl) ?_))))
 refine RL.fin [75,76,77,78,79,80,81] (by simp;rfl) ?_
 refine RL.g (by simp;rfl) (RL.freeze 8600 (RL.callY0 false (by simp) h7 (by simp) (by simp) (RL.g (by simp;rfl) (RL.o (by simp;rfl) ?_))))
 refine RL.fin [82,83,84,85,86,87,88,89] (by simp;rfl) ?_
 refine RL.g (by simp;rfl) (RL.freeze 9400 (RL.callY0 false (by simp) h8 (by simp) (by simp) (RL.g (by simp;rfl) (RL.o (by simp;rfl) (RL.nil ⟨_,by simp;rfl,WL.ret ⟨.inr rfl,?_⟩⟩)))))
 simp[x0h]
def zkb (l:List Cl)(i:Nat):Cl:=ze0 (l.getD i ⟨0,⟨0,0,0,0,0,[]⟩⟩) 5 3
def x0n (l:List Cl):Nat→St
 | 0=>z0r 5 3
 | i+1=>(DoB (x0n l i) (zkb l i).Client (zkb l i).op).2.1
theorem zql (l:List Cl):∀ n,OkSt (x0n l n)
 | 0=>z1x (by kernel_rfl)
 | n+1=>(zql l n).doB _ _
theorem zqm (l:List Cl)(i:Nat):0≤(zkb l i).Client∧(zkb l i).Client < 3:=by
 have:=(z5n (l.getD i ⟨0,⟨0,0,0,0,0,[]⟩⟩).Client 3 (by decide) (by decide)).1
 simp only[zkb,ze0]
 exact⟨by omega,by omega⟩
theorem zqn (l:List Cl)(i:Nat):(zkb l i).op.Data.length≤8:=by
 simp only[zkb,ze0,s8];omega
@[simp] theorem yof (l:List Ev):z19 (l.flatMap (z02 false false))=l.flatMap (z02 false false):=by
 induction l with
 | nil=>rfl
 | cons e l ih =>
  rw[sj,z4q,r6,← z4q (l.flatMap _),ih]
  simp
abbrev hEv (l:List Ev):AU:=.sl true () 14 l.length (l.flatMap (z02 false false))
theorem z8h {l:List Ev}{k:Nat}(h:k < l.length):l.flatMap (z02 false false)=(l.take k).flatMap (z02 false false) ++ (z02 false false l[k] ++ (l.drop (k+1)).flatMap (z02 false false)):=by
 conv=>lhs;rw[← List.take_append_drop k l,qx h]
 rw[List.flatMap_append,sj]
theorem z3j {l:List Ev}{k:Nat}(h:k < l.length):((l.take k).flatMap (z02 false false)).length=k * 14:=by
 rw[z2l,s8,tu (by omega)]
theorem z6f {l:List Ev}{k j:Nat}(h:k < l.length)(hj:j < 14):(l.flatMap (z02 false false))[k * 14+j]?=(z02 false false l[k])[j]?:=by
 rw[z8h h,qk (by rw[z3j h];omega),z3j h,show k * 14+j - k * 14=j by omega,qg (by simpa using hj)]
theorem z1c {l:List Ev}{k j:Nat}(h:k < l.length)(hj:j < 14){v:AU}(hv:(z02 false false l[k])[j]?=some v):∀ hh,(l.flatMap (z02 false false))[k * 14+j]'hh=v:=fun hh=>by
 have:=z6f h hj
 rw[po hh,hv] at this
 exact Option.some.inj this
theorem zkc {l:List Ev}{k:Nat}(h:k < l.length)(e':Ev):(l.set k e').flatMap (z02 false false)=(l.take k).flatMap (z02 false false) ++ (z02 false false e' ++ (l.drop (k+1)).flatMap (z02 false false)):=by
 rw[List.set_eq_take_append_cons_drop,if_pos h,List.flatMap_append,sj]
theorem zik {α:Type}(A X:List α)(b j:Nat)(v:α)(hA:A.length=b):(A ++ X).set (b+j) v=A ++ X.set j v:=by
 subst hA;rw[List.set_append_right _ _ (by omega)];congr 2;omega
theorem zkd {l:List Ev}{k j:Nat}(h:k < l.length){v:AU}{e':Ev}(he:∀ B:List AU,(z02 false false l[k] ++ B).set j v=z02 false false e' ++ B):(l.flatMap (z02 false false)).set (k * 14+j) v=(l.set k e').flatMap (z02 false false):=by
 rw[zkc h,z8h h,zik _ _ _ _ _ (z3j h),he]
theorem zei {l:List Ev}{k:Nat}(h:k < l.length)(r:Rs):(((((l.flatMap (z02 false false)).set (k * 14+10) .dead).set (k * 14+7) (i64 r.Code)).set (k * 14+8) (i64 r.Page)).set (k * 14+9) (i64 r.Handle)).set (k * 14+10) (sU false r.Data)=(l.set k { l[k] with res:=r }).flatMap (z02 false false):=by
 rw[zkc h,z8h h]
 simp only[zik _ _ _ _ _ (z3j h)]
 rfl
theorem zqo {l:List Ev}{k:Nat}(h:k < l.length)(j:Nat):((l.flatMap (z02 false false)).set (k * 14+10) .dead).drop (k * 14+j)=((z02 false false l[k]).set 10 .dead ++ (l.drop (k+1)).flatMap (z02 false false)).drop j:=by
 rw[z8h h,zik _ _ _ _ _ (z3j h)]
 have e:((l.take k).flatMap (z02 false false)).length=k * 14:=z3j h
 rw[← e,List.drop_length_add_append]
 rfl
def ztj (s:St)(e:Ev):St:=if e.Stamp=0 then (DoB s e.Client e.op).2.1 else s
def zeo (e:Ev)(now:Int)(en:Bool):Int:=(if e.Stamp=0 then now+1 else now)+(if en=true then 1 else 0)
def zej (s:St)(e:Ev)(now:Int)(en:Bool):Ev :=
 let e1:Ev:=if e.Stamp=0 then { e with Stamp:=now+1,res:=(DoB s e.Client e.op).2.2 } else e
 if en=true then { e1 with End:=zeo e now en } else { e1 with res:=⟨0,0,0,[]⟩ }
abbrev fsB (g:Nat)(s:St)(l:List Ev)(r:SL):SL:=[(100,0,.view 1000300 0 [] 0 l.length)] ++ (r ++ ([(1000000,g,sB true s.There),(1000100,g,sS true s.Body),(1000200,g,sII true s.Handles)] ++ [(1000300,0,hEv l)]))
abbrev fsX (s:St):SL:=[(500,0,.bptr 5 1 0),(501,0,.view 1000000 0 [] 0 s.There.length),(502,0,.view 1000100 0 [] 0 s.Body.length),(503,0,.view 1000200 0 [] 0 s.Handles.length),(599,1,.non)]
abbrev fsQ (s:St)(l:List Ev)(now:Int):Ex→SL→Prop:=fun e L=>e=Ex.ret∧RetOk zum.rs (gsT s ++ [.nod (hEv l)]) (i64 now) L
theorem zlx (g:Nat)(s:St)(l:List Ev)(hn:l.length≤1000)(k:Nat)(hk:k < l.length)(now:Int)(h0:0≤now)(h1:now≤1000000000)(en:Bool) :
  WL Try.prog zum.nt yg5 (fsB g s l [(200,0,i64 k),(300,0,i64 now),(4900,0,bl en)]) (wg (fun L'=>WL Try.prog zum.nt zuk L' (fsQ s (l.set k (if en=true then { l[k] with End:=now+1 } else { l[k] with res:=⟨0,0,0,[]⟩ })) (if en=true then now+1 else now))) (fsQ s (l.set k (if en=true then { l[k] with End:=now+1 } else { l[k] with res:=⟨0,0,0,[]⟩ })) (if en=true then now+1 else now))):=by
 have w:IntKind.wrap .i64 (now+1)=now+1:=by rw[z01 (by omega) (by omega)]
 have hL:=z2l false false l
 have i7:k * 14+7 < l.length * 14:=by omega
 have i8:k * 14+8 < l.length * 14:=by omega
 have i9:k * 14+9 < l.length * 14:=by omega
 have i10:k * 14+10 < l.length * 14:=by omega
 have i13:k * 14+13 < l.length * 14:=by omega
 have q13:=z1c (j:=13) (v:=i64 l[k].End) hk (by decide) rfl
 have q7:=z1c (j:=7) (v:=i64 l[k].res.Code) hk (by decide) rfl
 have q8:=z1c (j:=8) (v:=i64 l[k].res.Page) hk (by decide) rfl
 have q9:=z1c (j:=9) (v:=i64 l[k].res.Handle) hk (by decide) rfl
 have q10:=z1c (j:=10) (v:=sU false l[k].res.Data) hk (by decide) rfl
 cases en with
 | true =>
  have hs:=zkd (l:=l) (k:=k) (j:=13) hk (v:=i64 (now+1)) (e':={ l[k] with End:=now+1 }) (fun B=>rfl)
  refine WL.cond (t:=true) (by simp) (fun _=>?_) (by simp)
  refine WL.sreg (by simp[w];rfl) (by simp;rfl) ?_
  refine WL.reg (RL.run (by simp[hk,q13,hL,i13];rfl) ⟨_,by simp;rfl,?_⟩)
  refine WL.sreg (by simp;rfl) (by simp;rfl) (WL.ret ⟨rfl,?_⟩)
  simp[zum,← hs]
 | false =>
  have hs:=zei (l:=l) (k:=k) hk ⟨0,0,0,[]⟩
  refine WL.cond (t:=false) (by simp) (by simp) fun _=>?_
  refine WL.wipe1 1000300 [k * 14+10] (by simp[hk,q10,hL,i10]) ?_
  refine WL.reg ?_
  refine RL.cut (segs':=.o [.mov 57 (.t 1),.mov 58 (.t 2),.build 59 [(.sc (.int .i64 0)),(.sc (.int .i64 0)),(.sc (.int .i64 0)),(.sc (.slice none 0 0))] []] :: .o [.iaddr 60 14 (.t 57) (.t 58),.faddr 61 7 (.t 60),.st 4 (.t 61) (.t 59)] :: []) rfl ?_
  refine RL.o (by simp;rfl) (RL.nilA 59 3 1 (by simp;rfl) rfl rfl ?_)
  refine RL.o (by simp[hk,q7,q8,q9,hL,i7,i8,i9,i10];rfl) (RL.nil ⟨_,by simp;rfl,?_⟩)
  refine WL.sreg (by simp;rfl) (by simp;rfl) (WL.ret ⟨rfl,?_⟩)
  simp[zum,← hs]
  rfl
theorem zqp (s:St)(hok:OkSt s)(l:List Ev)(hn:l.length≤1000)(k:Nat)(hk:k < l.length)(hD:l[k].op.Data.length≤1000)(now:Int)(h0:0≤now)(h1:now≤1000000000)(en:Bool)(K:Ex→SL→Prop)
  (hK:K .nrm (fsB 1 (DoB s l[k].Client l[k].op).2.1 (l.set k { l[k] with Stamp:=now+1,res:=(DoB s l[k].Client l[k].op).2.2 }) [(200,0,i64 k),(300,0,i64 (now+1)),(400,0,bl en)])) :
  WL Try.prog zum.nt yg4 (fsB 0 s l ([(200,0,i64 k),(300,0,i64 now),(400,0,bl en)] ++ (fsX s ++ [(2500,0,bl true)]))) K:=by
 have w:IntKind.wrap .i64 (now+1)=now+1:=by rw[z01 (by omega) (by omega)]
 have hdo:=z8f s hok l[k].Client l[k].op (by unfold z0c;omega)
 have hL:=z2l false false l
 have i0:k * 14+0 < l.length * 14:=by omega
 have i12:k * 14+12 < l.length * 14:=by omega
 have q12:=z1c (j:=12) (v:=i64 l[k].Stamp) hk (by decide) rfl
 have hs1:=zkd (l:=l) (k:=k) (j:=12) hk (v:=i64 (now+1)) (e':={ l[k] with Stamp:=now+1 }) (fun B=>rfl)
 refine WL.sreg (by simp[w];rfl) (by simp;rfl) ?_
 refine WL.sreg (by simp[hk,q12,hL,i12];rfl) (by simp;rfl) ?_
 rw[hs1]
 have hk1:k < (l.set k { l[k] with Stamp:=now+1 }).length:=by simpa using hk
 have hg1:(l.set k { l[k] with Stamp:=now+1 })[k]={ l[k] with Stamp:=now+1 }:=by simp
 have hL1:(l.set k { l[k] with Stamp:=now+1 }).length=l.length:=by simp
 have hset:∀ r:Rs,(l.set k { l[k] with Stamp:=now+1 }).set k { ({ l[k] with Stamp:=now+1 }:Ev) with res:=r }=l.set k { l[k] with Stamp:=now+1,res:=r }:=fun r=>by simp
 have hs5:=fun r=>zei hk1 r
 have hdr:=fun j=>zqo hk1 j
 have hp:=fun j (h:j < 14)=>z6f (l:=l.set k { l[k] with Stamp:=now+1 }) (j:=j) hk1 h
 have hq:=fun j v (h:j < 14)=>z1c (l:=l.set k { l[k] with Stamp:=now+1 }) (j:=j) (v:=v) hk1 h
 rw[hg1] at hs5 hdr hq hp
 have hL2:=z2l false false (l.set k { l[k] with Stamp:=now+1 })
 rw[hL1] at hL2
 clear hs1 q12 hL
 generalize l[k]=e at *
 obtain⟨ec,eo,er,eb,es,ee⟩:=e
 simp only at hdo hK hset hs5 hdr hq hp hk1 hg1 hL1 hL2 ⊢
 generalize (l.set k ⟨ec,eo,er,eb,now+1,ee⟩)=l1 at *
 have q0:∀ (hh:k * 14 < (l1.flatMap (z02 false false)).length),(l1.flatMap (z02 false false))[k * 14]'hh=i64 ec:=hq 0 (i64 ec) (by decide) rfl
 have q1:∀ (hh:k * 14+1 < (l1.flatMap (z02 false false)).length),(l1.flatMap (z02 false false))[k * 14+1]'hh=i64 eo.Kind:=hq 1 (i64 eo.Kind) (by decide) rfl
 have q2:∀ (hh:k * 14+1+1 < (l1.flatMap (z02 false false)).length),(l1.flatMap (z02 false false))[k * 14+1+1]'hh=i64 eo.Page:=hq 2 (i64 eo.Page) (by decide) rfl
 have q3:∀ (hh:k * 14+1+2 < (l1.flatMap (z02 false false)).length),(l1.flatMap (z02 false false))[k * 14+1+2]'hh=i64 eo.Handle:=hq 3 (i64 eo.Handle) (by decide) rfl
 have q4:∀ (hh:k * 14+1+3 < (l1.flatMap (z02 false false)).length),(l1.flatMap (z02 false false))[k * 14+1+3]'hh=i64 eo.Off:=hq 4 (i64 eo.Off) (by decide) rfl
 have q5:∀ (hh:k * 14+1+4 < (l1.flatMap (z02 false false)).length),(l1.flatMap (z02 false false))[k * 14+1+4]'hh=i64 eo.N:=hq 5 (i64 eo.N) (by decide) rfl
 have q6:∀ (hh:k * 14+1+5 < (l1.flatMap (z02 false false)).length),(l1.flatMap (z02 false false))[k * 14+1+5]'hh=sU false eo.Data:=hq 6 (sU false eo.Data) (by decide) rfl
 have q7:∀ (hh:k * 14+7 < (l1.flatMap (z02 false false)).length),(l1.flatMap (z02 false false))[k * 14+7]'hh=i64 er.Code:=hq 7 (i64 er.Code) (by decide) rfl
 have q8:∀ (hh:k * 14+7+1 < (l1.flatMap (z02 false false)).length),(l1.flatMap (z02 false false))[k * 14+7+1]'hh=i64 er.Page:=hq 8 (i64 er.Page) (by decide) rfl
 have q9:∀ (hh:k * 14+7+2 < (l1.flatMap (z02 false false)).length),(l1.flatMap (z02 false false))[k * 14+7+2]'hh=i64 er.Handle:=hq 9 (i64 er.Handle) (by decide) rfl
 have q10:∀ (hh:k * 14+10 < (l1.flatMap (z02 false false)).length),(l1.flatMap (z02 false false))[k * 14+10]'hh=sU false er.Data:=hq 10 (sU false er.Data) (by decide) rfl
 have p1:(l1.flatMap (z02 false false))[k * 14+1]?=some (i64 eo.Kind):=hp 1 (by decide)
 have p2:(l1.flatMap (z02 false false))[k * 14+1+1]?=some (i64 eo.Page):=hp 2 (by decide)
 have p3:(l1.flatMap (z02 false false))[k * 14+1+2]?=some (i64 eo.Handle):=hp 3 (by decide)
 have p4:(l1.flatMap (z02 false false))[k * 14+1+3]?=some (i64 eo.Off):=hp 4 (by decide)
 have p5:(l1.flatMap (z02 false false))[k * 14+1+4]?=some (i64 eo.N):=hp 5 (by decide)
 have p6:(l1.flatMap (z02 false false))[k * 14+1+5]?=some (sU false eo.Data):=hp 6 (by decide)
 have i7:k * 14+7 < l.length * 14:=by omega
 have i8:k * 14+8 < l.length * 14:=by omega
 have i9:k * 14+9 < l.length * 14:=by omega
 have i10:k * 14+10 < l.length * 14:=by omega
 have b1:k * 14+1≤l.length * 14:=by omega
 have b2:k * 14+1+6≤l.length * 14:=by omega
 refine WL.wipe1 1000300 [k * 14+10] (by simp[q10,hL2,i10]) ?_
 refine WL.draw z0p (by simp[z05,noH]) (DL.o (by simp[hk,q0,q1,q2,q3,q4,q5,q6,p1,p2,p3,p4,p5,p6,hL2,i10,b1,b2];exact⟨rfl,rfl⟩) ?_)
 generalize DoB s ec eo=dd at hdo hK
 obtain⟨o',t,r⟩:=dd
 simp only at hdo hK
 have hs5':=hs5 r
 rw[hset] at hs5'
 refine n9 true [(1000000,[]),(1000100,[]),(1000200,[])] hdo (by simp) (by simp) (by simp[z31]) (zbi s t r) (by simp[z05,noH]) ?_
 refine DL.o (by simp[hk,q7,q8,q9,hL2,i7,i8,i9,i10];exact⟨rfl,rfl⟩) (DL.nil ⟨by kernel_rfl,_,by simp;rfl,?_⟩)
 unfold fsB hEv at hK
 rw[← hs5',List.length_set] at hK
 exact hK
theorem zbp (g:Nat)(s:St)(l:List Ev)(hn:l.length≤1000)(k:Nat)(hk:k < l.length)(now:Int)(h0:0≤now)(h1:now≤1000000000)(en:Bool)(r:SL)(hr:r=[]∨(g=0∧r=fsX s ++ [(2500,0,bl false)])) :
  WL Try.prog zum.nt zul (fsB g s l ([(200,0,i64 k),(300,0,i64 now),(400,0,bl en)] ++ r)) (fsQ s (l.set k (if en=true then { l[k] with End:=now+1 } else { l[k] with res:=⟨0,0,0,[]⟩ })) (if en=true then now+1 else now)):=by
 have:=zlx 0 s l hn k hk now h0 h1 en
 rcases hr with rfl | ⟨rfl,rfl⟩
 ·refine WL.seq (WL.sreg (by simp;rfl) (by simp;rfl) ?_)
  exact this
 ·refine WL.seq (WL.sreg (by simp;rfl) (by simp;rfl) ?_)
  exact this
theorem zgw (s:St)(hok:OkSt s)(l:List Ev)(hn:l.length≤1000)(k:Nat)(hk:k < l.length)(hD:l[k].op.Data.length≤1000)(now:Int)(h0:0≤now)(h1:now≤100000000)(en:Bool) :
  FnC Try.prog 95 (gsT s ++ [.nod (hEv l)]) [vwT s,.view 1000300 0 [] 0 l.length,i64 k,i64 now,bl en] (gsT (ztj s l[k]) ++ [.nod (hEv (l.set k (zej s l[k] now en)))]) (i64 (zeo l[k] now en)):=by
 have hL:=z2l false false l
 have i12:k * 14+12 < l.length * 14:=by omega
 have j12:k * 14+12+1≤l.length * 14:=by omega
 have q12:=z1c (j:=12) (v:=i64 l[k].Stamp) hk (by decide) rfl
 have p1:¬ (k:Int) < 0:=by omega
 have p2:¬ (l.length:Int)≤k:=by omega
 have p2':¬ l.length≤k:=by omega
 refine wb x1x rfl ?_
 refine WL.mono (Q':=fsQ (ztj s l[k]) (l.set k (zej s l[k] now en)) (zeo l[k] now en)) ?_ fun x L h=>⟨.inr h.1,h.2⟩
 refine w7 (n8 (by simp;rfl) (by simp) (by simp[zes]) (by simp) (RL.o (by simp;rfl) (RL.nil ⟨_,by simp;rfl,?_⟩)))
 refine WL.seq (WL.sreg (by simp[p1,p2,p2'];rfl) (by simp;rfl) ?_)
 refine WL.cond (t:=false) (by simp[p2,p2']) (by simp) fun _=>WL.skip ?_
 refine WL.seq ?_
 by_cases z:l[k].Stamp=0
 ·have z':(l[k].Stamp == 0)=true:=by simp[z]
  refine WL.sreg (by simp[hk,q12,hL,i12,j12,z'];rfl) (by simp;rfl) ?_
  refine WL.cond (t:=true) (by simp) (fun _=>?_) (by simp)
  refine zqp s hok l hn k hk hD now h0 (by omega) en _ ?_
  have ht:=zbp 1 (DoB s l[k].Client l[k].op).2.1 (l.set k { l[k] with Stamp:=now+1,res:=(DoB s l[k].Client l[k].op).2.2 }) (by simpa using hn) k (by simpa using hk) (now+1) (by omega) (by omega) en [] (.inl rfl)
  have e1:ztj s l[k]=(DoB s l[k].Client l[k].op).2.1:=by simp[ztj,z]
  have e2:(l.set k { l[k] with Stamp:=now+1,res:=(DoB s l[k].Client l[k].op).2.2 }).set k (if en=true then { (l.set k { l[k] with Stamp:=now+1,res:=(DoB s l[k].Client l[k].op).2.2 })[k]'(by simpa using hk) with End:=now+1+1 } else { (l.set k { l[k] with Stamp:=now+1,res:=(DoB s l[k].Client l[k].op).2.2 })[k]'(by simpa using hk) with res:=⟨0,0,0,[]⟩ })=l.set k (zej s l[k] now en):=by
   cases en<;>simp [zej,zeo,z]
  have e3:(if en=true then now+1+1 else now+1)=zeo l[k] now en:=by cases en<;>simp [zeo,z]
  rw[e2,e3] at ht
  rw[e1]
  simpa using ht
 ·have z':(l[k].Stamp == 0)=false:=beq_false_of_ne z
  refine WL.sreg (by simp[hk,q12,hL,i12,j12,z'];rfl) (by simp;rfl) ?_
  refine WL.cond (t:=false) (by simp) (by simp) fun _=>WL.skip ?_
  have ht:=zbp 0 s l hn k hk now h0 (by omega) en (fsX s ++ [(2500,0,bl false)]) (.inr ⟨rfl,rfl⟩)
  have e1:ztj s l[k]=s:=by simp[ztj,z]
  have e2:(if en=true then { l[k] with End:=now+1 } else { l[k] with res:=⟨0,0,0,[]⟩ })=zej s l[k] now en:=by
   cases en<;>simp [zej,zeo,z]
  have e3:(if en=true then now+1 else now)=zeo l[k] now en:=by cases en<;>simp [zeo,z]
  rw[e2,e3] at ht
  rw[e1]
  exact ht
structure Mk where
 s:St
 out:List Ev
 op:List Int
 now:Int
def mkF (m:Mk)(k:Int)(en:Bool):Mk:=⟨ztj m.s (atE m.out k),m.out.set k.toNat (zej m.s (atE m.out k) m.now en),m.op,zeo (atE m.out k) m.now en⟩
def mkO (m:Mk)(c:Nat)(v:Int):Mk:=⟨m.s,m.out,m.op.set c v,m.now⟩
def zbq (m:Mk)(c:Nat):Mk:=if 0≤m.op.getD c 0 then mkO (mkF m (m.op.getD c 0) true) c (-1) else m
def z4j (m:Mk)(c:Nat)(q:Op):Mk:=⟨m.s,m.out ++ [⟨c,q,⟨0,0,0,[]⟩,m.now+1,0,0⟩],m.op.set c m.out.length,m.now+1⟩
def an1 (w:Int):Int:=IntKind.wrap .i64 (((w % 2 ^ IntKind.i64.bits).toNat &&& 1 % 2 ^ IntKind.i64.bits:Nat):Int)
def an2 (w:Int):Int:=IntKind.wrap .i64 (((w % 2 ^ IntKind.i64.bits).toNat &&& 2 % 2 ^ IntKind.i64.bits:Nat):Int)
def fl1 (w:Int):Bool:=an1 w == 1
def fl2 (w:Int):Bool:=an2 w == 2
def zd5 (m:Mk)(c:Nat)(en:Bool):Mk:=if en=true then mkO (mkF m (m.out.length - 1:Nat) true) c (-1) else mkF m (m.out.length - 1:Nat) false
def z5p (m:Mk)(x:Cl)(w:Int):Mk :=
 if fl1 w=true then zd5 (z4j (zbq m x.Client.toNat) x.Client.toNat x.op) x.Client.toNat (fl2 w) else z4j (zbq m x.Client.toNat) x.Client.toNat x.op
def z5b (l:List Cl)(wt:List Int):Nat→Mk
 | 0=>⟨z0r 5 3,[],[-1,-1,-1],0⟩
 | i+1=>z5p (z5b l wt i) (zkb l i) (wt.getD i 0)
structure MkOk (m:Mk) (i:Nat):Prop where
 s:OkSt m.s
 n:m.out.length=i
 o:m.op.length=3
 r:∀ x ∈ m.op,x=-1∨(0≤x∧x < m.out.length)
 n0:0≤m.now
 n1:m.now≤10 * i
 d:∀ e ∈ m.out,e.op.Data.length≤8
theorem y2r {s:St}(h:OkSt s)(e:Ev):OkSt (ztj s e):=by unfold ztj;split;exact h.doB _ _;exact h
theorem y2s (s:St)(e:Ev)(now:Int)(en:Bool):(zej s e now en).op=e.op:=by
 unfold zej;cases en<;>by_cases z:e.Stamp=0<;>simp [z]
theorem zil (e:Ev)(now:Int)(en:Bool):now≤zeo e now en∧zeo e now en≤now+2:=by
 unfold zeo;split<;>split<;>omega
structure MkK (m:Mk) (n:Nat) (t:Int):Prop where
 s:OkSt m.s
 n:m.out.length=n
 o:m.op.length=3
 r:∀ x ∈ m.op,x=-1∨(0≤x∧x < m.out.length)
 n0:0≤m.now
 n1:m.now≤t
 d:∀ e ∈ m.out,e.op.Data.length≤8
theorem MkK.f {m:Mk}{n:Nat}{t:Int}(h:MkK m n t){k:Nat}(hk:k < n)(en:Bool):MkK (mkF m (k:Int) en) n (t+2):=by
 have hk':k < m.out.length:=by rw[h.n];exact hk
 have ha:atE m.out (k:Int)=m.out[k]:=z3s hk'
 have hN:=zil (atE m.out (k:Int)) m.now en
 refine⟨y2r h.s _,by simp[mkF,h.n],h.o,fun x hx=>?_,?_,?_,fun e he=>?_⟩
 ·have:=h.r x hx
  simpa [mkF] using this
 ·have:=h.n0;simp only[mkF];omega
 ·have:=h.n1;simp only[mkF];omega
 ·simp only[mkF] at he
  rcases si he with he | rfl
  ·exact h.d e he
  ·rw[y2s,ha];exact h.d _ (qc hk')
theorem MkK.set {m:Mk}{n:Nat}{t:Int}(h:MkK m n t)(c:Nat){v:Int}(hv:v=-1∨(0≤v∧v < n)):MkK (mkO m c v) n t:=by
 refine⟨h.s,h.n,by simp[mkO,h.o],fun x hx=>?_,h.n0,h.n1,h.d⟩
 simp only[mkO] at hx
 rcases si hx with hx | rfl
 ·exact h.r x hx
 ·rw[show (mkO m c x).out.length=n from h.n];exact hv
theorem MkK.mono {m:Mk}{n:Nat}{t u:Int}(h:MkK m n t)(hu:t≤u):MkK m n u:=⟨h.s,h.n,h.o,h.r,h.n0,by have:=h.n1;omega,h.d⟩
theorem MkK.add {m:Mk}{n:Nat}{t:Int}(h:MkK m n t)(c:Nat)(q:Op)(hq:q.Data.length≤8):MkK (z4j m c q) (n+1) (t+1):=by
 refine⟨h.s,by simp[z4j,h.n],by simp[z4j,h.o],fun x hx=>?_,by have:=h.n0;simp only[z4j];omega,by have:=h.n1;simp only[z4j];omega,fun e he=>?_⟩
 ·simp only[z4j] at hx ⊢
  rw[qy]
  rcases si hx with hx | rfl
  ·have:=h.r x hx;simp;omega
  ·right;simp;omega
 ·simp only[z4j,qj,rj] at he
  rcases he with he | rfl
  ·exact h.d e he
  ·exact hq
theorem MkK.op {m:Mk}{n:Nat}{t:Int}(h:MkK m n t){c:Nat}(hc:c < 3)(h0:0≤m.op.getD c 0):∃ k:Nat,k < n∧m.op.getD c 0=(k:Int):=by
 have hc':c < m.op.length:=by rw[h.o];exact hc
 have e:m.op.getD c 0=m.op[c]:=by simp[hc']
 rw[e] at h0 ⊢
 have:=h.r _ (qc hc')
 rw[h.n] at this
 obtain⟨k,hk⟩:=pu h0
 exact⟨k,by omega,hk⟩
theorem MkK.fin {m:Mk}{n:Nat}{t:Int}(h:MkK m n t){c:Nat}(hc:c < 3):MkK (zbq m c) n (t+2):=by
 unfold zbq
 split
 ·rename_i h0
  obtain⟨k,hk,e⟩:=h.op hc h0
  rw[e]
  exact (h.f hk true).set c (.inl rfl)
 ·exact h.mono (by omega)
abbrev rcO (b:Nat)(s:St):SL:=[(100 * b,0,.bptr b 1 0),(100 * b+1,0,sB true s.There),(100 * b+2,0,sS true s.Body),(100 * b+3,0,sII true s.Handles),(100 * b+99,1,.non)]
abbrev mkT (l:List Cl)(wt:List Int)(m:Mk)(i:Nat)(r:SL):SL:=[(0,0,sCl l),(100,0,sI false wt)] ++ (rcO 5 m.s ++ ([(600,0,hEv m.out),(700,0,sI true m.op),(800,0,i64 m.now),(900,0,i64 i)] ++ r))
abbrev zm5 (c:Cl):SL:=[(1000,0,.bptr 10 1 0),(1001,0,i64 c.Client),(1002,0,i64 c.op.Kind),(1003,0,i64 c.op.Page),(1004,0,i64 c.op.Handle),(1005,0,i64 c.op.Off),(1006,0,i64 c.op.N),(1007,0,sU false c.op.Data),(1099,1,.non)]
theorem ymf (l:List Cl)(wt:List Int)(m:Mk)(i:Nat)(hi:i≤100)(h:MkK m i (10 * i))(x:Cl)(c:Nat)(hc:c < 3)(ex:x.Client=c)(w:Int)(K:Ex→SL→Prop)
  (hK:∀ L,L=mkT l wt (zbq m c) i (zm5 x ++ [(1100,0,i64 w)])→WL Try.prog zsn.nt zop L K) :
  WL Try.prog zsn.nt zoq (mkT l wt m i (zm5 x ++ [(1100,0,i64 w)])) K:=by
 have hn:=h.n
 have ho:=h.o
 have hc':c < m.op.length:=by omega
 have e0:m.op.getD c 0=m.op[c]:=by simp[hc']
 have c1:c+1≤3:=hc
 have cI:(c:Int) < 3:=by omega
 refine WL.seq (WL.sreg (by simp[ex,ho,hc,hc',c1,cI];rfl) (by simp;rfl) ?_)
 by_cases p:0≤m.op[c]
 ·obtain⟨k,hk,ek⟩:=h.op hc (by rw[e0];exact p)
  have ek':m.op[c]=(k:Int):=by rw[← e0];exact ek
  have hk':k < m.out.length:=by omega
  have hf:=zgw m.s h.s m.out (by omega) k hk' (by have:=h.d _ (qc hk');omega) m.now h.n0 (by have:=h.n1;omega) true
  have eM:zbq m c=mkO (mkF m (k:Int) true) c (-1):=by unfold zbq;rw[e0,ek',if_pos (by omega)]
  have eA:atE m.out (k:Int)=m.out[k]:=z3s hk'
  refine WL.sreg (by simp[p];rfl) (by simp;rfl) ?_
  refine WL.cond (t:=true) (by simp[p]) (fun _=>?_) (by simp)
  rw[ek']
  refine w7 (RL.o (by simp;rfl) (RL.call false [(501,[]),(502,[]),(503,[]),(600,[])] hf (by simp) (by simp) (by simp[z31]) (by simp) ?_))
  refine RL.o (by simp;rfl) (RL.nil ⟨_,by simp;rfl,?_⟩)
  refine WL.reg (RL.run (by simp[ex,ho,hc,hc',c1,cI];rfl) ⟨_,by simp;rfl,hK _ ?_⟩)
  rw[eM]
  simp[mkO,mkF,eA,ho,ex]
 ·have eM:zbq m c=m:=by unfold zbq;rw[e0,if_neg p]
  refine WL.sreg (by simp[p];rfl) (by simp;rfl) ?_
  refine WL.cond (t:=false) (by simp[p]) (by simp) fun _=>WL.skip ?_
  rw[eM] at hK
  refine WL.fin [12,40] (by simp;rfl) (hK _ ?_)
  simp[ex,ho]
theorem ymg (l:List Cl)(wt:List Int)(m:Mk)(i:Nat)(hi:i≤100)(h:MkK m i (10 * i+2))(x:Cl)(c:Nat)(hc:c < 3)(ex:x.Client=c)(w:Int)(K:Ex→SL→Prop)
  (hK:∀ L,L=mkT l wt (z4j m c x.op) i (zm5 x ++ [(1100,0,i64 w)])→WL Try.prog zsn.nt zoo L K) :
  WL Try.prog zsn.nt zop (mkT l wt m i (zm5 x ++ [(1100,0,i64 w)])) K:=by
 have hn:=h.n
 have ho:=h.o
 have hc':c < m.op.length:=by omega
 have c1:c+1≤3:=hc
 have cI:(c:Int) < 3:=by omega
 have w1:IntKind.wrap .i64 (m.now+1)=m.now+1:=by rw[z01 (by have:=h.n0;omega) (by have:=h.n1;omega)]
 have m1:(m.out.length+1) * 144≤140737488355328:=by omega
 have m2:m.out.length+1≤maxLen:=by unfold maxLen;omega
 have w2:IntKind.wrap .i64 ((m.out.length:Int)+1 - 1)=(m.out.length:Int):=by rw[z01 (by omega) (by omega)];omega
 have w3:IntKind.wrap .i64 (m.out.length:Int)=(m.out.length:Int):=by rw[z01 (by omega) (by omega)]
 have tk:List.take (m.out.length * 14) (m.out.flatMap (z02 false false))=m.out.flatMap (z02 false false):=pr (by rw[z2l];exact qa _)
 refine WL.sreg (by simp[w1];rfl) (by simp;rfl) ?_
 refine w7 ?_
 refine RL.cut (segs':=.o [.mov 52 (.t 6),.faddr 53 0 (.t 10),.ld 54 1 false (.t 53),.faddr 55 1 (.t 10),.ld 56 6 true (.t 55),.mov 57 (.t 8),.build 58 [(.sc (.int .i64 0)),(.sc (.int .i64 0)),(.sc (.int .i64 0)),(.sc (.int .i64 0)),(.sc (.int .i64 0)),(.sc (.int .i64 0)),(.sc (.slice none 0 0)),(.sc (.int .i64 0)),(.sc (.int .i64 0)),(.sc (.int .i64 0)),(.sc (.slice none 0 0)),(.sc (.int .i64 0)),(.sc (.int .i64 0)),(.sc (.int .i64 0))] [(0,1,(.t 54)),(1,6,(.t 56)),(11,1,(.t 57))]] :: .o [.bs1 59 14 (.t 58),.app 60 14 144 (.t 52) (.t 59),.asg 6 (.t 60)] :: []) rfl ?_
 refine RL.o (by simp;rfl) (RL.nilA 58 10 1 (by simp;rfl) rfl rfl ?_)
 refine RL.o (by simp[m1,m2];rfl) (RL.nil ⟨_,by simp;rfl,?_⟩)
 refine WL.sreg (by simp[ex,ho,hc,hc',c1,cI,w2,w3];rfl) (by simp;rfl) (hK _ ?_)
 have tk2:List.take ((m.out.length+1) * 14) (m.out.flatMap (z02 false false) ++ z02 false false ⟨c,x.op,⟨0,0,0,[]⟩,m.now+1,0,0⟩)=m.out.flatMap (z02 false false) ++ z02 false false ⟨c,x.op,⟨0,0,0,[]⟩,m.now+1,0,0⟩:=pr (by rw[qy,z2l];simp;omega)
 simp[z4j,ho,ex,tk,List.flatMap_append]
 exact tk2
theorem y2t (l:List Cl)(wt:List Int)(m:Mk)(i:Nat)(hi:i≤100)(h:MkK m (i+1) (10 * i+3))(x:Cl)(c:Nat)(hc:c < 3)(ex:x.Client=c)(w:Int)(K:Ex→SL→Prop)
  (hK:∀ L,(∃ r,L=mkT l wt (if fl1 w=true then zd5 m c (fl2 w) else m) i r∧(r=zm5 x ++ [(1100,0,i64 w),(7000,0,bl false)]∨r=zm5 x ++ [(8300,0,bl false)]∨r=[]))→K .nrm L) :
  WL Try.prog zsn.nt zoo (mkT l wt m i (zm5 x ++ [(1100,0,i64 w)])) K:=by
 have hn:=h.n
 have ho:=h.o
 have hc':c < m.op.length:=by omega
 have c1:c+1≤3:=hc
 have cI:(c:Int) < 3:=by omega
 have hk':i < m.out.length:=by omega
 have wl:IntKind.wrap .i64 ((m.out.length:Int) - 1)=(i:Int):=by rw[z01 (by omega) (by omega)];omega
 have eA:atE m.out (i:Int)=m.out[i]:=z3s hk'
 have el:m.out.length - 1=i:=by omega
 have hf:=fun en=>zgw m.s h.s m.out (by omega) i hk' (by have:=h.d _ (qc hk');omega) m.now h.n0 (by have:=h.n1;omega) en
 cases q1:fl1 w with
 | false =>
  have v1:¬ an1 w=1:=beq_eq_false_iff_ne.1 q1
  refine WL.sreg (by simp;rfl) (by simp;rfl) ?_
  refine WL.cond (t:=false) (by simp;exact v1) (by simp) fun _=>WL.skip ?_
  refine hK _ ⟨_,?_,.inl rfl⟩
  rw[q1]
  simp[ex,ho]
  exact v1
 | true =>
  have v1:an1 w=1:=beq_iff_eq.1 q1
  refine WL.sreg (by simp;rfl) (by simp;rfl) ?_
  refine WL.cond (t:=true) (by simp;exact v1) (fun _=>?_) (by simp)
  have hf':=hf (fl2 w)
  refine w7 (RL.o (by simp[wl];rfl) ?_)
  refine RL.call false [(501,[]),(502,[]),(503,[]),(600,[])] hf' (by simp) (by simp) (by simp[z31];rfl) (by simp) ?_
  refine RL.o (by simp;rfl) (RL.nil ⟨_,by simp;rfl,?_⟩)
  cases q2:fl2 w with
  | false =>
   have v2:¬ an2 w=2:=beq_eq_false_iff_ne.1 q2
   refine WL.sreg (by simp;rfl) (by simp;rfl) ?_
   refine WL.cond (t:=false) (by simp;exact v2) (by simp) fun _=>WL.skip ?_
   refine hK _ ⟨_,?_,.inr (.inl rfl)⟩
   rw[q1,q2]
   simp[zd5,mkF,ex,ho,el,eA]
   exact v2
  | true =>
   have v2:an2 w=2:=beq_iff_eq.1 q2
   refine WL.sreg (by simp;rfl) (by simp;rfl) ?_
   refine WL.cond (t:=true) (by simp;exact v2) (fun _=>?_) (by simp)
   refine WL.reg (RL.run (by simp[ex,ho,hc,hc',c1,cI];rfl) ⟨_,by simp;rfl,?_⟩)
   refine hK _ ⟨_,?_,.inr (.inr rfl)⟩
   rw[q1,q2]
   simp[zd5,mkF,mkO,ex,ho,el,eA]
theorem zqq {m:Mk}{n:Nat}{t:Int}(h:MkK m (n+1) t)(c:Nat)(en:Bool):MkK (zd5 m c en) (n+1) (t+2):=by
 have e:((m.out.length - 1:Nat):Int)=((n:Nat):Int):=by rw[h.n];rfl
 unfold zd5
 rw[e]
 split
 ·exact (h.f (Nat.lt_succ_self n) true).set c (.inl rfl)
 ·exact h.f (Nat.lt_succ_self n) false
theorem zd6 {m:Mk}{i:Nat}(h:MkK m i (10 * (i:Int)))(x:Cl)(w:Int){c:Nat}(hc:c < 3)(ec:x.Client.toNat=c)(hd:x.op.Data.length≤8):MkK (z5p m x w) (i+1) (10 * ((i+1:Nat):Int)):=by
 unfold z5p
 rw[ec]
 have h2:=(h.fin hc).add c x.op hd
 split
 ·exact (zqq h2 c _).mono (by omega)
 ·exact h2.mono (by omega)
theorem zgx (l:List Cl)(wt:List Int):MkK (z5b l wt 0) 0 (10 * ((0:Nat):Int)) :=
 ⟨zql l 0,rfl,rfl,fun x hx=>by left;simpa [z5b] using hx,Int.le_refl _,Int.le_refl _,fun e he=>by simp[z5b] at he⟩
theorem y2u (l:List Cl)(hl:l.length≤50)(hD:∀ x ∈ l,x.op.Data.length≤1000)(wt:List Int):FnC Try.prog 39 [] [sCl l,sI false wt] [] (hEv (z5b l wt l.length).out):=by
 refine wb x1o rfl ?_
 refine WL.sreg (by simp;rfl) (by simp;rfl) ?_
 refine w7 (RL.call0 false (z56 5 3) (by simp) (by simp) (RL.o (by simp;rfl) (RL.nil ⟨_,by simp;rfl,?_⟩)))
 refine WL.sreg (by simp;rfl) (by simp;rfl) ?_
 refine WL.sreg (by simp;rfl) (by simp;rfl) ?_
 refine WL.sreg (by simp;rfl) (by simp;rfl) ?_
 refine WL.seq (WL.sreg (by simp;rfl) (by simp;rfl) ?_)
 refine WL.block (wd l.length (fun i=>mkT l wt (z5b l wt i) i []) (fun i=>MkK (z5b l wt i) i (10 * i)) (by simp[z5b]) (zgx l wt) fun i hi hm=>?_)
 by_cases h:i < l.length
 ·have w:IntKind.wrap .i64 ((i:Int)+1)=((i+1:Nat):Int):=by rw[z01 (by omega) (by omega)];omega
  have f1:=zpe h
  have g1:7≤l.length * 7 - i * 7:=by omega
  have hnear:=zy3 l[i] 5 3 (by decide) (by decide) (by decide) (by decide) (hD _ (qc h))
  have eC:ze0 l[i] 5 3=zkb l i:=by simp[zkb,h]
  rw[eC] at hnear
  have hcl:=zqm l i
  have hdl:=zqn l i
  have eR:z5b l wt (i+1)=z5p (z5b l wt i) (zkb l i) (wt.getD i 0):=rfl
  rw[eR]
  generalize z5b l wt i=m at hm ⊢
  generalize zkb l i=x at hnear hcl hdl ⊢
  obtain⟨c,ex⟩:=pu hcl.1
  have hc:c < 3:=by omega
  have ec:x.Client.toNat=c:=by omega
  have h1:=hm.fin hc
  have h2:=h1.add c x.op hdl
  have rest:∀ (wv:Int),wv=wt.getD i 0→∀ Q,(∀ L,(∃ r,L=mkT l wt (z5p m x (wt.getD i 0)) i r∧(r=zm5 x ++ [(1100,0,i64 wv),(7000,0,bl false)]∨r=zm5 x ++ [(8300,0,bl false)]∨r=[]))→Q Ex.nrm L)→WL Try.prog zsn.nt zoq (mkT l wt m i (zm5 x ++ [(1100,0,i64 wv)])) Q:=by
   intro wv ew Q hQ
   refine ymf l wt m i (by omega) hm x c hc ex wv Q fun L eL=>?_
   subst eL
   refine ymg l wt (zbq m c) i (by omega) h1 x c hc ex wv Q fun L eL=>?_
   subst eL
   refine y2t l wt (z4j (zbq m c) c x.op) i (by omega) (h2.mono (by omega)) x c hc ex wv Q fun L ⟨r,eL,hr⟩=>?_
   refine hQ L ⟨r,?_,hr⟩
   rw[eL]
   simp only[z5p,ec,ew]
  refine WL.seq (WL.sreg (by simp[h];rfl) (by simp;rfl) ?_)
  refine WL.cond (t:=true) (by simp[h]) (fun _=>WL.skip ?_) (by simp)
  refine WL.seq (WL.block (w7 (RL.o (by simp[h,f1,g1];rfl) (RL.call0 false hnear (by simp) (by simp) (RL.o (by simp;rfl) (RL.nil ⟨_,by simp;rfl,?_⟩))))))
  refine WL.sreg (by simp;rfl) (by simp;rfl) ?_
  have hK:=zd6 hm x (wt.getD i 0) hc ec hdl
  have done:∀ L,(∃ r,L=mkT l wt (z5p m x (wt.getD i 0)) i r∧∃ wv:Int,(r=zm5 x ++ [(1100,0,i64 wv),(7000,0,bl false)]∨r=zm5 x ++ [(8300,0,bl false)]∨r=[]))→∀ Q,(∀ L',(i < l.length∧L'=mkT l wt (z5p m x (wt.getD i 0)) (i+1) []∧MkK (z5p m x (wt.getD i 0)) (i+1) (10 * ((i+1:Nat):Int)))→Q Ex.nrm L')→WL Try.prog zsn.nt zui L Q:=by
   rintro L ⟨r,rfl,wv,hr⟩ Q hQ
   rcases hr with rfl | rfl | rfl
   ·exact WL.reg (RL.run (by simp[w];rfl) ⟨_,by simp;rfl,hQ _ ⟨h,by simp,hK⟩⟩)
   ·exact WL.reg (RL.run (by simp[w];rfl) ⟨_,by simp;rfl,hQ _ ⟨h,by simp,hK⟩⟩)
   ·exact WL.reg (RL.run (by simp[w];rfl) ⟨_,by simp;rfl,hQ _ ⟨h,by simp,hK⟩⟩)
  by_cases hw:i < wt.length
  ·have ew:wt[i]=wt.getD i 0:=by simp[hw]
   refine WL.seq (WL.sreg (by simp[hw];rfl) (by simp;rfl) ?_)
   refine WL.cond (t:=true) (by simp[hw]) (fun _=>?_) (by simp)
   refine WL.reg (RL.run (by simp[hw];rfl) ⟨_,by simp;rfl,?_⟩)
   exact rest wt[i] ew _ fun L ⟨r,eL,hr⟩=>done L ⟨r,eL,_,hr⟩ _ fun L' h'=>h'
  ·have ew:(0:Int)=wt.getD i 0:=by simp[hw]
   refine WL.seq (WL.sreg (by simp[hw];rfl) (by simp;rfl) ?_)
   refine WL.cond (t:=false) (by simp[hw]) (by simp) fun _=>WL.skip ?_
   refine WL.fin [29] (by simp;rfl) ?_
   exact rest 0 ew _ fun L ⟨r,eL,hr⟩=>done L ⟨r,eL,_,hr⟩ _ fun L' h'=>h'
 ·obtain rfl:i=l.length:=by omega
  refine WL.seq (WL.sreg (by simp;rfl) (by simp;rfl) ?_)
  refine WL.cond (t:=false) (by simp) (by simp) fun _=>WL.exit ?_
  refine w7 (n5 (by decide) (RL.o (by simp;rfl) (RL.nil ⟨_,by simp;rfl,WL.ret ⟨.inr rfl,?_⟩⟩)))
  simp[zsn]
  have tk:List.take ((z5b l wt l.length).out.length * 14) (List.flatMap (z02 false false) (z5b l wt l.length).out)=List.flatMap (z02 false false) (z5b l wt l.length).out:=pr (by rw[z2l];exact qa _)
  rw[tk,tk]
def zc6 (s:St)(out:List Ev)(o:Int):List Ev :=
 if 0 < (atE out o).End then out.set o.toNat { atE out o with res:=(DoB s (atE out o).Client (atE out o).op).2.2 } else out
def ztk:List Int→St→List Ev→St × List Ev
 | [],s,out=>(s,out)
 | o :: r,s,out=>ztk r (DoB s (atE out o).Client (atE out o).op).2.1 (zc6 s out o)
def zly (l:List Ev):List Ev:=(ztk (z0s l) (z0r 5 3) l).2
theorem zqr (s:St)(out:List Ev)(o:Int):(zc6 s out o).length=out.length:=by unfold zc6;split<;>simp
theorem ztl (s:St)(out:List Ev)(o:Int):∀ e ∈ zc6 s out o,∃ e' ∈ out,e.op=e'.op∨e.op.Data=[]:=by
 intro e he
 unfold zc6 at he
 split at he
 ·rcases si he with he | rfl
  ·exact⟨e,he,.inl rfl⟩
  ·by_cases h:o.toNat < out.length
   ·exact⟨out[o.toNat],qc h,.inl (by simp[atE,h])⟩
   ·rw[List.set_eq_of_length_le (by omega)] at he
    exact⟨_,he,.inl rfl⟩
 ·exact⟨e,he,.inl rfl⟩
theorem y2v (l:List Ev):(l.flatMap (z02 false false)).all z1k=true:=by
 rw[qh]
 intro c hc
 obtain⟨e,he,hc⟩:=List.mem_flatMap.1 hc
 have h:(z02 false false e).all z1k=true:=rfl
 exact qh.1 h c hc
@[simp] theorem y2w (L:SL) (d:Nat) (zs:List AU):z65 L (.alloc d zs)=true:=rfl
abbrev rsT (out:List Ev)(s:St)(o:List Int)(j:Nat)(r:SL):SL:=[(300,0,hEv out)] ++ (rcO 4 s ++ ([(500,0,sI true o),(600,0,i64 j)] ++ r))
theorem zlz (l:List Ev)(hn:l.length≤1000)(hD:∀ e ∈ l,e.op.Data.length≤1000):FnC Try.prog 40 [] [sEv l] [] (hEv (zly l)):=by
 have hL:=z2l false false l
 have hp:=y2v l
 have m1:l.length * 144≤140737488355328:=by omega
 have m2:l.length≤maxLen:=by unfold maxLen;omega
 have hO:=z3z l
 have tk:List.take (l.length * 14) (l.flatMap (z02 false false))=l.flatMap (z02 false false):=pr (by rw[z2l];exact qa _)
 refine wb x1p rfl ?_
 refine WL.sreg (by simp;rfl) (by simp;rfl) ?_
 refine WL.sreg (by simp[hL,hp,m1,m2];rfl) (by simp;rfl) ?_
 refine w7 (RL.call0 false (z56 5 3) (by simp) (by simp) (RL.o (by simp;rfl) (RL.nil ⟨_,by simp;rfl,?_⟩)))
 refine w7 (RL.o (by simp;rfl) (RL.call0 true (z4i l hn) (by simp[tk]) (by simp[y3z]) (RL.o (by simp;rfl) (RL.nil ⟨_,by simp;rfl,?_⟩))))
 have s0:=z1x (p:=5) (c:=3) (by kernel_rfl)
 have hR:zly l=(ztk (z0s l) (z0r 5 3) l).2:=rfl
 generalize z0r 5 3=st0 at s0 hR ⊢
 refine WL.seq (WL.sreg (by simp;rfl) (by simp;rfl) ?_)
 refine WL.block (WL.loop (ι:={x:Nat × St × List Ev // x.1≤(z0s l).length∧OkSt x.2.1∧x.2.2.length=l.length∧(∀ e ∈ x.2.2,e.op.Data.length≤1000)∧ztk ((z0s l).drop x.1) x.2.1 x.2.2=ztk (z0s l) st0 l}) (fun x=>rsT x.1.2.2 x.1.2.1 (z0s l) x.1.1 []) (fun x=>(z0s l).length - x.1.1) ⟨(0,st0,l),r9 _,s0,rfl,hD,rfl⟩ (by simp[tk]) fun x=>?_)
 obtain⟨⟨j,s,out⟩,hj,hs,hlen,hDo,hg⟩:=x
 simp only at hj hs hlen hDo hg ⊢
 by_cases hlt:j < (z0s l).length
 ·obtain⟨u,hu,eu⟩:=z6c hlt
  have hlt':j+1≤(z0s l).length:=hlt
  have hu':u < out.length:=by omega
  have w:IntKind.wrap .i64 ((j:Int)+1)=((j+1:Nat):Int):=by rw[z01 (by omega) (by omega)];omega
  have hdo:=z8f s hs out[u].Client out[u].op (by have:=hDo _ (qc hu');unfold z0c;omega)
  have hL2:=z2l false false out
  have hsd:=hs.doB out[u].Client out[u].op
  rw[qx hlt] at hg
  simp only[ztk,eu,z3s hu'] at hg
  have hlen2:=zqr s out (u:Int)
  have hop2:=ztl s out (u:Int)
  have hro:zc6 s out (u:Int)=if 0 < out[u].End then out.set u { out[u] with res:=(DoB s out[u].Client out[u].op).2.2 } else out:=by simp only[zc6,z3s hu',ta]
  have hs5:=fun r=>zei hu' r
  have q0:∀ (hh:u * 14 < (out.flatMap (z02 false false)).length),(out.flatMap (z02 false false))[u * 14]'hh=i64 out[u].Client:=z1c (j:=0) (v:=i64 out[u].Client) hu' (by decide) rfl
  have q1:∀ (hh:u * 14+1 < (out.flatMap (z02 false false)).length),(out.flatMap (z02 false false))[u * 14+1]'hh=i64 out[u].op.Kind:=z1c (j:=1) (v:=i64 out[u].op.Kind) hu' (by decide) rfl
  have p1:(out.flatMap (z02 false false))[u * 14+1]?=some (i64 out[u].op.Kind):=z6f (j:=1) hu' (by decide)
  have q2:∀ (hh:u * 14+1+1 < (out.flatMap (z02 false false)).length),(out.flatMap (z02 false false))[u * 14+1+1]'hh=i64 out[u].op.Page:=z1c (j:=2) (v:=i64 out[u].op.Page) hu' (by decide) rfl
  have p2:(out.flatMap (z02 false false))[u * 14+1+1]?=some (i64 out[u].op.Page):=z6f (j:=2) hu' (by decide)
  have q3:∀ (hh:u * 14+1+2 < (out.flatMap (z02 false false)).length),(out.flatMap (z02 false false))[u * 14+1+2]'hh=i64 out[u].op.Handle:=z1c (j:=3) (v:=i64 out[u].op.Handle) hu' (by decide) rfl
  have p3:(out.flatMap (z02 false false))[u * 14+1+2]?=some (i64 out[u].op.Handle):=z6f (j:=3) hu' (by decide)
  have q4:∀ (hh:u * 14+1+3 < (out.flatMap (z02 false false)).length),(out.flatMap (z02 false false))[u * 14+1+3]'hh=i64 out[u].op.Off:=z1c (j:=4) (v:=i64 out[u].op.Off) hu' (by decide) rfl
  have p4:(out.flatMap (z02 false false))[u * 14+1+3]?=some (i64 out[u].op.Off):=z6f (j:=4) hu' (by decide)
  have q5:∀ (hh:u * 14+1+4 < (out.flatMap (z02 false false)).length),(out.flatMap (z02 false false))[u * 14+1+4]'hh=i64 out[u].op.N:=z1c (j:=5) (v:=i64 out[u].op.N) hu' (by decide) rfl
  have p5:(out.flatMap (z02 false false))[u * 14+1+4]?=some (i64 out[u].op.N):=z6f (j:=5) hu' (by decide)
  have q6:∀ (hh:u * 14+1+5 < (out.flatMap (z02 false false)).length),(out.flatMap (z02 false false))[u * 14+1+5]'hh=sU false out[u].op.Data:=z1c (j:=6) (v:=sU false out[u].op.Data) hu' (by decide) rfl
  have p6:(out.flatMap (z02 false false))[u * 14+1+5]?=some (sU false out[u].op.Data):=z6f (j:=6) hu' (by decide)
  have q13:∀ (hh:u * 14+13 < (out.flatMap (z02 false false)).length),(out.flatMap (z02 false false))[u * 14+13]'hh=i64 out[u].End:=z1c (j:=13) (v:=i64 out[u].End) hu' (by decide) rfl
  have q7:∀ (hh:u * 14+7 < (out.flatMap (z02 false false)).length),(out.flatMap (z02 false false))[u * 14+7]'hh=i64 out[u].res.Code:=z1c (j:=7) (v:=i64 out[u].res.Code) hu' (by decide) rfl
  have q8:∀ (hh:u * 14+7+1 < (out.flatMap (z02 false false)).length),(out.flatMap (z02 false false))[u * 14+7+1]'hh=i64 out[u].res.Page:=z1c (j:=8) (v:=i64 out[u].res.Page) hu' (by decide) rfl
  have q9:∀ (hh:u * 14+7+2 < (out.flatMap (z02 false false)).length),(out.flatMap (z02 false false))[u * 14+7+2]'hh=i64 out[u].res.Handle:=z1c (j:=9) (v:=i64 out[u].res.Handle) hu' (by decide) rfl
  have q10:∀ (hh:u * 14+10 < (out.flatMap (z02 false false)).length),(out.flatMap (z02 false false))[u * 14+10]'hh=sU false out[u].res.Data:=z1c (j:=10) (v:=sU false out[u].res.Data) hu' (by decide) rfl
  have i7:u * 14+7 < out.length * 14:=by omega
  have i8:u * 14+8 < out.length * 14:=by omega
  have i9:u * 14+9 < out.length * 14:=by omega
  have i10:u * 14+10 < out.length * 14:=by omega
  have b1:u * 14+1≤out.length * 14:=by omega
  have b2:u * 14+1+6≤out.length * 14:=by omega
  refine WL.seq (WL.sreg (by simp[hlt];rfl) (by simp;rfl) ?_)
  refine WL.cond (t:=true) (by simp[hlt]) (fun _=>WL.skip ?_) (by simp)
  refine WL.seq (WL.block (WL.seq ?_))
  refine WL.draw z0p (by simp[z05,noH]) (DL.o (by simp[hlt,hlt',eu,hu',q0,q1,q2,q3,q4,q5,q6,p1,p2,p3,p4,p5,p6,hL2,b1,b2];exact⟨rfl,rfl⟩) ?_)
  generalize DoB s out[u].Client out[u].op=dd at hdo hsd hg hro
  obtain⟨o',t,r⟩:=dd
  simp only at hdo hsd hg hro
  refine n9 true [(401,[]),(402,[]),(403,[])] hdo (by simp) (by simp) (by simp[z31]) (zbi s t r) (by simp[z05,noH]) ?_
  refine DL.o (by simp;exact⟨rfl,rfl⟩) (DL.nil ⟨by kernel_rfl,_,by simp;rfl,?_⟩)
  have b13:u * 14+13 < out.length * 14:=by omega
  have b14:u * 14+13+1≤out.length * 14:=by omega
  by_cases hE:0 < out[u].End
  ·refine WL.sreg (by simp[hlt,hlt',eu,hu',q13,hL2,b13,b14,hE];rfl) (by simp;rfl) ?_
   refine WL.cond (t:=true) (by simp[hE]) (fun _=>?_) (by simp)
   refine WL.wipe1 300 [u * 14+10] (by simp[q10,hL2,i10]) ?_
   refine WL.draw z0p (by simp[z05,noH]) (DL.o (by simp[hlt,hlt',eu,hu',q7,q8,q9,q10,hL2,i7,i8,i9,i10];exact⟨rfl,rfl⟩) (DL.nil ⟨by kernel_rfl,_,by simp;rfl,?_⟩))
   rw[if_pos hE] at hro
   have h5:=hs5 r
   rw[← hro] at h5
   refine WL.reg (RL.run (by simp[w];rfl) ⟨_,by simp;rfl,?_⟩)
   refine⟨⟨(j+1,t,zc6 s out u),hlt,hsd,by rw[hlen2,hlen],fun e he=>?_,hg⟩,?_,by simp only;omega⟩
   ·obtain⟨e',he',h6⟩:=hop2 e he
    rcases h6 with h6 | h6
    ·rw[h6];exact hDo e' he'
    ·rw[h6];simp
   ·simp[← h5,hlen2]
  ·refine WL.sreg (by simp[hlt,hlt',eu,hu',q13,hL2,b13,b14,hE];rfl) (by simp;rfl) ?_
   refine WL.cond (t:=false) (by simp[hE]) (by simp) fun _=>WL.skip ?_
   rw[if_neg hE] at hro
   rw[hro] at hg
   refine WL.reg (RL.run (by simp[w];rfl) ⟨_,by simp;rfl,?_⟩)
   exact⟨⟨(j+1,t,out),hlt,hsd,hlen,hDo,hg⟩,by simp,by simp only;omega⟩
 ·obtain rfl:j=(z0s l).length:=by omega
  rw[tz] at hg
  simp only[ztk] at hg
  rw[hR,← hg]
  refine WL.seq (WL.sreg (by simp;rfl) (by simp;rfl) ?_)
  refine WL.cond (t:=false) (by simp) (by simp) fun _=>WL.exit ?_
  have tk2:List.take (out.length * 14) (out.flatMap (z02 false false))=out.flatMap (z02 false false):=pr (by rw[z2l];exact qa _)
  refine w7 (n5 (by decide) (RL.o (by simp;rfl) (RL.nil ⟨_,by simp;rfl,WL.ret ⟨.inr rfl,?_⟩⟩)))
  simp[x0a,tk2]
structure Tm (l:List Ev) (now:Int):Prop where
 c:∀ (i:Nat) (e:Ev),l[i]?=some e→0≤e.Client∧e.Client < 3
 b:∀ (i:Nat) (e:Ev),l[i]?=some e→1≤e.Begin∧e.Begin≤now
 s:∀ (i:Nat) (e:Ev),l[i]?=some e→e.Stamp=0∨(e.Begin < e.Stamp∧e.Stamp≤now)
 e:∀ (i:Nat) (e:Ev),l[i]?=some e→e.End=0∨(e.Begin < e.Stamp∧e.Stamp < e.End∧e.End≤now)
 inc:∀ (i j:Nat) (e f:Ev),l[i]?=some e→l[j]?=some f→i < j→e.Begin < f.Begin
 al:∀ (i j:Nat) (e f:Ev),l[i]?=some e→l[j]?=some f→i < j→e.Client=f.Client→1≤e.End∧e.End < f.Begin
structure MkI (m:Mk):Prop where
 t:Tm m.out m.now
 n0:0≤m.now
 o:m.op.length=3
 oc:∀ c k:Nat,c < 3→m.op.getD c 0=(k:Int)→∃ e,m.out[k]?=some e∧e.Client=c∧e.End=0
 on:∀ c i:Nat,c < 3→∀ e,m.out[i]?=some e→e.Client=c→e.End=0→m.op.getD c 0=(i:Int)
theorem z8i {l:List Int}{c d:Nat}{v:Int}(hc:c < l.length):(l.set c v).getD d 0=if d=c then v else l.getD d 0:=by
 rw[pk,tv,pk]
 by_cases h:c=d
 ·subst h;simp[hc]
 ·have h':¬ d=c:=fun x=>h x.symm
  simp[h,h']
theorem zqs (s:St)(e:Ev)(now:Int)(en:Bool):(zej s e now en).Client=e.Client∧(zej s e now en).Begin=e.Begin∧(zej s e now en).Stamp=(if e.Stamp=0 then now+1 else e.Stamp)∧(zej s e now en).End=(if en=true then zeo e now en else e.End):=by
 unfold zej;cases en<;>by_cases z:e.Stamp=0<;>simp [z]
theorem Tm.fin {s:St}{l:List Ev}{now:Int}(h:Tm l now){k:Nat}{e:Ev}(hk:l[k]?=some e)(h0:e.End=0)(en:Bool):Tm (l.set k (zej s e now en)) (zeo e now en):=by
 have hl:k < l.length:=by
  rcases b9 k l.length with h | h
  ·exact h
  ·rw[qq h] at hk;cases hk
 have hN:=zil e now en
 obtain⟨q1,q2,q3,q4⟩:=zqs s e now en
 have hg:∀ (i:Nat) (x:Ev),(l.set k (zej s e now en))[i]?=some x→(i=k∧x=zej s e now en)∨(i ≠ k∧l[i]?=some x):=fun i x hx=>by
  rw[tv] at hx
  by_cases z:k=i
  ·subst z;simp[hl] at hx;exact .inl ⟨rfl,hx.symm⟩
  ·simp[z] at hx;exact .inr ⟨fun y=>z y.symm,hx⟩
 generalize zej s e now en=e' at q1 q2 q3 q4 hg ⊢
 have hc:=h.c k e hk
 have hb:=h.b k e hk
 have hs:=h.s k e hk
 refine⟨fun i x hx=>?_,fun i x hx=>?_,fun i x hx=>?_,fun i x hx=>?_,fun i j x y hx hy hij=>?_,fun i j x y hx hy hij hcl=>?_⟩
 ·rcases hg i x hx with ⟨rfl,rfl⟩ | ⟨_,hx1⟩
  ·rw[q1];exact hc
  ·exact h.c i x hx1
 ·rcases hg i x hx with ⟨rfl,rfl⟩ | ⟨_,hx1⟩
  ·rw[q2];omega
  ·have:=h.b i x hx1;omega
 ·rcases hg i x hx with ⟨rfl,rfl⟩ | ⟨_,hx1⟩
  ·rw[q2,q3]
   right
   unfold zeo
   by_cases z:e.Stamp=0
   ·simp only[z,if_true];cases en<;>simp<;>omega
   ·simp only[z,if_false];cases en<;>simp<;>omega
  ·have:=h.s i x hx1;omega
 ·rcases hg i x hx with ⟨rfl,rfl⟩ | ⟨_,hx1⟩
  ·cases en with
   | false=>left;rw[q4];simpa using h0
   | true =>
    right
    rw[q2,q3,q4]
    unfold zeo
    by_cases z:e.Stamp=0
    ·simp only[z,if_true];omega
    ·simp only[z,if_false,if_true];omega
  ·have:=h.e i x hx1;omega
 ·rcases hg i x hx with ⟨rfl,rfl⟩ | ⟨_,hx1⟩
  ·rcases hg j y hy with ⟨rfl,rfl⟩ | ⟨_,hy1⟩
   ·omega
   ·rw[q2];exact h.inc _ j e y hk hy1 hij
  ·rcases hg j y hy with ⟨rfl,rfl⟩ | ⟨_,hy1⟩
   ·rw[q2];exact h.inc i _ x e hx1 hk hij
   ·exact h.inc i j x y hx1 hy1 hij
 ·rcases hg i x hx with ⟨rfl,rfl⟩ | ⟨_,hx1⟩
  ·rcases hg j y hy with ⟨rfl,rfl⟩ | ⟨_,hy1⟩
   ·omega
   ·have:=h.al _ j e y hk hy1 hij (by rw[← hcl,q1]);omega
  ·rcases hg j y hy with ⟨rfl,rfl⟩ | ⟨_,hy1⟩
   ·rw[q2];exact h.al i _ x e hx1 hk hij (by rw[hcl,q1])
   ·exact h.al i j x y hx1 hy1 hij hcl
theorem zqt {α:Type}{l:List α}{k:Nat}{e:α}(hk:l[k]?=some e):k < l.length:=by
 rcases b9 k l.length with h | h
 ·exact h
 ·rw[qq h] at hk;cases hk
theorem y2x {l:List Ev}{k:Nat}{e:Ev}(hk:l[k]?=some e):atE l (k:Int)=e:=by simp[atE,hk]
theorem y2y {l:List Ev}{k i:Nat}{v x:Ev}(hl:k < l.length)(hx:(l.set k v)[i]?=some x):(i=k∧x=v)∨(i ≠ k∧l[i]?=some x):=by
 rw[tv] at hx
 by_cases z:k=i
 ·subst z;simp[hl] at hx;exact .inl ⟨rfl,hx.symm⟩
 ·simp[z] at hx;exact .inr ⟨fun y=>z y.symm,hx⟩
theorem MkI.done {m:Mk}(h:MkI m){c k:Nat}(hc:c < 3)(ho:m.op.getD c 0=(k:Int)):MkI (mkO (mkF m (k:Int) true) c (-1)):=by
 obtain⟨e,hk,ec,h0⟩:=h.oc c k hc ho
 have hl:=zqt hk
 have ea:=y2x hk
 have hN:=zil e m.now true
 obtain⟨q1,q2,q3,q4⟩:=zqs m.s e m.now true
 have hn:=h.n0
 have hop:c < m.op.length:=by rw[h.o];exact hc
 have hEnd:(zej m.s e m.now true).End ≠ 0:=by
  rw[q4];simp only[if_true]
  unfold zeo
  by_cases z:e.Stamp=0
  ·simp only[z,if_true];omega
  ·simp only[z,if_false,if_true];omega
 refine⟨?_,?_,by simp[mkO,mkF,h.o],fun c' k' hc' ho'=>?_,fun c' i hc' x hx hcl hx0=>?_⟩
 ·simp only[mkO,mkF,ea,ta];exact h.t.fin hk h0 true
 ·simp only[mkO,mkF,ea];omega
 ·simp only[mkO,mkF] at ho' ⊢
  rw[z8i hop] at ho'
  by_cases z:c'=c
  ·simp only[z,if_true] at ho';omega
  ·simp only[z,if_false] at ho'
   obtain⟨x,hx,hxc,hx0⟩:=h.oc c' k' hc' ho'
   have hne:k ≠ k':=fun y=>by
    subst y
    rw[hk] at hx;cases hx
    omega
   exact⟨x,by simp only[ea,ta,tv];simp[hne,hx],hxc,hx0⟩
 ·simp only[mkO,mkF,ea,ta] at hx ⊢
  rw[z8i hop]
  rcases y2y hl hx with ⟨rfl,rfl⟩ | ⟨hne,hx⟩
  ·exact absurd hx0 hEnd
  ·have:=h.on c' i hc' x hx hcl hx0
   by_cases z:c'=c
   ·subst z;rw[ho] at this;omega
   ·simp only[z,if_false];exact this
theorem MkI.add {m:Mk}(h:MkI m){c:Nat}(hc:c < 3)(hop0:m.op.getD c 0 < 0)(q:Op):MkI (z4j m c q)∧(z4j m c q).op.getD c 0=(m.out.length:Int):=by
 have hop:c < m.op.length:=by rw[h.o];exact hc
 have hn:=h.n0
 have hg:∀ (i:Nat) (x:Ev),(m.out ++ [⟨c,q,⟨0,0,0,[]⟩,m.now+1,0,0⟩])[i]?=some x→(i=m.out.length∧x=⟨c,q,⟨0,0,0,[]⟩,m.now+1,0,0⟩)∨(i < m.out.length∧m.out[i]?=some x):=fun i x hx=>by
  rcases b9 i m.out.length with hi | hi
  ·rw[qg hi] at hx;exact .inr ⟨hi,hx⟩
  ·rw[qk hi] at hx
   have hz:=zqt hx
   simp at hz
   have e:i=m.out.length:=by omega
   subst e
   simp at hx
   exact .inl ⟨rfl,hx.symm⟩
 have hend:∀ (i:Nat) (x:Ev),m.out[i]?=some x→x.Client=c→1≤x.End∧x.End≤m.now:=fun i x hx hxc=>by
  have:=h.t.e i x hx
  have hs:=h.t.b i x hx
  by_cases z:x.End=0
  ·have:=h.on c i hc x hx hxc z;omega
  ·omega
 refine⟨⟨⟨fun i x hx=>?_,fun i x hx=>?_,fun i x hx=>?_,fun i x hx=>?_,fun i j x y hx hy hij=>?_,fun i j x y hx hy hij hcl=>?_⟩,by simp only[z4j];omega,by simp[z4j,h.o],fun c' k' hc' ho'=>?_,fun c' i hc' x hx hcl hx0=>?_⟩,by simp only[z4j];rw[z8i hop];simp⟩
 ·rcases hg i x hx with ⟨rfl,rfl⟩ | ⟨_,hx1⟩
  ·simp only;omega
  ·exact h.t.c i x hx1
 ·rcases hg i x hx with ⟨rfl,rfl⟩ | ⟨_,hx1⟩
  ·simp only[z4j];omega
  ·have:=h.t.b i x hx1;simp only[z4j];omega
 ·rcases hg i x hx with ⟨rfl,rfl⟩ | ⟨_,hx1⟩
  ·exact .inl rfl
  ·have:=h.t.s i x hx1;simp only[z4j];omega
 ·rcases hg i x hx with ⟨rfl,rfl⟩ | ⟨_,hx1⟩
  ·exact .inl rfl
  ·have:=h.t.e i x hx1;simp only[z4j];omega
 ·rcases hg i x hx with ⟨rfl,rfl⟩ | ⟨hi,hx1⟩
  ·rcases hg j y hy with ⟨rfl,rfl⟩ | ⟨_,hy1⟩<;>omega
  ·rcases hg j y hy with ⟨rfl,rfl⟩ | ⟨_,hy1⟩
   ·have:=h.t.b i x hx1;simp only;omega
   ·exact h.t.inc i j x y hx1 hy1 hij
 ·rcases hg i x hx with ⟨rfl,rfl⟩ | ⟨hi,hx1⟩
  ·rcases hg j y hy with ⟨rfl,rfl⟩ | ⟨_,hy1⟩<;>omega
  ·rcases hg j y hy with ⟨rfl,rfl⟩ | ⟨_,hy1⟩
   ·have:=hend i x hx1 hcl;simp only;omega
   ·exact h.t.al i j x y hx1 hy1 hij hcl
 ·simp only[z4j] at ho' ⊢
  rw[z8i hop] at ho'
  by_cases z:c'=c
  ·simp only[z,if_true] at ho'
   have e:k'=m.out.length:=by omega
   subst e
   exact⟨⟨c,q,⟨0,0,0,[]⟩,m.now+1,0,0⟩,by simp,by simp[z],rfl⟩
  ·simp only[z,if_false] at ho'
   obtain⟨x,hx,hxc,hx0⟩:=h.oc c' k' hc' ho'
   exact⟨x,by rw[qg (zqt hx)];exact hx,hxc,hx0⟩
 ·simp only[z4j] at hx ⊢
  rw[z8i hop]
  rcases hg i x hx with ⟨rfl,rfl⟩ | ⟨hi,hx1⟩
  ·have e:c'=c:=by simp only at hcl;omega
   simp[e]
  ·by_cases z:c'=c
   ·subst z;have:=hend i x hx1 hcl;omega
   ·simp only[z,if_false];exact h.on c' i hc' x hx1 hcl hx0
def sk (e:Ev):Ev:={ e with res:=⟨0,0,0,[]⟩ }
theorem ztm (s:St)(out:List Ev)(o:Int):(zc6 s out o).map sk=out.map sk:=by
 unfold zc6
 split
 ·rw[sq]
  by_cases h:o.toNat < out.length
  ·have e:sk { atE out o with res:=(DoB s (atE out o).Client (atE out o).op).2.2 }=(out.map sk)[o.toNat]'(by simpa using h):=by simp[sk,atE,h]
   rw[e,List.set_getElem_self]
  ·rw[List.set_eq_of_length_le (by simpa using h)]
 ·rfl
theorem zqu:∀ (o:List Int) (s:St) (out:List Ev),(ztk o s out).2.map sk=out.map sk
 | [],s,out=>rfl
 | x :: r,s,out=>by simp only[ztk];rw[zqu r,ztm]
theorem zke (l:List Ev):(zly l).map sk=l.map sk:=zqu _ _ _
theorem z8j {l l':List Ev}(h:l.map sk=l'.map sk){i:Nat}{e:Ev}(he:l[i]?=some e):∃ e',l'[i]?=some e'∧sk e'=sk e:=by
 have:(l.map sk)[i]?=(l'.map sk)[i]?:=by rw[h]
 rw[qf,qf,he] at this
 cases hh:l'[i]? with
 | none=>rw [hh] at this;cases this
 | some e'=>rw [hh] at this;exact⟨e',rfl,(Option.some.inj this).symm⟩
theorem ztn {e e':Ev}(h:sk e'=sk e):e'.Client=e.Client∧e'.op=e.op∧e'.Begin=e.Begin∧e'.Stamp=e.Stamp∧e'.End=e.End:=by
 have h1:=congrArg Ev.Client h;have h2:=congrArg Ev.op h;have h3:=congrArg Ev.Begin h;have h4:=congrArg Ev.Stamp h;have h5:=congrArg Ev.End h
 exact⟨h1,h2,h3,h4,h5⟩
theorem Tm.sk {l l':List Ev}{now:Int}(h:Tm l now)(e:l'.map sk=l.map sk):Tm l' now:=by
 refine⟨fun i x hx=>?_,fun i x hx=>?_,fun i x hx=>?_,fun i x hx=>?_,fun i j x y hx hy hij=>?_,fun i j x y hx hy hij hcl=>?_⟩
 ·obtain⟨x',hx',s⟩:=z8j e hx
  obtain⟨f1,f2,f3,f4,f5⟩:=ztn s
  have:=h.c i x' hx';omega
 ·obtain⟨x',hx',s⟩:=z8j e hx
  obtain⟨f1,f2,f3,f4,f5⟩:=ztn s
  have:=h.b i x' hx';omega
 ·obtain⟨x',hx',s⟩:=z8j e hx
  obtain⟨f1,f2,f3,f4,f5⟩:=ztn s
  have:=h.s i x' hx';omega
 ·obtain⟨x',hx',s⟩:=z8j e hx
  obtain⟨f1,f2,f3,f4,f5⟩:=ztn s
  have:=h.e i x' hx';omega
 ·obtain⟨x',hx',s⟩:=z8j e hx
  obtain⟨f1,f2,f3,f4,f5⟩:=ztn s
  obtain⟨y',hy',t⟩:=z8j e hy
  obtain⟨g1,g2,g3,g4,g5⟩:=ztn t
  have:=h.inc i j x' y' hx' hy' hij;omega
 ·obtain⟨x',hx',s⟩:=z8j e hx
  obtain⟨f1,f2,f3,f4,f5⟩:=ztn s
  obtain⟨y',hy',t⟩:=z8j e hy
  obtain⟨g1,g2,g3,g4,g5⟩:=ztn t
  have:=h.al i j x' y' hx' hy' hij (by omega);omega
theorem zqv (l:List Ev):(zly l).length=l.length:=by simpa using congrArg List.length (zke l)
@[simp] theorem yzh (l:List Ev):List.take (l.length * 14) (l.flatMap (z02 false false))=l.flatMap (z02 false false):=pr (by rw[z2l];exact qa _)
theorem zek (l:List Cl)(wt:List Int):∀ i:Nat,MkK (z5b l wt i) i (10 * (i:Int))
 | 0=>zgx l wt
 | i+1=>zd6 (zek l wt i) (zkb l i) (wt.getD i 0) (c:=(zkb l i).Client.toNat) (by have:=zqm l i;omega) rfl (zqn l i)
def zim (l:List Cl)(wt:List Int):List Ev:=zly (z5b l wt l.length).out
theorem zto (l:List Cl)(wt:List Int):(zim l wt).length=l.length:=by
 unfold zim;rw[zqv,(zek l wt l.length).n]
theorem zqw {l:List Cl}(wt:List Int):∀ e ∈ (z5b l wt l.length).out,e.op.Data.length≤1000:=fun e he=>by
 have:=(zek l wt l.length).d e he;omega
theorem ymh (l:List Cl)(wt:List Int):∀ e ∈ zim l wt,e.op.Data.length≤1000:=fun e he=>by
 obtain⟨k,hk,rfl⟩:=List.mem_iff_getElem.1 he
 obtain⟨e',he',s⟩:=z8j (zke (z5b l wt l.length).out) (po hk)
 have h1:=(ztn s).2.1
 have h2:=zqw wt e' (List.mem_iff_getElem?.2 ⟨k,he'⟩)
 rw[h1] at h2
 exact h2
theorem y2z (l:List Cl)(wt:List Int)(hl:l.length≤1000):EvOk (zim l wt):=⟨by rw[zto];exact hl,ymh l wt⟩
theorem y30 (l:List Cl)(hl:l.length≤50)(hD:∀ x ∈ l,x.op.Data.length≤1000)(wt:List Int):FnC Try.prog 41 [] [sCl l,sI false wt] [] (hEv (zim l wt)):=by
 have hm:=y2u l hl hD wt
 have hr:=zlz (z5b l wt l.length).out (by rw[(zek l wt l.length).n];omega) (zqw wt)
 have eg:zim l wt=zly (z5b l wt l.length).out:=rfl
 rw[← eg] at hr
 refine wb x1q rfl ?_
 refine WL.sreg (by simp;rfl) (by simp;rfl) ?_
 refine w7 (RL.o (by simp;rfl) (RL.call0 false hm (by simp) (by simp) (RL.freeze 700 ?_)))
 refine RL.call0 false hr (by simp) (by simp) (RL.o (by simp;rfl) (RL.nil ⟨_,by simp;rfl,WL.ret ⟨.inr rfl,?_⟩⟩))
 simp[x0b]
def zel (l:List Ev):List Int→St→St
 | [],s=>s
 | o :: r,s=>zel l r (DoB s (atE l o).Client (atE l o).op).2.1
def um8 (x:Int):Nat:=(IntKind.wrap .i64 ((IntKind.wrap .u64 ((IntKind.wrap .u64 x).tdiv 64)).tmod 8)).toNat
theorem zkf (x:Int):um8 x < 8∧IntKind.wrap .i64 ((IntKind.wrap .u64 ((IntKind.wrap .u64 x).tdiv 64)).tmod 8)=(um8 x:Int):=by
 have h0:0≤IntKind.wrap .u64 ((IntKind.wrap .u64 x).tdiv 64):=by
  generalize (IntKind.wrap .u64 x).tdiv 64=y
  show 0≤y % 18446744073709551616;omega
 have h1:=Int.tmod_nonneg 8 h0
 have h2:=Int.tmod_lt_of_pos (IntKind.wrap .u64 ((IntKind.wrap .u64 x).tdiv 64)) (show (0:Int) < 8 by decide)
 unfold um8
 rw[z01 (by omega) (by omega)]
 omega
def imK (l:List Ev)(at_:List Int)(p:Nat):Nat:=if p < at_.length then um (at_.getD p 0) (l.length+1:Nat) else l.length
def imH (at_:List Int)(p:Nat):Nat:=if p < at_.length then um8 (at_.getD p 0) else 0
def imS (l:List Ev)(at_:List Int)(p:Nat):St:=zel l ((z0s l).take (imK l at_ p)) (z0r 5 3)
def zin (b:UInt8):UInt8:=b ^^^ 1
theorem y31 (b:UInt8):IntKind.wrap .u8 ((b.toNat % 2 ^ IntKind.u8.bits ^^^ 1 % 2 ^ IntKind.u8.bits:Nat):Int)=((zin b).toNat:Int):=by
 have h:b.toNat < 256:=b.toNat_lt
 have e:(zin b).toNat=b.toNat ^^^ 1:=by simp[zin]
 have h1:b.toNat ^^^ 1 < 2 ^ 8:=Nat.xor_lt_two_pow (n:=8) (by omega) (by decide)
 have e1:b.toNat % 2 ^ IntKind.u8.bits=b.toNat:=Nat.mod_eq_of_lt h
 have e2:1 % 2 ^ IntKind.u8.bits=1:=rfl
 rw[e,e1,e2]
 show (((b.toNat ^^^ 1:Nat):Int)) % 256=_
 omega
def imB (l:List Ev)(at_:List Int)(p:Nat):List UInt8 :=
 let b:=if imH at_ p=7∨(z0t (imS l at_ p) p=false∧imH at_ p < 6) then z24 else zbt p ((imS l at_ p).Body.getD p [])
 if imH at_ p=6 then b.set 23 (zin (b.getD 23 0)) else b
def imL (l:List Ev)(at_:List Int)(i:Nat):List (List UInt8):=(List.range i).map (imB l at_)
theorem ztp (l:List Ev)(at_:List Int)(i:Nat):imL l at_ (i+1)=imL l at_ i ++ [imB l at_ i]:=by simp[imL,List.range_succ]
theorem zqx (l:List Ev)(at_:List Int)(i:Nat):(imL l at_ i).length=i:=by simp[imL]
theorem zkg (l:List Ev):∀ (o:List Int) (s:St),OkSt s→OkSt (zel l o s)∧(zel l o s).There.length=s.There.length
 | [],s,h=>⟨h,rfl⟩
 | o :: r,s,h=>by
  have h1:=zkg l r _ (h.doB (atE l o).Client (atE l o).op)
  exact⟨h1.1,h1.2.trans (zk6 _ _ _)⟩
theorem zvg (l:List Ev)(at_:List Int)(p:Nat):OkSt (imS l at_ p)∧(imS l at_ p).There.length=5 :=
 zkg l _ _ (z1x (p:=5) (c:=3) (by kernel_rfl))
theorem y32 (l:List Ev)(at_:List Int)(p:Nat)(hp:p < 5):(imB l at_ p).length=24:=by
 have h:=zvg l at_ p
 have hb:p < (imS l at_ p).Body.length:=by rw[h.1.bn];omega
 have h16:((imS l at_ p).Body.getD p []).length=16:=by
  rw[pk,po hb]
  exact h.1.b16 _ (qc hb)
 have hz:z24.length=24:=rfl
 unfold imB
 generalize (imS l at_ p).Body.getD p []=bd at *
 simp only
 split<;>split<;>simp [zeb,h16,hz]
theorem ymi (l:List Ev)(at_:List Int)(p:Nat)(hl:l.length≤1000):imK l at_ p≤l.length:=by
 have h1:=(z5n (at_.getD p 0) (l.length+1) (by omega) (by omega)).1
 unfold imK;split<;>omega
theorem ymj (at_:List Int)(p:Nat):imH at_ p≤7:=by
 have:=(zkf (at_.getD p 0)).1
 unfold imH;split<;>omega
abbrev imT (l:List Ev)(at_:List Int)(im:List (List UInt8))(p:Nat)(r:SL):SL:=[(0,0,sEv l),(100,0,sI false at_),(500,0,sUU true im),(600,0,i64 p)] ++ r
abbrev imN (l:List Ev)(at_:List Int)(p:Nat):SL→Prop:=fun L'=>p < 5∧L'=imT l at_ (imL l at_ (p+1)) (p+1) []∧True
abbrev imQ (l:List Ev)(at_:List Int):Ex→SL→Prop:=fun e L=>(e=Ex.nrm∨e=Ex.ret)∧RetOk zi5.rs [] (sUU true (imL l at_ 5)) L
abbrev imE (l:List Ev)(at_:List Int)(p:Nat):Ex→SL→Prop:=wm 0 (wg (fun L'=>WL Try.prog zi5.nt zv3 L' (imQ l at_)) (imQ l at_))
abbrev imP (l:List Ev)(at_:List Int)(p:Nat):Ex→SL→Prop:=wm 1 (wg (fun L'=>WL Try.prog zi5.nt zv2 L' (wg (imN l at_ p) (imE l at_ p))) (wg (imN l at_ p) (imE l at_ p)))
theorem y33 (l:List Ev)(hn:l.length≤1000)(hD:∀ e ∈ l,e.op.Data.length≤1000)(at_:List Int)(p:Nat)(hp:p < 5)(r:SL)(hr:r=[]∨r=[(2400,0,bl false)]) :
  WL Try.prog zi5.nt zv1 (imT l at_ (imL l at_ p) p ([(700,0,i64 (imK l at_ p)),(800,0,i64 (imH at_ p))] ++ r)) (imP l at_ p):=by
 have hrn:=z56 5 3
 have hro:=z4i l hn
 have s0:=z1x (p:=5) (c:=3) (by kernel_rfl)
 have hk:=ymi l at_ p hn
 have hh:=ymj at_ p
 have eS:imS l at_ p=zel l ((z0s l).take (imK l at_ p)) (z0r 5 3):=rfl
 have hS:=zvg l at_ p
 have eB:imB l at_ p=let b:=if imH at_ p=7∨(z0t (imS l at_ p) p=false∧imH at_ p < 6) then z24 else zbt p ((imS l at_ p).Body.getD p [])
  if imH at_ p=6 then b.set 23 (zin (b.getD 23 0)) else b:=rfl
 generalize imK l at_ p=k at *
 generalize imH at_ p=hw at *
 generalize imS l at_ p=S at *
 have hO:=z3z l
 have tk:List.take (l.length * 14) (l.flatMap (z02 false false))=l.flatMap (z02 false false):=pr (by rw[z2l];exact qa _)
 have fin:∀ j:Nat,WL Try.prog zi5.nt zuz (imT l at_ (imL l at_ p) p ([(700,0,i64 k),(800,0,i64 hw)] ++ (rcO 9 S ++ [(1000,0,sI true (z0s l)),(1100,0,i64 j),(5500,0,bl false)]))) (imP l at_ p):=fun j=>by
  have hb5:S.Body.length=5:=by rw[hS.1.bn];exact hS.2
  have hbl:p < S.Body.length:=by omega
  have hbl':p+1≤S.Body.length:=hbl
  have htl:p < S.There.length:=by omega
  have htl':p+1≤S.There.length:=htl
  have h16:S.Body[p].length=16:=hS.1.b16 _ (qc hbl)
  have hsl:=zd4 p S.Body[p] (by omega)
  have eS2:z3w p S.Body[p]=(zbt p S.Body[p],0):=by
   have:isP (p:Int)=true:=by simp[isP];omega
   simp[z3w,this,h16]
  rw[eS2] at hsl
  rw[show S.Body.getD p []=S.Body[p] by simp[hbl]] at eB
  obtain⟨th,hth⟩:∃ th,S.There[p]=th:=⟨_,rfl⟩
  rw[show z0t S p=th by simp[z0t,htl,hth]] at eB
  refine w7 (RL.o (by simp[hbl,hbl'];rfl) (RL.call0 false hsl (by simp) (by simp) (RL.o (by simp;rfl) (RL.nil ⟨_,by simp;rfl,?_⟩))))
  have rest:∀ (r:SL) (b:List UInt8),(r=[]∨r=[(9900,0,bl false)])→b.length=24→imB l at_ p=(if hw=6 then b.set 23 (zin (b.getD 23 0)) else b)→∀ L,L=imT l at_ (imL l at_ p) p ([(800,0,i64 hw),(1200,0,str b)] ++ r)→WL Try.prog zi5.nt zjx L (imP l at_ p):=fun r b hr hb e L hL=>by
   subst hL
   have w:IntKind.wrap .i64 ((p:Int)+1)=((p+1:Nat):Int):=by rw[z01 (by omega) (by omega)];omega
   have hil:=zqx l at_ p
   have his:=ztp l at_ p
   generalize imL l at_ p=im at hil his ⊢
   have m1:(p+1) * 24≤140737488355328:=by omega
   have m2:p+1≤maxLen:=by unfold maxLen;omega
   have t1:∀ x:AU,List.take (p+1) (List.take p (List.map (sU true) im) ++ [x])=List.map (sU true) im ++ [x]:=fun x=>by
    rw[pr (l:=List.map _ im) (by simp[hil]),pr (by simp[hil])]
   have app:∀ y,y=imB l at_ p→∀ r,(r=[]∨r=[(10400,0,bl false)])→WL Try.prog zi5.nt zux (imT l at_ im p ([(1400,0,sU true y)] ++ r)) (imP l at_ p):=fun y hy r hr=>by
    subst hy
    rcases hr with rfl | rfl
    ·refine WL.reg (RL.run (by simp[hil,m1,m2];rfl) ⟨_,by simp;rfl,?_⟩)
     refine WL.reg (RL.run (by simp[w];rfl) ⟨_,by simp;rfl,?_⟩)
     refine⟨hp,?_,trivial⟩
     rw[t1,his]
     simp[hil]
    ·refine WL.reg (RL.run (by simp[hil,m1,m2];rfl) ⟨_,by simp;rfl,?_⟩)
     refine WL.reg (RL.run (by simp[w];rfl) ⟨_,by simp;rfl,?_⟩)
     refine⟨hp,?_,trivial⟩
     rw[t1,his]
     simp[hil]
   have mid:∀ L,L=imT l at_ im p ([(800,0,i64 hw),(1400,0,sU true b)])→WL Try.prog zi5.nt zuy L (imP l at_ p):=fun L hL=>by
    subst hL
    by_cases h6:hw=6
    ·have h6':(hw:Int)=6:=by omega
     rw[if_pos h6] at e
     have hb23:23 < b.length:=by omega
     refine WL.seq (WL.sreg (by simp[h6'];rfl) (by simp;rfl) ?_)
     refine WL.cond (t:=true) (by simp) (fun _=>?_) (by simp)
     refine WL.reg (RL.run (by simp[hb,hb23];rfl) ⟨_,by simp;rfl,?_⟩)
     refine WL.eqL ?_ (app (b.set 23 (zin (b.getD 23 0))) e.symm [] (.inl rfl))
     have e23:b.getD 23 0=b[23]:=by simp[hb23]
     rw[e23,y31]
     simp[sq,hb]
    ·have h6':¬ (hw:Int)=6:=by omega
     rw[if_neg h6] at e
     refine WL.seq (WL.sreg (by simp[h6'];rfl) (by simp;rfl) ?_)
     refine WL.cond (t:=false) (by simp[h6']) (by simp) fun _=>WL.skip ?_
     exact WL.eqL (by simp[h6']) (app b e.symm [(10400,0,bl false)] (.inr rfl))
   have tb:List.take 24 (List.map (fun b=>u8 (b.toNat:Int)) b)=List.map (fun b=>u8 (b.toNat:Int)) b:=pr (by simp[hb])
   rcases hr with rfl | rfl
   ·refine WL.sreg (by simp[ze8,z1i,hb];rfl) (by simp;rfl) ?_
    exact mid _ (by simp[hb,tb])
   ·refine WL.sreg (by simp[ze8,z1i,hb];rfl) (by simp;rfl) ?_
    exact mid _ (by simp[hb,tb])
  have hli:(zbt p S.Body[p]).length=24:=by rw[zeb,h16]
  have blank:(hw=7∨th=false∧hw < 6)→WL Try.prog zi5.nt y0k (imT l at_ (imL l at_ p) p ([(800,0,i64 hw),(1200,0,str (zbt p S.Body[p])),(9900,0,bl true)])) (wg (fun L'=>WL Try.prog zi5.nt zjx L' (imP l at_ p)) (imP l at_ p)):=fun hc=>by
   refine WL.cond (t:=true) (by simp) (fun _=>?_) (by simp)
   refine WL.reg (RL.call0 false zbl (by simp) (by simp) (RL.o (by simp;rfl) (RL.nil ⟨_,by simp;rfl,?_⟩)))
   exact rest [] z24 (.inl rfl) rfl (by rw[eB];simp only[if_pos hc]) _ (by simp)
  have keep:¬ (hw=7∨th=false∧hw < 6)→WL Try.prog zi5.nt y0k (imT l at_ (imL l at_ p) p ([(800,0,i64 hw),(1200,0,str (zbt p S.Body[p])),(9900,0,bl false)])) (wg (fun L'=>WL Try.prog zi5.nt zjx L' (imP l at_ p)) (imP l at_ p)):=fun hc=>by
   refine WL.cond (t:=false) (by simp) (by simp) fun _=>WL.skip ?_
   exact rest [(9900,0,bl false)] _ (.inr rfl) hli (by rw[eB];simp only[if_neg hc]) _ (by simp)
  by_cases h7:hw=7
  ·have h7':(hw:Int)=7:=by omega
   refine WL.seq (WL.sreg (by simp[h7'];rfl) (by simp;rfl) ?_)
   exact WL.eqL (by simp[h7]) (blank (.inl h7))
  ·have h7':¬ (hw:Int)=7:=by omega
   have z7:((hw:Int) == 7)=false:=beq_false_of_ne h7'
   cases th with
   | true =>
    refine WL.seq (WL.sreg (by simp[z7,htl,htl',hth];rfl) (by simp;rfl) ?_)
    exact WL.eqL (by simp[z7]) (keep (by simp[h7]))
   | false =>
    by_cases h6:hw < 6
    ·have h6':(hw:Int) < 6:=by omega
     refine WL.seq (WL.sreg (by simp[z7,htl,htl',hth,h6'];rfl) (by simp;rfl) ?_)
     exact WL.eqL (by simp[z7,h6']) (blank (.inr ⟨rfl,h6⟩))
    ·have h6':¬ (hw:Int) < 6:=by omega
     refine WL.seq (WL.sreg (by simp[z7,htl,htl',hth,h6'];rfl) (by simp;rfl) ?_)
     exact WL.eqL (by simp[z7,h6']) (keep (by simp[h7,h6]))
 have loop:WL Try.prog zi5.nt zv0 (imT l at_ (imL l at_ p) p ([(700,0,i64 k),(800,0,i64 hw)] ++ (rcO 9 (z0r 5 3) ++ [(1000,0,sI true (z0s l))]))) (imP l at_ p):=by
  generalize z0r 5 3=st0 at s0 eS ⊢
  refine WL.seq (WL.sreg (by simp;rfl) (by simp;rfl) ?_)
  refine WL.block (WL.loop (ι:={x:Nat × St // x.1≤(z0s l).length∧x.1≤k∧OkSt x.2∧zel l (((z0s l).take k).drop x.1) x.2=S}) (fun x=>imT l at_ (imL l at_ p) p ([(700,0,i64 k),(800,0,i64 hw)] ++ (rcO 9 x.1.2 ++ [(1000,0,sI true (z0s l)),(1100,0,i64 x.1.1)]))) (fun x=>(z0s l).length - x.1.1) ⟨(0,st0),r9 _,r9 _,s0,eS.symm⟩ (by simp) fun x=>?_)
  obtain⟨⟨j,s⟩,hj,hjk,hs,hg⟩:=x
  simp only at hj hjk hs hg ⊢
  by_cases hlt:j < (z0s l).length
  ·by_cases hlk:j < k
   ·obtain⟨u,hu,eu⟩:=z6c hlt
    have hlt':j+1≤(z0s l).length:=hlt
    have w:IntKind.wrap .i64 ((j:Int)+1)=((j+1:Nat):Int):=by rw[z01 (by omega) (by omega)];omega
    have hdo:=z8f s hs l[u].Client l[u].op (by have:=hD _ (qc hu);unfold z0c;omega)
    have hsd:=hs.doB l[u].Client l[u].op
    have hjt:j < ((z0s l).take k).length:=by simp;omega
    rw[qx hjt] at hg
    have eg:((z0s l).take k)[j]=(u:Int):=by rw[List.getElem_take,eu]
    simp only[zel,eg,z3s hu] at hg
    have f1:=z0y (o:=false) (r:=false) hu
    have g1:14≤l.length * 14 - u * 14:=by omega
    have hL:=z2l false false l
    refine WL.seq (WL.sreg (by simp[hlt,hlk];rfl) (by simp;rfl) ?_)
    refine WL.cond (t:=true) (by simp[hlt,hlk]) (fun _=>WL.skip ?_) (by simp)
    refine WL.seq (WL.block ?_)
    refine WL.draw z0p (by simp[z05,noH]) (DL.o (by simp[hlt,hlt',eu,hu,f1,g1,hL];exact⟨rfl,rfl⟩) ?_)
    generalize DoB s l[u].Client l[u].op=dd at hdo hsd hg
    obtain⟨o',t,r⟩:=dd
    simp only at hdo hsd hg
    refine n9 true [(901,[]),(902,[]),(903,[])] hdo (by simp) (by simp) (by simp[z31]) (zbi s t r) (by simp[z05,noH]) ?_
    refine DL.nil ⟨by kernel_rfl,_,by simp;rfl,?_⟩
    refine WL.reg (RL.run (by simp[w];rfl) ⟨_,by simp;rfl,?_⟩)
    exact⟨⟨(j+1,t),hlt,hlk,hsd,hg⟩,by simp,by simp only;omega⟩
   ·obtain rfl:j=k:=by omega
    refine WL.seq (WL.sreg (by simp[hlt,hlk];rfl) (by simp;rfl) ?_)
    refine WL.cond (t:=false) (by simp[hlt,hlk]) (by simp) fun _=>WL.exit ?_
    rw[rt (by simp;omega)] at hg
    simp only[zel] at hg
    subst hg
    exact WL.eqL (by simp) (fin j)
  ·obtain rfl:j=(z0s l).length:=by omega
   refine WL.seq (WL.sreg (by simp;rfl) (by simp;rfl) ?_)
   refine WL.cond (t:=false) (by simp) (by simp) fun _=>WL.exit ?_
   rw[rt (by simp;omega)] at hg
   simp only[zel] at hg
   subst hg
   exact WL.eqL (by simp) (fin (z0s l).length)
 rcases hr with rfl | rfl
 ·refine w7 (RL.call0 false hrn (by simp) (by simp) (RL.o (by simp;rfl) (RL.nil ⟨_,by simp;rfl,?_⟩)))
  refine w7 (RL.o (by simp;rfl) (RL.call0 true hro (by simp[tk]) (by simp[y3z]) (RL.o (by simp;rfl) (RL.nil ⟨_,by simp;rfl,?_⟩))))
  exact WL.eqL (by simp) loop
 ·refine w7 (RL.call0 false hrn (by simp) (by simp) (RL.o (by simp;rfl) (RL.nil ⟨_,by simp;rfl,?_⟩)))
  refine w7 (RL.o (by simp;rfl) (RL.call0 true hro (by simp[tk]) (by simp[y3z]) (RL.o (by simp;rfl) (RL.nil ⟨_,by simp;rfl,?_⟩))))
  exact WL.eqL (by simp) loop
theorem ztq (l:List Ev)(hn:l.length≤1000)(hD:∀ e ∈ l,e.op.Data.length≤1000)(at_:List Int)(ha:at_.length≤9223372036854775807):FnC Try.prog 72 [] [sEv l,sI false at_] [] (sUU true (imL l at_ 5)):=by
 refine wb x29 rfl ?_
 refine WL.sreg (by simp;rfl) (by simp;rfl) ?_
 refine WL.sreg (by simp;rfl) (by simp;rfl) ?_
 refine WL.seq (WL.sreg (by simp;rfl) (by simp;rfl) ?_)
 refine WL.block (wd 5 (fun p=>imT l at_ (imL l at_ p) p []) (fun p=>True) (by simp[imL]) trivial fun p hp _=>?_)
 by_cases hlt:p < 5
 ·have h':(p:Int) < 5:=by omega
  have hL:=z2l false false l
  refine WL.seq (WL.sreg (by simp[h'];rfl) (by simp;rfl) ?_)
  refine WL.cond (t:=true) (by simp[h']) (fun _=>WL.skip ?_) (by simp)
  refine WL.seq (WL.block (WL.sreg (by simp;rfl) (by simp;rfl) ?_))
  refine WL.sreg (by simp;rfl) (by simp;rfl) ?_
  refine WL.seq (WL.sreg (by simp;rfl) (by simp;rfl) ?_)
  have ek:imK l at_ p=if p < at_.length then um (at_.getD p 0) (l.length+1:Nat) else l.length:=rfl
  have eh:imH at_ p=if p < at_.length then um8 (at_.getD p 0) else 0:=rfl
  have w1:IntKind.wrap .i64 ((l.length:Int)+1)=((l.length+1:Nat):Int):=by rw[z01 (by omega) (by omega)];omega
  have w2:IntKind.wrap .u64 ((l.length+1:Nat):Int)=((l.length+1:Nat):Int):=IntWalk.u64_in _ ⟨by omega,by omega⟩
  have n0:((l.length+1:Nat):Int) ≠ 0:=by omega
  have hpg:=fun r hr=>y33 l hn hD at_ p hlt r hr
  by_cases ha:p < at_.length
  ·refine WL.cond (t:=true) (by simp[ha]) (fun _=>?_) (by simp)
   have e1:=(z5n at_[p] (l.length+1) (by omega) (by omega)).2
   have e2:=(zkf at_[p]).2
   rw[if_pos ha,show at_.getD p 0=at_[p] by simp[ha]] at ek eh
   rw[← ek] at e1
   rw[← eh] at e2
   generalize hm:((l.length+1:Nat):Int)=m at *
   refine WL.draw z0p (by simp[z05,noH]) (DL.o (by simp[ha,w1,w2,n0,e1,e2];exact⟨rfl,rfl⟩) (DL.nil ⟨by kernel_rfl,_,by simp;rfl,?_⟩))
   exact WL.eqL (by simp) (hpg [] (.inl rfl))
  ·refine WL.cond (t:=false) (by simp[ha]) (by simp) fun _=>WL.skip ?_
   rw[if_neg ha] at ek eh
   have:=hpg [(2400,0,bl false)] (.inr rfl)
   rw[ek,eh] at this
   exact WL.eqL (by simp[ha]) this
 ·obtain rfl:p=5:=by omega
  refine WL.seq (WL.sreg (by simp;rfl) (by simp;rfl) ?_)
  refine WL.cond (t:=false) (by simp) (by simp) fun _=>WL.exit ?_
  refine w7 (n5 (by decide) (RL.o (by simp;rfl) (RL.nil ⟨_,by simp;rfl,WL.ret ⟨.inr rfl,?_⟩⟩)))
  simp[zi5]
abbrev wmQ:Ex→SL→Prop:=fun e L=>e=Ex.ret∧RetOk y40.rs [] (bl true) L
abbrev wmS (l:List Cl)(wt at_:List Int)(i:Nat):SL:=[(0,0,sCl l),(100,0,sI false wt),(200,0,sI false at_),(700,0,i64 i)]
theorem ymk (l:List Cl)(hl:l.length≤40)(hD:∀ x ∈ l,x.op.Data.length≤1000)(wt at_:List Int)(ha:at_.length≤9223372036854775807)(i:Nat):WL Try.prog y40.nt zuv (wmS l wt at_ i ++ [(1700,0,bl false)]) wmQ:=by
 have hg:=y30 l (by omega) hD wt
 have hE:=y2z l wt (by omega)
 generalize zim l wt=h at *
 have hi:=ztq h hE.n hE.d at_ ha
 have hlen:=zqx h at_ 5
 have hb:∀ b ∈ imL h at_ 5,b.length≤1000000:=fun b hb=>by
  obtain⟨p,hp,rfl⟩:=s7.1 hb
  have:=y32 h at_ p (qw.1 hp)
  omega
 generalize imL h at_ 5=im at *
 have h3:=z3t h hE 5 3 im (by omega) hb
 have h4:=zti im (by omega)
 have h5:=zij h hE 5 3 im (by omega) hb
 generalize z2e h 5 3 im=wr at *
 have tk:List.take im.length (im.map str)=im.map str:=pr (by simp)
 refine w7 (RL.o (by simp;rfl) (RL.call0 false hg (by simp) (by simp) (RL.o (by simp;rfl) (RL.nil ⟨_,by simp;rfl,?_⟩))))
 refine WL.freeze 800 ?_
 refine w7 (RL.o (by simp;rfl) (RL.call0 false hi (by simp) (by simp) (RL.o (by simp;rfl) (RL.nil ⟨_,by simp;rfl,?_⟩))))
 refine WL.freeze 900 ?_
 refine w7 (RL.call0 false z6e (by simp) (by simp) (RL.o (by simp;rfl) (RL.g (by simp;rfl) ?_)))
 refine RL.callY0 false (by simp) h3 (by simp) (by simp) (RL.g (by simp;rfl) ?_)
 refine RL.callY0 false (by simp) h4 (by simp) (by simp) ?_
 refine RL.callY0 true (by simp) h5 (by simp[tk]) (by simp) (RL.g (by simp;rfl) (RL.o (by simp;rfl) (RL.nil ⟨_,by simp;rfl,WL.ret ⟨rfl,?_⟩⟩)))
 simp[y40]
theorem zc7 (l:List Cl)(hl:l.length≤9223372036854775807)(wt:List Int)(hw:wt.length≤9223372036854775807)(at_:List Int)(ha:at_.length≤9223372036854775807):FnC Try.prog 18 [] [sCl l,sI false wt,sI false at_] [] (bl true):=by
 refine wb x22 rfl ?_
 refine WL.mono (Q':=wmQ) ?_ fun e L h=>⟨.inr h.1,h.2⟩
 refine WL.sreg (by simp;rfl) (by simp;rfl) ?_
 by_cases h40:l.length≤40
 ·have q:¬ (40:Int) < l.length:=by omega
  refine WL.seq (WL.sreg (by simp[q];rfl) (by simp;rfl) ?_)
  refine WL.cond (t:=false) (by simp[q]) (by simp) fun _=>WL.skip ?_
  refine WL.seq (WL.sreg (by simp;rfl) (by simp;rfl) ?_)
  refine WL.block (wd l.length (fun i=>wmS l wt at_ i) (fun i=>∀ x ∈ l.take i,x.op.Data.length≤40) (by simp) (by simp) fun i hi hp=>?_)
  by_cases h:i < l.length
  ·have w:IntKind.wrap .i64 ((i:Int)+1)=((i+1:Nat):Int):=by rw[z01 (by omega) (by omega)];omega
   have f1:=zpe h
   have g1:7≤l.length * 7 - i * 7:=by omega
   refine WL.seq (WL.sreg (by simp[h];rfl) (by simp;rfl) ?_)
   refine WL.cond (t:=true) (by simp[h]) (fun _=>WL.skip ?_) (by simp)
   refine WL.seq (WL.block ?_)
   by_cases z:40 < l[i].op.Data.length
   ·have z':(40:Int) < l[i].op.Data.length:=by omega
    refine WL.sreg (by simp[h,f1,g1,z,z'];rfl) (by simp;rfl) ?_
    refine WL.cond (t:=true) (by simp[z,z']) (fun _=>?_) (by simp)
    refine w7 (RL.call0 false z6e (by simp) (by simp) (RL.o (by simp;rfl) (RL.nil ⟨_,by simp;rfl,WL.ret ⟨rfl,?_⟩⟩)))
    simp[y40]
   ·have z':¬ (40:Int) < l[i].op.Data.length:=by omega
    refine WL.sreg (by simp[h,f1,g1,z,z'];rfl) (by simp;rfl) ?_
    refine WL.cond (t:=false) (by simp[z,z']) (by simp) fun _=>WL.skip ?_
    refine WL.reg (RL.run (by simp[w];rfl) ⟨_,by simp;rfl,h,by simp,fun x hx=>?_⟩)
    rw[sf h] at hx
    rcases qj.1 hx with hx | hx
    ·exact hp x hx
    ·rw[rj.1 hx];omega
  ·obtain rfl:i=l.length:=by omega
   refine WL.seq (WL.sreg (by simp;rfl) (by simp;rfl) ?_)
   refine WL.cond (t:=false) (by simp) (by simp) fun _=>WL.exit ?_
   rw[List.take_length] at hp
   exact WL.eqL (by simp) (ymk l h40 (fun x hx=>by have:=hp x hx;omega) wt at_ ha l.length)
 ·have q:(40:Int) < l.length:=by omega
  refine WL.seq (WL.sreg (by simp[q];rfl) (by simp;rfl) ?_)
  refine WL.cond (t:=true) (by simp[q]) (fun _=>?_) (by simp)
  refine w7 (RL.call0 false z6e (by simp) (by simp) (RL.o (by simp;rfl) (RL.nil ⟨_,by simp;rfl,WL.ret ⟨rfl,?_⟩⟩)))
  simp[y40]
end Go.OT
namespace Go.Proofs.Ytlcemfnjhdcmoaa
open Go.ChangeShapes Go.WideShapes Go.ChangeAt Go.RowKit Go.Joins Go.OT
theorem zc8:ownKnob Try.prog.godebug=none:=by kernel_rfl
theorem zbr:laidOutB Try.prog=true:=by kernel_rfl
theorem zbs:((Try.f18.params.toList).all fun t=>Try.prog.readableRec t && decide (t < Try.prog.types.size))=true:=by kernel_rfl
set_option maxRecDepth 100000 in
theorem wreckMakes_lifted (os:Os)(started:os.Started)(H:Type)(enc:TypeId × Value→H) :
  ReturnsInHanded {} Try.checked os 18 .any (Rows.wreckMakesSpec.pre6 enc Try.prog Try.f18 Rows.wreckMakesRow.domain false) (Rows.wreckMakesSpec.post enc Try.prog Try.f18 false true false false):=by
 refine returnsInHanded_of_change (C:=Try.checked) zc8 started (by kernel_rfl) Try.func18
  (ChangeSpec.witness6 (enc:=enc) (C:=Try.checked) false ⟨#[],#[.slice none 0 0,.slice none 0 0,.slice none 0 0],[]⟩ 8 (by kernel_rfl) (by kernel_rfl) (by kernel_rfl) (by kernel_rfl)) ?_
 intro W base args ds gs before hval0 hW hcnd _
 have hval:∀ (j:Nat) t v,Try.f18.params[j]?=some t→args[j]?=some v→Value.okWide Try.prog W .any base t v:=hval0
 have hW':=hW
 obtain⟨p,q,hA0,hV,rfl,hfz,hnd⟩:=hW
 have hA:DataW.TrodAll enc Try.prog W 0 (fun _=>true) true Try.f18.params.toList args.toList ds p:=hA0
 have hB:=hA
 rw[Try.params18] at hA hval
 obtain⟨v0,vs0,d0,ds0,p0,q0,hargs,rfl,rfl,h0,r0⟩:=trodAll_cons hA
 obtain⟨v1,vs1,d1,ds1,p1,q1,rfl,rfl,rfl,h1,r1⟩:=trodAll_cons r0
 obtain⟨v2,vs2,d2,ds2,p2,q2,rfl,rfl,rfl,h2,r2⟩:=trodAll_cons r1
 obtain⟨rfl,rfl,rfl⟩:=trodAll_nil r2
 obtain rfl:args=#[v0,v1,v2]:=by cases args;simp_all
 obtain⟨rfl,rfl⟩:=trodVars_none hV
 obtain⟨a0,l0,e0,k0,rr0,mm0,no0,ro0⟩:=x1g H enc W .any base v0 d0 p0 (hval 0 _ v0 rfl rfl) h0
 obtain⟨a1,l1,e1,k1,rr1,mm1,no1,ro1⟩:=x0g H enc W .any base v1 d1 p1 (hval 1 _ v1 rfl rfl) h1
 obtain⟨a2,l2,e2,k2,rr2,mm2,no2,ro2⟩:=x0g H enc W .any base v2 d2 p2 (hval 2 _ v2 rfl rfl) h2
 have hwalk:Calls Try.prog 18 #[v0,v1,v2] W fun e w'=>e=.returned (.bool true)∧Below W.heap.size W w':=by
  refine Fn.law ((fun (l:List Cl) (wt a:List Int) (h:l.length≤9223372036854775807∧∀ c ∈ l,c.op.Data.length≤9223372036854775807) (h2:wt.length≤9223372036854775807) (h3:a.length≤9223372036854775807)=>zc7 l h.1 wt h2 a h3) a0 a1 a2 k0 k1 k2).1 (Wc W) [l0,l1,l2] (fun _ _ h=>yop h) rfl (by simp) (by simp only[s4,tf,e0,e1,e2]) fun t la h=>?_
  match t,h with
  | 0,h=>simp at h;subst h;exact⟨rr0,mm0,no0,ro0⟩
  | 1,h=>simp at h;subst h;exact⟨rr1,mm1,no1,ro1⟩
  | 2,h=>simp at h;subst h;exact⟨rr2,mm2,no2,ro2⟩
  | t+3,h=>simp at h
 clear hA0 hval0
 refine hwalk.mono fun e W' ⟨he,bel⟩=>?_
 subst he
 exact⟨_,rfl,_,_,_,[],_,[],hW',trodAll_mk1 (shut_bool Try.underlying4 _),zfi zbr bel zbs hB,rfl,bel.frame _,fun h=>by cases h⟩
end Go.Proofs.Ytlcemfnjhdcmoaa
