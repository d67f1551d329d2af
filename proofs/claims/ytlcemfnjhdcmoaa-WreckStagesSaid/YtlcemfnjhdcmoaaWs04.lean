/- Part 4 of the proof: see its last file. -/
import Derived.Test.YtlcemfnjhdcmoaaWs03
set_option linter.unusedSimpArgs false
set_option linter.unusedVariables false
namespace Go.OT
def zhu {L:Type}(p q:Nat→Bool)(X:XF L):XF L:=fun k=>if p k=true then (if q k=true then X k else (0,(X k).2)) else (0,.non)
theorem RelL.nrm {C:Ctx}{X:XF LO} {β:Nat→Nat × Nat}{I:z12}{rg:Nat→Value}{w:World}(R:RelL C X β I rg w)(p q:Nat→Bool)(hl:∀ k,p k=true→∀ r ∈ roots (X k).2,p r=true∧q r=true) :
  RelL C (zhu p q X) β I rg w:=by
 have hin:∀ k,p k=true→(zhu p q X k).2=(X k).2:=fun k h=>by simp only[zhu,h,if_true];split<;>rfl
 have hout:∀ k,¬ p k=true→zhu p q X k=(0,.non):=fun k h=>by simp[zhu,h]
 have hroot:∀ k,p k=true→∀ r ∈ roots (X k).2,zhu p q X r=X r:=fun k h r hr=>by
  obtain⟨h1,h2⟩:=hl k h r hr
  simp[zhu,h1,h2]
 have hk:∀ k b o,kfp β (zhu p q X) k b o→kfp β X k b o:=by
  intro k b o h
  by_cases hkl:p k=true
  ·rwa [kfp,hin k hkl] at h
  ·rw[kfp,hout k hkl] at h
   rcases h with h | ⟨_,h,_⟩
   ·simp[fp] at h
   ·exact absurd rfl h
 refine⟨fun t=>?_,fun k=>?_,fun k k' hne b o h1 h2=>R.disj k k' hne b o (hk k b o h1) (hk k' b o h2),fun b o h=>⟨(R.imm b o h).1,fun k h'=>(R.imm b o h).2 k (hk k b o h')⟩,
  fun k b o h=>R.frK k b o (hk k b o h),R.frI,R.frI0,R.fr,R.gh,R.gr⟩
 ·by_cases hkl:p (100 * t)=true
  ·rw[hin _ hkl]
   exact z7d _ _ (fun r hr=>hroot _ hkl r hr) (R.reg t)
  ·rw[hout _ hkl];simp[RR]
 ·by_cases hkl:p k=true
  ·have h:=R.key k
   refine⟨by rw[hin k hkl];exact h.mem,by rw[hin k hkl];exact h.sep,?_,fun b o hb=>h.live b o (hk k b o hb),by rw[hin k hkl];exact h.last⟩
   rw[hin k hkl]
   intro h1 h2
   obtain⟨⟨y,hy,hc⟩,hf⟩:=h.cell h1 h2
   exact⟨⟨y,hy,hc.imp id fun hc=>⟨hc.1,z7d _ _ (fun r hr=>hroot _ hkl r hr) hc.2⟩⟩,hf⟩
  ·refine⟨by rw[hout k hkl];simp[Mem],by rw[hout k hkl];simp[Sep],by rw[hout k hkl];intro _ h;exact absurd rfl h,fun b o hb=>(R.key k).live b o (hk k b o hb),fun _=>by rw[hout k hkl]⟩
theorem RelT.nrm {C:Ctx}{X:XF Unit}{tm:Array Value}{w:World}(h:RelT C X tm w)(p q:Nat→Bool)(hl:∀ k,p k=true→∀ r ∈ roots (X k).2,p r=true∧q r=true):RelT C (zhu p q X) tm w:=by
 obtain⟨XL,β,I,rg,he,R,hs,ht⟩:=h
 subst he
 refine⟨zhu p q XL,β,I,rg,?_,R.nrm p q (fun k hk r hr=>hl k hk r (by simpa [erF,z69] using hr)),hs,ht⟩
 funext k
 simp only[erF,zhu]
 split
 ·split<;>rfl
 ·simp[er]
def SOk (C:Ctx)(ops:Array Oper)(i:Nat)(X X':XF Unit):Prop :=
 ∀ (a:Act) (w:World) (K:Act→World→Prop) (Q:Exit→Act→World→Prop),a.defers=[]→RelT C X a.tmps w →
  (∀ a' w',a'.defers=[]→RelT C X' a'.tmps w'→K a' w')→wpOp C.P ops Q i K a w
theorem SOk.weak {C:Ctx}{ops:Array Oper}{i:Nat}{X X' X'':XF Unit}(h:SOk C ops i X X')(hw:∀ tm w,RelT C X' tm w→RelT C X'' tm w):SOk C ops i X X'' :=
 fun a w K Q hd hr hK=>h a w K Q hd hr fun a' w' hd' hr'=>hK a' w' hd' (hw _ _ hr')
theorem SOk.ofG {C:Ctx}{ops:Array Oper}{i:Nat}{o:Oper}{X X':XF Unit}(hi:ops[i]?=some o)(h:GStep C ops o X X'):SOk C ops i X X' :=
 fun a w K Q hd hr hK=>h.wpOp hi hd hr hK
theorem SOk.op {C:Ctx}{ops:Array Oper}{i:Nat}{o:Oper}{X X':XF Unit}(hi:ops[i]?=some o)(hg:o.guard=none)(h:OpOk C o X X'):SOk C ops i X X' :=
 SOk.ofG hi (by unfold GStep;rw[hg];exact h)
theorem RelT.scal {C:Ctx}{X:XF Unit}{a:Act}{w:World}(h:RelT C X a.tmps w){t:Nat}{b:Value}(ht:t < C.nt)(hb:(X (100 * t)).2=.sc b):a.tmps[t]?=some b:=by
 obtain⟨XL,β,I,rg,he,R,hs,hrg⟩:=h
 subst he
 have hr:=R.reg t
 rw[zhe (lv:=(XL (100 * t)).2) hb] at hr
 simp only[RR] at hr
 have:=hrg t ht
 rw[hr] at this
 simp only[pn] at this
 cases hq:a.tmps[t]? with
 | none=>rw [Array.getElem?_eq_none_iff] at hq;omega
 | some v=>simp [hq] at this;rw[this]
theorem RelT.skippedU {C:Ctx}{X:XF Unit}{a:Act}{w:World}(h:RelT C X a.tmps w){d:Nat}(hd:d < C.nt):RelT C (X.set (100 * d) (.sc undef)) (a.put (some d) undef).tmps w:=by
 obtain⟨XL,β,I,rg,he,R,hs,hrg⟩:=h
 subst he
 refine⟨_,β,I,_,by rw[z03];rfl,R.setR d (by have:=C.hnt;omega) (v:=.sc undef) (x:=undef) rfl (by simp[Mem]) (by simp[RR]),by simp[Act.put,hs],fun t ht=>?_⟩
 simp only[Act.put]
 by_cases e:t=d
 ·subst e;simp[pn,hs,ht]
 ·simp only[e,if_false]
  rw[← hrg t ht]
  simp[pn,qv (Ne.symm e)]
theorem n7 {C:Ctx}{ops:Array Oper}{i j t:Nat}{o:Oper}{X X':XF Unit}{want:Bool}(hi:ops[i]?=some o)(hg:o.guard=some (j,want))(ht:(ops[j]?).bind (·.dst)=some t)(hlt:t < C.nt)
  (hb:(X (100 * t)).2=.sc (.bool want)) (h:OpOk C o X X'):SOk C ops i X X':=by
 intro a w K Q hd hr hK
 have hy:yielded ops a.tmps j=some want:=by simp[yielded,ht,hr.scal hlt hb]
 unfold Go.wpOp
 simp only[hi,Region.wanted,hg,hy,beq_self_eq_true,if_true]
 exact .inl (h a w hd hr K Q hK)
theorem SOk.no {C:Ctx}{ops:Array Oper}{i j t d:Nat}{o:Oper}{X:XF Unit}{want:Bool}{v:Value}(hi:ops[i]?=some o)(hg:o.guard=some (j,want))(ht:(ops[j]?).bind (·.dst)=some t)(hlt:t < C.nt)
  (hb:(X (100 * t)).2=.sc v) (hv:v ≠ .bool want) (hdst:o.dst=some d) (hdl:d < C.nt):SOk C ops i X (X.set (100 * d) (.sc undef)):=by
 intro a w K Q hd hr hK
 have hy:yielded ops a.tmps j ≠ some want:=by
  simp only[yielded,ht,hr.scal hlt hb,po]
  split
  ·rename_i b hb'
   intro he
   simp only[pe] at hb' he
   exact hv (by rw[hb',he])
  ·simp
 unfold Go.wpOp
 have hf:(yielded ops a.tmps j == some want)=false:=by simpa using hy
 simp only[hi,Region.wanted,hg,hf,pu,if_false,hdst]
 exact hK _ _ (by simp[Act.put,hd]) (hr.skippedU hdl)
theorem nq {C:Ctx}{ops:Array Oper}{i j t:Nat}{o:Oper}{X:XF Unit}{want:Bool}{v:Value}(hi:ops[i]?=some o)(hg:o.guard=some (j,want))(ht:(ops[j]?).bind (·.dst)=some t)(hlt:t < C.nt)
  (hb:(X (100 * t)).2=.sc v) (hv:v ≠ .bool want) (hdst:o.dst=none):SOk C ops i X X:=by
 intro a w K Q hd hr hK
 have hy:yielded ops a.tmps j ≠ some want:=by
  simp only[yielded,ht,hr.scal hlt hb,po]
  split
  ·rename_i b hb'
   intro he
   simp only[pe] at hb' he
   exact hv (by rw[hb',he])
  ·simp
 unfold Go.wpOp
 have hf:(yielded ops a.tmps j == some want)=false:=by simpa using hy
 simp only[hi,Region.wanted,hg,hf,pu,if_false,hdst]
 exact hK _ _ (by simp[Act.put,hd]) (by simpa [Act.put] using hr)
inductive SRun (C:Ctx) (ops:Array Oper):List Nat→XF Unit→XF Unit→Prop
 | nil {X:XF Unit}:SRun C ops [] X X
 | cons {i:Nat} {l:List Nat} {X X1 X':XF Unit} (h:SOk C ops i X X1) (r:SRun C ops l X1 X'):SRun C ops (i :: l) X X'
theorem SRun.wpOps {C:Ctx}{ops:Array Oper}{l:List Nat}{X X':XF Unit}(h:SRun C ops l X X'):∀ {a:Act} {w:World} (hd:a.defers=[]) (hr:RelT C X a.tmps w) {Q:Exit→Act→World→Prop},
  (∀ a' w',a'.defers=[]→RelT C X' a'.tmps w'→Q .normal a' w')→wpOps C.P ops Q l a w:=by
 induction h with
 | nil=>intro a w hd hr Q hK;simp only[Go.wpOps];exact hK a w hd hr
 | cons h _ ih =>
  intro a w hd hr Q hK
  rw[wpOps_cons]
  exact h a w _ Q hd hr (fun a' w' hd' hr'=>ih hd' hr' hK)
theorem SRun.app {C:Ctx}{ops:Array Oper}{l m:List Nat}{X X1 X2:XF Unit}(h:SRun C ops l X X1)(h':SRun C ops m X1 X2):SRun C ops (l ++ m) X X2:=by
 induction h with
 | nil=>exact h'
 | cons h _ ih=>exact .cons h (ih h')
def z2y (k:Nat):Bool:=decide (900000≤k) && decide (k < 1000000)
def z30 (X:XF Unit):Prop:=∀ k,(z2y k=true→X k=(0,.non))∧∀ r ∈ roots (X k).2,z2y r=false
structure DStep (C:Ctx) (ops:Array Oper) (i:Nat) (R D:List Nat) (Y Y':XF Unit):Prop where
 sub:∀ u ∈ D,u ∈ R
 out:∀ k,z14 k ∉ D→Y' k=Y k
 cl:z30 Y'
 step:∀ X,z30 X→(∀ k,z14 k ∈ R→X k=Y k)→SOk C ops i X (mix D Y' X)
theorem znq {Y:Nat→XF Unit}{D:Nat→List Nat}{L:Nat→Bool}{n:Nat}(h:∀ m,m≤n→z30 (Y m)):∀ m,m≤n→z30 (z4l Y D L m):=by
 intro m
 induction m with
 | zero=>intro h0;exact h 0 h0
 | succ m ih =>
  intro hm k
  simp only[z4l]
  split
  ·simp only[mix]
   split
   ·exact h (m+1) hm k
   ·exact ih (by omega) k
  ·exact ih (by omega) k
theorem ny {C:Ctx}{id:Nat}{ops:Array Oper}{Q:Ex→XF Unit→Prop}(hm:C.P.follows .mixedOrders=true)(Y:Nat→XF Unit)(R D:Nat→List Nat)(pl:List (List Nat))(l:List (List Nat × List Nat))
  (hl:l.length=ops.size) (hRD:∀ i,i < ops.size→l.getD i ([],[])=(R i,D i)) (hpl:ops.toList.map z1y=pl)
  (hs:∀ i,i < ops.size→∃ o,ops[i]?=some o∧DStep C ops i (R i) (D i) (Y i) (Y (i+1))) (hc0:z30 (Y 0)) (hok:z7k pl l=true) (hq:Q .nrm (Y ops.size)):AWp C (.region id ops true) (Y 0) Q:=by
 simp only[z7k,pm] at hok
 obtain⟨hlt,hpairs⟩:=hok
 have hpa:∀ (i:Nat) (o:Oper),ops[i]?=some o→pl[i]?=some (z1y o):=by
  intro i o h
  rw[← hpl]
  simp[h]
 have hpair:∀ i j,i < ops.size→j < i→j ∈ (clos [] pl).getD i []∨((∀ u ∈ D j,u ∉ R i)∧(∀ u ∈ D i,u ∉ R j)):=by
  intro i j hi hj
  simp only[zhl,qe,ql,hl] at hpairs
  have:=hpairs i hi j hj
  simp only[qp,pm,te,hRD i hi,hRD j (by omega)] at this
  rcases this with h | h
  ·exact .inl h
  ·refine .inr ⟨fun u hu=>?_,fun u hu=>?_⟩
   ·have:=qe.1 h.1 u hu;simpa using this
   ·have:=qe.1 h.2 u hu;simpa using this
 have hcl':∀ m,m≤ops.size→z30 (Y m):=by
  intro m hm
  cases m with
  | zero=>exact hc0
  | succ m =>
   obtain⟨o,_,hst⟩:=hs m (by omega)
   exact hst.cl
 -- one listed set after the other
 have key:∀ (fuel:Nat) (listed:Array Bool) (a:Act) (w:World),listed.size=ops.size →
   (∀ i o,listed.getD i false=true→ops[i]?=some o→∀ d ∈ z1y o,listed.getD d false=true) →
   ((List.range ops.size).filter fun i=>!listed.getD i true).length≤fuel→a.defers=[]→RelT C (z4l Y D (fun i=>listed.getD i false) ops.size) a.tmps w →
   wpAny C.P .any ops (CQ C Q) fuel listed a w:=by
  intro fuel
  induction fuel with
  | zero =>
   intro listed a w hsz hcl hcnt hd hr
   have hall:∀ i,i < ops.size→listed.getD i true=true:=by
    intro i hi
    cases h:listed.getD i true with
    | true=>rfl
    | false =>
     exfalso
     have:i ∈ (List.range ops.size).filter fun i=>!listed.getD i true:=by simp only[List.mem_filter,ql,hi,h,Bool.not_false,and_self]
     have h0:=ry (Nat.le_zero.1 hcnt)
     rw[h0] at this
     cases this
   have hempty:Region.ready .any ops listed=[]:=by
    rw[List.eq_nil_iff_forall_not_mem]
    intro i hi
    rw[mem_ready] at hi
    obtain⟨h0,o,ho,_⟩:=hi
    have:=hall i (rt.1 ho).1
    rw[h0] at this
    cases this
   refine⟨hempty,hd,_,hr,?_⟩
   have:∀ m,m≤ops.size→z4l Y D (fun i=>listed.getD i false) m=Y m:=by
    intro m
    induction m with
    | zero=>intro _;rfl
    | succ m ih =>
     intro hm
     obtain⟨o,_,hst⟩:=hs m (by omega)
     have hL:listed.getD m false=true:=by
      have:=hall m (by omega)
      simp only[pn,s5 (show m < listed.size by omega),ro] at this ⊢
      exact this
     simp only[z4l,hL,if_true,ih (by omega)]
     funext k
     simp only[mix]
     split
     ·rfl
     ·rename_i hk;exact (hst.out k hk).symm
   rw[this _ (pr _)]
   exact hq
  | succ fuel ih =>
   intro listed a w hsz hcl hcnt hd hr
   refine⟨fun hempty=>?_,fun i hi=>?_⟩
   ·-- nothing is ready: all is done
    have hall:∀ i,i < ops.size→listed.getD i false=true:=by
     intro i
     induction i using Nat.strongRecOn with
     | _ i ihi =>
      intro hi
      cases h:listed.getD i false with
      | true=>rfl
      | false =>
       exfalso
       obtain⟨o,ho,_⟩:=hs i hi
       have hin:i ∈ Region.ready .any ops listed:=by
        rw[mem_ready]
        refine⟨by
         simp only[pn,s5 (show i < listed.size by omega),ro] at h ⊢
         exact h,o,ho,fun e he hb=>?_⟩
        have hdp:e.on ∈ z1y o:=by
         simp only[z1y,List.mem_filterMap]
         exact⟨e,by simpa using he,by rw[if_pos hb]⟩
        have hlt':=z8l hlt (hpa i o ho) e.on hdp
        exact ihi e.on (by omega) (by omega)
       rw[hempty] at hin
       cases hin
    refine⟨hd,_,hr,?_⟩
    have:∀ m,m≤ops.size→z4l Y D (fun i=>listed.getD i false) m=Y m:=by
     intro m
     induction m with
     | zero=>intro _;rfl
     | succ m ih =>
      intro hm
      obtain⟨o,_,hst⟩:=hs m (by omega)
      simp only[z4l,hall m (by omega),if_true,ih (by omega)]
      funext k
      simp only[mix]
      split
      ·rfl
      ·rename_i hk;exact (hst.out k hk).symm
    rw[this _ (pr _)]
    exact hq
   ·-- one that is ready
    rw[mem_ready] at hi
    obtain⟨h0,o,ho,hpre⟩:=hi
    have hisz:i < ops.size:=(rt.1 ho).1
    have hi0:listed.getD i false=false:=by
     simp only[pn,s5 (show i < listed.size by omega),ro] at h0 ⊢
     exact h0
    obtain⟨o',ho',hst⟩:=hs i hisz
    rw[ho] at ho'
    cases ho'
    have hpre':∀ d ∈ z1y o,listed.getD d false=true:=by
     intro d hdm
     simp only[z1y,List.mem_filterMap] at hdm
     obtain⟨e,he,hde⟩:=hdm
     split at hde
     ·rename_i hb
      cases hde
      exact hpre e (by simpa using he) hb
     ·cases hde
    have hclo:∀ m o',ops[m]?=some o'→(∀ d ∈ z1y o',listed.getD d false=true)→∀ j ∈ (clos [] pl).getD m [],listed.getD j false=true:=by
     intro m o' hm' hd' j hj
     refine zhm (pl:=pl) (fun i=>listed.getD i false) pl [] 0 rfl (by simp) (by simp) (fun i ds hL hds d hdd=>?_) m _ (hpa m o' hm') hd' j hj
     have hi':i < ops.size:=by
      have:=(pk.1 hds).1
      rw[← hpl] at this
      simpa using this
     have hoi:ops[i]?=some ops[i]:=s5 hi'
     rw[hpa i _ hoi] at hds
     cases hds
     exact hcl i _ hL hoi d hdd
    -- apart from what is not done below i, and what is done above it
    have hbelow:∀ m,m < i→listed.getD m false=false→∀ u ∈ D m,u ∉ R i:=by
     intro m hmi hmL
     rcases hpair i m hisz hmi with h | h
     ·have:=hclo i o ho hpre' m h
      rw[hmL] at this
      cases this
     ·exact h.1
    have habove:∀ m,i < m→m < ops.size→listed.getD m false=true→(∀ u ∈ D m,u ∉ R i)∧(∀ u ∈ D i,u ∉ R m):=by
     intro m hmi hms hmL
     rcases hpair m i hms hmi with h | h
     ·have hom:ops[m]?=some ops[m]:=s5 hms
      have:=hclo m _ hom (hcl m _ hmL hom) i h
      rw[hi0] at this
      cases this
     ·exact⟨h.2,h.1⟩
    have hA:∀ m,m≤i→∀ k,z14 k ∈ R i→z4l Y D (fun i=>listed.getD i false) m k=Y m k:=by
     intro m
     induction m with
     | zero=>intro _ k _;rfl
     | succ m ihm =>
      intro hmi k hk
      obtain⟨om,_,hstm⟩:=hs m (by omega)
      simp only[z4l]
      by_cases hL:listed.getD m false=true
      ·rw[if_pos hL]
       simp only[mix]
       split
       ·rfl
       ·rename_i hkd;rw[ihm (by omega) k hk,hstm.out k hkd]
      ·rw[if_neg hL,ihm (by omega) k hk]
       exact (hstm.out k (fun hu=>hbelow m (by omega) (by simpa using hL) _ hu hk)).symm
    have hB:∀ n,∀ k,z14 k ∈ R i→i+n≤ops.size→z4l Y D (fun i=>listed.getD i false) (i+n) k=Y i k:=by
     intro n
     induction n with
     | zero=>intro k hk _;exact hA i (pr _) k hk
     | succ n ihn =>
      intro k hk hle
      rw[← qq]
      simp only[z4l]
      by_cases hL:listed.getD (i+n) false=true
      ·rw[if_pos hL]
       simp only[mix]
       have hne:0 < n:=by
        rcases Nat.eq_zero_or_pos n with h | h
        ·subst h;simp only[sx] at hL;rw[hi0] at hL;cases hL
        ·exact h
       rw[if_neg (fun hu=>(habove (i+n) (by omega) (by omega) hL).1 _ hu hk)]
       exact ihn k hk (by omega)
      ·rw[if_neg hL]
       exact ihn k hk (by omega)
    have hag:∀ k,z14 k ∈ R i→z4l Y D (fun i=>listed.getD i false) ops.size k=Y i k:=by
     intro k hk
     have:=hB (ops.size - i) k hk (by omega)
     rwa [show i+(ops.size - i)=ops.size by omega] at this
    have hset:∀ m,(listed.setIfInBounds i true).getD m false=if m=i then true else listed.getD m false:=by
     intro m
     by_cases e:m=i
     ·subst e
      simp[pn,hsz,hisz]
     ·simp only[pn,qv (Ne.symm e),e,if_false]
    obtain⟨L',hL'⟩:∃ L':Nat→Bool,L'=fun j=>(listed.setIfInBounds i true).getD j false:=⟨_,rfl⟩
    have hset':∀ m,L' m=if m=i then true else listed.getD m false:=by rw[hL'];exact hset
    have hC0:∀ m,m≤i→z4l Y D L' m=z4l Y D (fun i=>listed.getD i false) m:=by
     intro m
     induction m with
     | zero=>intro _;rfl
     | succ m ihm =>
      intro hmi
      simp only[z4l,hset',show m ≠ i by omega,if_false,ihm (by omega)]
    have hC:∀ n,i+1+n≤ops.size→z4l Y D L' (i+1+n)=mix (D i) (Y (i+1)) (z4l Y D (fun i=>listed.getD i false) (i+1+n)):=by
     intro n
     induction n with
     | zero =>
      intro _
      simp only[sx,z4l,hset',if_true,hC0 i (pr _),hi0,pu,if_false]
     | succ n ihn =>
      intro hle
      rw[← qq]
      simp only[z4l,hset',show i+1+n ≠ i by omega,if_false,ihn (by omega)]
      by_cases hL:listed.getD (i+1+n) false=true
      ·rw[if_pos hL,if_pos hL]
       have hap:=habove (i+1+n) (by omega) (by omega) hL
       obtain⟨_,_,hstm⟩:=hs (i+1+n) (by omega)
       funext k
       simp only[mix]
       by_cases hu:z14 k ∈ D (i+1+n)
       ·by_cases hu':z14 k ∈ D i
        ·exact absurd (hst.sub _ hu') (hap.1 _ hu)
        ·simp[hu,hu']
       ·simp[hu]
      ·rw[if_neg hL,if_neg hL]
    have hnew:z4l Y D L' ops.size=mix (D i) (Y (i+1)) (z4l Y D (fun i=>listed.getD i false) ops.size):=by
     have:=hC (ops.size - (i+1)) (by omega)
     rwa [show i+1+(ops.size - (i+1))=ops.size by omega] at this
    refine hst.step _ (znq (n:=ops.size) hcl' _ (pr _)) hag a w _ _ hd hr fun a' w' hd' hr'=>?_
    refine ih _ a' w' (by simp[hsz]) (fun m om hL hom d hdd=>?_) ?_ hd' (by rw[hL'] at hnew;rw[hnew];exact hr')
    ·rw[hset] at hL ⊢
     by_cases ed:d=i
     ·rw[if_pos ed]
     ·rw[if_neg ed]
      by_cases em:m=i
      ·rw[em,ho] at hom
       cases hom
       exact hpre' d hdd
      ·rw[if_neg em] at hL
       exact hcl m om hL hom d hdd
    ·have:=zan (p:=fun i=>!listed.getD i true) (q:=fun j=>!(listed.setIfInBounds i true).getD j true) (fun x hx=>by
       by_cases e:x=i
       ·subst e;simp[h0]
       ·rwa [getD_set_ne true (Ne.symm e)] at hx) (i:=i) (by simp[h0]) (by simp[pn,hsz,hisz]) (ql.2 hisz)
     omega
 intro a w hd hr
 refine wp_region_any hm (key ops.size _ a _ (by simp) (fun i o h=>?_) ?_ hd ?_)
 ·simp only[pn,tg] at h
  split at h<;>simp at h
 ·exact bb (List.length_filter_le _ _) (by simp)
 ·have hz:∀ m,z4l Y D (fun i=>(Array.replicate ops.size false).getD i false) m=Y 0:=by
   intro m
   induction m with
   | zero=>rfl
   | succ m ih =>
    have:(Array.replicate ops.size false).getD m false=false:=by
     simp only[pn,tg]
     split<;>rfl
    simp only[z4l,this,pu,if_false,ih]
  rw[hz]
  obtain⟨XL,β,I,rg,he,Rr,h1,h2⟩:=hr
  exact⟨XL,β,I,rg,he,Rr.world (z3a _ w),h1,h2⟩
inductive DRun (C:Ctx) (ops:Array Oper):Nat→XF Unit→XF Unit→List (List Nat × List Nat)→Prop
 | nil {i:Nat} {X:XF Unit}:DRun C ops i X X []
 | cons {i:Nat} {R D:List Nat} {X X1 X':XF Unit} {l:List (List Nat × List Nat)} (h:DStep C ops i R D X X1) (r:DRun C ops (i+1) X1 X' l):DRun C ops i X X' ((R,D) :: l)
theorem DRun.app {C:Ctx}{ops:Array Oper}{i:Nat}{X X1 X2:XF Unit}{l m:List (List Nat × List Nat)}(h:DRun C ops i X X1 l)(h':DRun C ops (i+l.length) X1 X2 m):DRun C ops i X X2 (l ++ m):=by
 induction h with
 | nil=>exact h'
 | @cons i R D X X1 X' l h r ih=>exact .cons h (ih (by rw[show i+1+l.length=i+((R,D) :: l).length by simp;omega];exact h'))
theorem DRun.states {C:Ctx}{ops:Array Oper}{i:Nat}{X X':XF Unit}{l:List (List Nat × List Nat)}(h:DRun C ops i X X' l) :
  ∃ Y:Nat→XF Unit,Y i=X∧Y (i+l.length)=X'∧∀ m,i≤m→m < i+l.length→DStep C ops m (l.getD (m - i) ([],[])).1 (l.getD (m - i) ([],[])).2 (Y m) (Y (m+1)):=by
 induction h with
 | @nil i X=>exact ⟨fun _=>X,rfl,rfl,fun m h1 h2=>by simp at h2;omega⟩
 | @cons i R D X X1 X' l h r ih =>
  obtain⟨Y,h1,h2,h3⟩:=ih
  refine⟨fun m=>if m≤i then X else Y m,by simp,?_,fun m hm1 hm2=>?_⟩
  ·simp only[sd,show ¬ i+(l.length+1)≤i by omega,if_false]
   rw[show i+(l.length+1)=i+1+l.length by omega,h2]
  ·by_cases e:m=i
   ·subst e
    simpa [h1,show ¬ m+1≤m by omega] using h
   ·have hst:=h3 m (by omega) (by simp at hm2;omega)
    simp only[show ¬ m≤i by omega,show ¬ m+1≤i by omega,if_false]
    rw[show m - i=(m - (i+1))+1 by omega]
    simpa using hst
theorem p7 {C:Ctx}{id:Nat}{ops:Array Oper}{X X':XF Unit}{Q:Ex→XF Unit→Prop}{l:List (List Nat × List Nat)}{pl:List (List Nat)}(hm:C.P.follows .mixedOrders=true)(h:DRun C ops 0 X X' l)
  (hlen:l.length=ops.size) (hc0:z30 X) (hpl:ops.toList.map z1y=pl) (hok:z7k pl l=true) (hq:Q .nrm X'):AWp C (.region id ops true) X Q:=by
 obtain⟨Y,rfl,h2,h3⟩:=h.states
 simp only[sy] at h2
 subst h2
 exact ny hm Y (fun i=>(l.getD i ([],[])).1) (fun i=>(l.getD i ([],[])).2) pl l hlen (fun i _=>rfl) hpl (fun i hi=>⟨ops[i],s5 hi,by
  have:=h3 i (rh _) (by omega)
  simpa using this⟩) hc0 hok (by rw[← hlen];exact hq)
abbrev SL:=List (Nat × Nat × AU)
def z9h:SL→Nat→AU→SL
 | [],k,v=>[(k,0,v)]
 | (k',e) :: l,k,v=>if k=k' then (k,e.1,v) :: l else (k',e) :: z9h l k v
theorem z4b (k:Nat)(v:AU):∀ l:SL,(fnL l).upd k v=fnL (z9h l k v)
 | []=>by
  funext j
  simp only[XF.upd,fnL,z9h]
 | (k',e) :: l=>by
  have ih:=z4b k v l
  funext j
  have ihj:=congrFun ih j
  simp only[z9h]
  by_cases hk:k=k'
  ·subst hk
   simp only[if_true,fnL,XF.upd]
   by_cases h:j=k<;>simp [h]
  ·simp only[hk,if_false,fnL,XF.upd] at ihj ⊢
   rw[← ihj]
   by_cases h:j=k
   ·subst h;simp[hk]
   ·simp[h]
def zw5 (L:SL)(h:Nat):Nat→SL
 | 0=>L
 | n+1=>z0l (zw5 L h n) (100 * (h+n)) .non
theorem zhv (L:SL)(h:Nat):∀ n,clr (fnL L) h n=fnL (zw5 L h n)
 | 0=>rfl
 | n+1=>by rw[z9v,zhv L h n,z07];rfl
def zhw (L:SL)(h:Nat):Nat→List AU
 | 0=>[]
 | n+1=>(fnL L (100 * h)).2 :: zhw L (h+1) n
theorem zhx {X:XF Unit}(h n:Nat):z2p X h (n+1)=(X (100 * h)).2 :: z2p X (h+1) n:=by
 simp only[z2p,List.range_succ_eq_map,List.map_cons,rr,sx,List.cons.injEq,true_and]
 congr 1
 funext j
 simp only[Function.comp]
 rw[show h+(j+1)=h+1+j by omega]
theorem zdo (L:SL):∀ n h,z2p (fnL L) h n=zhw L h n
 | 0,h=>rfl
 | n+1,h=>by rw[zhx,zdo L n (h+1)];rfl
def tkS (L:SL)(v:AU)(h:Nat):Option SL :=
 match v with
 | .view k g p off len =>
  if (fnL L k).1=g∧k ≠ 100 * h then
   match z0o (fnL L k).2 p with
   | some (.sl true _ sz _ cs)=>if z4k (fnL L k).2 p=true then some (z0l (z0l L k (z0z (fnL L k).2 p .dead)) (100 * h) (.sl true () sz len ((cs.drop off).take (len * sz)))) else none
   | some (.sl false _ sz _ cs)=>some (z0l L (100 * h) (.sl false () sz len ((cs.drop off).take (len * sz))))
   | _=>none
  else none
 | .ptr k g p i =>
  if (fnL L k).1=g∧i=0∧k ≠ 100 * h then
   match z0o (fnL L k).2 p with
   | some (.bx true _ cs)=>if z4k (fnL L k).2 p=true then some (z0l (z0l L k (z0z (fnL L k).2 p .dead)) (100 * h) (.bx true () cs)) else none
   | _=>none
  else none
 | .sl true _ sz 0 []=>some (z0l L (100 * h) (.sl true () sz 0 []))
 | .agg _=>none
 | .tuple _=>none
 | .non=>none
 | .dead=>none
 | v=>if z0a v then some (z0l L (100 * h) v) else none
theorem zu3 {L L':SL}{v:AU}{h:Nat}(e:tkS L v h=some L'):tk (fnL L) v h=some (fnL L'):=by
 unfold tkS at e
 unfold tk
 split at e
 ·simp only
  split at e
  ·rename_i hc
   rw[if_pos hc]
   split at e
   ·rename_i hg
    split at e
    ·rename_i ho
     simp only[pe] at e
     subst e
     simp only[hg,ho,if_true,z07]
    ·cases e
   ·rename_i hg
    simp only[pe] at e
    subst e
    simp only[hg,z07]
   ·cases e
  ·cases e
 ·simp only
  split at e
  ·rename_i hc
   rw[if_pos hc]
   split at e
   ·rename_i hg
    split at e
    ·rename_i ho
     simp only[pe] at e
     subst e
     simp only[hg,ho,if_true,z07]
    ·cases e
   ·cases e
  ·cases e
 ·simp only[pe] at e
  subst e
  simp only[z07]
 ·cases e
 ·cases e
 ·cases e
 ·cases e
 ·rename_i h1 h2 h3 h4 h5 h6 h7
  split at e
  ·rename_i hn
   simp only[pe] at e
   subst e
   split
   ·exact absurd rfl (h1 _ _ _ _ _)
   ·exact absurd rfl (h2 _ _ _ _)
   ·exact absurd rfl (h3 _ _)
   ·exact absurd rfl (h4 _)
   ·exact absurd rfl (h5 _)
   ·exact absurd rfl h6
   ·exact absurd rfl h7
   ·simp[hn,z07]
  ·cases e
def y2h (L:SL)(h:Nat):List AU→Option SL
 | []=>some L
 | v :: vs=>(tkS L v h).bind fun X1=>y2h X1 (h+1) vs
theorem znr:∀ {vs:List AU} {L L':SL} {h:Nat},y2h L h vs=some L'→tkL (fnL L) h vs=some (fnL L')
 | [],L,L',h,e=>by simp only[y2h,pe] at e;subst e;rfl
 | v :: vs,L,L',h,e=>by
  simp only[y2h,pf] at e
  obtain⟨L1,h1,h2⟩:=e
  simp only[tkL,zu3 h1,po,znr h2]
def z31 (L:SL)(v:AU):Option SL :=
 match v with
 | .agg vs=>(if vs.length≤400 then y2h L (H+1) vs else none).map fun X1=>zw5 (z0l X1 (100 * H) (.agg (zhw X1 (H+1) vs.length))) (H+1) vs.length
 | v=>tkS L v H
theorem z7o {L L':SL}{v:AU}(e:z31 L v=some L'):z9e (fnL L) v=some (fnL L'):=by
 unfold z31 at e
 unfold z9e
 split at e
 ·rename_i vs
  simp only[pg] at e
  obtain⟨X1,h1,rfl⟩:=e
  split at h1
  ·rename_i hl
   simp only[hl,if_true,znr h1,px,z07,zdo,zhv]
  ·cases h1
 ·rename_i hv
  split
  ·exact absurd rfl (hv _)
  ·exact zu3 e
def z0w (L:SL)(c:COd):Option SL :=
 if zkz (rd (fnL L) c) then
  match c with
  | .t n=>match (fnL L (100 * n)).2 with
   | .agg vs=>if z0n vs then z31 L (.agg vs) else some (z0l (z0l L (100 * H) (.agg vs)) (100 * n) .non)
   | .tuple _=>none
   | _=>z31 L (rd (fnL L) (.t n))
  | .c v=>z31 L v
 else none
theorem z2q {L L':SL}{c:COd}(e:z0w L c=some L'):z54 (fnL L) c=some (fnL L'):=by
 unfold z0w at e
 unfold z54
 split at e
 ·rename_i hf
  rw[if_pos hf]
  unfold zmu
  cases c with
  | c v=>exact z7o e
  | t n =>
   simp only at e ⊢
   split at e
   ·rename_i vs hv
    simp only[hv]
    split at e
    ·rename_i hn;simp only[hn,if_true];exact z7o e
    ·rename_i hn
     simp only[pe] at e
     subst e
     simp[hn,z07]
   ·cases e
   ·rename_i h1 h2
    split
    ·rename_i vs hv;exact absurd hv (h1 _)
    ·rename_i vs hv;exact absurd hv (h2 _)
    ·exact z7o e
 ·cases e
def put1S (L:SL)(a:AU)(h:Nat):Option SL :=
 match a with
 | .bptr b g i =>
  if (fnL L (100 * b+99)).1=g∧i < 98∧(fnL L (100 * b+1+i)).2.isNon=false∧z0q (fnL L (100 * h)).2=true then
   some (z0l (z0l L (100 * b+1+i) (fnL L (100 * h)).2) (100 * h) .non) else none
 | .ptr k g p i =>
  if (fnL L k).1=g∧k ≠ 100 * h∧z0q (fnL L (100 * h)).2=true∧z4k (fnL L k).2 (p ++ [i])=true then
   match z0o (fnL L k).2 (p ++ [i]) with
   | some u=>some (z0l (if u.isNode then z0l L k (z0z (fnL L k).2 (p ++ [i]) (fnL L (100 * h)).2) else z9h L k (z0z (fnL L k).2 (p ++ [i]) (fnL L (100 * h)).2)) (100 * h) .non)
   | none=>none
  else none
 | _=>none
theorem zjg {L L':SL}{a:AU}{h:Nat}(e:put1S L a h=some L'):z9f (fnL L) a h=some (fnL L'):=by
 unfold put1S at e
 unfold z9f
 split at e
 ·split at e
  ·rename_i hc
   simp only[pe] at e
   subst e
   simp only[hc,and_self,if_true,z07]
  ·cases e
 ·split at e
  ·rename_i hc
   split at e
   ·rename_i u hu
    simp only[pe] at e
    subst e
    simp only[hc,hu,ne_eq,not_false_eq_true,and_self,if_true]
    split
    ·rename_i hn;simp[hn,z07]
    ·rename_i hn;simp[hn,z07,z4b]
   ·cases e
  ·cases e
 ·cases e
def zc6 (L:SL)(a:AU):Nat→List AU→Option SL
 | _,[]=>some L
 | i,c :: cs=>(put1S (z0l (z0l L (100 * H) (.agg (List.replicate (i+1) .dead ++ cs))) (100 * (H+1)) c) (z2d i a) (H+1)).bind fun X2=>zc6 X2 a (i+1) cs
theorem zjh {a:AU}:∀ {vs:List AU} {L L':SL} {i:Nat},zc6 L a i vs=some L'→zme (fnL L) a i vs=some (fnL L')
 | [],L,L',i,e=>by simp only[zc6,pe] at e;subst e;rfl
 | c :: cs,L,L',i,e=>by
  simp only[zc6,pf] at e
  obtain⟨L1,h1,h2⟩:=e
  simp only[zme,z07,zjg h1,po,zjh h2]
def stS (L:SL)(n:Nat)(a v:COd):Option SL :=
 (z0w L v).bind fun X1=>match (fnL X1 (100 * H)).2 with
  | .agg vs=>if vs.length=n∧n ≠ 0 then (zc6 X1 (rd (fnL X1) a) 0 vs).map fun X2=>z0l X2 (100 * H) .non else none
  | _=>if n=1 then put1S X1 (rd (fnL X1) a) H else none
theorem y49 {L L':SL}{n:Nat}{a v:COd}(e:stS L n a v=some L'):stV (fnL L) n a v=some (fnL L'):=by
 simp only[stS,pf] at e
 obtain⟨X1,h1,h2⟩:=e
 simp only[stV,z2q h1,po]
 split at h2
 ·rename_i vs hv
  simp only[hv]
  split at h2
  ·rename_i hc
   simp only[pg] at h2
   obtain⟨X2,h3,rfl⟩:=h2
   simp only[hc,ne_eq,not_false_eq_true,and_self,if_true,zjh h3,px,z07]
  ·cases h2
 ·rename_i hv
  split
  ·rename_i vs hv';exact absurd hv' (hv _)
  ·split at h2
   ·rename_i hn;rw[if_pos hn];exact zjg h2
   ·cases h2
def y2i (L:SL)(d n i:Nat):Option SL :=
 match (fnL L (100 * n)).2 with
 | .tuple vs=>match vs[i]? with
  | some c=>if d ≠ n then some (z0l (z0l L (100 * n) (.tuple (vs.set i .dead))) (100 * d) c) else none
  | none=>none
 | _=>none
theorem zw6 {L L':SL}{d n i:Nat}(e:y2i L d n i=some L'):zvm (fnL L) d n i=some (fnL L'):=by
 unfold y2i at e
 unfold zvm
 split at e
 ·rename_i vs hv
  simp only[hv]
  split at e
  ·rename_i c hc
   simp only[hc]
   split at e
   ·rename_i hd
    simp only[pe] at e
    subst e
    rw[if_pos hd];simp only[z07]
   ·cases e
  ·cases e
 ·cases e
def z7p (L:SL)(d g:Nat):SL:=z0l (z0l L (100 * H) .non) (100 * d) (.bptr d g 0)
theorem zdp (L:SL)(d g:Nat):zl1 (fnL L) d g=fnL (z7p L d g):=by simp only[zl1,z7p,z07]
def y2j (L:SL)(d:Nat)(c:COd):Option SL :=
 (z0w L c).bind fun X1=>match (fnL X1 (100 * H)).2 with
  | .agg vs=>if vs.length≤98∧vs.all z0q=true then some (z7p (zc5 d vs X1) d ((fnL X1 (100 * d+99)).1+1)) else none
  | v=>if z0q v=true then some (z7p (zc5 d [v] X1) d ((fnL X1 (100 * d+99)).1+1)) else none
theorem zw7 {L L':SL}{d:Nat}{c:COd}(e:y2j L d c=some L'):zvn (fnL L) d c=some (fnL L'):=by
 simp only[y2j,pf] at e
 obtain⟨X1,h1,h2⟩:=e
 simp only[zvn,z2q h1,po]
 split at h2
 ·rename_i vs hv
  simp only[hv]
  split at h2
  ·rename_i hc
   simp only[pe] at h2
   subst h2
   simp only[hc.2,if_true,z9w d vs X1 hc.1,zdp]
  ·cases h2
 ·rename_i hv
  split
  ·rename_i vs hv';exact absurd hv' (hv _)
  ·split at h2
   ·rename_i hc
    simp only[pe] at h2
    subst h2
    rw[if_pos hc,z9w d _ X1 (by simp),zdp]
   ·cases h2
def zco (L:SL)(d:Nat)(zs:List AU):Option SL:=if zs.length≤98 then some (z7p (zc5 d zs (z0l L (100 * H) (.agg zs))) d ((fnL L (100 * d+99)).1+1)) else none
theorem zfq {L L':SL}{d:Nat}{zs:List AU}(e:zco L d zs=some L'):z5w (fnL L) d zs=fnL L':=by
 unfold zco at e
 split at e
 ·rename_i h
  simp only[pe] at e
  subst e
  simp only[z5w,z07,z9w d zs _ h,zdp]
 ·cases e
def bsS (L:SL)(d s:Nat)(c:COd):Option SL :=
 (z0w L c).bind fun X1=>match (fnL X1 (100 * H)).2 with
  | .agg vs=>if vs.length=s∧vs.all z0q=true then some (z0l (z0l X1 (100 * d) (.sl true () s 1 vs)) (100 * H) .non) else none
  | v=>if s=1∧z0q v=true then some (z0l (z0l X1 (100 * d) (.sl true () s 1 [v])) (100 * H) .non) else none
theorem y4a {L L':SL}{d s:Nat}{c:COd}(e:bsS L d s c=some L'):bsV (fnL L) d s c=some (fnL L'):=by
 simp only[bsS,pf] at e
 obtain⟨X1,h1,h2⟩:=e
 simp only[bsV,z2q h1,po]
 split at h2
 ·rename_i vs hv
  simp only[hv]
  split at h2
  ·rename_i hc
   simp only[pe] at h2
   subst h2
   rw[if_pos hc];simp only[z07]
  ·cases h2
 ·rename_i hv
  split
  ·rename_i vs hv';exact absurd hv' (hv _)
  ·split at h2
   ·rename_i hc
    simp only[pe] at h2
    subst h2
    rw[if_pos hc];simp only[z07]
   ·cases h2
def zu4 (L:SL)(d:Nat)(c:COd):Option SL:=(z0w L c).map fun X1=>z0l (z0l X1 (100 * d) (fnL X1 (100 * H)).2) (100 * H) .non
theorem zhy {L L':SL}{d:Nat}{c:COd}(e:zu4 L d c=some L'):zri (fnL L) d c=some (fnL L'):=by
 simp only[zu4,pg] at e
 obtain⟨X1,h1,rfl⟩:=e
 simp only[zri,z2q h1,px,z07]
def y2k (L:SL)(d s bytes:Nat)(cx cy:COd):Option SL :=
 (z1q (fnL L) s (rd (fnL L) cy)).bind fun news=>if news.all z1b=true then
  (z0w L cx).bind fun X1=>match (fnL X1 (100 * H)).2 with
   | .sl true _ s' n cs=>if s'=s∧(n+news.length / s) * bytes≤140737488355328∧n+news.length / s≤maxLen then
     some (z0l (z0l (z0l X1 (100 * H) (fnL X1 (100 * H)).2) (100 * d) (.sl true () s (n+news.length / s) (cs ++ news))) (100 * H) .non) else none
   | _=>none
 else none
theorem zw8 {L L':SL}{d s bytes:Nat}{cx cy:COd}(e:y2k L d s bytes cx cy=some L'):zvt (fnL L) d s bytes cx cy=some (fnL L'):=by
 simp only[y2k,pf] at e
 obtain⟨news,h1,h2⟩:=e
 simp only[zvt,h1,po]
 split at h2
 ·rename_i hp
  rw[if_pos hp]
  simp only[pf] at h2
  obtain⟨X1,h3,h4⟩:=h2
  simp only[z2q h3,po]
  split at h4
  ·rename_i s' n cs hv
   split at h4
   ·rename_i hc
    simp only[pe] at h4
    subst h4
    simp only[hv]
    rw[if_pos hc]
    simp only[z07]
   ·cases h4
  ·cases h4
 ·cases h2
def zl8 (L:SL):SL:=z0l (z0l L (100 * hh) (fnL L (100 * H)).2) (100 * H) .non
theorem zns (L:SL):mvH (fnL L)=fnL (zl8 L):=by simp only[mvH,zl8,z07]
def y2l (L:SL)(d s bytes g:Nat):AU→AU→Option SL
 | .sl true _ s' n cs,.sl true _ s1 m news=>if s'=s∧s1=s∧0 < m∧(fnL L (100 * hh)).1=g∧(n+m) * bytes≤140737488355328∧n+m≤maxLen∧news.all z0q=true then
   some (z0l (z0l (z0l (z0l L (100 * H) (fnL L (100 * H)).2) (100 * d) (.sl true () s (n+m) (cs ++ news))) (100 * H) .non) (100 * hh) .non) else none
 | _,_=>none
theorem zw9 {L L':SL}{d s bytes g:Nat}{a b:AU}(e:y2l L d s bytes g a b=some L'):apO (fnL L) d s bytes g a b=some (fnL L'):=by
 unfold y2l at e
 unfold apO
 split at e
 ·split at e
  ·rename_i hc
   simp only[pe] at e
   subst e
   simp only
   rw[if_pos hc]
   simp only[z07]
  ·cases e
 ·cases e
def zl9 (L:SL)(d s bytes:Nat)(cx cy:COd):Option SL :=
 (z0w L cy).bind fun X0=>if slB (fnL X0 (100 * H)).2=false then none else (z0w (zl8 X0) cx).bind fun X1=>y2l X1 d s bytes (fnL (zl8 X0) (100 * hh)).1 (fnL X1 (100 * H)).2 (fnL X1 (100 * hh)).2
theorem zs0 {L L':SL}{d s bytes:Nat}{cx cy:COd}(e:zl9 L d s bytes cx cy=some L'):zhp (fnL L) d s bytes cx cy=some (fnL L'):=by
 simp only[zl9,pf] at e
 obtain⟨X0,h0,e⟩:=e
 simp only[zhp,z2q h0,po]
 split at e
 ·cases e
 ·rename_i hs
  rw[if_neg hs]
  simp only[pf] at e
  obtain⟨X1,h1,e⟩:=e
  rw[zns,z2q h1,po]
  exact zw9 e
def znt (L:SL)(d:Nat)(v:AU):Option SL:=if z0a v=true then some (z0l L (100 * d) v) else none
theorem zs1 {L L':SL}{d:Nat}{v:AU}(e:znt L d v=some L'):zfk (fnL L) d v=some (fnL L'):=by
 unfold znt at e
 unfold zfk
 split at e
 ·rename_i h
  simp only[pe] at e
  subst e
  rw[if_pos h,z07]
 ·cases e
def z1l (X:XF Unit):COp→Option AU
 | .mov _ c=>if z0a (rd X c)=true then some (rd X c) else none
 | .chk _ c=>if zaf X (rd X c)=true then some (rd X c) else none
 | .pick _ c a b=>match rd X c with
  | .sc (.bool true)=>if z0a (rd X a)=true then some (rd X a) else none
  | .sc (.bool false)=>if z0a (rd X b)=true then some (rd X b) else none
  | _=>none
 | .un _ op c=>match rd X c with
  | .sc u=>(zvg op u).map fun r=>.sc r
  | _=>none
 | .bin _ op a b=>match rd X a,rd X b with
  | .sc u,.sc v=>(zde op u v).map fun r=>.sc r
  | _,_=>none
 | .beq _ eq a b=>match rd X a,rd X b with
  | .sc (.bool u),.sc (.bool v)=>some (.sc (.bool (if eq=true then u == v else !(u == v))))
  | _,_=>none
 | .conv _ k c=>match rd X c with
  | .sc (.int _ n)=>some (.sc (.int k (k.wrap n)))
  | _=>none
 | .mx _ mx a b=>match rd X a,rd X b with
  | .sc u,.sc v=>(zvh mx u v).map fun r=>.sc r
  | _,_=>none
 | .ld _ n ag c=>(z1x X (rd X c) n).bind fun cs=>if z0a (if ag=true then AV.agg cs else cs.getD 0 .non)=true then some (if ag=true then .agg cs else cs.getD 0 .non) else none
 | .faddr _ off c=>z3p X off (rd X c)
 | .iaddr _ s c i=>match rd X i with
  | .sc (.int _ j)=>z3q X s (rd X c) j
  | _=>none
 | .len _ c=>(z6n X (rd X c)).map fun (n:Nat)=>.sc (.int .i64 (n:Int))
 | .slen _ c=>match rd X c with
  | .sc (.string s)=>some (.sc (.int .i64 s.size))
  | _=>none
 | .slice _ s c l h=>(z6n X (rd X c)).bind fun n=>(bnd X 0 l).bind fun lo=>(bnd X n h).bind fun hi=>z37 X s lo hi (rd X c)
 | .build _ zs parts=>(zc3 zs (parts.map fun p=>(p.1,p.2.1,rdC X p.2.2))).bind fun cs=>if z0n cs=true then some (.agg cs) else none
 | .make _ s bytes zs l c=>match rd X l,rd X c with
  | .sc (.int _ a),.sc (.int _ b)=>if 0≤a∧a≤b∧bytes * b.toNat≤281474976710656∧b≤9223372036854775807 then some (.sl true () s a.toNat (z8d zs a.toNat)) else none
  | _,_=>none
 | .b2s _ c=>(z1q X 1 (rd X c)).bind fun cs=>(u8L cs).map fun ns=>.sc (.string (b2s ns))
 | .bs0 _ s=>some (.sl true () s 0 [])
 | .mkf _ f cs=>if z7m (caps X cs)=true then some (.clos f (caps X cs)) else none
 | .fld _ off c=>match rd X c with
  | .agg cs=>(cs[off]?).bind fun u=>if z0a u=true then some u else none
  | _=>none
 | .nilq _ eq c=>match z6n X (rd X c) with
  | some (_+1)=>some (.sc (.bool (!eq)))
  | _=>none
 | .bsn _ cs=>if (caps X cs).all z1b=true then some (.sl true () 1 cs.length (caps X cs)) else none
 | .cvb _ m=>y44 m (X (100 * m)).1 (X (100 * m)).2
 | .s2b _ c=>y45 (rd X c)
 | .ssl _ c l h=>y46 X l h (rd X c)
 | .six _ c i=>y47 (rd X c) (rd X i)
 | .bsa _ s cs=>(zl5 s (caps X cs)).map fun l=>.sl true () s cs.length l
 | .funq _ eq c=>zrw eq (rd X c)
 | .aaddr _ s n c i=>match rd X i with
  | .sc (.int _ j)=>zcj X s n (rd X c) j
  | _=>none
 | _=>none
def dOf:COp→Nat
 | .mov d _ | .asg d _ | .chk d _ | .pick d _ _ _ | .un d _ _ | .bin d _ _ _ | .beq d _ _ _ | .conv d _ _ | .mx d _ _ _ | .ld d _ _ _ | .faddr d _ _ | .iaddr d _ _ _ | .len d _ | .slen d _ | .slice d _ _ _ _
 | .ext d _ _ | .box d _ | .alloc d _ | .build d _ _ | .make d _ _ _ _ _ | .b2s d _ | .bs1 d _ _ | .app d _ _ _ _ | .bs0 d _ | .mkf d _ _ | .fld d _ _ | .nilq d _ _ | .bsn d _ | .cpy d _ _ _ | .cvb d _ | .s2b d _ | .ssl d _ _ _ | .six d _ _ | .bsa d _ _ | .funq d _ _ | .aaddr d _ _ _ _=>d
 | .st _ _ _=>0
theorem znu {X:XF Unit}{c:COp}{v:AU}(h:z1l X c=some v):stp X c=some (X.set (100 * dOf c) v):=by
 cases c with
 | mov d c =>
  simp only[z1l] at h
  split at h
  ·rename_i hn;cases h;simp only[stp,zfk,hn,if_true,dOf]
  ·cases h
 | chk d c =>
  simp only[z1l] at h
  split at h
  ·rename_i hn;cases h;simp only[stp,hn,if_true,dOf]
  ·cases h
 | pick d c a b =>
  simp only[z1l] at h
  simp only[stp,dOf]
  split at h
  ·rename_i hc
   split at h
   ·rename_i hn;cases h;simp only[hc,if_true,zfk,hn]
   ·cases h
  ·rename_i hc
   split at h
   ·rename_i hn;cases h;simp only[hc,pu,if_false,zfk,hn,if_true]
   ·cases h
  ·cases h
 | un d op c =>
  simp only[z1l] at h
  split at h
  ·rename_i u hu
   simp only[pg] at h
   obtain⟨r,hr,rfl⟩:=h
   simp only[stp,hu,hr,px,dOf]
  ·cases h
 | bin d op a b =>
  simp only[z1l] at h
  split at h
  ·rename_i u v hu hv
   simp only[pg] at h
   obtain⟨r,hr,rfl⟩:=h
   simp only[stp,hu,hv,hr,px,dOf]
  ·cases h
 | beq d eq a b =>
  simp only[z1l] at h
  split at h
  ·rename_i u v hu hv;cases h;simp only[stp,hu,hv,dOf]
  ·cases h
 | conv d k c =>
  simp only[z1l] at h
  split at h
  ·rename_i u hu;cases h;simp only[stp,hu,dOf]
  ·cases h
 | mx d m a b =>
  simp only[z1l] at h
  split at h
  ·rename_i u v hu hv
   simp only[pg] at h
   obtain⟨r,hr,rfl⟩:=h
   simp only[stp,hu,hv,hr,px,dOf]
  ·cases h
 | ld d n ag c =>
  simp only[z1l,pf] at h
  obtain⟨cs,h1,h2⟩:=h
  by_cases hn:z0a (if ag=true then AV.agg cs else cs.getD 0 .non)=true
  ·rw[if_pos hn] at h2
   simp only[pe] at h2
   simp only[stp,h1,po,zfk,dOf];rw[if_pos hn,h2]
  ·rw[if_neg hn] at h2;cases h2
 | faddr d off c=>simp only[z1l] at h;simp only[stp,h,px,dOf]
 | iaddr d s c i =>
  simp only[z1l] at h
  split at h
  ·rename_i k j hj;simp only[stp,hj,h,px,dOf]
  ·cases h
 | len d c =>
  simp only[z1l,pg] at h
  obtain⟨n,h1,rfl⟩:=h
  simp only[stp,h1,px,dOf]
 | slen d c =>
  simp only[z1l] at h
  split at h
  ·rename_i s hs;cases h;simp only[stp,hs,dOf]
  ·cases h
 | slice d s c l hh =>
  simp only[z1l,pf] at h
  obtain⟨n,h1,lo,h2,hi,h3,h4⟩:=h
  simp only[stp,h1,h2,h3,h4,po,px,dOf]
 | build d zs ps =>
  simp only[z1l,pf] at h
  obtain⟨cs,h1,h2⟩:=h
  split at h2
  ·rename_i hn;cases h2;simp only[stp,h1,po,zfk,z0a,hn,if_true,dOf]
  ·cases h2
 | make d s bytes zs l c =>
  simp only[z1l] at h
  split at h
  ·rename_i k a k' b ha hb
   split at h
   ·rename_i hc;cases h;simp only[stp,ha,hb,dOf];rw[if_pos hc]
   ·cases h
  ·cases h
 | b2s d c =>
  simp only[z1l,pf,pg] at h
  obtain⟨cs,h1,ns,h2,rfl⟩:=h
  simp only[stp,h1,h2,po,px,dOf]
 | bs0 d s=>simp only[z1l,pe] at h;subst h;rfl
 | mkf d f cs =>
  simp only[z1l] at h
  split at h
  ·rename_i hc;cases h;simp only[stp,dOf];rw[if_pos hc]
  ·cases h
 | fld d off c =>
  simp only[z1l] at h
  split at h
  ·rename_i cs hc
   simp only[pf] at h
   obtain⟨u,hu,h⟩:=h
   split at h
   ·rename_i hn;cases h;simp only[stp,hc,hu,po,zfk,hn,if_true,dOf]
   ·cases h
  ·cases h
 | nilq d eq c =>
  simp only[z1l] at h
  split at h
  ·rename_i n hn;cases h;simp only[stp,hn,dOf]
  ·cases h
 | bsn d cs =>
  simp only[z1l] at h
  split at h
  ·rename_i hc;cases h;simp only[stp,dOf];rw[if_pos hc]
  ·cases h
 | cvb d m=>simp only[z1l] at h;simp only[stp,h,px,dOf]
 | s2b d c=>simp only[z1l] at h;simp only[stp,h,px,dOf]
 | ssl d c l hh=>simp only[z1l] at h;simp only[stp,h,px,dOf]
 | six d c i=>simp only[z1l] at h;simp only[stp,h,px,dOf]
 | funq d eq c=>simp only[z1l] at h;simp only[stp,h,px,dOf]
 | bsa d s cs =>
  simp only[z1l,pg] at h
  obtain⟨l,h1,rfl⟩:=h
  simp only[stp,h1,px,dOf]
 | aaddr d s n c i =>
  simp only[z1l] at h
  split at h
  ·rename_i k j hj;simp only[stp,hj,h,px,dOf]
  ·cases h
 | _=>simp [z1l] at h
def yl1 (L:SL)(d k n s:Nat)(p:List Nat)(news:List AU):Option AU→Option SL
 | some N=>some (z0l (z9h (z0l L (100 * hh) .non) k (z0z (fnL L k).2 p N)) (100 * d) (.sc (.int .i64 (min (news.length / s) n:Nat))))
 | none=>none
def y2m (L:SL)(d s:Nat)(news:List AU):AU→Option SL
 | .view k g p off n=>if (fnL L k).1=g∧k ≠ 100 * hh∧z4k (fnL L k).2 p=true then yl1 L d k n s p news (cpT n off s news (z0o (fnL L k).2 p)) else none
 | _=>none
def y2n (L:SL)(d s:Nat)(a b:COd):Option SL :=
 (z1q (fnL L) s (rd (fnL L) b)).bind fun news=>if news.all zjc=true∧0 < s then y2m L d s news (rd (fnL L) a) else none
theorem zwa {L L':SL}{d s:Nat}{a b:COd}(e:y2n L d s a b=some L'):cpV (fnL L) d s a b=some (fnL L'):=by
 simp only[y2n,pf] at e
 obtain⟨news,h1,e⟩:=e
 simp only[cpV,h1,po]
 split at e
 ·rename_i hc
  rw[if_pos hc]
  cases hv:rd (fnL L) a with
  | view k g p off n =>
   rw[hv] at e
   simp only[y2m] at e
   simp only[cpD]
   split at e
   ·rename_i hc
    rw[if_pos hc]
    cases ht:cpT n off s news (z0o (fnL L k).2 p) with
    | none=>rw [ht] at e;cases e
    | some N =>
     rw[ht] at e
     simp only[yl1,pe] at e
     subst e
     simp only[cpK,z07,z4b]
   ·cases e
  | _=>rw [hv] at e;simp[y2m] at e
 ·cases e
def z3v (L:SL):COp→Option SL
 | .asg d c=>if z7n (fnL L) c=true then zu4 L d c else znt L d (rd (fnL L) c)
 | .st n a v=>stS L n a v
 | .ext d n i=>y2i L d n i
 | .box d c=>y2j L d c
 | .alloc d zs=>zco L d zs
 | .bs1 d s c=>bsS L d s c
 | .app d s b x y=>if z6p (fnL L) s y=true then y2k L d s b x y else zl9 L d s b x y
 | .cpy d s a b=>y2n L d s a b
 | c=>(z1l (fnL L) c).map fun v=>z0l L (100 * dOf c) v
theorem zhz {L L':SL}{c:COp}(h:z3v L c=some L'):stp (fnL L) c=some (fnL L'):=by
 have pure:((z1l (fnL L) c).map fun v=>z0l L (100 * dOf c) v)=some L'→stp (fnL L) c=some (fnL L'):=by
  intro h
  simp only[pg] at h
  obtain⟨v,h1,rfl⟩:=h
  rw[znu h1,z07]
 cases c with
 | asg d c =>
  simp only[z3v] at h
  simp only[stp]
  split at h
  ·rename_i ho;rw[if_pos ho];exact zhy h
  ·rename_i ho;rw[if_neg ho];exact zs1 h
 | st n a v=>exact y49 h
 | ext d n i=>exact zw6 h
 | box d c=>exact zw7 h
 | alloc d zs=>simp only[stp,zfq h]
 | bs1 d s c=>exact y4a h
 | app d s b x y =>
  simp only[z3v] at h
  simp only[stp]
  split at h
  ·rename_i hp;rw[if_pos hp];exact zw8 h
  ·rename_i hp;rw[if_neg hp];exact zs0 h
 | cpy d s a b=>exact zwa h
 | _=>exact pure h
section
variable {X:XF LO} {β:Nat→Nat × Nat} {I:z12} {w:World} {rg:Nat→Value} {C:Ctx}
theorem y4b {C:Ctx}{o:Oper}{X:XF Unit}{ls:List (Nat × List Nat)}{gs gs':List (Gh Unit)}{as as1 as2:List AU}{r:AU}{own:Bool}{d f t:Nat}{xs:Array Operand}{tys:Array TypeId}{ss:List Nat}{cs:List COd}{cps:List AU}
  (hdst:o.dst=some d) (hlt:d < C.nt) (hin:z0r C.nt o=true) (hop:o.op=.call ⟨.value (.tmp t),xs,tys⟩) (htl:t < C.nt) (hcs:z3s C.nt ss xs.toList=some cs) (hcl:(X (100 * t)).2=.clos f cps)
  (hgs:ls.mapM (z9u X)=some gs) (hnd:(ls.map (·.1)).Nodup) (has1:z13 X ls own cs=some as1) (has2:trL X ls own (100 * t) cps=some as2) (hasE:as=as1 ++ as2) (hlen:as.length≤9000)
  (hrun:∀ args w,(callFunc f args).run C.P w=.ok (.enter f args) w) (hfn:Fn C.P f gs as gs' r) (hok:z6j gs gs'=true) (himm:own=true→gs'.all z5o=true∧z17 r=true) (hroot:roots r=[]) :
  OpOk C o X ((z26 X (ls.zip gs')).set (100 * d) r):=by
 rintro a w hdef ⟨XL,β,I,rg,he,R,hs,ht⟩ K Q hK
 subst he
 have L:=n5 R hgs hnd
 obtain⟨las1,e1,e2,e3⟩:=z5y R (z6b R L own) ss xs.toList cs as1 hcs has1
 -- what the closure holds
 have hclL:∃ lcps:List AL,(XL (100 * t)).2=.clos f lcps∧erL lcps=cps:=by
  simp only[erF] at hcl
  obtain⟨lcps,h1,h2⟩:=zmq hcl
  exact⟨lcps,h1,by rw[z0f];exact h2⟩
 obtain⟨lcps,hX,hcps⟩:=hclL
 have hreg:=R.reg t
 rw[hX] at hreg
 simp only[RR] at hreg
 obtain⟨ys,hval,hRR⟩:=hreg
 have hmem:=(R.key (100 * t)).mem
 rw[hX] at hmem
 simp only[Mem] at hmem
 obtain⟨las2,k1,k2,k3,k4⟩:=zf8 (z6b R L own) (100 * t) lcps ys as2 hRR hmem.1 (fun b o hb=>absurd hb (hmem.2 b o)) (by rw[hcps];exact has2)
 have hxs:las1.length=xs.size:=by simpa using e2
 have hys:las2.length=ys.length:=(z0u.1 k2).1
 have hasl:as.length=las1.length+las2.length:=by
  rw[hasE,qr,← e1,← k1,z0f];simp
 let args:Array Value:=xs.map (evR rg) ++ ys.toArray
 have hargsz:args.size=las1.length+las2.length:=by simp[args,hxs,hys]
 have hval1:∀ t',t' < las1.length→args.getD t' undef=evR rg (xs.toList.getD t' (.const undef)):=by
  intro t' htl
  have:t' < xs.size:=by omega
  simp only[args,pn,ph]
  rw[s8 (by simpa using this)]
  simp[this]
 have hval2:∀ j,j < las2.length→args.getD (las1.length+j) undef=ys.getD j undef:=by
  intro j hj
  simp only[args,pn,ph]
  rw[ta (by simp[hxs])]
  simp[hxs]
 have R0:=z7i (own:=own) (args:=args) R L (las:=las1 ++ las2) (by simp[hargsz]) (fun t' la h=>by
  by_cases hlt':t' < las1.length
  ·rw[qc hlt'] at h
   have hx:xs.toList[t']?=some (xs.toList[t']'(by simpa using hxs ▸ hlt')):=pi _
   rw[hval1 t' hlt',ph,hx]
   exact e3 t' la _ h hx
  ·rw[qf (by omega)] at h
   have hj:t' - las1.length < las2.length:=(pk.1 h).1
   have:=hval2 (t' - las1.length) hj
   rw[show las1.length+(t' - las1.length)=t' by omega] at this
   rw[this]
   have hy:ys[t' - las1.length]?=some (ys[t' - las1.length]'(by omega)):=pi _
   rw[ph,hy]
   refine⟨(z0u.1 k2).2 _ _ _ h hy,z0k.1 k3 la (pj h),?_⟩
   have:∀ (l:List AL),z0n l=true→∀ c ∈ l,z0a c=true:=by
    intro l
    induction l with
    | nil=>intro _ c hc;cases hc
    | cons a l ih =>
     intro hn c hc
     simp only[z0n,pm] at hn
     rcases qj.1 hc with rfl | hc
     ·exact hn.1
     ·exact ih hn.2 c hc
   exact this las2 k4 la (pj h))
 have hcall:=hfn (CC C XL β I w ls own args) (XC XL ls (las1 ++ las2)) (βC XL ls) (IC XL β I ls own) (rgC XL ls args) w args rfl (by rw[zfa L,hasE,sj,e1,← z0f,k1]) R0
  (by rw[hasl,hargsz]) (fun t htl=>by
   simp only[rgC,if_pos (show t < 10000 by omega)])
 have hexec:(execOp (evR rg) o).run C.P w=.ok (.enter f args) w:=by
  have hv:evR rg (.tmp t)=.func (.func f) #[] ys.toArray:=hval
  simp only[execOp,hop,resolve,hv,Deferred.ofValue]
  simp only[qk,s4,qg,invoke,Array.append_empty,Array.empty_append,hrun,args]
 unfold Oper.wp
 rw[zae hin ht,hexec,Oper.upon_enter]
 refine Calls.mono hcall fun e w' hq=>?_
 obtain⟨x,XL',β',I',rg',rfl,R',hx,hF⟩:=hq
 obtain⟨XL2,I2,f1,f2⟩:=z7j R L R' hF hok himm hroot (d:=d) (by have:=C.hnt;omega)
 refine hK _ _ (by simp[Act.put,hdst,hdef]) ⟨XL2,β,I2,_,f1,f2,by simp[Act.put,hdst,hs],fun t htl=>?_⟩
 simp only[Act.put,hdst]
 by_cases e:t=d
 ·subst e;simp[pn,hs,hlt,hx]
 ·simp only[e,if_false]
  rw[← ht t htl]
  simp[pn,qv (Ne.symm e)]
end
def zdq (dead:List Nat)(k:Nat):Bool:=!z2y k && !(decide (k % 100=0) && dead.contains (k / 100))
def z5z (dead:List Nat):SL→SL
 | []=>[]
 | e :: l=>if zdq dead e.1=true then e :: z5z dead l else z5z dead l
def zmf (k:Nat)(e:Nat × AU):SL→SL
 | []=>[(k,e)]
 | (k',e') :: l=>if k < k' then (k,e) :: (k',e') :: l else if k=k' then (k,e) :: l else (k',e') :: zmf k e l
def z9i:SL→SL
 | []=>[]
 | (k,e) :: l=>zmf k e (z9i l)
def z4c:SL→List Nat
 | []=>[]
 | e :: l=>roots e.2.2 ++ z4c l
def zr3 (rs:List Nat):SL→SL
 | []=>[]
 | (k,g,v) :: l=>if rs.contains k=true then (k,g,v) :: zr3 rs l else if v.isNon=true then zr3 rs l else (k,0,v) :: zr3 rs l
def zi0 (rs:List Nat)(k:Nat):Bool:=decide (k % 100=0) || decide (1000000≤k) || rs.any fun r=>decide (r / 100=k / 100) && !decide (r % 100=0)
def z6y (rs:List Nat):SL→SL
 | []=>[]
 | e :: l=>if zi0 rs e.1=true then e :: z6y rs l else z6y rs l
def zmg (dead:List Nat)(L:SL):Option SL :=
 let L1:=z9i (z5z dead L)
 let rs:=z4c L1
 if rs.all (zdq dead)=true then some (zr3 rs (z6y rs L1)) else none
theorem zji (k:Nat)(e:Nat × AU)(j:Nat):∀ l:SL,fnL (zmf k e l) j=if j=k then e else fnL l j
 | []=>by simp[zmf,fnL]
 | (k',e') :: l=>by
  simp only[zmf]
  split
  ·simp only[fnL]
  ·split
   ·rename_i h;subst h
    simp only[fnL]
    split<;>rfl
   ·rename_i h1 h2
    simp only[fnL,zji k e j l]
    by_cases hj:j=k
    ·subst hj;simp[h2]
    ·simp[hj]
theorem zax (j:Nat):∀ l:SL,fnL (z9i l) j=fnL l j
 | []=>rfl
 | (k,e) :: l=>by rw[z9i,zji,zax j l];simp only[fnL]
theorem z7q (dead:List Nat)(j:Nat):∀ l:SL,fnL (z5z dead l) j=if zdq dead j=true then fnL l j else (0,.non)
 | []=>by simp[z5z,fnL]
 | (k,e) :: l=>by
  simp only[z5z]
  split
  ·rename_i h
   simp only[fnL,z7q dead j l]
   by_cases hj:j=k
   ·subst hj;simp[h]
   ·simp[hj]
  ·rename_i h
   simp only[fnL,z7q dead j l]
   by_cases hj:j=k
   ·subst hj;simp[h]
   ·simp[hj]
theorem zay (rs:List Nat)(j:Nat):∀ l:SL,fnL (z6y rs l) j=if zi0 rs j=true then fnL l j else (0,.non)
 | []=>by simp[z6y,fnL]
 | (k,e) :: l=>by
  simp only[z6y]
  split
  ·rename_i h
   simp only[fnL,zay rs j l]
   by_cases hj:j=k
   ·subst hj;simp[h]
   ·simp[hj]
  ·rename_i h
   simp only[fnL,zay rs j l]
   by_cases hj:j=k
   ·subst hj;simp[h]
   ·simp[hj]
def Asc (l:SL):Prop:=l.Pairwise fun a b=>a.1 < b.1
theorem znv {k m:Nat}{e:Nat × AU}:∀ {l:SL},(∀ x ∈ l,m < x.1)→m < k→∀ x ∈ zmf k e l,m < x.1
 | [],h,hk,x,hx=>by simp only[zmf,rm] at hx;subst hx;exact hk
 | (k',e') :: l,h,hk,x,hx=>by
  simp only[zmf] at hx
  split at hx
  ·rcases qj.1 hx with rfl | hx
   ·exact hk
   ·exact h x hx
  ·split at hx
   ·rcases qj.1 hx with rfl | hx
    ·exact hk
    ·exact h x (qd _ hx)
   ·rcases qj.1 hx with rfl | hx
    ·exact h _ (by simp)
    ·exact znv (fun x hx=>h x (qd _ hx)) hk x hx
theorem zjj {k:Nat}{e:Nat × AU}:∀ {l:SL},Asc l→Asc (zmf k e l)
 | [],h=>by simp[zmf,Asc]
 | (k',e') :: l,h=>by
  have h':=se.1 h
  simp only[zmf]
  split
  ·rename_i hlt
   refine se.2 ⟨fun x hx=>?_,h⟩
   rcases qj.1 hx with rfl | hx
   ·exact hlt
   ·exact Nat.lt_trans hlt (h'.1 x hx)
  ·split
   ·rename_i heq
    subst heq
    exact se.2 ⟨fun x hx=>h'.1 x hx,h'.2⟩
   ·exact se.2 ⟨fun x hx=>znv (fun x hx=>h'.1 x hx) (by omega) x hx,zjj h'.2⟩
theorem zfr:∀ l:SL,Asc (z9i l)
 | []=>List.Pairwise.nil
 | (k,e) :: l=>zjj (zfr l)
theorem zaz (rs:List Nat):∀ l:SL,(z6y rs l).Sublist l
 | []=>List.Sublist.slnil
 | e :: l=>by
  simp only[z6y]
  split
  ·exact (zaz rs l).cons_cons e
  ·exact (zaz rs l).cons e
theorem znw {k:Nat}:∀ {l:SL},(∀ x ∈ l,k < x.1)→fnL l k=(0,.non)
 | [],_=>rfl
 | (k',e') :: l,h=>by
  have:=h _ (rn ..)
  simp only[fnL,if_neg (show ¬ k=k' by simp at this;omega)]
  exact znw fun x hx=>h x (qd _ hx)
theorem zs2 {v:AU}(h:v.isNon=true):v=.non:=by cases v<;>simp [AV.isNon] at h;rfl
theorem zjk (rs:List Nat)(j:Nat):∀ {l:SL},Asc l→fnL (zr3 rs l) j=if rs.contains j=true then fnL l j else (0,(fnL l j).2)
 | [],_=>by simp[zr3,fnL]
 | (k,g,v) :: l,h=>by
  have h':=se.1 h
  have ih:=zjk rs j h'.2
  simp only[zr3]
  split
  ·rename_i hk
   simp only[fnL,ih]
   by_cases hj:j=k
   ·subst hj;simp only[hk,if_true]
   ·simp only[hj,if_false]
  ·rename_i hk
   split
   ·rename_i hn
    rw[ih]
    simp only[fnL]
    by_cases hj:j=k
    ·subst hj
     simp only[hk,if_false,if_true]
     rw[znw h'.1,zs2 hn]
     simp
    ·simp only[hj,if_false]
   ·simp only[fnL,ih]
    by_cases hj:j=k
    ·subst hj;simp only[hk,if_false,if_true];simp
    ·simp only[hj,if_false]
theorem zcp {k r:Nat}:∀ {l:SL},r ∈ roots (fnL l k).2→r ∈ z4c l
 | [],h=>by simp[fnL,roots] at h
 | (k',e') :: l,h=>by
  simp only[fnL] at h
  simp only[z4c,qh]
  split at h
  ·exact .inl h
  ·exact .inr (zcp h)
theorem RelT.fin {C:Ctx}{L L':SL}{tm:Array Value}{w:World}{dead:List Nat}(h:RelT C (fnL L) tm w)(hf:zmg dead L=some L'):RelT C (fnL L') tm w:=by
 unfold zmg at hf
 simp only at hf
 split at hf
 ·rename_i ha
  simp only[pe] at hf
  have hX:fnL L'=zhu (fun k=>zdq dead k && zi0 (z4c (z9i (z5z dead L))) k) (fun r=>(z4c (z9i (z5z dead L))).contains r) (fnL L):=by
   funext j
   rw[← hf,zjk _ _ ((zfr _).sublist (zaz _ _)),zay,zax,z7q]
   simp only[zhu]
   by_cases hk:zdq dead j=true
   ·by_cases hb:zi0 (z4c (z9i (z5z dead L))) j=true
    ·simp[hk,hb]
    ·simp[hk,hb]
   ·simp[hk]
  rw[hX]
  refine h.nrm _ _ fun k hk r hr=>?_
  simp only[pm] at hk
  have hm:r ∈ z4c (z9i (z5z dead L)):=zcp (k:=k) (by rw[zax,z7q,if_pos hk.1];exact hr)
  refine⟨?_,by simpa using hm⟩
  simp only[pm]
  refine⟨qe.1 ha r hm,?_⟩
  simp only[zi0,qp,decide_eq_true_eq]
  by_cases h0:r % 100=0
  ·exact .inl (.inl h0)
  ·exact .inr (List.any_eq_true.2 ⟨r,hm,by simp[h0]⟩)
 ·cases hf
inductive It where
 | op (g:Option (Nat × Bool)) (c:COp)
 | call (g:Option (Nat × Bool)) (d f:Nat) (cs:List COd)
 | clo (g:Option (Nat × Bool)) (d t:Nat) (cs:List COd)
 | nilq (d:Nat) (eq:Bool) (c:COd)
 | bad
inductive Sg where
 | o (l:List COp)
 | g (t:Nat) (w:Bool) (l:List COp)
 | call (g:Option (Nat × Bool)) (d f:Nat) (cs:List COd)
 | clo (g:Option (Nat × Bool)) (d t:Nat) (cs:List COd)
 | nilq (d:Nat) (eq:Bool) (c:COd)
 | bad
def z21:List Sg→List It
 | []=>[]
 | .o l :: r=>l.map (.op none) ++ z21 r
 | .g t w l :: r=>l.map (.op (some (t,w))) ++ z21 r
 | .call g d f cs :: r=>.call g d f cs :: z21 r
 | .clo g d t cs :: r=>.clo g d t cs :: z21 r
 | .nilq d eq c :: r=>.nilq d eq c :: z21 r
 | .bad :: r=>.bad :: z21 r
def zi1 (P:Program)(nt:Nat):List Operand→List TypeId→Option (List COd)
 | x :: xs,t :: ts=>(compOd nt (elemSz P t) x).bind fun c=>(zi1 P nt xs ts).map fun cs=>c :: cs
 | [],_=>some []
 | _,_=>none
def zi2 (P:Program)(nt:Nat)(ops:Array Oper)(here:List Nat)(o:Oper):Option It :=
 (z56 nt ops o.guard).bind fun g =>
  match o.op with
  | .call ⟨.value (.func f),xs,ts⟩=>(z3b nt o).bind fun d=>if z0r nt o=true∧xs.size≤9000 then (zi1 P nt xs.toList ts.toList).map fun cs=>.call g d f cs else none
  | .call ⟨.value (.tmp t),xs,ts⟩=>(z3b nt o).bind fun d=>if z0r nt o=true∧xs.size≤4500∧t < nt then (zi1 P nt xs.toList ts.toList).map fun cs=>.clo g d t cs else none
  | .binOp op t x y _=>(match zrz P op t y,g with
   | some eq,none=>(z3b nt o).bind fun d=>(compOd nt 0 x).bind fun c=>if z0r nt o=true then some (.nilq d eq c) else none
   | _,_=>(zav P nt here o).bind fun c=>match c with
    | .st _ _ _=>none
    | c=>if o.dst=some (dOf c)∧dOf c < nt then some (.op g c) else none)
  | _=>(zav P nt here o).bind fun c=>match c with
   | .st _ _ _=>if o.dst=none then some (.op g c) else none
   | c=>if o.dst=some (dOf c)∧dOf c < nt then some (.op g c) else none
def zeu (P:Program)(nt:Nat)(ops:Array Oper)(here:List Nat)(o:Oper):Option It:=some ((zi2 P nt ops here o).getD .bad)
theorem zdr {P:Program}{nt:Nat}{ops:Array Oper}{here:List Nat}{o:Oper}{it:It}(h:zeu P nt ops here o=some it)(hne:it ≠ .bad):zi2 P nt ops here o=some it:=by
 simp only[zeu,pe] at h
 cases hi:zi2 P nt ops here o with
 | none=>rw [hi] at h;exact absurd h.symm hne
 | some i=>rw [hi] at h;simpa using h
def z8m (P:Program)(nt:Nat)(ops:Array Oper)(here:List Nat):List Nat→Option (List It)
 | []=>some []
 | i :: l=>(ops[i]?).bind fun o=>(zeu P nt ops here o).bind fun c=>(z8m P nt ops here l).map fun r=>c :: r
inductive C0 where
 | skip | ret
 | label (l:Nat)
 | exit (id:Nat)
 | reg (l:List It)
 | draw (pl:List (List Nat)) (l:List It)
 | seq (a b:C0)
 | cond (c:COd) (a b:C0)
 | block (id:Nat) (a:C0)
 | loop (a:C0)
 | scope (a:C0)
inductive Cd where
 | skip | ret
 | label (l:Nat)
 | exit (id:Nat)
 | reg (dead:List Nat) (l:List Sg)
 | draw (pl:List (List Nat)) (dead:List Nat) (l:List Sg)
 | seq (a b:Cd)
 | cond (c:COd) (a b:Cd)
 | block (id:Nat) (a:Cd)
 | loop (a:Cd)
 | scope (a:Cd)
def Cd.er:Cd→C0
 | .skip=>.skip
 | .ret=>.ret
 | .label l=>.label l
 | .exit id=>.exit id
 | .reg _ l=>.reg (z21 l)
 | .draw pl _ l=>.draw pl (z21 l)
 | .seq a b=>.seq a.er b.er
 | .cond c a b=>.cond c a.er b.er
 | .block id a=>.block id a.er
 | .loop a=>.loop a.er
 | .scope a=>.scope a.er
def comp (P:Program)(nt:Nat):Code→Option C0
 | .skip=>some .skip
 | .ret=>some .ret
 | .label l=>some (.label l)
 | .exit id=>some (.exit id)
 | .region _ ops false=>(z8m P nt ops (z95 ops) (List.range ops.size)).map .reg
 | .region _ ops true=>(z8m P nt ops (z95 ops) (List.range ops.size)).map fun l=>.draw (ops.toList.map z1y) l
 | .seq a b=>(comp P nt a).bind fun ca=>(comp P nt b).map fun cb=>.seq ca cb
 | .cond c a b=>(compOd nt 0 c).bind fun co=>(comp P nt a).bind fun ca=>(comp P nt b).map fun cb=>.cond co ca cb
 | .block id a=>(comp P nt a).map (.block id)
 | .loop a=>(comp P nt a).map .loop
 | .scope a=>(comp P nt a).map .scope
 | _=>none
def QX (Q:Ex→SL→Prop):Ex→XF Unit→Prop:=fun e X=>∃ L,X=fnL L∧Q e L
def WL (P:Program)(nt:Nat)(cc:Cd)(L:SL)(Q:Ex→SL→Prop):Prop :=
 ∀ (C:Ctx) (code:Code),C.P=P→C.nt=nt→comp P nt code=some cc.er→AWp C code (fnL L) (QX Q)
section
variable {P:Program} {nt:Nat} {L:SL} {Q:Ex→SL→Prop}
theorem WL.skip (h:Q .nrm L):WL P nt .skip L Q:=by
 intro C code hP hn hc
 cases code<;>simp only[comp,Cd.er,pf,pg,pe,reduceCtorEq,and_false,exists_false,exists_const,C0.label.injEq,C0.exit.injEq] at hc
 case skip=>exact AWp.skip ⟨L,rfl,h⟩
 case region id ops d=>cases d<;>simp [comp] at hc
theorem WL.ret (h:Q .ret L):WL P nt .ret L Q:=by
 intro C code hP hn hc
 cases code<;>simp only[comp,Cd.er,pf,pg,pe,reduceCtorEq,and_false,exists_false,exists_const,C0.label.injEq,C0.exit.injEq] at hc
 case ret=>exact AWp.ret ⟨L,rfl,h⟩
 case region id ops d=>cases d<;>simp [comp] at hc
theorem WL.label {l:Nat}(h:Q .nrm L):WL P nt (.label l) L Q:=by
 intro C code hP hn hc
 cases code<;>simp only[comp,Cd.er,pf,pg,pe,reduceCtorEq,and_false,exists_false,exists_const,C0.label.injEq,C0.exit.injEq] at hc
 case label=>exact AWp.label ⟨L,rfl,h⟩
 case region id ops d=>cases d<;>simp [comp] at hc
theorem WL.exit {id:Nat}(h:Q (.ext id) L):WL P nt (.exit id) L Q:=by
 intro C code hP hn hc
 cases code<;>simp only[comp,Cd.er,pf,pg,pe,reduceCtorEq,and_false,exists_false,exists_const,C0.label.injEq,C0.exit.injEq] at hc
 case exit=>subst hc;exact AWp.exit ⟨L,rfl,h⟩
 case region id ops d=>cases d<;>simp [comp] at hc
def wg (next:SL→Prop)(Q:Ex→SL→Prop):Ex→SL→Prop
 | .nrm,L=>next L
 | e,L=>Q e L
theorem WL.seq {a b:Cd}(h:WL P nt a L (wg (fun L'=>WL P nt b L' Q) Q)):WL P nt (.seq a b) L Q:=by
 intro C code hP hn hc
 cases code<;>simp only[comp,Cd.er,pf,pg,pe,reduceCtorEq,and_false,exists_false,exists_const] at hc
 case seq x y =>
  obtain⟨ca,h1,cb,h2,h3⟩:=hc
  simp only[C0.seq.injEq] at h3
  obtain⟨rfl,rfl⟩:=h3
  refine AWp.seq ((h C x hP hn h1).cons fun e X hq=>?_)
  obtain⟨L',rfl,hq⟩:=hq
  cases e with
  | nrm=>exact hq C y hP hn h2
  | ext id=>exact ⟨L',rfl,hq⟩
  | ret=>exact ⟨L',rfl,hq⟩
 case region id ops d=>cases d<;>simp [comp] at hc
theorem WL.cond {co:COd}{a b:Cd}{t:Bool}(hb:rd (fnL L) co=.sc (.bool t))(ht:t=true→WL P nt a L Q)(hf:t=false→WL P nt b L Q):WL P nt (.cond co a b) L Q:=by
 intro C code hP hn hc
 cases code<;>simp only[comp,Cd.er,pf,pg,pe,reduceCtorEq,and_false,exists_false,exists_const] at hc
 case cond c x y =>
  obtain⟨co',h0,ca,h1,cb,h2,h3⟩:=hc
  simp only[C0.cond.injEq] at h3
  obtain⟨rfl,rfl,rfl⟩:=h3
  exact AWp.cond (by rw[hn];exact h0) hb (fun h=>ht h C x hP hn h1) (fun h=>hf h C y hP hn h2)
 case region id ops d=>cases d<;>simp [comp] at hc
def wj (id:Nat)(Q:Ex→SL→Prop):Ex→SL→Prop
 | .ext id',L=>if id'=id then Q .nrm L else Q (.ext id') L
 | e,L=>Q e L
theorem WL.block {id:Nat}{a:Cd}(h:WL P nt a L (wj id Q)):WL P nt (.block id a) L Q:=by
 intro C code hP hn hc
 cases code<;>simp only[comp,Cd.er,pf,pg,pe,reduceCtorEq,and_false,exists_false,exists_const] at hc
 case block id' x =>
  obtain⟨ca,h1,h3⟩:=hc
  simp only[C0.block.injEq] at h3
  obtain⟨rfl,rfl⟩:=h3
  refine AWp.block ((h C x hP hn h1).cons fun e X hq=>?_)
  obtain⟨L',rfl,hq⟩:=hq
  cases e with
  | nrm=>exact ⟨L',rfl,hq⟩
  | ext id2 =>
   simp only[wj] at hq
   simp only[nw]
   split
   ·rename_i e;rw[if_pos e] at hq;exact⟨L',rfl,hq⟩
   ·rename_i e;rw[if_neg e] at hq;exact⟨L',rfl,hq⟩
  | ret=>exact ⟨L',rfl,hq⟩
 case region id ops d=>cases d<;>simp [comp] at hc
theorem WL.scope {a:Cd}(h:WL P nt a L Q):WL P nt (.scope a) L Q:=by
 intro C code hP hn hc
 cases code<;>simp only[comp,Cd.er,pf,pg,pe,reduceCtorEq,and_false,exists_false,exists_const] at hc
 case scope x =>
  obtain⟨ca,h1,h3⟩:=hc
  simp only[C0.scope.injEq] at h3
  subst h3
  exact AWp.scope (h C x hP hn h1)
 case region id ops d=>cases d<;>simp [comp] at hc
theorem WL.loop {ι:Type}{a:Cd}(S:ι→SL) (μ:ι→Nat)(i:ι)(hL:L=S i)(h:∀ i,WL P nt a (S i) (wg (fun L'=>∃ j,L'=S j∧μ j < μ i) Q)):WL P nt (.loop a) L Q:=by
 intro C code hP hn hc
 subst hL
 cases code<;>simp only[comp,Cd.er,pf,pg,pe,reduceCtorEq,and_false,exists_false,exists_const] at hc
 case loop x =>
  obtain⟨ca,h1,h3⟩:=hc
  simp only[C0.loop.injEq] at h3
  subst h3
  refine AWp.loop (fun i=>fnL (S i)) μ i fun i=>((h i C x hP hn h1).cons fun e X hq=>?_)
  obtain⟨L',rfl,hq⟩:=hq
  cases e with
  | nrm =>
   obtain⟨j,rfl,hj⟩:=hq
   exact⟨j,rfl,hj⟩
  | ext id=>exact ⟨L',rfl,hq⟩
  | ret=>exact ⟨L',rfl,hq⟩
 case region id ops d=>cases d<;>simp [comp] at hc
theorem WL.fin {cc:Cd}{L':SL}(dead:List Nat)(hf:zmg dead L=some L')(h:WL P nt cc L' Q):WL P nt cc L Q:=by
 intro C code hP hn hc a w hd hr
 exact h C code hP hn hc a w hd (hr.fin hf)
theorem WL.mono {cc:Cd}{Q':Ex→SL→Prop}(h:WL P nt cc L Q')(hq:∀ e L,Q' e L→Q e L):WL P nt cc L Q:=by
 intro C code hP hn hc
 exact (h C code hP hn hc).cons fun e X ⟨L',e1,e2⟩=>⟨L',e1,hq _ _ e2⟩
def RL (P:Program)(nt:Nat)(segs:List Sg)(L:SL)(K:SL→Prop):Prop :=
 ∀ (C:Ctx) (ops:Array Oper) (idx:List Nat),C.P=P→C.nt=nt→z8m P nt ops (z95 ops) idx=some (z21 segs)→∀ (a:Act) (w:World) (Q:Exit→Act→World→Prop),a.defers=[]→RelT C (fnL L) a.tmps w →
  (∀ (L':SL) (a':Act) (w':World),a'.defers=[]→RelT C (fnL L') a'.tmps w'→K L'→Q .normal a' w')→wpOps C.P ops Q idx a w
theorem RL.nil {K:SL→Prop}(h:K L):RL P nt [] L K:=by
 intro C ops idx hP hn hc a w Q hd hr hK
 cases idx with
 | nil=>simp only[Go.wpOps];exact hK L a w hd hr h
 | cons i l =>
  simp only[z8m,z21,pf,pg,reduceCtorEq,and_false,exists_false] at hc
theorem zjl {ops:Array Oper}{here:List Nat}{idx:List Nat}{it:It}{r:List It}(h:z8m P nt ops here idx=some (it :: r)):∃ i l o,idx=i :: l∧ops[i]?=some o∧zeu P nt ops here o=some it∧z8m P nt ops here l=some r:=by
 cases idx with
 | nil=>simp [z8m] at h
 | cons i l =>
  simp only[z8m,pf,pg] at h
  obtain⟨o,ho,c',hc',r',hr',e⟩:=h
  simp only[List.cons.injEq] at e
  obtain⟨rfl,rfl⟩:=e
  exact⟨i,l,o,rfl,ho,hc',hr'⟩
theorem RL.cons {K:SL→Prop}{segs rest:List Sg}{it:It}{L1:SL}(hf:z21 segs=it :: z21 rest)
  (hs:∀ (C:Ctx) (ops:Array Oper) (i:Nat) (o:Oper),C.P=P→C.nt=nt→ops[i]?=some o→zeu P nt ops (z95 ops) o=some it→SOk C ops i (fnL L) (fnL L1)) (h:RL P nt rest L1 K):RL P nt segs L K:=by
 intro C ops idx hP hn hc a w Q hd hr hK
 rw[hf] at hc
 obtain⟨i,l,o,rfl,ho,hit,hl⟩:=zjl hc
 rw[wpOps_cons]
 exact hs C ops i o hP hn ho hit a w _ Q hd hr fun a' w' hd' hr'=>h C ops l hP hn hl a' w' Q hd' hr' hK
def gv (w:Bool):AU→Option Bool
 | .sc (.bool b)=>some (b == w)
 | .sc (.tuple _)=>some false
 | _=>none
def zfs (L:SL):COp→SL
 | .st _ _ _=>L
 | c=>z0l L (100 * dOf c) (.sc undef)
def y4c (t:Nat)(w:Bool)(L:SL)(c:COp):Option SL:=(gv w (fnL L (100 * t)).2).bind fun b=>if b=true then z3v L c else some (zfs L c)
theorem z6z {o:Oper}{g:Option (Nat × Bool)}{c:COp}{ops:Array Oper}{here:List Nat}(h:zeu P nt ops here o=some (.op g c)):z56 nt ops o.guard=some g∧zav P nt here o=some c∧((∃ n a v,c=.st n a v∧o.dst=none)∨(o.dst=some (dOf c)∧dOf c < nt∧∀ L,zfs L c=z0l L (100 * dOf c) (.sc undef))):=by
 have h:=zdr h (by simp)
 simp only[zi2,pf] at h
 obtain⟨g',hg,h⟩:=h
 split at h
 ·simp only[pf] at h
  obtain⟨d,_,h⟩:=h
  split at h
  ·simp at h
  ·cases h
 ·simp only[pf] at h
  obtain⟨d,_,h⟩:=h
  split at h
  ·simp at h
  ·cases h
 ·split at h
  ·simp only[pf] at h
   obtain⟨d,_,c',_,h⟩:=h
   split at h<;>simp at h
  ·simp only[pf] at h
   obtain⟨c',hc',h⟩:=h
   split at h
   ·simp at h
   ·rename_i hst
    split at h
    ·rename_i hd
     simp only[pe,It.op.injEq] at h
     obtain⟨rfl,rfl⟩:=h
     refine⟨hg,hc',.inr ⟨hd.1,hd.2,fun L=>?_⟩⟩
     unfold zfs
     split
     ·exact absurd rfl (hst _ _ _)
     ·rfl
    ·cases h
 ·simp only[pf] at h
  obtain⟨c',hc',h⟩:=h
  split at h
  ·split at h
   ·rename_i n a v hd
    simp only[pe,It.op.injEq] at h
    obtain⟨rfl,rfl⟩:=h
    exact⟨hg,hc',.inl ⟨_,_,_,rfl,hd⟩⟩
   ·cases h
  ·rename_i hst
   split at h
   ·rename_i hd
    simp only[pe,It.op.injEq] at h
    obtain⟨rfl,rfl⟩:=h
    refine⟨hg,hc',.inr ⟨hd.1,hd.2,fun L=>?_⟩⟩
    unfold zfs
    split
    ·exact absurd rfl (hst _ _ _)
    ·rfl
   ·cases h
theorem y4d {C:Ctx}{o:Oper}{c:COp}{ops:Array Oper}{here:List Nat}{i:Nat}{L':SL}(hP:C.P=P)(hn:C.nt=nt)(hi:ops[i]?=some o)(h:zeu P nt ops here o=some (.op none c))(hs:z3v L c=some L'):SOk C ops i (fnL L) (fnL L'):=by
 obtain⟨h1,h2,_⟩:=z6z h
 subst hP hn
 have hg:o.guard=none:=by
  cases hgd:o.guard with
  | none=>rfl
  | some jw =>
   obtain⟨j,w⟩:=jw
   rw[hgd] at h1
   simp only[z56,pf] at h1
   obtain⟨t,_,h1⟩:=h1
   split at h1<;>simp at h1
 exact SOk.op hi hg (z6d h2 (zhz hs))
theorem z3c {ops:Array Oper}{og:Option (Nat × Bool)}{t:Nat}{w:Bool}(h:z56 nt ops og=some (some (t,w))):∃ j,og=some (j,w)∧(ops[j]?).bind (·.dst)=some t∧t < nt:=by
 cases og with
 | none=>simp [z56] at h
 | some jw =>
  obtain⟨j,w'⟩:=jw
  simp only[z56,pf] at h
  obtain⟨t',ht,h⟩:=h
  split at h
  ·rename_i hlt
   simp only[pe,qt] at h
   obtain⟨rfl,rfl⟩:=h
   exact⟨j,rfl,by simpa [pf] using ht,hlt⟩
  ·cases h
theorem zb0 {w:Bool}{v:AU}(h:gv w v=some true):v=.sc (.bool w):=by
 unfold gv at h
 split at h
 ·simp only[pe,beq_iff_eq] at h;rw[h]
 ·simp at h
 ·cases h
theorem z7r {w:Bool}{v:AU}(h:gv w v=some false):∃ x,v=.sc x∧x ≠ .bool w:=by
 unfold gv at h
 split at h
 ·rename_i b
  simp only[pe,beq_eq_false_iff_ne,ne_eq] at h
  exact⟨_,rfl,fun e=>h (by simpa using e)⟩
 ·exact⟨_,rfl,fun e=>by cases e⟩
 ·cases h
theorem zwb {C:Ctx}{o:Oper}{c:COp}{ops:Array Oper}{here:List Nat}{i t:Nat}{w:Bool}{L':SL}(hP:C.P=P)(hn:C.nt=nt)(hi:ops[i]?=some o)(h:zeu P nt ops here o=some (.op (some (t,w)) c))(hs:y4c t w L c=some L'):SOk C ops i (fnL L) (fnL L'):=by
 obtain⟨h1,h2,h3⟩:=z6z h
 subst hP hn
 obtain⟨j,hg,ht,hlt⟩:=z3c h1
 simp only[y4c,pf] at hs
 obtain⟨b,hb,hs⟩:=hs
 cases b with
 | true =>
  simp only[if_true] at hs
  exact n7 hi hg ht hlt (zb0 hb) (z6d h2 (zhz hs))
 | false =>
  simp only[pu,if_false,pe] at hs
  subst hs
  obtain⟨x,hx,hne⟩:=z7r hb
  rcases h3 with ⟨n,a,v,rfl,hd⟩ | ⟨hd,hdl,hsk⟩
  ·exact nq hi hg ht hlt hx hne hd
  ·rw[hsk,← z07]
   exact SOk.no hi hg ht hlt hx hne hd hdl
def yl2:Option SL→COp→Option SL
 | none,_=>none
 | some L,c=>z3v L c
def znx:List COp→Option SL→Option SL
 | [],r=>r
 | c :: l,r=>znx l (yl2 r c)
def zny (t:Nat)(w:Bool):Option SL→COp→Option SL
 | none,_=>none
 | some L,c=>y4c t w L c
def znz (t:Nat)(w:Bool):List COp→Option SL→Option SL
 | [],r=>r
 | c :: l,r=>znz t w l (zny t w r c)
theorem zb1:∀ l:List COp,znx l none=none
 | []=>rfl
 | _ :: l=>zb1 l
theorem zb2 {t:Nat}{w:Bool}:∀ l:List COp,znz t w l none=none
 | []=>rfl
 | _ :: l=>zb2 l
def z5p:List Sg→Option SL→Option SL
 | [],r=>r
 | .o l :: s,r=>z5p s (znx l r)
 | .g t w l :: s,r=>z5p s (znz t w l r)
 | _ :: _,_=>none
theorem z6e:∀ l:List Sg,z5p l none=none
 | []=>rfl
 | .o l :: s=>by simp only[z5p,zb1,z6e s]
 | .g t w l :: s=>by simp only[z5p,zb2,z6e s]
 | .call _ _ _ _ :: _=>rfl
 | .clo _ _ _ _ :: _=>rfl
 | .nilq _ _ _ :: _=>rfl
 | .bad :: _=>rfl
theorem RL.o {K:SL→Prop}{rest:List Sg}:∀ {l:List COp} {L L1:SL},znx l (some L)=some L1→RL P nt rest L1 K→RL P nt (.o l :: rest) L K
 | [],L,L1,hr,h=>by
  simp only[znx,pe] at hr
  subst hr
  intro C ops idx hP hn hc
  exact h C ops idx hP hn (by simpa [z21] using hc)
 | c :: l,L,L1,hr,h=>by
  simp only[znx,yl2] at hr
  cases hs:z3v L c with
  | none=>rw [hs,zb1] at hr;cases hr
  | some L2 =>
   rw[hs] at hr
   exact RL.cons (it:=.op none c) (rest:=.o l :: rest) (by simp[z21]) (fun C ops i o hP hn hi hit=>y4d hP hn hi hit hs) (RL.o (l:=l) hr h)
theorem RL.g {K:SL→Prop}{rest:List Sg}{t:Nat}{w:Bool}:∀ {l:List COp} {L L1:SL},znz t w l (some L)=some L1→RL P nt rest L1 K→RL P nt (.g t w l :: rest) L K
 | [],L,L1,hr,h=>by
  simp only[znz,pe] at hr
  subst hr
  intro C ops idx hP hn hc
  exact h C ops idx hP hn (by simpa [z21] using hc)
 | c :: l,L,L1,hr,h=>by
  simp only[znz,zny] at hr
  cases hs:y4c t w L c with
  | none=>rw [hs,zb2] at hr;cases hr
  | some L2 =>
   rw[hs] at hr
   exact RL.cons (it:=.op (some (t,w)) c) (rest:=.g t w l :: rest) (by simp[z21]) (fun C ops i o hP hn hi hit=>zwb hP hn hi hit hs) (RL.g (l:=l) hr h)
theorem RL.run {K:SL→Prop}:∀ {segs:List Sg} {L L1:SL},z5p segs (some L)=some L1→K L1→RL P nt segs L K
 | [],L,L1,hr,h=>by simp only[z5p,pe] at hr;subst hr;exact RL.nil h
 | .o l :: s,L,L1,hr,h=>by
  simp only[z5p] at hr
  cases hs:znx l (some L) with
  | none=>rw [hs,z6e] at hr;cases hr
  | some L2=>rw [hs] at hr;exact RL.o hs (RL.run hr h)
 | .g t w l :: s,L,L1,hr,h=>by
  simp only[z5p] at hr
  cases hs:znz t w l (some L) with
  | none=>rw [hs,z6e] at hr;cases hr
  | some L2=>rw [hs] at hr;exact RL.g hs (RL.run hr h)
theorem WL.reg {dead:List Nat}{segs:List Sg}(h:RL P nt segs L fun L1=>∃ L2,zmg dead L1=some L2∧Q .nrm L2):WL P nt (.reg dead segs) L Q:=by
 intro C code hP hn hc
 cases code<;>simp only[comp,Cd.er,pf,pg,pe,reduceCtorEq,and_false,exists_false,exists_const] at hc
 case region id ops d =>
  cases d with
  | true=>simp [comp] at hc
  | false =>
   simp only[comp,pg,C0.reg.injEq] at hc
   obtain⟨its,h1,rfl⟩:=hc
   refine fun a w hd hr=>wp_region (h C ops _ hP hn h1 a w _ hd hr fun L1 a' w' hd' hr' hq=>?_)
   obtain⟨L2,h3,h4⟩:=hq
   exact⟨hd',fnL L2,hr'.fin h3,L2,rfl,h4⟩
theorem WL.sreg {dead:List Nat}{segs:List Sg}{y:Cd}{L1 L2:SL}(h1:z5p segs (some L)=some L1)(h2:zmg dead L1=some L2)(h:WL P nt y L2 Q):WL P nt (.seq (.reg dead segs) y) L Q :=
 WL.seq (WL.reg (RL.run h1 ⟨L2,h2,h⟩))
theorem w7 {dead:List Nat}{segs:List Sg}{y:Cd}(h:RL P nt segs L fun L1=>∃ L2,zmg dead L1=some L2∧WL P nt y L2 Q):WL P nt (.seq (.reg dead segs) y) L Q :=
 WL.seq (WL.reg h)
theorem ww {cc:Cd}{y:Cd}(L':SL)(h:WL P nt cc L fun e L1=>e=.nrm∧L1=L')(h':WL P nt y L' Q):WL P nt (.seq cc y) L Q :=
 WL.seq (h.mono fun e L1 ⟨h1,h2⟩=>by subst h1 h2;exact h')
end
mutual
theorem zcq {L:Type}:∀ v:AV L,z0a (z1p v)=true
 | .sl _ _ _ _ _=>by simp[z1p,z0a]
 | .bx _ _ _=>by simp[z1p,z0a]
 | .agg cs=>by simp only[z1p,z0a];exact z70 cs
 | .tuple cs=>by simp only[z1p,z0a];exact z70 cs
 | .sc _ | .view _ _ _ _ _ | .ptr _ _ _ _ | .bptr _ _ _ | .vptr _ _ | .clos _ _ | .dead | .non=>by simp[z1p,z0a]
theorem z70 {L:Type}:∀ vs:List (AV L),z0n (z0x vs)=true
 | []=>rfl
 | v :: vs=>by simp only[z0x,z0n,zcq v,z70 vs,tj]
end
mutual
theorem zo0 {X:XF LO} {β:Nat→Nat × Nat}:∀ (v:AL) (x:Value),RR X β v x→RR X β (z1p v) x
 | .sl o l s n cs,x,h=>by
  have h':CR (.sl o l s n cs) x:=by simpa [RR] using h
  have:=z8k h'
  simpa [z1p,RR] using this
 | .bx o l cs,x,h=>by
  have h':CR (.bx o l cs) x:=by simpa [RR] using h
  have:=z8k h'
  simpa [z1p,RR] using this
 | .agg cs,x,h=>by
  simp only[z1p,RR] at h ⊢
  obtain⟨xs,h1,h2⟩:=h
  exact⟨xs,h1,zds cs xs h2⟩
 | .tuple cs,x,h=>by
  simp only[z1p,RR] at h ⊢
  obtain⟨xs,h1,h2⟩:=h
  exact⟨xs,h1,zds cs xs h2⟩
 | .sc _,_,h | .view _ _ _ _ _,_,h | .ptr _ _ _ _,_,h | .bptr _ _ _,_,h | .vptr _ _,_,h | .clos _ _,_,h | .dead,_,h | .non,_,h=>by simpa [z1p] using h
theorem zds {X:XF LO} {β:Nat→Nat × Nat}:∀ (vs:List AL) (xs:List Value),RRL X β vs xs→RRL X β (z0x vs) xs
 | [],xs,h=>by simpa [z0x,RRL] using h
 | v :: vs,xs,h=>by
  simp only[z0x,RRL] at h ⊢
  obtain⟨y,ys,h1,h2,h3⟩:=h
  exact⟨y,ys,h1,zo0 v y h2,zds vs ys h3⟩
end
theorem zi3 {L:Type}(v:AV L):(z1p v).cells?=v.cells?.map (·.map z1p):=by
 cases v<;>simp [z1p,AV.cells?,z3n]
theorem zwc (v:AL):hd (z1p v)=hd v:=by cases v<;>simp [z1p,hd]
theorem zft (p:List Nat):∀ v:AL,(z0o (z1p v) p).bind hd=(z0o v p).bind hd:=by
 induction p with
 | nil=>intro v;simp[z0o,zwc]
 | cons i p ih =>
  intro v
  simp only[z0o,zi3]
  cases hc:v.cells? with
  | none=>simp
  | some cs =>
   simp only[px,qa]
   cases hi:cs[i]? with
   | none=>simp
   | some u=>simpa using ih u
theorem zdt (v:AL):z1p v=.non ↔ v=.non:=by cases v<;>simp [z1p]
theorem zwd {X Y:XF LO} {β:Nat→Nat × Nat}(hRR:∀ (v:AL)(x:Value),RR X β v x→RR Y β v x){v:AL}{y:Value}(h:CX X β v y):CX Y β (z1p v) y:=by
 rcases h with h | ⟨hv,h⟩
 ·exact .inl (z8k h)
 ·have e:z1p v=v:=by cases v<;>simp [zhc] at hv<;>simp [z1p]
  rw[e]
  exact .inr ⟨hv,hRR _ _ h⟩
theorem RelL.freeze {C:Ctx}{X:XF LO} {β:Nat→Nat × Nat}{I:z12}{rg:Nat→Value}{w:World}(R:RelL C X β I rg w)(k:Nat) :
  RelL C (X.upd k (z1p (X k).2)) β (fun b o=>I b o∨fp (X k).2 b o) rg w:=by
 have hk:∀ k' b o,kfp β (X.upd k (z1p (X k).2)) k' b o→kfp β X k' b o∧(k'=k→¬ fp (X k).2 b o):=by
  intro k' b o h
  by_cases e:k'=k
  ·subst e
   simp only[kfp,wb] at h
   rcases h with h | ⟨h1,h2,h3⟩
   ·exact absurd h (zak _ _ _)
   ·have hne:(X k').2 ≠ .non:=fun e=>h2 ((zdt _).2 e)
    refine⟨.inr ⟨h1,hne,h3⟩,fun _ hf=>?_⟩
    obtain⟨rfl,rfl⟩:=h3
    exact ((R.key k').cell h1 hne).2 hf
  ·simp only[kfp,wd _ _ e] at h
   exact⟨h,fun h'=>absurd h' e⟩
 have hRR:∀ (v:AL) (x:Value),RR X β v x→RR (X.upd k (z1p (X k).2)) β v x:=fun v x h=>z2b ⟨fun j=>by
   by_cases e:j=k
   ·subst e;rw[wb];exact pr _
   ·rw[wd _ _ e];exact pr _,fun j _ p h hh=>by
   by_cases e:j=k
   ·subst e;rw[wb,zft];exact hh
   ·rw[wd _ _ e];exact hh,fun _ _=>rfl⟩ v x h
 refine⟨fun t=>?_,fun k'=>?_,fun a b hne b' o h1 h2=>R.disj a b hne b' o (hk _ _ _ h1).1 (hk _ _ _ h2).1,fun b o h=>?_,fun a b o h=>R.frK a b o (hk _ _ _ h).1,fun b o h=>?_,fun b o h=>.inl (R.frI0 b o h),R.fr,R.gh,R.gr⟩
 ·by_cases e:100 * t=k
  ·subst e
   rw[wb]
   exact hRR _ _ (zo0 _ _ (R.reg t))
  ·rw[wd _ _ e];exact hRR _ _ (R.reg t)
 ·by_cases e:k'=k
  ·subst e
   have h:=R.key k'
   refine⟨?_,?_,?_,fun b o hb=>h.live b o (hk k' b o hb).1,fun h99=>?_⟩
   ·rw[wb];exact z7f _ h.mem (fun b o hb=>.inl hb) (fun b o hb=>.inr hb)
   ·rw[wb];exact (z2h _ (zcq _)).2
   ·rw[wb]
    intro h1 h2
    have hne:(X k').2 ≠ .non:=fun e=>h2 ((zdt _).2 e)
    obtain⟨⟨y,hy,hc⟩,hf⟩:=h.cell h1 hne
    exact⟨⟨y,hy,zwd hRR hc⟩,zak _ _ _⟩
   ·rw[wb,zdt];exact h.last h99
  ·have h:=R.key k'
   refine⟨by rw[wd _ _ e];exact z4r _ h.mem (fun b o hb=>.inl hb),by rw[wd _ _ e];exact h.sep,by rw[wd _ _ e];exact fun h1 h2=>⟨(h.cell h1 h2).1.imp fun y hy=>⟨hy.1,hy.2.imp id fun h=>⟨h.1,hRR _ _ h.2⟩⟩,(h.cell h1 h2).2⟩,fun b o hb=>h.live b o (hk k' b o hb).1,by rw[wd _ _ e];exact h.last⟩
 ·rcases h with h | h
  ·exact⟨(R.imm b o h).1,fun a ha=>(R.imm b o h).2 a (hk _ _ _ ha).1⟩
  ·refine⟨((R.key k).live b o (.inl h)).1,fun a ha=>?_⟩
   obtain⟨h1,h2⟩:=hk _ _ _ ha
   by_cases e:a=k
   ·exact h2 e h
   ·exact R.disj a k e b o h1 (.inl h)
 ·rcases h with h | h
  ·exact R.frI b o h
  ·exact .inr (R.frK k b o (.inl h))
theorem zi4 (X:XF LO)(k:Nat):erF (X.upd k (z1p (X k).2))=(erF X).upd k (z1p (erF X k).2):=by
 rw[zad,zn0];rfl
theorem RelT.freeze {C:Ctx}{X:XF Unit}{tm:Array Value}{w:World}(h:RelT C X tm w)(k:Nat):RelT C (X.upd k (z1p (X k).2)) tm w:=by
 obtain⟨XL,β,I,rg,he,R,hs,ht⟩:=h
 subst he
 exact⟨_,β,_,rg,zi4 XL k,R.freeze k,hs,ht⟩
theorem RelL.nilc {C:Ctx}{X:XF LO} {β:Nat→Nat × Nat}{I:z12}{rg:Nat→Value}{w:World}(R:RelL C X β I rg w)(k:Nat)(o:Bool)(sz:Nat)(v':AL)(hf:∀ b o',¬ fp v' b o')(hfo:∀ b o',¬ fp (X k).2 b o')(hm:Mem w I v')(hs:Sep v')
  (hrr:∀ Y:XF LO,(∀ j,(Y j).1=(X j).1)→∀ x,RR X β (X k).2 x→(∀ (u:AL) (y:Value),RR X β u y→RR Y β u y)→RR Y β v' x) (hcr:∀ y,CR (X k).2 y→CR v' y) (hn:v' ≠ .non) (hn':(X k).2 ≠ .non) (hnode:∀ p h,(z0o (X k).2 p).bind hd ≠ some h) (hvw:zhc (X k).2=false):RelL C (X.upd k v') β I rg w:=by
 have hk:∀ k' b o,kfp β (X.upd k v') k' b o→kfp β X k' b o:=by
  intro k' b o h
  by_cases e:k'=k
  ·subst e
   simp only[kfp,wb] at h
   rcases h with h | ⟨h1,h2,h3⟩
   ·exact absurd h (hf _ _)
   ·exact .inr ⟨h1,hn',h3⟩
  ·simpa only [kfp,wd _ _ e] using h
 have hkeep:Keeps X (X.upd k v') β β:=⟨fun j=>by
   by_cases e:j=k
   ·subst e;rw[wb];exact pr _
   ·rw[wd _ _ e];exact pr _,fun j _ p h hh=>by
   by_cases e:j=k
   ·subst e;exact absurd hh (hnode p h)
   ·rw[wd _ _ e];exact hh,fun _ _=>rfl⟩
 have hRR:∀ (v:AL) (x:Value),RR X β v x→RR (X.upd k v') β v x:=fun v x h=>z2b hkeep v x h
 have hgen:∀ j,((X.upd k v') j).1=(X j).1:=fun j=>by
  by_cases e:j=k
  ·subst e;rw[wb]
  ·rw[wd _ _ e]
 refine⟨fun t=>?_,fun k'=>?_,fun a b hne b' o h1 h2=>R.disj a b hne b' o (hk _ _ _ h1) (hk _ _ _ h2),fun b o h=>⟨(R.imm b o h).1,fun a ha=>(R.imm b o h).2 a (hk _ _ _ ha)⟩,fun a b o h=>R.frK a b o (hk _ _ _ h),R.frI,R.frI0,R.fr,R.gh,R.gr⟩
 ·by_cases e:100 * t=k
  ·subst e
   rw[wb]
   exact hrr _ hgen _ (R.reg t) hRR
  ·rw[wd _ _ e];exact hRR _ _ (R.reg t)
 ·by_cases e:k'=k
  ·subst e
   have h:=R.key k'
   refine⟨by rw[wb];exact hm,by rw[wb];exact hs,?_,fun b o hb=>h.live b o (hk k' b o hb),fun h99=>absurd (h.last h99) hn'⟩
   rw[wb]
   intro h1 _
   obtain⟨⟨y,hy,hc⟩,_⟩:=h.cell h1 hn'
   exact⟨⟨y,hy,.inl (hcr y (hc.cr hvw))⟩,hf _ _⟩
  ·have h:=R.key k'
   refine⟨by rw[wd _ _ e];exact h.mem,by rw[wd _ _ e];exact h.sep,by rw[wd _ _ e];exact fun h1 h2=>⟨(h.cell h1 h2).1.imp fun y hy=>⟨hy.1,hy.2.imp id fun h=>⟨h.1,hRR _ _ h.2⟩⟩,(h.cell h1 h2).2⟩,fun b o hb=>h.live b o (hk k' b o hb),by rw[wd _ _ e];exact h.last⟩
theorem RelT.nil1 {C:Ctx}{X:XF Unit}{tm:Array Value}{w:World}(h:RelT C X tm w)(k:Nat)(o:Bool)(sz:Nat)(hv:(X k).2=.sc (.slice none 0 0)):RelT C (X.upd k (.sl o () sz 0 [])) tm w:=by
 obtain⟨XL,β,I,rg,he,R,hs,ht⟩:=h
 subst he
 have hx:(XL k).2=.sc (.slice none 0 0):=zhe hv
 refine⟨XL.upd k (.sl o none sz 0 []),β,I,rg,by rw[zad];rfl,?_,hs,ht⟩
 refine R.nilc k o sz _ (by cases o<;>simp [fp]) (by rw[hx];simp[fp]) (by simp[Mem]) (by cases o<;>simp [Sep]) (fun Y _ x hr _=>?_) (fun y hc=>?_) (by simp) (by rw[hx];simp) (fun p h=>?_) (by rw[hx];rfl)
 ·rw[hx] at hr
  simp only[RR] at hr
  simp only[RR,CR,hr,true_or,and_self]
 ·rw[hx] at hc
  simp only[CR] at hc
  simp only[CR,hc,true_or,and_self]
 ·rw[hx]
  cases p with
  | nil=>simp [z0o,Go.OT.hd]
  | cons i p=>simp [z0o,AV.cells?]
theorem RelT.nilA {C:Ctx}{X:XF Unit}{tm:Array Value}{w:World}(h:RelT C X tm w)(n i sz:Nat){vs:List AU}(hno:z0n vs=true)(hv:(X (100 * n)).2=.agg vs)(hi:vs[i]?=some (.sc (.slice none 0 0))):RelT C (X.upd (100 * n) (.agg (vs.set i (.sl false () sz 0 [])))) tm w:=by
 obtain⟨XL,β,I,rg,he,R,hs,ht⟩:=h
 subst he
 obtain⟨lvs,hx,hl⟩:=z79 (lv:=(XL (100 * n)).2) hv
 have hil:lvs[i]?=some (.sc (.slice none 0 0)):=by
  rw[← hl,qa] at hi
  cases hc:lvs[i]? with
  | none=>simp [hc] at hi
  | some c=>simp only[hc,px,pe] at hi;rw[zhe hi]
 have hnoL:z0n lvs=true:=by
  have:=z5r lvs
  rw[z0f,hl] at this
  rw[← this];exact hno
 have hlt:i < lvs.length:=(pk.1 hil).1
 have hno2:z0n (lvs.set i (.sl false none sz 0 []))=true:=by
  have:∀ (l:List AL) (j:Nat),z0n l=true→z0n (l.set j (.sl false none sz 0 []))=true:=by
   intro l
   induction l with
   | nil=>intro j _;simp[z0n]
   | cons a l ih =>
    intro j h
    simp only[z0n,pm] at h
    cases j with
    | zero=>simp only[List.set_cons_zero,z0n,pm];exact⟨by simp[z0a],h.2⟩
    | succ j=>simp only[List.set_cons_succ,z0n,pm];exact⟨h.1,ih j h.2⟩
  exact this lvs i hnoL
 have hmem:=(R.key (100 * n)).mem
 rw[hx] at hmem
 simp only[Mem] at hmem
 refine⟨XL.upd (100 * n) (.agg (lvs.set i (.sl false none sz 0 []))),β,I,rg,by rw[zad];simp[er,z0f,sq,hl,erL],?_,hs,ht⟩
 refine R.nilc (100 * n) false sz _ ?_ ?_ ?_ ?_ (fun Y _ x hr hY=>?_) (fun y hc=>?_) (by simp) (by rw[hx];simp) (fun p h=>?_) (by rw[hx];rfl)
 ·intro b o' hh;simp only[fp] at hh;exact (z1h _ hno2).1 b o' hh
 ·intro b o' hh;rw[hx] at hh;simp only[fp] at hh;exact (z1h _ hnoL).1 b o' hh
 ·simp only[Mem]
  refine z0k.2 fun c hc=>?_
  rcases si hc with h | h
  ·exact z0k.1 hmem c h
  ·rw[h];simp[Mem]
 ·simp only[Sep];exact (z1h _ hno2).2
 ·rw[hx] at hr
  simp only[RR] at hr ⊢
  obtain⟨xs,rfl,hr⟩:=hr
  refine⟨xs,rfl,?_⟩
  rw[z0u] at hr ⊢
  refine⟨by simp[hr.1],fun j c y h1 h2=>?_⟩
  by_cases e:j=i
  ·subst e
   rw[su hlt] at h1
   cases h1
   have:=hr.2 j _ y hil h2
   simp only[RR] at this
   simp only[RR,CR,this,true_or,and_self]
  ·rw[sf (Ne.symm e)] at h1
   exact hY _ _ (hr.2 j c y h1 h2)
 ·rw[hx] at hc;simp[CR] at hc
 ·rw[hx]
  cases p with
  | nil=>simp [z0o,Go.OT.hd]
  | cons i p=>simp [z0o,AV.cells?]
theorem RelT.own {C:Ctx}{X X':XF Unit}{tm:Array Value}{w:World}(h:RelT C X tm w)(n:Nat)(hn:n < C.nt)(hr:zri X n (.t n)=some X'):RelT C X' tm w:=by
 obtain⟨XL,β,I,rg,he,R,hs,ht⟩:=h
 subst he
 have hnt:C.nt≤H:=by have:=C.hnt;unfold H;omega
 simp only[zri,pg] at hr
 obtain⟨X1,h1,h2⟩:=hr
 obtain⟨XL1,rg1,e1,R1,_,e2,e3⟩:=z40 (x:=.tmp n) (sz:=0) R hnt (by simp[compOd,hn]) h1
 refine⟨_,β,I,_,?_,R1.moveR n H (by have:=C.hnt;omega) (by omega),hs,fun t h=>?_⟩
 ·rw[z03,z03,← h2]
  subst e1;rfl
 ·rw[ht t h]
  split
  ·rename_i e;rw[e2,e];rfl
  ·exact (e3 t (.inl (qo h hnt))).symm
def y4e (L:SL)(k:Nat):SL:=z9h L k (z1p (fnL L k).2)
section
variable {P:Program} {nt:Nat} {L:SL} {Q:Ex→SL→Prop}
theorem WL.freeze {cc:Cd}(k:Nat)(h:WL P nt cc (y4e L k) Q):WL P nt cc L Q:=by
 intro C code hP hn hc a w hd hr
 refine h C code hP hn hc a w hd ?_
 have:=hr.freeze k
 rwa [z4b] at this
theorem WL.own {cc:Cd}{L':SL}(n:Nat)(hlt:n < nt)(hr:zu4 L n (.t n)=some L')(h:WL P nt cc L' Q):WL P nt cc L Q:=by
 intro C code hP hn hc a w hd hR
 exact h C code hP hn hc a w hd (hR.own n (by omega) (zhy hr))
theorem WL.nil1 {cc:Cd}(k:Nat)(o:Bool)(sz:Nat)(hv:(fnL L k).2=.sc (.slice none 0 0))(h:WL P nt cc (z9h L k (.sl o () sz 0 [])) Q):WL P nt cc L Q:=by
 intro C code hP hn hc a w hd hr
 refine h C code hP hn hc a w hd ?_
 have:=hr.nil1 k o sz hv
 rwa [z4b] at this
theorem WL.nilA {cc:Cd}(n i sz:Nat){vs:List AU}(hv:(fnL L (100 * n)).2=.agg vs)(hno:z0n vs=true)(hi:vs[i]?=some (.sc (.slice none 0 0)))(h:WL P nt cc (z9h L (100 * n) (.agg (vs.set i (.sl false () sz 0 [])))) Q):WL P nt cc L Q:=by
 intro C code hP hn hc a w hd hr
 refine h C code hP hn hc a w hd ?_
 have:=hr.nilA n i sz hno hv hi
 rwa [z4b] at this
def FnC (P:Program)(f:FuncId)(gs:List (Gh Unit))(as:List AU)(gs':List (Gh Unit))(r:AU):Prop :=
 Fn P f gs as gs' r∧∀ args w,(callFunc f args).run P w=.ok (.enter f args) w
theorem zdu:∀ {xs:List Operand} {ts:List TypeId} {cs:List COd},zi1 P nt xs ts=some cs→∃ ss,z3s nt ss xs=some cs
 | [],ts,cs,h=>by simp only[zi1,pe] at h;subst h;exact⟨[],rfl⟩
 | x :: xs,[],cs,h=>by simp[zi1] at h
 | x :: xs,t :: ts,cs,h=>by
  simp only[zi1,pf,pg] at h
  obtain⟨c,h1,cs',h2,rfl⟩:=h
  obtain⟨ss,h3⟩:=zdu h2
  exact⟨elemSz P t :: ss,by simp only[z3s,h1,h3]⟩
theorem z4d {o:Oper}{g:Option (Nat × Bool)}{d f:Nat}{cs:List COd}{ops:Array Oper}{here:List Nat}(h:zeu P nt ops here o=some (.call g d f cs)) :
  z56 nt ops o.guard=some g∧o.dst=some d∧d < nt∧z0r nt o=true∧∃ xs ts ss,o.op=.call ⟨.value (.func f),xs,ts⟩∧xs.size≤9000∧z3s nt ss xs.toList=some cs:=by
 have h:=zdr h (by simp)
 simp only[zi2,pf] at h
 obtain⟨g',hg,h⟩:=h
 split at h
 ·rename_i f' xs ts hop
  simp only[pf] at h
  obtain⟨d',hd,h⟩:=h
  split at h
  ·rename_i hc
   simp only[pg,It.call.injEq] at h
   obtain⟨cs',h1,rfl,rfl,rfl,rfl⟩:=h
   obtain⟨ss,h2⟩:=zdu h1
   obtain⟨e1,e2⟩:=z0j hd
   exact⟨hg,e1,e2,hc.1,xs,ts,ss,hop,hc.2,h2⟩
  ·cases h
 ·simp only[pf] at h
  obtain⟨d,_,h⟩:=h
  split at h
  ·simp at h
  ·cases h
 ·split at h
  ·simp only[pf] at h
   obtain⟨d,_,c',_,h⟩:=h
   split at h<;>simp at h
  ·simp only[pf] at h
   obtain⟨c',_,h⟩:=h
   split at h
   ·simp at h
   ·split at h<;>simp at h
 ·simp only[pf] at h
  obtain⟨c',hc',h⟩:=h
  split at h
  ·split at h<;>simp at h
  ·split at h<;>simp at h
def z1d (own:Bool)(gs gs':List (Gh Unit))(r:AU):Bool:=z6j gs gs' && (!own || (gs'.all z5o && z17 r)) && (roots r).isEmpty
def z6k (L:SL):List ((Nat × List Nat) × Gh Unit)→SL
 | []=>L
 | e :: l=>z0l (z6k L l) e.1.1 (z0z (fnL L e.1.1).2 e.1.2 (z3r e.2))
theorem z5h (L:SL):∀ l,z26 (fnL L) l=fnL (z6k L l)
 | []=>rfl
 | e :: l=>by simp only[z26,z6k,z5h L l,z07]
theorem zfu {C:Ctx}{o:Oper}{X:XF Unit}{d f:Nat}{cs:List COd}{ls:List (Nat × List Nat)}{gs gs':List (Gh Unit)}{as:List AU}{r:AU}(own:Bool)(hP:C.P=P)(hn:C.nt=nt)(h1:o.dst=some d)(h2:d < nt)(h3:z0r nt o=true)
  (h4:∃ xs ts ss,o.op=.call ⟨.value (.func f),xs,ts⟩∧xs.size≤9000∧z3s nt ss xs.toList=some cs)
  (hfn:FnC P f gs as gs' r) (hgs:ls.mapM (z9u X)=some gs) (hnd:(ls.map (·.1)).Nodup) (has:z13 X ls own cs=some as) (hs:z1d own gs gs' r=true):OpOk C o X ((z26 X (ls.zip gs')).set (100 * d) r):=by
 obtain⟨xs,ts,ss,e1,e2,e3⟩:=h4
 simp only[z1d,pm,qp,qm,rk] at hs
 obtain⟨⟨s1,s2⟩,s3⟩:=hs
 subst hP hn
 have s2':own=true→gs'.all z5o=true∧z17 r=true:=by
  intro h
  rcases s2 with s2 | s2
  ·rw[s2] at h;cases h
  ·exact s2
 exact zn5 h1 h2 h3 e1 e3 hgs hnd has e2 hfn.2 hfn.1 s1 s2' s3
theorem z1n {ops:Array Oper}{og:Option (Nat × Bool)}(h:z56 nt ops og=some none):og=none:=by
 cases og with
 | none=>rfl
 | some jw =>
  obtain⟨j,w⟩:=jw
  simp only[z56,pf] at h
  obtain⟨t,_,h⟩:=h
  split at h<;>simp at h
theorem zdv {C:Ctx}{ops:Array Oper}{here:List Nat}{i:Nat}{o:Oper}{X:XF Unit}{d f:Nat}{cs:List COd}{ls:List (Nat × List Nat)}{gs gs':List (Gh Unit)}{as:List AU}{r:AU}(own:Bool)(hP:C.P=P)(hn:C.nt=nt)(hi:ops[i]?=some o)(h:zeu P nt ops here o=some (.call none d f cs))
  (hfn:FnC P f gs as gs' r) (hgs:ls.mapM (z9u X)=some gs) (hnd:(ls.map (·.1)).Nodup) (has:z13 X ls own cs=some as) (hs:z1d own gs gs' r=true):SOk C ops i X ((z26 X (ls.zip gs')).set (100 * d) r):=by
 obtain⟨h0,h1,h2,h3,h4⟩:=z4d h
 exact SOk.op hi (z1n h0) (zfu own hP hn h1 h2 h3 h4 hfn hgs hnd has hs)
theorem zfv {C:Ctx}{ops:Array Oper}{here:List Nat}{i t:Nat}{w:Bool}{o:Oper}{X:XF Unit}{d f:Nat}{cs:List COd}{ls:List (Nat × List Nat)}{gs gs':List (Gh Unit)}{as:List AU}{r:AU}(own:Bool)(hP:C.P=P)(hn:C.nt=nt)(hi:ops[i]?=some o)(h:zeu P nt ops here o=some (.call (some (t,w)) d f cs))(hb:(X (100 * t)).2=.sc (.bool w))
  (hfn:FnC P f gs as gs' r) (hgs:ls.mapM (z9u X)=some gs) (hnd:(ls.map (·.1)).Nodup) (has:z13 X ls own cs=some as) (hs:z1d own gs gs' r=true):SOk C ops i X ((z26 X (ls.zip gs')).set (100 * d) r):=by
 obtain⟨h0,h1,h2,h3,h4⟩:=z4d h
 obtain⟨j,hg,ht,hlt⟩:=z3c h0
 exact n7 hi hg ht (by rw[hn];exact hlt) hb (zfu own hP hn h1 h2 h3 h4 hfn hgs hnd has hs)
theorem zfw {C:Ctx}{ops:Array Oper}{here:List Nat}{i t:Nat}{w:Bool}{o:Oper}{X:XF Unit}{d f:Nat}{cs:List COd}(hP:C.P=P)(hn:C.nt=nt)(hi:ops[i]?=some o)(h:zeu P nt ops here o=some (.call (some (t,w)) d f cs)){v:Value}(hb:(X (100 * t)).2=.sc v)(hv:v ≠ .bool w):SOk C ops i X (X.set (100 * d) (.sc undef)):=by
 obtain⟨h0,h1,h2,h3,h4⟩:=z4d h
 obtain⟨j,hg,ht,hlt⟩:=z3c h0
 exact SOk.no hi hg ht (by rw[hn];exact hlt) hb hv h1 (by rw[hn];exact h2)
theorem RL.call {K:SL→Prop}{rest:List Sg}{d f:Nat}{cs:List COd}{gs gs':List (Gh Unit)}{as:List AU}{r:AU}(own:Bool)(ls:List (Nat × List Nat))(hfn:FnC P f gs as gs' r)(hgs:ls.mapM (z9u (fnL L))=some gs)(hnd:(ls.map (·.1)).Nodup)
  (has:z13 (fnL L) ls own cs=some as) (hs:z1d own gs gs' r=true) (h:RL P nt rest (z0l (z6k L (ls.zip gs')) (100 * d) r) K):RL P nt (.call none d f cs :: rest) L K :=
 RL.cons (it:=.call none d f cs) (rest:=rest) rfl (fun C ops i o hP hn hi hit=>by
  have:=zdv own hP hn hi hit hfn hgs hnd has hs
  rwa [z5h,z07] at this) h
theorem pb {K:SL→Prop}{rest:List Sg}{d f t:Nat}{w:Bool}{cs:List COd}{gs gs':List (Gh Unit)}{as:List AU}{r:AU}(own:Bool)(ls:List (Nat × List Nat))(hb:gv w (fnL L (100 * t)).2=some true)(hfn:FnC P f gs as gs' r)(hgs:ls.mapM (z9u (fnL L))=some gs)(hnd:(ls.map (·.1)).Nodup)
  (has:z13 (fnL L) ls own cs=some as) (hs:z1d own gs gs' r=true) (h:RL P nt rest (z0l (z6k L (ls.zip gs')) (100 * d) r) K):RL P nt (.call (some (t,w)) d f cs :: rest) L K :=
 RL.cons (it:=.call (some (t,w)) d f cs) (rest:=rest) rfl (fun C ops i o hP hn hi hit=>by
  have:=zfv own hP hn hi hit (zb0 hb) hfn hgs hnd has hs
  rwa [z5h,z07] at this) h
theorem RL.callN {K:SL→Prop}{rest:List Sg}{d f t:Nat}{w:Bool}{cs:List COd}(hb:gv w (fnL L (100 * t)).2=some false)(h:RL P nt rest (z0l L (100 * d) (.sc undef)) K):RL P nt (.call (some (t,w)) d f cs :: rest) L K :=
 RL.cons (it:=.call (some (t,w)) d f cs) (rest:=rest) rfl (fun C ops i o hP hn hi hit=>by
  obtain⟨x,hx,hne⟩:=z7r hb
  have:=zfw hP hn hi hit hx hne
  rwa [z07] at this) h
theorem z7s {o:Oper}{g:Option (Nat × Bool)}{d t:Nat}{cs:List COd}{ops:Array Oper}{here:List Nat}(h:zeu P nt ops here o=some (.clo g d t cs)) :
  z56 nt ops o.guard=some g∧o.dst=some d∧d < nt∧z0r nt o=true∧t < nt∧∃ xs ts ss,o.op=.call ⟨.value (.tmp t),xs,ts⟩∧xs.size≤4500∧z3s nt ss xs.toList=some cs:=by
 have h:=zdr h (by simp)
 simp only[zi2,pf] at h
 obtain⟨g',hg,h⟩:=h
 split at h
 ·simp only[pf] at h
  obtain⟨d,_,h⟩:=h
  split at h
  ·simp at h
  ·cases h
 ·rename_i t' xs ts hop
  simp only[pf] at h
  obtain⟨d',hd,h⟩:=h
  split at h
  ·rename_i hc
   simp only[pg,It.clo.injEq] at h
   obtain⟨cs',h1,rfl,rfl,rfl,rfl⟩:=h
   obtain⟨ss,h2⟩:=zdu h1
   obtain⟨e1,e2⟩:=z0j hd
   exact⟨hg,e1,e2,hc.1,hc.2.2,xs,ts,ss,hop,hc.2.1,h2⟩
  ·cases h
 ·split at h
  ·simp only[pf] at h
   obtain⟨d,_,c',_,h⟩:=h
   split at h<;>simp at h
  ·simp only[pf] at h
   obtain⟨c',_,h⟩:=h
   split at h
   ·simp at h
   ·split at h<;>simp at h
 ·simp only[pf] at h
  obtain⟨c',hc',h⟩:=h
  split at h
  ·split at h<;>simp at h
  ·split at h<;>simp at h
def opL:Option (List AU)→Option (List AU)→Option (List AU)
 | some a,some b=>some (a ++ b)
 | _,_=>none
theorem zjm {a b:Option (List AU)}{c:List AU}(h:opL a b=some c):∃ x y,a=some x∧b=some y∧c=x ++ y:=by
 cases a<;>cases b<;>simp [opL] at h
 exact⟨_,_,rfl,rfl,h.symm⟩
theorem zdw {C:Ctx}{o:Oper}{X:XF Unit}{d t f:Nat}{cs:List COd}{cps:List AU}{ls:List (Nat × List Nat)}{gs gs':List (Gh Unit)}{as:List AU}{r:AU}(own:Bool)(hP:C.P=P)(hn:C.nt=nt)(h1:o.dst=some d)(h2:d < nt)(h3:z0r nt o=true)(htl:t < nt)
  (h4:∃ xs ts ss,o.op=.call ⟨.value (.tmp t),xs,ts⟩∧xs.size≤4500∧z3s nt ss xs.toList=some cs) (hcl:(X (100 * t)).2=.clos f cps)
  (hfn:FnC P f gs as gs' r) (hgs:ls.mapM (z9u X)=some gs) (hnd:(ls.map (·.1)).Nodup) (has:opL (z13 X ls own cs) (trL X ls own (100 * t) cps)=some as) (hlen:as.length≤9000) (hs:z1d own gs gs' r=true):OpOk C o X ((z26 X (ls.zip gs')).set (100 * d) r):=by
 obtain⟨xs,ts,ss,e1,e2,e3⟩:=h4
 obtain⟨a1,a2,k1,k2,k3⟩:=zjm has
 simp only[z1d,pm,qp,qm,rk] at hs
 obtain⟨⟨s1,s2⟩,s3⟩:=hs
 subst hP hn
 have s2':own=true→gs'.all z5o=true∧z17 r=true:=by
  intro h
  rcases s2 with s2 | s2
  ·rw[s2] at h;cases h
  ·exact s2
 exact y4b h1 h2 h3 e1 htl e3 hcl hgs hnd k1 k2 k3 hlen hfn.2 hfn.1 s1 s2' s3
theorem RL.clo {K:SL→Prop}{rest:List Sg}{d t f:Nat}{cs:List COd}{cps:List AU}{gs gs':List (Gh Unit)}{as:List AU}{r:AU}(own:Bool)(ls:List (Nat × List Nat))(hcl:(fnL L (100 * t)).2=.clos f cps)(hfn:FnC P f gs as gs' r)(hgs:ls.mapM (z9u (fnL L))=some gs)(hnd:(ls.map (·.1)).Nodup)
  (has:opL (z13 (fnL L) ls own cs) (trL (fnL L) ls own (100 * t) cps)=some as) (hlen:as.length≤9000) (hs:z1d own gs gs' r=true) (h:RL P nt rest (z0l (z6k L (ls.zip gs')) (100 * d) r) K):RL P nt (.clo none d t cs :: rest) L K :=
 RL.cons (it:=.clo none d t cs) (rest:=rest) rfl (fun C ops i o hP hn hi hit=>by
  obtain⟨g0,g1,g2,g3,g4,g5⟩:=z7s hit
  have:=SOk.op hi (z1n g0) (zdw own hP hn g1 g2 g3 g4 g5 hcl hfn hgs hnd has hlen hs)
  rwa [z5h,z07] at this) h
theorem RL.clo0 {K:SL→Prop}{rest:List Sg}{d t f:Nat}{cs:List COd}{cps:List AU}{as:List AU}{r:AU}(own:Bool)(hcl:(fnL L (100 * t)).2=.clos f cps)(hfn:FnC P f [] as [] r)
  (has:opL (z13 (fnL L) [] own cs) (trL (fnL L) [] own (100 * t) cps)=some as) (hlen:as.length≤9000) (hs:z1d own [] [] r=true) (h:RL P nt rest (z0l L (100 * d) r) K):RL P nt (.clo none d t cs :: rest) L K :=
 RL.clo own [] hcl hfn rfl (by simp) has hlen hs h
theorem zo1 {o:Oper}{d:Nat}{eq:Bool}{c:COd}{ops:Array Oper}{here:List Nat}(h:zeu P nt ops here o=some (.nilq d eq c)) :
  o.guard=none∧∃ op t x t' e n' c',o.op=.binOp op t x (.const (.slice none n' c')) t'∧(op=.eql∨op=.neq)∧eq=decide (op=.eql)∧P.underlying t=some (.slice e)∧o.dst=some d∧d < nt∧z0r nt o=true∧compOd nt 0 x=some c:=by
 have h:=zdr h (by simp)
 simp only[zi2,pf] at h
 obtain⟨g',hg,h⟩:=h
 split at h
 ·simp only[pf] at h
  obtain⟨d,_,h⟩:=h
  split at h
  ·simp at h
  ·cases h
 ·simp only[pf] at h
  obtain⟨d,_,h⟩:=h
  split at h
  ·simp at h
  ·cases h
 ·rename_i op t x y t' hop
  split at h
  ·rename_i eq' hnil
   simp only[pf] at h
   obtain⟨d',hd,c',hc,h⟩:=h
   split at h
   ·rename_i hin
    simp only[pe,It.nilq.injEq] at h
    obtain⟨rfl,rfl,rfl⟩:=h
    obtain⟨e1,e2⟩:=z0j hd
    obtain⟨e,n',c'',he,rfl,hop'⟩:=zcl hnil
    rcases hop' with ⟨rfl,rfl⟩ | ⟨rfl,rfl⟩
    ·exact⟨z1n hg,_,_,_,_,e,n',c'',hop,.inl rfl,rfl,he,e1,e2,hin,hc⟩
    ·exact⟨z1n hg,_,_,_,_,e,n',c'',hop,.inr rfl,rfl,he,e1,e2,hin,hc⟩
   ·cases h
  ·simp only[pf] at h
   obtain⟨c',_,h⟩:=h
   split at h
   ·simp at h
   ·split at h<;>simp at h
 ·simp only[pf] at h
  obtain⟨c',hc',h⟩:=h
  split at h
  ·split at h<;>simp at h
  ·split at h<;>simp at h
theorem RL.nilq {K:SL→Prop}{rest:List Sg}{d n:Nat}{eq:Bool}{c:COd}(hl:z6n (fnL L) (rd (fnL L) c)=some n)(h:∀ b:Bool,(n ≠ 0→b=!eq)→RL P nt rest (z0l L (100 * d) (.sc (.bool b))) K):RL P nt (.nilq d eq c :: rest) L K:=by
 intro C ops idx hP hn hc a w Q hd hr hK
 simp only[z21] at hc
 obtain⟨i,l,o,rfl,ho,hit,hrest⟩:=zjl hc
 obtain⟨hg,op,t,x,t',e,n',c',hop,hop2,heq,he,e1,e2,hin,hcx⟩:=zo1 hit
 subst hP hn
 rw[wpOps_cons]
 unfold Go.wpOp
 simp only[ho,Region.wanted,hg,if_true]
 refine .inl (zu1 hop e1 e2 hin hop2 he hcx hl a w _ Q hd hr fun b hb a' w' hd' hr'=>?_)
 rw[z07] at hr'
 refine h _ (fun hn0=>?_) C ops l rfl rfl hrest a' w' Q hd' hr' hK
 have:=hb hn0
 subst this
 rcases hop2 with rfl | rfl
 ·rw[heq];rfl
 ·rw[heq];rfl
theorem RL.call0 {K:SL→Prop}{rest:List Sg}{d f:Nat}{cs:List COd}{as:List AU}{r:AU}(own:Bool)(hfn:FnC P f [] as [] r)(has:z13 (fnL L) [] own cs=some as)(hs:z1d own [] [] r=true)(h:RL P nt rest (z0l L (100 * d) r) K):RL P nt (.call none d f cs :: rest) L K :=
 RL.call own [] hfn rfl (by simp) has hs h
theorem RL.callY0 {K:SL→Prop}{rest:List Sg}{d f t:Nat}{w:Bool}{cs:List COd}{as:List AU}{r:AU}(own:Bool)(hb:gv w (fnL L (100 * t)).2=some true)(hfn:FnC P f [] as [] r)(has:z13 (fnL L) [] own cs=some as)(hs:z1d own [] [] r=true)(h:RL P nt rest (z0l L (100 * d) r) K):RL P nt (.call (some (t,w)) d f cs :: rest) L K :=
 pb own [] hb hfn rfl (by simp) has hs h
theorem RL.freeze {K:SL→Prop}{segs:List Sg}(k:Nat)(h:RL P nt segs (y4e L k) K):RL P nt segs L K:=by
 intro C ops idx hP hn hc a w Q hd hr hK
 refine h C ops idx hP hn hc a w Q hd ?_ hK
 have:=hr.freeze k
 rwa [z4b] at this
theorem RL.own {K:SL→Prop}{segs:List Sg}{L':SL}(n:Nat)(hlt:n < nt)(hr:zu4 L n (.t n)=some L')(h:RL P nt segs L' K):RL P nt segs L K:=by
 intro C ops idx hP hn hc a w Q hd hR hK
 exact h C ops idx hP hn hc a w Q hd (hR.own n (by omega) (zhy hr)) hK
theorem RL.nil1 {K:SL→Prop}{segs:List Sg}(k:Nat)(o:Bool)(sz:Nat)(hv:(fnL L k).2=.sc (.slice none 0 0))(h:RL P nt segs (z9h L k (.sl o () sz 0 [])) K):RL P nt segs L K:=by
 intro C ops idx hP hn hc a w Q hd hr hK
 refine h C ops idx hP hn hc a w Q hd ?_ hK
 have:=hr.nil1 k o sz hv
 rwa [z4b] at this
theorem RL.nilA {K:SL→Prop}{segs:List Sg}(n i sz:Nat){vs:List AU}(hv:(fnL L (100 * n)).2=.agg vs)(hno:z0n vs=true)(hi:vs[i]?=some (.sc (.slice none 0 0)))(h:RL P nt segs (z9h L (100 * n) (.agg (vs.set i (.sl false () sz 0 [])))) K):RL P nt segs L K:=by
 intro C ops idx hP hn hc a w Q hd hr hK
 refine h C ops idx hP hn hc a w Q hd ?_ hK
 have:=hr.nilA n i sz hno hv hi
 rwa [z4b] at this
theorem RL.fin {K:SL→Prop}{segs:List Sg}{L':SL}(dead:List Nat)(hf:zmg dead L=some L')(h:RL P nt segs L' K):RL P nt segs L K:=by
 intro C ops idx hP hn hc a w Q hd hr hK
 exact h C ops idx hP hn hc a w Q hd (hr.fin hf) hK
end
def zla (L:SL):CRV→Option SL
 | .t n=>z0w L (.t n)
 | .cell a n ag=>(z1x (fnL L) (rd (fnL L) (.t a)) n).bind fun cs =>
   if zkz (if ag=true then AV.agg cs else cs.getD 0 .non)=true∧z0a (if ag=true then AV.agg cs else cs.getD 0 .non)=true then z31 L (if ag=true then AV.agg cs else cs.getD 0 .non) else none
def zfx (L:SL):Nat→List CRV→Option SL
 | _,[]=>some L
 | i,r :: rs=>(zla L r).bind fun X1=>zfx (z0l (z0l X1 (100 * (RS+1+i)) (fnL X1 (100 * H)).2) (100 * H) .non) (i+1) rs
def zo2 (L:SL)(rs:List CRV):Option SL :=
 (zfx L 0 rs).map fun X=>if rs.length=1 then z0l (z0l X (100 * RS) (fnL X (100 * (RS+1))).2) (100 * (RS+1)) .non
  else zw5 (z0l X (100 * RS) (.tuple (zhw X (RS+1) rs.length))) (RS+1) rs.length
theorem zs3 {L L':SL}{r:CRV}(h:zla L r=some L'):zhi (fnL L) r=some (fnL L'):=by
 cases r with
 | t n=>exact z2q h
 | cell a n ag =>
  simp only[zla,pf] at h
  obtain⟨cs,h1,h2⟩:=h
  simp only[zhi,h1,po]
  by_cases hc:zkz (if ag=true then AV.agg cs else cs.getD 0 .non)=true∧z0a (if ag=true then AV.agg cs else cs.getD 0 .non)=true
  ·rw[if_pos hc] at h2
   have e:=z7o h2
   rw[if_pos hc,e]
  ·rw[if_neg hc] at h2;cases h2
theorem zjn:∀ {rs:List CRV} {L L':SL} {i:Nat},zfx L i rs=some L'→zai (fnL L) i rs=some (fnL L')
 | [],L,L',i,h=>by simp only[zfx,pe] at h;subst h;rfl
 | r :: rs,L,L',i,h=>by
  simp only[zfx,pf] at h
  obtain⟨L1,h1,h2⟩:=h
  simp only[zai,zs3 h1,po,z07]
  exact zjn h2
theorem zs4 {L L':SL}{rs:List CRV}(h:zo2 L rs=some L'):zty (fnL L) rs=some (fnL L'):=by
 simp only[zo2,pg] at h
 obtain⟨X,h1,rfl⟩:=h
 simp only[zty,zjn h1,px,zdg]
 split
 ·simp only[z07]
 ·simp only[zdo,z07,zhv]
def zr4 (L:SL):Nat→List (Gh Unit)→Prop
 | _,[]=>True
 | j,.box cs :: gs=>(∀ (i:Nat) (c:AU),cs[i]?=some c→i < 98→(fnL L (100 * (10000+j)+1+i)).2=c)∧zr4 L (j+1) gs
 | j,.nod v :: gs=>(fnL L (100 * (10000+j))).2=v∧zr4 L (j+1) gs
theorem zo3 {L:SL}:∀ {gs:List (Gh Unit)} {j0 j:Nat} {g:Gh Unit},zr4 L j0 gs→gs[j]?=some g→match g with
  | .box cs=>∀ (i:Nat) (c:AU),cs[i]?=some c→i < 98→(fnL L (100 * (10000+(j0+j))+1+i)).2=c
  | .nod v=>(fnL L (100 * (10000+(j0+j)))).2=v
 | [],_,j,g,_,hj=>by simp at hj
 | g0 :: gs,j0,0,g,h,hj=>by
  simp only[tp,pe] at hj
  subst hj
  cases g0 with
  | box cs=>simp only[zr4] at h;exact h.1
  | nod v=>simp only[zr4] at h;exact h.1
 | g0 :: gs,j0,j+1,g,h,hj=>by
  simp only[List.getElem?_cons_succ] at hj
  have h':zr4 L (j0+1) gs:=by
   cases g0 with
   | box cs=>simp only[zr4] at h;exact h.2
   | nod v=>simp only[zr4] at h;exact h.2
  have:=zo3 h' hj
  rwa [show j0+(j+1)=j0+1+j by omega]
def RetOk (rs:List CRV)(gs':List (Gh Unit))(r:AU)(L:SL):Prop:=∃ L',zo2 L rs=some L'∧(fnL L' (100 * RS)).2=r∧zr4 L' 0 gs'
theorem RetOk.fin {rs:List CRV}{gs':List (Gh Unit)}{r:AU}{L:SL}(h:RetOk rs gs' r L):∃ X',zty (fnL L) rs=some X'∧Fin X' gs' r:=by
 obtain⟨L',h1,h2,h3⟩:=h
 refine⟨_,zs4 h1,h2,fun j g hg=>?_⟩
 have:=zo3 h3 hg
 simp only[sy] at this
 exact this
def z5i (b:Nat):Nat→List AU→SL
 | _,[]=>[]
 | i,c :: cs=>(100 * b+1+i,0,c) :: z5i b (i+1) cs
def ghL:Nat→List (Gh Unit)→SL
 | _,[]=>[]
 | j,.box cs :: gs=>z5i (10000+j) 0 (cs.take 98) ++ ghL (j+1) gs
 | j,.nod v :: gs=>(100 * (10000+j),0,v) :: ghL (j+1) gs
theorem zb3 (b j:Nat):∀ (cs:List AU) (i:Nat),fnL (z5i b i cs) j=if 100 * b+1+i≤j∧j < 100 * b+1+i+cs.length then (0,cs.getD (j - (100 * b+1+i)) .non) else (0,.non)
 | [],i=>by simp[z5i,fnL]
 | c :: cs,i=>by
  simp only[z5i,fnL,zb3 b j cs (i+1)]
  by_cases h:j=100 * b+1+i
  ·subst h;simp
  ·by_cases h2:100 * b+1+(i+1)≤j∧j < 100 * b+1+(i+1)+cs.length
   ·rw[if_neg h,if_pos h2,if_pos (by simp;omega)]
    rw[show j - (100 * b+1+i)=(j - (100 * b+1+(i+1)))+1 by omega]
    simp
   ·rw[if_neg h,if_neg h2,if_neg (by simp;omega)]
theorem zcr (l l':SL)(j:Nat):fnL (l ++ l') j=if l.any (fun p=>p.1 == j) then fnL l j else fnL l' j:=znm l l' j
theorem zb4 (b j:Nat):∀ (cs:List AU) (i:Nat),(z5i b i cs).any (fun p=>p.1 == j)=(decide (100 * b+1+i≤j) && decide (j < 100 * b+1+i+cs.length))
 | [],i=>by
  simp only[z5i,List.any_nil,List.length_nil,sx]
  by_cases h:100 * b+1+i≤j
  ·simp[h,show ¬ j < 100 * b+1+i by omega]
  ·simp[h]
 | c :: cs,i=>by
  simp only[z5i,tx,zb4 b j cs (i+1),sd]
  rw[tw]
  simp only[qp,beq_iff_eq,pm,decide_eq_true_eq]
  omega
theorem zi5 (k:Nat):∀ (gs:List (Gh Unit)) (j0:Nat),fnL (ghL j0 gs) k=if 10000+j0≤k / 100 then (match gs[k / 100 - (10000+j0)]? with
  | some (.box cs)=>(0,if k % 100=0∨k % 100=99 then .non else cs.getD (k % 100 - 1) .non)
  | some (.nod v)=>(0,if k % 100=0 then v else .non)
  | none=>(0,.non)) else (0,.non)
 | [],j0=>by
  simp only[ghL,fnL,List.getElem?_nil]
  split<;>rfl
 | .box cs :: gs,j0=>by
  simp only[ghL,zcr,zb4,zb3,sx,zi5 k gs (j0+1),s7]
  by_cases h0:k / 100=10000+j0
  ·rw[if_pos (show 10000+j0≤k / 100 by omega),show k / 100 - (10000+j0)=0 by omega]
   simp only[tp]
   by_cases hm:k % 100=0∨k % 100=99
   ·rw[if_neg (by simp;omega),if_neg (by omega),if_pos hm]
   ·rw[if_neg hm]
    by_cases hc:k % 100 - 1 < cs.length
    ·rw[if_pos (by simp;omega),if_pos (by omega),show k - (100 * (10000+j0)+1)=k % 100 - 1 by omega]
     rw[ph,r9,if_pos (by omega),← ph]
    ·rw[if_neg (by simp;omega),if_neg (by omega),ph,qi (by omega)];rfl
  ·rw[if_neg (by simp;omega)]
   by_cases h1:10000+j0≤k / 100
   ·rw[if_pos (by omega),if_pos h1,show k / 100 - (10000+j0)=(k / 100 - (10000+(j0+1)))+1 by omega]
    simp
   ·rw[if_neg (by omega),if_neg h1]
 | .nod v :: gs,j0=>by
  simp only[ghL,fnL,zi5 k gs (j0+1)]
  by_cases h0:k=100 * (10000+j0)
  ·rw[if_pos h0,if_pos (by omega),show k / 100 - (10000+j0)=0 by omega]
   simp only[tp]
   rw[if_pos (by omega)]
  ·rw[if_neg h0]
   by_cases h1:10000+j0≤k / 100
   ·rw[if_pos h1]
    by_cases h2:k / 100=10000+j0
    ·rw[show k / 100 - (10000+j0)=0 by omega,if_neg (by omega)]
     simp only[tp]
     rw[if_neg (by omega)]
    ·rw[if_pos (by omega),show k / 100 - (10000+j0)=(k / 100 - (10000+(j0+1)))+1 by omega]
     simp
   ·rw[if_neg (by omega),if_neg h1]
def zs5 (gs:List (Gh Unit))(as:List AU):SL:=zdn 0 as ++ ghL 0 gs
theorem zfy (j:Nat):∀ (as:List AU) (n:Nat),(zdn n as).any (fun p=>p.1 == j)=(decide (j % 100=0) && decide (n≤j / 100) && decide (j / 100 < n+as.length))
 | [],n=>by
  simp only[zdn,List.any_nil,List.length_nil,sx]
  by_cases h:n≤j / 100
  ·simp[h,show ¬ j / 100 < n by omega]
  ·simp[h]
 | a :: as,n=>by
  simp only[zdn,tx,zfy j as (n+1),sd]
  rw[tw]
  simp only[qp,beq_iff_eq,pm,decide_eq_true_eq]
  omega
theorem zo4 (gs:List (Gh Unit))(as:List AU)(hlen:as.length≤9000):fnL (zs5 gs as)=z8i gs as:=by
 funext k
 simp only[zs5,zcr,zfy,zfn,zi5,sx,sy,Nat.sub_zero,rh,decide_true,Bool.and_true,and_true,z8i,zf4]
 by_cases h:k / 100 < 10000
 ·rw[if_pos h]
  by_cases h0:k % 100=0
  ·by_cases hl:k / 100 < as.length
   ·rw[if_pos (by simp;omega),if_pos h0]
   ·rw[if_neg (by simp;omega),if_neg (by omega),if_pos h0,ph,qi (by omega)]
    rfl
  ·rw[if_neg (by simp;omega),if_neg (by omega),if_neg h0]
 ·rw[if_neg h,if_neg (by simp;omega),if_pos (by omega)]
  cases hg:gs[k / 100 - 10000]? with
  | none=>rfl
  | some g=>cases g<;>rfl
structure FI where
 nt:Nat
 k:Nat
 rs:List CRV
 cc:Cd
def z25 (P:Program)(f:FuncId)(fi:FI):Prop :=
 ∃ fn code,P.funcs[f]?=some fn∧fn.body=some code∧comp P fi.nt code=some fi.cc.er∧(fn.ntmps == fi.nt && decide (fi.nt≤9000) && decide (fi.k≤fi.nt) && decide (fi.rs.length≤400) && zhs P fi.nt fn.results.toList fi.rs)=true ∧
  ∀ args w,(callFunc f args).run P w=.ok (.enter f args) w
theorem wc {P:Program}{f:FuncId}{fi:FI}{gs gs':List (Gh Unit)}{as:List AU}{r:AU}(h:z25 P f fi)(ha:as.length=fi.k)(hw:WL P fi.nt fi.cc (zs5 gs as) fun e L=>(e=.nrm∨e=.ret)∧RetOk fi.rs gs' r L):FnC P f gs as gs' r:=by
 obtain⟨fn,code,h1,h2,h3,h4,h5⟩:=h
 refine⟨?_,h5⟩
 refine nh fi.nt fi.k fi.rs h1 h2 h4 ha fun C hP hn=>?_
 simp only[pm,decide_eq_true_eq] at h4
 have hlen:as.length≤9000:=by omega
 have:=hw C code hP hn h3
 rw[zo4 gs as hlen] at this
 refine this.cons fun e X hq=>?_
 obtain⟨L',rfl,h6,h7⟩:=hq
 exact⟨h6,h7.fin⟩
abbrev cI (n:Int):COd:=.c (.sc (.int .i64 n))
abbrev cB (b:Bool):COd:=.c (.sc (.bool b))
abbrev i64 (n:Int):AU:=.sc (.int .i64 n)
abbrev u8 (n:Int):AU:=.sc (.int .u8 n)
abbrev bl (b:Bool):AU:=.sc (.bool b)
def ru (v:AU):List Nat:=(roots v).map z14
def uO (X:XF Unit):COd→List Nat
 | .t n=>2 * n :: ru (rd X (.t n))
 | .c v=>ru v
def uOs (X:XF Unit):List COd→List Nat
 | []=>[]
 | c :: cs=>uO X c ++ uOs X cs
def uO? (X:XF Unit):Option COd→List Nat
 | none=>[]
 | some c=>uO X c
def z9j (b m n:Nat):List Nat:=(List.range n).map fun j=>2 * (100 * b+m+j)+1
def bu (v:AU)(n:Nat):List Nat :=
 match v with
 | .bptr b _ i=>z9j b (1+i) n
 | _=>[]
def uR:COd→List Nat
 | .c _=>[]
 | .t n=>[2 * n]
def z1o (X:XF Unit):COp→List Nat
 | .mov d c | .un d _ c | .conv d _ c=>2 * d :: uR c
 | .asg d c | .chk d c | .faddr d _ c | .len d c | .slen d c | .b2s d c | .bs1 d _ c=>2 * d :: uO X c
 | .pick d c a b=>2 * d :: (uR c ++ uR a ++ uR b)
 | .bin d _ a b | .beq d _ a b | .mx d _ a b=>2 * d :: (uR a ++ uR b)
 | .iaddr d _ a b | .make d _ _ _ a b | .app d _ _ a b=>2 * d :: (uO X a ++ uO X b)
 | .slice d _ c l h=>2 * d :: (uO X c ++ uO? X l ++ uO? X h)
 | .ld d n _ c=>2 * d :: (uO X c ++ bu (rd X c) n)
 | .st n a v=>uO X a ++ uO X v ++ bu (rd X a) n
 | .ext d n _=>[2 * d,2 * n]
 | .box d c=>2 * d :: (z9j d 1 99 ++ uO X c)
 | .alloc d _=>2 * d :: z9j d 1 99
 | .build d _ ps=>2 * d :: uOs X (ps.map fun p=>p.2.2)
 | .bs0 d _=>[2 * d]
 | .mkf d _ cs | .bsn d cs=>2 * d :: uOs X cs
 | .fld d _ c | .nilq d _ c=>2 * d :: uO X c
 | .cpy d _ a b=>2 * d :: (uO X a ++ uO X b)
 | .cvb d m=>[2 * d,2 * m]
 | .s2b d c=>2 * d :: uO X c
 | .ssl d c l h=>2 * d :: (uO X c ++ uO? X l ++ uO? X h)
 | .six d c i=>2 * d :: (uO X c ++ uO X i)
 | .bsa d _ cs=>2 * d :: uOs X cs
 | .funq d _ c=>2 * d :: uO X c
 | .aaddr d _ _ c i=>2 * d :: (uO X c ++ uO X i)
def agr (U:List Nat)(X Y:XF Unit):Prop:=∀ k,z14 k ∈ U→X k=Y k
theorem agr.sub {U V:List Nat}{X Y:XF Unit}(h:agr U X Y)(hs:∀ u ∈ V,u ∈ U):agr V X Y:=fun k hk=>h k (hs _ hk)
theorem z0m (n:Nat):z14 (100 * n)=2 * n:=by unfold z14;rw[if_pos (by omega)];omega
theorem zo5 (b m:Nat)(h1:1≤m)(h2:m≤99):z14 (100 * b+m)=2 * (100 * b+m)+1:=by unfold z14;rw[if_neg (by omega)]
section
variable {X Y:XF Unit}
theorem y2o {U:List Nat}{v:AU}(h:agr U X Y)(hv:∀ u ∈ ru v,u ∈ U):∀ k ∈ roots v,X k=Y k:=fun k hk=>h k (hv _ (s9 hk))
theorem z1e {c:COd}(h:agr (uO Y c) X Y):rd X c=rd Y c:=by
 cases c with
 | c v=>rfl
 | t n =>
  have:=h (100 * n) (by rw[z0m];simp[uO])
  simp only[rd,this]
theorem z3w {c:COd}(h:agr (uR c) X Y):rd X c=rd Y c:=by
 cases c with
 | c v=>rfl
 | t n =>
  have:=h (100 * n) (by rw[z0m];simp[uR])
  simp only[rd,this]
theorem z3d {c:COd}(h:agr (uO Y c) X Y):∀ k ∈ roots (rd Y c),X k=Y k:=by
 cases c with
 | c v=>exact y2o h (by simp[uO,rd])
 | t n=>exact y2o h (fun u hu=>by simp only[uO,qj];exact .inr hu)
theorem zdx {v:AU}(h:∀ k ∈ roots v,X k=Y k):z6n X v=z6n Y v:=by
 cases v<;>simp only[z6n]
 rename_i k g p off len
 rw[h k (by simp[roots])]
theorem zjo {k:Nat}{p:List Nat}(h:X k=Y k):ztw X k p=ztw Y k p:=by simp only[ztw,h]
theorem zlb {v:AU}{s lo hi:Nat}(h:∀ k ∈ roots v,X k=Y k):z37 X s lo hi v=z37 Y s lo hi v:=by
 unfold z37
 split
 ·rename_i k g p off n
  have:=h k (by simp[roots])
  rw[this,zjo this]
 ·rfl
 ·rfl
theorem zcs {v:AU}{off:Nat}(h:∀ k ∈ roots v,X k=Y k):z3p X off v=z3p Y off v:=by
 unfold z3p
 split
 ·rename_i b g i;rw[h (100 * b+99) (by simp[roots])]
 ·rename_i k g p i;rw[h k (by simp[roots])]
 ·rfl
 ·rfl
theorem zlc {v:AU}{s:Nat}{j:Int}(h:∀ k ∈ roots v,X k=Y k):z3q X s v j=z3q Y s v j:=by
 cases v with
 | view k g p off n =>
  have:=h k (by simp[roots])
  simp only[z3q]
  rw[this,zjo this]
 | sl o u s n cs=>cases o<;>rfl
 | _=>rfl
theorem zo6 {v:AU}(h:∀ k ∈ roots v,X k=Y k):zaf X v=zaf Y v:=by
 unfold zaf
 split
 ·rename_i k g p i;rw[h k (by simp[roots])]
 ·rename_i b g i;rw[h (100 * b+99) (by simp[roots])]
 ·rfl
 ·rfl
theorem z6f {v:AU}{s:Nat}(h:∀ k ∈ roots v,X k=Y k):z1q X s v=z1q Y s v:=by
 unfold z1q
 split
 ·rename_i k g p off n;rw[h k (by simp[roots])]
 all_goals rfl
theorem zo7 {b m n j:Nat}(h:j < n):2 * (100 * b+m+j)+1 ∈ z9j b m n:=sg.2 ⟨j,ql.2 h,rfl⟩
theorem z57 {U:List Nat}{b m n:Nat}(hv:∀ u ∈ z9j b m n,u ∈ U){j:Nat}(h:j < n)(h1:1≤m)(h2:m+j≤99):z14 (100 * b+(m+j)) ∈ U:=by
 rw[zo5 b (m+j) (by omega) h2,← qq]
 exact hv _ (zo7 h)
theorem zdy {U:List Nat}{b g i:Nat}(hv:∀ u ∈ ru (.bptr b g i:AU),u ∈ U):z14 (100 * b+99) ∈ U:=hv _ (by simp[ru,roots])
theorem zi6 {U:List Nat}{v:AU}{n:Nat}(h:agr U X Y)(hv:∀ u ∈ ru v,u ∈ U)(hb:∀ u ∈ bu v n,u ∈ U):z1x X v n=z1x Y v n:=by
 unfold z1x
 split
 ·rename_i b g i
  rw[h _ (zdy hv)]
  by_cases hc:i+n≤98
  ·have e:∀ j,j < n→X (100 * b+1+(i+j))=Y (100 * b+1+(i+j)):=fun j hj=>by
    have:=h _ (z57 (b:=b) (m:=1+i) (n:=n) hb hj (by omega) (by omega))
    rwa [show 100 * b+(1+i+j)=100 * b+1+(i+j) by omega] at this
   have e1:(List.range n).all (fun j=>!(X (100 * b+1+(i+j))).2.isNon)=(List.range n).all (fun j=>!(Y (100 * b+1+(i+j))).2.isNon):=by
    rw[tw,qe,qe]
    constructor
    ·intro hh j hj;have:=hh j hj;rwa [e j (ql.1 hj)] at this
    ·intro hh j hj;have:=hh j hj;rwa [← e j (ql.1 hj)] at this
   have e2:(List.range n).map (fun j=>rdK (100 * b+1+(i+j)) (X (100 * b+1+(i+j))))=(List.range n).map (fun j=>rdK (100 * b+1+(i+j)) (Y (100 * b+1+(i+j)))):=by
    apply rc
    intro j hj
    rw[e j (ql.1 hj)]
   rw[e1,e2]
  ·rw[if_neg (fun hh=>hc hh.2.1),if_neg (fun hh=>hc hh.2.1)]
 ·rename_i k g p i
  rw[y2o h hv k (by simp[roots])]
 ·rfl
 ·rfl
theorem zo8 {c:COd}:∀ {cs:List COd},c ∈ cs→∀ u ∈ uO Y c,u ∈ uOs Y cs
 | d :: cs,h,u,hu=>by
  simp only[uOs,qh]
  rcases qj.1 h with rfl | h
  ·exact .inl hu
  ·exact .inr (zo8 h u hu)
theorem zo9 {c:COd}:∀ u ∈ ru (rd Y c),u ∈ uO Y c:=by
 cases c with
 | c v=>intro u hu;simpa [uO,rd] using hu
 | t n=>intro u hu;simp only[uO,qj];exact .inr hu
theorem zoa {v:AU}(h:∀ k ∈ roots v,X k=Y k):z6w X v=z6w Y v:=by
 cases v<;>simp only[z6w]
 ·rename_i k g p off len;rw[h k (by simp[roots])]
 ·rename_i k g p i;rw[h k (by simp[roots])]
theorem zwe {c:COd}(h:agr (uO Y c) X Y):rdC X c=rdC Y c:=by
 simp only[rdC,z1e h,zoa (z3d h)]
theorem z9y:∀ {cs:List COd},agr (uOs Y cs) X Y→caps X cs=caps Y cs
 | [],_=>rfl
 | c :: cs,h=>by
  simp only[caps,z1e (c:=c) (h.sub (fun u hu=>by simp[uOs,hu])),z9y (cs:=cs) (h.sub (fun u hu=>by simp[uOs,hu]))]
theorem zs6 {c:COp}(h:agr (z1o Y c) X Y)(hp:(z1l Y c).isSome=true):z1l X c=z1l Y c:=by
 cases c with
 | mov d c=>simp only[z1l,z3w (c:=c) (h.sub (fun u hu=>by simp[z1o,hu]))]
 | chk d c =>
  have hc:agr (uO Y c) X Y:=h.sub (fun u hu=>by simp[z1o,hu])
  simp only[z1l,z1e hc,zo6 (z3d hc)]
 | pick d c a b=>simp only[z1l,z3w (c:=c) (h.sub (fun u hu=>by simp[z1o,hu])),z3w (c:=a) (h.sub (fun u hu=>by simp[z1o,hu])),z3w (c:=b) (h.sub (fun u hu=>by simp[z1o,hu]))]
 | un d op c=>simp only[z1l,z3w (c:=c) (h.sub (fun u hu=>by simp[z1o,hu]))]
 | bin d op a b=>simp only[z1l,z3w (c:=a) (h.sub (fun u hu=>by simp[z1o,hu])),z3w (c:=b) (h.sub (fun u hu=>by simp[z1o,hu]))]
 | beq d op a b=>simp only[z1l,z3w (c:=a) (h.sub (fun u hu=>by simp[z1o,hu])),z3w (c:=b) (h.sub (fun u hu=>by simp[z1o,hu]))]
 | conv d k c=>simp only[z1l,z3w (c:=c) (h.sub (fun u hu=>by simp[z1o,hu]))]
 | mx d op a b=>simp only[z1l,z3w (c:=a) (h.sub (fun u hu=>by simp[z1o,hu])),z3w (c:=b) (h.sub (fun u hu=>by simp[z1o,hu]))]
 | ld d n ag c =>
  have hc:agr (uO Y c) X Y:=h.sub (fun u hu=>by simp[z1o,hu])
  simp only[z1l,z1e hc]
  rw[zi6 h (fun u hu=>by simp only[z1o,qj,qh];exact .inr (.inl (zo9 u hu))) (fun u hu=>by simp[z1o,hu])]
 | faddr d off c =>
  have hc:agr (uO Y c) X Y:=h.sub (fun u hu=>by simp[z1o,hu])
  simp only[z1l,z1e hc,zcs (z3d hc)]
 | iaddr d s c i =>
  have hc:agr (uO Y c) X Y:=h.sub (fun u hu=>by simp[z1o,hu])
  have hi:agr (uO Y i) X Y:=h.sub (fun u hu=>by simp[z1o,hu])
  simp only[z1l,z1e hc,z1e hi,zlc (z3d hc)]
 | len d c =>
  have hc:agr (uO Y c) X Y:=h.sub (fun u hu=>by simp[z1o,hu])
  simp only[z1l,z1e hc,zdx (z3d hc)]
 | slen d c=>simp only[z1l,z1e (c:=c) (h.sub (fun u hu=>by simp[z1o,hu]))]
 | slice d s c l hh =>
  have hc:agr (uO Y c) X Y:=h.sub (fun u hu=>by simp[z1o,hu])
  have hb:∀ (n:Nat) (o:Option COd),(∀ u ∈ uO? Y o,u ∈ z1o Y (.slice d s c l hh))→bnd X n o=bnd Y n o:=by
   intro n o ho
   cases o with
   | none=>rfl
   | some o=>simp only[bnd,z1e (c:=o) (h.sub ho)]
  simp only[z1l,z1e hc,zdx (z3d hc),zlb (z3d hc)]
  rw[hb 0 l (fun u hu=>by simp[z1o,hu])]
  congr 1
  funext n
  rw[hb n hh (fun u hu=>by simp[z1o,hu])]
 | build d zs ps =>
  simp only[z1l]
  have:ps.map (fun p=>(p.1,p.2.1,rdC X p.2.2))=ps.map (fun p=>(p.1,p.2.1,rdC Y p.2.2)):=by
   apply rc
   intro p hp
   rw[zwe (c:=p.2.2) (h.sub (fun u hu=>by
    simp only[z1o,qj]
    exact .inr (zo8 (s9 (f:=fun p:Nat × Nat × COd=>p.2.2) hp) u hu)))]
  rw[this]
 | make d s b zs l c=>simp only[z1l,z1e (c:=l) (h.sub (fun u hu=>by simp[z1o,hu])),z1e (c:=c) (h.sub (fun u hu=>by simp[z1o,hu]))]
 | b2s d c =>
  have hc:agr (uO Y c) X Y:=h.sub (fun u hu=>by simp[z1o,hu])
  simp only[z1l,z1e hc,z6f (z3d hc)]
 | bs0 d s=>rfl
 | mkf d f cs=>simp only[z1l,z9y (cs:=cs) (h.sub (fun u hu=>by simp[z1o,hu]))]
 | bsn d cs=>simp only[z1l,z9y (cs:=cs) (h.sub (fun u hu=>by simp[z1o,hu]))]
 | bsa d s cs=>simp only[z1l,z9y (cs:=cs) (h.sub (fun u hu=>by simp[z1o,hu]))]
 | funq d eq c=>simp only[z1l,z1e (c:=c) (h.sub (fun u hu=>by simp[z1o,hu]))]
 | aaddr d s n c i =>
  have hc:agr (uO Y c) X Y:=h.sub (fun u hu=>by simp[z1o,hu])
  have hi:agr (uO Y i) X Y:=h.sub (fun u hu=>by simp[z1o,hu])
  simp only[z1l,z1e hc,z1e hi,zcj,zcs (z3d hc)]
 | fld d off c=>simp only[z1l,z1e (c:=c) (h.sub (fun u hu=>by simp[z1o,hu]))]
 | nilq d eq c =>
  have hc:agr (uO Y c) X Y:=h.sub (fun u hu=>by simp[z1o,hu])
  simp only[z1l,z1e hc,zdx (z3d hc)]
 | cvb d m =>
  have:=h (100 * m) (by rw[z0m];simp[z1o])
  simp only[z1l,this]
 | s2b d c=>simp only[z1l,z1e (c:=c) (h.sub (fun u hu=>by simp[z1o,hu]))]
 | ssl d c l hh =>
  have hb:∀ (n:Nat) (o:Option COd),(∀ u ∈ uO? Y o,u ∈ z1o Y (.ssl d c l hh))→bnd X n o=bnd Y n o:=by
   intro n o ho
   cases o with
   | none=>rfl
   | some o=>simp only[bnd,z1e (c:=o) (h.sub ho)]
  have h1:∀ n,bnd X n l=bnd Y n l:=fun n=>hb n l (fun u hu=>by simp[z1o,hu])
  have h2:∀ n,bnd X n hh=bnd Y n hh:=fun n=>hb n hh (fun u hu=>by simp[z1o,hu])
  simp only[z1l,z1e (c:=c) (h.sub (fun u hu=>by simp[z1o,hu])),y46,h1,h2]
 | six d c i=>simp only[z1l,z1e (c:=c) (h.sub (fun u hu=>by simp[z1o,hu])),z1e (c:=i) (h.sub (fun u hu=>by simp[z1o,hu]))]
 | _=>simp [z1l] at hp
def inU (U:List Nat)(k:Nat):Prop:=z14 k ∈ U∨z2y k=true
def agH (U:List Nat)(X Y:XF Unit):Prop:=∀ k,inU U k→X k=Y k
def Resp (U:List Nat)(Y:XF Unit)(f:XF Unit→Option (XF Unit)):Prop :=
 ∀ X,agH U X Y→∀ Y1,f Y=some Y1→∃ X1,f X=some X1∧agH U X1 Y1∧(∀ k,¬ inU U k→X1 k=X k)∧(∀ k,¬ inU U k→Y1 k=Y k)
theorem agH.agr {U:List Nat}(h:agH U X Y):agr U X Y:=fun k hk=>h k (.inl hk)
theorem agH.set {U:List Nat}(h:agH U X Y){k:Nat}(hk:inU U k)(v:AU):agH U (X.set k v) (Y.set k v):=by
 intro j hj
 simp only[XF.set]
 by_cases e:j=k
 ·subst e;simp[h j hk]
 ·simp[e,h j hj]
theorem agH.upd {U:List Nat}(h:agH U X Y){k:Nat}(hk:inU U k)(v:AU):agH U (X.upd k v) (Y.upd k v):=by
 intro j hj
 simp only[XF.upd]
 by_cases e:j=k
 ·subst e;simp[h j hk]
 ·simp[e,h j hj]
theorem z08 {U:List Nat}{k:Nat}(hk:inU U k)(X:XF Unit)(v:AU):∀ j,¬ inU U j→X.set k v j=X j:=fun j hj=>w9 _ _ (fun e=>hj (e ▸ hk))
theorem zdz {U:List Nat}{k:Nat}(hk:inU U k)(X:XF Unit)(v:AU):∀ j,¬ inU U j→X.upd k v j=X j:=fun j hj=>wd _ _ (fun e=>hj (e ▸ hk))
theorem Resp.some (U:List Nat)(Y:XF Unit)(f:XF Unit→XF Unit)(h:∀ X,agH U X Y→agH U (f X) (f Y))(h1:∀ X,∀ k,¬ inU U k→f X k=X k):Resp U Y (fun X=>some (f X)):=by
 intro X hX Y1 e
 dsimp only at e ⊢
 simp only[pe] at e
 subst e
 exact⟨f X,rfl,h X hX,h1 X,h1 Y⟩
theorem Resp.bind {U:List Nat}{f:XF Unit→Option (XF Unit)}{g:XF Unit→Option (XF Unit)}(hf:Resp U Y f)(hg:∀ Y1,f Y=.some Y1→Resp U Y1 g):Resp U Y (fun X=>(f X).bind g):=by
 intro X hX Y2 e
 dsimp only at e ⊢
 simp only[pf] at e
 obtain⟨Y1,e1,e2⟩:=e
 obtain⟨X1,a1,a2,a3,a4⟩:=hf X hX Y1 e1
 obtain⟨X2,b1,b2,b3,b4⟩:=hg Y1 e1 X1 a2 Y2 e2
 exact⟨X2,by simp only[a1,po,b1],b2,fun k hk=>(b3 k hk).trans (a3 k hk),fun k hk=>(b4 k hk).trans (a4 k hk)⟩
theorem Resp.map {U:List Nat}{f:XF Unit→Option (XF Unit)}{g:XF Unit→XF Unit}(hf:Resp U Y f)(h:∀ X1 Y1,agH U X1 Y1→agH U (g X1) (g Y1))(h1:∀ X,∀ k,¬ inU U k→g X k=X k):Resp U Y (fun X=>(f X).map g):=by
 intro X hX Y2 e
 dsimp only at e ⊢
 simp only[pg] at e
 obtain⟨Y1,e1,rfl⟩:=e
 obtain⟨X1,a1,a2,a3,a4⟩:=hf X hX Y1 e1
 exact⟨g X1,by simp only[a1,px],h _ _ a2,fun k hk=>(h1 _ k hk).trans (a3 k hk),fun k hk=>(h1 _ k hk).trans (a4 k hk)⟩
theorem z60 (U:List Nat){h:Nat}(h1:9000≤h)(h2:h < 10000):inU U (100 * h):=.inr (by simp only[z2y,pm,decide_eq_true_eq];omega)
theorem z5b (U:List Nat):inU U (100 * H):=z60 U (by decide) (by decide)
theorem zob {U:List Nat}{v:AU}{h:Nat}(h1:9000≤h)(h2:h < 10000)(hv:∀ u ∈ ru v,u ∈ U):Resp U Y (fun X=>tk X v h):=by
 intro X hX Y1 e
 dsimp only at e ⊢
 have hh:=z60 U h1 h2
 have hr:=y2o hX.agr hv
 have plain:∀ w:AU,Y1=Y.set (100 * h) w→∃ X1,some (X.set (100 * h) w)=some X1∧agH U X1 Y1∧(∀ k,¬ inU U k→X1 k=X k)∧(∀ k,¬ inU U k→Y1 k=Y k):=by
  intro w e
  subst e
  exact⟨_,rfl,hX.set hh w,z08 hh X w,z08 hh Y w⟩
 have two:∀ (k:Nat) (a w:AU),inU U k→Y1=(Y.set k a).set (100 * h) w→∃ X1,some ((X.set k a).set (100 * h) w)=some X1∧agH U X1 Y1∧(∀ k,¬ inU U k→X1 k=X k)∧(∀ k,¬ inU U k→Y1 k=Y k):=by
  intro k a w hk e
  subst e
  exact⟨_,rfl,(hX.set hk a).set hh w,fun j hj=>(z08 hh _ w j hj).trans (z08 hk X a j hj),fun j hj=>(z08 hh _ w j hj).trans (z08 hk Y a j hj)⟩
 cases v with
 | view k g p off len =>
  have hk:=hr k (by simp[roots])
  have hin:inU U k:=.inl (hv _ (by simp[ru,roots]))
  simp only[tk,hk] at e ⊢
  split at e
  ·rename_i hc
   rw[if_pos hc]
   split at e
   ·rename_i hg
    split at e
    ·rename_i ho
     simp only[pe] at e
     simp only[hg,ho,if_true]
     exact two _ _ _ hin e.symm
    ·cases e
   ·rename_i hg
    simp only[pe] at e
    exact plain _ e.symm
   ·cases e
  ·cases e
 | ptr k g p i =>
  have hk:=hr k (by simp[roots])
  have hin:inU U k:=.inl (hv _ (by simp[ru,roots]))
  simp only[tk,hk] at e ⊢
  split at e
  ·rename_i hc
   rw[if_pos hc]
   split at e
   ·rename_i hg
    split at e
    ·rename_i ho
     simp only[pe] at e
     simp only[hg,ho,if_true]
     exact two _ _ _ hin e.symm
    ·cases e
   ·cases e
  ·cases e
 | sl o u s n cs =>
  cases o with
  | false =>
   simp only[tk,z0a,Bool.not_false,if_true] at e ⊢
   exact plain _ (Option.some.inj e).symm
  | true =>
   cases n with
   | zero=>cases cs with
    | nil=>simp only[tk] at e ⊢;exact plain _ (Option.some.inj e).symm
    | cons c cs=>simp [tk,z0a] at e
   | succ n=>simp [tk,z0a] at e
 | bx o u cs =>
  cases o with
  | false =>
   simp only[tk,z0a,Bool.not_false,if_true] at e ⊢
   exact plain _ (Option.some.inj e).symm
  | true=>simp [tk,z0a] at e
 | sc x=>simp only[tk,z0a,if_true] at e ⊢;exact plain _ (Option.some.inj e).symm
 | bptr b g i=>simp only[tk,z0a,if_true] at e ⊢;exact plain _ (Option.some.inj e).symm
 | vptr u cs=>simp only[tk,z0a,if_true] at e ⊢;exact plain _ (Option.some.inj e).symm
 | clos f cs=>simp only[tk,z0a,if_true] at e ⊢;exact plain _ (Option.some.inj e).symm
 | agg cs=>simp [tk] at e
 | tuple cs=>simp [tk] at e
 | dead=>simp [tk] at e
 | non=>simp [tk] at e
theorem zjp {U:List Nat}:∀ {vs:List AU} {h:Nat} {Y:XF Unit},9000≤h→h+vs.length < 10000→(∀ v ∈ vs,∀ u ∈ ru v,u ∈ U)→Resp U Y (fun X=>tkL X h vs)
 | [],h,Y,h1,h2,hv=>by
  intro X hX Y1 e
  dsimp only at e ⊢
  simp only[tkL,pe] at e
  subst e
  exact⟨X,rfl,hX,fun _ _=>rfl,fun _ _=>rfl⟩
 | v :: vs,h,Y,h1,h2,hv=>by
  simp only[tkL]
  simp only[sd] at h2
  exact Resp.bind (zob h1 (by omega) (hv v (by simp))) fun Y1 _=>zjp (by omega) (by omega) fun v hm=>hv v (qd _ hm)
theorem zu5 {U:List Nat}(h:Nat)(h1:9000≤h):∀ (n:Nat),h+n≤10000→(∀ X Y,agH U X Y→agH U (clr X h n) (clr Y h n))∧(∀ X:XF Unit,∀ k,¬ inU U k→clr X h n k=X k)
 | 0,_=>⟨fun X Y hX=>hX,fun X k _=>rfl⟩
 | n+1,hn=>by
  obtain⟨a,b⟩:=zu5 (U:=U) h h1 n (by omega)
  have hh:=z60 U (h:=h+n) (by omega) (by omega)
  exact⟨fun X Y hX=>by rw[z9v,z9v];exact (a X Y hX).set hh _,fun X k hk=>by rw[z9v];exact (z08 hh _ _ k hk).trans (b X k hk)⟩
theorem zoc {U:List Nat}(hX:agH U X Y)(h:Nat)(h1:9000≤h)(n:Nat)(hn:h+n≤10000):z2p X h n=z2p Y h n:=by
 simp only[z2p]
 apply rc
 intro j hj
 have:=ql.1 hj
 rw[hX _ (z60 U (h:=h+j) (by omega) (by omega))]
theorem z8n {U:List Nat}{v:AU}(hv:∀ u ∈ ru v,u ∈ U):Resp U Y (fun X=>z9e X v):=by
 by_cases hag:∃ vs,v=.agg vs
 ·obtain⟨vs,rfl⟩:=hag
  simp only[z9e]
  by_cases hl:vs.length≤400
  ·simp only[if_pos hl]
   have hb:=zu5 (U:=U) (H+1) (by unfold H;omega) vs.length (by simp only[H];omega)
   refine Resp.map (zjp (h:=H+1) (by unfold H;omega) (by simp only[H];omega) fun v hm u hu=>hv u ?_) (fun X1 Y1 h=>?_) (fun X k hk=>?_)
   ·simp only[ru,roots,sg] at hu ⊢
    obtain⟨r,hr,rfl⟩:=hu
    refine⟨r,?_,rfl⟩
    clear hl hb
    induction vs with
    | nil=>cases hm
    | cons w ws ih =>
     simp only[z1a,qh]
     rcases qj.1 hm with rfl | hm
     ·exact .inl hr
     ·exact .inr (ih (fun u hu=>hv u (by
       simp only[ru,roots,z1a,sj,qh] at hu ⊢
       exact .inr hu)) hm)
   ·refine hb.1 _ _ ?_
    rw[zoc h (H+1) (by unfold H;omega) vs.length (by simp only[H];omega)]
    exact h.set (z5b U) _
   ·exact (hb.2 _ k hk).trans (z08 (z5b U) _ _ k hk)
  ·simp only[if_neg hl]
   intro X hX Y1 e
   cases e
 ·have:∀ X,z9e X v=tk X v H:=by
   intro X
   unfold z9e
   split
   ·exact absurd ⟨_,rfl⟩ hag
   ·rfl
  simp only[this]
  exact zob (by decide) (by decide) hv
theorem z3e {U:List Nat}{c:COd}(hc:∀ u ∈ uO Y c,u ∈ U):Resp U Y (fun X=>z54 X c):=by
 intro X hX Y1 e
 dsimp only at e ⊢
 have hrd:rd X c=rd Y c:=z1e (hX.agr.sub hc)
 have hru:∀ u ∈ ru (rd Y c),u ∈ U:=fun u hu=>hc u (zo9 u hu)
 simp only[z54] at e ⊢
 rw[hrd]
 split at e
 ·rename_i hf
  rw[if_pos hf]
  cases c with
  | c v=>exact z8n (by simpa [uO] using hc) X hX Y1 e
  | t n =>
   have hn:inU U (100 * n):=.inl (by rw[z0m];exact hc _ (by simp[uO]))
   have hk:=hX _ hn
   simp only[zmu,hk,hrd] at e ⊢
   cases hv:(Y (100 * n)).2 with
   | agg vs =>
    simp only[hv] at e ⊢
    have hva:∀ u ∈ ru (.agg vs),u ∈ U:=by
     have:rd Y (.t n)=.agg vs:=by simp only[rd,rdK,hv,ldV]
     rwa [this] at hru
    split at e
    ·rename_i hno
     simp only[hno,if_true]
     exact z8n hva X hX Y1 e
    ·rename_i hno
     simp only[hno,pu,if_false]
     simp only[pe] at e
     subst e
     exact⟨_,rfl,(hX.set (z5b U) _).set hn _,fun k hk=>(z08 hn _ _ k hk).trans (z08 (z5b U) _ _ k hk),fun k hk=>(z08 hn _ _ k hk).trans (z08 (z5b U) _ _ k hk)⟩
   | tuple vs=>simp only[hv] at e;cases e
   | _=>simp only[hv] at e ⊢;exact z8n hru X hX Y1 e
 ·cases e
theorem zfz {U:List Nat}{a:AU}{h:Nat}(h1:9000≤h)(h2:h < 10000)(ha:∀ u ∈ ru a,u ∈ U)(hbu:∀ u ∈ bu a 1,u ∈ U):Resp U Y (fun X=>z9f X a h):=by
 intro X hX Y1 e
 dsimp only at e ⊢
 have hh:=z60 U h1 h2
 have hkh:=hX _ hh
 unfold z9f at e ⊢
 split at e
 ·rename_i b g i
  split at e
  ·rename_i hc
   have hin:inU U (100 * b+1+i):=.inl (by
    have:=z57 (b:=b) (m:=1+i) (n:=1) hbu (j:=0) (by omega) (by omega) (by omega)
    rwa [show 100 * b+(1+i+0)=100 * b+1+i by omega] at this)
   have hi:X (100 * b+1+i)=Y (100 * b+1+i):=hX _ hin
   have hgen:X (100 * b+99)=Y (100 * b+99):=hX _ (.inl (zdy ha))
   simp only[pe] at e
   subst e
   simp only[hgen,hi,hkh,hc,and_self,if_true]
   exact⟨_,rfl,(hX.set hin _).set hh _,fun k hk=>(z08 hh _ _ k hk).trans (z08 hin _ _ k hk),fun k hk=>(z08 hh _ _ k hk).trans (z08 hin _ _ k hk)⟩
  ·cases e
 ·rename_i k g p i
  have hin:inU U k:=.inl (ha _ (by simp[ru,roots]))
  have hk:=hX k hin
  simp only[hk,hkh]
  split at e
  ·rename_i hc
   rw[if_pos hc]
   split at e
   ·rename_i u hu
    simp only[pe] at e
    subst e
    refine⟨_,rfl,?_,?_,?_⟩
    ·split
     ·exact (hX.set hin _).set hh _
     ·exact (hX.upd hin _).set hh _
    ·intro j hj
     rw[z08 hh _ _ j hj]
     split
     ·exact z08 hin _ _ j hj
     ·exact zdz hin _ _ j hj
    ·intro j hj
     rw[z08 hh _ _ j hj]
     split
     ·exact z08 hin _ _ j hj
     ·exact zdz hin _ _ j hj
   ·cases e
  ·cases e
 ·cases e
theorem zs7 (i:Nat)(a:AU):ru (z2d i a)=ru a:=by cases a<;>rfl
theorem zs8 {a:AU}{j n:Nat}(h:j < n):∀ u ∈ bu (z2d j a) 1,u ∈ bu a n:=by
 cases a with
 | bptr b g i =>
  intro u hu
  simp only[z2d,bu,z9j,sg,ql] at hu ⊢
  obtain⟨x,hx,rfl⟩:=hu
  exact⟨j,h,by omega⟩
 | _=>intro u hu;simp[z2d,bu] at hu
theorem zod {U:List Nat}{a:AU}{n:Nat}(ha:∀ u ∈ ru a,u ∈ U)(hbu:∀ u ∈ bu a n,u ∈ U)(vs:List AU):∀ (i:Nat) (Y:XF Unit),i+vs.length≤n→Resp U Y (fun X=>zme X a i vs):=by
 have hh1:inU U (100 * (H+1)):=z60 U (h:=H+1) (by unfold H;omega) (by unfold H;omega)
 generalize hq:100 * (H+1)=q at hh1
 induction vs with
 | nil =>
  intro i Y _ X hX Y1 e
  have e:some Y=some Y1:=e
  cases e
  exact⟨X,rfl,hX,fun _ _=>rfl,fun _ _=>rfl⟩
 | cons c cs ih =>
  intro i Y hle X hX Y2 e
  simp only[sd] at hle
  have e:((z9f ((Y.set (100 * H) (.agg (List.replicate (i+1) .dead ++ cs))).set (100 * (H+1)) c) (z2d i a) (H+1)).bind fun X2=>zme X2 a (i+1) cs)=some Y2:=e
  rw[hq,pf] at e
  obtain⟨Y1,e1,e2⟩:=e
  have hp:=zfz (U:=U) (Y:=(Y.set (100 * H) (.agg (List.replicate (i+1) .dead ++ cs))).set q c) (a:=z2d i a) (h:=H+1) (by unfold H;omega) (by unfold H;omega) (by rw[zs7];exact ha) (fun u hu=>hbu u (zs8 (by omega) u hu))
  obtain⟨X1,a1,a2,a3,a4⟩:=hp _ ((hX.set (z5b U) (.agg (List.replicate (i+1) .dead ++ cs))).set hh1 c) Y1 e1
  obtain⟨X2,b1,b2,b3,b4⟩:=ih (i+1) Y1 (by omega) X1 a2 Y2 e2
  refine⟨X2,?_,b2,fun k hk=>(b3 k hk).trans ((a3 k hk).trans ((z08 hh1 _ _ k hk).trans (z08 (z5b U) _ _ k hk))),fun k hk=>(b4 k hk).trans ((a4 k hk).trans ((z08 hh1 _ _ k hk).trans (z08 (z5b U) _ _ k hk)))⟩
  show ((z9f ((X.set (100 * H) (.agg (List.replicate (i+1) .dead ++ cs))).set (100 * (H+1)) c) (z2d i a) (H+1)).bind fun X2=>zme X2 a (i+1) cs)=some X2
  rw[hq,pf]
  exact⟨X1,a1,b1⟩
theorem zs9 {U:List Nat}{n:Nat}{a v:COd}(hv:∀ u ∈ uO Y v,u ∈ U)(ha:∀ Y1,z54 Y v=some Y1→∀ u ∈ uO Y1 a ++ bu (rd Y1 a) n,u ∈ U):Resp U Y (fun X=>stV X n a v):=by
 simp only[stV]
 refine Resp.bind (z3e hv) fun Y1 e1=>?_
 intro X hX Y2 e
 dsimp only at e ⊢
 have hH:=hX _ (z5b U)
 have hua:∀ u ∈ uO Y1 a,u ∈ U:=fun u hu=>ha Y1 e1 u (qh.2 (.inl hu))
 have hub:∀ u ∈ bu (rd Y1 a) n,u ∈ U:=fun u hu=>ha Y1 e1 u (qh.2 (.inr hu))
 have hrd:rd X a=rd Y1 a:=z1e (hX.agr.sub hua)
 have hra:∀ u ∈ ru (rd Y1 a),u ∈ U:=fun u hu=>hua u (zo9 u hu)
 simp only[hH,hrd] at e ⊢
 cases hvs:(Y1 (100 * H)).2 with
 | agg vs =>
  simp only[hvs] at e ⊢
  split at e
  ·rename_i hc
   rw[if_pos hc]
   exact Resp.map (zod hra hub _ 0 _ (by omega)) (fun X1 Y1 h=>h.set (z5b U) _) (fun X k hk=>z08 (z5b U) _ _ k hk) X hX Y2 e
  ·cases e
 | _ =>
  simp only[hvs] at e ⊢
  split at e
  ·rename_i hn
   rw[if_pos hn]
   exact zfz (by decide) (by decide) hra (by rw[← hn];exact hub) X hX Y2 e
  ·cases e
theorem zoe {U:List Nat}{d:Nat}{c:COd}(hd:2 * d ∈ U)(hc:∀ u ∈ uO Y c,u ∈ U):Resp U Y (fun X=>zri X d c):=by
 simp only[zri]
 have hdi:inU U (100 * d):=.inl (by rw[z0m];exact hd)
 refine Resp.map (z3e hc) (fun X1 Y1 h=>?_) (fun X k hk=>(z08 (z5b U) _ _ k hk).trans (z08 hdi _ _ k hk))
 rw[h _ (z5b U)]
 exact (h.set hdi _).set (z5b U) _
theorem zsa {U:List Nat}{d s:Nat}{c:COd}(hd:2 * d ∈ U)(hc:∀ u ∈ uO Y c,u ∈ U):Resp U Y (fun X=>bsV X d s c):=by
 simp only[bsV]
 have hdi:inU U (100 * d):=.inl (by rw[z0m];exact hd)
 refine Resp.bind (z3e hc) fun Y1 _=>?_
 intro X hX Y2 e
 dsimp only at e ⊢
 have hH:=hX _ (z5b U)
 have two:∀ w:AU,Y2=(Y1.set (100 * d) w).set (100 * H) .non→∃ X1,some ((X.set (100 * d) w).set (100 * H) .non)=some X1∧agH U X1 Y2∧(∀ k,¬ inU U k→X1 k=X k)∧(∀ k,¬ inU U k→Y2 k=Y1 k):=by
  intro w e
  subst e
  exact⟨_,rfl,(hX.set hdi w).set (z5b U) _,fun k hk=>(z08 (z5b U) _ _ k hk).trans (z08 hdi _ _ k hk),fun k hk=>(z08 (z5b U) _ _ k hk).trans (z08 hdi _ _ k hk)⟩
 simp only[hH] at e ⊢
 cases hvs:(Y1 (100 * H)).2 with
 | agg vs =>
  simp only[hvs] at e ⊢
  split at e
  ·rename_i hc
   simp only[pe] at e
   rw[if_pos hc]
   exact two _ e.symm
  ·cases e
 | _ =>
  simp only[hvs] at e ⊢
  split at e
  ·rename_i hc
   simp only[pe] at e
   rw[if_pos hc]
   exact two _ e.symm
  ·cases e
theorem zof {U:List Nat}{d s b:Nat}{x y:COd}(hd:2 * d ∈ U)(hx:∀ u ∈ uO Y x,u ∈ U)(hy:∀ u ∈ uO Y y,u ∈ U):Resp U Y (fun X=>zvt X d s b x y):=by
 intro X hX Y2 e
 dsimp only at e ⊢
 have hdi:inU U (100 * d):=.inl (by rw[z0m];exact hd)
 have e1:z1q X s (rd X y)=z1q Y s (rd Y y):=by rw[z1e (hX.agr.sub hy),z6f (z3d (hX.agr.sub hy))]
 simp only[zvt,e1] at e ⊢
 simp only[pf] at e
 obtain⟨news,hn,e⟩:=e
 simp only[hn,po]
 split at e
 ·rename_i hp
  rw[if_pos hp]
  refine Resp.bind (z3e hx) (fun Y1 _=>?_) X hX Y2 (by simpa only [pf] using e)
  intro X1 hX1 Y3 e
  dsimp only at e ⊢
  have hH:=hX1 _ (z5b U)
  simp only[hH] at e ⊢
  split at e
  ·split at e
   ·rename_i hc
    simp only[pe] at e
    subst e
    rw[if_pos hc]
    refine⟨_,rfl,((hX1.set (z5b U) _).set hdi _).set (z5b U) _,fun k hk=>?_,fun k hk=>?_⟩
    ·exact (z08 (z5b U) _ _ k hk).trans ((z08 hdi _ _ k hk).trans (z08 (z5b U) _ _ k hk))
    ·exact (z08 (z5b U) _ _ k hk).trans ((z08 hdi _ _ k hk).trans (z08 (z5b U) _ _ k hk))
   ·cases e
  ·cases e
 ·cases e
theorem zb5 (U:List Nat):inU U (100 * hh):=z60 U (h:=hh) (by unfold hh H;omega) (by unfold hh H;omega)
theorem zld {U:List Nat}{d s b:Nat}{x y:COd}(hd:2 * d ∈ U)(hy:∀ u ∈ uO Y y,u ∈ U)(hx:∀ Y0,z54 Y y=some Y0→∀ u ∈ uO (mvH Y0) x,u ∈ U):Resp U Y (fun X=>zhp X d s b x y):=by
 have hdi:inU U (100 * d):=.inl (by rw[z0m];exact hd)
 simp only[zhp]
 refine Resp.bind (z3e hy) fun Y0 e0=>?_
 intro X hX Y2 e
 have hXH:=hX _ (z5b U)
 simp only[hXH] at e ⊢
 split at e
 ·cases e
 ·rename_i hs
  rw[if_neg hs]
  have hM:agH U (mvH X) (mvH Y0):=by
   unfold mvH
   rw[hXH]
   exact (hX.set (zb5 U) _).set (z5b U) _
  have hMo:∀ (Z:XF Unit) (k:Nat),¬ inU U k→mvH Z k=Z k:=fun Z k hk=>(z08 (z5b U) _ _ k hk).trans (z08 (zb5 U) _ _ k hk)
  rw[pf] at e
  obtain⟨Y1,e1,e2⟩:=e
  obtain⟨X1,a1,a2,a3,a4⟩:=z3e (hx Y0 e0) (mvH X) hM Y1 e1
  have g1:=a2 _ (z5b U)
  have g2:=a2 _ (zb5 U)
  have g3:=hM _ (zb5 U)
  have a1':z54 (mvH X) x=some X1:=a1
  rw[a1',po,g1,g2,g3]
  cases h1:(Y1 (100 * H)).2 with
  | sl o1 u1 s1 n cs =>
   cases h2:(Y1 (100 * hh)).2 with
   | sl o2 u2 s2 m news =>
    rw[h1,h2] at e2
    cases o1 with
    | false=>simp [apO] at e2
    | true =>
     cases o2 with
     | false=>simp [apO] at e2
     | true =>
      simp only[apO,g1,g2] at e2 ⊢
      split at e2
      ·rename_i hc
       simp only[pe] at e2
       subst e2
       rw[if_pos hc]
       refine⟨_,rfl,(((a2.set (z5b U) _).set hdi _).set (z5b U) _).set (zb5 U) _,fun k hk=>?_,fun k hk=>?_⟩
       ·exact (z08 (zb5 U) _ _ k hk).trans ((z08 (z5b U) _ _ k hk).trans ((z08 hdi _ _ k hk).trans ((z08 (z5b U) _ _ k hk).trans ((a3 k hk).trans (hMo X k hk)))))
       ·exact (z08 (zb5 U) _ _ k hk).trans ((z08 (z5b U) _ _ k hk).trans ((z08 hdi _ _ k hk).trans ((z08 (z5b U) _ _ k hk).trans ((a4 k hk).trans (hMo Y0 k hk)))))
      ·cases e2
   | _=>rw [h1,h2] at e2;cases o1<;>simp [apO] at e2
  | _=>rw [h1] at e2;simp[apO] at e2
theorem zwf (U:List Nat):inU U (100 * hh):=z60 U (h:=hh) (by unfold hh H;omega) (by unfold hh H;omega)
theorem zsb {U:List Nat}{d s:Nat}{x y:COd}(hd:2 * d ∈ U)(hx:∀ u ∈ uO Y x,u ∈ U)(hy:∀ u ∈ uO Y y,u ∈ U):Resp U Y (fun X=>cpV X d s x y):=by
 intro X hX Y2 e
 have hdi:inU U (100 * d):=.inl (by rw[z0m];exact hd)
 have e1:z1q X s (rd X y)=z1q Y s (rd Y y):=by rw[z1e (hX.agr.sub hy),z6f (z3d (hX.agr.sub hy))]
 have e2:rd X x=rd Y x:=z1e (hX.agr.sub hx)
 have hru:∀ u ∈ ru (rd Y x),u ∈ U:=fun u hu=>hx u (zo9 u hu)
 simp only[cpV,e1,e2] at e ⊢
 simp only[pf] at e
 obtain⟨news,hn,e⟩:=e
 simp only[hn,po]
 split at e
 ·rename_i hc
  rw[if_pos hc]
  cases hv:rd Y x with
  | view k g p off n =>
   rw[hv] at e hru
   have hin:inU U k:=.inl (hru _ (by simp[ru,roots]))
   simp only[cpD,hX k hin] at e ⊢
   split at e
   ·rename_i hc2
    rw[if_pos hc2]
    cases ht:cpT n off s news (z0o (Y k).2 p) with
    | none=>rw [ht] at e;cases e
    | some N =>
     rw[ht] at e
     simp only[cpK,pe] at e ⊢
     subst e
     simp only[hX k hin]
     exact⟨_,rfl,((hX.set (zwf U) _).upd hin _).set hdi _,fun j hj=>(z08 hdi _ _ j hj).trans ((zdz hin _ _ j hj).trans (z08 (zwf U) _ _ j hj)),fun j hj=>(z08 hdi _ _ j hj).trans ((zdz hin _ _ j hj).trans (z08 (zwf U) _ _ j hj))⟩
   ·cases e
  | _=>rw [hv] at e;simp[cpD] at e
 ·cases e
theorem zog {U:List Nat}{d n i:Nat}(hd:2 * d ∈ U)(hn:2 * n ∈ U):Resp U Y (fun X=>zvm X d n i):=by
 intro X hX Y2 e
 dsimp only at e ⊢
 have hdi:inU U (100 * d):=.inl (by rw[z0m];exact hd)
 have hni:inU U (100 * n):=.inl (by rw[z0m];exact hn)
 simp only[zvm,hX _ hni] at e ⊢
 split at e
 ·split at e
  ·split at e
   ·rename_i hne
    simp only[pe] at e
    subst e
    rw[if_pos hne]
    exact⟨_,rfl,(hX.set hni _).set hdi _,fun k hk=>(z08 hdi _ _ k hk).trans (z08 hni _ _ k hk),fun k hk=>(z08 hdi _ _ k hk).trans (z08 hni _ _ k hk)⟩
   ·cases e
  ·cases e
 ·cases e
theorem zg0 {U:List Nat}{d:Nat}(hb:∀ u ∈ z9j d 1 99,u ∈ U)(cs:List AU):(∀ X Y,agH U X Y→agH U (X.box d cs) (Y.box d cs))∧(∀ X:XF Unit,∀ k,¬ inU U k→X.box d cs k=X k):=by
 have hin:∀ k,k / 100=d→k % 100 ≠ 0→inU U k:=fun k h1 h2=>.inl (by
  have:=z57 (b:=d) (m:=1) (n:=99) hb (j:=k % 100 - 1) (by omega) (by omega) (by omega)
  rwa [show 100 * d+(1+(k % 100 - 1))=k by omega] at this)
 refine⟨fun X Y h k hk=>?_,fun X k hk=>?_⟩
 ·simp only[XF.box]
  rw[h k hk]
 ·simp only[XF.box]
  rw[if_neg (fun hh=>hk (hin k hh.1 hh.2))]
theorem zb6 {U:List Nat}{d:Nat}(hd:2 * d ∈ U)(g:Nat):(∀ X Y,agH U X Y→agH U (zl1 X d g) (zl1 Y d g))∧(∀ X:XF Unit,∀ k,¬ inU U k→zl1 X d g k=X k):=by
 have hdi:inU U (100 * d):=.inl (by rw[z0m];exact hd)
 exact⟨fun X Y h=>(h.set (z5b U) _).set hdi _,fun X k hk=>(z08 hdi _ _ k hk).trans (z08 (z5b U) _ _ k hk)⟩
theorem zle {U:List Nat}{d:Nat}{zs:List AU}(hd:2 * d ∈ U)(hb:∀ u ∈ z9j d 1 99,u ∈ U):Resp U Y (fun X=>some (z5w X d zs)):=by
 refine Resp.some U Y _ (fun X h=>?_) (fun X k hk=>?_)
 ·simp only[z5w]
  have h99:X (100 * d+99)=Y (100 * d+99):=h _ (.inl (z57 (b:=d) (m:=1) (n:=99) hb (j:=98) (by omega) (by omega) (by omega)))
  rw[h99]
  exact (zb6 hd _).1 _ _ ((zg0 hb zs).1 _ _ (h.set (z5b U) _))
 ·simp only[z5w]
  exact ((zb6 hd _).2 _ k hk).trans (((zg0 hb zs).2 _ k hk).trans (z08 (z5b U) _ _ k hk))
theorem zoh {U:List Nat}{d:Nat}{c:COd}(hd:2 * d ∈ U)(hb:∀ u ∈ z9j d 1 99,u ∈ U)(hc:∀ u ∈ uO Y c,u ∈ U):Resp U Y (fun X=>zvn X d c):=by
 simp only[zvn]
 refine Resp.bind (z3e hc) fun Y1 _=>?_
 intro X hX Y2 e
 dsimp only at e ⊢
 have hH:=hX _ (z5b U)
 have h99:X (100 * d+99)=Y1 (100 * d+99):=hX _ (.inl (z57 (b:=d) (m:=1) (n:=99) hb (j:=98) (by omega) (by omega) (by omega)))
 have key:∀ (vs:List AU) (g:Nat),Y2=zl1 (Y1.box d vs) d g→∃ X1,some (zl1 (X.box d vs) d g)=some X1∧agH U X1 Y2∧(∀ k,¬ inU U k→X1 k=X k)∧(∀ k,¬ inU U k→Y2 k=Y1 k):=by
  intro vs g e
  subst e
  exact⟨_,rfl,(zb6 hd g).1 _ _ ((zg0 hb vs).1 _ _ hX),fun k hk=>((zb6 hd g).2 _ k hk).trans ((zg0 hb vs).2 _ k hk),fun k hk=>((zb6 hd g).2 _ k hk).trans ((zg0 hb vs).2 _ k hk)⟩
 simp only[hH,h99] at e ⊢
 cases hvs:(Y1 (100 * H)).2 with
 | agg vs =>
  simp only[hvs] at e ⊢
  split at e
  ·rename_i hc
   simp only[pe] at e
   rw[if_pos hc]
   exact key _ _ e.symm
  ·cases e
 | _ =>
  simp only[hvs] at e ⊢
  split at e
  ·rename_i hc
   simp only[pe] at e
   rw[if_pos hc]
   exact key _ _ e.symm
  ·cases e
end
end Go.OT
