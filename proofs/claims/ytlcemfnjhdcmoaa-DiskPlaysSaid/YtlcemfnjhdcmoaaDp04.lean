/- Part 4 of the proof: see its last file. -/
import Derived.Orders
import Derived.Below
import Derived.Laws.Entries
import Derived.Laws.Cells
import Derived.Laws.IdiomCopy
import Derived.Scope
import Derived.Calls
import Derived.Laws.Tables
import Derived.Laws.MakeOwn
import Derived.Laws.BytesString
import Derived.ArgAppend
import Derived.WalkSpells
import Derived.Lib.SlBytesConst
import Derived.Lib.ConvBytes
import Derived.WalkKit
import Derived.ProofKit
import Derived.OpenShut
import Derived.ShutString
import Derived.ChangeOld
import Derived.Lib.SmallJoins
import Derived.Test.YtlcemfnjhdcmoaaDp03
set_option linter.unusedSimpArgs false
set_option linter.unusedVariables false
namespace Go.OT
def nrmX {L:Type}(p q:Nat→Bool)(X:XF L):XF L:=fun k=>if p k=true then (if q k=true then X k else (0,(X k).2)) else (0,.non)
theorem RelL.nrm {C:Ctx}{X:XF LO} {β:Nat→Nat × Nat}{I:ASet}{rg:Nat→Value}{w:World}(R:RelL C X β I rg w)(p q:Nat→Bool)(hl:∀ k,p k=true→∀ r ∈ roots (X k).2,p r=true∧q r=true) :
  RelL C (nrmX p q X) β I rg w:=by
 have hin:∀ k,p k=true→(nrmX p q X k).2=(X k).2:=fun k h=>by simp only[nrmX,h,if_true];split<;>rfl
 have hout:∀ k,¬ p k=true→nrmX p q X k=(0,.non):=fun k h=>by simp[nrmX,h]
 have hroot:∀ k,p k=true→∀ r ∈ roots (X k).2,nrmX p q X r=X r:=fun k h r hr=>by
  obtain⟨h1,h2⟩:=hl k h r hr
  simp[nrmX,h1,h2]
 have hk:∀ k b o,kfp β (nrmX p q X) k b o→kfp β X k b o:=by
  intro k b o h
  by_cases hkl:p k=true
  ·rwa [kfp,hin k hkl] at h
  ·rw[kfp,hout k hkl] at h
   rcases h with h | ⟨_,h,_⟩
   ·simp[fp] at h
   ·exact absurd rfl h
 refine⟨fun t=>?_,fun k=>?_,fun k k' hne b o h1 h2=>R.disj k k' hne b o (hk k b o h1) (hk k' b o h2),fun b o h=>⟨(R.imm b o h).1,fun k h'=>(R.imm b o h).2 k (hk k b o h')⟩,
  fun k b o h=>R.frK k b o (hk k b o h),R.frI,R.frI0,R.fr,R.gh,R.gr⟩
 ·by_cases hkl:p (100 * t)=true
  ·rw[hin _ hkl]
   exact RR_roots _ _ (fun r hr=>hroot _ hkl r hr) (R.reg t)
  ·rw[hout _ hkl];simp[RR]
 ·by_cases hkl:p k=true
  ·have h:=R.key k
   refine⟨by rw[hin k hkl];exact h.mem,by rw[hin k hkl];exact h.sep,?_,fun b o hb=>h.live b o (hk k b o hb),by rw[hin k hkl];exact h.last⟩
   rw[hin k hkl]
   intro h1 h2
   obtain⟨⟨y,hy,hc⟩,hf⟩:=h.cell h1 h2
   exact⟨⟨y,hy,hc.imp id fun hc=>⟨hc.1,RR_roots _ _ (fun r hr=>hroot _ hkl r hr) hc.2⟩⟩,hf⟩
  ·refine⟨by rw[hout k hkl];simp[Mem],by rw[hout k hkl];simp[Sep],by rw[hout k hkl];intro _ h;exact absurd rfl h,fun b o hb=>(R.key k).live b o (hk k b o hb),fun _=>by rw[hout k hkl]⟩
theorem RelT.nrm {C:Ctx}{X:XF Unit}{tm:Array Value}{w:World}(h:RelT C X tm w)(p q:Nat→Bool)(hl:∀ k,p k=true→∀ r ∈ roots (X k).2,p r=true∧q r=true):RelT C (nrmX p q X) tm w:=by
 obtain⟨XL,β,I,rg,he,R,hs,ht⟩:=h
 subst he
 refine⟨nrmX p q XL,β,I,rg,?_,R.nrm p q (fun k hk r hr=>hl k hk r (by simpa [erF,er_roots] using hr)),hs,ht⟩
 funext k
 simp only[erF,nrmX]
 split
 ·split<;>rfl
 ·simp[er]
def SOk (C:Ctx)(ops:Array Oper)(i:Nat)(X X':XF Unit):Prop :=
 ∀ (a:Act) (w:World) (K:Act→World→Prop) (Q:Exit→Act→World→Prop),a.defers=[]→RelT C X a.tmps w →
  (∀ a' w',a'.defers=[]→RelT C X' a'.tmps w'→K a' w')→wpOp C.P ops Q i K a w
theorem SOk.weak {C:Ctx}{ops:Array Oper}{i:Nat}{X X' X'':XF Unit}(h:SOk C ops i X X')(hw:∀ tm w,RelT C X' tm w→RelT C X'' tm w):SOk C ops i X X'' :=
 fun a w K Q hd hr hK=>h a w K Q hd hr fun a' w' hd' hr'=>hK a' w' hd' (hw _ _ hr')
theorem SOk.ofG {C:Ctx}{ops:Array Oper}{i:Nat}{o:Oper}{X X':XF Unit}(hi:ops[i]?=some o)(h:GStep C ops o X X'):SOk C ops i X X' :=
 fun a w K Q hd hr hK=>h.wpOp hi hd hr hK
theorem SOk.op {C:Ctx}{ops:Array Oper}{i:Nat}{o:Oper}{X X':XF Unit}(hi:ops[i]?=some o)(hg:o.guard=none)(h:OpOk C o X X'):SOk C ops i X X' :=
 SOk.ofG hi (by unfold GStep;rw[hg];exact h)
theorem RelT.scal {C:Ctx}{X:XF Unit}{a:Act}{w:World}(h:RelT C X a.tmps w){t:Nat}{b:Value}(ht:t < C.nt)(hb:(X (100 * t)).2=.sc b):a.tmps[t]?=some b:=by
 obtain⟨XL,β,I,rg,he,R,hs,hrg⟩:=h
 subst he
 have hr:=R.reg t
 rw[er_sc (lv:=(XL (100 * t)).2) hb] at hr
 simp only[RR] at hr
 have:=hrg t ht
 rw[hr] at this
 simp only[Array.getD_eq_getD_getElem?] at this
 cases hq:a.tmps[t]? with
 | none=>rw [Array.getElem?_eq_none_iff] at hq;omega
 | some v=>simp [hq] at this;rw[this]
theorem RelT.skippedU {C:Ctx}{X:XF Unit}{a:Act}{w:World}(h:RelT C X a.tmps w){d:Nat}(hd:d < C.nt):RelT C (X.set (100 * d) (.sc undef)) (a.put (some d) undef).tmps w:=by
 obtain⟨XL,β,I,rg,he,R,hs,hrg⟩:=h
 subst he
 refine⟨_,β,I,_,by rw[erF_set];rfl,R.setR d (by have:=C.hnt;omega) (v:=.sc undef) (x:=undef) rfl (by simp[Mem]) (by simp[RR]),by simp[Act.put,hs],fun t ht=>?_⟩
 simp only[Act.put]
 by_cases e:t=d
 ·subst e;simp[Array.getD_eq_getD_getElem?,hs,ht]
 ·simp only[e,if_false]
  rw[← hrg t ht]
  simp[Array.getD_eq_getD_getElem?,Array.getElem?_setIfInBounds_ne (Ne.symm e)]
theorem SOk.yes {C:Ctx}{ops:Array Oper}{i j t:Nat}{o:Oper}{X X':XF Unit}{want:Bool}(hi:ops[i]?=some o)(hg:o.guard=some (j,want))(ht:(ops[j]?).bind (·.dst)=some t)(hlt:t < C.nt)
  (hb:(X (100 * t)).2=.sc (.bool want)) (h:OpOk C o X X'):SOk C ops i X X':=by
 intro a w K Q hd hr hK
 have hy:yielded ops a.tmps j=some want:=by simp[yielded,ht,hr.scal hlt hb]
 unfold Go.wpOp
 simp only[hi,Region.wanted,hg,hy,beq_self_eq_true,if_true]
 exact .inl (h a w hd hr K Q hK)
theorem SOk.no {C:Ctx}{ops:Array Oper}{i j t d:Nat}{o:Oper}{X:XF Unit}{want:Bool}{v:Value}(hi:ops[i]?=some o)(hg:o.guard=some (j,want))(ht:(ops[j]?).bind (·.dst)=some t)(hlt:t < C.nt)
  (hb:(X (100 * t)).2=.sc v) (hv:v ≠ .bool want) (hdst:o.dst=some d) (hdl:d < C.nt):SOk C ops i X (X.set (100 * d) (.sc undef)):=by
 intro a w K Q hd hr hK
 have hy:yielded ops a.tmps j ≠ some want:=by
  simp only[yielded,ht,hr.scal hlt hb,Option.bind_some]
  split
  ·rename_i b hb'
   intro he
   simp only[Option.some.injEq] at hb' he
   exact hv (by rw[hb',he])
  ·simp
 unfold Go.wpOp
 have hf:(yielded ops a.tmps j == some want)=false:=by simpa using hy
 simp only[hi,Region.wanted,hg,hf,Bool.false_eq_true,if_false,hdst]
 exact hK _ _ (by simp[Act.put,hd]) (hr.skippedU hdl)
theorem SOk.no' {C:Ctx}{ops:Array Oper}{i j t:Nat}{o:Oper}{X:XF Unit}{want:Bool}{v:Value}(hi:ops[i]?=some o)(hg:o.guard=some (j,want))(ht:(ops[j]?).bind (·.dst)=some t)(hlt:t < C.nt)
  (hb:(X (100 * t)).2=.sc v) (hv:v ≠ .bool want) (hdst:o.dst=none):SOk C ops i X X:=by
 intro a w K Q hd hr hK
 have hy:yielded ops a.tmps j ≠ some want:=by
  simp only[yielded,ht,hr.scal hlt hb,Option.bind_some]
  split
  ·rename_i b hb'
   intro he
   simp only[Option.some.injEq] at hb' he
   exact hv (by rw[hb',he])
  ·simp
 unfold Go.wpOp
 have hf:(yielded ops a.tmps j == some want)=false:=by simpa using hy
 simp only[hi,Region.wanted,hg,hf,Bool.false_eq_true,if_false,hdst]
 exact hK _ _ (by simp[Act.put,hd]) (by simpa [Act.put] using hr)
inductive SRun (C:Ctx) (ops:Array Oper):List Nat→XF Unit→XF Unit→Prop
 | nil {X:XF Unit}:SRun C ops [] X X
 | cons {i:Nat} {l:List Nat} {X X1 X':XF Unit} (h:SOk C ops i X X1) (r:SRun C ops l X1 X'):SRun C ops (i :: l) X X'
theorem SRun.wpOps {C:Ctx}{ops:Array Oper}{l:List Nat}{X X':XF Unit}(h:SRun C ops l X X'):∀ {a:Act} {w:World} (hd:a.defers=[]) (hr:RelT C X a.tmps w) {Q:Exit→Act→World→Prop},
  (∀ a' w',a'.defers=[]→RelT C X' a'.tmps w'→Q .normal a' w')→wpOps C.P ops Q l a w:=by
 induction h with
 | nil=>intro a w hd hr Q hK;simp only[Go.wpOps];exact hK a w hd hr
 | cons h _ ih =>
  intro a w hd hr Q hK
  rw[wpOps_cons]
  exact h a w _ Q hd hr (fun a' w' hd' hr'=>ih hd' hr' hK)
theorem SRun.app {C:Ctx}{ops:Array Oper}{l m:List Nat}{X X1 X2:XF Unit}(h:SRun C ops l X X1)(h':SRun C ops m X1 X2):SRun C ops (l ++ m) X X2:=by
 induction h with
 | nil=>exact h'
 | cons h _ ih=>exact .cons h (ih h')
def handB (k:Nat):Bool:=decide (900000≤k) && decide (k < 1000000)
def cleanX (X:XF Unit):Prop:=∀ k,(handB k=true→X k=(0,.non))∧∀ r ∈ roots (X k).2,handB r=false
structure DStep (C:Ctx) (ops:Array Oper) (i:Nat) (R D:List Nat) (Y Y':XF Unit):Prop where
 sub:∀ u ∈ D,u ∈ R
 out:∀ k,unitK k ∉ D→Y' k=Y k
 cl:cleanX Y'
 step:∀ X,cleanX X→(∀ k,unitK k ∈ R→X k=Y k)→SOk C ops i X (mix D Y' X)
theorem clean_stV {Y:Nat→XF Unit}{D:Nat→List Nat}{L:Nat→Bool}{n:Nat}(h:∀ m,m≤n→cleanX (Y m)):∀ m,m≤n→cleanX (stV' Y D L m):=by
 intro m
 induction m with
 | zero=>intro h0;exact h 0 h0
 | succ m ih =>
  intro hm k
  simp only[stV']
  split
  ·simp only[mix]
   split
   ·exact h (m+1) hm k
   ·exact ih (by omega) k
  ·exact ih (by omega) k
theorem AWp.drawS {C:Ctx}{id:Nat}{ops:Array Oper}{Q:Ex→XF Unit→Prop}(hm:C.P.follows .mixedOrders=true)(Y:Nat→XF Unit)(R D:Nat→List Nat)(pl:List (List Nat))(l:List (List Nat × List Nat))
  (hl:l.length=ops.size) (hRD:∀ i,i < ops.size→l.getD i ([],[])=(R i,D i)) (hpl:ops.toList.map predsOf=pl)
  (hs:∀ i,i < ops.size→∃ o,ops[i]?=some o∧DStep C ops i (R i) (D i) (Y i) (Y (i+1))) (hc0:cleanX (Y 0)) (hok:drawOk pl l=true) (hq:Q .nrm (Y ops.size)):AWp C (.region id ops true) (Y 0) Q:=by
 simp only[drawOk,Bool.and_eq_true] at hok
 obtain⟨hlt,hpairs⟩:=hok
 have hpa:∀ (i:Nat) (o:Oper),ops[i]?=some o→pl[i]?=some (predsOf o):=by
  intro i o h
  rw[← hpl]
  simp[h]
 have hpair:∀ i j,i < ops.size→j < i→j ∈ (clos [] pl).getD i []∨((∀ u ∈ D j,u ∉ R i)∧(∀ u ∈ D i,u ∉ R j)):=by
  intro i j hi hj
  simp only[pairsOk,List.all_eq_true,List.mem_range,hl] at hpairs
  have:=hpairs i hi j hj
  simp only[Bool.or_eq_true,Bool.and_eq_true,List.contains_iff_mem,hRD i hi,hRD j (by omega)] at this
  rcases this with h | h
  ·exact .inl h
  ·refine .inr ⟨fun u hu=>?_,fun u hu=>?_⟩
   ·have:=List.all_eq_true.1 h.1 u hu;simpa using this
   ·have:=List.all_eq_true.1 h.2 u hu;simpa using this
 have hcl':∀ m,m≤ops.size→cleanX (Y m):=by
  intro m hm
  cases m with
  | zero=>exact hc0
  | succ m =>
   obtain⟨o,_,hst⟩:=hs m (by omega)
   exact hst.cl
 -- one listed set after the other
 have key:∀ (fuel:Nat) (listed:Array Bool) (a:Act) (w:World),listed.size=ops.size →
   (∀ i o,listed.getD i false=true→ops[i]?=some o→∀ d ∈ predsOf o,listed.getD d false=true) →
   ((List.range ops.size).filter fun i=>!listed.getD i true).length≤fuel→a.defers=[]→RelT C (stV' Y D (fun i=>listed.getD i false) ops.size) a.tmps w →
   wpAny C.P .any ops (CQ C Q) fuel listed a w:=by
  intro fuel
  induction fuel with
  | zero =>
   intro listed a w hsz hcl hcnt hd hr
   have hall:∀ i,i < ops.size→listed.getD i true=true:=by
    intro i hi
    cases h:listed.getD i true with
    | true=>rfl
    | false =>
     exfalso
     have:i ∈ (List.range ops.size).filter fun i=>!listed.getD i true:=by simp only[List.mem_filter,List.mem_range,hi,h,Bool.not_false,and_self]
     have h0:=List.eq_nil_of_length_eq_zero (Nat.le_zero.1 hcnt)
     rw[h0] at this
     cases this
   have hempty:Region.ready .any ops listed=[]:=by
    rw[List.eq_nil_iff_forall_not_mem]
    intro i hi
    rw[mem_ready] at hi
    obtain⟨h0,o,ho,_⟩:=hi
    have:=hall i (Array.getElem?_eq_some_iff.1 ho).1
    rw[h0] at this
    cases this
   refine⟨hempty,hd,_,hr,?_⟩
   have:∀ m,m≤ops.size→stV' Y D (fun i=>listed.getD i false) m=Y m:=by
    intro m
    induction m with
    | zero=>intro _;rfl
    | succ m ih =>
     intro hm
     obtain⟨o,_,hst⟩:=hs m (by omega)
     have hL:listed.getD m false=true:=by
      have:=hall m (by omega)
      simp only[Array.getD_eq_getD_getElem?,Array.getElem?_eq_getElem (show m < listed.size by omega),Option.getD_some] at this ⊢
      exact this
     simp only[stV',hL,if_true,ih (by omega)]
     funext k
     simp only[mix]
     split
     ·rfl
     ·rename_i hk;exact (hst.out k hk).symm
   rw[this _ (Nat.le_refl _)]
   exact hq
  | succ fuel ih =>
   intro listed a w hsz hcl hcnt hd hr
   refine⟨fun hempty=>?_,fun i hi=>?_⟩
   ·-- nothing is ready: all is done
    have hall:∀ i,i < ops.size→listed.getD i false=true:=by
     intro i
     induction i using Nat.strongRecOn with
     | _ i ihi =>
      intro hi
      cases h:listed.getD i false with
      | true=>rfl
      | false =>
       exfalso
       obtain⟨o,ho,_⟩:=hs i hi
       have hin:i ∈ Region.ready .any ops listed:=by
        rw[mem_ready]
        refine⟨by
         simp only[Array.getD_eq_getD_getElem?,Array.getElem?_eq_getElem (show i < listed.size by omega),Option.getD_some] at h ⊢
         exact h,o,ho,fun e he hb=>?_⟩
        have hdp:e.on ∈ predsOf o:=by
         simp only[predsOf,List.mem_filterMap]
         exact⟨e,by simpa using he,by rw[if_pos hb]⟩
        have hlt':=predsLt_at hlt (hpa i o ho) e.on hdp
        exact ihi e.on (by omega) (by omega)
       rw[hempty] at hin
       cases hin
    refine⟨hd,_,hr,?_⟩
    have:∀ m,m≤ops.size→stV' Y D (fun i=>listed.getD i false) m=Y m:=by
     intro m
     induction m with
     | zero=>intro _;rfl
     | succ m ih =>
      intro hm
      obtain⟨o,_,hst⟩:=hs m (by omega)
      simp only[stV',hall m (by omega),if_true,ih (by omega)]
      funext k
      simp only[mix]
      split
      ·rfl
      ·rename_i hk;exact (hst.out k hk).symm
    rw[this _ (Nat.le_refl _)]
    exact hq
   ·-- one that is ready
    rw[mem_ready] at hi
    obtain⟨h0,o,ho,hpre⟩:=hi
    have hisz:i < ops.size:=(Array.getElem?_eq_some_iff.1 ho).1
    have hi0:listed.getD i false=false:=by
     simp only[Array.getD_eq_getD_getElem?,Array.getElem?_eq_getElem (show i < listed.size by omega),Option.getD_some] at h0 ⊢
     exact h0
    obtain⟨o',ho',hst⟩:=hs i hisz
    rw[ho] at ho'
    cases ho'
    have hpre':∀ d ∈ predsOf o,listed.getD d false=true:=by
     intro d hdm
     simp only[predsOf,List.mem_filterMap] at hdm
     obtain⟨e,he,hde⟩:=hdm
     split at hde
     ·rename_i hb
      cases hde
      exact hpre e (by simpa using he) hb
     ·cases hde
    have hclo:∀ m o',ops[m]?=some o'→(∀ d ∈ predsOf o',listed.getD d false=true)→∀ j ∈ (clos [] pl).getD m [],listed.getD j false=true:=by
     intro m o' hm' hd' j hj
     refine clos_ok (pl:=pl) (fun i=>listed.getD i false) pl [] 0 rfl (by simp) (by simp) (fun i ds hL hds d hdd=>?_) m _ (hpa m o' hm') hd' j hj
     have hi':i < ops.size:=by
      have:=(List.getElem?_eq_some_iff.1 hds).1
      rw[← hpl] at this
      simpa using this
     have hoi:ops[i]?=some ops[i]:=Array.getElem?_eq_getElem hi'
     rw[hpa i _ hoi] at hds
     cases hds
     exact hcl i _ hL hoi d hdd
    -- apart from what is not done below i, and what is done above it
    have hbelow:∀ m,m < i→listed.getD m false=false→∀ u ∈ D m,u ∉ R i:=by
     intro m hmi hmL
     rcases hpair i m hisz hmi with h | h
     ·have:=hclo i o ho hpre' m h
      rw[hmL] at this
      cases this
     ·exact h.1
    have habove:∀ m,i < m→m < ops.size→listed.getD m false=true→(∀ u ∈ D m,u ∉ R i)∧(∀ u ∈ D i,u ∉ R m):=by
     intro m hmi hms hmL
     rcases hpair m i hms hmi with h | h
     ·have hom:ops[m]?=some ops[m]:=Array.getElem?_eq_getElem hms
      have:=hclo m _ hom (hcl m _ hmL hom) i h
      rw[hi0] at this
      cases this
     ·exact⟨h.2,h.1⟩
    have hA:∀ m,m≤i→∀ k,unitK k ∈ R i→stV' Y D (fun i=>listed.getD i false) m k=Y m k:=by
     intro m
     induction m with
     | zero=>intro _ k _;rfl
     | succ m ihm =>
      intro hmi k hk
      obtain⟨om,_,hstm⟩:=hs m (by omega)
      simp only[stV']
      by_cases hL:listed.getD m false=true
      ·rw[if_pos hL]
       simp only[mix]
       split
       ·rfl
       ·rename_i hkd;rw[ihm (by omega) k hk,hstm.out k hkd]
      ·rw[if_neg hL,ihm (by omega) k hk]
       exact (hstm.out k (fun hu=>hbelow m (by omega) (by simpa using hL) _ hu hk)).symm
    have hB:∀ n,∀ k,unitK k ∈ R i→i+n≤ops.size→stV' Y D (fun i=>listed.getD i false) (i+n) k=Y i k:=by
     intro n
     induction n with
     | zero=>intro k hk _;exact hA i (Nat.le_refl _) k hk
     | succ n ihn =>
      intro k hk hle
      rw[← Nat.add_assoc]
      simp only[stV']
      by_cases hL:listed.getD (i+n) false=true
      ·rw[if_pos hL]
       simp only[mix]
       have hne:0 < n:=by
        rcases Nat.eq_zero_or_pos n with h | h
        ·subst h;simp only[Nat.add_zero] at hL;rw[hi0] at hL;cases hL
        ·exact h
       rw[if_neg (fun hu=>(habove (i+n) (by omega) (by omega) hL).1 _ hu hk)]
       exact ihn k hk (by omega)
      ·rw[if_neg hL]
       exact ihn k hk (by omega)
    have hag:∀ k,unitK k ∈ R i→stV' Y D (fun i=>listed.getD i false) ops.size k=Y i k:=by
     intro k hk
     have:=hB (ops.size - i) k hk (by omega)
     rwa [show i+(ops.size - i)=ops.size by omega] at this
    have hset:∀ m,(listed.setIfInBounds i true).getD m false=if m=i then true else listed.getD m false:=by
     intro m
     by_cases e:m=i
     ·subst e
      simp[Array.getD_eq_getD_getElem?,hsz,hisz]
     ·simp only[Array.getD_eq_getD_getElem?,Array.getElem?_setIfInBounds_ne (Ne.symm e),e,if_false]
    obtain⟨L',hL'⟩:∃ L':Nat→Bool,L'=fun j=>(listed.setIfInBounds i true).getD j false:=⟨_,rfl⟩
    have hset':∀ m,L' m=if m=i then true else listed.getD m false:=by rw[hL'];exact hset
    have hC0:∀ m,m≤i→stV' Y D L' m=stV' Y D (fun i=>listed.getD i false) m:=by
     intro m
     induction m with
     | zero=>intro _;rfl
     | succ m ihm =>
      intro hmi
      simp only[stV',hset',show m ≠ i by omega,if_false,ihm (by omega)]
    have hC:∀ n,i+1+n≤ops.size→stV' Y D L' (i+1+n)=mix (D i) (Y (i+1)) (stV' Y D (fun i=>listed.getD i false) (i+1+n)):=by
     intro n
     induction n with
     | zero =>
      intro _
      simp only[Nat.add_zero,stV',hset',if_true,hC0 i (Nat.le_refl _),hi0,Bool.false_eq_true,if_false]
     | succ n ihn =>
      intro hle
      rw[← Nat.add_assoc]
      simp only[stV',hset',show i+1+n ≠ i by omega,if_false,ihn (by omega)]
      by_cases hL:listed.getD (i+1+n) false=true
      ·rw[if_pos hL,if_pos hL]
       have hap:=habove (i+1+n) (by omega) (by omega) hL
       obtain⟨_,_,hstm⟩:=hs (i+1+n) (by omega)
       funext k
       simp only[mix]
       by_cases hu:unitK k ∈ D (i+1+n)
       ·by_cases hu':unitK k ∈ D i
        ·exact absurd (hst.sub _ hu') (hap.1 _ hu)
        ·simp[hu,hu']
       ·simp[hu]
      ·rw[if_neg hL,if_neg hL]
    have hnew:stV' Y D L' ops.size=mix (D i) (Y (i+1)) (stV' Y D (fun i=>listed.getD i false) ops.size):=by
     have:=hC (ops.size - (i+1)) (by omega)
     rwa [show i+1+(ops.size - (i+1))=ops.size by omega] at this
    refine hst.step _ (clean_stV (n:=ops.size) hcl' _ (Nat.le_refl _)) hag a w _ _ hd hr fun a' w' hd' hr'=>?_
    refine ih _ a' w' (by simp[hsz]) (fun m om hL hom d hdd=>?_) ?_ hd' (by rw[hL'] at hnew;rw[hnew];exact hr')
    ·rw[hset] at hL ⊢
     by_cases ed:d=i
     ·rw[if_pos ed]
     ·rw[if_neg ed]
      by_cases em:m=i
      ·rw[em,ho] at hom
       cases hom
       exact hpre' d hdd
      ·rw[if_neg em] at hL
       exact hcl m om hL hom d hdd
    ·have:=filter_lt (p:=fun i=>!listed.getD i true) (q:=fun j=>!(listed.setIfInBounds i true).getD j true) (fun x hx=>by
       by_cases e:x=i
       ·subst e;simp[h0]
       ·rwa [getD_set_ne true (Ne.symm e)] at hx) (i:=i) (by simp[h0]) (by simp[Array.getD_eq_getD_getElem?,hsz,hisz]) (List.mem_range.2 hisz)
     omega
 intro a w hd hr
 refine wp_region_any hm (key ops.size _ a _ (by simp) (fun i o h=>?_) ?_ hd ?_)
 ·simp only[Array.getD_eq_getD_getElem?,Array.getElem?_replicate] at h
  split at h<;>simp at h
 ·exact Nat.le_trans (List.length_filter_le _ _) (by simp)
 ·have hz:∀ m,stV' Y D (fun i=>(Array.replicate ops.size false).getD i false) m=Y 0:=by
   intro m
   induction m with
   | zero=>rfl
   | succ m ih =>
    have:(Array.replicate ops.size false).getD m false=false:=by
     simp only[Array.getD_eq_getD_getElem?,Array.getElem?_replicate]
     split<;>rfl
    simp only[stV',this,Bool.false_eq_true,if_false,ih]
  rw[hz]
  obtain⟨XL,β,I,rg,he,Rr,h1,h2⟩:=hr
  exact⟨XL,β,I,rg,he,Rr.world (frame_drew _ w),h1,h2⟩
inductive DRun (C:Ctx) (ops:Array Oper):Nat→XF Unit→XF Unit→List (List Nat × List Nat)→Prop
 | nil {i:Nat} {X:XF Unit}:DRun C ops i X X []
 | cons {i:Nat} {R D:List Nat} {X X1 X':XF Unit} {l:List (List Nat × List Nat)} (h:DStep C ops i R D X X1) (r:DRun C ops (i+1) X1 X' l):DRun C ops i X X' ((R,D) :: l)
theorem DRun.app {C:Ctx}{ops:Array Oper}{i:Nat}{X X1 X2:XF Unit}{l m:List (List Nat × List Nat)}(h:DRun C ops i X X1 l)(h':DRun C ops (i+l.length) X1 X2 m):DRun C ops i X X2 (l ++ m):=by
 induction h with
 | nil=>exact h'
 | @cons i R D X X1 X' l h r ih=>exact .cons h (ih (by rw[show i+1+l.length=i+((R,D) :: l).length by simp;omega];exact h'))
theorem DRun.states {C:Ctx}{ops:Array Oper}{i:Nat}{X X':XF Unit}{l:List (List Nat × List Nat)}(h:DRun C ops i X X' l) :
  ∃ Y:Nat→XF Unit,Y i=X∧Y (i+l.length)=X'∧∀ m,i≤m→m < i+l.length→DStep C ops m (l.getD (m - i) ([],[])).1 (l.getD (m - i) ([],[])).2 (Y m) (Y (m+1)):=by
 induction h with
 | @nil i X=>exact ⟨fun _=>X,rfl,rfl,fun m h1 h2=>by simp at h2;omega⟩
 | @cons i R D X X1 X' l h r ih =>
  obtain⟨Y,h1,h2,h3⟩:=ih
  refine⟨fun m=>if m≤i then X else Y m,by simp,?_,fun m hm1 hm2=>?_⟩
  ·simp only[List.length_cons,show ¬ i+(l.length+1)≤i by omega,if_false]
   rw[show i+(l.length+1)=i+1+l.length by omega,h2]
  ·by_cases e:m=i
   ·subst e
    simpa [h1,show ¬ m+1≤m by omega] using h
   ·have hst:=h3 m (by omega) (by simp at hm2;omega)
    simp only[show ¬ m≤i by omega,show ¬ m+1≤i by omega,if_false]
    rw[show m - i=(m - (i+1))+1 by omega]
    simpa using hst
theorem AWp.drawR {C:Ctx}{id:Nat}{ops:Array Oper}{X X':XF Unit}{Q:Ex→XF Unit→Prop}{l:List (List Nat × List Nat)}{pl:List (List Nat)}(hm:C.P.follows .mixedOrders=true)(h:DRun C ops 0 X X' l)
  (hlen:l.length=ops.size) (hc0:cleanX X) (hpl:ops.toList.map predsOf=pl) (hok:drawOk pl l=true) (hq:Q .nrm X'):AWp C (.region id ops true) X Q:=by
 obtain⟨Y,rfl,h2,h3⟩:=h.states
 simp only[Nat.zero_add] at h2
 subst h2
 exact AWp.drawS hm Y (fun i=>(l.getD i ([],[])).1) (fun i=>(l.getD i ([],[])).2) pl l hlen (fun i _=>rfl) hpl (fun i hi=>⟨ops[i],Array.getElem?_eq_getElem hi,by
  have:=h3 i (Nat.zero_le _) (by omega)
  simpa using this⟩) hc0 hok (by rw[← hlen];exact hq)
end Go.OT
namespace Go.OT
abbrev SL:=List (Nat × Nat × AU)
def updL:SL→Nat→AU→SL
 | [],k,v=>[(k,0,v)]
 | (k',e) :: l,k,v=>if k=k' then (k,e.1,v) :: l else (k',e) :: updL l k v
theorem fnL_upd (k:Nat)(v:AU):∀ l:SL,(fnL l).upd k v=fnL (updL l k v)
 | []=>by
  funext j
  simp only[XF.upd,fnL,updL]
 | (k',e) :: l=>by
  have ih:=fnL_upd k v l
  funext j
  have ihj:=congrFun ih j
  simp only[updL]
  by_cases hk:k=k'
  ·subst hk
   simp only[if_true,fnL,XF.upd]
   by_cases h:j=k<;>simp [h]
  ·simp only[hk,if_false,fnL,XF.upd] at ihj ⊢
   rw[← ihj]
   by_cases h:j=k
   ·subst h;simp[hk]
   ·simp[h]
def clrL (L:SL)(h:Nat):Nat→SL
 | 0=>L
 | n+1=>setL (clrL L h n) (100 * (h+n)) .non
theorem fnL_clr (L:SL)(h:Nat):∀ n,clr (fnL L) h n=fnL (clrL L h n)
 | 0=>rfl
 | n+1=>by rw[clr_succ,fnL_clr L h n,fnL_set];rfl
def gathL (L:SL)(h:Nat):Nat→List AU
 | 0=>[]
 | n+1=>(fnL L (100 * h)).2 :: gathL L (h+1) n
theorem gather_cons {X:XF Unit}(h n:Nat):gather X h (n+1)=(X (100 * h)).2 :: gather X (h+1) n:=by
 simp only[gather,List.range_succ_eq_map,List.map_cons,List.map_map,Nat.add_zero,List.cons.injEq,true_and]
 congr 1
 funext j
 simp only[Function.comp]
 rw[show h+(j+1)=h+1+j by omega]
theorem gathL_eq (L:SL):∀ n h,gather (fnL L) h n=gathL L h n
 | 0,h=>rfl
 | n+1,h=>by rw[gather_cons,gathL_eq L n (h+1)];rfl
def tkS (L:SL)(v:AU)(h:Nat):Option SL :=
 match v with
 | .view k g p off len =>
  if (fnL L k).1=g∧k ≠ 100 * h then
   match getN (fnL L k).2 p with
   | some (.sl true _ sz _ cs)=>if ownQ (fnL L k).2 p=true then some (setL (setL L k (setN (fnL L k).2 p .dead)) (100 * h) (.sl true () sz len ((cs.drop off).take (len * sz)))) else none
   | some (.sl false _ sz _ cs)=>some (setL L (100 * h) (.sl false () sz len ((cs.drop off).take (len * sz))))
   | _=>none
  else none
 | .ptr k g p i =>
  if (fnL L k).1=g∧i=0∧k ≠ 100 * h then
   match getN (fnL L k).2 p with
   | some (.bx true _ cs)=>if ownQ (fnL L k).2 p=true then some (setL (setL L k (setN (fnL L k).2 p .dead)) (100 * h) (.bx true () cs)) else none
   | _=>none
  else none
 | .mv k g p =>
  if (fnL L k).1=g∧k ≠ 100 * h then
   match getN (fnL L k).2 p with
   | some (.mp true _ cs)=>if ownQ (fnL L k).2 p=true then some (setL (setL L k (setN (fnL L k).2 p .dead)) (100 * h) (.mp true () cs)) else none
   | _=>none
  else none
 | .sl true _ sz 0 []=>some (setL L (100 * h) (.sl true () sz 0 []))
 | .agg _=>none
 | .tuple _=>none
 | .non=>none
 | .dead=>none
 | v=>if noOwn v then some (setL L (100 * h) v) else none
theorem tkS_ok {L L':SL}{v:AU}{h:Nat}(e:tkS L v h=some L'):tk (fnL L) v h=some (fnL L'):=by
 unfold tkS at e
 unfold tk
 split at e
 ·simp only
  split at e
  ·rename_i hc
   rw[if_pos hc]
   split at e
   ·rename_i hg
    split at e
    ·rename_i ho
     simp only[Option.some.injEq] at e
     subst e
     simp only[hg,ho,if_true,fnL_set]
    ·cases e
   ·rename_i hg
    simp only[Option.some.injEq] at e
    subst e
    simp only[hg,fnL_set]
   ·cases e
  ·cases e
 ·simp only
  split at e
  ·rename_i hc
   rw[if_pos hc]
   split at e
   ·rename_i hg
    split at e
    ·rename_i ho
     simp only[Option.some.injEq] at e
     subst e
     simp only[hg,ho,if_true,fnL_set]
    ·cases e
   ·cases e
  ·cases e
 ·simp only
  split at e
  ·rename_i hc
   rw[if_pos hc]
   split at e
   ·rename_i hg
    split at e
    ·rename_i ho
     simp only[Option.some.injEq] at e
     subst e
     simp only[hg,ho,if_true,fnL_set]
    ·cases e
   ·cases e
  ·cases e
 ·simp only[Option.some.injEq] at e
  subst e
  simp only[fnL_set]
 ·cases e
 ·cases e
 ·cases e
 ·cases e
 ·rename_i h1 h2 h0 h3 h4 h5 h6 h7
  split at e
  ·rename_i hn
   simp only[Option.some.injEq] at e
   subst e
   split
   ·exact absurd rfl (h1 _ _ _ _ _)
   ·exact absurd rfl (h2 _ _ _ _)
   ·exact absurd rfl (h0 _ _ _)
   ·exact absurd rfl (h3 _ _)
   ·exact absurd rfl (h4 _)
   ·exact absurd rfl (h5 _)
   ·exact absurd rfl h6
   ·exact absurd rfl h7
   ·simp[hn,fnL_set]
  ·cases e
def tkLS (L:SL)(h:Nat):List AU→Option SL
 | []=>some L
 | v :: vs=>(tkS L v h).bind fun X1=>tkLS X1 (h+1) vs
theorem tkLS_ok:∀ {vs:List AU} {L L':SL} {h:Nat},tkLS L h vs=some L'→tkL (fnL L) h vs=some (fnL L')
 | [],L,L',h,e=>by simp only[tkLS,Option.some.injEq] at e;subst e;rfl
 | v :: vs,L,L',h,e=>by
  simp only[tkLS,Option.bind_eq_some_iff] at e
  obtain⟨L1,h1,h2⟩:=e
  simp only[tkL,tkS_ok h1,Option.bind_some,tkLS_ok h2]
def takeVS (L:SL)(v:AU):Option SL :=
 match v with
 | .agg vs=>(if vs.length≤400 then tkLS L (H+1) vs else none).map fun X1=>clrL (setL X1 (100 * H) (.agg (gathL X1 (H+1) vs.length))) (H+1) vs.length
 | v=>tkS L v H
theorem takeVS_ok {L L':SL}{v:AU}(e:takeVS L v=some L'):takeV (fnL L) v=some (fnL L'):=by
 unfold takeVS at e
 unfold takeV
 split at e
 ·rename_i vs
  simp only[Option.map_eq_some_iff] at e
  obtain⟨X1,h1,rfl⟩:=e
  split at h1
  ·rename_i hl
   simp only[hl,if_true,tkLS_ok h1,Option.map_some,fnL_set,gathL_eq,fnL_clr]
  ·cases h1
 ·rename_i hv
  split
  ·exact absurd rfl (hv _)
  ·exact tkS_ok e
def takeCS (L:SL)(c:COd):Option SL :=
 if flat (rd (fnL L) c) then
  match c with
  | .t n=>match (fnL L (100 * n)).2 with
   | .agg vs=>if noOwnL vs then takeVS L (.agg vs) else some (setL (setL L (100 * H) (.agg vs)) (100 * n) .non)
   | .tuple _=>none
   | _=>takeVS L (rd (fnL L) (.t n))
  | .c v=>takeVS L v
 else none
theorem takeCS_ok {L L':SL}{c:COd}(e:takeCS L c=some L'):takeC (fnL L) c=some (fnL L'):=by
 unfold takeCS at e
 unfold takeC
 split at e
 ·rename_i hf
  rw[if_pos hf]
  unfold takeO
  cases c with
  | c v=>exact takeVS_ok e
  | t n =>
   simp only at e ⊢
   split at e
   ·rename_i vs hv
    simp only[hv]
    split at e
    ·rename_i hn;simp only[hn,if_true];exact takeVS_ok e
    ·rename_i hn
     simp only[Option.some.injEq] at e
     subst e
     simp[hn,fnL_set]
   ·cases e
   ·rename_i h1 h2
    split
    ·rename_i vs hv;exact absurd hv (h1 _)
    ·rename_i vs hv;exact absurd hv (h2 _)
    ·exact takeVS_ok e
 ·cases e
def put1S (L:SL)(a:AU)(h:Nat):Option SL :=
 match a with
 | .bptr b g i =>
  if (fnL L (100 * b+99)).1=g∧i < 98∧(fnL L (100 * b+1+i)).2.isNon=false∧treeV (fnL L (100 * h)).2=true then
   some (setL (setL L (100 * b+1+i) (fnL L (100 * h)).2) (100 * h) .non) else none
 | .ptr k g p i =>
  if (fnL L k).1=g∧k ≠ 100 * h∧treeV (fnL L (100 * h)).2=true∧ownQ (fnL L k).2 (p ++ [i])=true then
   match getN (fnL L k).2 (p ++ [i]) with
   | some u=>some (setL (if u.isNode then setL L k (setN (fnL L k).2 (p ++ [i]) (fnL L (100 * h)).2) else updL L k (setN (fnL L k).2 (p ++ [i]) (fnL L (100 * h)).2)) (100 * h) .non)
   | none=>none
  else none
 | _=>none
theorem put1S_ok {L L':SL}{a:AU}{h:Nat}(e:put1S L a h=some L'):put1 (fnL L) a h=some (fnL L'):=by
 unfold put1S at e
 unfold put1
 split at e
 ·split at e
  ·rename_i hc
   simp only[Option.some.injEq] at e
   subst e
   simp only[hc,and_self,if_true,fnL_set]
  ·cases e
 ·split at e
  ·rename_i hc
   split at e
   ·rename_i u hu
    simp only[Option.some.injEq] at e
    subst e
    simp only[hc,hu,ne_eq,not_false_eq_true,and_self,if_true]
    split
    ·rename_i hn;simp[hn,fnL_set]
    ·rename_i hn;simp[hn,fnL_set,fnL_upd]
   ·cases e
  ·cases e
 ·cases e
def putAS (L:SL)(a:AU):Nat→List AU→Option SL
 | _,[]=>some L
 | i,c :: cs=>(put1S (setL (setL L (100 * H) (.agg (List.replicate (i+1) .dead ++ cs))) (100 * (H+1)) c) (shiftA i a) (H+1)).bind fun X2=>putAS X2 a (i+1) cs
theorem putAS_ok {a:AU}:∀ {vs:List AU} {L L':SL} {i:Nat},putAS L a i vs=some L'→putA (fnL L) a i vs=some (fnL L')
 | [],L,L',i,e=>by simp only[putAS,Option.some.injEq] at e;subst e;rfl
 | c :: cs,L,L',i,e=>by
  simp only[putAS,Option.bind_eq_some_iff] at e
  obtain⟨L1,h1,h2⟩:=e
  simp only[putA,fnL_set,put1S_ok h1,Option.bind_some,putAS_ok h2]
def stS (L:SL)(n:Nat)(a v:COd):Option SL :=
 (takeCS L v).bind fun X1=>match (fnL X1 (100 * H)).2 with
  | .agg vs=>if vs.length=n∧n ≠ 0 then (putAS X1 (rd (fnL X1) a) 0 vs).map fun X2=>setL X2 (100 * H) .non else none
  | _=>if n=1 then put1S X1 (rd (fnL X1) a) H else none
theorem stS_ok {L L':SL}{n:Nat}{a v:COd}(e:stS L n a v=some L'):stV (fnL L) n a v=some (fnL L'):=by
 simp only[stS,Option.bind_eq_some_iff] at e
 obtain⟨X1,h1,h2⟩:=e
 simp only[stV,takeCS_ok h1,Option.bind_some]
 split at h2
 ·rename_i vs hv
  simp only[hv]
  split at h2
  ·rename_i hc
   simp only[Option.map_eq_some_iff] at h2
   obtain⟨X2,h3,rfl⟩:=h2
   simp only[hc,ne_eq,not_false_eq_true,and_self,if_true,putAS_ok h3,Option.map_some,fnL_set]
  ·cases h2
 ·rename_i hv
  split
  ·rename_i vs hv';exact absurd hv' (hv _)
  ·split at h2
   ·rename_i hn;rw[if_pos hn];exact put1S_ok h2
   ·cases h2
def extS (L:SL)(d n i:Nat):Option SL :=
 match (fnL L (100 * n)).2 with
 | .tuple vs=>match vs[i]? with
  | some c=>if d ≠ n then some (setL (setL L (100 * n) (.tuple (vs.set i .dead))) (100 * d) c) else none
  | none=>none
 | _=>none
theorem extS_ok {L L':SL}{d n i:Nat}(e:extS L d n i=some L'):extV (fnL L) d n i=some (fnL L'):=by
 unfold extS at e
 unfold extV
 split at e
 ·rename_i vs hv
  simp only[hv]
  split at e
  ·rename_i c hc
   simp only[hc]
   split at e
   ·rename_i hd
    simp only[Option.some.injEq] at e
    subst e
    rw[if_pos hd];simp only[fnL_set]
   ·cases e
  ·cases e
 ·cases e
def finBL (L:SL)(d g:Nat):SL:=setL (setL L (100 * H) .non) (100 * d) (.bptr d g 0)
theorem finBL_eq (L:SL)(d g:Nat):finB (fnL L) d g=fnL (finBL L d g):=by simp only[finB,finBL,fnL_set]
def boxS (L:SL)(d:Nat)(c:COd):Option SL :=
 (takeCS L c).bind fun X1=>match (fnL X1 (100 * H)).2 with
  | .agg vs=>if vs.length≤98∧vs.all treeV=true then some (finBL (boxM d vs X1) d ((fnL X1 (100 * d+99)).1+1)) else none
  | v=>if treeV v=true then some (finBL (boxM d [v] X1) d ((fnL X1 (100 * d+99)).1+1)) else none
theorem boxS_ok {L L':SL}{d:Nat}{c:COd}(e:boxS L d c=some L'):boxV (fnL L) d c=some (fnL L'):=by
 simp only[boxS,Option.bind_eq_some_iff] at e
 obtain⟨X1,h1,h2⟩:=e
 simp only[boxV,takeCS_ok h1,Option.bind_some]
 split at h2
 ·rename_i vs hv
  simp only[hv]
  split at h2
  ·rename_i hc
   simp only[Option.some.injEq] at h2
   subst h2
   simp only[hc.2,if_true,fnL_boxM d vs X1 hc.1,finBL_eq]
  ·cases h2
 ·rename_i hv
  split
  ·rename_i vs hv';exact absurd hv' (hv _)
  ·split at h2
   ·rename_i hc
    simp only[Option.some.injEq] at h2
    subst h2
    rw[if_pos hc,fnL_boxM d _ X1 (by simp),finBL_eq]
   ·cases h2
def allocS (L:SL)(d:Nat)(zs:List AU):Option SL:=if zs.length≤98 then some (finBL (boxM d zs (setL L (100 * H) (.agg zs))) d ((fnL L (100 * d+99)).1+1)) else none
theorem allocS_ok {L L':SL}{d:Nat}{zs:List AU}(e:allocS L d zs=some L'):allocV (fnL L) d zs=fnL L':=by
 unfold allocS at e
 split at e
 ·rename_i h
  simp only[Option.some.injEq] at e
  subst e
  simp only[allocV,fnL_set,fnL_boxM d zs _ h,finBL_eq]
 ·cases e
def bsS (L:SL)(d s:Nat)(c:COd):Option SL :=
 (takeCS L c).bind fun X1=>match (fnL X1 (100 * H)).2 with
  | .agg vs=>if vs.length=s∧vs.all treeV=true then some (setL (setL X1 (100 * d) (.sl true () s 1 vs)) (100 * H) .non) else none
  | v=>if s=1∧treeV v=true then some (setL (setL X1 (100 * d) (.sl true () s 1 [v])) (100 * H) .non) else none
theorem bsS_ok {L L':SL}{d s:Nat}{c:COd}(e:bsS L d s c=some L'):bsV (fnL L) d s c=some (fnL L'):=by
 simp only[bsS,Option.bind_eq_some_iff] at e
 obtain⟨X1,h1,h2⟩:=e
 simp only[bsV,takeCS_ok h1,Option.bind_some]
 split at h2
 ·rename_i vs hv
  simp only[hv]
  split at h2
  ·rename_i hc
   simp only[Option.some.injEq] at h2
   subst h2
   rw[if_pos hc];simp only[fnL_set]
  ·cases h2
 ·rename_i hv
  split
  ·rename_i vs hv';exact absurd hv' (hv _)
  ·split at h2
   ·rename_i hc
    simp only[Option.some.injEq] at h2
    subst h2
    rw[if_pos hc];simp only[fnL_set]
   ·cases h2
def asgS (L:SL)(d:Nat)(c:COd):Option SL:=(takeCS L c).map fun X1=>setL (setL X1 (100 * d) (fnL X1 (100 * H)).2) (100 * H) .non
theorem asgS_ok {L L':SL}{d:Nat}{c:COd}(e:asgS L d c=some L'):asgV (fnL L) d c=some (fnL L'):=by
 simp only[asgS,Option.map_eq_some_iff] at e
 obtain⟨X1,h1,rfl⟩:=e
 simp only[asgV,takeCS_ok h1,Option.map_some,fnL_set]
def appS (L:SL)(d s bytes:Nat)(cx cy:COd):Option SL :=
 (cellsV (fnL L) s (rd (fnL L) cy)).bind fun news=>if news.all plainC=true then
  (takeCS L cx).bind fun X1=>match (fnL X1 (100 * H)).2 with
   | .sl true _ s' n cs=>if s'=s∧(n+news.length / s) * bytes≤140737488355328∧n+news.length / s≤maxLen then
     some (setL (setL (setL X1 (100 * H) (fnL X1 (100 * H)).2) (100 * d) (.sl true () s (n+news.length / s) (cs ++ news))) (100 * H) .non) else none
   | _=>none
 else none
theorem appS_ok {L L':SL}{d s bytes:Nat}{cx cy:COd}(e:appS L d s bytes cx cy=some L'):appV (fnL L) d s bytes cx cy=some (fnL L'):=by
 simp only[appS,Option.bind_eq_some_iff] at e
 obtain⟨news,h1,h2⟩:=e
 simp only[appV,h1,Option.bind_some]
 split at h2
 ·rename_i hp
  rw[if_pos hp]
  simp only[Option.bind_eq_some_iff] at h2
  obtain⟨X1,h3,h4⟩:=h2
  simp only[takeCS_ok h3,Option.bind_some]
  split at h4
  ·rename_i s' n cs hv
   split at h4
   ·rename_i hc
    simp only[Option.some.injEq] at h4
    subst h4
    simp only[hv]
    rw[if_pos hc]
    simp only[fnL_set]
   ·cases h4
  ·cases h4
 ·cases h2
def mvHL (L:SL):SL:=setL (setL L (100 * hh) (fnL L (100 * H)).2) (100 * H) .non
theorem mvHL_eq (L:SL):mvH (fnL L)=fnL (mvHL L):=by simp only[mvH,mvHL,fnL_set]
def apOL (L:SL)(d s bytes g:Nat):AU→AU→Option SL
 | .sl true _ s' n cs,.sl true _ s1 m news=>if s'=s∧s1=s∧0 < m∧(fnL L (100 * hh)).1=g∧(n+m) * bytes≤140737488355328∧n+m≤maxLen∧news.all treeV=true then
   some (setL (setL (setL (setL L (100 * H) (fnL L (100 * H)).2) (100 * d) (.sl true () s (n+m) (cs ++ news))) (100 * H) .non) (100 * hh) .non) else none
 | _,_=>none
theorem apOL_ok {L L':SL}{d s bytes g:Nat}{a b:AU}(e:apOL L d s bytes g a b=some L'):apO (fnL L) d s bytes g a b=some (fnL L'):=by
 unfold apOL at e
 unfold apO
 split at e
 ·split at e
  ·rename_i hc
   simp only[Option.some.injEq] at e
   subst e
   simp only
   rw[if_pos hc]
   simp only[fnL_set]
  ·cases e
 ·cases e
def appOS (L:SL)(d s bytes:Nat)(cx cy:COd):Option SL :=
 (takeCS L cy).bind fun X0=>if slB (fnL X0 (100 * H)).2=false then none else (takeCS (mvHL X0) cx).bind fun X1=>apOL X1 d s bytes (fnL (mvHL X0) (100 * hh)).1 (fnL X1 (100 * H)).2 (fnL X1 (100 * hh)).2
theorem appOS_ok {L L':SL}{d s bytes:Nat}{cx cy:COd}(e:appOS L d s bytes cx cy=some L'):appOV (fnL L) d s bytes cx cy=some (fnL L'):=by
 simp only[appOS,Option.bind_eq_some_iff] at e
 obtain⟨X0,h0,e⟩:=e
 simp only[appOV,takeCS_ok h0,Option.bind_some]
 split at e
 ·cases e
 ·rename_i hs
  rw[if_neg hs]
  simp only[Option.bind_eq_some_iff] at e
  obtain⟨X1,h1,e⟩:=e
  rw[mvHL_eq,takeCS_ok h1,Option.bind_some]
  exact apOL_ok e
def putVS (L:SL)(d:Nat)(v:AU):Option SL:=if noOwn v=true then some (setL L (100 * d) v) else none
theorem putVS_ok {L L':SL}{d:Nat}{v:AU}(e:putVS L d v=some L'):putV (fnL L) d v=some (fnL L'):=by
 unfold putVS at e
 unfold putV
 split at e
 ·rename_i h
  simp only[Option.some.injEq] at e
  subst e
  rw[if_pos h,fnL_set]
 ·cases e
def pval (X:XF Unit):COp→Option AU
 | .mov _ c=>if noOwn (rd X c)=true then some (rd X c) else none
 | .chk _ c=>if sureP X (rd X c)=true then some (rd X c) else none
 | .pick _ c a b=>match rd X c with
  | .sc (.bool true)=>if noOwn (rd X a)=true then some (rd X a) else none
  | .sc (.bool false)=>if noOwn (rd X b)=true then some (rd X b) else none
  | _=>none
 | .un _ op c=>match rd X c with
  | .sc u=>(scUn op u).map fun r=>.sc r
  | _=>none
 | .bin _ op a b=>match rd X a,rd X b with
  | .sc u,.sc v=>(scBin op u v).map fun r=>.sc r
  | _,_=>none
 | .beq _ eq a b=>match rd X a,rd X b with
  | .sc (.bool u),.sc (.bool v)=>some (.sc (.bool (if eq=true then u == v else !(u == v))))
  | _,_=>none
 | .conv _ k c=>match rd X c with
  | .sc (.int _ n)=>some (.sc (.int k (k.wrap n)))
  | _=>none
 | .mx _ mx a b=>match rd X a,rd X b with
  | .sc u,.sc v=>(scMx mx u v).map fun r=>.sc r
  | _,_=>none
 | .ld _ n ag c=>(ldCells X (rd X c) n).bind fun cs=>if noOwn (if ag=true then AV.agg cs else cs.getD 0 .non)=true then some (if ag=true then .agg cs else cs.getD 0 .non) else none
 | .faddr _ off c=>faddrV X off (rd X c)
 | .iaddr _ s c i=>match rd X i with
  | .sc (.int _ j)=>iaddrV X s (rd X c) j
  | _=>none
 | .len _ c=>(lenV X (rd X c)).map fun (n:Nat)=>.sc (.int .i64 (n:Int))
 | .slen _ c=>match rd X c with
  | .sc (.string s)=>some (.sc (.int .i64 s.size))
  | _=>none
 | .slice _ s c l h=>(lenV X (rd X c)).bind fun n=>(bnd X 0 l).bind fun lo=>(bnd X n h).bind fun hi=>sliceV X s lo hi (rd X c)
 | .build _ zs parts=>(fillU zs (parts.map fun p=>(p.1,p.2.1,rdC X p.2.2))).bind fun cs=>if noOwnL cs=true then some (.agg cs) else none
 | .make _ s bytes zs l c=>match rd X l,rd X c with
  | .sc (.int _ a),.sc (.int _ b)=>if 0≤a∧a≤b∧bytes * b.toNat≤281474976710656∧b≤9223372036854775807 then some (.sl true () s a.toNat (repL zs a.toNat)) else none
  | _,_=>none
 | .b2s _ c=>(cellsV X 1 (rd X c)).bind fun cs=>(u8L cs).map fun ns=>.sc (.string (b2s ns))
 | .bs0 _ s=>some (.sl true () s 0 [])
 | .mkf _ f cs=>if capsOk (caps X cs)=true then some (.clos f (caps X cs)) else none
 | .fld _ off c=>match rd X c with
  | .agg cs=>(cs[off]?).bind fun u=>if noOwn u=true then some u else none
  | _=>none
 | .nilq _ eq c=>match lenV X (rd X c) with
  | some (_+1)=>some (.sc (.bool (!eq)))
  | _=>none
 | .bsn _ cs=>if (caps X cs).all plainC=true then some (.sl true () 1 cs.length (caps X cs)) else none
 | .cvb _ m=>cvbV m (X (100 * m)).1 (X (100 * m)).2
 | .s2b _ c=>s2bV (rd X c)
 | .ssl _ c l h=>sslV X l h (rd X c)
 | .six _ c i=>sixV (rd X c) (rd X i)
 | .bsa _ s cs=>(aggF s (caps X cs)).map fun l=>.sl true () s cs.length l
 | .funq _ eq c=>funV eq (rd X c)
 | .pnq _ eq c=>pnV X eq (rd X c)
 | .aaddr _ s n c i=>match rd X i with
  | .sc (.int _ j)=>aaddrV X s n (rd X c) j
  | _=>none
 | _=>none
def dOf:COp→Nat
 | .mov d _ | .asg d _ | .chk d _ | .pick d _ _ _ | .un d _ _ | .bin d _ _ _ | .beq d _ _ _ | .conv d _ _ | .mx d _ _ _ | .ld d _ _ _ | .faddr d _ _ | .iaddr d _ _ _ | .len d _ | .slen d _ | .slice d _ _ _ _
 | .ext d _ _ | .box d _ | .alloc d _ | .build d _ _ | .make d _ _ _ _ _ | .b2s d _ | .bs1 d _ _ | .app d _ _ _ _ | .bs0 d _ | .mkf d _ _ | .fld d _ _ | .nilq d _ _ | .bsn d _ | .cpy d _ _ _ | .cvb d _ | .s2b d _ | .ssl d _ _ _ | .six d _ _ | .bsa d _ _ | .funq d _ _ | .pnq d _ _ | .aaddr d _ _ _ _=>d
 | .st _ _ _=>0
theorem pval_ok {X:XF Unit}{c:COp}{v:AU}(h:pval X c=some v):stp X c=some (X.set (100 * dOf c) v):=by
 cases c with
 | mov d c =>
  simp only[pval] at h
  split at h
  ·rename_i hn;cases h;simp only[stp,putV,hn,if_true,dOf]
  ·cases h
 | chk d c =>
  simp only[pval] at h
  split at h
  ·rename_i hn;cases h;simp only[stp,hn,if_true,dOf]
  ·cases h
 | pick d c a b =>
  simp only[pval] at h
  simp only[stp,dOf]
  split at h
  ·rename_i hc
   split at h
   ·rename_i hn;cases h;simp only[hc,if_true,putV,hn]
   ·cases h
  ·rename_i hc
   split at h
   ·rename_i hn;cases h;simp only[hc,Bool.false_eq_true,if_false,putV,hn,if_true]
   ·cases h
  ·cases h
 | un d op c =>
  simp only[pval] at h
  split at h
  ·rename_i u hu
   simp only[Option.map_eq_some_iff] at h
   obtain⟨r,hr,rfl⟩:=h
   simp only[stp,hu,hr,Option.map_some,dOf]
  ·cases h
 | bin d op a b =>
  simp only[pval] at h
  split at h
  ·rename_i u v hu hv
   simp only[Option.map_eq_some_iff] at h
   obtain⟨r,hr,rfl⟩:=h
   simp only[stp,hu,hv,hr,Option.map_some,dOf]
  ·cases h
 | beq d eq a b =>
  simp only[pval] at h
  split at h
  ·rename_i u v hu hv;cases h;simp only[stp,hu,hv,dOf]
  ·cases h
 | conv d k c =>
  simp only[pval] at h
  split at h
  ·rename_i u hu;cases h;simp only[stp,hu,dOf]
  ·cases h
 | mx d m a b =>
  simp only[pval] at h
  split at h
  ·rename_i u v hu hv
   simp only[Option.map_eq_some_iff] at h
   obtain⟨r,hr,rfl⟩:=h
   simp only[stp,hu,hv,hr,Option.map_some,dOf]
  ·cases h
 | ld d n ag c =>
  simp only[pval,Option.bind_eq_some_iff] at h
  obtain⟨cs,h1,h2⟩:=h
  by_cases hn:noOwn (if ag=true then AV.agg cs else cs.getD 0 .non)=true
  ·rw[if_pos hn] at h2
   simp only[Option.some.injEq] at h2
   simp only[stp,h1,Option.bind_some,putV,dOf];rw[if_pos hn,h2]
  ·rw[if_neg hn] at h2;cases h2
 | faddr d off c=>simp only[pval] at h;simp only[stp,h,Option.map_some,dOf]
 | iaddr d s c i =>
  simp only[pval] at h
  split at h
  ·rename_i k j hj;simp only[stp,hj,h,Option.map_some,dOf]
  ·cases h
 | len d c =>
  simp only[pval,Option.map_eq_some_iff] at h
  obtain⟨n,h1,rfl⟩:=h
  simp only[stp,h1,Option.map_some,dOf]
 | slen d c =>
  simp only[pval] at h
  split at h
  ·rename_i s hs;cases h;simp only[stp,hs,dOf]
  ·cases h
 | slice d s c l hh =>
  simp only[pval,Option.bind_eq_some_iff] at h
  obtain⟨n,h1,lo,h2,hi,h3,h4⟩:=h
  simp only[stp,h1,h2,h3,h4,Option.bind_some,Option.map_some,dOf]
 | build d zs ps =>
  simp only[pval,Option.bind_eq_some_iff] at h
  obtain⟨cs,h1,h2⟩:=h
  split at h2
  ·rename_i hn;cases h2;simp only[stp,h1,Option.bind_some,putV,noOwn,hn,if_true,dOf]
  ·cases h2
 | make d s bytes zs l c =>
  simp only[pval] at h
  split at h
  ·rename_i k a k' b ha hb
   split at h
   ·rename_i hc;cases h;simp only[stp,ha,hb,dOf];rw[if_pos hc]
   ·cases h
  ·cases h
 | b2s d c =>
  simp only[pval,Option.bind_eq_some_iff,Option.map_eq_some_iff] at h
  obtain⟨cs,h1,ns,h2,rfl⟩:=h
  simp only[stp,h1,h2,Option.bind_some,Option.map_some,dOf]
 | bs0 d s=>simp only[pval,Option.some.injEq] at h;subst h;rfl
 | mkf d f cs =>
  simp only[pval] at h
  split at h
  ·rename_i hc;cases h;simp only[stp,dOf];rw[if_pos hc]
  ·cases h
 | fld d off c =>
  simp only[pval] at h
  split at h
  ·rename_i cs hc
   simp only[Option.bind_eq_some_iff] at h
   obtain⟨u,hu,h⟩:=h
   split at h
   ·rename_i hn;cases h;simp only[stp,hc,hu,Option.bind_some,putV,hn,if_true,dOf]
   ·cases h
  ·cases h
 | nilq d eq c =>
  simp only[pval] at h
  split at h
  ·rename_i n hn;cases h;simp only[stp,hn,dOf]
  ·cases h
 | bsn d cs =>
  simp only[pval] at h
  split at h
  ·rename_i hc;cases h;simp only[stp,dOf];rw[if_pos hc]
  ·cases h
 | cvb d m=>simp only[pval] at h;simp only[stp,h,Option.map_some,dOf]
 | s2b d c=>simp only[pval] at h;simp only[stp,h,Option.map_some,dOf]
 | ssl d c l hh=>simp only[pval] at h;simp only[stp,h,Option.map_some,dOf]
 | six d c i=>simp only[pval] at h;simp only[stp,h,Option.map_some,dOf]
 | funq d eq c=>simp only[pval] at h;simp only[stp,h,Option.map_some,dOf]
 | pnq d eq c=>simp only[pval] at h;simp only[stp,h,Option.map_some,dOf]
 | bsa d s cs =>
  simp only[pval,Option.map_eq_some_iff] at h
  obtain⟨l,h1,rfl⟩:=h
  simp only[stp,h1,Option.map_some,dOf]
 | aaddr d s n c i =>
  simp only[pval] at h
  split at h
  ·rename_i k j hj;simp only[stp,hj,h,Option.map_some,dOf]
  ·cases h
 | _=>simp [pval] at h
def cpKL (L:SL)(d k n s:Nat)(p:List Nat)(news:List AU):Option AU→Option SL
 | some N=>some (setL (updL (setL L (100 * hh) .non) k (setN (fnL L k).2 p N)) (100 * d) (.sc (.int .i64 (min (news.length / s) n:Nat))))
 | none=>none
def cpDL (L:SL)(d s:Nat)(news:List AU):AU→Option SL
 | .view k g p off n=>if (fnL L k).1=g∧k ≠ 100 * hh∧ownQ (fnL L k).2 p=true then cpKL L d k n s p news (cpT n off s news (getN (fnL L k).2 p)) else none
 | _=>none
def cpVL (L:SL)(d s:Nat)(a b:COd):Option SL :=
 (cellsV (fnL L) s (rd (fnL L) b)).bind fun news=>if news.all isSc=true∧0 < s then cpDL L d s news (rd (fnL L) a) else none
theorem cpVL_ok {L L':SL}{d s:Nat}{a b:COd}(e:cpVL L d s a b=some L'):cpV (fnL L) d s a b=some (fnL L'):=by
 simp only[cpVL,Option.bind_eq_some_iff] at e
 obtain⟨news,h1,e⟩:=e
 simp only[cpV,h1,Option.bind_some]
 split at e
 ·rename_i hc
  rw[if_pos hc]
  cases hv:rd (fnL L) a with
  | view k g p off n =>
   rw[hv] at e
   simp only[cpDL] at e
   simp only[cpD]
   split at e
   ·rename_i hc
    rw[if_pos hc]
    cases ht:cpT n off s news (getN (fnL L k).2 p) with
    | none=>rw [ht] at e;cases e
    | some N =>
     rw[ht] at e
     simp only[cpKL,Option.some.injEq] at e
     subst e
     simp only[cpK,fnL_set,fnL_upd]
   ·cases e
  | _=>rw [hv] at e;simp[cpDL] at e
 ·cases e
def stpL (L:SL):COp→Option SL
 | .asg d c=>if ownRaw (fnL L) c=true then asgS L d c else putVS L d (rd (fnL L) c)
 | .st n a v=>stS L n a v
 | .ext d n i=>extS L d n i
 | .box d c=>boxS L d c
 | .alloc d zs=>allocS L d zs
 | .bs1 d s c=>bsS L d s c
 | .app d s b x y=>if plainX (fnL L) s y=true then appS L d s b x y else appOS L d s b x y
 | .cpy d s a b=>cpVL L d s a b
 | c=>(pval (fnL L) c).map fun v=>setL L (100 * dOf c) v
theorem stpL_ok {L L':SL}{c:COp}(h:stpL L c=some L'):stp (fnL L) c=some (fnL L'):=by
 have pure:((pval (fnL L) c).map fun v=>setL L (100 * dOf c) v)=some L'→stp (fnL L) c=some (fnL L'):=by
  intro h
  simp only[Option.map_eq_some_iff] at h
  obtain⟨v,h1,rfl⟩:=h
  rw[pval_ok h1,fnL_set]
 cases c with
 | asg d c =>
  simp only[stpL] at h
  simp only[stp]
  split at h
  ·rename_i ho;rw[if_pos ho];exact asgS_ok h
  ·rename_i ho;rw[if_neg ho];exact putVS_ok h
 | st n a v=>exact stS_ok h
 | ext d n i=>exact extS_ok h
 | box d c=>exact boxS_ok h
 | alloc d zs=>simp only[stp,allocS_ok h]
 | bs1 d s c=>exact bsS_ok h
 | app d s b x y =>
  simp only[stpL] at h
  simp only[stp]
  split at h
  ·rename_i hp;rw[if_pos hp];exact appS_ok h
  ·rename_i hp;rw[if_neg hp];exact appOS_ok h
 | cpy d s a b=>exact cpVL_ok h
 | _=>exact pure h
end Go.OT
namespace Go.OT
section
variable {X:XF LO} {β:Nat→Nat × Nat} {I:ASet} {w:World} {rg:Nat→Value} {C:Ctx}
theorem ok_clo {C:Ctx}{o:Oper}{X:XF Unit}{ls:List (Nat × List Nat)}{gs gs':List (Gh Unit)}{as as1 as2:List AU}{r:AU}{own:Bool}{d f t:Nat}{xs:Array Operand}{tys:Array TypeId}{ss:List Nat}{cs:List COd}{cps:List AU}
  (hdst:o.dst=some d) (hlt:d < C.nt) (hin:opsIn C.nt o=true) (hop:o.op=.call ⟨.value (.tmp t),xs,tys⟩) (htl:t < C.nt) (hcs:argsOd C.nt ss xs.toList=some cs) (hcl:(X (100 * t)).2=.clos f cps)
  (hgs:ls.mapM (ghAt X)=some gs) (hnd:(ls.map (·.1)).Nodup) (has1:trArgs X ls own cs=some as1) (has2:trL X ls own (100 * t) cps=some as2) (hasE:as=as1 ++ as2) (hlen:as.length≤9000)
  (hrun:∀ args w,(callFunc f args).run C.P w=.ok (.enter f args) w) (hfn:Fn C.P f gs as gs' r) (hok:ghsOk gs gs'=true) (himm:own=true→gs'.all ghImm=true∧noImm r=true) (hroot:roots r=[]) :
  OpOk C o X ((backU X (ls.zip gs')).set (100 * d) r):=by
 rintro a w hdef ⟨XL,β,I,rg,he,R,hs,ht⟩ K Q hK
 subst he
 have L:=Loans.of R hgs hnd
 obtain⟨las1,e1,e2,e3⟩:=trArgs_ok R (calleeOk R L own) ss xs.toList cs as1 hcs has1
 -- what the closure holds
 have hclL:∃ lcps:List AL,(XL (100 * t)).2=.clos f lcps∧erL lcps=cps:=by
  simp only[erF] at hcl
  obtain⟨lcps,h1,h2⟩:=er_clos hcl
  exact⟨lcps,h1,by rw[erL_eq];exact h2⟩
 obtain⟨lcps,hX,hcps⟩:=hclL
 have hreg:=R.reg t
 rw[hX] at hreg
 simp only[RR] at hreg
 obtain⟨ys,hval,hRR⟩:=hreg
 have hmem:=(R.key (100 * t)).mem
 rw[hX] at hmem
 simp only[Mem] at hmem
 obtain⟨las2,k1,k2,k3,k4⟩:=trL_ok (calleeOk R L own) (100 * t) lcps ys as2 hRR hmem.1 (fun b o hb=>absurd hb (hmem.2 b o)) (by rw[hcps];exact has2)
 have hxs:las1.length=xs.size:=by simpa using e2
 have hys:las2.length=ys.length:=(RRL_iff.1 k2).1
 have hasl:as.length=las1.length+las2.length:=by
  rw[hasE,List.length_append,← e1,← k1,erL_eq];simp
 let args:Array Value:=xs.map (evR rg) ++ ys.toArray
 have hargsz:args.size=las1.length+las2.length:=by simp[args,hxs,hys]
 have hval1:∀ t',t' < las1.length→args.getD t' undef=evR rg (xs.toList.getD t' (.const undef)):=by
  intro t' htl
  have:t' < xs.size:=by omega
  simp only[args,Array.getD_eq_getD_getElem?,List.getD_eq_getElem?_getD]
  rw[Array.getElem?_append_left (by simpa using this)]
  simp[this]
 have hval2:∀ j,j < las2.length→args.getD (las1.length+j) undef=ys.getD j undef:=by
  intro j hj
  simp only[args,Array.getD_eq_getD_getElem?,List.getD_eq_getElem?_getD]
  rw[Array.getElem?_append_right (by simp[hxs])]
  simp[hxs]
 have R0:=call_rel (own:=own) (args:=args) R L (las:=las1 ++ las2) (by simp[hargsz]) (fun t' la h=>by
  by_cases hlt':t' < las1.length
  ·rw[List.getElem?_append_left hlt'] at h
   have hx:xs.toList[t']?=some (xs.toList[t']'(by simpa using hxs ▸ hlt')):=List.getElem?_eq_getElem _
   rw[hval1 t' hlt',List.getD_eq_getElem?_getD,hx]
   exact e3 t' la _ h hx
  ·rw[List.getElem?_append_right (by omega)] at h
   have hj:t' - las1.length < las2.length:=(List.getElem?_eq_some_iff.1 h).1
   have:=hval2 (t' - las1.length) hj
   rw[show las1.length+(t' - las1.length)=t' by omega] at this
   rw[this]
   have hy:ys[t' - las1.length]?=some (ys[t' - las1.length]'(by omega)):=List.getElem?_eq_getElem _
   rw[List.getD_eq_getElem?_getD,hy]
   refine⟨(RRL_iff.1 k2).2 _ _ _ h hy,MemA_iff.1 k3 la (List.mem_of_getElem? h),?_⟩
   have:∀ (l:List AL),noOwnL l=true→∀ c ∈ l,noOwn c=true:=by
    intro l
    induction l with
    | nil=>intro _ c hc;cases hc
    | cons a l ih =>
     intro hn c hc
     simp only[noOwnL,Bool.and_eq_true] at hn
     rcases List.mem_cons.1 hc with rfl | hc
     ·exact hn.1
     ·exact ih hn.2 c hc
   exact this las2 k4 la (List.mem_of_getElem? h))
 have hcall:=hfn (CC C XL β I w ls own args) (XC XL ls (las1 ++ las2)) (βC XL ls) (IC XL β I ls own) (rgC XL ls args) w args rfl (by rw[erF_XC L,hasE,List.map_append,e1,← erL_eq,k1]) R0
  (by rw[hasl,hargsz]) (fun t htl=>by
   simp only[rgC,if_pos (show t < 10000 by omega)])
 have hexec:(execOp (evR rg) o).run C.P w=.ok (.enter f args) w:=by
  have hv:evR rg (.tmp t)=.func (.func f) #[] ys.toArray:=hval
  simp only[execOp,hop,resolve,hv,Deferred.ofValue]
  simp only[Sem.run_bind,Sem.run_pure,Result.andThen_ok,invoke,Array.append_empty,Array.empty_append,hrun,args]
 unfold Oper.wp
 rw[evR_of hin ht,hexec,Oper.upon_enter]
 refine Calls.mono hcall fun e w' hq=>?_
 obtain⟨x,XL',β',I',rg',rfl,R',hx,hF⟩:=hq
 obtain⟨XL2,I2,f1,f2⟩:=call_back R L R' hF hok himm hroot (d:=d) (by have:=C.hnt;omega)
 refine hK _ _ (by simp[Act.put,hdst,hdef]) ⟨XL2,β,I2,_,f1,f2,by simp[Act.put,hdst,hs],fun t htl=>?_⟩
 simp only[Act.put,hdst]
 by_cases e:t=d
 ·subst e;simp[Array.getD_eq_getD_getElem?,hs,hlt,hx]
 ·simp only[e,if_false]
  rw[← ht t htl]
  simp[Array.getD_eq_getD_getElem?,Array.getElem?_setIfInBounds_ne (Ne.symm e)]
end
end Go.OT
namespace Go.OT
def keepE (dead:List Nat)(k:Nat):Bool:=!handB k && !(decide (k % 100=0) && dead.contains (k / 100))
def filtL (dead:List Nat):SL→SL
 | []=>[]
 | e :: l=>if keepE dead e.1=true then e :: filtL dead l else filtL dead l
def insK (k:Nat)(e:Nat × AU):SL→SL
 | []=>[(k,e)]
 | (k',e') :: l=>if k < k' then (k,e) :: (k',e') :: l else if k=k' then (k,e) :: l else (k',e') :: insK k e l
def sortK:SL→SL
 | []=>[]
 | (k,e) :: l=>insK k e (sortK l)
def rootsS:SL→List Nat
 | []=>[]
 | e :: l=>roots e.2.2 ++ rootsS l
def genL (rs:List Nat):SL→SL
 | []=>[]
 | (k,g,v) :: l=>if rs.contains k=true then (k,g,v) :: genL rs l else if v.isNon=true then genL rs l else (k,0,v) :: genL rs l
def keepB (rs:List Nat)(k:Nat):Bool:=decide (k % 100=0) || decide (1000000≤k) || rs.any fun r=>decide (r / 100=k / 100) && !decide (r % 100=0)
def filtB (rs:List Nat):SL→SL
 | []=>[]
 | e :: l=>if keepB rs e.1=true then e :: filtB rs l else filtB rs l
def finL (dead:List Nat)(L:SL):Option SL :=
 let L1:=sortK (filtL dead L)
 let rs:=rootsS L1
 if rs.all (keepE dead)=true then some (genL rs (filtB rs L1)) else none
theorem fnL_insK (k:Nat)(e:Nat × AU)(j:Nat):∀ l:SL,fnL (insK k e l) j=if j=k then e else fnL l j
 | []=>by simp[insK,fnL]
 | (k',e') :: l=>by
  simp only[insK]
  split
  ·simp only[fnL]
  ·split
   ·rename_i h;subst h
    simp only[fnL]
    split<;>rfl
   ·rename_i h1 h2
    simp only[fnL,fnL_insK k e j l]
    by_cases hj:j=k
    ·subst hj;simp[h2]
    ·simp[hj]
theorem fnL_sortK (j:Nat):∀ l:SL,fnL (sortK l) j=fnL l j
 | []=>rfl
 | (k,e) :: l=>by rw[sortK,fnL_insK,fnL_sortK j l];simp only[fnL]
theorem fnL_filtL (dead:List Nat)(j:Nat):∀ l:SL,fnL (filtL dead l) j=if keepE dead j=true then fnL l j else (0,.non)
 | []=>by simp[filtL,fnL]
 | (k,e) :: l=>by
  simp only[filtL]
  split
  ·rename_i h
   simp only[fnL,fnL_filtL dead j l]
   by_cases hj:j=k
   ·subst hj;simp[h]
   ·simp[hj]
  ·rename_i h
   simp only[fnL,fnL_filtL dead j l]
   by_cases hj:j=k
   ·subst hj;simp[h]
   ·simp[hj]
theorem fnL_filtB (rs:List Nat)(j:Nat):∀ l:SL,fnL (filtB rs l) j=if keepB rs j=true then fnL l j else (0,.non)
 | []=>by simp[filtB,fnL]
 | (k,e) :: l=>by
  simp only[filtB]
  split
  ·rename_i h
   simp only[fnL,fnL_filtB rs j l]
   by_cases hj:j=k
   ·subst hj;simp[h]
   ·simp[hj]
  ·rename_i h
   simp only[fnL,fnL_filtB rs j l]
   by_cases hj:j=k
   ·subst hj;simp[h]
   ·simp[hj]
def Asc (l:SL):Prop:=l.Pairwise fun a b=>a.1 < b.1
theorem insK_lb {k m:Nat}{e:Nat × AU}:∀ {l:SL},(∀ x ∈ l,m < x.1)→m < k→∀ x ∈ insK k e l,m < x.1
 | [],h,hk,x,hx=>by simp only[insK,List.mem_singleton] at hx;subst hx;exact hk
 | (k',e') :: l,h,hk,x,hx=>by
  simp only[insK] at hx
  split at hx
  ·rcases List.mem_cons.1 hx with rfl | hx
   ·exact hk
   ·exact h x hx
  ·split at hx
   ·rcases List.mem_cons.1 hx with rfl | hx
    ·exact hk
    ·exact h x (List.mem_cons_of_mem _ hx)
   ·rcases List.mem_cons.1 hx with rfl | hx
    ·exact h _ (by simp)
    ·exact insK_lb (fun x hx=>h x (List.mem_cons_of_mem _ hx)) hk x hx
theorem asc_insK {k:Nat}{e:Nat × AU}:∀ {l:SL},Asc l→Asc (insK k e l)
 | [],h=>by simp[insK,Asc]
 | (k',e') :: l,h=>by
  have h':=List.pairwise_cons.1 h
  simp only[insK]
  split
  ·rename_i hlt
   refine List.pairwise_cons.2 ⟨fun x hx=>?_,h⟩
   rcases List.mem_cons.1 hx with rfl | hx
   ·exact hlt
   ·exact Nat.lt_trans hlt (h'.1 x hx)
  ·split
   ·rename_i heq
    subst heq
    exact List.pairwise_cons.2 ⟨fun x hx=>h'.1 x hx,h'.2⟩
   ·exact List.pairwise_cons.2 ⟨fun x hx=>insK_lb (fun x hx=>h'.1 x hx) (by omega) x hx,asc_insK h'.2⟩
theorem asc_sortK:∀ l:SL,Asc (sortK l)
 | []=>List.Pairwise.nil
 | (k,e) :: l=>asc_insK (asc_sortK l)
theorem filtB_sub (rs:List Nat):∀ l:SL,(filtB rs l).Sublist l
 | []=>List.Sublist.slnil
 | e :: l=>by
  simp only[filtB]
  split
  ·exact (filtB_sub rs l).cons_cons e
  ·exact (filtB_sub rs l).cons e
theorem fnL_low {k:Nat}:∀ {l:SL},(∀ x ∈ l,k < x.1)→fnL l k=(0,.non)
 | [],_=>rfl
 | (k',e') :: l,h=>by
  have:=h _ (List.mem_cons_self ..)
  simp only[fnL,if_neg (show ¬ k=k' by simp at this;omega)]
  exact fnL_low fun x hx=>h x (List.mem_cons_of_mem _ hx)
theorem isNon_eq {v:AU}(h:v.isNon=true):v=.non:=by cases v<;>simp [AV.isNon] at h;rfl
theorem fnL_genL (rs:List Nat)(j:Nat):∀ {l:SL},Asc l→fnL (genL rs l) j=if rs.contains j=true then fnL l j else (0,(fnL l j).2)
 | [],_=>by simp[genL,fnL]
 | (k,g,v) :: l,h=>by
  have h':=List.pairwise_cons.1 h
  have ih:=fnL_genL rs j h'.2
  simp only[genL]
  split
  ·rename_i hk
   simp only[fnL,ih]
   by_cases hj:j=k
   ·subst hj;simp only[hk,if_true]
   ·simp only[hj,if_false]
  ·rename_i hk
   split
   ·rename_i hn
    rw[ih]
    simp only[fnL]
    by_cases hj:j=k
    ·subst hj
     simp only[hk,if_false,if_true]
     rw[fnL_low h'.1,isNon_eq hn]
     simp
    ·simp only[hj,if_false]
   ·simp only[fnL,ih]
    by_cases hj:j=k
    ·subst hj;simp only[hk,if_false,if_true];simp
    ·simp only[hj,if_false]
theorem mem_rootsS {k r:Nat}:∀ {l:SL},r ∈ roots (fnL l k).2→r ∈ rootsS l
 | [],h=>by simp[fnL,roots] at h
 | (k',e') :: l,h=>by
  simp only[fnL] at h
  simp only[rootsS,List.mem_append]
  split at h
  ·exact .inl h
  ·exact .inr (mem_rootsS h)
theorem RelT.fin {C:Ctx}{L L':SL}{tm:Array Value}{w:World}{dead:List Nat}(h:RelT C (fnL L) tm w)(hf:finL dead L=some L'):RelT C (fnL L') tm w:=by
 unfold finL at hf
 simp only at hf
 split at hf
 ·rename_i ha
  simp only[Option.some.injEq] at hf
  have hX:fnL L'=nrmX (fun k=>keepE dead k && keepB (rootsS (sortK (filtL dead L))) k) (fun r=>(rootsS (sortK (filtL dead L))).contains r) (fnL L):=by
   funext j
   rw[← hf,fnL_genL _ _ ((asc_sortK _).sublist (filtB_sub _ _)),fnL_filtB,fnL_sortK,fnL_filtL]
   simp only[nrmX]
   by_cases hk:keepE dead j=true
   ·by_cases hb:keepB (rootsS (sortK (filtL dead L))) j=true
    ·simp[hk,hb]
    ·simp[hk,hb]
   ·simp[hk]
  rw[hX]
  refine h.nrm _ _ fun k hk r hr=>?_
  simp only[Bool.and_eq_true] at hk
  have hm:r ∈ rootsS (sortK (filtL dead L)):=mem_rootsS (k:=k) (by rw[fnL_sortK,fnL_filtL,if_pos hk.1];exact hr)
  refine⟨?_,by simpa using hm⟩
  simp only[Bool.and_eq_true]
  refine⟨List.all_eq_true.1 ha r hm,?_⟩
  simp only[keepB,Bool.or_eq_true,decide_eq_true_eq]
  by_cases h0:r % 100=0
  ·exact .inl (.inl h0)
  ·exact .inr (List.any_eq_true.2 ⟨r,hm,by simp[h0]⟩)
 ·cases hf
inductive It where
 | op (g:Option (Nat × Bool)) (c:COp)
 | call (g:Option (Nat × Bool)) (d f:Nat) (cs:List COd)
 | clo (g:Option (Nat × Bool)) (d t:Nat) (cs:List COd)
 | nilq (d:Nat) (eq:Bool) (c:COd)
 | raw (d:Option Nat) (op:Op) (ty:TypeId)
 | bad
inductive Sg where
 | o (l:List COp)
 | g (t:Nat) (w:Bool) (l:List COp)
 | call (g:Option (Nat × Bool)) (d f:Nat) (cs:List COd)
 | clo (g:Option (Nat × Bool)) (d t:Nat) (cs:List COd)
 | nilq (d:Nat) (eq:Bool) (c:COd)
 | raw (d:Option Nat) (op:Op) (ty:TypeId)
 | bad
def flatS:List Sg→List It
 | []=>[]
 | .o l :: r=>l.map (.op none) ++ flatS r
 | .g t w l :: r=>l.map (.op (some (t,w))) ++ flatS r
 | .call g d f cs :: r=>.call g d f cs :: flatS r
 | .clo g d t cs :: r=>.clo g d t cs :: flatS r
 | .nilq d eq c :: r=>.nilq d eq c :: flatS r
 | .raw d op ty :: r=>.raw d op ty :: flatS r
 | .bad :: r=>.bad :: flatS r
def argsC (P:Program)(nt:Nat):List Operand→List TypeId→Option (List COd)
 | x :: xs,t :: ts=>(compOd nt (elemSz P t) x).bind fun c=>(argsC P nt xs ts).map fun cs=>c :: cs
 | [],_=>some []
 | _,_=>none
def itOf0 (P:Program)(nt:Nat)(ops:Array Oper)(here:List Nat)(o:Oper):Option It :=
 (compGd nt ops o.guard).bind fun g =>
  match o.op with
  | .call ⟨.value (.func f),xs,ts⟩=>(dstIn nt o).bind fun d=>if opsIn nt o=true∧xs.size≤9000 then (argsC P nt xs.toList ts.toList).map fun cs=>.call g d f cs else none
  | .call ⟨.value (.tmp t),xs,ts⟩=>(dstIn nt o).bind fun d=>if opsIn nt o=true∧xs.size≤4500∧t < nt then (argsC P nt xs.toList ts.toList).map fun cs=>.clo g d t cs else none
  | .binOp op t x y _=>(match nilOp P op t y,g with
   | some eq,none=>(dstIn nt o).bind fun d=>(compOd nt 0 x).bind fun c=>if opsIn nt o=true then some (.nilq d eq c) else none
   | _,_=>(compO P nt here o).bind fun c=>match c with
    | .st _ _ _=>none
    | c=>if o.dst=some (dOf c)∧dOf c < nt then some (.op g c) else none)
  | _=>(compO P nt here o).bind fun c=>match c with
   | .st _ _ _=>if o.dst=none then some (.op g c) else none
   | c=>if o.dst=some (dOf c)∧dOf c < nt then some (.op g c) else none
def rawOp:Op→Bool
 | .call ⟨.builtin _,_,_⟩=>true
 | .lookup _ _ _ _=>true
 | .mapUpdate _ _ _ _=>true
 | .makeMap _ _=>true
 | .range _ _=>true
 | .next _ _=>true
 | .entry _=>true
 | _=>false
def rawOf (o:Oper):It:=if o.guard.isNone=true∧rawOp o.op=true then .raw o.dst o.op o.type else .bad
def isKn:It→Bool
 | .raw _ _ _=>false
 | .bad=>false
 | _=>true
def itOf (P:Program)(nt:Nat)(ops:Array Oper)(here:List Nat)(o:Oper):Option It:=some ((itOf0 P nt ops here o).getD (rawOf o))
theorem rawOf_kn (o:Oper):isKn (rawOf o)=false:=by unfold rawOf;split<;>rfl
theorem itOf_of {P:Program}{nt:Nat}{ops:Array Oper}{here:List Nat}{o:Oper}{it:It}(h:itOf P nt ops here o=some it)(hne:isKn it=true):itOf0 P nt ops here o=some it:=by
 simp only[itOf,Option.some.injEq] at h
 cases hi:itOf0 P nt ops here o with
 | none =>
  rw[hi] at h
  simp only[Option.getD_none] at h
  have:=rawOf_kn o
  rw[h,hne] at this;cases this
 | some i=>rw [hi] at h;simpa using h
theorem itOf_raw {P:Program}{nt:Nat}{ops:Array Oper}{here:List Nat}{o:Oper}{d:Option Nat}{op:Op}{ty:TypeId}(h:itOf P nt ops here o=some (.raw d op ty))(hk:∀ it,itOf0 P nt ops here o=some it→isKn it=true):o.guard=none∧o.dst=d∧o.op=op∧o.type=ty:=by
 simp only[itOf,Option.some.injEq] at h
 cases hi:itOf0 P nt ops here o with
 | some i =>
  rw[hi] at h
  have:=hk i hi
  simp only[Option.getD_some] at h
  rw[h] at this;cases this
 | none =>
  rw[hi] at h
  simp only[Option.getD_none,rawOf] at h
  split at h
  ·rename_i hc
   simp only[It.raw.injEq] at h
   exact⟨by simpa using hc.1,h.1,h.2.1,h.2.2⟩
  ·cases h
def itsOf (P:Program)(nt:Nat)(ops:Array Oper)(here:List Nat):List Nat→Option (List It)
 | []=>some []
 | i :: l=>(ops[i]?).bind fun o=>(itOf P nt ops here o).bind fun c=>(itsOf P nt ops here l).map fun r=>c :: r
inductive C0 where
 | skip | ret
 | label (l:Nat)
 | exit (id:Nat)
 | reg (l:List It)
 | draw (pl:List (List Nat)) (l:List It)
 | seq (a b:C0)
 | cond (c:COd) (a b:C0)
 | block (id:Nat) (a:C0)
 | loop (a:C0)
 | scope (a:C0)
inductive Cd where
 | skip | ret
 | label (l:Nat)
 | exit (id:Nat)
 | reg (dead:List Nat) (l:List Sg)
 | draw (pl:List (List Nat)) (dead:List Nat) (l:List Sg)
 | seq (a b:Cd)
 | cond (c:COd) (a b:Cd)
 | block (id:Nat) (a:Cd)
 | loop (a:Cd)
 | scope (a:Cd)
def Cd.er:Cd→C0
 | .skip=>.skip
 | .ret=>.ret
 | .label l=>.label l
 | .exit id=>.exit id
 | .reg _ l=>.reg (flatS l)
 | .draw pl _ l=>.draw pl (flatS l)
 | .seq a b=>.seq a.er b.er
 | .cond c a b=>.cond c a.er b.er
 | .block id a=>.block id a.er
 | .loop a=>.loop a.er
 | .scope a=>.scope a.er
def comp (P:Program)(nt:Nat):Code→Option C0
 | .skip=>some .skip
 | .ret=>some .ret
 | .label l=>some (.label l)
 | .exit id=>some (.exit id)
 | .region _ ops false=>(itsOf P nt ops (hereOf ops) (List.range ops.size)).map .reg
 | .region _ ops true=>(itsOf P nt ops (hereOf ops) (List.range ops.size)).map fun l=>.draw (ops.toList.map predsOf) l
 | .seq a b=>(comp P nt a).bind fun ca=>(comp P nt b).map fun cb=>.seq ca cb
 | .cond c a b=>(compOd nt 0 c).bind fun co=>(comp P nt a).bind fun ca=>(comp P nt b).map fun cb=>.cond co ca cb
 | .block id a=>(comp P nt a).map (.block id)
 | .loop a=>(comp P nt a).map .loop
 | .scope a=>(comp P nt a).map .scope
 | _=>none
def QX (Q:Ex→SL→Prop):Ex→XF Unit→Prop:=fun e X=>∃ L,X=fnL L∧Q e L
def WL (P:Program)(nt:Nat)(cc:Cd)(L:SL)(Q:Ex→SL→Prop):Prop :=
 ∀ (C:Ctx) (code:Code),C.P=P→C.nt=nt→comp P nt code=some cc.er→AWp C code (fnL L) (QX Q)
section
variable {P:Program} {nt:Nat} {L:SL} {Q:Ex→SL→Prop}
theorem WL.skip (h:Q .nrm L):WL P nt .skip L Q:=by
 intro C code hP hn hc
 cases code<;>simp only[comp,Cd.er,Option.bind_eq_some_iff,Option.map_eq_some_iff,Option.some.injEq,reduceCtorEq,and_false,exists_false,exists_const,C0.label.injEq,C0.exit.injEq] at hc
 case skip=>exact AWp.skip ⟨L,rfl,h⟩
 case region id ops d=>cases d<;>simp [comp] at hc
theorem WL.ret (h:Q .ret L):WL P nt .ret L Q:=by
 intro C code hP hn hc
 cases code<;>simp only[comp,Cd.er,Option.bind_eq_some_iff,Option.map_eq_some_iff,Option.some.injEq,reduceCtorEq,and_false,exists_false,exists_const,C0.label.injEq,C0.exit.injEq] at hc
 case ret=>exact AWp.ret ⟨L,rfl,h⟩
 case region id ops d=>cases d<;>simp [comp] at hc
theorem WL.label {l:Nat}(h:Q .nrm L):WL P nt (.label l) L Q:=by
 intro C code hP hn hc
 cases code<;>simp only[comp,Cd.er,Option.bind_eq_some_iff,Option.map_eq_some_iff,Option.some.injEq,reduceCtorEq,and_false,exists_false,exists_const,C0.label.injEq,C0.exit.injEq] at hc
 case label=>exact AWp.label ⟨L,rfl,h⟩
 case region id ops d=>cases d<;>simp [comp] at hc
theorem WL.exit {id:Nat}(h:Q (.ext id) L):WL P nt (.exit id) L Q:=by
 intro C code hP hn hc
 cases code<;>simp only[comp,Cd.er,Option.bind_eq_some_iff,Option.map_eq_some_iff,Option.some.injEq,reduceCtorEq,and_false,exists_false,exists_const,C0.label.injEq,C0.exit.injEq] at hc
 case exit=>subst hc;exact AWp.exit ⟨L,rfl,h⟩
 case region id ops d=>cases d<;>simp [comp] at hc
def Ex.thenL (next:SL→Prop)(Q:Ex→SL→Prop):Ex→SL→Prop
 | .nrm,L=>next L
 | e,L=>Q e L
theorem WL.seq {a b:Cd}(h:WL P nt a L (Ex.thenL (fun L'=>WL P nt b L' Q) Q)):WL P nt (.seq a b) L Q:=by
 intro C code hP hn hc
 cases code<;>simp only[comp,Cd.er,Option.bind_eq_some_iff,Option.map_eq_some_iff,Option.some.injEq,reduceCtorEq,and_false,exists_false,exists_const] at hc
 case seq x y =>
  obtain⟨ca,h1,cb,h2,h3⟩:=hc
  simp only[C0.seq.injEq] at h3
  obtain⟨rfl,rfl⟩:=h3
  refine AWp.seq ((h C x hP hn h1).cons fun e X hq=>?_)
  obtain⟨L',rfl,hq⟩:=hq
  cases e with
  | nrm=>exact hq C y hP hn h2
  | ext id=>exact ⟨L',rfl,hq⟩
  | ret=>exact ⟨L',rfl,hq⟩
 case region id ops d=>cases d<;>simp [comp] at hc
theorem WL.cond {co:COd}{a b:Cd}{t:Bool}(hb:rd (fnL L) co=.sc (.bool t))(ht:t=true→WL P nt a L Q)(hf:t=false→WL P nt b L Q):WL P nt (.cond co a b) L Q:=by
 intro C code hP hn hc
 cases code<;>simp only[comp,Cd.er,Option.bind_eq_some_iff,Option.map_eq_some_iff,Option.some.injEq,reduceCtorEq,and_false,exists_false,exists_const] at hc
 case cond c x y =>
  obtain⟨co',h0,ca,h1,cb,h2,h3⟩:=hc
  simp only[C0.cond.injEq] at h3
  obtain⟨rfl,rfl,rfl⟩:=h3
  exact AWp.cond (by rw[hn];exact h0) hb (fun h=>ht h C x hP hn h1) (fun h=>hf h C y hP hn h2)
 case region id ops d=>cases d<;>simp [comp] at hc
def Ex.blkL (id:Nat)(Q:Ex→SL→Prop):Ex→SL→Prop
 | .ext id',L=>if id'=id then Q .nrm L else Q (.ext id') L
 | e,L=>Q e L
theorem WL.block {id:Nat}{a:Cd}(h:WL P nt a L (Ex.blkL id Q)):WL P nt (.block id a) L Q:=by
 intro C code hP hn hc
 cases code<;>simp only[comp,Cd.er,Option.bind_eq_some_iff,Option.map_eq_some_iff,Option.some.injEq,reduceCtorEq,and_false,exists_false,exists_const] at hc
 case block id' x =>
  obtain⟨ca,h1,h3⟩:=hc
  simp only[C0.block.injEq] at h3
  obtain⟨rfl,rfl⟩:=h3
  refine AWp.block ((h C x hP hn h1).cons fun e X hq=>?_)
  obtain⟨L',rfl,hq⟩:=hq
  cases e with
  | nrm=>exact ⟨L',rfl,hq⟩
  | ext id2 =>
   simp only[Ex.blkL] at hq
   simp only[Ex.blk]
   split
   ·rename_i e;rw[if_pos e] at hq;exact⟨L',rfl,hq⟩
   ·rename_i e;rw[if_neg e] at hq;exact⟨L',rfl,hq⟩
  | ret=>exact ⟨L',rfl,hq⟩
 case region id ops d=>cases d<;>simp [comp] at hc
theorem WL.scope {a:Cd}(h:WL P nt a L Q):WL P nt (.scope a) L Q:=by
 intro C code hP hn hc
 cases code<;>simp only[comp,Cd.er,Option.bind_eq_some_iff,Option.map_eq_some_iff,Option.some.injEq,reduceCtorEq,and_false,exists_false,exists_const] at hc
 case scope x =>
  obtain⟨ca,h1,h3⟩:=hc
  simp only[C0.scope.injEq] at h3
  subst h3
  exact AWp.scope (h C x hP hn h1)
 case region id ops d=>cases d<;>simp [comp] at hc
theorem WL.loop {ι:Type}{a:Cd}(S:ι→SL) (μ:ι→Nat)(i:ι)(hL:L=S i)(h:∀ i,WL P nt a (S i) (Ex.thenL (fun L'=>∃ j,L'=S j∧μ j < μ i) Q)):WL P nt (.loop a) L Q:=by
 intro C code hP hn hc
 subst hL
 cases code<;>simp only[comp,Cd.er,Option.bind_eq_some_iff,Option.map_eq_some_iff,Option.some.injEq,reduceCtorEq,and_false,exists_false,exists_const] at hc
 case loop x =>
  obtain⟨ca,h1,h3⟩:=hc
  simp only[C0.loop.injEq] at h3
  subst h3
  refine AWp.loop (fun i=>fnL (S i)) μ i fun i=>((h i C x hP hn h1).cons fun e X hq=>?_)
  obtain⟨L',rfl,hq⟩:=hq
  cases e with
  | nrm =>
   obtain⟨j,rfl,hj⟩:=hq
   exact⟨j,rfl,hj⟩
  | ext id=>exact ⟨L',rfl,hq⟩
  | ret=>exact ⟨L',rfl,hq⟩
 case region id ops d=>cases d<;>simp [comp] at hc
theorem WL.fin {cc:Cd}{L':SL}(dead:List Nat)(hf:finL dead L=some L')(h:WL P nt cc L' Q):WL P nt cc L Q:=by
 intro C code hP hn hc a w hd hr
 exact h C code hP hn hc a w hd (hr.fin hf)
theorem WL.mono {cc:Cd}{Q':Ex→SL→Prop}(h:WL P nt cc L Q')(hq:∀ e L,Q' e L→Q e L):WL P nt cc L Q:=by
 intro C code hP hn hc
 exact (h C code hP hn hc).cons fun e X ⟨L',e1,e2⟩=>⟨L',e1,hq _ _ e2⟩
def RL (P:Program)(nt:Nat)(segs:List Sg)(L:SL)(K:SL→Prop):Prop :=
 ∀ (C:Ctx) (ops:Array Oper) (idx:List Nat),C.P=P→C.nt=nt→itsOf P nt ops (hereOf ops) idx=some (flatS segs)→∀ (a:Act) (w:World) (Q:Exit→Act→World→Prop),a.defers=[]→RelT C (fnL L) a.tmps w →
  (∀ (L':SL) (a':Act) (w':World),a'.defers=[]→RelT C (fnL L') a'.tmps w'→K L'→Q .normal a' w')→wpOps C.P ops Q idx a w
theorem RL.nil {K:SL→Prop}(h:K L):RL P nt [] L K:=by
 intro C ops idx hP hn hc a w Q hd hr hK
 cases idx with
 | nil=>simp only[Go.wpOps];exact hK L a w hd hr h
 | cons i l =>
  simp only[itsOf,flatS,Option.bind_eq_some_iff,Option.map_eq_some_iff,reduceCtorEq,and_false,exists_false] at hc
theorem its_cons {ops:Array Oper}{here:List Nat}{idx:List Nat}{it:It}{r:List It}(h:itsOf P nt ops here idx=some (it :: r)):∃ i l o,idx=i :: l∧ops[i]?=some o∧itOf P nt ops here o=some it∧itsOf P nt ops here l=some r:=by
 cases idx with
 | nil=>simp [itsOf] at h
 | cons i l =>
  simp only[itsOf,Option.bind_eq_some_iff,Option.map_eq_some_iff] at h
  obtain⟨o,ho,c',hc',r',hr',e⟩:=h
  simp only[List.cons.injEq] at e
  obtain⟨rfl,rfl⟩:=e
  exact⟨i,l,o,rfl,ho,hc',hr'⟩
theorem RL.cons {K:SL→Prop}{segs rest:List Sg}{it:It}{L1:SL}(hf:flatS segs=it :: flatS rest)
  (hs:∀ (C:Ctx) (ops:Array Oper) (i:Nat) (o:Oper),C.P=P→C.nt=nt→ops[i]?=some o→itOf P nt ops (hereOf ops) o=some it→SOk C ops i (fnL L) (fnL L1)) (h:RL P nt rest L1 K):RL P nt segs L K:=by
 intro C ops idx hP hn hc a w Q hd hr hK
 rw[hf] at hc
 obtain⟨i,l,o,rfl,ho,hit,hl⟩:=its_cons hc
 rw[wpOps_cons]
 exact hs C ops i o hP hn ho hit a w _ Q hd hr fun a' w' hd' hr'=>h C ops l hP hn hl a' w' Q hd' hr' hK
theorem itOf0_kn {P:Program}{nt:Nat}{ops:Array Oper}{here:List Nat}{o:Oper}{it:It}(h:itOf0 P nt ops here o=some it):isKn it=true:=by
 simp only[itOf0,Option.bind_eq_some_iff] at h
 obtain⟨g,_,h⟩:=h
 split at h
 ·simp only[Option.bind_eq_some_iff] at h
  obtain⟨d,_,h⟩:=h
  split at h
  ·simp only[Option.map_eq_some_iff] at h
   obtain⟨cs,_,rfl⟩:=h;rfl
  ·cases h
 ·simp only[Option.bind_eq_some_iff] at h
  obtain⟨d,_,h⟩:=h
  split at h
  ·simp only[Option.map_eq_some_iff] at h
   obtain⟨cs,_,rfl⟩:=h;rfl
  ·cases h
 ·split at h
  ·simp only[Option.bind_eq_some_iff] at h
   obtain⟨d,_,c,_,h⟩:=h
   split at h
   ·cases h;rfl
   ·cases h
  ·simp only[Option.bind_eq_some_iff] at h
   obtain⟨c,_,h⟩:=h
   split at h
   ·cases h
   ·split at h
    ·cases h;rfl
    ·cases h
 ·simp only[Option.bind_eq_some_iff] at h
  obtain⟨c,_,h⟩:=h
  split at h
  ·split at h
   ·cases h;rfl
   ·cases h
  ·split at h
   ·cases h;rfl
   ·cases h
theorem RL.raw {K:SL→Prop}{rest:List Sg}{d:Option Nat}{op:Op}{ty:TypeId}{L1:SL}(hop:∀ (C:Ctx)(o:Oper),C.P=P→C.nt=nt→o.dst=d→o.op=op→o.type=ty→OpOk C o (fnL L) (fnL L1))(h:RL P nt rest L1 K):RL P nt (.raw d op ty :: rest) L K :=
 RL.cons (it:=.raw d op ty) (rest:=rest) rfl (fun C ops i o hP hn hi hit=>by
  obtain⟨h1,h2,h3,h4⟩:=itOf_raw hit fun it h=>itOf0_kn h
  exact SOk.op hi h1 (hop C o hP hn h2 h3 h4)) h
def gv (w:Bool):AU→Option Bool
 | .sc (.bool b)=>some (b == w)
 | .sc (.tuple _)=>some false
 | _=>none
def skipL (L:SL):COp→SL
 | .st _ _ _=>L
 | c=>setL L (100 * dOf c) (.sc undef)
def stpG (t:Nat)(w:Bool)(L:SL)(c:COp):Option SL:=(gv w (fnL L (100 * t)).2).bind fun b=>if b=true then stpL L c else some (skipL L c)
theorem itOf_op {o:Oper}{g:Option (Nat × Bool)}{c:COp}{ops:Array Oper}{here:List Nat}(h:itOf P nt ops here o=some (.op g c)):compGd nt ops o.guard=some g∧compO P nt here o=some c∧((∃ n a v,c=.st n a v∧o.dst=none)∨(o.dst=some (dOf c)∧dOf c < nt∧∀ L,skipL L c=setL L (100 * dOf c) (.sc undef))):=by
 have h:=itOf_of h rfl
 simp only[itOf0,Option.bind_eq_some_iff] at h
 obtain⟨g',hg,h⟩:=h
 split at h
 ·simp only[Option.bind_eq_some_iff] at h
  obtain⟨d,_,h⟩:=h
  split at h
  ·simp at h
  ·cases h
 ·simp only[Option.bind_eq_some_iff] at h
  obtain⟨d,_,h⟩:=h
  split at h
  ·simp at h
  ·cases h
 ·split at h
  ·simp only[Option.bind_eq_some_iff] at h
   obtain⟨d,_,c',_,h⟩:=h
   split at h<;>simp at h
  ·simp only[Option.bind_eq_some_iff] at h
   obtain⟨c',hc',h⟩:=h
   split at h
   ·simp at h
   ·rename_i hst
    split at h
    ·rename_i hd
     simp only[Option.some.injEq,It.op.injEq] at h
     obtain⟨rfl,rfl⟩:=h
     refine⟨hg,hc',.inr ⟨hd.1,hd.2,fun L=>?_⟩⟩
     unfold skipL
     split
     ·exact absurd rfl (hst _ _ _)
     ·rfl
    ·cases h
 ·simp only[Option.bind_eq_some_iff] at h
  obtain⟨c',hc',h⟩:=h
  split at h
  ·split at h
   ·rename_i n a v hd
    simp only[Option.some.injEq,It.op.injEq] at h
    obtain⟨rfl,rfl⟩:=h
    exact⟨hg,hc',.inl ⟨_,_,_,rfl,hd⟩⟩
   ·cases h
  ·rename_i hst
   split at h
   ·rename_i hd
    simp only[Option.some.injEq,It.op.injEq] at h
    obtain⟨rfl,rfl⟩:=h
    refine⟨hg,hc',.inr ⟨hd.1,hd.2,fun L=>?_⟩⟩
    unfold skipL
    split
    ·exact absurd rfl (hst _ _ _)
    ·rfl
   ·cases h
theorem sok_op {C:Ctx}{o:Oper}{c:COp}{ops:Array Oper}{here:List Nat}{i:Nat}{L':SL}(hP:C.P=P)(hn:C.nt=nt)(hi:ops[i]?=some o)(h:itOf P nt ops here o=some (.op none c))(hs:stpL L c=some L'):SOk C ops i (fnL L) (fnL L'):=by
 obtain⟨h1,h2,_⟩:=itOf_op h
 subst hP hn
 have hg:o.guard=none:=by
  cases hgd:o.guard with
  | none=>rfl
  | some jw =>
   obtain⟨j,w⟩:=jw
   rw[hgd] at h1
   simp only[compGd,Option.bind_eq_some_iff] at h1
   obtain⟨t,_,h1⟩:=h1
   split at h1<;>simp at h1
 exact SOk.op hi hg (compO_ok h2 (stpL_ok hs))
theorem compGd_some {ops:Array Oper}{og:Option (Nat × Bool)}{t:Nat}{w:Bool}(h:compGd nt ops og=some (some (t,w))):∃ j,og=some (j,w)∧(ops[j]?).bind (·.dst)=some t∧t < nt:=by
 cases og with
 | none=>simp [compGd] at h
 | some jw =>
  obtain⟨j,w'⟩:=jw
  simp only[compGd,Option.bind_eq_some_iff] at h
  obtain⟨t',ht,h⟩:=h
  split at h
  ·rename_i hlt
   simp only[Option.some.injEq,Prod.mk.injEq] at h
   obtain⟨rfl,rfl⟩:=h
   exact⟨j,rfl,by simpa [Option.bind_eq_some_iff] using ht,hlt⟩
  ·cases h
theorem gv_true {w:Bool}{v:AU}(h:gv w v=some true):v=.sc (.bool w):=by
 unfold gv at h
 split at h
 ·simp only[Option.some.injEq,beq_iff_eq] at h;rw[h]
 ·simp at h
 ·cases h
theorem gv_false {w:Bool}{v:AU}(h:gv w v=some false):∃ x,v=.sc x∧x ≠ .bool w:=by
 unfold gv at h
 split at h
 ·rename_i b
  simp only[Option.some.injEq,beq_eq_false_iff_ne,ne_eq] at h
  exact⟨_,rfl,fun e=>h (by simpa using e)⟩
 ·exact⟨_,rfl,fun e=>by cases e⟩
 ·cases h
theorem sok_gop {C:Ctx}{o:Oper}{c:COp}{ops:Array Oper}{here:List Nat}{i t:Nat}{w:Bool}{L':SL}(hP:C.P=P)(hn:C.nt=nt)(hi:ops[i]?=some o)(h:itOf P nt ops here o=some (.op (some (t,w)) c))(hs:stpG t w L c=some L'):SOk C ops i (fnL L) (fnL L'):=by
 obtain⟨h1,h2,h3⟩:=itOf_op h
 subst hP hn
 obtain⟨j,hg,ht,hlt⟩:=compGd_some h1
 simp only[stpG,Option.bind_eq_some_iff] at hs
 obtain⟨b,hb,hs⟩:=hs
 cases b with
 | true =>
  simp only[if_true] at hs
  exact SOk.yes hi hg ht hlt (gv_true hb) (compO_ok h2 (stpL_ok hs))
 | false =>
  simp only[Bool.false_eq_true,if_false,Option.some.injEq] at hs
  subst hs
  obtain⟨x,hx,hne⟩:=gv_false hb
  rcases h3 with ⟨n,a,v,rfl,hd⟩ | ⟨hd,hdl,hsk⟩
  ·exact SOk.no' hi hg ht hlt hx hne hd
  ·rw[hsk,← fnL_set]
   exact SOk.no hi hg ht hlt hx hne hd hdl
def stpO:Option SL→COp→Option SL
 | none,_=>none
 | some L,c=>stpL L c
def runL:List COp→Option SL→Option SL
 | [],r=>r
 | c :: l,r=>runL l (stpO r c)
def stpGO (t:Nat)(w:Bool):Option SL→COp→Option SL
 | none,_=>none
 | some L,c=>stpG t w L c
def runG (t:Nat)(w:Bool):List COp→Option SL→Option SL
 | [],r=>r
 | c :: l,r=>runG t w l (stpGO t w r c)
theorem runL_none:∀ l:List COp,runL l none=none
 | []=>rfl
 | _ :: l=>runL_none l
theorem runG_none {t:Nat}{w:Bool}:∀ l:List COp,runG t w l none=none
 | []=>rfl
 | _ :: l=>runG_none l
def runSg:List Sg→Option SL→Option SL
 | [],r=>r
 | .o l :: s,r=>runSg s (runL l r)
 | .g t w l :: s,r=>runSg s (runG t w l r)
 | _ :: _,_=>none
theorem runSg_none:∀ l:List Sg,runSg l none=none
 | []=>rfl
 | .o l :: s=>by simp only[runSg,runL_none,runSg_none s]
 | .g t w l :: s=>by simp only[runSg,runG_none,runSg_none s]
 | .call _ _ _ _ :: _=>rfl
 | .clo _ _ _ _ :: _=>rfl
 | .nilq _ _ _ :: _=>rfl
 | .raw _ _ _ :: _=>rfl
 | .bad :: _=>rfl
theorem RL.o {K:SL→Prop}{rest:List Sg}:∀ {l:List COp} {L L1:SL},runL l (some L)=some L1→RL P nt rest L1 K→RL P nt (.o l :: rest) L K
 | [],L,L1,hr,h=>by
  simp only[runL,Option.some.injEq] at hr
  subst hr
  intro C ops idx hP hn hc
  exact h C ops idx hP hn (by simpa [flatS] using hc)
 | c :: l,L,L1,hr,h=>by
  simp only[runL,stpO] at hr
  cases hs:stpL L c with
  | none=>rw [hs,runL_none] at hr;cases hr
  | some L2 =>
   rw[hs] at hr
   exact RL.cons (it:=.op none c) (rest:=.o l :: rest) (by simp[flatS]) (fun C ops i o hP hn hi hit=>sok_op hP hn hi hit hs) (RL.o (l:=l) hr h)
theorem RL.g {K:SL→Prop}{rest:List Sg}{t:Nat}{w:Bool}:∀ {l:List COp} {L L1:SL},runG t w l (some L)=some L1→RL P nt rest L1 K→RL P nt (.g t w l :: rest) L K
 | [],L,L1,hr,h=>by
  simp only[runG,Option.some.injEq] at hr
  subst hr
  intro C ops idx hP hn hc
  exact h C ops idx hP hn (by simpa [flatS] using hc)
 | c :: l,L,L1,hr,h=>by
  simp only[runG,stpGO] at hr
  cases hs:stpG t w L c with
  | none=>rw [hs,runG_none] at hr;cases hr
  | some L2 =>
   rw[hs] at hr
   exact RL.cons (it:=.op (some (t,w)) c) (rest:=.g t w l :: rest) (by simp[flatS]) (fun C ops i o hP hn hi hit=>sok_gop hP hn hi hit hs) (RL.g (l:=l) hr h)
theorem RL.run {K:SL→Prop}:∀ {segs:List Sg} {L L1:SL},runSg segs (some L)=some L1→K L1→RL P nt segs L K
 | [],L,L1,hr,h=>by simp only[runSg,Option.some.injEq] at hr;subst hr;exact RL.nil h
 | .o l :: s,L,L1,hr,h=>by
  simp only[runSg] at hr
  cases hs:runL l (some L) with
  | none=>rw [hs,runSg_none] at hr;cases hr
  | some L2=>rw [hs] at hr;exact RL.o hs (RL.run hr h)
 | .g t w l :: s,L,L1,hr,h=>by
  simp only[runSg] at hr
  cases hs:runG t w l (some L) with
  | none=>rw [hs,runSg_none] at hr;cases hr
  | some L2=>rw [hs] at hr;exact RL.g hs (RL.run hr h)
theorem WL.reg {dead:List Nat}{segs:List Sg}(h:RL P nt segs L fun L1=>∃ L2,finL dead L1=some L2∧Q .nrm L2):WL P nt (.reg dead segs) L Q:=by
 intro C code hP hn hc
 cases code<;>simp only[comp,Cd.er,Option.bind_eq_some_iff,Option.map_eq_some_iff,Option.some.injEq,reduceCtorEq,and_false,exists_false,exists_const] at hc
 case region id ops d =>
  cases d with
  | true=>simp [comp] at hc
  | false =>
   simp only[comp,Option.map_eq_some_iff,C0.reg.injEq] at hc
   obtain⟨its,h1,rfl⟩:=hc
   refine fun a w hd hr=>wp_region (h C ops _ hP hn h1 a w _ hd hr fun L1 a' w' hd' hr' hq=>?_)
   obtain⟨L2,h3,h4⟩:=hq
   exact⟨hd',fnL L2,hr'.fin h3,L2,rfl,h4⟩
theorem WL.sreg {dead:List Nat}{segs:List Sg}{y:Cd}{L1 L2:SL}(h1:runSg segs (some L)=some L1)(h2:finL dead L1=some L2)(h:WL P nt y L2 Q):WL P nt (.seq (.reg dead segs) y) L Q :=
 WL.seq (WL.reg (RL.run h1 ⟨L2,h2,h⟩))
theorem WL.sregC {dead:List Nat}{segs:List Sg}{y:Cd}(h:RL P nt segs L fun L1=>∃ L2,finL dead L1=some L2∧WL P nt y L2 Q):WL P nt (.seq (.reg dead segs) y) L Q :=
 WL.seq (WL.reg h)
theorem WL.join {cc:Cd}{y:Cd}(L':SL)(h:WL P nt cc L fun e L1=>e=.nrm∧L1=L')(h':WL P nt y L' Q):WL P nt (.seq cc y) L Q :=
 WL.seq (h.mono fun e L1 ⟨h1,h2⟩=>by subst h1 h2;exact h')
end
end Go.OT
namespace Go.OT
mutual
theorem noOwn_lend {L:Type}:∀ v:AV L,noOwn (lend v)=true
 | .sl _ _ _ _ _=>by simp[lend,noOwn]
 | .bx _ _ _=>by simp[lend,noOwn]
 | .agg cs=>by simp only[lend,noOwn];exact noOwnL_lend cs
 | .tuple cs=>by simp only[lend,noOwn];exact noOwnL_lend cs
 | .mp _ _ _ | .mv _ _ _ | .sc _ | .view _ _ _ _ _ | .ptr _ _ _ _ | .bptr _ _ _ | .vptr _ _ | .clos _ _ | .dead | .non=>by simp[lend,noOwn]
theorem noOwnL_lend {L:Type}:∀ vs:List (AV L),noOwnL (lendL vs)=true
 | []=>rfl
 | v :: vs=>by simp only[lendL,noOwnL,noOwn_lend v,noOwnL_lend vs,Bool.and_self]
end
mutual
theorem RR_lend {X:XF LO} {β:Nat→Nat × Nat}:∀ (v:AL) (x:Value),RR X β v x→RR X β (lend v) x
 | .sl o l s n cs,x,h=>by
  have h':CR (.sl o l s n cs) x:=by simpa [RR] using h
  have:=CR_lend h'
  simpa [lend,RR] using this
 | .bx o l cs,x,h=>by
  have h':CR (.bx o l cs) x:=by simpa [RR] using h
  have:=CR_lend h'
  simpa [lend,RR] using this
 | .agg cs,x,h=>by
  simp only[lend,RR] at h ⊢
  obtain⟨xs,h1,h2⟩:=h
  exact⟨xs,h1,RRL_lend cs xs h2⟩
 | .tuple cs,x,h=>by
  simp only[lend,RR] at h ⊢
  obtain⟨xs,h1,h2⟩:=h
  exact⟨xs,h1,RRL_lend cs xs h2⟩
 | .mp o l cs,x,h=>by
  have h':CR (.mp o l cs) x:=by simpa [RR] using h
  have:=CR_lend h'
  simpa [lend,RR] using this
 | .mv _ _ _,_,h | .sc _,_,h | .view _ _ _ _ _,_,h | .ptr _ _ _ _,_,h | .bptr _ _ _,_,h | .vptr _ _,_,h | .clos _ _,_,h | .dead,_,h | .non,_,h=>by simpa [lend] using h
theorem RRL_lend {X:XF LO} {β:Nat→Nat × Nat}:∀ (vs:List AL) (xs:List Value),RRL X β vs xs→RRL X β (lendL vs) xs
 | [],xs,h=>by simpa [lendL,RRL] using h
 | v :: vs,xs,h=>by
  simp only[lendL,RRL] at h ⊢
  obtain⟨y,ys,h1,h2,h3⟩:=h
  exact⟨y,ys,h1,RR_lend v y h2,RRL_lend vs ys h3⟩
end
theorem lend_cells' {L:Type}(v:AV L):(lend v).cells?=v.cells?.map (·.map lend):=by
 cases v<;>simp [lend,AV.cells?,lendL_eq]
theorem hd_lend (v:AL):hd (lend v)=hd v:=by cases v<;>simp [lend,hd]
theorem hd_getN_lend (p:List Nat):∀ v:AL,(getN (lend v) p).bind hd=(getN v p).bind hd:=by
 induction p with
 | nil=>intro v;simp[getN,hd_lend]
 | cons i p ih =>
  intro v
  simp only[getN,lend_cells']
  cases hc:v.cells? with
  | none=>simp
  | some cs =>
   simp only[Option.map_some,List.getElem?_map]
   cases hi:cs[i]? with
   | none=>simp
   | some u=>simpa using ih u
theorem lend_non (v:AL):lend v=.non ↔ v=.non:=by cases v<;>simp [lend]
theorem CX_lend {X Y:XF LO} {β:Nat→Nat × Nat}(hRR:∀ (v:AL)(x:Value),RR X β v x→RR Y β v x){v:AL}{y:Value}(h:CX X β v y):CX Y β (lend v) y:=by
 rcases h with h | ⟨hv,h⟩
 ·exact .inl (CR_lend h)
 ·have e:lend v=v:=by cases v<;>simp [isVw] at hv<;>simp [lend]
  rw[e]
  exact .inr ⟨hv,hRR _ _ h⟩
theorem RelL.freeze {C:Ctx}{X:XF LO} {β:Nat→Nat × Nat}{I:ASet}{rg:Nat→Value}{w:World}(R:RelL C X β I rg w)(k:Nat) :
  RelL C (X.upd k (lend (X k).2)) β (fun b o=>I b o∨fp (X k).2 b o) rg w:=by
 have hk:∀ k' b o,kfp β (X.upd k (lend (X k).2)) k' b o→kfp β X k' b o∧(k'=k→¬ fp (X k).2 b o):=by
  intro k' b o h
  by_cases e:k'=k
  ·subst e
   simp only[kfp,XF.upd_self] at h
   rcases h with h | ⟨h1,h2,h3⟩
   ·exact absurd h (fp_lend _ _ _)
   ·have hne:(X k').2 ≠ .non:=fun e=>h2 ((lend_non _).2 e)
    refine⟨.inr ⟨h1,hne,h3⟩,fun _ hf=>?_⟩
    obtain⟨rfl,rfl⟩:=h3
    exact ((R.key k').cell h1 hne).2 hf
  ·simp only[kfp,XF.upd_ne _ _ e] at h
   exact⟨h,fun h'=>absurd h' e⟩
 have hRR:∀ (v:AL) (x:Value),RR X β v x→RR (X.upd k (lend (X k).2)) β v x:=fun v x h=>RR_keep ⟨fun j=>by
   by_cases e:j=k
   ·subst e;rw[XF.upd_self];exact Nat.le_refl _
   ·rw[XF.upd_ne _ _ e];exact Nat.le_refl _,fun j _ p h hh=>by
   by_cases e:j=k
   ·subst e;rw[XF.upd_self,hd_getN_lend];exact hh
   ·rw[XF.upd_ne _ _ e];exact hh,fun _ _=>rfl⟩ v x h
 refine⟨fun t=>?_,fun k'=>?_,fun a b hne b' o h1 h2=>R.disj a b hne b' o (hk _ _ _ h1).1 (hk _ _ _ h2).1,fun b o h=>?_,fun a b o h=>R.frK a b o (hk _ _ _ h).1,fun b o h=>?_,fun b o h=>.inl (R.frI0 b o h),R.fr,R.gh,R.gr⟩
 ·by_cases e:100 * t=k
  ·subst e
   rw[XF.upd_self]
   exact hRR _ _ (RR_lend _ _ (R.reg t))
  ·rw[XF.upd_ne _ _ e];exact hRR _ _ (R.reg t)
 ·by_cases e:k'=k
  ·subst e
   have h:=R.key k'
   refine⟨?_,?_,?_,fun b o hb=>h.live b o (hk k' b o hb).1,fun h99=>?_⟩
   ·rw[XF.upd_self];exact Mem_lend _ h.mem (fun b o hb=>.inl hb) (fun b o hb=>.inr hb)
   ·rw[XF.upd_self];exact (noOwn_spec _ (noOwn_lend _)).2
   ·rw[XF.upd_self]
    intro h1 h2
    have hne:(X k').2 ≠ .non:=fun e=>h2 ((lend_non _).2 e)
    obtain⟨⟨y,hy,hc⟩,hf⟩:=h.cell h1 hne
    exact⟨⟨y,hy,CX_lend hRR hc⟩,fp_lend _ _ _⟩
   ·rw[XF.upd_self,lend_non];exact h.last h99
  ·have h:=R.key k'
   refine⟨by rw[XF.upd_ne _ _ e];exact Mem_mono _ h.mem (fun b o hb=>.inl hb),by rw[XF.upd_ne _ _ e];exact h.sep,by rw[XF.upd_ne _ _ e];exact fun h1 h2=>⟨(h.cell h1 h2).1.imp fun y hy=>⟨hy.1,hy.2.imp id fun h=>⟨h.1,hRR _ _ h.2⟩⟩,(h.cell h1 h2).2⟩,fun b o hb=>h.live b o (hk k' b o hb).1,by rw[XF.upd_ne _ _ e];exact h.last⟩
 ·rcases h with h | h
  ·exact⟨(R.imm b o h).1,fun a ha=>(R.imm b o h).2 a (hk _ _ _ ha).1⟩
  ·refine⟨((R.key k).live b o (.inl h)).1,fun a ha=>?_⟩
   obtain⟨h1,h2⟩:=hk _ _ _ ha
   by_cases e:a=k
   ·exact h2 e h
   ·exact R.disj a k e b o h1 (.inl h)
 ·rcases h with h | h
  ·exact R.frI b o h
  ·exact .inr (R.frK k b o (.inl h))
theorem er_upd_lend (X:XF LO)(k:Nat):erF (X.upd k (lend (X k).2))=(erF X).upd k (lend (erF X k).2):=by
 rw[erF_upd,er_lend];rfl
theorem RelT.freeze {C:Ctx}{X:XF Unit}{tm:Array Value}{w:World}(h:RelT C X tm w)(k:Nat):RelT C (X.upd k (lend (X k).2)) tm w:=by
 obtain⟨XL,β,I,rg,he,R,hs,ht⟩:=h
 subst he
 exact⟨_,β,_,rg,er_upd_lend XL k,R.freeze k,hs,ht⟩
theorem RelL.nilc {C:Ctx}{X:XF LO} {β:Nat→Nat × Nat}{I:ASet}{rg:Nat→Value}{w:World}(R:RelL C X β I rg w)(k:Nat)(o:Bool)(sz:Nat)(v':AL)(hf:∀ b o',¬ fp v' b o')(hfo:∀ b o',¬ fp (X k).2 b o')(hm:Mem w I v')(hs:Sep v')
  (hrr:∀ Y:XF LO,(∀ j,(Y j).1=(X j).1)→∀ x,RR X β (X k).2 x→(∀ (u:AL) (y:Value),RR X β u y→RR Y β u y)→RR Y β v' x) (hcr:∀ y,CR (X k).2 y→CR v' y) (hn:v' ≠ .non) (hn':(X k).2 ≠ .non) (hnode:∀ p h,(getN (X k).2 p).bind hd ≠ some h) (hvw:isVw (X k).2=false):RelL C (X.upd k v') β I rg w:=by
 have hk:∀ k' b o,kfp β (X.upd k v') k' b o→kfp β X k' b o:=by
  intro k' b o h
  by_cases e:k'=k
  ·subst e
   simp only[kfp,XF.upd_self] at h
   rcases h with h | ⟨h1,h2,h3⟩
   ·exact absurd h (hf _ _)
   ·exact .inr ⟨h1,hn',h3⟩
  ·simpa only [kfp,XF.upd_ne _ _ e] using h
 have hkeep:Keeps X (X.upd k v') β β:=⟨fun j=>by
   by_cases e:j=k
   ·subst e;rw[XF.upd_self];exact Nat.le_refl _
   ·rw[XF.upd_ne _ _ e];exact Nat.le_refl _,fun j _ p h hh=>by
   by_cases e:j=k
   ·subst e;exact absurd hh (hnode p h)
   ·rw[XF.upd_ne _ _ e];exact hh,fun _ _=>rfl⟩
 have hRR:∀ (v:AL) (x:Value),RR X β v x→RR (X.upd k v') β v x:=fun v x h=>RR_keep hkeep v x h
 have hgen:∀ j,((X.upd k v') j).1=(X j).1:=fun j=>by
  by_cases e:j=k
  ·subst e;rw[XF.upd_self]
  ·rw[XF.upd_ne _ _ e]
 refine⟨fun t=>?_,fun k'=>?_,fun a b hne b' o h1 h2=>R.disj a b hne b' o (hk _ _ _ h1) (hk _ _ _ h2),fun b o h=>⟨(R.imm b o h).1,fun a ha=>(R.imm b o h).2 a (hk _ _ _ ha)⟩,fun a b o h=>R.frK a b o (hk _ _ _ h),R.frI,R.frI0,R.fr,R.gh,R.gr⟩
 ·by_cases e:100 * t=k
  ·subst e
   rw[XF.upd_self]
   exact hrr _ hgen _ (R.reg t) hRR
  ·rw[XF.upd_ne _ _ e];exact hRR _ _ (R.reg t)
 ·by_cases e:k'=k
  ·subst e
   have h:=R.key k'
   refine⟨by rw[XF.upd_self];exact hm,by rw[XF.upd_self];exact hs,?_,fun b o hb=>h.live b o (hk k' b o hb),fun h99=>absurd (h.last h99) hn'⟩
   rw[XF.upd_self]
   intro h1 _
   obtain⟨⟨y,hy,hc⟩,_⟩:=h.cell h1 hn'
   exact⟨⟨y,hy,.inl (hcr y (hc.cr hvw))⟩,hf _ _⟩
  ·have h:=R.key k'
   refine⟨by rw[XF.upd_ne _ _ e];exact h.mem,by rw[XF.upd_ne _ _ e];exact h.sep,by rw[XF.upd_ne _ _ e];exact fun h1 h2=>⟨(h.cell h1 h2).1.imp fun y hy=>⟨hy.1,hy.2.imp id fun h=>⟨h.1,hRR _ _ h.2⟩⟩,(h.cell h1 h2).2⟩,fun b o hb=>h.live b o (hk k' b o hb),by rw[XF.upd_ne _ _ e];exact h.last⟩
theorem RelT.nil1 {C:Ctx}{X:XF Unit}{tm:Array Value}{w:World}(h:RelT C X tm w)(k:Nat)(o:Bool)(sz:Nat)(hv:(X k).2=.sc (.slice none 0 0)):RelT C (X.upd k (.sl o () sz 0 [])) tm w:=by
 obtain⟨XL,β,I,rg,he,R,hs,ht⟩:=h
 subst he
 have hx:(XL k).2=.sc (.slice none 0 0):=er_sc hv
 refine⟨XL.upd k (.sl o none sz 0 []),β,I,rg,by rw[erF_upd];rfl,?_,hs,ht⟩
 refine R.nilc k o sz _ (by cases o<;>simp [fp]) (by rw[hx];simp[fp]) (by simp[Mem]) (by cases o<;>simp [Sep]) (fun Y _ x hr _=>?_) (fun y hc=>?_) (by simp) (by rw[hx];simp) (fun p h=>?_) (by rw[hx];rfl)
 ·rw[hx] at hr
  simp only[RR] at hr
  simp only[RR,CR,hr,true_or,and_self]
 ·rw[hx] at hc
  simp only[CR] at hc
  simp only[CR,hc,true_or,and_self]
 ·rw[hx]
  cases p with
  | nil=>simp [getN,Go.OT.hd]
  | cons i p=>simp [getN,AV.cells?]
theorem RelT.own {C:Ctx}{X X':XF Unit}{tm:Array Value}{w:World}(h:RelT C X tm w)(n:Nat)(hn:n < C.nt)(hr:asgV X n (.t n)=some X'):RelT C X' tm w:=by
 obtain⟨XL,β,I,rg,he,R,hs,ht⟩:=h
 subst he
 have hnt:C.nt≤H:=by have:=C.hnt;unfold H;omega
 simp only[asgV,Option.map_eq_some_iff] at hr
 obtain⟨X1,h1,h2⟩:=hr
 obtain⟨XL1,rg1,e1,R1,_,e2,e3⟩:=takeO_ok (x:=.tmp n) (sz:=0) R hnt (by simp[compOd,hn]) h1
 refine⟨_,β,I,_,?_,R1.moveR n H (by have:=C.hnt;omega) (by omega),hs,fun t h=>?_⟩
 ·rw[erF_set,erF_set,← h2]
  subst e1;rfl
 ·rw[ht t h]
  split
  ·rename_i e;rw[e2,e];rfl
  ·exact (e3 t (.inl (Nat.lt_of_lt_of_le h hnt))).symm
def frzL (L:SL)(k:Nat):SL:=updL L k (lend (fnL L k).2)
section
variable {P:Program} {nt:Nat} {L:SL} {Q:Ex→SL→Prop}
theorem WL.freeze {cc:Cd}(k:Nat)(h:WL P nt cc (frzL L k) Q):WL P nt cc L Q:=by
 intro C code hP hn hc a w hd hr
 refine h C code hP hn hc a w hd ?_
 have:=hr.freeze k
 rwa [fnL_upd] at this
theorem WL.own {cc:Cd}{L':SL}(n:Nat)(hlt:n < nt)(hr:asgS L n (.t n)=some L')(h:WL P nt cc L' Q):WL P nt cc L Q:=by
 intro C code hP hn hc a w hd hR
 exact h C code hP hn hc a w hd (hR.own n (by omega) (asgS_ok hr))
theorem WL.nil1 {cc:Cd}(k:Nat)(o:Bool)(sz:Nat)(hv:(fnL L k).2=.sc (.slice none 0 0))(h:WL P nt cc (updL L k (.sl o () sz 0 [])) Q):WL P nt cc L Q:=by
 intro C code hP hn hc a w hd hr
 refine h C code hP hn hc a w hd ?_
 have:=hr.nil1 k o sz hv
 rwa [fnL_upd] at this
def FnC (P:Program)(f:FuncId)(gs:List (Gh Unit))(as:List AU)(gs':List (Gh Unit))(r:AU):Prop :=
 Fn P f gs as gs' r∧∀ args w,(callFunc f args).run P w=.ok (.enter f args) w
theorem argsC_od:∀ {xs:List Operand} {ts:List TypeId} {cs:List COd},argsC P nt xs ts=some cs→∃ ss,argsOd nt ss xs=some cs
 | [],ts,cs,h=>by simp only[argsC,Option.some.injEq] at h;subst h;exact⟨[],rfl⟩
 | x :: xs,[],cs,h=>by simp[argsC] at h
 | x :: xs,t :: ts,cs,h=>by
  simp only[argsC,Option.bind_eq_some_iff,Option.map_eq_some_iff] at h
  obtain⟨c,h1,cs',h2,rfl⟩:=h
  obtain⟨ss,h3⟩:=argsC_od h2
  exact⟨elemSz P t :: ss,by simp only[argsOd,h1,h3]⟩
theorem itOf_call {o:Oper}{g:Option (Nat × Bool)}{d f:Nat}{cs:List COd}{ops:Array Oper}{here:List Nat}(h:itOf P nt ops here o=some (.call g d f cs)) :
  compGd nt ops o.guard=some g∧o.dst=some d∧d < nt∧opsIn nt o=true∧∃ xs ts ss,o.op=.call ⟨.value (.func f),xs,ts⟩∧xs.size≤9000∧argsOd nt ss xs.toList=some cs:=by
 have h:=itOf_of h rfl
 simp only[itOf0,Option.bind_eq_some_iff] at h
 obtain⟨g',hg,h⟩:=h
 split at h
 ·rename_i f' xs ts hop
  simp only[Option.bind_eq_some_iff] at h
  obtain⟨d',hd,h⟩:=h
  split at h
  ·rename_i hc
   simp only[Option.map_eq_some_iff,It.call.injEq] at h
   obtain⟨cs',h1,rfl,rfl,rfl,rfl⟩:=h
   obtain⟨ss,h2⟩:=argsC_od h1
   obtain⟨e1,e2⟩:=dstIn_some hd
   exact⟨hg,e1,e2,hc.1,xs,ts,ss,hop,hc.2,h2⟩
  ·cases h
 ·simp only[Option.bind_eq_some_iff] at h
  obtain⟨d,_,h⟩:=h
  split at h
  ·simp at h
  ·cases h
 ·split at h
  ·simp only[Option.bind_eq_some_iff] at h
   obtain⟨d,_,c',_,h⟩:=h
   split at h<;>simp at h
  ·simp only[Option.bind_eq_some_iff] at h
   obtain⟨c',_,h⟩:=h
   split at h
   ·simp at h
   ·split at h<;>simp at h
 ·simp only[Option.bind_eq_some_iff] at h
  obtain⟨c',hc',h⟩:=h
  split at h
  ·split at h<;>simp at h
  ·split at h<;>simp at h
def sideOk (own:Bool)(gs gs':List (Gh Unit))(r:AU):Bool:=ghsOk gs gs' && (!own || (gs'.all ghImm && noImm r)) && (roots r).isEmpty
def backL (L:SL):List ((Nat × List Nat) × Gh Unit)→SL
 | []=>L
 | e :: l=>setL (backL L l) e.1.1 (setN (fnL L e.1.1).2 e.1.2 (nodeAfter e.2))
theorem fnL_back (L:SL):∀ l,backU (fnL L) l=fnL (backL L l)
 | []=>rfl
 | e :: l=>by simp only[backU,backL,fnL_back L l,fnL_set]
theorem opok_call {C:Ctx}{o:Oper}{X:XF Unit}{d f:Nat}{cs:List COd}{ls:List (Nat × List Nat)}{gs gs':List (Gh Unit)}{as:List AU}{r:AU}(own:Bool)(hP:C.P=P)(hn:C.nt=nt)(h1:o.dst=some d)(h2:d < nt)(h3:opsIn nt o=true)
  (h4:∃ xs ts ss,o.op=.call ⟨.value (.func f),xs,ts⟩∧xs.size≤9000∧argsOd nt ss xs.toList=some cs)
  (hfn:FnC P f gs as gs' r) (hgs:ls.mapM (ghAt X)=some gs) (hnd:(ls.map (·.1)).Nodup) (has:trArgs X ls own cs=some as) (hs:sideOk own gs gs' r=true):OpOk C o X ((backU X (ls.zip gs')).set (100 * d) r):=by
 obtain⟨xs,ts,ss,e1,e2,e3⟩:=h4
 simp only[sideOk,Bool.and_eq_true,Bool.or_eq_true,Bool.not_eq_true',List.isEmpty_iff] at hs
 obtain⟨⟨s1,s2⟩,s3⟩:=hs
 subst hP hn
 have s2':own=true→gs'.all ghImm=true∧noImm r=true:=by
  intro h
  rcases s2 with s2 | s2
  ·rw[s2] at h;cases h
  ·exact s2
 exact ok_call h1 h2 h3 e1 e3 hgs hnd has e2 hfn.2 hfn.1 s1 s2' s3
theorem compGd_none {ops:Array Oper}{og:Option (Nat × Bool)}(h:compGd nt ops og=some none):og=none:=by
 cases og with
 | none=>rfl
 | some jw =>
  obtain⟨j,w⟩:=jw
  simp only[compGd,Option.bind_eq_some_iff] at h
  obtain⟨t,_,h⟩:=h
  split at h<;>simp at h
theorem sok_call {C:Ctx}{ops:Array Oper}{here:List Nat}{i:Nat}{o:Oper}{X:XF Unit}{d f:Nat}{cs:List COd}{ls:List (Nat × List Nat)}{gs gs':List (Gh Unit)}{as:List AU}{r:AU}(own:Bool)(hP:C.P=P)(hn:C.nt=nt)(hi:ops[i]?=some o)(h:itOf P nt ops here o=some (.call none d f cs))
  (hfn:FnC P f gs as gs' r) (hgs:ls.mapM (ghAt X)=some gs) (hnd:(ls.map (·.1)).Nodup) (has:trArgs X ls own cs=some as) (hs:sideOk own gs gs' r=true):SOk C ops i X ((backU X (ls.zip gs')).set (100 * d) r):=by
 obtain⟨h0,h1,h2,h3,h4⟩:=itOf_call h
 exact SOk.op hi (compGd_none h0) (opok_call own hP hn h1 h2 h3 h4 hfn hgs hnd has hs)
theorem sok_callG {C:Ctx}{ops:Array Oper}{here:List Nat}{i t:Nat}{w:Bool}{o:Oper}{X:XF Unit}{d f:Nat}{cs:List COd}{ls:List (Nat × List Nat)}{gs gs':List (Gh Unit)}{as:List AU}{r:AU}(own:Bool)(hP:C.P=P)(hn:C.nt=nt)(hi:ops[i]?=some o)(h:itOf P nt ops here o=some (.call (some (t,w)) d f cs))(hb:(X (100 * t)).2=.sc (.bool w))
  (hfn:FnC P f gs as gs' r) (hgs:ls.mapM (ghAt X)=some gs) (hnd:(ls.map (·.1)).Nodup) (has:trArgs X ls own cs=some as) (hs:sideOk own gs gs' r=true):SOk C ops i X ((backU X (ls.zip gs')).set (100 * d) r):=by
 obtain⟨h0,h1,h2,h3,h4⟩:=itOf_call h
 obtain⟨j,hg,ht,hlt⟩:=compGd_some h0
 exact SOk.yes hi hg ht (by rw[hn];exact hlt) hb (opok_call own hP hn h1 h2 h3 h4 hfn hgs hnd has hs)
theorem RL.call {K:SL→Prop}{rest:List Sg}{d f:Nat}{cs:List COd}{gs gs':List (Gh Unit)}{as:List AU}{r:AU}(own:Bool)(ls:List (Nat × List Nat))(hfn:FnC P f gs as gs' r)(hgs:ls.mapM (ghAt (fnL L))=some gs)(hnd:(ls.map (·.1)).Nodup)
  (has:trArgs (fnL L) ls own cs=some as) (hs:sideOk own gs gs' r=true) (h:RL P nt rest (setL (backL L (ls.zip gs')) (100 * d) r) K):RL P nt (.call none d f cs :: rest) L K :=
 RL.cons (it:=.call none d f cs) (rest:=rest) rfl (fun C ops i o hP hn hi hit=>by
  have:=sok_call own hP hn hi hit hfn hgs hnd has hs
  rwa [fnL_back,fnL_set] at this) h
theorem RL.callY {K:SL→Prop}{rest:List Sg}{d f t:Nat}{w:Bool}{cs:List COd}{gs gs':List (Gh Unit)}{as:List AU}{r:AU}(own:Bool)(ls:List (Nat × List Nat))(hb:gv w (fnL L (100 * t)).2=some true)(hfn:FnC P f gs as gs' r)(hgs:ls.mapM (ghAt (fnL L))=some gs)(hnd:(ls.map (·.1)).Nodup)
  (has:trArgs (fnL L) ls own cs=some as) (hs:sideOk own gs gs' r=true) (h:RL P nt rest (setL (backL L (ls.zip gs')) (100 * d) r) K):RL P nt (.call (some (t,w)) d f cs :: rest) L K :=
 RL.cons (it:=.call (some (t,w)) d f cs) (rest:=rest) rfl (fun C ops i o hP hn hi hit=>by
  have:=sok_callG own hP hn hi hit (gv_true hb) hfn hgs hnd has hs
  rwa [fnL_back,fnL_set] at this) h
theorem itOf_clo {o:Oper}{g:Option (Nat × Bool)}{d t:Nat}{cs:List COd}{ops:Array Oper}{here:List Nat}(h:itOf P nt ops here o=some (.clo g d t cs)) :
  compGd nt ops o.guard=some g∧o.dst=some d∧d < nt∧opsIn nt o=true∧t < nt∧∃ xs ts ss,o.op=.call ⟨.value (.tmp t),xs,ts⟩∧xs.size≤4500∧argsOd nt ss xs.toList=some cs:=by
 have h:=itOf_of h rfl
 simp only[itOf0,Option.bind_eq_some_iff] at h
 obtain⟨g',hg,h⟩:=h
 split at h
 ·simp only[Option.bind_eq_some_iff] at h
  obtain⟨d,_,h⟩:=h
  split at h
  ·simp at h
  ·cases h
 ·rename_i t' xs ts hop
  simp only[Option.bind_eq_some_iff] at h
  obtain⟨d',hd,h⟩:=h
  split at h
  ·rename_i hc
   simp only[Option.map_eq_some_iff,It.clo.injEq] at h
   obtain⟨cs',h1,rfl,rfl,rfl,rfl⟩:=h
   obtain⟨ss,h2⟩:=argsC_od h1
   obtain⟨e1,e2⟩:=dstIn_some hd
   exact⟨hg,e1,e2,hc.1,hc.2.2,xs,ts,ss,hop,hc.2.1,h2⟩
  ·cases h
 ·split at h
  ·simp only[Option.bind_eq_some_iff] at h
   obtain⟨d,_,c',_,h⟩:=h
   split at h<;>simp at h
  ·simp only[Option.bind_eq_some_iff] at h
   obtain⟨c',_,h⟩:=h
   split at h
   ·simp at h
   ·split at h<;>simp at h
 ·simp only[Option.bind_eq_some_iff] at h
  obtain⟨c',hc',h⟩:=h
  split at h
  ·split at h<;>simp at h
  ·split at h<;>simp at h
def opL:Option (List AU)→Option (List AU)→Option (List AU)
 | some a,some b=>some (a ++ b)
 | _,_=>none
theorem opL_some {a b:Option (List AU)}{c:List AU}(h:opL a b=some c):∃ x y,a=some x∧b=some y∧c=x ++ y:=by
 cases a<;>cases b<;>simp [opL] at h
 exact⟨_,_,rfl,rfl,h.symm⟩
theorem opok_clo {C:Ctx}{o:Oper}{X:XF Unit}{d t f:Nat}{cs:List COd}{cps:List AU}{ls:List (Nat × List Nat)}{gs gs':List (Gh Unit)}{as:List AU}{r:AU}(own:Bool)(hP:C.P=P)(hn:C.nt=nt)(h1:o.dst=some d)(h2:d < nt)(h3:opsIn nt o=true)(htl:t < nt)
  (h4:∃ xs ts ss,o.op=.call ⟨.value (.tmp t),xs,ts⟩∧xs.size≤4500∧argsOd nt ss xs.toList=some cs) (hcl:(X (100 * t)).2=.clos f cps)
  (hfn:FnC P f gs as gs' r) (hgs:ls.mapM (ghAt X)=some gs) (hnd:(ls.map (·.1)).Nodup) (has:opL (trArgs X ls own cs) (trL X ls own (100 * t) cps)=some as) (hlen:as.length≤9000) (hs:sideOk own gs gs' r=true):OpOk C o X ((backU X (ls.zip gs')).set (100 * d) r):=by
 obtain⟨xs,ts,ss,e1,e2,e3⟩:=h4
 obtain⟨a1,a2,k1,k2,k3⟩:=opL_some has
 simp only[sideOk,Bool.and_eq_true,Bool.or_eq_true,Bool.not_eq_true',List.isEmpty_iff] at hs
 obtain⟨⟨s1,s2⟩,s3⟩:=hs
 subst hP hn
 have s2':own=true→gs'.all ghImm=true∧noImm r=true:=by
  intro h
  rcases s2 with s2 | s2
  ·rw[s2] at h;cases h
  ·exact s2
 exact ok_clo h1 h2 h3 e1 htl e3 hcl hgs hnd k1 k2 k3 hlen hfn.2 hfn.1 s1 s2' s3
theorem RL.clo {K:SL→Prop}{rest:List Sg}{d t f:Nat}{cs:List COd}{cps:List AU}{gs gs':List (Gh Unit)}{as:List AU}{r:AU}(own:Bool)(ls:List (Nat × List Nat))(hcl:(fnL L (100 * t)).2=.clos f cps)(hfn:FnC P f gs as gs' r)(hgs:ls.mapM (ghAt (fnL L))=some gs)(hnd:(ls.map (·.1)).Nodup)
  (has:opL (trArgs (fnL L) ls own cs) (trL (fnL L) ls own (100 * t) cps)=some as) (hlen:as.length≤9000) (hs:sideOk own gs gs' r=true) (h:RL P nt rest (setL (backL L (ls.zip gs')) (100 * d) r) K):RL P nt (.clo none d t cs :: rest) L K :=
 RL.cons (it:=.clo none d t cs) (rest:=rest) rfl (fun C ops i o hP hn hi hit=>by
  obtain⟨g0,g1,g2,g3,g4,g5⟩:=itOf_clo hit
  have:=SOk.op hi (compGd_none g0) (opok_clo own hP hn g1 g2 g3 g4 g5 hcl hfn hgs hnd has hlen hs)
  rwa [fnL_back,fnL_set] at this) h
theorem itOf_nilq {o:Oper}{d:Nat}{eq:Bool}{c:COd}{ops:Array Oper}{here:List Nat}(h:itOf P nt ops here o=some (.nilq d eq c)) :
  o.guard=none∧∃ op t x t' e n' c',o.op=.binOp op t x (.const (.slice none n' c')) t'∧(op=.eql∨op=.neq)∧eq=decide (op=.eql)∧P.underlying t=some (.slice e)∧o.dst=some d∧d < nt∧opsIn nt o=true∧compOd nt 0 x=some c:=by
 have h:=itOf_of h rfl
 simp only[itOf0,Option.bind_eq_some_iff] at h
 obtain⟨g',hg,h⟩:=h
 split at h
 ·simp only[Option.bind_eq_some_iff] at h
  obtain⟨d,_,h⟩:=h
  split at h
  ·simp at h
  ·cases h
 ·simp only[Option.bind_eq_some_iff] at h
  obtain⟨d,_,h⟩:=h
  split at h
  ·simp at h
  ·cases h
 ·rename_i op t x y t' hop
  split at h
  ·rename_i eq' hnil
   simp only[Option.bind_eq_some_iff] at h
   obtain⟨d',hd,c',hc,h⟩:=h
   split at h
   ·rename_i hin
    simp only[Option.some.injEq,It.nilq.injEq] at h
    obtain⟨rfl,rfl,rfl⟩:=h
    obtain⟨e1,e2⟩:=dstIn_some hd
    obtain⟨e,n',c'',he,rfl,hop'⟩:=nilOp_some hnil
    rcases hop' with ⟨rfl,rfl⟩ | ⟨rfl,rfl⟩
    ·exact⟨compGd_none hg,_,_,_,_,e,n',c'',hop,.inl rfl,rfl,he,e1,e2,hin,hc⟩
    ·exact⟨compGd_none hg,_,_,_,_,e,n',c'',hop,.inr rfl,rfl,he,e1,e2,hin,hc⟩
   ·cases h
  ·simp only[Option.bind_eq_some_iff] at h
   obtain⟨c',_,h⟩:=h
   split at h
   ·simp at h
   ·split at h<;>simp at h
 ·simp only[Option.bind_eq_some_iff] at h
  obtain⟨c',hc',h⟩:=h
  split at h
  ·split at h<;>simp at h
  ·split at h<;>simp at h
theorem RL.nilq {K:SL→Prop}{rest:List Sg}{d n:Nat}{eq:Bool}{c:COd}(hl:lenV (fnL L) (rd (fnL L) c)=some n)(h:∀ b:Bool,(n ≠ 0→b=!eq)→RL P nt rest (setL L (100 * d) (.sc (.bool b))) K):RL P nt (.nilq d eq c :: rest) L K:=by
 intro C ops idx hP hn hc a w Q hd hr hK
 simp only[flatS] at hc
 obtain⟨i,l,o,rfl,ho,hit,hrest⟩:=its_cons hc
 obtain⟨hg,op,t,x,t',e,n',c',hop,hop2,heq,he,e1,e2,hin,hcx⟩:=itOf_nilq hit
 subst hP hn
 rw[wpOps_cons]
 unfold Go.wpOp
 simp only[ho,Region.wanted,hg,if_true]
 refine .inl (ok_nil hop e1 e2 hin hop2 he hcx hl a w _ Q hd hr fun b hb a' w' hd' hr'=>?_)
 rw[fnL_set] at hr'
 refine h _ (fun hn0=>?_) C ops l rfl rfl hrest a' w' Q hd' hr' hK
 have:=hb hn0
 subst this
 rcases hop2 with rfl | rfl
 ·rw[heq];rfl
 ·rw[heq];rfl
theorem RL.call0 {K:SL→Prop}{rest:List Sg}{d f:Nat}{cs:List COd}{as:List AU}{r:AU}(own:Bool)(hfn:FnC P f [] as [] r)(has:trArgs (fnL L) [] own cs=some as)(hs:sideOk own [] [] r=true)(h:RL P nt rest (setL L (100 * d) r) K):RL P nt (.call none d f cs :: rest) L K :=
 RL.call own [] hfn rfl (by simp) has hs h
theorem RL.callY0 {K:SL→Prop}{rest:List Sg}{d f t:Nat}{w:Bool}{cs:List COd}{as:List AU}{r:AU}(own:Bool)(hb:gv w (fnL L (100 * t)).2=some true)(hfn:FnC P f [] as [] r)(has:trArgs (fnL L) [] own cs=some as)(hs:sideOk own [] [] r=true)(h:RL P nt rest (setL L (100 * d) r) K):RL P nt (.call (some (t,w)) d f cs :: rest) L K :=
 RL.callY own [] hb hfn rfl (by simp) has hs h
theorem RL.freeze {K:SL→Prop}{segs:List Sg}(k:Nat)(h:RL P nt segs (frzL L k) K):RL P nt segs L K:=by
 intro C ops idx hP hn hc a w Q hd hr hK
 refine h C ops idx hP hn hc a w Q hd ?_ hK
 have:=hr.freeze k
 rwa [fnL_upd] at this
theorem RL.own {K:SL→Prop}{segs:List Sg}{L':SL}(n:Nat)(hlt:n < nt)(hr:asgS L n (.t n)=some L')(h:RL P nt segs L' K):RL P nt segs L K:=by
 intro C ops idx hP hn hc a w Q hd hR hK
 exact h C ops idx hP hn hc a w Q hd (hR.own n (by omega) (asgS_ok hr)) hK
theorem RL.nil1 {K:SL→Prop}{segs:List Sg}(k:Nat)(o:Bool)(sz:Nat)(hv:(fnL L k).2=.sc (.slice none 0 0))(h:RL P nt segs (updL L k (.sl o () sz 0 [])) K):RL P nt segs L K:=by
 intro C ops idx hP hn hc a w Q hd hr hK
 refine h C ops idx hP hn hc a w Q hd ?_ hK
 have:=hr.nil1 k o sz hv
 rwa [fnL_upd] at this
theorem RL.fin {K:SL→Prop}{segs:List Sg}{L':SL}(dead:List Nat)(hf:finL dead L=some L')(h:RL P nt segs L' K):RL P nt segs L K:=by
 intro C ops idx hP hn hc a w Q hd hr hK
 exact h C ops idx hP hn hc a w Q hd (hr.fin hf) hK
end
def resS1 (L:SL):CRV→Option SL
 | .t n=>takeCS L (.t n)
 | .cell a n ag=>(ldCells (fnL L) (rd (fnL L) (.t a)) n).bind fun cs =>
   if flat (if ag=true then AV.agg cs else cs.getD 0 .non)=true∧noOwn (if ag=true then AV.agg cs else cs.getD 0 .non)=true then takeVS L (if ag=true then AV.agg cs else cs.getD 0 .non) else none
def resAS (L:SL):Nat→List CRV→Option SL
 | _,[]=>some L
 | i,r :: rs=>(resS1 L r).bind fun X1=>resAS (setL (setL X1 (100 * (RS+1+i)) (fnL X1 (100 * H)).2) (100 * H) .non) (i+1) rs
def resXS (L:SL)(rs:List CRV):Option SL :=
 (resAS L 0 rs).map fun X=>if rs.length=1 then setL (setL X (100 * RS) (fnL X (100 * (RS+1))).2) (100 * (RS+1)) .non
  else clrL (setL X (100 * RS) (.tuple (gathL X (RS+1) rs.length))) (RS+1) rs.length
theorem resS1_ok {L L':SL}{r:CRV}(h:resS1 L r=some L'):resV1 (fnL L) r=some (fnL L'):=by
 cases r with
 | t n=>exact takeCS_ok h
 | cell a n ag =>
  simp only[resS1,Option.bind_eq_some_iff] at h
  obtain⟨cs,h1,h2⟩:=h
  simp only[resV1,h1,Option.bind_some]
  by_cases hc:flat (if ag=true then AV.agg cs else cs.getD 0 .non)=true∧noOwn (if ag=true then AV.agg cs else cs.getD 0 .non)=true
  ·rw[if_pos hc] at h2
   have e:=takeVS_ok h2
   rw[if_pos hc,e]
  ·rw[if_neg hc] at h2;cases h2
theorem resAS_ok:∀ {rs:List CRV} {L L':SL} {i:Nat},resAS L i rs=some L'→resAll (fnL L) i rs=some (fnL L')
 | [],L,L',i,h=>by simp only[resAS,Option.some.injEq] at h;subst h;rfl
 | r :: rs,L,L',i,h=>by
  simp only[resAS,Option.bind_eq_some_iff] at h
  obtain⟨L1,h1,h2⟩:=h
  simp only[resAll,resS1_ok h1,Option.bind_some,fnL_set]
  exact resAS_ok h2
theorem resXS_ok {L L':SL}{rs:List CRV}(h:resXS L rs=some L'):resX (fnL L) rs=some (fnL L'):=by
 simp only[resXS,Option.map_eq_some_iff] at h
 obtain⟨X,h1,rfl⟩:=h
 simp only[resX,resAS_ok h1,Option.map_some,gatherT]
 split
 ·simp only[fnL_set]
 ·simp only[gathL_eq,fnL_set,fnL_clr]
def finG (L:SL):Nat→List (Gh Unit)→Prop
 | _,[]=>True
 | j,.box cs :: gs=>(∀ (i:Nat) (c:AU),cs[i]?=some c→i < 98→(fnL L (100 * (10000+j)+1+i)).2=c)∧finG L (j+1) gs
 | j,.nod v :: gs=>(fnL L (100 * (10000+j))).2=v∧finG L (j+1) gs
theorem finG_at {L:SL}:∀ {gs:List (Gh Unit)} {j0 j:Nat} {g:Gh Unit},finG L j0 gs→gs[j]?=some g→match g with
  | .box cs=>∀ (i:Nat) (c:AU),cs[i]?=some c→i < 98→(fnL L (100 * (10000+(j0+j))+1+i)).2=c
  | .nod v=>(fnL L (100 * (10000+(j0+j)))).2=v
 | [],_,j,g,_,hj=>by simp at hj
 | g0 :: gs,j0,0,g,h,hj=>by
  simp only[List.getElem?_cons_zero,Option.some.injEq] at hj
  subst hj
  cases g0 with
  | box cs=>simp only[finG] at h;exact h.1
  | nod v=>simp only[finG] at h;exact h.1
 | g0 :: gs,j0,j+1,g,h,hj=>by
  simp only[List.getElem?_cons_succ] at hj
  have h':finG L (j0+1) gs:=by
   cases g0 with
   | box cs=>simp only[finG] at h;exact h.2
   | nod v=>simp only[finG] at h;exact h.2
  have:=finG_at h' hj
  rwa [show j0+(j+1)=j0+1+j by omega]
def RetOk (rs:List CRV)(gs':List (Gh Unit))(r:AU)(L:SL):Prop:=∃ L',resXS L rs=some L'∧(fnL L' (100 * RS)).2=r∧finG L' 0 gs'
theorem RetOk.fin {rs:List CRV}{gs':List (Gh Unit)}{r:AU}{L:SL}(h:RetOk rs gs' r L):∃ X',resX (fnL L) rs=some X'∧Fin X' gs' r:=by
 obtain⟨L',h1,h2,h3⟩:=h
 refine⟨_,resXS_ok h1,h2,fun j g hg=>?_⟩
 have:=finG_at h3 hg
 simp only[Nat.zero_add] at this
 exact this
def cellsGL (b:Nat):Nat→List AU→SL
 | _,[]=>[]
 | i,c :: cs=>(100 * b+1+i,0,c) :: cellsGL b (i+1) cs
def ghL:Nat→List (Gh Unit)→SL
 | _,[]=>[]
 | j,.box cs :: gs=>cellsGL (10000+j) 0 (cs.take 98) ++ ghL (j+1) gs
 | j,.nod v :: gs=>(100 * (10000+j),0,v) :: ghL (j+1) gs
theorem fnL_cellsGL (b j:Nat):∀ (cs:List AU) (i:Nat),fnL (cellsGL b i cs) j=if 100 * b+1+i≤j∧j < 100 * b+1+i+cs.length then (0,cs.getD (j - (100 * b+1+i)) .non) else (0,.non)
 | [],i=>by simp[cellsGL,fnL]
 | c :: cs,i=>by
  simp only[cellsGL,fnL,fnL_cellsGL b j cs (i+1)]
  by_cases h:j=100 * b+1+i
  ·subst h;simp
  ·by_cases h2:100 * b+1+(i+1)≤j∧j < 100 * b+1+(i+1)+cs.length
   ·rw[if_neg h,if_pos h2,if_pos (by simp;omega)]
    rw[show j - (100 * b+1+i)=(j - (100 * b+1+(i+1)))+1 by omega]
    simp
   ·rw[if_neg h,if_neg h2,if_neg (by simp;omega)]
theorem fnL_append (l l':SL)(j:Nat):fnL (l ++ l') j=if l.any (fun p=>p.1 == j) then fnL l j else fnL l' j:=fnL_app l l' j
theorem any_cellsGL (b j:Nat):∀ (cs:List AU) (i:Nat),(cellsGL b i cs).any (fun p=>p.1 == j)=(decide (100 * b+1+i≤j) && decide (j < 100 * b+1+i+cs.length))
 | [],i=>by
  simp only[cellsGL,List.any_nil,List.length_nil,Nat.add_zero]
  by_cases h:100 * b+1+i≤j
  ·simp[h,show ¬ j < 100 * b+1+i by omega]
  ·simp[h]
 | c :: cs,i=>by
  simp only[cellsGL,List.any_cons,any_cellsGL b j cs (i+1),List.length_cons]
  rw[Bool.eq_iff_iff]
  simp only[Bool.or_eq_true,beq_iff_eq,Bool.and_eq_true,decide_eq_true_eq]
  omega
theorem fnL_ghL (k:Nat):∀ (gs:List (Gh Unit)) (j0:Nat),fnL (ghL j0 gs) k=if 10000+j0≤k / 100 then (match gs[k / 100 - (10000+j0)]? with
  | some (.box cs)=>(0,if k % 100=0∨k % 100=99 then .non else cs.getD (k % 100 - 1) .non)
  | some (.nod v)=>(0,if k % 100=0 then v else .non)
  | none=>(0,.non)) else (0,.non)
 | [],j0=>by
  simp only[ghL,fnL,List.getElem?_nil]
  split<;>rfl
 | .box cs :: gs,j0=>by
  simp only[ghL,fnL_append,any_cellsGL,fnL_cellsGL,Nat.add_zero,fnL_ghL k gs (j0+1),List.length_take]
  by_cases h0:k / 100=10000+j0
  ·rw[if_pos (show 10000+j0≤k / 100 by omega),show k / 100 - (10000+j0)=0 by omega]
   simp only[List.getElem?_cons_zero]
   by_cases hm:k % 100=0∨k % 100=99
   ·rw[if_neg (by simp;omega),if_neg (by omega),if_pos hm]
   ·rw[if_neg hm]
    by_cases hc:k % 100 - 1 < cs.length
    ·rw[if_pos (by simp;omega),if_pos (by omega),show k - (100 * (10000+j0)+1)=k % 100 - 1 by omega]
     rw[List.getD_eq_getElem?_getD,List.getElem?_take,if_pos (by omega),← List.getD_eq_getElem?_getD]
    ·rw[if_neg (by simp;omega),if_neg (by omega),List.getD_eq_getElem?_getD,List.getElem?_eq_none (by omega)];rfl
  ·rw[if_neg (by simp;omega)]
   by_cases h1:10000+j0≤k / 100
   ·rw[if_pos (by omega),if_pos h1,show k / 100 - (10000+j0)=(k / 100 - (10000+(j0+1)))+1 by omega]
    simp
   ·rw[if_neg (by omega),if_neg h1]
 | .nod v :: gs,j0=>by
  simp only[ghL,fnL,fnL_ghL k gs (j0+1)]
  by_cases h0:k=100 * (10000+j0)
  ·rw[if_pos h0,if_pos (by omega),show k / 100 - (10000+j0)=0 by omega]
   simp only[List.getElem?_cons_zero]
   rw[if_pos (by omega)]
  ·rw[if_neg h0]
   by_cases h1:10000+j0≤k / 100
   ·rw[if_pos h1]
    by_cases h2:k / 100=10000+j0
    ·rw[show k / 100 - (10000+j0)=0 by omega,if_neg (by omega)]
     simp only[List.getElem?_cons_zero]
     rw[if_neg (by omega)]
    ·rw[if_pos (by omega),show k / 100 - (10000+j0)=(k / 100 - (10000+(j0+1)))+1 by omega]
     simp
   ·rw[if_neg (by omega),if_neg h1]
def initL (gs:List (Gh Unit))(as:List AU):SL:=argsL 0 as ++ ghL 0 gs
theorem any_argsL (j:Nat):∀ (as:List AU) (n:Nat),(argsL n as).any (fun p=>p.1 == j)=(decide (j % 100=0) && decide (n≤j / 100) && decide (j / 100 < n+as.length))
 | [],n=>by
  simp only[argsL,List.any_nil,List.length_nil,Nat.add_zero]
  by_cases h:n≤j / 100
  ·simp[h,show ¬ j / 100 < n by omega]
  ·simp[h]
 | a :: as,n=>by
  simp only[argsL,List.any_cons,any_argsL j as (n+1),List.length_cons]
  rw[Bool.eq_iff_iff]
  simp only[Bool.or_eq_true,beq_iff_eq,Bool.and_eq_true,decide_eq_true_eq]
  omega
theorem fnL_initL (gs:List (Gh Unit))(as:List AU)(hlen:as.length≤9000):fnL (initL gs as)=initX gs as:=by
 funext k
 simp only[initL,fnL_append,any_argsL,fnL_argsL,fnL_ghL,Nat.add_zero,Nat.zero_add,Nat.sub_zero,Nat.zero_le,decide_true,Bool.and_true,and_true,initX,initV]
 by_cases h:k / 100 < 10000
 ·rw[if_pos h]
  by_cases h0:k % 100=0
  ·by_cases hl:k / 100 < as.length
   ·rw[if_pos (by simp;omega),if_pos h0]
   ·rw[if_neg (by simp;omega),if_neg (by omega),if_pos h0,List.getD_eq_getElem?_getD,List.getElem?_eq_none (by omega)]
    rfl
  ·rw[if_neg (by simp;omega),if_neg (by omega),if_neg h0]
 ·rw[if_neg h,if_neg (by simp;omega),if_pos (by omega)]
  cases hg:gs[k / 100 - 10000]? with
  | none=>rfl
  | some g=>cases g<;>rfl
structure FI where
 nt:Nat
 k:Nat
 rs:List CRV
 cc:Cd
def fiOk (P:Program)(f:FuncId)(fi:FI):Prop :=
 ∃ fn code,P.funcs[f]?=some fn∧fn.body=some code∧comp P fi.nt code=some fi.cc.er∧(fn.ntmps == fi.nt && decide (fi.nt≤9000) && decide (fi.k≤fi.nt) && decide (fi.rs.length≤400) && crvsB P fi.nt fn.results.toList fi.rs)=true ∧
  ∀ args w,(callFunc f args).run P w=.ok (.enter f args) w
theorem FnC.go {P:Program}{f:FuncId}{fi:FI}{gs gs':List (Gh Unit)}{as:List AU}{r:AU}(h:fiOk P f fi)(ha:as.length=fi.k)(hw:WL P fi.nt fi.cc (initL gs as) fun e L=>(e=.nrm∨e=.ret)∧RetOk fi.rs gs' r L):FnC P f gs as gs' r:=by
 obtain⟨fn,code,h1,h2,h3,h4,h5⟩:=h
 refine⟨?_,h5⟩
 refine Fn.of_body' fi.nt fi.k fi.rs h1 h2 h4 ha fun C hP hn=>?_
 simp only[Bool.and_eq_true,decide_eq_true_eq] at h4
 have hlen:as.length≤9000:=by omega
 have:=hw C code hP hn h3
 rw[fnL_initL gs as hlen] at this
 refine this.cons fun e X hq=>?_
 obtain⟨L',rfl,h6,h7⟩:=hq
 exact⟨h6,h7.fin⟩
end Go.OT
namespace Go.OT
abbrev cI (n:Int):COd:=.c (.sc (.int .i64 n))
abbrev cB (b:Bool):COd:=.c (.sc (.bool b))
abbrev i64 (n:Int):AU:=.sc (.int .i64 n)
abbrev u8 (n:Int):AU:=.sc (.int .u8 n)
abbrev bl (b:Bool):AU:=.sc (.bool b)
end Go.OT
namespace Go.OT
def ru (v:AU):List Nat:=(roots v).map unitK
def uO (X:XF Unit):COd→List Nat
 | .t n=>2 * n :: ru (rd X (.t n))
 | .c v=>ru v
def uOs (X:XF Unit):List COd→List Nat
 | []=>[]
 | c :: cs=>uO X c ++ uOs X cs
def uO? (X:XF Unit):Option COd→List Nat
 | none=>[]
 | some c=>uO X c
def cellU (b m n:Nat):List Nat:=(List.range n).map fun j=>2 * (100 * b+m+j)+1
def bu (v:AU)(n:Nat):List Nat :=
 match v with
 | .bptr b _ i=>cellU b (1+i) n
 | _=>[]
def uR:COd→List Nat
 | .c _=>[]
 | .t n=>[2 * n]
def foot (X:XF Unit):COp→List Nat
 | .mov d c | .un d _ c | .conv d _ c=>2 * d :: uR c
 | .asg d c | .chk d c | .faddr d _ c | .len d c | .slen d c | .b2s d c | .bs1 d _ c=>2 * d :: uO X c
 | .pick d c a b=>2 * d :: (uR c ++ uR a ++ uR b)
 | .bin d _ a b | .beq d _ a b | .mx d _ a b=>2 * d :: (uR a ++ uR b)
 | .iaddr d _ a b | .make d _ _ _ a b | .app d _ _ a b=>2 * d :: (uO X a ++ uO X b)
 | .slice d _ c l h=>2 * d :: (uO X c ++ uO? X l ++ uO? X h)
 | .ld d n _ c=>2 * d :: (uO X c ++ bu (rd X c) n)
 | .st n a v=>uO X a ++ uO X v ++ bu (rd X a) n
 | .ext d n _=>[2 * d,2 * n]
 | .box d c=>2 * d :: (cellU d 1 99 ++ uO X c)
 | .alloc d _=>2 * d :: cellU d 1 99
 | .build d _ ps=>2 * d :: uOs X (ps.map fun p=>p.2.2)
 | .bs0 d _=>[2 * d]
 | .mkf d _ cs | .bsn d cs=>2 * d :: uOs X cs
 | .fld d _ c | .nilq d _ c=>2 * d :: uO X c
 | .cpy d _ a b=>2 * d :: (uO X a ++ uO X b)
 | .cvb d m=>[2 * d,2 * m]
 | .s2b d c=>2 * d :: uO X c
 | .ssl d c l h=>2 * d :: (uO X c ++ uO? X l ++ uO? X h)
 | .six d c i=>2 * d :: (uO X c ++ uO X i)
 | .bsa d _ cs=>2 * d :: uOs X cs
 | .funq d _ c=>2 * d :: uO X c
 | .pnq d _ c=>2 * d :: uO X c
 | .aaddr d _ _ c i=>2 * d :: (uO X c ++ uO X i)
def agr (U:List Nat)(X Y:XF Unit):Prop:=∀ k,unitK k ∈ U→X k=Y k
theorem agr.sub {U V:List Nat}{X Y:XF Unit}(h:agr U X Y)(hs:∀ u ∈ V,u ∈ U):agr V X Y:=fun k hk=>h k (hs _ hk)
theorem unit_reg (n:Nat):unitK (100 * n)=2 * n:=by unfold unitK;rw[if_pos (by omega)];omega
theorem unit_cell (b m:Nat)(h1:1≤m)(h2:m≤99):unitK (100 * b+m)=2 * (100 * b+m)+1:=by unfold unitK;rw[if_neg (by omega)]
section
variable {X Y:XF Unit}
theorem agrV {U:List Nat}{v:AU}(h:agr U X Y)(hv:∀ u ∈ ru v,u ∈ U):∀ k ∈ roots v,X k=Y k:=fun k hk=>h k (hv _ (List.mem_map_of_mem hk))
theorem rd_agr {c:COd}(h:agr (uO Y c) X Y):rd X c=rd Y c:=by
 cases c with
 | c v=>rfl
 | t n =>
  have:=h (100 * n) (by rw[unit_reg];simp[uO])
  simp only[rd,this]
theorem rdR_agr {c:COd}(h:agr (uR c) X Y):rd X c=rd Y c:=by
 cases c with
 | c v=>rfl
 | t n =>
  have:=h (100 * n) (by rw[unit_reg];simp[uR])
  simp only[rd,this]
theorem rdr_agr {c:COd}(h:agr (uO Y c) X Y):∀ k ∈ roots (rd Y c),X k=Y k:=by
 cases c with
 | c v=>exact agrV h (by simp[uO,rd])
 | t n=>exact agrV h (fun u hu=>by simp only[uO,List.mem_cons];exact .inr hu)
theorem lenV_agr {v:AU}(h:∀ k ∈ roots v,X k=Y k):lenV X v=lenV Y v:=by
 cases v<;>simp only[lenV]
 rename_i k g p off len
 rw[h k (by simp[roots])]
theorem szAt_agr {k:Nat}{p:List Nat}(h:X k=Y k):szAt X k p=szAt Y k p:=by simp only[szAt,h]
theorem sliceV_agr {v:AU}{s lo hi:Nat}(h:∀ k ∈ roots v,X k=Y k):sliceV X s lo hi v=sliceV Y s lo hi v:=by
 unfold sliceV
 split
 ·rename_i k g p off n
  have:=h k (by simp[roots])
  rw[this,szAt_agr this]
 ·rfl
 ·rfl
theorem faddrV_agr {v:AU}{off:Nat}(h:∀ k ∈ roots v,X k=Y k):faddrV X off v=faddrV Y off v:=by
 unfold faddrV
 split
 ·rename_i b g i;rw[h (100 * b+99) (by simp[roots])]
 ·rename_i k g p i;rw[h k (by simp[roots])]
 ·rfl
 ·rfl
theorem iaddrV_agr {v:AU}{s:Nat}{j:Int}(h:∀ k ∈ roots v,X k=Y k):iaddrV X s v j=iaddrV Y s v j:=by
 cases v with
 | view k g p off n =>
  have:=h k (by simp[roots])
  simp only[iaddrV]
  rw[this,szAt_agr this]
 | sl o u s n cs=>cases o<;>rfl
 | _=>rfl
theorem sureP_agr {v:AU}(h:∀ k ∈ roots v,X k=Y k):sureP X v=sureP Y v:=by
 unfold sureP
 split
 ·rename_i k g p i;rw[h k (by simp[roots])]
 ·rename_i b g i;rw[h (100 * b+99) (by simp[roots])]
 ·rfl
 ·rfl
theorem cellsV_agr {v:AU}{s:Nat}(h:∀ k ∈ roots v,X k=Y k):cellsV X s v=cellsV Y s v:=by
 unfold cellsV
 split
 ·rename_i k g p off n;rw[h k (by simp[roots])]
 all_goals rfl
theorem mem_cellU {b m n j:Nat}(h:j < n):2 * (100 * b+m+j)+1 ∈ cellU b m n:=List.mem_map.2 ⟨j,List.mem_range.2 h,rfl⟩
theorem cell_unit {U:List Nat}{b m n:Nat}(hv:∀ u ∈ cellU b m n,u ∈ U){j:Nat}(h:j < n)(h1:1≤m)(h2:m+j≤99):unitK (100 * b+(m+j)) ∈ U:=by
 rw[unit_cell b (m+j) (by omega) h2,← Nat.add_assoc]
 exact hv _ (mem_cellU h)
theorem gen_unit {U:List Nat}{b g i:Nat}(hv:∀ u ∈ ru (.bptr b g i:AU),u ∈ U):unitK (100 * b+99) ∈ U:=hv _ (by simp[ru,roots])
theorem ldCells_agr {U:List Nat}{v:AU}{n:Nat}(h:agr U X Y)(hv:∀ u ∈ ru v,u ∈ U)(hb:∀ u ∈ bu v n,u ∈ U):ldCells X v n=ldCells Y v n:=by
 unfold ldCells
 split
 ·rename_i b g i
  rw[h _ (gen_unit hv)]
  by_cases hc:i+n≤98
  ·have e:∀ j,j < n→X (100 * b+1+(i+j))=Y (100 * b+1+(i+j)):=fun j hj=>by
    have:=h _ (cell_unit (b:=b) (m:=1+i) (n:=n) hb hj (by omega) (by omega))
    rwa [show 100 * b+(1+i+j)=100 * b+1+(i+j) by omega] at this
   have e1:(List.range n).all (fun j=>!(X (100 * b+1+(i+j))).2.isNon)=(List.range n).all (fun j=>!(Y (100 * b+1+(i+j))).2.isNon):=by
    rw[Bool.eq_iff_iff,List.all_eq_true,List.all_eq_true]
    constructor
    ·intro hh j hj;have:=hh j hj;rwa [e j (List.mem_range.1 hj)] at this
    ·intro hh j hj;have:=hh j hj;rwa [← e j (List.mem_range.1 hj)] at this
   have e2:(List.range n).map (fun j=>rdK (100 * b+1+(i+j)) (X (100 * b+1+(i+j))))=(List.range n).map (fun j=>rdK (100 * b+1+(i+j)) (Y (100 * b+1+(i+j)))):=by
    apply List.map_congr_left
    intro j hj
    rw[e j (List.mem_range.1 hj)]
   rw[e1,e2]
  ·rw[if_neg (fun hh=>hc hh.2.1),if_neg (fun hh=>hc hh.2.1)]
 ·rename_i k g p i
  rw[agrV h hv k (by simp[roots])]
 ·rfl
 ·rfl
theorem uOs_mem {c:COd}:∀ {cs:List COd},c ∈ cs→∀ u ∈ uO Y c,u ∈ uOs Y cs
 | d :: cs,h,u,hu=>by
  simp only[uOs,List.mem_append]
  rcases List.mem_cons.1 h with rfl | h
  ·exact .inl hu
  ·exact .inr (uOs_mem h u hu)
theorem ru_uO {c:COd}:∀ u ∈ ru (rd Y c),u ∈ uO Y c:=by
 cases c with
 | c v=>intro u hu;simpa [uO,rd] using hu
 | t n=>intro u hu;simp only[uO,List.mem_cons];exact .inr hu
theorem liveV_agr {v:AU}(h:∀ k ∈ roots v,X k=Y k):liveV X v=liveV Y v:=by
 cases v<;>simp only[liveV]
 ·rename_i k g p off len;rw[h k (by simp[roots])]
 ·rename_i k g p i;rw[h k (by simp[roots])]
theorem rdC_agr {c:COd}(h:agr (uO Y c) X Y):rdC X c=rdC Y c:=by
 simp only[rdC,rd_agr h,liveV_agr (rdr_agr h)]
theorem caps_agr:∀ {cs:List COd},agr (uOs Y cs) X Y→caps X cs=caps Y cs
 | [],_=>rfl
 | c :: cs,h=>by
  simp only[caps,rd_agr (c:=c) (h.sub (fun u hu=>by simp[uOs,hu])),caps_agr (cs:=cs) (h.sub (fun u hu=>by simp[uOs,hu]))]
theorem pval_agr {c:COp}(h:agr (foot Y c) X Y)(hp:(pval Y c).isSome=true):pval X c=pval Y c:=by
 cases c with
 | mov d c=>simp only[pval,rdR_agr (c:=c) (h.sub (fun u hu=>by simp[foot,hu]))]
 | chk d c =>
  have hc:agr (uO Y c) X Y:=h.sub (fun u hu=>by simp[foot,hu])
  simp only[pval,rd_agr hc,sureP_agr (rdr_agr hc)]
 | pick d c a b=>simp only[pval,rdR_agr (c:=c) (h.sub (fun u hu=>by simp[foot,hu])),rdR_agr (c:=a) (h.sub (fun u hu=>by simp[foot,hu])),rdR_agr (c:=b) (h.sub (fun u hu=>by simp[foot,hu]))]
 | un d op c=>simp only[pval,rdR_agr (c:=c) (h.sub (fun u hu=>by simp[foot,hu]))]
 | bin d op a b=>simp only[pval,rdR_agr (c:=a) (h.sub (fun u hu=>by simp[foot,hu])),rdR_agr (c:=b) (h.sub (fun u hu=>by simp[foot,hu]))]
 | beq d op a b=>simp only[pval,rdR_agr (c:=a) (h.sub (fun u hu=>by simp[foot,hu])),rdR_agr (c:=b) (h.sub (fun u hu=>by simp[foot,hu]))]
 | conv d k c=>simp only[pval,rdR_agr (c:=c) (h.sub (fun u hu=>by simp[foot,hu]))]
 | mx d op a b=>simp only[pval,rdR_agr (c:=a) (h.sub (fun u hu=>by simp[foot,hu])),rdR_agr (c:=b) (h.sub (fun u hu=>by simp[foot,hu]))]
 | ld d n ag c =>
  have hc:agr (uO Y c) X Y:=h.sub (fun u hu=>by simp[foot,hu])
  simp only[pval,rd_agr hc]
  rw[ldCells_agr h (fun u hu=>by simp only[foot,List.mem_cons,List.mem_append];exact .inr (.inl (ru_uO u hu))) (fun u hu=>by simp[foot,hu])]
 | faddr d off c =>
  have hc:agr (uO Y c) X Y:=h.sub (fun u hu=>by simp[foot,hu])
  simp only[pval,rd_agr hc,faddrV_agr (rdr_agr hc)]
 | iaddr d s c i =>
  have hc:agr (uO Y c) X Y:=h.sub (fun u hu=>by simp[foot,hu])
  have hi:agr (uO Y i) X Y:=h.sub (fun u hu=>by simp[foot,hu])
  simp only[pval,rd_agr hc,rd_agr hi,iaddrV_agr (rdr_agr hc)]
 | len d c =>
  have hc:agr (uO Y c) X Y:=h.sub (fun u hu=>by simp[foot,hu])
  simp only[pval,rd_agr hc,lenV_agr (rdr_agr hc)]
 | slen d c=>simp only[pval,rd_agr (c:=c) (h.sub (fun u hu=>by simp[foot,hu]))]
 | slice d s c l hh =>
  have hc:agr (uO Y c) X Y:=h.sub (fun u hu=>by simp[foot,hu])
  have hb:∀ (n:Nat) (o:Option COd),(∀ u ∈ uO? Y o,u ∈ foot Y (.slice d s c l hh))→bnd X n o=bnd Y n o:=by
   intro n o ho
   cases o with
   | none=>rfl
   | some o=>simp only[bnd,rd_agr (c:=o) (h.sub ho)]
  simp only[pval,rd_agr hc,lenV_agr (rdr_agr hc),sliceV_agr (rdr_agr hc)]
  rw[hb 0 l (fun u hu=>by simp[foot,hu])]
  congr 1
  funext n
  rw[hb n hh (fun u hu=>by simp[foot,hu])]
 | build d zs ps =>
  simp only[pval]
  have:ps.map (fun p=>(p.1,p.2.1,rdC X p.2.2))=ps.map (fun p=>(p.1,p.2.1,rdC Y p.2.2)):=by
   apply List.map_congr_left
   intro p hp
   rw[rdC_agr (c:=p.2.2) (h.sub (fun u hu=>by
    simp only[foot,List.mem_cons]
    exact .inr (uOs_mem (List.mem_map_of_mem (f:=fun p:Nat × Nat × COd=>p.2.2) hp) u hu)))]
  rw[this]
 | make d s b zs l c=>simp only[pval,rd_agr (c:=l) (h.sub (fun u hu=>by simp[foot,hu])),rd_agr (c:=c) (h.sub (fun u hu=>by simp[foot,hu]))]
 | b2s d c =>
  have hc:agr (uO Y c) X Y:=h.sub (fun u hu=>by simp[foot,hu])
  simp only[pval,rd_agr hc,cellsV_agr (rdr_agr hc)]
 | bs0 d s=>rfl
 | mkf d f cs=>simp only[pval,caps_agr (cs:=cs) (h.sub (fun u hu=>by simp[foot,hu]))]
 | bsn d cs=>simp only[pval,caps_agr (cs:=cs) (h.sub (fun u hu=>by simp[foot,hu]))]
 | bsa d s cs=>simp only[pval,caps_agr (cs:=cs) (h.sub (fun u hu=>by simp[foot,hu]))]
 | funq d eq c=>simp only[pval,rd_agr (c:=c) (h.sub (fun u hu=>by simp[foot,hu]))]
 | pnq d eq c =>
  have hc:agr (uO Y c) X Y:=h.sub (fun u hu=>by simp[foot,hu])
  simp only[pval,rd_agr hc]
  have:=sureP_agr (rdr_agr hc)
  unfold pnV
  split
  ·rfl
  ·rw[this]
 | aaddr d s n c i =>
  have hc:agr (uO Y c) X Y:=h.sub (fun u hu=>by simp[foot,hu])
  have hi:agr (uO Y i) X Y:=h.sub (fun u hu=>by simp[foot,hu])
  simp only[pval,rd_agr hc,rd_agr hi,aaddrV,faddrV_agr (rdr_agr hc)]
 | fld d off c=>simp only[pval,rd_agr (c:=c) (h.sub (fun u hu=>by simp[foot,hu]))]
 | nilq d eq c =>
  have hc:agr (uO Y c) X Y:=h.sub (fun u hu=>by simp[foot,hu])
  simp only[pval,rd_agr hc,lenV_agr (rdr_agr hc)]
 | cvb d m =>
  have:=h (100 * m) (by rw[unit_reg];simp[foot])
  simp only[pval,this]
 | s2b d c=>simp only[pval,rd_agr (c:=c) (h.sub (fun u hu=>by simp[foot,hu]))]
 | ssl d c l hh =>
  have hb:∀ (n:Nat) (o:Option COd),(∀ u ∈ uO? Y o,u ∈ foot Y (.ssl d c l hh))→bnd X n o=bnd Y n o:=by
   intro n o ho
   cases o with
   | none=>rfl
   | some o=>simp only[bnd,rd_agr (c:=o) (h.sub ho)]
  have h1:∀ n,bnd X n l=bnd Y n l:=fun n=>hb n l (fun u hu=>by simp[foot,hu])
  have h2:∀ n,bnd X n hh=bnd Y n hh:=fun n=>hb n hh (fun u hu=>by simp[foot,hu])
  simp only[pval,rd_agr (c:=c) (h.sub (fun u hu=>by simp[foot,hu])),sslV,h1,h2]
 | six d c i=>simp only[pval,rd_agr (c:=c) (h.sub (fun u hu=>by simp[foot,hu])),rd_agr (c:=i) (h.sub (fun u hu=>by simp[foot,hu]))]
 | _=>simp [pval] at hp
def inU (U:List Nat)(k:Nat):Prop:=unitK k ∈ U∨handB k=true
def agH (U:List Nat)(X Y:XF Unit):Prop:=∀ k,inU U k→X k=Y k
def Resp (U:List Nat)(Y:XF Unit)(f:XF Unit→Option (XF Unit)):Prop :=
 ∀ X,agH U X Y→∀ Y1,f Y=some Y1→∃ X1,f X=some X1∧agH U X1 Y1∧(∀ k,¬ inU U k→X1 k=X k)∧(∀ k,¬ inU U k→Y1 k=Y k)
theorem agH.agr {U:List Nat}(h:agH U X Y):agr U X Y:=fun k hk=>h k (.inl hk)
theorem agH.set {U:List Nat}(h:agH U X Y){k:Nat}(hk:inU U k)(v:AU):agH U (X.set k v) (Y.set k v):=by
 intro j hj
 simp only[XF.set]
 by_cases e:j=k
 ·subst e;simp[h j hk]
 ·simp[e,h j hj]
theorem agH.upd {U:List Nat}(h:agH U X Y){k:Nat}(hk:inU U k)(v:AU):agH U (X.upd k v) (Y.upd k v):=by
 intro j hj
 simp only[XF.upd]
 by_cases e:j=k
 ·subst e;simp[h j hk]
 ·simp[e,h j hj]
theorem set_out {U:List Nat}{k:Nat}(hk:inU U k)(X:XF Unit)(v:AU):∀ j,¬ inU U j→X.set k v j=X j:=fun j hj=>XF.set_ne _ _ (fun e=>hj (e ▸ hk))
theorem upd_out {U:List Nat}{k:Nat}(hk:inU U k)(X:XF Unit)(v:AU):∀ j,¬ inU U j→X.upd k v j=X j:=fun j hj=>XF.upd_ne _ _ (fun e=>hj (e ▸ hk))
theorem Resp.some (U:List Nat)(Y:XF Unit)(f:XF Unit→XF Unit)(h:∀ X,agH U X Y→agH U (f X) (f Y))(h1:∀ X,∀ k,¬ inU U k→f X k=X k):Resp U Y (fun X=>some (f X)):=by
 intro X hX Y1 e
 dsimp only at e ⊢
 simp only[Option.some.injEq] at e
 subst e
 exact⟨f X,rfl,h X hX,h1 X,h1 Y⟩
theorem Resp.bind {U:List Nat}{f:XF Unit→Option (XF Unit)}{g:XF Unit→Option (XF Unit)}(hf:Resp U Y f)(hg:∀ Y1,f Y=.some Y1→Resp U Y1 g):Resp U Y (fun X=>(f X).bind g):=by
 intro X hX Y2 e
 dsimp only at e ⊢
 simp only[Option.bind_eq_some_iff] at e
 obtain⟨Y1,e1,e2⟩:=e
 obtain⟨X1,a1,a2,a3,a4⟩:=hf X hX Y1 e1
 obtain⟨X2,b1,b2,b3,b4⟩:=hg Y1 e1 X1 a2 Y2 e2
 exact⟨X2,by simp only[a1,Option.bind_some,b1],b2,fun k hk=>(b3 k hk).trans (a3 k hk),fun k hk=>(b4 k hk).trans (a4 k hk)⟩
theorem Resp.map {U:List Nat}{f:XF Unit→Option (XF Unit)}{g:XF Unit→XF Unit}(hf:Resp U Y f)(h:∀ X1 Y1,agH U X1 Y1→agH U (g X1) (g Y1))(h1:∀ X,∀ k,¬ inU U k→g X k=X k):Resp U Y (fun X=>(f X).map g):=by
 intro X hX Y2 e
 dsimp only at e ⊢
 simp only[Option.map_eq_some_iff] at e
 obtain⟨Y1,e1,rfl⟩:=e
 obtain⟨X1,a1,a2,a3,a4⟩:=hf X hX Y1 e1
 exact⟨g X1,by simp only[a1,Option.map_some],h _ _ a2,fun k hk=>(h1 _ k hk).trans (a3 k hk),fun k hk=>(h1 _ k hk).trans (a4 k hk)⟩
theorem hand_in (U:List Nat){h:Nat}(h1:9000≤h)(h2:h < 10000):inU U (100 * h):=.inr (by simp only[handB,Bool.and_eq_true,decide_eq_true_eq];omega)
theorem H_in (U:List Nat):inU U (100 * H):=hand_in U (by decide) (by decide)
theorem tk_resp {U:List Nat}{v:AU}{h:Nat}(h1:9000≤h)(h2:h < 10000)(hv:∀ u ∈ ru v,u ∈ U):Resp U Y (fun X=>tk X v h):=by
 intro X hX Y1 e
 dsimp only at e ⊢
 have hh:=hand_in U h1 h2
 have hr:=agrV hX.agr hv
 have plain:∀ w:AU,Y1=Y.set (100 * h) w→∃ X1,some (X.set (100 * h) w)=some X1∧agH U X1 Y1∧(∀ k,¬ inU U k→X1 k=X k)∧(∀ k,¬ inU U k→Y1 k=Y k):=by
  intro w e
  subst e
  exact⟨_,rfl,hX.set hh w,set_out hh X w,set_out hh Y w⟩
 have two:∀ (k:Nat) (a w:AU),inU U k→Y1=(Y.set k a).set (100 * h) w→∃ X1,some ((X.set k a).set (100 * h) w)=some X1∧agH U X1 Y1∧(∀ k,¬ inU U k→X1 k=X k)∧(∀ k,¬ inU U k→Y1 k=Y k):=by
  intro k a w hk e
  subst e
  exact⟨_,rfl,(hX.set hk a).set hh w,fun j hj=>(set_out hh _ w j hj).trans (set_out hk X a j hj),fun j hj=>(set_out hh _ w j hj).trans (set_out hk Y a j hj)⟩
 cases v with
 | view k g p off len =>
  have hk:=hr k (by simp[roots])
  have hin:inU U k:=.inl (hv _ (by simp[ru,roots]))
  simp only[tk,hk] at e ⊢
  split at e
  ·rename_i hc
   rw[if_pos hc]
   split at e
   ·rename_i hg
    split at e
    ·rename_i ho
     simp only[Option.some.injEq] at e
     simp only[hg,ho,if_true]
     exact two _ _ _ hin e.symm
    ·cases e
   ·rename_i hg
    simp only[Option.some.injEq] at e
    exact plain _ e.symm
   ·cases e
  ·cases e
 | ptr k g p i =>
  have hk:=hr k (by simp[roots])
  have hin:inU U k:=.inl (hv _ (by simp[ru,roots]))
  simp only[tk,hk] at e ⊢
  split at e
  ·rename_i hc
   rw[if_pos hc]
   split at e
   ·rename_i hg
    split at e
    ·rename_i ho
     simp only[Option.some.injEq] at e
     simp only[hg,ho,if_true]
     exact two _ _ _ hin e.symm
    ·cases e
   ·cases e
  ·cases e
 | sl o u s n cs =>
  cases o with
  | false =>
   simp only[tk,noOwn,Bool.not_false,if_true] at e ⊢
   exact plain _ (Option.some.inj e).symm
  | true =>
   cases n with
   | zero=>cases cs with
    | nil=>simp only[tk] at e ⊢;exact plain _ (Option.some.inj e).symm
    | cons c cs=>simp [tk,noOwn] at e
   | succ n=>simp [tk,noOwn] at e
 | bx o u cs =>
  cases o with
  | false =>
   simp only[tk,noOwn,Bool.not_false,if_true] at e ⊢
   exact plain _ (Option.some.inj e).symm
  | true=>simp [tk,noOwn] at e
 | mv k g p =>
  have hk:=hr k (by simp[roots])
  have hin:inU U k:=.inl (hv _ (by simp[ru,roots]))
  simp only[tk,hk] at e ⊢
  split at e
  ·rename_i hc
   rw[if_pos hc]
   split at e
   ·rename_i hg
    split at e
    ·rename_i ho
     simp only[Option.some.injEq] at e
     simp only[hg,ho,if_true]
     exact two _ _ _ hin e.symm
    ·cases e
   ·cases e
  ·cases e
 | mp o u cs =>
  cases o with
  | false =>
   simp only[tk,noOwn,Bool.not_false,if_true] at e ⊢
   exact plain _ (Option.some.inj e).symm
  | true=>simp [tk,noOwn] at e
 | sc x=>simp only[tk,noOwn,if_true] at e ⊢;exact plain _ (Option.some.inj e).symm
 | bptr b g i=>simp only[tk,noOwn,if_true] at e ⊢;exact plain _ (Option.some.inj e).symm
 | vptr u cs=>simp only[tk,noOwn,if_true] at e ⊢;exact plain _ (Option.some.inj e).symm
 | clos f cs=>simp only[tk,noOwn,if_true] at e ⊢;exact plain _ (Option.some.inj e).symm
 | agg cs=>simp [tk] at e
 | tuple cs=>simp [tk] at e
 | dead=>simp [tk] at e
 | non=>simp [tk] at e
theorem tkL_resp {U:List Nat}:∀ {vs:List AU} {h:Nat} {Y:XF Unit},9000≤h→h+vs.length < 10000→(∀ v ∈ vs,∀ u ∈ ru v,u ∈ U)→Resp U Y (fun X=>tkL X h vs)
 | [],h,Y,h1,h2,hv=>by
  intro X hX Y1 e
  dsimp only at e ⊢
  simp only[tkL,Option.some.injEq] at e
  subst e
  exact⟨X,rfl,hX,fun _ _=>rfl,fun _ _=>rfl⟩
 | v :: vs,h,Y,h1,h2,hv=>by
  simp only[tkL]
  simp only[List.length_cons] at h2
  exact Resp.bind (tk_resp h1 (by omega) (hv v (by simp))) fun Y1 _=>tkL_resp (by omega) (by omega) fun v hm=>hv v (List.mem_cons_of_mem _ hm)
theorem clr_ag {U:List Nat}(h:Nat)(h1:9000≤h):∀ (n:Nat),h+n≤10000→(∀ X Y,agH U X Y→agH U (clr X h n) (clr Y h n))∧(∀ X:XF Unit,∀ k,¬ inU U k→clr X h n k=X k)
 | 0,_=>⟨fun X Y hX=>hX,fun X k _=>rfl⟩
 | n+1,hn=>by
  obtain⟨a,b⟩:=clr_ag (U:=U) h h1 n (by omega)
  have hh:=hand_in U (h:=h+n) (by omega) (by omega)
  exact⟨fun X Y hX=>by rw[clr_succ,clr_succ];exact (a X Y hX).set hh _,fun X k hk=>by rw[clr_succ];exact (set_out hh _ _ k hk).trans (b X k hk)⟩
theorem gather_ag {U:List Nat}(hX:agH U X Y)(h:Nat)(h1:9000≤h)(n:Nat)(hn:h+n≤10000):gather X h n=gather Y h n:=by
 simp only[gather]
 apply List.map_congr_left
 intro j hj
 have:=List.mem_range.1 hj
 rw[hX _ (hand_in U (h:=h+j) (by omega) (by omega))]
theorem takeV_resp {U:List Nat}{v:AU}(hv:∀ u ∈ ru v,u ∈ U):Resp U Y (fun X=>takeV X v):=by
 by_cases hag:∃ vs,v=.agg vs
 ·obtain⟨vs,rfl⟩:=hag
  simp only[takeV]
  by_cases hl:vs.length≤400
  ·simp only[if_pos hl]
   have hb:=clr_ag (U:=U) (H+1) (by unfold H;omega) vs.length (by simp only[H];omega)
   refine Resp.map (tkL_resp (h:=H+1) (by unfold H;omega) (by simp only[H];omega) fun v hm u hu=>hv u ?_) (fun X1 Y1 h=>?_) (fun X k hk=>?_)
   ·simp only[ru,roots,List.mem_map] at hu ⊢
    obtain⟨r,hr,rfl⟩:=hu
    refine⟨r,?_,rfl⟩
    clear hl hb
    induction vs with
    | nil=>cases hm
    | cons w ws ih =>
     simp only[rootsL,List.mem_append]
     rcases List.mem_cons.1 hm with rfl | hm
     ·exact .inl hr
     ·exact .inr (ih (fun u hu=>hv u (by
       simp only[ru,roots,rootsL,List.map_append,List.mem_append] at hu ⊢
       exact .inr hu)) hm)
   ·refine hb.1 _ _ ?_
    rw[gather_ag h (H+1) (by unfold H;omega) vs.length (by simp only[H];omega)]
    exact h.set (H_in U) _
   ·exact (hb.2 _ k hk).trans (set_out (H_in U) _ _ k hk)
  ·simp only[if_neg hl]
   intro X hX Y1 e
   cases e
 ·have:∀ X,takeV X v=tk X v H:=by
   intro X
   unfold takeV
   split
   ·exact absurd ⟨_,rfl⟩ hag
   ·rfl
  simp only[this]
  exact tk_resp (by decide) (by decide) hv
theorem takeC_resp {U:List Nat}{c:COd}(hc:∀ u ∈ uO Y c,u ∈ U):Resp U Y (fun X=>takeC X c):=by
 intro X hX Y1 e
 dsimp only at e ⊢
 have hrd:rd X c=rd Y c:=rd_agr (hX.agr.sub hc)
 have hru:∀ u ∈ ru (rd Y c),u ∈ U:=fun u hu=>hc u (ru_uO u hu)
 simp only[takeC] at e ⊢
 rw[hrd]
 split at e
 ·rename_i hf
  rw[if_pos hf]
  cases c with
  | c v=>exact takeV_resp (by simpa [uO] using hc) X hX Y1 e
  | t n =>
   have hn:inU U (100 * n):=.inl (by rw[unit_reg];exact hc _ (by simp[uO]))
   have hk:=hX _ hn
   simp only[takeO,hk,hrd] at e ⊢
   cases hv:(Y (100 * n)).2 with
   | agg vs =>
    simp only[hv] at e ⊢
    have hva:∀ u ∈ ru (.agg vs),u ∈ U:=by
     have:rd Y (.t n)=.agg vs:=by simp only[rd,rdK,hv,ldV]
     rwa [this] at hru
    split at e
    ·rename_i hno
     simp only[hno,if_true]
     exact takeV_resp hva X hX Y1 e
    ·rename_i hno
     simp only[hno,Bool.false_eq_true,if_false]
     simp only[Option.some.injEq] at e
     subst e
     exact⟨_,rfl,(hX.set (H_in U) _).set hn _,fun k hk=>(set_out hn _ _ k hk).trans (set_out (H_in U) _ _ k hk),fun k hk=>(set_out hn _ _ k hk).trans (set_out (H_in U) _ _ k hk)⟩
   | tuple vs=>simp only[hv] at e;cases e
   | _=>simp only[hv] at e ⊢;exact takeV_resp hru X hX Y1 e
 ·cases e
theorem put1_resp {U:List Nat}{a:AU}{h:Nat}(h1:9000≤h)(h2:h < 10000)(ha:∀ u ∈ ru a,u ∈ U)(hbu:∀ u ∈ bu a 1,u ∈ U):Resp U Y (fun X=>put1 X a h):=by
 intro X hX Y1 e
 dsimp only at e ⊢
 have hh:=hand_in U h1 h2
 have hkh:=hX _ hh
 unfold put1 at e ⊢
 split at e
 ·rename_i b g i
  split at e
  ·rename_i hc
   have hin:inU U (100 * b+1+i):=.inl (by
    have:=cell_unit (b:=b) (m:=1+i) (n:=1) hbu (j:=0) (by omega) (by omega) (by omega)
    rwa [show 100 * b+(1+i+0)=100 * b+1+i by omega] at this)
   have hi:X (100 * b+1+i)=Y (100 * b+1+i):=hX _ hin
   have hgen:X (100 * b+99)=Y (100 * b+99):=hX _ (.inl (gen_unit ha))
   simp only[Option.some.injEq] at e
   subst e
   simp only[hgen,hi,hkh,hc,and_self,if_true]
   exact⟨_,rfl,(hX.set hin _).set hh _,fun k hk=>(set_out hh _ _ k hk).trans (set_out hin _ _ k hk),fun k hk=>(set_out hh _ _ k hk).trans (set_out hin _ _ k hk)⟩
  ·cases e
 ·rename_i k g p i
  have hin:inU U k:=.inl (ha _ (by simp[ru,roots]))
  have hk:=hX k hin
  simp only[hk,hkh]
  split at e
  ·rename_i hc
   rw[if_pos hc]
   split at e
   ·rename_i u hu
    simp only[Option.some.injEq] at e
    subst e
    refine⟨_,rfl,?_,?_,?_⟩
    ·split
     ·exact (hX.set hin _).set hh _
     ·exact (hX.upd hin _).set hh _
    ·intro j hj
     rw[set_out hh _ _ j hj]
     split
     ·exact set_out hin _ _ j hj
     ·exact upd_out hin _ _ j hj
    ·intro j hj
     rw[set_out hh _ _ j hj]
     split
     ·exact set_out hin _ _ j hj
     ·exact upd_out hin _ _ j hj
   ·cases e
  ·cases e
 ·cases e
theorem ru_shift (i:Nat)(a:AU):ru (shiftA i a)=ru a:=by cases a<;>rfl
theorem bu_shift {a:AU}{j n:Nat}(h:j < n):∀ u ∈ bu (shiftA j a) 1,u ∈ bu a n:=by
 cases a with
 | bptr b g i =>
  intro u hu
  simp only[shiftA,bu,cellU,List.mem_map,List.mem_range] at hu ⊢
  obtain⟨x,hx,rfl⟩:=hu
  exact⟨j,h,by omega⟩
 | _=>intro u hu;simp[shiftA,bu] at hu
theorem putA_resp {U:List Nat}{a:AU}{n:Nat}(ha:∀ u ∈ ru a,u ∈ U)(hbu:∀ u ∈ bu a n,u ∈ U)(vs:List AU):∀ (i:Nat) (Y:XF Unit),i+vs.length≤n→Resp U Y (fun X=>putA X a i vs):=by
 have hh1:inU U (100 * (H+1)):=hand_in U (h:=H+1) (by unfold H;omega) (by unfold H;omega)
 generalize hq:100 * (H+1)=q at hh1
 induction vs with
 | nil =>
  intro i Y _ X hX Y1 e
  have e:some Y=some Y1:=e
  cases e
  exact⟨X,rfl,hX,fun _ _=>rfl,fun _ _=>rfl⟩
 | cons c cs ih =>
  intro i Y hle X hX Y2 e
  simp only[List.length_cons] at hle
  have e:((put1 ((Y.set (100 * H) (.agg (List.replicate (i+1) .dead ++ cs))).set (100 * (H+1)) c) (shiftA i a) (H+1)).bind fun X2=>putA X2 a (i+1) cs)=some Y2:=e
  rw[hq,Option.bind_eq_some_iff] at e
  obtain⟨Y1,e1,e2⟩:=e
  have hp:=put1_resp (U:=U) (Y:=(Y.set (100 * H) (.agg (List.replicate (i+1) .dead ++ cs))).set q c) (a:=shiftA i a) (h:=H+1) (by unfold H;omega) (by unfold H;omega) (by rw[ru_shift];exact ha) (fun u hu=>hbu u (bu_shift (by omega) u hu))
  obtain⟨X1,a1,a2,a3,a4⟩:=hp _ ((hX.set (H_in U) (.agg (List.replicate (i+1) .dead ++ cs))).set hh1 c) Y1 e1
  obtain⟨X2,b1,b2,b3,b4⟩:=ih (i+1) Y1 (by omega) X1 a2 Y2 e2
  refine⟨X2,?_,b2,fun k hk=>(b3 k hk).trans ((a3 k hk).trans ((set_out hh1 _ _ k hk).trans (set_out (H_in U) _ _ k hk))),fun k hk=>(b4 k hk).trans ((a4 k hk).trans ((set_out hh1 _ _ k hk).trans (set_out (H_in U) _ _ k hk)))⟩
  show ((put1 ((X.set (100 * H) (.agg (List.replicate (i+1) .dead ++ cs))).set (100 * (H+1)) c) (shiftA i a) (H+1)).bind fun X2=>putA X2 a (i+1) cs)=some X2
  rw[hq,Option.bind_eq_some_iff]
  exact⟨X1,a1,b1⟩
theorem stV_resp {U:List Nat}{n:Nat}{a v:COd}(hv:∀ u ∈ uO Y v,u ∈ U)(ha:∀ Y1,takeC Y v=some Y1→∀ u ∈ uO Y1 a ++ bu (rd Y1 a) n,u ∈ U):Resp U Y (fun X=>stV X n a v):=by
 simp only[stV]
 refine Resp.bind (takeC_resp hv) fun Y1 e1=>?_
 intro X hX Y2 e
 dsimp only at e ⊢
 have hH:=hX _ (H_in U)
 have hua:∀ u ∈ uO Y1 a,u ∈ U:=fun u hu=>ha Y1 e1 u (List.mem_append.2 (.inl hu))
 have hub:∀ u ∈ bu (rd Y1 a) n,u ∈ U:=fun u hu=>ha Y1 e1 u (List.mem_append.2 (.inr hu))
 have hrd:rd X a=rd Y1 a:=rd_agr (hX.agr.sub hua)
 have hra:∀ u ∈ ru (rd Y1 a),u ∈ U:=fun u hu=>hua u (ru_uO u hu)
 simp only[hH,hrd] at e ⊢
 cases hvs:(Y1 (100 * H)).2 with
 | agg vs =>
  simp only[hvs] at e ⊢
  split at e
  ·rename_i hc
   rw[if_pos hc]
   exact Resp.map (putA_resp hra hub _ 0 _ (by omega)) (fun X1 Y1 h=>h.set (H_in U) _) (fun X k hk=>set_out (H_in U) _ _ k hk) X hX Y2 e
  ·cases e
 | _ =>
  simp only[hvs] at e ⊢
  split at e
  ·rename_i hn
   rw[if_pos hn]
   exact put1_resp (by decide) (by decide) hra (by rw[← hn];exact hub) X hX Y2 e
  ·cases e
theorem asgV_resp {U:List Nat}{d:Nat}{c:COd}(hd:2 * d ∈ U)(hc:∀ u ∈ uO Y c,u ∈ U):Resp U Y (fun X=>asgV X d c):=by
 simp only[asgV]
 have hdi:inU U (100 * d):=.inl (by rw[unit_reg];exact hd)
 refine Resp.map (takeC_resp hc) (fun X1 Y1 h=>?_) (fun X k hk=>(set_out (H_in U) _ _ k hk).trans (set_out hdi _ _ k hk))
 rw[h _ (H_in U)]
 exact (h.set hdi _).set (H_in U) _
theorem bsV_resp {U:List Nat}{d s:Nat}{c:COd}(hd:2 * d ∈ U)(hc:∀ u ∈ uO Y c,u ∈ U):Resp U Y (fun X=>bsV X d s c):=by
 simp only[bsV]
 have hdi:inU U (100 * d):=.inl (by rw[unit_reg];exact hd)
 refine Resp.bind (takeC_resp hc) fun Y1 _=>?_
 intro X hX Y2 e
 dsimp only at e ⊢
 have hH:=hX _ (H_in U)
 have two:∀ w:AU,Y2=(Y1.set (100 * d) w).set (100 * H) .non→∃ X1,some ((X.set (100 * d) w).set (100 * H) .non)=some X1∧agH U X1 Y2∧(∀ k,¬ inU U k→X1 k=X k)∧(∀ k,¬ inU U k→Y2 k=Y1 k):=by
  intro w e
  subst e
  exact⟨_,rfl,(hX.set hdi w).set (H_in U) _,fun k hk=>(set_out (H_in U) _ _ k hk).trans (set_out hdi _ _ k hk),fun k hk=>(set_out (H_in U) _ _ k hk).trans (set_out hdi _ _ k hk)⟩
 simp only[hH] at e ⊢
 cases hvs:(Y1 (100 * H)).2 with
 | agg vs =>
  simp only[hvs] at e ⊢
  split at e
  ·rename_i hc
   simp only[Option.some.injEq] at e
   rw[if_pos hc]
   exact two _ e.symm
  ·cases e
 | _ =>
  simp only[hvs] at e ⊢
  split at e
  ·rename_i hc
   simp only[Option.some.injEq] at e
   rw[if_pos hc]
   exact two _ e.symm
  ·cases e
theorem appV_resp {U:List Nat}{d s b:Nat}{x y:COd}(hd:2 * d ∈ U)(hx:∀ u ∈ uO Y x,u ∈ U)(hy:∀ u ∈ uO Y y,u ∈ U):Resp U Y (fun X=>appV X d s b x y):=by
 intro X hX Y2 e
 dsimp only at e ⊢
 have hdi:inU U (100 * d):=.inl (by rw[unit_reg];exact hd)
 have e1:cellsV X s (rd X y)=cellsV Y s (rd Y y):=by rw[rd_agr (hX.agr.sub hy),cellsV_agr (rdr_agr (hX.agr.sub hy))]
 simp only[appV,e1] at e ⊢
 simp only[Option.bind_eq_some_iff] at e
 obtain⟨news,hn,e⟩:=e
 simp only[hn,Option.bind_some]
 split at e
 ·rename_i hp
  rw[if_pos hp]
  refine Resp.bind (takeC_resp hx) (fun Y1 _=>?_) X hX Y2 (by simpa only [Option.bind_eq_some_iff] using e)
  intro X1 hX1 Y3 e
  dsimp only at e ⊢
  have hH:=hX1 _ (H_in U)
  simp only[hH] at e ⊢
  split at e
  ·split at e
   ·rename_i hc
    simp only[Option.some.injEq] at e
    subst e
    rw[if_pos hc]
    refine⟨_,rfl,((hX1.set (H_in U) _).set hdi _).set (H_in U) _,fun k hk=>?_,fun k hk=>?_⟩
    ·exact (set_out (H_in U) _ _ k hk).trans ((set_out hdi _ _ k hk).trans (set_out (H_in U) _ _ k hk))
    ·exact (set_out (H_in U) _ _ k hk).trans ((set_out hdi _ _ k hk).trans (set_out (H_in U) _ _ k hk))
   ·cases e
  ·cases e
 ·cases e
theorem hh_in0 (U:List Nat):inU U (100 * hh):=hand_in U (h:=hh) (by unfold hh H;omega) (by unfold hh H;omega)
theorem appOV_resp {U:List Nat}{d s b:Nat}{x y:COd}(hd:2 * d ∈ U)(hy:∀ u ∈ uO Y y,u ∈ U)(hx:∀ Y0,takeC Y y=some Y0→∀ u ∈ uO (mvH Y0) x,u ∈ U):Resp U Y (fun X=>appOV X d s b x y):=by
 have hdi:inU U (100 * d):=.inl (by rw[unit_reg];exact hd)
 simp only[appOV]
 refine Resp.bind (takeC_resp hy) fun Y0 e0=>?_
 intro X hX Y2 e
 have hXH:=hX _ (H_in U)
 simp only[hXH] at e ⊢
 split at e
 ·cases e
 ·rename_i hs
  rw[if_neg hs]
  have hM:agH U (mvH X) (mvH Y0):=by
   unfold mvH
   rw[hXH]
   exact (hX.set (hh_in0 U) _).set (H_in U) _
  have hMo:∀ (Z:XF Unit) (k:Nat),¬ inU U k→mvH Z k=Z k:=fun Z k hk=>(set_out (H_in U) _ _ k hk).trans (set_out (hh_in0 U) _ _ k hk)
  rw[Option.bind_eq_some_iff] at e
  obtain⟨Y1,e1,e2⟩:=e
  obtain⟨X1,a1,a2,a3,a4⟩:=takeC_resp (hx Y0 e0) (mvH X) hM Y1 e1
  have g1:=a2 _ (H_in U)
  have g2:=a2 _ (hh_in0 U)
  have g3:=hM _ (hh_in0 U)
  have a1':takeC (mvH X) x=some X1:=a1
  rw[a1',Option.bind_some,g1,g2,g3]
  cases h1:(Y1 (100 * H)).2 with
  | sl o1 u1 s1 n cs =>
   cases h2:(Y1 (100 * hh)).2 with
   | sl o2 u2 s2 m news =>
    rw[h1,h2] at e2
    cases o1 with
    | false=>simp [apO] at e2
    | true =>
     cases o2 with
     | false=>simp [apO] at e2
     | true =>
      simp only[apO,g1,g2] at e2 ⊢
      split at e2
      ·rename_i hc
       simp only[Option.some.injEq] at e2
       subst e2
       rw[if_pos hc]
       refine⟨_,rfl,(((a2.set (H_in U) _).set hdi _).set (H_in U) _).set (hh_in0 U) _,fun k hk=>?_,fun k hk=>?_⟩
       ·exact (set_out (hh_in0 U) _ _ k hk).trans ((set_out (H_in U) _ _ k hk).trans ((set_out hdi _ _ k hk).trans ((set_out (H_in U) _ _ k hk).trans ((a3 k hk).trans (hMo X k hk)))))
       ·exact (set_out (hh_in0 U) _ _ k hk).trans ((set_out (H_in U) _ _ k hk).trans ((set_out hdi _ _ k hk).trans ((set_out (H_in U) _ _ k hk).trans ((a4 k hk).trans (hMo Y0 k hk)))))
      ·cases e2
   | _=>rw [h1,h2] at e2;cases o1<;>simp [apO] at e2
  | _=>rw [h1] at e2;simp[apO] at e2
theorem hh_in (U:List Nat):inU U (100 * hh):=hand_in U (h:=hh) (by unfold hh H;omega) (by unfold hh H;omega)
theorem cpV_resp {U:List Nat}{d s:Nat}{x y:COd}(hd:2 * d ∈ U)(hx:∀ u ∈ uO Y x,u ∈ U)(hy:∀ u ∈ uO Y y,u ∈ U):Resp U Y (fun X=>cpV X d s x y):=by
 intro X hX Y2 e
 have hdi:inU U (100 * d):=.inl (by rw[unit_reg];exact hd)
 have e1:cellsV X s (rd X y)=cellsV Y s (rd Y y):=by rw[rd_agr (hX.agr.sub hy),cellsV_agr (rdr_agr (hX.agr.sub hy))]
 have e2:rd X x=rd Y x:=rd_agr (hX.agr.sub hx)
 have hru:∀ u ∈ ru (rd Y x),u ∈ U:=fun u hu=>hx u (ru_uO u hu)
 simp only[cpV,e1,e2] at e ⊢
 simp only[Option.bind_eq_some_iff] at e
 obtain⟨news,hn,e⟩:=e
 simp only[hn,Option.bind_some]
 split at e
 ·rename_i hc
  rw[if_pos hc]
  cases hv:rd Y x with
  | view k g p off n =>
   rw[hv] at e hru
   have hin:inU U k:=.inl (hru _ (by simp[ru,roots]))
   simp only[cpD,hX k hin] at e ⊢
   split at e
   ·rename_i hc2
    rw[if_pos hc2]
    cases ht:cpT n off s news (getN (Y k).2 p) with
    | none=>rw [ht] at e;cases e
    | some N =>
     rw[ht] at e
     simp only[cpK,Option.some.injEq] at e ⊢
     subst e
     simp only[hX k hin]
     exact⟨_,rfl,((hX.set (hh_in U) _).upd hin _).set hdi _,fun j hj=>(set_out hdi _ _ j hj).trans ((upd_out hin _ _ j hj).trans (set_out (hh_in U) _ _ j hj)),fun j hj=>(set_out hdi _ _ j hj).trans ((upd_out hin _ _ j hj).trans (set_out (hh_in U) _ _ j hj))⟩
   ·cases e
  | _=>rw [hv] at e;simp[cpD] at e
 ·cases e
theorem extV_resp {U:List Nat}{d n i:Nat}(hd:2 * d ∈ U)(hn:2 * n ∈ U):Resp U Y (fun X=>extV X d n i):=by
 intro X hX Y2 e
 dsimp only at e ⊢
 have hdi:inU U (100 * d):=.inl (by rw[unit_reg];exact hd)
 have hni:inU U (100 * n):=.inl (by rw[unit_reg];exact hn)
 simp only[extV,hX _ hni] at e ⊢
 split at e
 ·split at e
  ·split at e
   ·rename_i hne
    simp only[Option.some.injEq] at e
    subst e
    rw[if_pos hne]
    exact⟨_,rfl,(hX.set hni _).set hdi _,fun k hk=>(set_out hdi _ _ k hk).trans (set_out hni _ _ k hk),fun k hk=>(set_out hdi _ _ k hk).trans (set_out hni _ _ k hk)⟩
   ·cases e
  ·cases e
 ·cases e
theorem box_ag {U:List Nat}{d:Nat}(hb:∀ u ∈ cellU d 1 99,u ∈ U)(cs:List AU):(∀ X Y,agH U X Y→agH U (X.box d cs) (Y.box d cs))∧(∀ X:XF Unit,∀ k,¬ inU U k→X.box d cs k=X k):=by
 have hin:∀ k,k / 100=d→k % 100 ≠ 0→inU U k:=fun k h1 h2=>.inl (by
  have:=cell_unit (b:=d) (m:=1) (n:=99) hb (j:=k % 100 - 1) (by omega) (by omega) (by omega)
  rwa [show 100 * d+(1+(k % 100 - 1))=k by omega] at this)
 refine⟨fun X Y h k hk=>?_,fun X k hk=>?_⟩
 ·simp only[XF.box]
  rw[h k hk]
 ·simp only[XF.box]
  rw[if_neg (fun hh=>hk (hin k hh.1 hh.2))]
theorem finB_ag {U:List Nat}{d:Nat}(hd:2 * d ∈ U)(g:Nat):(∀ X Y,agH U X Y→agH U (finB X d g) (finB Y d g))∧(∀ X:XF Unit,∀ k,¬ inU U k→finB X d g k=X k):=by
 have hdi:inU U (100 * d):=.inl (by rw[unit_reg];exact hd)
 exact⟨fun X Y h=>(h.set (H_in U) _).set hdi _,fun X k hk=>(set_out hdi _ _ k hk).trans (set_out (H_in U) _ _ k hk)⟩
theorem alloc_resp {U:List Nat}{d:Nat}{zs:List AU}(hd:2 * d ∈ U)(hb:∀ u ∈ cellU d 1 99,u ∈ U):Resp U Y (fun X=>some (allocV X d zs)):=by
 refine Resp.some U Y _ (fun X h=>?_) (fun X k hk=>?_)
 ·simp only[allocV]
  have h99:X (100 * d+99)=Y (100 * d+99):=h _ (.inl (cell_unit (b:=d) (m:=1) (n:=99) hb (j:=98) (by omega) (by omega) (by omega)))
  rw[h99]
  exact (finB_ag hd _).1 _ _ ((box_ag hb zs).1 _ _ (h.set (H_in U) _))
 ·simp only[allocV]
  exact ((finB_ag hd _).2 _ k hk).trans (((box_ag hb zs).2 _ k hk).trans (set_out (H_in U) _ _ k hk))
theorem boxV_resp {U:List Nat}{d:Nat}{c:COd}(hd:2 * d ∈ U)(hb:∀ u ∈ cellU d 1 99,u ∈ U)(hc:∀ u ∈ uO Y c,u ∈ U):Resp U Y (fun X=>boxV X d c):=by
 simp only[boxV]
 refine Resp.bind (takeC_resp hc) fun Y1 _=>?_
 intro X hX Y2 e
 dsimp only at e ⊢
 have hH:=hX _ (H_in U)
 have h99:X (100 * d+99)=Y1 (100 * d+99):=hX _ (.inl (cell_unit (b:=d) (m:=1) (n:=99) hb (j:=98) (by omega) (by omega) (by omega)))
 have key:∀ (vs:List AU) (g:Nat),Y2=finB (Y1.box d vs) d g→∃ X1,some (finB (X.box d vs) d g)=some X1∧agH U X1 Y2∧(∀ k,¬ inU U k→X1 k=X k)∧(∀ k,¬ inU U k→Y2 k=Y1 k):=by
  intro vs g e
  subst e
  exact⟨_,rfl,(finB_ag hd g).1 _ _ ((box_ag hb vs).1 _ _ hX),fun k hk=>((finB_ag hd g).2 _ k hk).trans ((box_ag hb vs).2 _ k hk),fun k hk=>((finB_ag hd g).2 _ k hk).trans ((box_ag hb vs).2 _ k hk)⟩
 simp only[hH,h99] at e ⊢
 cases hvs:(Y1 (100 * H)).2 with
 | agg vs =>
  simp only[hvs] at e ⊢
  split at e
  ·rename_i hc
   simp only[Option.some.injEq] at e
   rw[if_pos hc]
   exact key _ _ e.symm
  ·cases e
 | _ =>
  simp only[hvs] at e ⊢
  split at e
  ·rename_i hc
   simp only[Option.some.injEq] at e
   rw[if_pos hc]
   exact key _ _ e.symm
  ·cases e
end
end Go.OT
