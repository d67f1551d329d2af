/- Part 2 of the proof: see its last file. -/
import Derived.Orders
import Derived.Below
import Derived.Laws.Entries
import Derived.Laws.Cells
import Derived.Laws.IdiomCopy
import Derived.Scope
import Derived.Calls
import Derived.Laws.Tables
import Derived.Laws.MakeOwn
import Derived.Laws.BytesString
import Derived.ArgAppend
import Derived.Test.YtlcemfnjhdcmoaaDp01
set_option linter.unusedSimpArgs false
set_option linter.unusedVariables false
namespace Go.OT
def asgV (X:XF Unit)(d:Nat)(c:COd):Option (XF Unit):=(takeC X c).map fun X1=>(X1.set (100 * d) (X1 (100 * H)).2).set (100 * H) .non
section
variable {C:Ctx} {X:XF LO} {β:Nat→Nat × Nat} {I:ASet} {rg:Nat→Value} {w:World}
theorem RelL.moveR (R:RelL C X β I rg w)(d h:Nat)(hdl:d < 10000)(hne:d ≠ h):RelL C ((X.set (100 * d) (X (100 * h)).2).set (100 * h) .non) β I (fun s=>if s=d then rg h else rg s) w :=
 R.fresh d hdl [h] (by simpa using hne) (Frame.refl _ w) (R.key _).mem (R.key _).sep (R.reg h) (fun b o hb=>.inr ⟨h,by simp,hb⟩)
end
theorem ok_asg {C:Ctx}{o:Oper}{X X':XF Unit}{d sz:Nat}{x:Operand}{c:COd}(ho:o.op=.assign x)(hd:o.dst=some d)(hlt:d < C.nt)(hin:opsIn C.nt o=true)(hnt:C.nt≤H)
  (hc:compOd C.nt sz x=some c) (hr:asgV X d c=some X'):OpOk C o X X' :=
 OpOk.of_val hd hlt hin fun XL β I rg w he R=>by
  subst he
  simp only[asgV,Option.map_eq_some_iff] at hr
  obtain⟨X1,h1,h2⟩:=hr
  obtain⟨XL1,rg1,e1,R1,K1,e2,e3⟩:=takeO_ok R hnt hc h1
  refine⟨evR rg x,w,_,β,I,_,by simp[execOp,ho],?_,R1.moveR d H (by have:=C.hnt;omega) (by omega),by simp[e2],fun t h1 h2=>by simp[h1,e3 t (.inl (Nat.lt_of_lt_of_le h2 hnt))]⟩
  rw[erF_set,erF_set,← h2,e1]
  subst e1;rfl
def extV (X:XF Unit)(d n i:Nat):Option (XF Unit) :=
 match (X (100 * n)).2 with
 | .tuple vs=>match vs[i]? with
  | some c=>if d ≠ n then some ((X.set (100 * n) (.tuple (vs.set i .dead))).set (100 * d) c) else none
  | none=>none
 | _=>none
theorem ok_ext {C:Ctx}{o:Oper}{X X':XF Unit}{d n i:Nat}(ho:o.op=.extract (.tmp n) i)(hd:o.dst=some d)(hlt:d < C.nt)(hin:opsIn C.nt o=true)
  (hr:extV X d n i=some X'):OpOk C o X X' :=
 OpOk.of_val hd hlt hin fun XL β I rg w he R=>by
  subst he
  simp only[extV] at hr
  split at hr
  ·rename_i vs hV
   split at hr
   ·rename_i c hi
    split at hr
    ·rename_i hdn
     simp only[Option.some.injEq] at hr
     obtain⟨lvs,hV',hlvs⟩:=er_tuple (lv:=(XL (100 * n)).2) hV
     have hRn:=R.reg n
     rw[hV'] at hRn
     simp only[RR] at hRn
     obtain⟨ys,hys,hRL⟩:=hRn
     rw[← hlvs,List.getElem?_map] at hi
     cases hli:lvs[i]? with
     | none=>simp [hli] at hi
     | some lc =>
      simp only[hli,Option.map_some,Option.some.injEq] at hi
      have hlt':i < ys.length:=by rw[← (RRL_iff.1 hRL).1];exact (List.getElem?_eq_some_iff.1 hli).1
      have hyi:ys[i]?=some ys[i]:=List.getElem?_eq_getElem hlt'
      refine⟨ys[i],w,_,β,I,_,?_,?_,R.takeA n d i (by have:=C.hnt;omega) (Ne.symm hdn) (by rw[hV'];rfl) hli ((RRL_iff.1 hRL).2 i lc _ hli hyi),by simp,fun t h1 _=>by simp[h1]⟩
      ·simp[execOp,ho,evR,hys,Instr.extract,hyi]
      ·rw[erF_set,erF_set,hi,← hr,hV']
       simp[AV.withParts,er,erL_eq,List.map_set,hlvs]
    ·cases hr
   ·cases hr
  ·cases hr
def lcst (sz:Nat)(v:Value):AL :=
 match v with
 | .slice none 0 0=>.sl true none sz 0 []
 | v=>.sc v
theorem lcst_cases (sz:Nat)(v:Value):(v=.slice none 0 0∧lcst sz v=.sl true none sz 0 []∧cst sz v=.sl true () sz 0 [])∨(lcst sz v=.sc v∧cst sz v=.sc v):=by
 by_cases h:v=.slice none 0 0
 ·subst h;exact .inl ⟨rfl,rfl,rfl⟩
 ·refine .inr ⟨?_,?_⟩
  ·unfold lcst;split
   ·exact absurd rfl h
   ·rfl
  ·unfold cst;split
   ·exact absurd rfl h
   ·rfl
theorem lcst_ok {X:XF LO} {β:Nat→Nat × Nat}{w:World}{I:ASet}(sz:Nat)(v:Value):er (lcst sz v)=cst sz v∧RR X β (lcst sz v) v∧Mem w I (lcst sz v)∧CR (lcst sz v) v∧(∀ b o,¬ fp (lcst sz v) b o)∧Sep (lcst sz v):=by
 rcases lcst_cases sz v with ⟨rfl,h1,h2⟩ | ⟨h1,h2⟩
 ·rw[h1,h2];exact⟨rfl,by simp[RR,CR],by simp[Mem],by simp[CR],by simp[fp],by simp[Sep]⟩
 ·rw[h1,h2];exact⟨rfl,by simp[RR],by simp[Mem],by simp[CR],by simp[fp],by simp[Sep]⟩
def zerosOf (P:Program)(t:TypeId)(szs:List Nat):Option (List AU) :=
 ((P.info? t).bind (·.zero)).bind fun z=>if z.cells.toList.length=szs.length then some (List.zipWith cst szs z.cells.toList) else none
theorem zerosOf_ok {P:Program}{t:TypeId}{szs:List Nat}{zs:List AU}(h:zerosOf P t szs=some zs) :
  ∃ z,(∀ w,(zeroValue t).run P w=.ok z w)∧z.cells.toList.length=szs.length∧zs=(List.zipWith lcst szs z.cells.toList).map er∧((P.info? t).bind (·.zero))=some z:=by
 unfold zerosOf at h
 cases hi:P.info? t with
 | none=>simp [hi] at h
 | some i =>
  cases hz:i.zero with
  | none=>simp [hi,hz] at h
  | some z =>
   simp only[hi,hz,Option.bind_some] at h
   split at h
   ·rename_i hl
    simp only[Option.some.injEq] at h
    refine⟨z,fun w=>by simp[zeroValue,typeInfo,hi,hz],hl,?_,by simp[hz]⟩
    rw[← h,List.map_zipWith]
    congr 1
    funext s v
    exact (lcst_ok (X:=fun _=>(0,.non)) (β:=fun _=>(0,0)) (w:=default) (I:=fun _ _=>False) s v).1.symm
   ·cases h
theorem zip_facts {szs:List Nat}{xs:List Value}(hl:xs.length=szs.length){i:Nat}{c:AL}(h:(List.zipWith lcst szs xs)[i]?=some c):∃ s x,szs[i]?=some s∧xs[i]?=some x∧c=lcst s x:=by
 rw[List.getElem?_zipWith] at h
 cases h1:szs[i]? with
 | none=>simp [h1] at h
 | some s =>
  cases h2:xs[i]? with
  | none=>simp [h1,h2] at h
  | some x=>simp [h1,h2] at h;exact⟨s,x,rfl,rfl,h.symm⟩
def finB (Y:XF Unit)(d g:Nat):XF Unit:=(Y.set (100 * H) .non).set (100 * d) (.bptr d g 0)
def boxV (X:XF Unit)(d:Nat)(c:COd):Option (XF Unit) :=
 (takeC X c).bind fun X1=>match (X1 (100 * H)).2 with
  | .agg vs=>if vs.all treeV=true then some (finB (X1.box d vs) d ((X1 (100 * d+99)).1+1)) else none
  | v=>if treeV v=true then some (finB (X1.box d [v]) d ((X1 (100 * d+99)).1+1)) else none
def allocV (X:XF Unit)(d:Nat)(zs:List AU):XF Unit:=finB ((X.set (100 * H) (.agg zs)).box d zs) d ((X (100 * d+99)).1+1)
section
variable {C:Ctx} {X:XF LO} {β:Nat→Nat × Nat} {I:ASet} {rg:Nat→Value} {w:World}
theorem newbox_ok (R:RelL C X β I rg w)(d:Nat)(hd:d < 10000)(e:TypeId)(cs:List AL)(xs:List Value)(hV:(X (100 * H)).2=.agg cs∨(cs=[(X (100 * H)).2]∧treeV (X (100 * H)).2=true))(ht:∀ c ∈ cs,treeV c=true)
  (hx:(rg H).cells.toList=xs) :
  RelL C (((X.box d cs).set (100 * H) .non).set (100 * d) (.bptr d ((X (100 * d+99)).1+1) 0)) (fun j=>if j=d then (w.heap.size,0) else β j) I
   (fun s=>if s=d then .pointer (some ⟨w.heap.size,0,none⟩) else rg s) { w with heap:=w.heap.push (.cells xs.toArray e (0,0)) }:=by
 have hk:=R.key (100 * H)
 have hr:=R.reg H
 have hfacts:(∀ b o,fpL cs b o→fp (X (100 * H)).2 b o)∧MemA w I cs∧SepL cs∧cs.length=xs.length∧∀ (i:Nat) (c:AL) (x:Value),cs[i]?=some c→xs[i]?=some x→RR X β c x:=by
  have hm:=hk.mem
  have hs:=hk.sep
  rcases hV with hV | ⟨hV,h'⟩
  ·rw[hV] at hm hs hr ⊢
   simp only[Mem] at hm
   simp only[Sep] at hs
   simp only[RR] at hr
   obtain⟨ys,hys,hRL⟩:=hr
   rw[hys] at hx
   simp only[Value.cells] at hx
   subst hx
   exact⟨fun b o h=>by simpa [fp] using h,hm,hs,by simpa using (RRL_iff.1 hRL).1,(RRL_iff.1 hRL).2⟩
  ·have hcr:=CR_of_RR h' hr
   rw[cellsOf_oneCell (oneCell_of_CR h' hcr)] at hx
   simp only at hx
   subst hx hV
   refine⟨fun b o h=>by simpa [fpL] using h,by simp only[MemA];exact⟨hm,trivial⟩,by simp only[SepL];exact⟨hs,trivial,fun _ _ _ h=>by simp[fpL] at h⟩,rfl,fun i c x hc hx=>?_⟩
   cases i with
   | zero=>simp at hc hx;subst hc hx;exact hr
   | succ i=>simp at hc
 obtain⟨f1,f2,f3,f4,f5⟩:=hfacts
 have R1:=R.newbox d H hd e cs xs f1 f2 f3 f4 (fun i c x hc hx=>.inl (CR_of_RR (ht c (List.mem_of_getElem? hc)) (f5 i c x hc hx)))
 refine R1.setR d hd rfl (by simp[Mem]) ?_
 simp only[RR]
 have hg:((X.box d cs).set (100 * H) .non (100 * d+99)).1=(X (100 * d+99)).1+1:=by
  rw[XF.set_ne _ _ (by unfold H;omega)]
  simp only[XF.box]
  rw[if_pos ⟨by omega,by omega⟩,if_pos (by omega)]
 rw[hg]
 exact⟨Nat.le_refl _,fun _=>by simp⟩
end
theorem ok_box {C:Ctx}{o:Oper}{X X':XF Unit}{d sz:Nat}{e:TypeId}{x:Operand}{c:COd}(ho:o.op=.box e x)(hd:o.dst=some d)(hlt:d < C.nt)(hin:opsIn C.nt o=true)(hnt:C.nt≤H)
  (hc:compOd C.nt sz x=some c) (hr:boxV X d c=some X'):OpOk C o X X' :=
 OpOk.of_val hd hlt hin fun XL β I rg w he R=>by
  subst he
  simp only[boxV] at hr
  cases h1:takeC (erF XL) c with
  | none=>simp [h1] at hr
  | some X1 =>
   simp only[h1,Option.bind_some] at hr
   obtain⟨XL1,rg1,e1,R1,K1,e2,e3⟩:=takeO_ok R hnt hc h1
   subst e1
   have hd1:d < 10000:=by unfold H at hnt;omega
   have fin:∀ (cs:List AL),((XL1 (100 * H)).2=.agg cs∨(cs=[(XL1 (100 * H)).2]∧treeV (XL1 (100 * H)).2=true))→(∀ c ∈ cs,treeV c=true) →
     X'=finB ((erF XL1).box d (cs.map er)) d ((erF XL1 (100 * d+99)).1+1)→∃ x w' XL' β' I' rg',(execOp (evR rg) o).run C.P w=.ok (.value x) w'∧erF XL'=X'∧RelL C XL' β' I' rg' w'∧rg' d=x∧∀ t,t ≠ d→t < C.nt→rg' t=rg t:=by
    intro cs hV ht hX'
    refine⟨.pointer (some ⟨w.heap.size,0,none⟩),{ w with heap:=w.heap.push (.cells (rg1 H).cells.toList.toArray e (0,0)) },_,_,_,_,?_,?_,newbox_ok R1 d hd1 e cs _ hV ht rfl,by simp,fun t ht1 ht2=>by simp[ht1,e3 t (.inl (Nat.lt_of_lt_of_le ht2 hnt))]⟩
    ·simp only[execOp,ho,Instr.box,newVar,newRow,newObj,Sem.run_bind,Sem.run_pure,Sem.run,e2]
     simp
    ·rw[erF_set,erF_set,erF_box,hX']
     rfl
   cases hV:(erF XL1 (100 * H)).2 with
   | agg vs =>
    simp only[hV] at hr
    split at hr
    ·rename_i hall
     simp only[Option.some.injEq] at hr
     obtain⟨lvs,hV',hlvs⟩:=er_agg (lv:=(XL1 (100 * H)).2) hV
     refine fin lvs (.inl hV') (fun c hc=>?_) (by rw[hlvs,hr])
     rw[List.all_eq_true] at hall
     rw[← er_treeV]
     exact hall _ (by rw[← hlvs];exact List.mem_map_of_mem hc)
    ·cases hr
   | _ =>
    simp only[hV] at hr
    split at hr
    ·rename_i hall
     simp only[Option.some.injEq] at hr
     have hV':er (XL1 (100 * H)).2=_:=hV
     refine fin [(XL1 (100 * H)).2] (.inr ⟨rfl,?_⟩) (fun c hc=>?_) (by simp only[List.map_cons,List.map_nil,hV',hr])
     ·rw[← er_treeV,hV'];exact hall
     ·simp only[List.mem_singleton] at hc
      rw[hc,← er_treeV,hV'];exact hall
    ·cases hr
theorem ok_alloc {C:Ctx}{o:Oper}{X:XF Unit}{d:Nat}{e:TypeId}{szs:List Nat}{zs:List AU}(ho:o.op=.alloc e)(hd:o.dst=some d)(hlt:d < C.nt)(hin:opsIn C.nt o=true)(hnt:C.nt≤H)
  (hz:zerosOf C.P e szs=some zs) (ht:zs.all treeV=true):OpOk C o X (allocV X d zs) :=
 OpOk.of_val hd hlt hin fun XL β I rg w he R=>by
  subst he
  obtain⟨z,h1,h2,h3,h4⟩:=zerosOf_ok hz
  have hd1:d < 10000:=by unfold H at hnt;omega
  generalize hl:List.zipWith lcst szs z.cells.toList=lzs at h3
  have hfp:∀ b o,¬ fpL lzs b o:=by
   intro b o hb
   obtain⟨c,hc,hcb⟩:=fpL_iff.1 hb
   obtain⟨i,hi⟩:=List.getElem?_of_mem hc
   rw[← hl] at hi
   obtain⟨s,x,_,_,rfl⟩:=zip_facts h2 hi
   exact (lcst_ok (X:=XL) (β:=β) (w:=w) (I:=I) s x).2.2.2.2.1 b o hcb
  have hmem:∀ c ∈ lzs,Mem w I c∧Sep c:=by
   intro c hc
   obtain⟨i,hi⟩:=List.getElem?_of_mem hc
   rw[← hl] at hi
   obtain⟨s,x,_,_,rfl⟩:=zip_facts h2 hi
   have:=lcst_ok (X:=XL) (β:=β) (w:=w) (I:=I) s x
   exact⟨this.2.2.1,this.2.2.2.2.2⟩
  have hlen:lzs.length=z.cells.toList.length:=by rw[← hl];simp[h2]
  have R1:=R.fresh H (by decide) [] (by simp) (Frame.refl _ w) (v:=.agg lzs) (x:=.agg z.cells.toList.toArray)
   (by simp only[Mem];exact MemA_iff.2 fun c hc=>(hmem c hc).1)
   (by simp only[Sep];exact SepL_iff.2 ⟨fun c hc=>(hmem c hc).2,fun i j u v _ hu hv b o h1 _=>hfp b o (fpL_iff.2 ⟨u,List.mem_of_getElem? hu,h1⟩)⟩)
   (by
    simp only[RR]
    refine⟨_,rfl,RRL_iff.2 ⟨hlen,fun i c x hc hx=>?_⟩⟩
    rw[← hl] at hc
    obtain⟨s,y,_,hy,rfl⟩:=zip_facts h2 hc
    rw[hx] at hy;cases hy
    exact (lcst_ok (X:=XL) (β:=β) (w:=w) (I:=I) s x).2.1)
   (by simp only[fp];intro b o hb;exact absurd hb (hfp b o))
  simp only[List.foldl_nil] at R1
  have hXH:((XL.set (100 * H) (.agg lzs)) (100 * H)).2=.agg lzs:=by rw[XF.set_self]
  have R2:=newbox_ok R1 d hd1 e lzs z.cells.toList (.inl hXH) (fun c hc=>by
   rw[List.all_eq_true] at ht
   rw[← er_treeV];exact ht _ (by rw[h3];exact List.mem_map_of_mem hc)) (by simp[Value.cells])
  refine⟨.pointer (some ⟨w.heap.size,0,none⟩),{ w with heap:=w.heap.push (.cells z.cells.toList.toArray e (0,0)) },_,_,_,_,?_,?_,R2,by simp,fun t ht1 ht2=>by simp[ht1,show t ≠ H from by unfold H at hnt ⊢;omega]⟩
  ·simp only[execOp,ho,Instr.alloc,Sem.run_bind,h1,Result.andThen_ok,newVar,newRow,newObj,Sem.run_pure,Sem.run]
  ·rw[erF_set,erF_set,erF_box,erF_set,h3]
   simp only[allocV,finB,h3]
   congr 2
   ·simp[er,erL_eq]
   ·rw[XF.set_ne _ _ (by unfold H;omega)];rfl
end Go.OT
namespace Go.OT
inductive Ex where
 | nrm
 | ext (id:Nat)
 | ret
def CQ (C:Ctx)(Q:Ex→XF Unit→Prop):Exit→Act→World→Prop
 | .normal,a,w=>a.defers=[]∧∃ X,RelT C X a.tmps w∧Q .nrm X
 | .exit id,a,w=>a.defers=[]∧∃ X,RelT C X a.tmps w∧Q (.ext id) X
 | .ret,a,w=>a.defers=[]∧∃ X,RelT C X a.tmps w∧Q .ret X
 | _,_,_=>False
def AWp (C:Ctx)(c:Code)(X:XF Unit)(Q:Ex→XF Unit→Prop):Prop :=
 ∀ a w,a.defers=[]→RelT C X a.tmps w→c.wp C.P (CQ C Q) a w
section
variable {C:Ctx} {X:XF Unit} {Q:Ex→XF Unit→Prop}
theorem AWp.skip (h:Q .nrm X):AWp C .skip X Q:=fun a w hd hr=>wp_skip ⟨hd,X,hr,h⟩
theorem AWp.label {l:Nat}(h:Q .nrm X):AWp C (.label l) X Q:=fun a w hd hr=>wp_label ⟨hd,X,hr,h⟩
theorem AWp.exit {id:Nat}(h:Q (.ext id) X):AWp C (.exit id) X Q:=fun a w hd hr=>wp_exit ⟨hd,X,hr,h⟩
theorem AWp.ret (h:Q .ret X):AWp C .ret X Q:=fun a w hd hr=>wp_ret ⟨hd,X,hr,h⟩
def Ex.then (next:XF Unit→Prop)(Q:Ex→XF Unit→Prop):Ex→XF Unit→Prop
 | .nrm,X=>next X
 | e,X=>Q e X
theorem AWp.seq {x y:Code}(h:AWp C x X (Ex.then (fun X'=>AWp C y X' Q) Q)):AWp C (.seq x y) X Q:=by
 intro a w hd hr
 refine wp_seq (wp_mono (h a w hd hr) fun e a w hq=>?_)
 cases e with
 | normal =>
  obtain⟨h1,X',h2,h3⟩:=hq
  exact h3 a w h1 h2
 | exit id=>exact hq
 | ret=>exact hq
 | goto l=>exact hq
 | panic c=>exact hq
 | outgrown=>exact hq
theorem AWp.cond {c:Operand}{sz:Nat}{co:COd}{x y:Code}{b:Bool}(hc:compOd C.nt sz c=some co)(hb:rd X co=.sc (.bool b))(ht:b=true→AWp C x X Q)(hf:b=false→AWp C y X Q):AWp C (.cond c x y) X Q:=by
 intro a w hd hr
 have hev:a.eval c=.bool b:=by
  obtain⟨XL,β,I,rg,he,R,hs,hrg⟩:=hr
  have h:=opd R hc
  rw[he,hb] at h
  have:=h.sc
  cases c with
  | tmp t =>
   by_cases hlt:t < C.nt
   ·show a.tmps.getD t undef=_
    rw[hrg t hlt];exact this
   ·simp[compOd,hlt] at hc
  | const v=>exact this
  | func f=>exact this
  | global g=>exact this
 exact wp_cond_split hev (fun h=>ht h a w hd hr) (fun h=>hf h a w hd hr)
def Ex.blk (id:Nat)(Q:Ex→XF Unit→Prop):Ex→XF Unit→Prop
 | .ext id',X=>if id'=id then Q .nrm X else Q (.ext id') X
 | e,X=>Q e X
theorem AWp.block {id:Nat}{x:Code}(h:AWp C x X (Ex.blk id Q)):AWp C (.block id x) X Q:=by
 intro a w hd hr
 refine wp_block (wp_mono (h a w hd hr) fun e a w hq=>?_)
 cases e with
 | exit id' =>
  obtain⟨h1,X',h2,h3⟩:=hq
  simp only[Ex.blk] at h3
  simp only[Exit.inBlock]
  split<;>rename_i e
  ·rw[if_pos e] at h3;exact⟨h1,X',h2,h3⟩
  ·rw[if_neg e] at h3;exact⟨h1,X',h2,h3⟩
 | normal=>exact hq
 | ret=>exact hq
 | goto l=>exact hq
 | panic c=>exact hq
 | outgrown=>exact hq
theorem AWp.scope {x:Code}(h:AWp C x X Q):AWp C (.scope x) X Q:=by
 intro a w hd hr
 refine wp_scope_straight (wp_mono (h a w hd hr) fun e a w hq=>?_)
 cases e<;>first | exact hq | exact hq.elim
theorem AWp.loop {ι:Type}{body:Code}(S:ι→XF Unit) (μ:ι→Nat)(i:ι)(h:∀ i,AWp C body (S i) (Ex.then (fun X'=>∃ j,X'=S j∧μ j < μ i) Q)):AWp C (.loop body) (S i) Q:=by
 intro a0 w0 hd0 hr0 b k cs
 have key:∀ n i,μ i=n→∀ a w,a.defers=[]→RelT C (S i) a.tmps w →
   ∃ e a' w',CQ C Q e a' w'∧Arrives C.P (lone (b.at a (.code body :: .inLoop body :: k)) cs w) b k cs e a' w':=by
  intro n
  induction n using Nat.strongRecOn with
  | _ n ih =>
   intro i hn a w hd hr
   obtain⟨e,a₁,w₁,hq,harr⟩:=h i a w hd hr b (.inLoop body :: k) cs
   cases e with
   | normal =>
    obtain⟨h1,X',h2,j,rfl,hlt⟩:=hq
    obtain⟨e₂,a₂,w₂,hq₂,harr₂⟩:=ih (μ j) (hn ▸ hlt) j rfl a₁ w₁ h1 h2
    exact⟨e₂,a₂,w₂,hq₂,.of_steps (Steps.trans harr (.one step_inLoop)) harr₂⟩
   | exit id=>exact ⟨.exit id,a₁,w₁,hq,.pass (x:=.inLoop body) rfl (fun _ _=>.inl (by simp)) harr⟩
   | ret=>exact ⟨.ret,a₁,w₁,hq,.pass (x:=.inLoop body) rfl (fun _ _=>.inl (by simp)) harr⟩
   | goto l=>exact hq.elim
   | panic ch=>exact hq.elim
   | outgrown=>exact hq.elim
 obtain⟨e,a',w',hq,harr⟩:=key _ i rfl a0 w0 hd0 hr0
 exact⟨e,a',w',hq,.of_steps (.one step_loop) harr⟩
end
mutual
def roots {L:Type}:AV L→List Nat
 | .view k _ _ _ _=>[k]
 | .ptr k _ _ _=>[k]
 | .bptr b _ _=>[100 * b+99]
 | .mv k _ _=>[k]
 | .agg cs=>rootsL cs
 | .tuple cs=>rootsL cs
 | .clos _ cs=>rootsL cs
 | _=>[]
def rootsL {L:Type}:List (AV L)→List Nat
 | []=>[]
 | c :: cs=>roots c ++ rootsL cs
end
mutual
theorem er_roots:∀ v:AL,roots (er v)=roots v
 | .agg cs=>by simp only[er,roots];exact er_rootsL cs
 | .tuple cs=>by simp only[er,roots];exact er_rootsL cs
 | .clos _ cs=>by simp only[er,roots];exact er_rootsL cs
 | .sl _ _ _ _ _ | .bx _ _ _ | .sc _ | .view _ _ _ _ _ | .ptr _ _ _ _ | .bptr _ _ _ | .vptr _ _ | .mp _ _ _ | .mv _ _ _ | .dead | .non=>by simp[er,roots]
theorem er_rootsL:∀ vs:List AL,rootsL (erL vs)=rootsL vs
 | []=>rfl
 | v :: vs=>by simp only[erL,rootsL,er_roots v,er_rootsL vs]
end
mutual
theorem RR_roots {X X':XF LO} {β:Nat→Nat × Nat}:∀ (v:AL) (x:Value),(∀ k ∈ roots v,X' k=X k)→RR X β v x→RR X' β v x
 | .view k g p off len,x,hk,h=>by
  have:=hk k (by simp[roots])
  simp only[RR,this] at h ⊢;exact h
 | .ptr k g p i,x,hk,h=>by
  have:=hk k (by simp[roots])
  simp only[RR,this] at h ⊢;exact h
 | .bptr b g i,x,hk,h=>by
  have:=hk (100 * b+99) (by simp[roots])
  simp only[RR,this] at h ⊢;exact h
 | .agg cs,x,hk,h=>by
  simp only[RR] at h ⊢
  obtain⟨xs,h1,h2⟩:=h
  exact⟨xs,h1,RRL_roots cs xs (by simpa [roots] using hk) h2⟩
 | .tuple cs,x,hk,h=>by
  simp only[RR] at h ⊢
  obtain⟨xs,h1,h2⟩:=h
  exact⟨xs,h1,RRL_roots cs xs (by simpa [roots] using hk) h2⟩
 | .clos f cs,x,hk,h=>by
  simp only[RR] at h ⊢
  obtain⟨xs,h1,h2⟩:=h
  exact⟨xs,h1,RRL_roots cs xs (by simpa [roots] using hk) h2⟩
 | .vptr l cs,x,_,h=>by simpa [RR] using h
 | .mv k g p,x,hk,h=>by
  have:=hk k (by simp[roots])
  simp only[RR,this] at h ⊢;exact h
 | .mp o l cs,x,_,h=>by simpa [RR] using h
 | .non,_,_,_=>by simp[RR]
 | .dead,_,_,_=>by simp[RR]
 | .sc v,x,_,h=>by simpa [RR] using h
 | .sl o l s n cs,x,_,h=>by simpa [RR] using h
 | .bx o l cs,x,_,h=>by simpa [RR] using h
theorem RRL_roots {X X':XF LO} {β:Nat→Nat × Nat}:∀ (vs:List AL) (xs:List Value),(∀ k ∈ rootsL vs,X' k=X k)→RRL X β vs xs→RRL X' β vs xs
 | [],_,_,h=>by simpa [RRL] using h
 | v :: vs,xs,hk,h=>by
  simp only[RRL] at h ⊢
  obtain⟨y,ys,h1,h2,h3⟩:=h
  exact⟨y,ys,h1,RR_roots v y (fun k hm=>hk k (by simp[rootsL,hm])) h2,RRL_roots vs ys (fun k hm=>hk k (by simp[rootsL,hm])) h3⟩
end
def fnL:List (Nat × Nat × AU)→XF Unit
 | [],_=>(0,.non)
 | (k,e) :: l,j=>if j=k then e else fnL l j
def GStep (C:Ctx)(ops:Array Oper)(o:Oper)(X X':XF Unit):Prop :=
 match o.guard with
 | none=>OpOk C o X X'
 | some (j,want)=>∃ t b,(ops[j]?).bind (·.dst)=some t∧t < C.nt∧(X (100 * t)).2=.sc (.bool b) ∧
   if b=want then OpOk C o X X' else ∃ d,o.dst=some d∧d < C.nt∧X'=X.set (100 * d) .non
theorem RelT.bool {C:Ctx}{X:XF Unit}{a:Act}{w:World}(h:RelT C X a.tmps w){t:Nat}{b:Bool}(ht:t < C.nt)(hb:(X (100 * t)).2=.sc (.bool b)):a.tmps[t]?=some (.bool b):=by
 obtain⟨XL,β,I,rg,he,R,hs,hrg⟩:=h
 subst he
 have hr:=R.reg t
 rw[er_sc (lv:=(XL (100 * t)).2) hb] at hr
 simp only[RR] at hr
 have:=hrg t ht
 rw[hr] at this
 simp only[Array.getD_eq_getD_getElem?] at this
 cases hq:a.tmps[t]? with
 | none=>rw [Array.getElem?_eq_none_iff] at hq;omega
 | some v=>simp [hq] at this;rw[this]
theorem RelT.skipped {C:Ctx}{X:XF Unit}{a:Act}{w:World}(h:RelT C X a.tmps w){d:Nat}(hd:d < C.nt):RelT C (X.set (100 * d) .non) (a.put (some d) undef).tmps w:=by
 obtain⟨XL,β,I,rg,he,R,hs,hrg⟩:=h
 subst he
 refine⟨_,β,I,_,by rw[erF_set];rfl,R.setR d (by have:=C.hnt;omega) (v:=.non) (x:=undef) rfl (by simp[Mem]) (by simp[RR]),by simp[Act.put,hs],fun t ht=>?_⟩
 simp only[Act.put]
 by_cases e:t=d
 ·subst e;simp[Array.getD_eq_getD_getElem?,hs,ht]
 ·simp only[e,if_false]
  rw[← hrg t ht]
  simp[Array.getD_eq_getD_getElem?,Array.getElem?_setIfInBounds_ne (Ne.symm e)]
theorem GStep.wpOp {C:Ctx}{ops:Array Oper}{i:Nat}{o:Oper}{X X':XF Unit}(hi:ops[i]?=some o)(h:GStep C ops o X X'){a:Act}{w:World}(hd:a.defers=[])(hr:RelT C X a.tmps w)
  {K:Act→World→Prop} {Q:Exit→Act→World→Prop} (hK:∀ a' w',a'.defers=[]→RelT C X' a'.tmps w'→K a' w'):wpOp C.P ops Q i K a w:=by
 unfold Go.wpOp
 simp only[hi]
 unfold GStep at h
 cases hg:o.guard with
 | none =>
  simp only[hg] at h
  simp only[Region.wanted,hg,if_true]
  exact .inl (h a w hd hr K Q hK)
 | some jw =>
  obtain⟨j,want⟩:=jw
  simp only[hg] at h
  obtain⟨t,b,h1,h2,h3,h4⟩:=h
  have hb:=hr.bool h2 h3
  have hy:yielded ops a.tmps j=some b:=by simp[yielded,h1,hb]
  simp only[Region.wanted,hg,hy]
  by_cases e:b=want
  ·subst e
   simp only[if_true] at h4
   simp only[beq_self_eq_true,if_true]
   exact .inl (h4 a w hd hr K Q hK)
  ·rw[if_neg e] at h4
   obtain⟨d,hd1,hd2,rfl⟩:=h4
   have:(some b == some want)=false:=by simp[e]
   simp only[this,Bool.false_eq_true,if_false,hd1]
   exact hK _ _ (by simp[Act.put,hd]) (hr.skipped hd2)
inductive Run (C:Ctx) (ops:Array Oper):List Nat→XF Unit→XF Unit→Prop
 | nil {X:XF Unit}:Run C ops [] X X
 | cons {i:Nat} {o:Oper} {l:List Nat} {X X1 X':XF Unit} (hi:ops[i]?=some o) (h:GStep C ops o X X1) (r:Run C ops l X1 X'):Run C ops (i :: l) X X'
theorem Run.wpOps {C:Ctx}{ops:Array Oper}{l:List Nat}{X X':XF Unit}(h:Run C ops l X X'):∀ {a:Act} {w:World} (hd:a.defers=[]) (hr:RelT C X a.tmps w) {Q:Exit→Act→World→Prop},
  (∀ a' w',a'.defers=[]→RelT C X' a'.tmps w'→Q .normal a' w')→wpOps C.P ops Q l a w:=by
 induction h with
 | nil=>intro a w hd hr Q hK;simp only[Go.wpOps];exact hK a w hd hr
 | cons hi h _ ih =>
  intro a w hd hr Q hK
  rw[wpOps_cons]
  exact h.wpOp hi hd hr (fun a' w' hd' hr'=>ih hd' hr' hK)
theorem AWp.region {C:Ctx}{id:Nat}{ops:Array Oper}{X X':XF Unit}{Q:Ex→XF Unit→Prop}(h:Run C ops (List.range ops.size) X X')(hq:Q .nrm X'):AWp C (.region id ops false) X Q :=
 fun a w hd hr=>wp_region (h.wpOps hd hr fun a' w' hd' hr'=>⟨hd',X',hr',hq⟩)
end Go.OT
namespace Go.OT
inductive Gh (L:Type) where
 | box (cells:List (AV L))
 | nod (v:AV L)
 deriving Inhabited
def initV {L:Type}(gs:List (Gh L))(as:List (AV L))(k:Nat):AV L :=
 if k / 100 < 10000 then (if k % 100=0 then as.getD (k / 100) .non else .non)
 else match gs[k / 100 - 10000]? with
  | some (.box cs)=>if k % 100=0∨k % 100=99 then .non else cs.getD (k % 100 - 1) .non
  | some (.nod v)=>if k % 100=0 then v else .non
  | none=>.non
def initX {L:Type}(gs:List (Gh L))(as:List (AV L)):XF L:=fun k=>(0,initV gs as k)
def Fin (X:XF Unit)(gs:List (Gh Unit))(r:AU):Prop :=
 (X (100 * RS)).2=r∧∀ (j:Nat) (g:Gh Unit),gs[j]?=some g→match g with
  | .box cs=>∀ (i:Nat) (c:AU),cs[i]?=some c→i < 98→(X (100 * (10000+j)+1+i)).2=c
  | .nod v=>(X (100 * (10000+j))).2=v
def Fn (P:Program)(f:FuncId)(gs:List (Gh Unit))(as:List AU)(gs':List (Gh Unit))(r:AU):Prop :=
 ∀ (C:Ctx) (XL:XF LO) (β:Nat→Nat × Nat) (I:ASet) (rg:Nat→Value) (w:World) (args:Array Value),C.P=P→erF XL=initX gs as→RelL C XL β I rg w →
  args.size=as.length→(∀ t,t < as.length→args.getD t undef=rg t) →
  Calls P f args w fun e w'=>∃ x XL' β' I' rg',e=.returned x∧RelL C XL' β' I' rg' w'∧rg' RS=x∧Fin (erF XL') gs' r
inductive CRV where
 | t (n:Nat)
 | cell (a n:Nat) (ag:Bool)
def resV1 (X:XF Unit):CRV→Option (XF Unit)
 | .t n=>takeC X (.t n)
 | .cell a n ag=>(ldCells X (rd X (.t a)) n).bind fun cs =>
   let v:=if ag then AV.agg cs else cs.getD 0 .non
   if flat v=true∧noOwn v=true then takeV X v else none
def resAll (X:XF Unit):Nat→List CRV→Option (XF Unit)
 | _,[]=>some X
 | i,r :: rs=>(resV1 X r).bind fun X1=>resAll ((X1.set (100 * (RS+1+i)) (X1 (100 * H)).2).set (100 * H) .non) (i+1) rs
def gatherT {L:Type}(X:XF L)(n:Nat):XF L :=
 if n=1 then (X.set (100 * RS) (X (100 * (RS+1))).2).set (100 * (RS+1)) .non
 else clr (X.set (100 * RS) (.tuple (gather X (RS+1) n))) (RS+1) n
def resX (X:XF Unit)(rs:List CRV):Option (XF Unit):=(resAll X 0 rs).map fun X1=>gatherT X1 rs.length
def resSem (tm:Array Value):ResultVar→Sem Value
 | .tmp t=>Pure.pure (tm.getD t undef)
 | .cell a t=>do loadVar t (← asAddr (tm.getD a undef))
theorem results_eq (fn:Func)(tm:Array Value):results fn tm=(do
  let vs ← fn.results.mapM (resSem tm)
  Pure.pure (if h:vs.size=1 then vs[0] else .tuple vs)):=by
 unfold results
 congr 1
def crvOk (P:Program)(nt:Nat):ResultVar→CRV→Prop
 | .tmp t,.t n=>t=n∧t < nt
 | .cell a ty,.cell a' n ag=>a=a'∧a < nt∧isAggT P ty=some ag∧sizeT P ty=some n∧(ag=false→n=1)
 | _,_=>False
section
variable {C:Ctx} {X:XF LO} {β:Nat→Nat × Nat} {I:ASet} {rg:Nat→Value} {w:World}
theorem resV1_ok (R:RelL C X β I rg w){rv:ResultVar}{r:CRV}(hr:crvOk C.P C.nt rv r){X':XF Unit}(h:resV1 (erF X) r=some X')(tm:Array Value)(htm:∀ t,t < C.nt→tm.getD t undef=rg t) :
  ∃ XL rg' x,erF XL=X'∧RelL C XL β I rg' w∧rg' H=x∧(∀ t,t < H∨RS≤t→rg' t=rg t) ∧
   (resSem tm rv).run C.P w=.ok x w:=by
 cases rv with
 | tmp t =>
  cases r with
  | cell a n ag=>simp [crvOk] at hr
  | t n =>
   simp only[crvOk] at hr
   obtain⟨rfl,hlt⟩:=hr
   simp only[resV1] at h
   obtain⟨XL,rg',e1,R1,_,e2,e3⟩:=takeO_ok (x:=.tmp t) (sz:=0) R (by have:=C.hnt;unfold H;omega) (by simp[compOd,hlt]) h
   exact⟨XL,rg',_,e1,R1,e2,e3,by simp[resSem,evR,htm t hlt]⟩
 | cell a ty =>
  cases r with
  | t n=>simp [crvOk] at hr
  | cell a' n ag =>
   simp only[crvOk] at hr
   obtain⟨rfl,hlt,hag,hn,h1⟩:=hr
   simp only[resV1] at h
   have hop:=opd (x:=.tmp a) (sz:=0) (nt:=C.nt) (c:=.t a) R (by simp[compOd,hlt])
   cases hl:ldCells (erF X) (rd (erF X) (.t a)) n with
   | none=>simp [hl] at h
   | some cs =>
    simp only[hl,Option.bind_some] at h
    generalize hv0:(if ag then AV.agg cs else cs.getD 0 .non)=v0 at h
    split at h
    ·rename_i hfl
     obtain⟨b,off,xs,lcs,hx,h2,h3,h4,h5,h6⟩:=ldCells_ok R hop hl
     have hrun:=run_loadVar (P:=C.P) hag hn h1 h2 h3
     have hv:∃ lv,er lv=(if ag then AV.agg cs else cs.getD 0 .non)∧RR X β lv (if ag then .agg xs.toArray else xs.getD 0 undef)∧Mem w I lv:=by
      refine⟨if ag then .agg lcs else lcs.getD 0 .non,?_,?_,?_⟩
      ·cases ag with
       | true=>simp [er,erL_eq,h4]
       | false =>
        simp only[Bool.false_eq_true,if_false,← h4,List.getD_eq_getElem?_getD,List.getElem?_map]
        cases lcs[0]?<;>simp [er]
      ·cases ag with
       | true=>simp only[if_true,RR];exact⟨xs,rfl,h5⟩
       | false =>
        simp only[Bool.false_eq_true,if_false,List.getD_eq_getElem?_getD]
        rw[RRL_iff] at h5
        cases hh:lcs[0]? with
        | none=>simp [RR]
        | some c0 =>
         have hlt0:0 < xs.length:=by rw[← h5.1];exact (List.getElem?_eq_some_iff.1 hh).1
         have hx0:xs[0]?=some xs[0]:=List.getElem?_eq_getElem hlt0
         rw[hx0]
         exact h5.2 0 c0 _ hh hx0
      ·cases ag with
       | true=>simpa [Mem] using h6
       | false =>
        simp only[Bool.false_eq_true,if_false,List.getD_eq_getElem?_getD]
        cases hh:lcs[0]? with
        | none=>simp [Mem]
        | some c0=>exact MemA_iff.1 h6 c0 (List.mem_of_getElem? hh)
     obtain⟨lv,g1,g2,g3⟩:=hv
     have hno:noOwn lv=true:=by rw[← er_noOwn,g1,hv0];exact hfl.2
     obtain⟨XL,rg',e1,R1,_,e2,e3⟩:=takeV_ok R ⟨lv,g1.trans hv0,g2,g3,fun _=>(noOwn_spec lv hno).1,fun vs e=>by subst e;simpa [noOwn] using hno⟩
      (fun vs e=>by subst e;simpa [flat] using hfl.1) h
     refine⟨XL,rg',_,e1,R1,e2,e3,?_⟩
     have hx':tm.getD a undef=.pointer (some ⟨b,off,none⟩):=by rw[htm a hlt];exact hx
     simp only[resSem,hx',asAddr,Sem.run_bind,Sem.run_pure,Result.andThen_ok,hrun]
    ·cases h
theorem mapM_results {P:Program}{w:World}(f:ResultVar→Sem Value):∀ (l:List ResultVar) (xs:List Value),l.length=xs.length→(∀ (i:Nat) (r:ResultVar) (x:Value),l[i]?=some r→xs[i]?=some x→(f r).run P w=.ok x w)→(l.mapM f).run P w=.ok xs w
 | [],xs,h,_=>by
  have:xs=[]:=by simpa using h.symm
  subst this;simp
 | r :: l,xs,h,hf=>by
  cases xs with
  | nil=>simp at h
  | cons x xs =>
   have ih:=mapM_results f l xs (by simpa using h) (fun i r x h1 h2=>hf (i+1) r x (by simpa using h1) (by simpa using h2))
   have h0:=hf 0 r x rfl rfl
   simp only[List.mapM_cons,Sem.run_bind,h0,Result.andThen_ok,ih,Sem.run_pure]
theorem resAll_ok:∀ (rvs:List ResultVar) (rs:List CRV) (i:Nat) (X:XF LO) (rg:Nat→Value) (X':XF Unit) (tm:Array Value),RelL C X β I rg w→rvs.length=rs.length→i+rs.length≤400 →
  (∀ (j:Nat) (rv:ResultVar) (r:CRV),rvs[j]?=some rv→rs[j]?=some r→crvOk C.P C.nt rv r)→(∀ t,t < C.nt→tm.getD t undef=rg t)→resAll (erF X) i rs=some X' →
  ∃ (XL:XF LO) (rg':Nat→Value) (xs:List Value),erF XL=X'∧RelL C XL β I rg' w∧xs.length=rs.length∧(∀ (j:Nat) (x:Value),xs[j]?=some x→rg' (RS+1+i+j)=x)∧(∀ t,RS+1≤t→t < RS+1+i→rg' t=rg t) ∧
   (∀ (j:Nat) (rv:ResultVar) (x:Value),rvs[j]?=some rv→xs[j]?=some x→(resSem tm rv).run C.P w=.ok x w)
 | [],rs,i,X,rg,X',tm,R,hlen,_,_,_,h=>by
  have:rs=[]:=by simpa using hlen.symm
  subst this
  simp only[resAll,Option.some.injEq] at h
  exact⟨X,rg,[],h,R,rfl,by simp,fun _ _ _=>rfl,by simp⟩
 | rv :: rvs,rs,i,X,rg,X',tm,R,hlen,hi,hcr,htm,h=>by
  cases rs with
  | nil=>simp at hlen
  | cons r rs =>
   simp only[resAll] at h
   cases h1:resV1 (erF X) r with
   | none=>simp [h1] at h
   | some X1 =>
    simp only[h1,Option.bind_some] at h
    obtain⟨XL1,rg1,x,e1,R1,e2,e3,e4⟩:=resV1_ok R (hcr 0 rv r rfl rfl) h1 tm htm
    have hlim:i+1≤400:=by simp at hi;omega
    have R2:=R1.moveR (RS+1+i) H (by unfold RS;omega) (by unfold RS H;omega)
    subst e1
    have hE:((erF XL1).set (100 * (RS+1+i)) (erF XL1 (100 * H)).2).set (100 * H) .non=erF ((XL1.set (100 * (RS+1+i)) (XL1 (100 * H)).2).set (100 * H) .non):=by rw[erF_set,erF_set];rfl
    rw[hE] at h
    obtain⟨XL,rg',xs,f1,f2,f3,f4,f5,f6⟩:=resAll_ok rvs rs (i+1) _ _ X' tm R2 (by simpa using hlen) (by simp at hi;omega) (fun j rv r h1 h2=>hcr (j+1) rv r (by simpa using h1) (by simpa using h2))
     (fun t ht=>by
      have h9:=C.hnt
      simp only[show t ≠ RS+1+i from by unfold RS;omega,if_false]
      rw[e3 t (.inl (by unfold H;omega))];exact htm t ht) h
    refine⟨XL,rg',x :: xs,f1,f2,by simp[f3],fun j y hy=>?_,fun t ht1 ht2=>?_,fun j rv' y h1 h2=>?_⟩
    ·cases j with
     | zero =>
      simp at hy;subst hy
      rw[Nat.add_zero,f5 _ (by omega) (by omega)]
      simp[e2]
     | succ j =>
      simp at hy
      have:=f4 j y hy
      rwa [show RS+1+i+(j+1)=RS+1+(i+1)+j by omega]
    ·rw[f5 t ht1 (by omega)]
     simp only[show t ≠ RS+1+i from by omega,if_false]
     exact e3 t (.inr (by omega))
    ·cases j with
     | zero=>simp at h1 h2;subst h1 h2;exact e4
     | succ j=>exact f6 j rv' y (by simpa using h1) (by simpa using h2)
theorem resX_ok (R:RelL C X β I rg w){fn:Func}{rs:List CRV}{X':XF Unit}{tm:Array Value}(hlen:fn.results.toList.length=rs.length)(h400:rs.length≤400)
  (hcr:∀ (j:Nat) (rv:ResultVar) (r:CRV),fn.results.toList[j]?=some rv→rs[j]?=some r→crvOk C.P C.nt rv r) (htm:∀ t,t < C.nt→tm.getD t undef=rg t) (h:resX (erF X) rs=some X') :
  ∃ XL rg' x,erF XL=X'∧RelL C XL β I rg' w∧rg' RS=x∧(results fn tm).run C.P w=.ok x w:=by
 simp only[resX,Option.map_eq_some_iff] at h
 obtain⟨X1,h1,h2⟩:=h
 obtain⟨XL,rg1,xs,e1,R1,e2,e3,_,e5⟩:=resAll_ok fn.results.toList rs 0 X rg X1 tm R hlen (by omega) hcr htm h1
 have hrun:(results fn tm).run C.P w=.ok (if h:xs.toArray.size=1 then xs.toArray[0] else .tuple xs.toArray) w:=by
  rw[results_eq,← Array.toArray_toList (xs:=fn.results),List.mapM_toArray]
  have:=mapM_results (P:=C.P) (w:=w) (resSem tm) fn.results.toList xs (by omega) (fun i r x h1 h2=>e5 i r x h1 h2)
  simp only[Sem.run_bind,Sem.run_map,this,Result.andThen_ok,Sem.run_pure]
 by_cases h1':rs.length=1
 ·have R2:=R1.moveR RS (RS+1) (by decide) (by decide)
  refine⟨_,_,_,?_,R2,rfl,?_⟩
  ·rw[erF_set,erF_set,← h2,gatherT,if_pos h1',← e1];rfl
  ·have hx1:xs.length=1:=by omega
   rw[hrun]
   obtain⟨y,rfl⟩:∃ y,xs=[y]:=by
    match xs,hx1 with
    | [y],_=>exact ⟨y,rfl⟩
   have:=e3 0 y rfl
   simp only[Nat.add_zero] at this
   simp[this]
 ·refine⟨clr (XL.set (100 * RS) (.tuple (gather XL (RS+1) rs.length))) (RS+1) rs.length,_,_,?_,gatherT_ok R1 RS (RS+1) rs.length (by decide) (fun j _=>by omega),rfl,?_⟩
  ·rw[erF_clr,erF_set,← h2,gatherT,if_neg h1',← e1]
   congr 2
   simp only[er,erL_eq,gather,List.map_map]
   congr 1
  ·rw[hrun]
   have hne:xs.length ≠ 1:=by omega
   simp only[List.size_toArray,hne,dif_neg,not_false_eq_true,if_true]
   congr 3
   apply List.ext_getElem?
   intro j
   by_cases hj:j < rs.length
   ·have hj':xs[j]?=some xs[j]:=List.getElem?_eq_getElem (by omega)
    have:=e3 j _ hj'
    simp only[Nat.add_zero] at this
    simp[hj,hj',this]
   ·simp[range_none hj,List.getElem?_eq_none (by omega:xs.length≤j)]
theorem RelL.nt {C':Ctx}(R:RelL C X β I rg w)(h1:C'.w0=C.w0)(h2:C'.K=C.K)(h3:C'.I0=C.I0)(h4:C'.β0=C.β0)(h5:C'.rg0=C.rg0):RelL C' X β I rg w :=
 ⟨R.reg,R.key,R.disj,R.imm,by rw[h1,h2];exact R.frK,by rw[h1,h2,h3];exact R.frI,by rw[h3];exact R.frI0,by rw[h1,h2];exact R.fr,by rw[h4];exact R.gh,by rw[h5];exact R.gr⟩
end
theorem Fn.of_body {P:Program}{f:FuncId}{fn:Func}{c:Code}{gs gs':List (Gh Unit)}{as:List AU}{r:AU}{rs:List CRV}(hf:P.funcs[f]?=some fn)(hb:fn.body=some c)(hn:fn.ntmps≤9000)
  (ha:as.length≤fn.ntmps) (hlen:fn.results.toList.length=rs.length) (h400:rs.length≤400)
  (hcr:∀ (j:Nat) (rv:ResultVar) (r:CRV),fn.results.toList[j]?=some rv→rs[j]?=some r→crvOk P fn.ntmps rv r)
  (h:∀ C:Ctx,C.P=P→C.nt=fn.ntmps→AWp C c (initX gs as) fun e X=>(e=.nrm∨e=.ret)∧∃ X',resX X rs=some X'∧Fin X' gs' r):Fn P f gs as gs' r:=by
 intro C XL β I rg w args hP he R hsz hargs
 subst hP
 let C':Ctx:={ C with nt:=fn.ntmps,hnt:=hn }
 have R':RelL C' XL β I rg w:=R.nt rfl rfl rfl rfl rfl
 refine calls_of_wp hf hb ?_
 refine wp_mono (h C' rfl rfl { tmps:=args ++ Array.replicate (fn.ntmps - args.size) undef,defers:=[] } w rfl ?_) fun e a w' hq=>?_
 ·-- the registers behind the arguments hold nothing that is known
  let rg1:Nat→Value:=fun t=>if t < as.length then rg t else if t < fn.ntmps then undef else rg t
  refine⟨XL,β,I,rg1,he,⟨fun t=>?_,R'.key,R'.disj,R'.imm,R'.frK,R'.frI,R'.frI0,R'.fr,R'.gh,fun t ht=>?_⟩,by show (args ++ Array.replicate (fn.ntmps - args.size) undef).size=fn.ntmps;simp;omega,fun t ht=>?_⟩
  ·have hr:=R'.reg t
   by_cases h1:t < as.length
   ·simpa only [rg1,h1,if_true] using hr
   ·by_cases h2:t < fn.ntmps
    ·have hnon:(XL (100 * t)).2=.non:=by
      have hk:=congrFun he (100 * t)
      have hk2:=congrArg Prod.snd hk
      simp only[erF,initX,initV] at hk2
      rw[if_pos (by omega),if_pos (by omega),show 100 * t / 100=t by omega,List.getD_eq_getElem?_getD,List.getElem?_eq_none (show as.length≤t by omega)] at hk2
      simp only[Option.getD_none] at hk2
      cases hx:(XL (100 * t)).2<;>simp [hx,er] at hk2<;>rfl
     rw[hnon];simp[RR]
    ·simpa only [rg1,h1,h2,if_false] using hr
  ·have h1:¬ t < as.length:=by omega
   have h2:¬ t < fn.ntmps:=by omega
   simp only[rg1,h1,h2,if_false]
   exact R'.gr t ht
  ·have ht':t < fn.ntmps:=ht
   by_cases h1:t < as.length
   ·simp only[rg1,h1,if_true]
    rw[← hargs t h1]
    simp[Array.getD_eq_getD_getElem?,Array.getElem?_append_left (show t < args.size by omega)]
   ·simp only[rg1,h1,ht',if_false,if_true]
    rw[Array.getD_eq_getD_getElem?,Array.getElem?_append_right (by omega),Array.getElem?_replicate]
    split<;>rfl
 ·have key:∀ X,a.defers=[]→RelT C' X a.tmps w'→(∃ X',resX X rs=some X'∧Fin X' gs' r)→a.defers=[]∧∃ v,(results fn a.tmps).run C.P w'=.ok v w' ∧
    ∃ x XL' β' I' rg',Ending.returned v=.returned x∧RelL C XL' β' I' rg' w'∧rg' RS=x∧Fin (erF XL') gs' r:=by
   rintro X hd ⟨XL1,β1,I1,rg1,e1,R1,hs1,ht1⟩ ⟨X',g1,g2⟩
   subst e1
   obtain⟨XL2,rg2,x,f1,f2,f3,f4⟩:=resX_ok (fn:=fn) R1 hlen h400 hcr ht1 g1
   exact⟨hd,x,f4,x,XL2,β1,I1,rg2,rfl,f2.nt rfl rfl rfl rfl rfl,f3,by rw[f1];exact g2⟩
  cases e with
  | normal=>obtain ⟨hd,X,hr,_,hx⟩:=hq;exact key X hd hr hx
  | ret=>obtain ⟨hd,X,hr,_,hx⟩:=hq;exact key X hd hr hx
  | exit id=>obtain ⟨_,X,_,hx,_⟩:=hq;rcases hx with hx | hx<;>cases hx
  | goto l=>exact hq.elim
  | panic ch=>exact hq.elim
  | outgrown=>exact hq.elim
end Go.OT
namespace Go.OT
mutual
def noImm {L:Type}:AV L→Bool
 | .sl o _ _ _ cs=>o && noImmL cs
 | .bx o _ cs=>o && noImmL cs
 | .vptr _ _=>false
 | .agg cs=>noImmL cs
 | .tuple cs=>noImmL cs
 | .clos _ cs=>noImmL cs
 | .mp o _ cs=>o && noImmL cs
 | _=>true
def noImmL {L:Type}:List (AV L)→Bool
 | []=>true
 | c :: cs=>noImm c && noImmL cs
end
mutual
theorem er_noImm:∀ v:AL,noImm (er v)=noImm v
 | .agg cs=>by simp only[er,noImm];exact er_noImmL cs
 | .tuple cs=>by simp only[er,noImm];exact er_noImmL cs
 | .clos _ cs=>by simp only[er,noImm];exact er_noImmL cs
 | .sl _ _ _ _ cs=>by simp only[er,noImm];rw[er_noImmL cs]
 | .bx _ _ cs=>by simp only[er,noImm];rw[er_noImmL cs]
 | .mp _ _ cs=>by simp only[er,noImm];rw[er_noImmL cs]
 | .sc _ | .view _ _ _ _ _ | .ptr _ _ _ _ | .bptr _ _ _ | .vptr _ _ | .mv _ _ _ | .dead | .non=>by simp[er,noImm]
theorem er_noImmL:∀ vs:List AL,noImmL (erL vs)=noImmL vs
 | []=>rfl
 | v :: vs=>by simp only[erL,noImmL,er_noImm v,er_noImmL vs]
end
mutual
theorem Mem_noImm {w:World}{I I':ASet}:∀ (v:AL),noImm v=true→Mem w I v→Mem w I' v
 | .sl own none sz n cs,_,h=>by simpa [Mem] using h
 | .sl true (some l) sz n cs,hn,h=>by
  simp only[noImm,Bool.true_and] at hn
  simp only[Mem] at h ⊢
  exact⟨h.1,h.2.1,MemL_noImm cs l.b l.o hn h.2.2.1,h.2.2.2⟩
 | .sl false (some l) sz n cs,hn,_=>by simp[noImm] at hn
 | .bx true (some l) cs,hn,h=>by
  simp only[noImm,Bool.true_and] at hn
  simp only[Mem] at h ⊢
  exact MemL_noImm cs l.b l.o hn h
 | .bx false (some l) cs,hn,_=>by simp[noImm] at hn
 | .bx own none cs,_,h=>by simp[Mem] at h
 | .vptr _ _,hn,_=>by simp[noImm] at hn
 | .agg cs,hn,h=>by simp only[noImm,Mem] at hn h ⊢;exact MemA_noImm cs hn h
 | .tuple cs,hn,h=>by simp only[noImm,Mem] at hn h ⊢;exact MemA_noImm cs hn h
 | .clos _ cs,hn,h=>by simp only[noImm,Mem] at hn h ⊢;exact⟨MemA_noImm cs hn h.1,h.2⟩
 | .mp true (some l) cs,hn,h=>by
  simp only[noImm,Bool.true_and] at hn
  simp only[Mem] at h ⊢
  obtain⟨⟨es,ck,h1,h2,h3⟩,_⟩:=h
  exact⟨⟨es,ck,h1,h2,MemK_noImm cs _ hn h3⟩,fun e=>by cases e⟩
 | .mp false (some l) cs,hn,_=>by simp[noImm] at hn
 | .mp _ none cs,_,h=>by simp[Mem] at h
 | .sc _,_,_ | .view _ _ _ _ _,_,_ | .ptr _ _ _ _,_,_ | .bptr _ _ _,_,_ | .mv _ _ _,_,_ | .dead,_,_ | .non,_,_=>by simp[Mem]
theorem MemL_noImm {w:World}{I I':ASet}:∀ (cs:List AL) (b o:Nat),noImmL cs=true→MemL w I true cs b o→MemL w I' true cs b o
 | [],_,_,_,_=>by simp[MemL]
 | c :: cs,b,o,hn,h=>by
  simp only[noImmL,Bool.and_eq_true] at hn
  simp only[MemL] at h ⊢
  exact⟨h.1,Mem_noImm c hn.1 h.2.1,fun e=>by simp at e,MemL_noImm cs b (o+1) hn.2 h.2.2.2⟩
theorem MemA_noImm {w:World}{I I':ASet}:∀ (cs:List AL),noImmL cs=true→MemA w I cs→MemA w I' cs
 | [],_,_=>by simp[MemA]
 | c :: cs,hn,h=>by
  simp only[noImmL,Bool.and_eq_true] at hn
  simp only[MemA] at h ⊢
  exact⟨Mem_noImm c hn.1 h.1,MemA_noImm cs hn.2 h.2⟩
theorem MemK_noImm {w:World}{I I':ASet}:∀ (cs:List AL) (ys:List Value),noImmL cs=true→MemK w I cs ys→MemK w I' cs ys
 | [],_,_,h=>by simpa [MemK] using h
 | c :: cs,ys,hn,h=>by
  simp only[noImmL,Bool.and_eq_true] at hn
  simp only[MemK] at h ⊢
  obtain⟨y,r,h1,h2,h3,h4,h5⟩:=h
  exact⟨y,r,h1,h2,Mem_noImm c hn.1 h3,h4,MemK_noImm cs r hn.2 h5⟩
end
mutual
def lend {L:Type}:AV L→AV L
 | .sl _ l s n cs=>.sl false l s n (lendL cs)
 | .bx _ l cs=>.bx false l (lendL cs)
 | .agg cs=>.agg (lendL cs)
 | .tuple cs=>.tuple (lendL cs)
 | .mp _ l cs=>.mp false l cs
 | v=>v
def lendL {L:Type}:List (AV L)→List (AV L)
 | []=>[]
 | c :: cs=>lend c :: lendL cs
end
theorem lendL_eq {L:Type}(cs:List (AV L)):lendL cs=cs.map lend:=by
 induction cs with
 | nil=>rfl
 | cons c cs ih=>simp [lendL,ih]
mutual
theorem er_lend:∀ v:AL,er (lend v)=lend (er v)
 | .agg cs=>by simp only[er,lend];rw[er_lendL cs]
 | .tuple cs=>by simp only[er,lend];rw[er_lendL cs]
 | .sl _ _ _ _ cs=>by simp only[er,lend];rw[er_lendL cs]
 | .bx _ _ cs=>by simp only[er,lend];rw[er_lendL cs]
 | .clos _ _ | .mp _ _ _ | .sc _ | .view _ _ _ _ _ | .ptr _ _ _ _ | .bptr _ _ _ | .vptr _ _ | .mv _ _ _ | .dead | .non=>by simp[er,lend]
theorem er_lendL:∀ vs:List AL,erL (lendL vs)=lendL (erL vs)
 | []=>rfl
 | v :: vs=>by simp only[erL,lendL,er_lend v,er_lendL vs]
end
theorem CR_lend {v:AL}{x:Value}(h:CR v x):CR (lend v) x:=by
 cases v with
 | sl o l s n cs =>
  cases l with
  | none =>
   simp only[CR] at h
   simp only[lend,CR,true_and]
   exact⟨h.1.elim .inl (fun e=>.inr e.2),h.2⟩
  | some l=>simpa [lend,CR] using h
 | bx o l cs =>
  cases l with
  | none=>simp [CR] at h
  | some l=>simpa [lend,CR] using h
 | agg cs=>simp [CR] at h
 | tuple cs=>simp [CR] at h
 | mp o l cs =>
  cases l with
  | none=>simp [CR] at h
  | some l=>simpa [lend,CR] using h
 | _=>simpa [lend] using h
mutual
theorem fp_lend:∀ (v:AL) (b o:Nat),¬ fp (lend v) b o
 | .agg cs,b,o,h=>by simp only[lend,fp] at h;exact fpL_lend cs b o h
 | .tuple cs,b,o,h=>by simp only[lend,fp] at h;exact fpL_lend cs b o h
 | .sl _ _ _ _ cs,b,o,h=>by simp[lend,fp] at h
 | .bx _ _ cs,b,o,h=>by simp[lend,fp] at h
 | .clos _ _,_,_,h | .mp _ _ _,_,_,h | .mv _ _ _,_,_,h | .sc _,_,_,h | .view _ _ _ _ _,_,_,h | .ptr _ _ _ _,_,_,h | .bptr _ _ _,_,_,h | .vptr _ _,_,_,h | .dead,_,_,h | .non,_,_,h=>by simp[lend,fp] at h
theorem fpL_lend:∀ (vs:List AL) (b o:Nat),¬ fpL (lendL vs) b o
 | [],_,_,h=>by simp[lendL,fpL] at h
 | v :: vs,b,o,h=>by
  simp only[lendL,fpL] at h
  exact h.elim (fp_lend v b o) (fpL_lend vs b o)
end
mutual
/-- What is owned may be read as what is never written, as long as it is lent. -/
theorem Mem_lend {w:World}{I I':ASet}:∀ (v:AL),Mem w I v→(∀ b o,I b o→I' b o)→(∀ b o,fp v b o→I' b o)→Mem w I' (lend v)
 | .sl own none sz n cs,h,_,_=>by simp only[Mem] at h;simp[lend,Mem,h.1,h.2,lendL]
 | .sl true (some l) sz n cs,h,hi,hf=>by
  simp only[Mem] at h
  simp only[lend,Mem]
  refine⟨by rw[lendL_eq];simpa using h.1,h.2.1,MemL_lend true cs l.b l.o h.2.2.1 hi (fun b o hb=>hf b o (by simp[fp,hb])) (fun _ i hlt=>hf _ _ ?_),fun e=>by cases e⟩
  simp only[fp]
  have:=Nat.mul_le_mul_right sz h.2.1
  exact .inl ⟨trivial,by omega,by omega⟩
 | .sl false (some l) sz n cs,h,hi,hf=>by
  simp only[Mem] at h
  simp only[lend,Mem]
  exact⟨by rw[lendL_eq];simpa using h.1,h.2.1,MemL_lend false cs l.b l.o h.2.2.1 hi (fun b o hb=>by
   obtain⟨c,hc,hcb⟩:=fpL_iff.1 hb
   obtain⟨i,hi'⟩:=List.getElem?_of_mem hc
   exact absurd hcb (((MemL_iff.1 h.2.2.1 i c hi').2.2 rfl).2 b o)) (fun e=>by simp at e),fun e=>by cases e⟩
 | .bx true (some l) cs,h,hi,hf=>by
  simp only[Mem] at h
  simp only[lend,Mem]
  exact MemL_lend true cs l.b l.o h hi (fun b o hb=>hf b o (by simp[fp,hb])) (fun _ i hlt=>hf _ _ (by simp only[fp];exact .inl ⟨trivial,by omega,by omega⟩))
 | .bx false (some l) cs,h,hi,hf=>by
  simp only[Mem] at h
  simp only[lend,Mem]
  exact MemL_lend false cs l.b l.o h hi (fun b o hb=>by
   obtain⟨c,hc,hcb⟩:=fpL_iff.1 hb
   obtain⟨i,hi'⟩:=List.getElem?_of_mem hc
   exact absurd hcb (((MemL_iff.1 h i c hi').2.2 rfl).2 b o)) (fun e=>by simp at e)
 | .bx own none cs,h,_,_=>by simp[Mem] at h
 | .vptr (some l) cs,h,hi,hf=>by
  simp only[Mem] at h
  simp only[lend,Mem]
  refine MemL_iff.2 fun i c hc=>?_
  have:=MemL_iff.1 h i c hc
  exact⟨this.1,Mem_mono c this.2.1 hi,fun e=>⟨hi _ _ (this.2.2 e).1,(this.2.2 e).2⟩⟩
 | .vptr none cs,h,_,_=>by simp[Mem] at h
 | .agg cs,h,hi,hf=>by
  simp only[Mem] at h
  simp only[lend,Mem]
  exact MemA_lend cs h hi (fun b o hb=>hf b o (by simpa [fp] using hb))
 | .tuple cs,h,hi,hf=>by
  simp only[Mem] at h
  simp only[lend,Mem]
  exact MemA_lend cs h hi (fun b o hb=>hf b o (by simpa [fp] using hb))
 | .clos f cs,h,hi,_=>by
  simp only[Mem] at h
  simp only[lend,Mem]
  exact⟨MemA_iff.2 fun c hc=>Mem_mono c (MemA_iff.1 h.1 c hc) hi,h.2⟩
 | .mp o (some l) cs,h,hi,hf=>by
  simp only[Mem] at h
  simp only[lend,Mem]
  obtain⟨⟨es,ck,h1,h2,h3⟩,h4⟩:=h
  refine⟨⟨es,ck,h1,h2,MemK_frame cs _ h3 fun b o hb=>⟨rfl,hi b o hb⟩⟩,fun _=>?_⟩
  cases o with
  | true=>exact hf l.b 0 (by simp[fp])
  | false=>exact hi _ _ (h4 rfl)
 | .mp _ none cs,h,_,_=>by simp[Mem] at h
 | .sc _,_,_,_ | .view _ _ _ _ _,_,_,_ | .ptr _ _ _ _,_,_,_ | .bptr _ _ _,_,_,_ | .mv _ _ _,_,_,_ | .dead,_,_,_ | .non,_,_,_=>by simp[lend,Mem]
theorem MemL_lend {w:World}{I I':ASet}(own:Bool):∀ (cs:List AL) (b o:Nat),MemL w I own cs b o→(∀ b o,I b o→I' b o)→(∀ b o,fpL cs b o→I' b o)→(own=true→∀ i,i < cs.length→I' b (o+i))→MemL w I' false (lendL cs) b o
 | [],_,_,_,_,_,_=>by simp[lendL,MemL]
 | c :: cs,b,o,h,hi,hf,ha=>by
  simp only[MemL] at h
  simp only[lendL,MemL]
  obtain⟨⟨y,hy,hc⟩,hm,hn,hr⟩:=h
  refine⟨⟨y,hy,CR_lend hc⟩,Mem_lend c hm hi (fun b o hb=>hf b o (by simp[fpL,hb])),fun _=>⟨?_,fun b' o'=>fp_lend c b' o'⟩,MemL_lend own cs b (o+1) hr hi (fun b o hb=>hf b o (by simp[fpL,hb])) (fun e i hlt=>?_)⟩
  ·cases own with
   | true=>simpa using ha rfl 0 (by simp)
   | false=>exact hi _ _ (hn rfl).1
  ·have:=ha e (i+1) (by simp;omega)
   rwa [Nat.add_assoc,Nat.add_comm 1 i]
theorem MemA_lend {w:World}{I I':ASet}:∀ (cs:List AL),MemA w I cs→(∀ b o,I b o→I' b o)→(∀ b o,fpL cs b o→I' b o)→MemA w I' (lendL cs)
 | [],_,_,_=>by simp[lendL,MemA]
 | c :: cs,h,hi,hf=>by
  simp only[MemA] at h
  simp only[lendL,MemA]
  exact⟨Mem_lend c h.1 hi (fun b o hb=>hf b o (by simp[fpL,hb])),MemA_lend cs h.2 hi (fun b o hb=>hf b o (by simp[fpL,hb]))⟩
theorem Mem_mono {w:World}{I I':ASet}:∀ (v:AL),Mem w I v→(∀ b o,I b o→I' b o)→Mem w I' v :=
 fun v h hi=>Mem_frame v h (fun _ _ _=>rfl) (fun b o hb=>⟨rfl,hi b o hb⟩)
end
structure Lent where
 k:Nat
 p:List Nat
 N:AL
 N':AL
structure LentOk (X:XF LO) (I':ASet) (w':World) (K0:ASet) (B:Nat) (e:Lent):Prop where
 get:getN (X e.k).2 e.p=some e.N
 node:e.N.isNode=true
 own:ownQ (X e.k).2 e.p=true
 hdr:∀ y,CR e.N y→CR e.N' y
 mem:Mem w' I' e.N'
 sep:Sep e.N'
 fps:∀ b o,fp e.N' b o→(K0 b o∨B≤b)∧b < w'.heap.size∧w'.fz b o=false∧(w'.at b o).isSome∧¬ I' b o
def back (X:XF LO):List Lent→XF LO
 | []=>X
 | e :: l=>(back X l).set e.k (setN (X e.k).2 e.p e.N')
theorem back_ne {X:XF LO}{l:List Lent}{k:Nat}(h:∀ e ∈ l,e.k ≠ k):back X l k=X k:=by
 induction l with
 | nil=>rfl
 | cons e l ih =>
  simp only[back]
  rw[XF.set_ne _ _ (Ne.symm (h e (by simp))),ih fun e he=>h e (by simp[he])]
theorem back_eq {X:XF LO}:∀ {l:List Lent} {e:Lent},e ∈ l→(l.map (·.k)).Nodup→back X l e.k=(nx (X e.k),setN (X e.k).2 e.p e.N')
 | a :: l,e,he,hn=>by
  simp only[List.map_cons,List.nodup_cons] at hn
  simp only[back]
  rcases List.mem_cons.1 he with rfl | he
  ·have hne:∀ a ∈ l,a.k ≠ e.k:=fun a ha h=>hn.1 (by rw[← h];exact List.mem_map_of_mem ha)
   rw[XF.set_self,back_ne hne]
  ·have hne:e.k ≠ a.k:=fun h=>hn.1 (by rw[← h];exact List.mem_map_of_mem he)
   rw[XF.set_ne _ _ hne,back_eq he hn.2]
theorem nodup_key:∀ {l:List Lent},(l.map (·.k)).Nodup→∀ {e f:Lent},e ∈ l→f ∈ l→e.k=f.k→e=f
 | a :: l,hn,e,f,he,hf,hk=>by
  simp only[List.map_cons,List.nodup_cons] at hn
  rcases List.mem_cons.1 he with e1 | e1
  ·rcases List.mem_cons.1 hf with f1 | f1
   ·rw[e1,f1]
   ·exact absurd (by rw[← e1,hk];exact List.mem_map_of_mem f1) hn.1
  ·rcases List.mem_cons.1 hf with f1 | f1
   ·exact absurd (by rw[← f1,← hk];exact List.mem_map_of_mem e1) hn.1
   ·exact nodup_key hn.2 e1 f1 hk
theorem keeps_back (X:XF LO) (β:Nat→Nat × Nat):∀ l:List Lent,Keeps X (back X l) β β
 | []=>Keeps.refl X β
 | e :: l=>(keeps_back X β l).trans (keeps_set _ β _ _)
theorem RelL.comeback {C:Ctx}{X:XF LO} {β:Nat→Nat × Nat}{I I':ASet}{rg:Nat→Value}{w w':World}(R:RelL C X β I rg w)(l:List Lent)(hn:(l.map (·.k)).Nodup)
  (K0:ASet) (hl:∀ e ∈ l,LentOk X I' w' K0 w.heap.size e) (hK:∀ b o,K0 b o→∃ e ∈ l,fp e.N b o)
  (hpw:∀ e ∈ l,∀ f ∈ l,e.k ≠ f.k→∀ b o,fp e.N' b o→fp f.N' b o→False)
  (hw:Frame K0 w w') (hI:∀ b o,I b o→I' b o) (hI':∀ b o,I' b o→I b o∨(b < w'.heap.size∧(K0 b o∨w.heap.size≤b))) :
  RelL C (back X l) β I' rg w':=by
 have hk0:∀ e ∈ l,∀ b o,fp e.N b o→fp (X e.k).2 b o:=fun e he b o hb=>(repl e.p (X e.k).2 (R.key e.k).mem (R.key e.k).sep (hl e he).own (hl e he).get).sub b o hb
 have hK':∀ b o,K0 b o→∃ e ∈ l,kfp β X e.k b o:=fun b o hb=>by
  obtain⟨e,he,hb⟩:=hK b o hb
  exact⟨e,he,.inl (hk0 e he b o hb)⟩
 -- what of a key's own is written lies in its lent node
 have hKk:∀ e ∈ l,∀ b o,kfp β X e.k b o→K0 b o→fp e.N b o:=by
  intro e he b o hb hk
  obtain⟨f,hf,hfb⟩:=hK b o hk
  by_cases hef:e.k=f.k
  ·have:e=f:=nodup_key hn he hf hef
   rw[this];exact hfb
  ·exact (R.disj e.k f.k hef b o hb (.inl (hk0 f hf b o hfb))).elim
 refine R.change (fun k=>∃ e ∈ l,e.k=k) ?_ (keeps_back X β l) (fun _ _ _=>.inl rfl) (fun _ _=>rfl) (fun _ _=>rfl) ?_ ?_ ?_ ?_ hI ?_ (hw.mono fun b o _ hb=>by
   obtain⟨e,he,hb⟩:=hK' b o hb
   exact⟨e.k,⟨e,he,rfl⟩,hb⟩)
 ·intro k hk;exact back_ne fun e he h=>hk ⟨e,he,h⟩
 ·rintro t ⟨e,he,hek⟩
  have L:=hl e he
  rw[← hek,back_eq he hn]
  have hreg:=R.reg t
  rw[← hek] at hreg
  have hnode:=getN_isNode L.get L.node
  have hcr:CR (X e.k).2 (rg t):=by
   generalize (X e.k).2=V at hreg hnode
   cases V<;>simp [AV.isNode] at hnode<;>simpa [RR] using hreg
  by_cases hp:e.p=[]
  ·have hg:=L.get
   rw[hp] at hg ⊢
   simp only[getN,Option.some.injEq] at hg
   simp only[setN]
   exact RR_of_CR (L.hdr _ (hg ▸ hcr))
  ·exact RR_of_CR ((CR_setN hp).2 hcr)
 ·rintro k ⟨e,he,rfl⟩
  have L:=hl e he
  have hkey:=R.key e.k
  have r:=repl e.p (X e.k).2 hkey.mem hkey.sep L.own L.get
  have hx:=back_eq (X:=X) he hn
  have hnon:(X e.k).2 ≠ .non:=isNode_ne_non (getN_isNode L.get L.node)
  have hdisN:∀ b o,fp e.N' b o→kfp β X e.k b o→fp e.N b o:=by
   intro b o h1 h2
   rcases (L.fps b o h1).1 with h | h
   ·exact hKk e he b o h2 h
   ·have:=(hkey.live b o h2).1;omega
  have hkfp:∀ b o,kfp β (back X l) e.k b o→(kfp β X e.k b o∧¬ fp e.N b o)∨fp e.N' b o:=by
   intro b o hb
   rcases hb with hb | ⟨h1,_,h3⟩
   ·rw[hx] at hb
    rcases r.fps e.N' b o hb with h | h
    ·exact .inl ⟨.inl h.1,h.2⟩
    ·exact .inr h
   ·refine .inl ⟨.inr ⟨h1,hnon,h3⟩,fun h=>(hkey.cell h1 hnon).2 ?_⟩
    have:=r.sub b o h
    rwa [h3.1,h3.2] at this
  have hsame:∀ b o,kfp β X e.k b o→¬ fp e.N b o→w'.at b o=w.at b o:=fun b o h1 h2=>hw.cell b o (hkey.live b o h1).1 (fun h=>h2 (hKk e he b o h1 h))
  refine⟨?_,?_,?_,?_,fun h99=>absurd (hkey.last h99) hnon⟩
  ·rw[hx]
   refine r.mems e.N' w' I' L.mem (fun b o hb=>?_) (fun b o h1 h2 _=>hsame b o (.inl h1) h2) (fun b o hb=>⟨?_,hI b o hb⟩)
   ·by_cases hp:e.p=[]
    ·rw[hp] at hb;simp[addr] at hb
    ·obtain⟨b',o',y,h1,h2,h3,h4,h5⟩:=r.ad hp
     rw[hb] at h1;cases h1
     exact⟨y,by rw[hsame b o (.inl h2) h3];exact h4,L.hdr y h5⟩
   ·exact hw.cell b o (R.imm b o hb).1 (fun h=>by
     obtain⟨f,hf,hfb⟩:=hK' b o h
     exact (R.imm b o hb).2 _ hfb)
  ·rw[hx];exact r.seps e.N' L.sep (fun b o h1 h2=>hdisN b o h1 (.inl h2))
  ·intro hc _
   obtain⟨⟨y,hy,hcy⟩,hnf⟩:=hkey.cell hc hnon
   have hcy:=hcy.cr (vw_node (getN_isNode L.get L.node))
   have hA:kfp β X e.k (β (e.k / 100)).1 ((β (e.k / 100)).2+(e.k % 100 - 1)):=.inr ⟨hc,hnon,rfl,rfl⟩
   have hAN:¬ fp e.N (β (e.k / 100)).1 ((β (e.k / 100)).2+(e.k % 100 - 1)):=fun h=>hnf (r.sub _ _ h)
   rw[hx]
   refine⟨⟨y,by rw[hsame _ _ hA hAN];exact hy,.inl ?_⟩,fun h=>?_⟩
   ·by_cases hp:e.p=[]
    ·have hg:=L.get
     rw[hp] at hg ⊢
     simp only[getN,Option.some.injEq] at hg
     simp only[setN]
     exact L.hdr _ (hg ▸ hcy)
    ·exact (CR_setN hp).2 hcy
   ·rcases r.fps e.N' _ _ h with h' | h'
    ·exact hnf h'.1
    ·exact hAN (hdisN _ _ h' hA)
  ·intro b o hb
   rcases hkfp b o hb with ⟨h1,_⟩ | h1
   ·obtain⟨l1,l2,l3⟩:=hkey.live b o h1
    exact⟨Nat.lt_of_lt_of_le l1 hw.size,by rw[hw.fz b o l1 l3];exact l2,by rw[hw.some b o l1];exact l3⟩
   ·have:=L.fps b o h1;exact⟨this.2.1,this.2.2.1,this.2.2.2.1⟩
 ·-- no address twice
  have hcase:∀ e ∈ l,∀ b o,kfp β (back X l) e.k b o→(kfp β X e.k b o∧¬ fp e.N b o)∨fp e.N' b o:=by
   intro e he b o hb
   have L:=hl e he
   have hkey:=R.key e.k
   have r:=repl e.p (X e.k).2 hkey.mem hkey.sep L.own L.get
   have hnon:(X e.k).2 ≠ .non:=isNode_ne_non (getN_isNode L.get L.node)
   rcases hb with hb | ⟨h1,_,h3⟩
   ·rw[back_eq he hn] at hb
    rcases r.fps e.N' b o hb with h | h
    ·exact .inl ⟨.inl h.1,h.2⟩
    ·exact .inr h
   ·refine .inl ⟨.inr ⟨h1,hnon,h3⟩,fun h=>(hkey.cell h1 hnon).2 ?_⟩
    have:=r.sub b o h
    rwa [h3.1,h3.2] at this
  have hmix:∀ e ∈ l,∀ f ∈ l,e.k ≠ f.k→∀ b o,kfp β X e.k b o→¬ fp e.N b o→fp f.N' b o→False:=by
   intro e he f hf hne b o h1 h2 h3
   rcases ((hl f hf).fps b o h3).1 with h | h
   ·exact h2 (hKk e he b o h1 h)
   ·have:=((R.key e.k).live b o h1).1;omega
  rintro k k' ⟨e,he,rfl⟩ ⟨f,hf,rfl⟩ hne b o h1 h2
  rcases hcase e he b o h1 with ⟨g1,g2⟩ | g1
  ·rcases hcase f hf b o h2 with ⟨g3,g4⟩ | g3
   ·exact R.disj e.k f.k hne b o g1 g3
   ·exact hmix e he f hf hne b o g1 g2 g3
  ·rcases hcase f hf b o h2 with ⟨g3,g4⟩ | g3
   ·exact hmix f hf e he (Ne.symm hne) b o g3 g4 g1
   ·exact hpw e he f hf hne b o g1 g3
 ·rintro k ⟨e,he,rfl⟩ b o hb
  have L:=hl e he
  have hkey:=R.key e.k
  have r:=repl e.p (X e.k).2 hkey.mem hkey.sep L.own L.get
  have hnon:(X e.k).2 ≠ .non:=isNode_ne_non (getN_isNode L.get L.node)
  rcases hb with hb | ⟨h1,_,h3⟩
  ·rw[back_eq he hn] at hb
   rcases r.fps e.N' b o hb with h | h
   ·exact .inl ⟨e.k,⟨e,he,rfl⟩,.inl h.1⟩
   ·rcases (L.fps b o h).1 with h' | h'
    ·obtain⟨f,hf,hfb⟩:=hK' b o h'
     exact .inl ⟨f.k,⟨f,hf,rfl⟩,hfb⟩
    ·exact .inr h'
  ·exact .inl ⟨e.k,⟨e,he,rfl⟩,.inr ⟨h1,hnon,h3⟩⟩
 ·intro b o hb
  rcases hI' b o hb with h | ⟨h1,h2⟩
  ·exact .inl h
  ·refine .inr ⟨h1,?_,?_⟩
   ·rcases h2 with h2 | h2
    ·obtain⟨f,hf,hfb⟩:=hK' b o h2
     exact .inl ⟨f.k,⟨f,hf,rfl⟩,hfb⟩
    ·exact .inr h2
   ·rintro k ⟨e,he,rfl⟩ hkb
    have L:=hl e he
    have hkey:=R.key e.k
    have r:=repl e.p (X e.k).2 hkey.mem hkey.sep L.own L.get
    have hnon:(X e.k).2 ≠ .non:=isNode_ne_non (getN_isNode L.get L.node)
    have hold:kfp β X e.k b o→¬ fp e.N b o→False:=by
     intro g1 g2
     rcases h2 with h2 | h2
     ·exact g2 (hKk e he b o g1 h2)
     ·have:=(hkey.live b o g1).1;omega
    rcases hkb with hkb | ⟨g1,_,g3⟩
    ·rw[back_eq he hn] at hkb
     rcases r.fps e.N' b o hkb with g | g
     ·exact hold (.inl g.1) g.2
     ·exact (L.fps b o g).2.2.2.2 hb
    ·refine hold (.inr ⟨g1,hnon,g3⟩) (fun h=>(hkey.cell g1 hnon).2 ?_)
     have:=r.sub b o h
     rwa [g3.1,g3.2] at this
end Go.OT
namespace Go.OT
theorem map_lendL (cs:List AL):(lendL cs).map er=lendL (cs.map er):=by
 have:=er_lendL cs
 rwa [erL_eq,erL_eq] at this
def idxL (k:Nat)(p:List Nat):List (Nat × List Nat)→Option Nat
 | []=>none
 | e :: l=>if e.1=k∧e.2=p then some 0 else (idxL k p l).map (·+1)
theorem idxL_some {k:Nat}{p:List Nat}:∀ {l:List (Nat × List Nat)} {j:Nat},idxL k p l=some j→l[j]?=some (k,p)
 | [],j,h=>by simp[idxL] at h
 | e :: l,j,h=>by
  simp only[idxL] at h
  split at h
  ·rename_i hc
   simp only[Option.some.injEq] at h
   subst h
   obtain⟨h1,h2⟩:=hc
   simp[← h1,← h2]
  ·cases hq:idxL k p l with
   | none=>simp [hq] at h
   | some i =>
    simp only[hq,Option.map_some,Option.some.injEq] at h
    subst h
    simpa using idxL_some hq
def gkey (j:Nat):Nat:=100 * (10000+j)
def lentK (ls:List (Nat × List Nat))(k:Nat):Bool:=(ls.map (·.1)).contains k
def boxFrom {L:Type}(X:XF L)(b i:Nat):Nat→List (AV L)
 | 0=>[]
 | n+1=>match (X (100 * b+1+i)).2 with
  | .non=>[]
  | .view _ _ _ _ _=>[]
  | .ptr _ _ _ _=>[]
  | .bptr _ _ _=>[]
  | v=>v :: boxFrom X b (i+1) n
mutual
/-- An operand's tree as the callee has it. 'own': may owned memory be lent to be read? 'k0': the key of the register that it stands in. -/
def trA (X:XF Unit)(ls:List (Nat × List Nat))(own:Bool)(k0:Nat):AU→Option AU
 | .sc x=>some (.sc x)
 | .sl o u s n cs=>if o=false then some (.sl false u s n cs) else if own=true∧lentK ls k0=false then some (.sl false () s n (lendL cs)) else if n=0∧cs.isEmpty=true then some (.sl false () s 0 []) else none
 | .bx o u cs=>if o=false then some (.bx false u cs) else none
 | .view k g p off len =>
  if (X k).1=g then
   match idxL k p ls with
   | some j=>some (.view (gkey j) 0 [] off len)
   | none=>match getN (X k).2 p with
    | some (.sl o _ s _ cs)=>if o=false∨(own=true∧lentK ls k=false) then some (.sl false () s len (lendL ((cs.drop off).take (len * s)))) else none
    | _=>none
  else none
 | .ptr k g p i =>
  if (X k).1=g then
   match idxL k p ls with
   | some j=>match getN (X k).2 p with
    | some (.bx _ _ _)=>some (.ptr (gkey j) 0 [] i)
    | some (.sl _ _ _ _ _)=>some (.ptr (gkey j) 0 [] i)
    | _=>none
   | none=>match getN (X k).2 p with
    | some (.bx o _ cs)=>if o=false∨(own=true∧lentK ls k=false) then some (.vptr () (lendL (cs.drop i))) else none
    | some (.sl o _ s _ cs)=>if o=false∨(own=true∧lentK ls k=false) then some (.vptr () (lendL ((cs.drop i).take s))) else none
    | _=>none
  else none
 | .bptr b g i=>if own=true∧(X (100 * b+99)).1=g∧i≤98∧ls.all (fun e=>!decide (e.1 / 100=b))=true then some (.vptr () (lendL (boxFrom X b i (98 - i)))) else none
 | .vptr u cs=>some (.vptr u cs)
 | .agg vs=>(trL X ls own k0 vs).map .agg
 | .clos f caps=>(trL X ls own k0 caps).map (.clos f)
 | _=>none
def trL (X:XF Unit)(ls:List (Nat × List Nat))(own:Bool)(k0:Nat):List AU→Option (List AU)
 | []=>some []
 | v :: vs=>match trA X ls own k0 v,trL X ls own k0 vs with
  | some a,some as=>some (a :: as)
  | _,_=>none
end
def keyOf:COd→Nat
 | .t n=>100 * n
 | .c _=>0
def ghAt (X:XF Unit)(e:Nat × List Nat):Option (Gh Unit) :=
 if ownQ (X e.1).2 e.2=true then
  match getN (X e.1).2 e.2 with
  | some (.sl true _ s n cs)=>some (.nod (.sl true () s n cs))
  | some (.bx true _ cs)=>some (.nod (.bx true () cs))
  | _=>none
 else none
def nodeAfter:Gh Unit→AU
 | .nod v=>v
 | .box cs=>.bx true () cs
def ghImm:Gh Unit→Bool
 | .nod v=>noImm v
 | .box cs=>noImmL cs
section
variable {C:Ctx} {X:XF LO} {β:Nat→Nat × Nat} {I:ASet} {rg:Nat→Value} {w:World}
theorem ghAt_ok (R:RelL C X β I rg w){e:Nat × List Nat}{g:Gh Unit}(h:ghAt (erF X) e=some g) :
  ∃ N,getN (X e.1).2 e.2=some N∧N.isNode=true∧ownQ (X e.1).2 e.2=true∧Mem w I N∧Sep N∧(∀ b o,fp N b o→kfp β X e.1 b o) ∧
   ((∃ l s n cs,N=.sl true l s n cs∧g=.nod (.sl true () s n (cs.map er)))∨(∃ l cs,N=.bx true (some l) cs∧g=.nod (.bx true () (cs.map er)))):=by
 unfold ghAt at h
 split at h
 ·rename_i hq
  have hq':ownQ (X e.1).2 e.2=true:=by rw[← er_ownQ];exact hq
  split at h
  ·rename_i s n cs hN
   simp only[Option.some.injEq] at h
   obtain⟨l,lcs,hN',hlcs⟩:=node_sl hN
   have r:=repl e.2 (X e.1).2 (R.key e.1).mem (R.key e.1).sep hq' hN'
   exact⟨_,hN',rfl,hq',r.mem,r.sep,fun b o hb=>.inl (r.sub b o hb),.inl ⟨l,s,n,lcs,rfl,by rw[hlcs,h]⟩⟩
  ·rename_i cs hN
   simp only[Option.some.injEq] at h
   obtain⟨l,lcs,hN',hlcs⟩:=node_bx hN
   have r:=repl e.2 (X e.1).2 (R.key e.1).mem (R.key e.1).sep hq' hN'
   cases l with
   | none=>have:=r.mem;simp[Mem] at this
   | some l=>exact ⟨_,hN',rfl,hq',r.mem,r.sep,fun b o hb=>.inl (r.sub b o hb),.inr ⟨l,lcs,rfl,by rw[hlcs,h]⟩⟩
  ·cases h
 ·cases h
theorem fp_getN {p:List Nat}:∀ {v u:AL},Mem w I v→getN v p=some u→∀ b o,fp u b o→fp v b o:=by
 induction p with
 | nil=>intro v u _ hg b o hb;simp only[getN,Option.some.injEq] at hg;exact hg ▸ hb
 | cons i p ih =>
  intro v u h hg b o hb
  simp only[getN] at hg
  cases hc:v.cells? with
  | none=>simp [hc] at hg
  | some cs =>
   simp only[hc] at hg
   cases hi:cs[i]? with
   | none=>simp [hi] at hg
   | some c =>
    simp only[hi] at hg
    have hmem:=List.mem_of_getElem? hi
    cases v with
    | sl o' l s n k =>
     simp only[AV.cells?,Option.some.injEq] at hc;subst hc
     cases l with
     | none=>simp [Mem] at h;simp[h.2] at hi
     | some l =>
      simp only[Mem] at h
      have hl:=(MemL_iff.1 h.2.2.1) i c hi
      have hf:=ih hl.2.1 hg b o hb
      cases o' with
      | true=>simp only[fp];exact .inr (fpL_iff.2 ⟨c,hmem,hf⟩)
      | false=>exact absurd hf ((hl.2.2 rfl).2 b o)
    | bx o' l k =>
     simp only[AV.cells?,Option.some.injEq] at hc;subst hc
     cases l with
     | none=>simp [Mem] at h
     | some l =>
      simp only[Mem] at h
      have hl:=(MemL_iff.1 h) i c hi
      have hf:=ih hl.2.1 hg b o hb
      cases o' with
      | true=>simp only[fp];exact .inr (fpL_iff.2 ⟨c,hmem,hf⟩)
      | false=>exact absurd hf ((hl.2.2 rfl).2 b o)
    | _=>simp [AV.cells?] at hc
theorem rd_fp (R:RelL C X β I rg w){nt sz:Nat}{x:Operand}{c:COd}(h:compOd nt sz x=some c) :
  ∃ lv,er lv=rd (erF X) c∧RR X β lv (evR rg x)∧Mem w I lv∧(∀ b o,fp lv b o→kfp β X (keyOf c) b o):=by
 obtain⟨lv,h1,h2,h3,h4⟩:=rd_ok R h
 cases hp:lv.parts? with
 | none=>exact ⟨lv,h1,h2,h3,fun b o hb=>absurd hb (h4 hp b o)⟩
 | some ps =>
  cases x with
  | tmp t =>
   simp only[compOd] at h
   split at h
   ·cases h
    simp only[rd,erF] at h1
    cases hv:(X (100 * t)).2 with
    | sl o l s n cs =>
     rw[hv] at h1
     cases o<;>simp [er,rdK,ldV] at h1<;>cases lv<;>simp [er] at h1<;>simp [AV.parts?] at hp
    | bx o l cs =>
     rw[hv] at h1
     cases o<;>simp [er,rdK,ldV] at h1<;>cases lv<;>simp [er] at h1<;>simp [AV.parts?] at hp
    | mp o l cs =>
     rw[hv] at h1
     cases o<;>simp [er,rdK,ldV] at h1<;>cases lv<;>simp [er] at h1<;>simp [AV.parts?] at hp
    | agg cs =>
     refine⟨.agg cs,by simp[rd,erF,hv,er,rdK,ldV],?_,?_,fun b o hb=>.inl (by simpa [keyOf,hv] using hb)⟩
     ·have:=R.reg t;rw[hv] at this;exact this
     ·have:=(R.key (100 * t)).mem;rw[hv] at this;exact this
    | tuple cs =>
     refine⟨.tuple cs,by simp[rd,erF,hv,er,rdK,ldV],?_,?_,fun b o hb=>.inl (by simpa [keyOf,hv] using hb)⟩
     ·have:=R.reg t;rw[hv] at this;exact this
     ·have:=(R.key (100 * t)).mem;rw[hv] at this;exact this
    | _=>rw [hv] at h1;simp[er,rdK,ldV] at h1;cases lv<;>simp [er] at h1<;>simp [AV.parts?] at hp
   ·cases h
  | const v =>
   simp only[compOd] at h
   split at h
   ·cases h
    obtain⟨lv',g1,g2,g3,_,g4,_⟩:=cst_ok (X:=X) (β:=β) (w:=w) (I:=I) sz v
    exact⟨lv',g1,g2,g3,fun b o hb=>absurd hb (g4 b o)⟩
   ·cases h
  | func f =>
   simp only[compOd,Option.some.injEq] at h
   subst h
   simp only[rd] at h1
   cases lv<;>simp [er] at h1<;>simp [AV.parts?] at hp
  | global g=>simp [compOd] at h
theorem lend_part {own:Bool}{I0:ASet}{l:LO}{s n off len:Nat}{lcs:List AL}{x:Value}(hm:Mem w I (.sl own l s n lcs))(hI0:∀ b o,I b o→I0 b o)
  (hf:own=true→∀ b o,fp (.sl own l s n lcs) b o→I0 b o) (hs:SV l s n off len x) :
  ∃ la,er la=.sl false () s len (lendL (((lcs.map er).drop off).take (len * s)))∧CR la x∧Mem w I0 la∧noOwn la=true:=by
 obtain⟨xa,cap,rfl,hl⟩:=hs
 have hE:∀ l',er (.sl false l' s len (lendL ((lcs.drop off).take (len * s))):AL)=.sl false () s len (lendL (((lcs.map er).drop off).take (len * s))):=by
  intro l'
  simp only[er,erL_eq,map_lendL,List.map_take,List.map_drop]
 cases l with
 | none =>
  obtain⟨rfl,rfl,rfl⟩:=hl
  simp only[Mem] at hm
  obtain⟨rfl,rfl⟩:=hm
  exact⟨.sl false none s 0 _,hE none,by simp[CR],by simp[Mem,lendL],by simp[noOwn]⟩
 | some l =>
  obtain⟨h1,h2,h3,o',rfl,h5⟩:=hl
  simp only[Mem] at hm
  obtain⟨m1,m2,m3,_⟩:=hm
  refine⟨.sl false (some ⟨l.b,o',cap⟩) s len _,hE _,by simp[CR],?_,by simp[noOwn]⟩
  simp only[Mem]
  refine⟨?_,h2,?_,fun e=>by cases e⟩
  ·rw[lendL_eq,List.length_map,List.length_take,List.length_drop];omega
  ·by_cases hc:cap=0
   ·have:len=0:=by omega
    subst this
    simp[lendL,MemL]
   ·rw[h5 hc]
    have hmul:=Nat.mul_le_mul_right s m2
    refine MemL_lend own _ l.b (l.o+off) (MemL_take (MemL_drop m3 off) _) hI0 (fun b o hb=>?_) (fun e i hi=>?_)
    ·obtain⟨c,hc,hcb⟩:=fpL_iff.1 hb
     have hc':c ∈ lcs:=List.mem_of_mem_drop (List.mem_of_mem_take hc)
     cases own with
     | true=>exact hf rfl b o (by simp only[fp];exact .inr (fpL_iff.2 ⟨c,hc',hcb⟩))
     | false =>
      obtain⟨i,hi⟩:=List.getElem?_of_mem hc'
      exact absurd hcb (((MemL_iff.1 m3 i c hi).2.2 rfl).2 b o)
    ·subst e
     refine hf rfl _ _ ?_
     simp only[fp]
     have:i < len * s:=by
      have:=hi
      rw[List.length_take] at this
      omega
     exact .inl ⟨trivial,by omega,by omega⟩
theorem lend_cells {own:Bool}{I0:ASet}{b o i m:Nat}{lcs:List AL}(hm:MemL w I own lcs b o)(hI0:∀ b o,I b o→I0 b o)
  (hf:own=true→(∀ j,j < lcs.length→I0 b (o+j))∧∀ b o,fpL lcs b o→I0 b o):MemL w I0 false (lendL ((lcs.drop i).take m)) b (o+i):=by
 refine MemL_lend own _ b (o+i) (MemL_take (MemL_drop hm i) _) hI0 (fun b o hb=>?_) (fun e j hj=>?_)
 ·obtain⟨c,hc,hcb⟩:=fpL_iff.1 hb
  have hc':c ∈ lcs:=List.mem_of_mem_drop (List.mem_of_mem_take hc)
  cases own with
  | true=>exact (hf rfl).2 b o (fpL_iff.2 ⟨c,hc',hcb⟩)
  | false =>
   obtain⟨j,hj⟩:=List.getElem?_of_mem hc'
   exact absurd hcb (((MemL_iff.1 hm j c hj).2.2 rfl).2 b o)
 ·have:=(hf e).1 (i+j) (by rw[List.length_take,List.length_drop] at hj;omega)
  rwa [← Nat.add_assoc] at this
theorem sl_fp {I0:ASet}{l:Loc}{s n:Nat}{lcs:List AL}(hm:Mem w I (.sl true (some l) s n lcs))(hf:∀ b o,fp (.sl true (some l) s n lcs) b o→I0 b o):(∀ j,j < lcs.length→I0 l.b (l.o+j))∧∀ b o,fpL lcs b o→I0 b o:=by
 simp only[Mem] at hm
 have:=Nat.mul_le_mul_right s hm.2.1
 exact⟨fun j hj=>hf _ _ (by simp only[fp];exact .inl ⟨trivial,by omega,by omega⟩),fun b o hb=>hf b o (by simp only[fp];exact .inr hb)⟩
theorem bx_fp {I0:ASet}{l:Loc}{lcs:List AL}(hf:∀ b o,fp (.bx true (some l) lcs) b o→I0 b o):(∀ j,j < lcs.length→I0 l.b (l.o+j))∧∀ b o,fpL lcs b o→I0 b o :=
 ⟨fun j hj=>hf _ _ (by simp only[fp];exact .inl ⟨trivial,by omega,by omega⟩),fun b o hb=>hf b o (by simp only[fp];exact .inr hb)⟩
structure CalleeOk (C:Ctx) (X:XF LO) (β:Nat→Nat × Nat) (I:ASet) (w:World) (ls:List (Nat × List Nat)) (own:Bool) (I0:ASet) (X0:XF LO) (β0:Nat→Nat × Nat):Prop where
 mem:∀ k,Mem w I (X k).2
 cell:∀ k,isCell k→(X k).2 ≠ .non→∃ y,w.at (β (k / 100)).1 ((β (k / 100)).2+(k % 100 - 1))=some (.v y)∧CX X β (X k).2 y
 sub:∀ b o,I b o→I0 b o
 lent:own=true→∀ k,lentK ls k=false→∀ b o,kfp β X k b o→I0 b o
 gen:∀ k,(X0 k).1=0
 gh:∀ (j:Nat) (e:Nat × List Nat),ls[j]?=some e→∃ N,getN (X e.1).2 e.2=some N∧((∃ l s n cs,N=.sl true l s n cs∧(X0 (gkey j)).2=N)∨(∃ l cs,N=.bx true (some l) cs∧(X0 (gkey j)).2=N))
theorem boxFrom_er (X:XF LO)(b:Nat):∀ (n i:Nat),boxFrom (erF X) b i n=(boxFrom X b i n).map er
 | 0,i=>rfl
 | n+1,i=>by
  simp only[boxFrom,erF]
  cases hv:(X (100 * b+1+i)).2<;>simp only[er,List.map_nil,List.map_cons]<;>(try rw [← boxFrom_er X b n (i+1)])<;>rfl
theorem lend_box {ls:List (Nat × List Nat)}{I0:ASet}{X0:XF LO} {β0:Nat→Nat × Nat}(H:CalleeOk C X β I w ls true I0 X0 β0)(b:Nat)(hl:ls.all (fun e=>!decide (e.1 / 100=b))=true):∀ (n i:Nat),i+n≤98 →
  MemL w I0 false (lendL (boxFrom X b i n)) (β b).1 ((β b).2+i)
 | 0,i,_=>by simp[boxFrom,lendL,MemL]
 | n+1,i,h=>by
  have ih:=lend_box H b hl n (i+1) (by omega)
  simp only[boxFrom]
  have hcell:isCell (100 * b+1+i):=by unfold isCell;omega
  have hlk:lentK ls (100 * b+1+i)=false:=by
   rw[Bool.eq_false_iff]
   intro hh
   simp only[lentK,List.contains_iff_mem,List.mem_map] at hh
   obtain⟨e,he,hk⟩:=hh
   have:=List.all_eq_true.1 hl e he
   simp at this
   omega
  have key:(X (100 * b+1+i)).2 ≠ .non→isVw (X (100 * b+1+i)).2=false→MemL w I0 false (lendL ((X (100 * b+1+i)).2 :: boxFrom X b (i+1) n)) (β b).1 ((β b).2+i):=by
   intro hne hvw
   obtain⟨y,hy,hc⟩:=H.cell _ hcell hne
   have hc:=hc.cr hvw
   rw[show (100 * b+1+i) / 100=b by omega,show (100 * b+1+i) % 100 - 1=i by omega] at hy
   simp only[lendL,MemL]
   refine⟨⟨y,hy,CR_lend hc⟩,Mem_lend _ (H.mem _) H.sub (fun b' o' hb=>H.lent rfl _ hlk b' o' (.inl hb)),fun _=>⟨H.lent rfl _ hlk _ _ (.inr ⟨hcell,hne,?_⟩),fun b' o'=>fp_lend _ b' o'⟩,by rw[Nat.add_assoc];exact ih⟩
   unfold cellAt
   rw[show (100 * b+1+i) / 100=b by omega,show (100 * b+1+i) % 100 - 1=i by omega]
   exact⟨rfl,rfl⟩
  cases hv:(X (100 * b+1+i)).2 with
  | non=>simp [lendL,MemL]
  | view _ _ _ _ _=>simp [lendL,MemL]
  | ptr _ _ _ _=>simp [lendL,MemL]
  | bptr _ _ _=>simp [lendL,MemL]
  | _=>(have h1:=key (by rw[hv];simp) (by rw[hv];rfl));rw[hv] at h1;exact h1
mutual
/-- One argument in the callee's first state. -/
theorem trA_ok {ls:List (Nat × List Nat)}{own:Bool}{I0:ASet}{X0:XF LO} {β0:Nat→Nat × Nat}(H:CalleeOk C X β I w ls own I0 X0 β0) :
  ∀ (k0:Nat) (lv:AL) (x:Value) (a:AU),RR X β lv x→Mem w I lv→(∀ b o,fp lv b o→kfp β X k0 b o)→trA (erF X) ls own k0 (er lv)=some a →
   ∃ la,er la=a∧RR X0 β0 la x∧Mem w I0 la∧noOwn la=true
 | k0,.sc v,x,a,hr,hm,hf,ht=>by
  simp only[er,trA,Option.some.injEq] at ht
  exact⟨.sc v,by simp[er,ht],by simpa [RR] using hr,by simp[Mem],by simp[noOwn]⟩
 | k0,.sl o l s n cs,x,a,hr,hm,hf,ht=>by
  simp only[er,trA] at ht
  simp only[RR] at hr
  split at ht
  ·rename_i e
   subst e
   simp only[Option.some.injEq] at ht
   exact⟨.sl false l s n cs,by simp[er,← ht],by simpa [RR] using hr,Mem_mono _ hm H.sub,by simp[noOwn]⟩
  ·split at ht
   ·rename_i e
    simp only[Option.some.injEq] at ht
    refine⟨lend (.sl o l s n cs),by simp only[lend,er,er_lendL,← ht],?_,Mem_lend _ hm H.sub (fun b o hb=>H.lent e.1 k0 e.2 b o (hf b o hb)),by simp[lend,noOwn]⟩
    exact RR_of_CR (CR_lend hr)
   ·split at ht
    ·rename_i e
     obtain⟨rfl,e2⟩:=e
     simp only[Option.some.injEq] at ht
     have:cs=[]:=by
      rw[erL_eq] at e2;simpa using e2
     subst this
     refine⟨.sl false l s 0 [],by simp[er,erL,← ht],?_,?_,by simp[noOwn]⟩
     ·cases l with
      | none=>simp only[CR,and_true] at hr;simp only[RR,CR,and_true,true_and];exact hr.elim .inl (fun e=>.inr e.2)
      | some l=>simpa [RR,CR] using hr
     ·cases l with
      | none=>simp [Mem]
      | some l=>simp [Mem,MemL]
    ·cases ht
 | k0,.bx o l cs,x,a,hr,hm,hf,ht=>by
  simp only[er,trA] at ht
  simp only[RR] at hr
  split at ht
  ·rename_i e
   subst e
   simp only[Option.some.injEq] at ht
   exact⟨.bx false l cs,by simp[er,← ht],by simpa [RR] using hr,Mem_mono _ hm H.sub,by simp[noOwn]⟩
  ·cases ht
 | k0,.view k g p off len,x,a,hr,hm,hf,ht=>by
  simp only[er,trA] at ht
  split at ht
  ·rename_i hgen
   simp only[erF] at hgen
   simp only[RR] at hr
   obtain⟨l,sz,n,hhd,hsv⟩:=hr.2 hgen
   split at ht
   ·rename_i j hj
    simp only[Option.some.injEq] at ht
    obtain⟨N,hN,hor⟩:=H.gh j _ (idxL_some hj)
    simp only at hN
    rw[hN] at hhd
    rcases hor with ⟨l',s',n',cs',rfl,hX0⟩ | ⟨l',cs',rfl,_⟩
    ·simp only[Option.bind_some,hd,Option.some.injEq,Prod.mk.injEq,true_and] at hhd
     obtain⟨rfl,rfl,rfl⟩:=hhd
     refine⟨.view (gkey j) 0 [] off len,by simp[er,← ht],?_,by simp[Mem],by simp[noOwn]⟩
     simp only[RR]
     refine⟨Nat.zero_le _,fun _=>⟨l',s',n',by rw[hX0];simp[getN,hd],hsv⟩⟩
    ·simp[hd] at hhd
   ·split at ht
    ·rename_i o _ s n0 cs hnode
     split at ht
     ·rename_i hcond
      simp only[Option.some.injEq] at ht
      obtain⟨l',lcs,hN,hlcs⟩:=node_sl hnode
      rw[hN] at hhd
      simp only[Option.bind_some,hd,Option.some.injEq,Prod.mk.injEq,true_and] at hhd
      obtain⟨rfl,rfl,rfl⟩:=hhd
      have hmN:=Mem_getN (H.mem k) hN
      obtain⟨la,g1,g2,g3,g4⟩:=lend_part (I0:=I0) hmN H.sub (fun e b o' hb=>by
       rcases hcond with hc | ⟨hc,hc2⟩
       ·rw[hc] at e;cases e
       ·exact H.lent hc k hc2 b o' (.inl (fp_getN (H.mem k) hN b o' hb))) hsv
      exact⟨la,by rw[g1,← ht,hlcs],RR_of_CR g2,g3,g4⟩
     ·cases ht
    ·cases ht
  ·cases ht
 | k0,.ptr k g p i,x,a,hr,hm,hf,ht=>by
  simp only[er,trA] at ht
  split at ht
  ·rename_i hgen
   simp only[erF] at hgen
   simp only[RR] at hr
   obtain⟨sb,l,sz,n,hhd,hx⟩:=hr.2 hgen
   split at ht
   ·rename_i j hj
    obtain⟨N,hN,hor⟩:=H.gh j _ (idxL_some hj)
    simp only at hN
    rw[hN] at hhd
    split at ht
    ·rename_i o' _ cs hnode
     simp only[Option.some.injEq] at ht
     obtain⟨l0,lcs0,hN0,hlcs0⟩:=node_bx hnode
     rw[hN] at hN0
     rcases hor with ⟨l',s',n',cs',rfl,hX0⟩ | ⟨l',cs',rfl,hX0⟩
     ·simp at hN0
     ·refine⟨.ptr (gkey j) 0 [] i,by simp[er,← ht],?_,by simp[Mem],by simp[noOwn]⟩
      simp only[RR]
      exact⟨Nat.zero_le _,fun _=>⟨sb,l,sz,n,by rw[hX0];exact hhd,hx⟩⟩
    ·rename_i o' _ s0 n0 cs hnode
     simp only[Option.some.injEq] at ht
     obtain⟨l0,lcs0,hN0,hlcs0⟩:=node_sl hnode
     rw[hN] at hN0
     rcases hor with ⟨l',s',n',cs',rfl,hX0⟩ | ⟨l',cs',rfl,hX0⟩
     ·simp only[Option.bind_some,hd,Option.some.injEq,Prod.mk.injEq] at hhd
      obtain⟨_,rfl,rfl,rfl⟩:=hhd
      refine⟨.ptr (gkey j) 0 [] i,by simp[er,← ht],?_,by simp[Mem],by simp[noOwn]⟩
      simp only[RR]
      exact⟨Nat.zero_le _,fun _=>⟨true,l,s',n',by rw[hX0];simp[getN,hd],hx⟩⟩
     ·simp at hN0
    ·cases ht
   ·split at ht
    ·rename_i o' _ cs hnode
     split at ht
     ·rename_i hcond
      simp only[Option.some.injEq] at ht
      obtain⟨l0,lcs,hN,hlcs⟩:=node_bx hnode
      rw[hN] at hhd
      simp only[Option.bind_some,hd,Option.some.injEq,Prod.mk.injEq] at hhd
      obtain⟨_,rfl,_⟩:=hhd
      have hmN:=Mem_getN (H.mem k) hN
      have hmN':=hmN
      simp only[Mem] at hmN'
      have hT:=lend_cells (I0:=I0) (i:=i) (m:=lcs.length) hmN' H.sub (fun e=>by
       subst e
       rcases hcond with hc | ⟨hc,hc2⟩
       ·cases hc
       ·exact bx_fp fun b o' hb=>H.lent hc k hc2 b o' (.inl (fp_getN (H.mem k) hN b o' hb)))
      rw[List.take_of_length_le (by rw[List.length_drop];omega)] at hT
      refine⟨.vptr (some ⟨l.b,l.o+i,0⟩) (lendL (lcs.drop i)),?_,?_,?_,by simp[noOwn]⟩
      ·rw[← ht,← hlcs];simp only[er,erL_eq,map_lendL,List.map_drop]
      ·simp only[RR];exact⟨_,rfl,hx⟩
      ·simp only[Mem];exact hT
     ·cases ht
    ·rename_i o' _ s0 n0 cs hnode
     split at ht
     ·rename_i hcond
      simp only[Option.some.injEq] at ht
      obtain⟨l0,lcs,hN,hlcs⟩:=node_sl hnode
      rw[hN] at hhd
      simp only[Option.bind_some,hd,Option.some.injEq,Prod.mk.injEq] at hhd
      obtain⟨_,rfl,rfl,rfl⟩:=hhd
      have hmN:=Mem_getN (H.mem k) hN
      have hmN':=hmN
      simp only[Mem] at hmN'
      have hT:=lend_cells (I0:=I0) (i:=i) (m:=s0) hmN'.2.2.1 H.sub (fun e=>by
       subst e
       rcases hcond with hc | ⟨hc,hc2⟩
       ·cases hc
       ·exact sl_fp hmN fun b o' hb=>H.lent hc k hc2 b o' (.inl (fp_getN (H.mem k) hN b o' hb)))
      refine⟨.vptr (some ⟨l.b,l.o+i,0⟩) (lendL ((lcs.drop i).take s0)),?_,?_,?_,by simp[noOwn]⟩
      ·rw[← ht,← hlcs];simp only[er,erL_eq,map_lendL,List.map_drop,List.map_take]
      ·simp only[RR];exact⟨_,rfl,hx⟩
      ·simp only[Mem];exact hT
     ·cases ht
    ·cases ht
  ·cases ht
 | k0,.bptr b g i,x,a,hr,hm,hf,ht=>by
  simp only[er,trA] at ht
  split at ht
  ·rename_i hc
   obtain⟨rfl,hg,hi,hl⟩:=hc
   simp only[Option.some.injEq] at ht
   simp only[RR] at hr
   simp only[erF] at hg
   have hx:=hr.2 hg
   refine⟨.vptr (some ⟨(β b).1,(β b).2+i,0⟩) (lendL (boxFrom X b i (98 - i))),?_,?_,?_,by simp[noOwn]⟩
   ·simp only[er,erL_eq,map_lendL,← boxFrom_er,ht]
   ·simp only[RR];exact⟨_,rfl,hx⟩
   ·simp only[Mem];exact lend_box H b hl (98 - i) i (by omega)
  ·cases ht
 | k0,.vptr l cs,x,a,hr,hm,hf,ht=>by
  simp only[er,trA,Option.some.injEq] at ht
  exact⟨.vptr l cs,by simp[er,ht],by simpa [RR] using hr,Mem_mono _ hm H.sub,by simp[noOwn]⟩
 | k0,.agg vs,x,a,hr,hm,hf,ht=>by
  simp only[er,trA,Option.map_eq_some_iff] at ht
  obtain⟨as,h1,rfl⟩:=ht
  simp only[RR] at hr
  obtain⟨xs,rfl,hr⟩:=hr
  simp only[Mem] at hm
  obtain⟨las,g1,g2,g3,g4⟩:=trL_ok H k0 vs xs as hr hm (fun b o hb=>hf b o (by simpa [fp] using hb)) h1
  exact⟨.agg las,by simp[er,g1],by simp only[RR];exact⟨xs,rfl,g2⟩,by simpa [Mem] using g3,by simpa [noOwn] using g4⟩
 | k0,.tuple _,x,a,hr,hm,hf,ht=>by simp[er,trA] at ht
 | k0,.clos f vs,x,a,hr,hm,hf,ht=>by
  simp only[er,trA,Option.map_eq_some_iff] at ht
  obtain⟨as,h1,rfl⟩:=ht
  simp only[RR] at hr
  obtain⟨xs,rfl,hr⟩:=hr
  simp only[Mem] at hm
  obtain⟨las,g1,g2,g3,g4⟩:=trL_ok H k0 vs xs as hr hm.1 (fun b o hb=>absurd hb (hm.2 b o)) h1
  exact⟨.clos f las,by simp[er,g1],by simp only[RR];exact⟨xs,rfl,g2⟩,by simp only[Mem];exact⟨g3,(noOwnL_spec las g4).1⟩,by simp[noOwn]⟩
 | k0,.dead,x,a,hr,hm,hf,ht=>by simp[er,trA] at ht
 | k0,.non,x,a,hr,hm,hf,ht=>by simp[er,trA] at ht
theorem trL_ok {ls:List (Nat × List Nat)}{own:Bool}{I0:ASet}{X0:XF LO} {β0:Nat→Nat × Nat}(H:CalleeOk C X β I w ls own I0 X0 β0) :
  ∀ (k0:Nat) (lvs:List AL) (xs:List Value) (as:List AU),RRL X β lvs xs→MemA w I lvs→(∀ b o,fpL lvs b o→kfp β X k0 b o)→trL (erF X) ls own k0 (erL lvs)=some as →
   ∃ las,erL las=as∧RRL X0 β0 las xs∧MemA w I0 las∧noOwnL las=true
 | k0,[],xs,as,hr,hm,hf,ht=>by
  simp only[erL,trL,Option.some.injEq] at ht
  simp only[RRL] at hr
  exact⟨[],by simp[erL,← ht],by simpa [RRL] using hr,by simp[MemA],by simp[noOwnL]⟩
 | k0,v :: vs,xs,as,hr,hm,hf,ht=>by
  simp only[erL,trL] at ht
  simp only[RRL] at hr
  obtain⟨y,ys,rfl,hr1,hr2⟩:=hr
  simp only[MemA] at hm
  split at ht
  ·rename_i a as' h1 h2
   simp only[Option.some.injEq] at ht
   obtain⟨la,g1,g2,g3,g4⟩:=trA_ok H k0 v y a hr1 hm.1 (fun b o hb=>hf b o (by simp[fpL,hb])) h1
   obtain⟨las,k1,k2,k3,k4⟩:=trL_ok H k0 vs ys as' hr2 hm.2 (fun b o hb=>hf b o (by simp[fpL,hb])) h2
   exact⟨la :: las,by simp[erL,g1,k1,ht],by simp only[RRL];exact⟨y,ys,rfl,g2,k2⟩,by simp only[MemA];exact⟨g3,k3⟩,by simp[noOwnL,g4,k4]⟩
  ·cases ht
end
end
end Go.OT
namespace Go.OT
def nodeOf (X:XF LO)(e:Nat × List Nat):AL:=(getN (X e.1).2 e.2).getD .non
def lgOf (v:AL):Gh LO:=.nod v
def hdrV:AL→Value
 | .sl _ none _ _ _=>.slice none 0 0
 | .sl _ (some l) _ n _=>.slice (some ⟨l.b,l.o,none⟩) n l.cap
 | .bx _ (some l) _=>.pointer (some ⟨l.b,l.o,none⟩)
 | _=>undef
theorem CR_hdrV {N:AL}{y:Value}(hn:N.own?=true)(h:CR N y):y=hdrV N:=by
 cases N with
 | sl o l s n cs =>
  cases o with
  | false=>simp [AV.own?] at hn
  | true=>cases l<;>simp [CR] at h<;>simp [hdrV,h]
 | bx o l cs=>cases l<;>simp [CR] at h<;>simp [hdrV,h]
 | _=>simp [AV.own?] at hn
def βC (X:XF LO)(ls:List (Nat × List Nat))(b:Nat):Nat × Nat:=(0,0)
def rgC (X:XF LO)(ls:List (Nat × List Nat))(args:Array Value)(t:Nat):Value:=if t < 10000 then args.getD t undef else ((ls.map (nodeOf X))[t - 10000]?).elim undef hdrV
def KC (X:XF LO)(ls:List (Nat × List Nat)):ASet:=fun b o=>∃ e ∈ ls,fp (nodeOf X e) b o
def IC (X:XF LO) (β:Nat→Nat × Nat)(I:ASet)(ls:List (Nat × List Nat))(own:Bool):ASet:=fun b o=>I b o∨(own=true∧∃ k,lentK ls k=false∧kfp β X k b o)
def XC (X:XF LO)(ls:List (Nat × List Nat))(las:List AL):XF LO:=initX (ls.map fun e=>lgOf (nodeOf X e)) las
def CC (C:Ctx)(X:XF LO) (β:Nat→Nat × Nat)(I:ASet)(w:World)(ls:List (Nat × List Nat))(own:Bool)(args:Array Value):Ctx :=
 { P:=C.P,nt:=C.nt,w0:=w,K:=KC X ls,I0:=IC X β I ls own,β0:=βC X ls,rg0:=rgC X ls args,hnt:=C.hnt }
structure Loans (X:XF LO) (β:Nat→Nat × Nat) (I:ASet) (w:World) (ls:List (Nat × List Nat)) (gs:List (Gh Unit)):Prop where
 len:ls.length=gs.length
 nd:(ls.map (·.1)).Nodup
 at_:∀ (j:Nat) (e:Nat × List Nat),ls[j]?=some e→∃ g,gs[j]?=some g∧getN (X e.1).2 e.2=some (nodeOf X e)∧(nodeOf X e).isNode=true∧ownQ (X e.1).2 e.2=true∧Mem w I (nodeOf X e)∧Sep (nodeOf X e)∧(∀ b o,fp (nodeOf X e) b o→kfp β X e.1 b o) ∧
   ((∃ l s n cs,nodeOf X e=.sl true l s n cs∧g=.nod (.sl true () s n (cs.map er)))∨(∃ l cs,nodeOf X e=.bx true (some l) cs∧g=.nod (.bx true () (cs.map er))))
section
variable {C:Ctx} {X:XF LO} {β:Nat→Nat × Nat} {I:ASet} {rg:Nat→Value} {w:World} {ls:List (Nat × List Nat)} {gs:List (Gh Unit)}
theorem mapM_some {α γ:Type}(f:α→Option γ):∀ (l:List α) (r:List γ),l.mapM f=some r→l.length=r.length∧∀ (j:Nat) (a:α),l[j]?=some a→∃ b,r[j]?=some b∧f a=some b
 | [],r,h=>by simp at h;subst h;simp
 | a :: l,r,h=>by
  rw[List.mapM_cons] at h
  cases h1:f a with
  | none=>simp [h1] at h
  | some b =>
   simp only[h1,Option.bind_eq_bind,Option.bind_some] at h
   cases h2:l.mapM f with
   | none=>simp [h2] at h
   | some bs =>
    simp only[h2,Option.bind_some,Option.pure_def,Option.some.injEq] at h
    subst h
    have ih:=mapM_some f l bs h2
    refine⟨by simp[ih.1],fun j x hx=>?_⟩
    cases j with
    | zero=>simp at hx;subst hx;exact⟨b,rfl,h1⟩
    | succ j=>simp at hx;simpa using ih.2 j x hx
theorem Loans.of (R:RelL C X β I rg w)(h:ls.mapM (ghAt (erF X))=some gs)(hn:(ls.map (·.1)).Nodup):Loans X β I w ls gs:=by
 have:=mapM_some _ _ _ h
 refine⟨this.1,hn,fun j e he=>?_⟩
 obtain⟨g,h1,h2⟩:=this.2 j e he
 obtain⟨N,a1,a2,a3,a4,a5,a6,a7⟩:=ghAt_ok R h2
 have hN:nodeOf X e=N:=by simp[nodeOf,a1]
 rw[hN]
 exact⟨g,h1,a1,a2,a3,a4,a5,a6,a7⟩
theorem Loans.inj (L:Loans X β I w ls gs){j j':Nat}{e e':Nat × List Nat}(h:ls[j]?=some e)(h':ls[j']?=some e')(hk:e.1=e'.1):j=j':=by
 have h1:(ls.map (·.1))[j]?=some e.1:=by simp[h]
 have h2:(ls.map (·.1))[j']?=some e.1:=by simp[h',hk]
 have hj:j < (ls.map (·.1)).length:=(List.getElem?_eq_some_iff.1 h1).1
 exact (List.getElem?_inj hj L.nd).1 (h1.trans h2.symm)
theorem lentK_of {j:Nat}{e:Nat × List Nat}(h:ls[j]?=some e):lentK ls e.1=true:=by
 simp only[lentK,List.contains_iff_mem]
 exact List.mem_map.2 ⟨e,List.mem_of_getElem? h,rfl⟩
theorem keepsC (las:List AL) (β0:Nat→Nat × Nat):Keeps (XC X ls []) (XC X ls las) β0 β0:=by
 refine⟨fun _=>Nat.le_refl _,fun k _ p h hh=>?_,fun _ _=>rfl⟩
 simp only[XC,initX,initV] at hh ⊢
 split at hh
 ·exfalso
  have:(if k % 100=0 then ([]:List AL).getD (k / 100) .non else .non)=.non:=by split<;>simp
  rw[this] at hh
  cases p with
  | nil=>simp [getN,hd] at hh
  | cons i p=>simp [getN,AV.cells?] at hh
 ·rename_i hk
  rw[if_neg hk]
  exact hh
theorem XC_ghost (L:Loans X β I w ls gs)(las:List AL)(k:Nat)(hk:10000≤k / 100):(XC X ls las k).2=.non∨∃ j e,ls[j]?=some e∧k / 100=10000+j ∧
  k % 100=0∧(XC X ls las k).2=nodeOf X e:=by
 simp only[XC,initX,initV]
 rw[if_neg (by omega)]
 cases hj:ls[k / 100 - 10000]? with
 | none=>left;simp[hj]
 | some e =>
  simp only[List.getElem?_map,hj,Option.map_some,lgOf]
  by_cases h0:k % 100=0
  ·right
   exact⟨_,e,hj,by omega,h0,by rw[if_pos h0]⟩
  ·left;rw[if_neg h0]
theorem XC_arg (las:List AL)(k:Nat)(hk:k / 100 < 10000):(XC X ls las k).2=.non∨∃ la,las[k / 100]?=some la∧k % 100=0∧(XC X ls las k).2=la:=by
 simp only[XC,initX,initV]
 rw[if_pos hk]
 split
 ·rename_i h0
  cases hl:las[k / 100]? with
  | none=>left;simp[hl]
  | some la=>right;exact⟨la,rfl,h0,by simp[hl]⟩
 ·left;rfl
theorem kfpC (L:Loans X β I w ls gs){las:List AL}(hno:∀ la ∈ las,noOwn la=true){k b o:Nat}(h:kfp (βC X ls) (XC X ls las) k b o) :
  ∃ j e,ls[j]?=some e∧k / 100=10000+j∧fp (nodeOf X e) b o:=by
 by_cases hk:k / 100 < 10000
 ·exfalso
  rcases XC_arg (X:=X) (ls:=ls) las k hk with h0 | ⟨la,h1,h2,h3⟩
  ·rcases h with h | ⟨_,h,_⟩
   ·rw[h0] at h;simp[fp] at h
   ·exact h h0
  ·rcases h with h | ⟨hc,_⟩
   ·rw[h3] at h;exact (noOwn_spec la (hno la (List.mem_of_getElem? h1))).1 b o h
   ·exact hc.1 h2
 ·rcases XC_ghost L las k (by omega) with h0 | ⟨j,e,hj,hkj,hor⟩
  ·rcases h with h | ⟨_,h,_⟩
   ·rw[h0] at h;simp[fp] at h
   ·exact absurd h0 h
  ·refine⟨j,e,hj,hkj,?_⟩
   obtain⟨h1,h3⟩:=hor
   rcases h with h | ⟨hc,_⟩
   ·rwa [h3] at h
   ·exact absurd h1 hc.1
theorem call_rel (R:RelL C X β I rg w)(L:Loans X β I w ls gs){own:Bool}{las:List AL}{args:Array Value}(hsz:las.length≤args.size)
  (hla:∀ (t:Nat) (la:AL),las[t]?=some la→RR (XC X ls []) (βC X ls) la (args.getD t undef)∧Mem w (IC X β I ls own) la∧noOwn la=true) :
  RelL (CC C X β I w ls own args) (XC X ls las) (βC X ls) (IC X β I ls own) (rgC X ls args) w:=by
 have hno:∀ la ∈ las,noOwn la=true:=fun la h=>by
  obtain⟨t,ht⟩:=List.getElem?_of_mem h
  exact (hla t la ht).2.2
 have hIC:∀ b o,I b o→IC X β I ls own b o:=fun b o h=>.inl h
 refine⟨fun t=>?_,fun k=>?_,fun k k' hne b o h1 h2=>?_,fun b o h=>?_,fun k b o h=>?_,fun b o h=>.inl h,fun b o h=>h,Frame.refl _ w,fun _ _=>rfl,fun _ _=>rfl⟩
 ·by_cases ht:t < 10000
  ·rcases XC_arg (X:=X) (ls:=ls) las (100 * t) (by omega) with h0 | ⟨la,h1,h2,h3⟩
   ·rw[h0];simp[RR]
   ·rw[h3]
    rw[show 100 * t / 100=t by omega] at h1
    simp only[rgC,if_pos ht]
    exact RR_keep (keepsC las _) _ _ (hla t la h1).1
  ·rcases XC_ghost L las (100 * t) (by omega) with h0 | ⟨j,e,hj,hkj,hor⟩
   ·rw[h0];simp[RR]
   ·obtain⟨h1,h3⟩:=hor
    have e1:t - 10000=j:=by omega
    obtain⟨g,_,_,_,_,hm,_,_,hor⟩:=L.at_ j e hj
    rcases hor with ⟨l,s,n,cs,hN,_⟩ | ⟨l,cs,hN,_⟩
    ·rw[h3,hN]
     simp only[rgC,if_neg ht,List.getElem?_map,e1,hj,Option.map_some,Option.elim,hN]
     rw[hN] at hm
     cases l with
     | none=>simp only[Mem] at hm;simp[RR,CR,hdrV,hm.1]
     | some l=>simp [RR,CR,hdrV]
    ·rw[h3,hN]
     simp only[rgC,if_neg ht,List.getElem?_map,e1,hj,Option.map_some,Option.elim,hN]
     simp[RR,CR,hdrV]
 ·-- what lies at a key
  by_cases hk:k / 100 < 10000
  ·rcases XC_arg (X:=X) (ls:=ls) las k hk with h0 | ⟨la,h1,h2,h3⟩
   ·refine⟨by rw[h0];simp[Mem],by rw[h0];simp[Sep],fun _ h=>absurd h0 h,fun b o h=>?_,fun _=>h0⟩
    rcases h with h | ⟨_,h,_⟩
    ·rw[h0] at h;simp[fp] at h
    ·exact absurd h0 h
   ·have hl:=hla _ la h1
    refine⟨by rw[h3];exact hl.2.1,by rw[h3];exact (noOwn_spec la hl.2.2).2,fun hc=>absurd h2 hc.1,fun b o h=>?_,fun h=>by omega⟩
    rcases h with h | ⟨hc,_⟩
    ·rw[h3] at h;exact absurd h ((noOwn_spec la hl.2.2).1 b o)
    ·exact absurd h2 hc.1
  ·rcases XC_ghost L las k (by omega) with h0 | ⟨j,e,hj,hkj,hor⟩
   ·refine⟨by rw[h0];simp[Mem],by rw[h0];simp[Sep],fun _ h=>absurd h0 h,fun b o h=>?_,fun _=>h0⟩
    rcases h with h | ⟨_,h,_⟩
    ·rw[h0] at h;simp[fp] at h
    ·exact absurd h0 h
   ·obtain⟨g,_,_,hnode,_,hm,hs,hf,_⟩:=L.at_ j e hj
    have hlive:∀ b o,kfp (βC X ls) (XC X ls las) k b o→b < w.heap.size∧w.fz b o=false∧(w.at b o).isSome:=by
     intro b o h
     obtain⟨j',e',hj',_,hfp⟩:=kfpC L hno h
     obtain⟨_,_,_,_,_,_,_,hf',_⟩:=L.at_ j' e' hj'
     exact (R.key _).live b o (hf' b o hfp)
    obtain⟨h1,h3⟩:=hor
    exact⟨by rw[h3];exact Mem_mono _ hm hIC,by rw[h3];exact hs,fun hc=>absurd h1 hc.1,hlive,fun h=>by omega⟩
 ·-- no address twice
  obtain⟨j,e,hj,hkj,hf⟩:=kfpC L hno h1
  obtain⟨j',e',hj',hkj',hf'⟩:=kfpC L hno h2
  by_cases hjj:j=j'
  ·subst hjj
   rw[hj] at hj'
   cases hj'
   rcases XC_ghost L las k (by omega) with h0 | ⟨j1,e1,hj1,hkj1,hm1,_⟩
   ·rcases h1 with h | ⟨_,h,_⟩
    ·rw[h0] at h;simp[fp] at h
    ·exact absurd h0 h
   ·rcases XC_ghost L las k' (by omega) with h0 | ⟨j2,e2,hj2,hkj2,hm2,_⟩
    ·rcases h2 with h | ⟨_,h,_⟩
     ·rw[h0] at h;simp[fp] at h
     ·exact absurd h0 h
    ·exact hne (by omega)
  ·obtain⟨_,_,_,_,_,_,_,q1,_⟩:=L.at_ j e hj
   obtain⟨_,_,_,_,_,_,_,q2,_⟩:=L.at_ j' e' hj'
   exact R.disj e.1 e'.1 (fun h=>hjj (L.inj hj hj' h)) b o (q1 b o hf) (q2 b o hf')
 ·-- what is never written
  have hn:∀ k,kfp (βC X ls) (XC X ls las) k b o→∃ k0,lentK ls k0=true∧kfp β X k0 b o:=by
   intro k hb
   obtain⟨j,e,hj,_,hf⟩:=kfpC L hno hb
   obtain⟨_,_,_,_,_,_,_,q1,_⟩:=L.at_ j e hj
   exact⟨e.1,lentK_of hj,q1 b o hf⟩
  rcases h with h | ⟨_,k0,h1,h2⟩
  ·refine⟨(R.imm b o h).1,fun k hb=>?_⟩
   obtain⟨k1,_,q⟩:=hn k hb
   exact (R.imm b o h).2 k1 q
  ·refine⟨((R.key k0).live b o h2).1,fun k hb=>?_⟩
   obtain⟨k1,q1,q⟩:=hn k hb
   exact R.disj k0 k1 (fun e=>by rw[e,q1] at h1;cases h1) b o h2 q
 ·obtain⟨j,e,hj,_,hf⟩:=kfpC L hno h
  exact .inl ⟨e,List.mem_of_getElem? hj,hf⟩
theorem calleeOk (R:RelL C X β I rg w)(L:Loans X β I w ls gs)(own:Bool):CalleeOk C X β I w ls own (IC X β I ls own) (XC X ls []) (βC X ls):=by
 refine⟨fun k=>(R.key k).mem,fun k h1 h2=>((R.key k).cell h1 h2).1,fun b o h=>.inl h,fun h k hk b o hb=>.inr ⟨h,k,hk,hb⟩,fun _=>rfl,fun j e hj=>?_⟩
 obtain⟨g,_,hN,_,_,_,_,_,hor⟩:=L.at_ j e hj
 refine⟨nodeOf X e,hN,?_⟩
 have k1:gkey j / 100=10000+j:=by unfold gkey;omega
 have k2:gkey j % 100=0:=by unfold gkey;omega
 have hX:(XC X ls [] (gkey j)).2=nodeOf X e:=by
  simp only[XC,initX,initV,k1,k2]
  rw[if_neg (by omega),show 10000+j - 10000=j by omega]
  simp only[List.getElem?_map,hj,Option.map_some,lgOf,if_true]
 rcases hor with ⟨l,s,n,cs,h,_⟩ | ⟨l,cs,h,_⟩
 ·exact .inl ⟨l,s,n,cs,h,hX⟩
 ·exact .inr ⟨l,cs,h,hX⟩
theorem erF_XC (L:Loans X β I w ls gs)(las:List AL):erF (XC X ls las)=initX gs (las.map er):=by
 funext k
 simp only[erF,XC,initX,Prod.mk.injEq,true_and]
 simp only[initV]
 split
 ·split
  ·simp only[List.getD_eq_getElem?_getD,List.getElem?_map]
   cases las[k / 100]?<;>simp [er]
  ·simp[er]
 ·simp only[List.getElem?_map]
  cases hj:ls[k / 100 - 10000]? with
  | none =>
   have:gs[k / 100 - 10000]?=none:=by
    rw[List.getElem?_eq_none_iff] at hj ⊢
    rw[← L.len];exact hj
   simp[this,er]
  | some e =>
   obtain⟨g,hg,_,_,_,_,_,_,hor⟩:=L.at_ _ e hj
   simp only[Option.map_some,hg]
   rcases hor with ⟨l,s,n,cs,h,rfl⟩ | ⟨l,cs,h,rfl⟩
   ·rw[h]
    simp only[lgOf]
    split<;>simp [er,erL_eq]
   ·rw[h]
    simp only[lgOf]
    split<;>simp [er,erL_eq]
end
end Go.OT
namespace Go.OT
def afterN (X Y:XF LO)(j:Nat)(e:Nat × List Nat):AL:=(Y (gkey j)).2
def lentsOf (X Y:XF LO):Nat→List (Nat × List Nat)→List Lent
 | _,[]=>[]
 | j,e :: l=>⟨e.1,e.2,nodeOf X e,afterN X Y j e⟩ :: lentsOf X Y (j+1) l
theorem lentsOf_k (X Y:XF LO):∀ (j:Nat) (l:List (Nat × List Nat)),(lentsOf X Y j l).map (·.k)=l.map (·.1)
 | _,[]=>rfl
 | j,e :: l=>by simp[lentsOf,lentsOf_k X Y (j+1) l]
theorem mem_lentsOf {X Y:XF LO}{f:Lent}:∀ {j0:Nat} {l:List (Nat × List Nat)},f ∈ lentsOf X Y j0 l ↔ ∃ j e,l[j]?=some e∧f=⟨e.1,e.2,nodeOf X e,afterN X Y (j0+j) e⟩
 | j0,[]=>by simp[lentsOf]
 | j0,e :: l=>by
  simp only[lentsOf,List.mem_cons,mem_lentsOf (j0:=j0+1) (l:=l)]
  constructor
  ·rintro (rfl | ⟨j,e',h,rfl⟩)
   ·exact⟨0,e,rfl,rfl⟩
   ·exact⟨j+1,e',by simpa using h,by rw[show j0+1+j=j0+(j+1) by omega]⟩
  ·rintro⟨j,e',h,rfl⟩
   cases j with
   | zero=>simp at h;subst h;left;rfl
   | succ j=>right;exact⟨j,e',by simpa using h,by rw[show j0+1+j=j0+(j+1) by omega]⟩
def ghOk:Gh Unit→Gh Unit→Bool
 | .nod _,.nod (.sl o _ _ _ _)=>o
 | .nod _,.nod (.bx o _ _)=>o
 | .nod _,.nod .dead=>true
 | _,_=>false
def ghsOk:List (Gh Unit)→List (Gh Unit)→Bool
 | [],[]=>true
 | g :: l,g' :: l'=>ghOk g g' && ghsOk l l'
 | _,_=>false
theorem ghsOk_at:∀ {l l':List (Gh Unit)},ghsOk l l'=true→l.length=l'.length∧∀ (j:Nat) (g:Gh Unit),l[j]?=some g→∃ g',l'[j]?=some g'∧ghOk g g'=true
 | [],[],_=>by simp
 | [],_ :: _,h=>by simp[ghsOk] at h
 | _ :: _,[],h=>by simp[ghsOk] at h
 | g :: l,g' :: l',h=>by
  simp only[ghsOk,Bool.and_eq_true] at h
  have ih:=ghsOk_at h.2
  refine⟨by simp[ih.1],fun j x hx=>?_⟩
  cases j with
  | zero=>simp at hx;subst hx;exact⟨g',rfl,h.1⟩
  | succ j=>simp at hx;simpa using ih.2 j x hx
def backU (X:XF Unit):List ((Nat × List Nat) × Gh Unit)→XF Unit
 | []=>X
 | e :: l=>(backU X l).set e.1.1 (setN (X e.1.1).2 e.1.2 (nodeAfter e.2))
mutual
theorem RR_rootless {X X':XF LO} {β β':Nat→Nat × Nat}:∀ (v:AL) (x:Value),roots v=[]→RR X β v x→RR X' β' v x
 | .view k g p off len,x,hk,h=>by simp[roots] at hk
 | .ptr k g p i,x,hk,h=>by simp[roots] at hk
 | .bptr b g i,x,hk,h=>by simp[roots] at hk
 | .mv k g p,x,hk,h=>by simp[roots] at hk
 | .mp o l cs,x,_,h=>by simpa [RR] using h
 | .agg cs,x,hk,h=>by
  simp only[RR] at h ⊢
  obtain⟨xs,h1,h2⟩:=h
  exact⟨xs,h1,RRL_rootless cs xs (by simpa [roots] using hk) h2⟩
 | .tuple cs,x,hk,h=>by
  simp only[RR] at h ⊢
  obtain⟨xs,h1,h2⟩:=h
  exact⟨xs,h1,RRL_rootless cs xs (by simpa [roots] using hk) h2⟩
 | .clos f cs,x,hk,h=>by
  simp only[RR] at h ⊢
  obtain⟨xs,h1,h2⟩:=h
  exact⟨xs,h1,RRL_rootless cs xs (by simpa [roots] using hk) h2⟩
 | .vptr l cs,x,_,h=>by simpa [RR] using h
 | .non,_,_,_=>by simp[RR]
 | .dead,_,_,_=>by simp[RR]
 | .sc v,x,_,h=>by simpa [RR] using h
 | .sl o l s n cs,x,_,h=>by simpa [RR] using h
 | .bx o l cs,x,_,h=>by simpa [RR] using h
theorem RRL_rootless {X X':XF LO} {β β':Nat→Nat × Nat}:∀ (vs:List AL) (xs:List Value),rootsL vs=[]→RRL X β vs xs→RRL X' β' vs xs
 | [],_,_,h=>by simpa [RRL] using h
 | v :: vs,xs,hk,h=>by
  simp only[RRL] at h ⊢
  simp only[rootsL,List.append_eq_nil_iff] at hk
  obtain⟨y,ys,h1,h2,h3⟩:=h
  exact⟨y,ys,h1,RR_rootless v y hk.1 h2,RRL_rootless vs ys hk.2 h3⟩
end
section
variable {C:Ctx} {X:XF LO} {β:Nat→Nat × Nat} {I:ASet} {rg:Nat→Value} {w:World} {ls:List (Nat × List Nat)} {gs:List (Gh Unit)}
theorem RelL.putOwn (R:RelL C X β I rg w)(t:Nat)(htl:t < 10000){v:AL}{x:Value}(hm:Mem w I v)(hs:Sep v)(hr:RR X β v x)
  (hf:∀ b o,fp v b o→b < w.heap.size∧w.fz b o=false∧(w.at b o).isSome∧¬ I b o∧(C.K b o∨C.w0.heap.size≤b)∧∀ k,¬ kfp β X k b o) :
  RelL C (X.set (100 * t) v) β I (fun s=>if s=t then x else rg s) w:=by
 have hk:=keeps_set X β (100 * t) v
 have hne:∀ k,k ≠ 100 * t→(X.set (100 * t) v) k=X k:=fun k h=>XF.set_ne _ _ h
 have hself:=XF.set_self X (100 * t) v
 have hkfp:∀ k b o,kfp β (X.set (100 * t) v) k b o→(k=100 * t∧fp v b o)∨(k ≠ 100 * t∧kfp β X k b o):=by
  intro k b o h
  by_cases e:k=100 * t
  ·subst e
   rcases h with h | ⟨hc,_⟩
   ·rw[hself] at h;exact .inl ⟨rfl,h⟩
   ·exact absurd (by omega) hc.1
  ·rw[kfp,hne k e] at h;exact .inr ⟨e,h⟩
 refine⟨fun s=>?_,fun k=>?_,fun k k' hkk b o h1 h2=>?_,fun b o h=>⟨(R.imm b o h).1,fun k h'=>?_⟩,fun k b o h=>?_,R.frI,R.frI0,R.fr,R.gh,fun s hs=>?_⟩
 ·by_cases e:s=t
  ·subst e;rw[hself];simp only[if_true];exact RR_keep hk _ _ hr
  ·rw[hne _ (by omega)];simp only[e,if_false];exact RR_keep hk _ _ (R.reg s)
 ·by_cases e:k=100 * t
  ·subst e
   refine⟨by rw[hself];exact hm,by rw[hself];exact hs,fun hc=>absurd (by omega) hc.1,fun b o h=>?_,fun h=>by omega⟩
   rcases hkfp _ b o h with ⟨_,h⟩ | ⟨h,_⟩
   ·have:=hf b o h;exact⟨this.1,this.2.1,this.2.2.1⟩
   ·exact absurd rfl h
  ·have h:=R.key k
   refine⟨by rw[hne k e];exact h.mem,by rw[hne k e];exact h.sep,by rw[hne k e];exact fun h1 h2=>⟨(h.cell h1 h2).1.imp fun y hy=>⟨hy.1,hy.2.keep hk⟩,(h.cell h1 h2).2⟩,fun b o hb=>?_,by rw[hne k e];exact h.last⟩
   rcases hkfp _ b o hb with ⟨h',_⟩ | ⟨_,h'⟩
   ·exact absurd h' e
   ·exact h.live b o h'
 ·rcases hkfp _ b o h1 with ⟨e1,g1⟩ | ⟨_,g1⟩
  ·rcases hkfp _ b o h2 with ⟨e2,g2⟩ | ⟨_,g2⟩
   ·exact hkk (e1.trans e2.symm)
   ·exact (hf b o g1).2.2.2.2.2 k' g2
  ·rcases hkfp _ b o h2 with ⟨e2,g2⟩ | ⟨_,g2⟩
   ·exact (hf b o g2).2.2.2.2.2 k g1
   ·exact R.disj k k' hkk b o g1 g2
 ·rcases hkfp _ b o h' with ⟨_,g⟩ | ⟨_,g⟩
  ·exact (hf b o g).2.2.2.1 h
  ·exact (R.imm b o h).2 k g
 ·rcases hkfp _ b o h with ⟨_,g⟩ | ⟨_,g⟩
  ·exact (hf b o g).2.2.2.2.1
  ·exact R.frK k b o g
 ·rw[if_neg (by omega)];exact R.gr s hs
theorem erF_back (Y:XF LO):∀ (j0:Nat) (l:List (Nat × List Nat)) (gl:List (Gh Unit)),l.length=gl.length→(∀ (j:Nat) (e:Nat × List Nat) (g:Gh Unit),l[j]?=some e→gl[j]?=some g→er (afterN X Y (j0+j) e)=nodeAfter g) →
  erF (back X (lentsOf X Y j0 l))=backU (erF X) (l.zip gl)
 | j0,[],gl,hl,_=>by simp[lentsOf,back,backU]
 | j0,e :: l,[],hl,_=>by simp at hl
 | j0,e :: l,g :: gl,hl,h=>by
  simp only[lentsOf,back,List.zip_cons_cons,backU]
  rw[erF_set,er_setN,erF_back Y (j0+1) l gl (by simpa using hl) (fun j e' g' h1 h2=>by
   have:=h (j+1) e' g' (by simpa using h1) (by simpa using h2)
   rwa [show j0+(j+1)=j0+1+j by omega] at this)]
  have:=h 0 e g rfl rfl
  simp only[Nat.add_zero] at this
  rw[this];rfl
theorem after_ok {own:Bool}{args:Array Value}{Y:XF LO} {β':Nat→Nat × Nat}{I1 I2:ASet}{rg':Nat→Value}{w':World}{gs':List (Gh Unit)}{r:AU}(L:Loans X β I w ls gs)
  (R':RelL (CC C X β I w ls own args) Y β' I1 rg' w') (hF:Fin (erF Y) gs' r) (hok:ghsOk gs gs'=true) (himm:own=true→gs'.all ghImm=true)
  (hmem:∀ v,(own=true→noImm v=true)→Mem w' I1 v→Mem w' I2 v) {j:Nat} {e:Nat × List Nat} (hj:ls[j]?=some e) :
  (∃ g',gs'[j]?=some g'∧er (afterN X Y j e)=nodeAfter g')∧Mem w' I2 (afterN X Y j e)∧Sep (afterN X Y j e)∧(∀ y,CR (nodeOf X e) y→CR (afterN X Y j e) y) ∧
   ∀ b o,fp (afterN X Y j e) b o→∃ k,k / 100=10000+j∧kfp β' Y k b o:=by
 obtain⟨g,hg,_,hnode,_,hmN,_,_,hor⟩:=L.at_ j e hj
 obtain⟨g',hg',hgg⟩:=(ghsOk_at hok).2 j g hg
 have hfin:=hF.2 j g' hg'
 have hjg:own=true→ghImm g'=true:=fun h=>List.all_eq_true.1 (himm h) g' (List.mem_of_getElem? hg')
 have hA:afterN X Y j e=(Y (gkey j)).2:=rfl
 have hk:=R'.key (gkey j)
 have hown:(nodeOf X e).own?=true∧∃ v,g=.nod v:=by
  rcases hor with ⟨l,s,n,cs,hN,rfl⟩ | ⟨l,cs,hN,rfl⟩
  ·rw[hN];exact⟨rfl,_,rfl⟩
  ·rw[hN];exact⟨rfl,_,rfl⟩
 obtain⟨hown,v0,rfl⟩:=hown
 have hreg:RR Y β' (Y (gkey j)).2 (hdrV (nodeOf X e)):=by
  have h1:=R'.reg (10000+j)
  have hgr:rg' (10000+j)=hdrV (nodeOf X e):=by
   rw[R'.gr (10000+j) (by omega)]
   show rgC X ls args (10000+j)=_
   simp only[rgC,if_neg (show ¬ 10000+j < 10000 by omega),show 10000+j - 10000=j by omega,List.getElem?_map,hj,Option.map_some,Option.elim]
  rwa [hgr,show 100 * (10000+j)=gkey j from rfl] at h1
 cases g' with
 | box cs'=>simp [ghOk] at hgg
 | nod v =>
  cases v with
  | sl o u s' n' cs' =>
   simp only[ghOk] at hgg
   subst hgg
   have hfin':er (Y (gkey j)).2=.sl true () s' n' cs':=by simpa [erF,gkey] using hfin
   obtain⟨l',lcs,hY,_⟩:=er_sl hfin'
   rw[hA]
   refine⟨⟨_,hg',by rw[hfin',nodeAfter]⟩,hmem _ (fun h=>?_) hk.mem,hk.sep,fun y hy=>?_,fun b o hb=>⟨gkey j,by unfold gkey;omega,.inl hb⟩⟩
   ·rw[← er_noImm,hfin'];simpa [ghImm] using hjg h
   ·rw[CR_hdrV hown hy]
    rw[hY] at hreg ⊢
    simpa [RR] using hreg
  | bx o u cs' =>
   simp only[ghOk] at hgg
   subst hgg
   have hfin':er (Y (gkey j)).2=.bx true () cs':=by simpa [erF,gkey] using hfin
   obtain⟨l',lcs,hY,_⟩:=er_bx hfin'
   rw[hA]
   refine⟨⟨_,hg',by rw[hfin',nodeAfter]⟩,hmem _ (fun h=>?_) hk.mem,hk.sep,fun y hy=>?_,fun b o hb=>⟨gkey j,by unfold gkey;omega,.inl hb⟩⟩
   ·rw[← er_noImm,hfin'];simpa [ghImm] using hjg h
   ·rw[CR_hdrV hown hy]
    rw[hY] at hreg ⊢
    simpa [RR] using hreg
  | dead =>
   have hfin':er (Y (gkey j)).2=.dead:=by simpa [erF,gkey] using hfin
   have hY:(Y (gkey j)).2=.dead:=by
    revert hfin'
    cases (Y (gkey j)).2<;>simp [er]
   rw[hA]
   refine⟨⟨_,hg',by rw[hfin',nodeAfter]⟩,by rw[hY];simp[Mem],by rw[hY];simp[Sep],fun y hy=>by rw[hY];simp[CR],fun b o hb=>by rw[hY] at hb;simp[fp] at hb⟩
  | _=>simp [ghOk] at hgg
theorem call_back {own:Bool}{args:Array Value}{Y:XF LO} {β':Nat→Nat × Nat}{I1:ASet}{rg':Nat→Value}{w':World}{gs':List (Gh Unit)}{r:AU}(R:RelL C X β I rg w)(L:Loans X β I w ls gs)
  (R':RelL (CC C X β I w ls own args) Y β' I1 rg' w') (hF:Fin (erF Y) gs' r) (hok:ghsOk gs gs'=true) (himm:own=true→gs'.all ghImm=true∧noImm r=true) (hroot:roots r=[]) {d:Nat} (hd:d < 10000) :
  ∃ XL2 I2,erF XL2=(backU (erF X) (ls.zip gs')).set (100 * d) r∧RelL C XL2 β I2 (fun s=>if s=d then rg' RS else rg s) w':=by
 -- what is immutable behind the call
 obtain⟨I2,h1,h2,h3,h4⟩:∃ I2:ASet,(∀ b o,I b o→I2 b o)∧(∀ b o,I2 b o→I1 b o)∧(∀ b o,I2 b o→I b o∨(b < w'.heap.size∧(KC X ls b o∨w.heap.size≤b))) ∧
   (∀ v,(own=true→noImm v=true)→Mem w' I1 v→Mem w' I2 v):=by
  have hII:∀ b o,I b o→I1 b o:=fun b o h=>R'.frI0 b o (.inl h)
  cases own with
  | true=>exact ⟨I,fun _ _ h=>h,hII,fun _ _ h=>.inl h,fun v hv hm=>Mem_noImm v (hv rfl) hm⟩
  | false =>
   refine⟨I1,hII,fun _ _ h=>h,fun b o h=>?_,fun v _ hm=>hm⟩
   rcases R'.frI b o h with h' | h'
   ·rcases h' with h' | ⟨h',_⟩
    ·exact .inl h'
    ·cases h'
   ·exact .inr ⟨(R'.imm b o h).1,h'⟩
 have hfr:Frame (KC X ls) w w':=R'.fr
 have hKx:∀ k b o,kfp β' Y k b o→KC X ls b o∨w.heap.size≤b:=fun k b o h=>R'.frK k b o h
 have hA:∀ {j e},ls[j]?=some e→_:=fun {j e} hj=>after_ok (I2:=I2) L R' hF hok (fun h=>(himm h).1) h4 (j:=j) (e:=e) hj
 have hl:∀ f ∈ lentsOf X Y 0 ls,LentOk X I2 w' (KC X ls) w.heap.size f:=by
  intro f hf
  obtain⟨j,e,hj,rfl⟩:=mem_lentsOf.1 hf
  rw[Nat.zero_add]
  obtain⟨g,_,a1,a2,a3,_⟩:=L.at_ j e hj
  obtain⟨_,b2,b3,b4,b5⟩:=hA hj
  refine⟨a1,a2,a3,b4,b2,b3,fun b o hb=>?_⟩
  obtain⟨k,hk,hkb⟩:=b5 b o hb
  obtain⟨l1,l2,l3⟩:=(R'.key k).live b o hkb
  exact⟨hKx k b o hkb,l1,l2,l3,fun h=>(R'.imm b o (h2 b o h)).2 k hkb⟩
 have hn:((lentsOf X Y 0 ls).map (·.k)).Nodup:=by rw[lentsOf_k];exact L.nd
 have RB:=R.comeback (lentsOf X Y 0 ls) hn (KC X ls) hl (fun b o hb=>by
   obtain⟨e,he,hb⟩:=hb
   obtain⟨j,hj⟩:=List.getElem?_of_mem he
   exact⟨_,mem_lentsOf.2 ⟨j,e,hj,rfl⟩,hb⟩)
  (fun f hf f' hf' hne b o g1 g2=>by
   obtain⟨j,e,hj,rfl⟩:=mem_lentsOf.1 hf
   obtain⟨j',e',hj',rfl⟩:=mem_lentsOf.1 hf'
   rw[Nat.zero_add] at g1 g2
   obtain⟨k,hk,q1⟩:=(hA hj).2.2.2.2 b o g1
   obtain⟨k',hk',q2⟩:=(hA hj').2.2.2.2 b o g2
   refine R'.disj k k' (fun e=>?_) b o q1 q2
   have:j=j':=by omega
   subst this
   rw[hj] at hj'
   cases hj'
   exact hne rfl)
  hfr h1 h3
 have hE:erF (back X (lentsOf X Y 0 ls))=backU (erF X) (ls.zip gs'):=erF_back Y 0 ls gs' (by rw[L.len];exact (ghsOk_at hok).1) fun j e g hj hg=>by
  obtain⟨⟨g',q1,q2⟩,_⟩:=hA hj
  rw[hg] at q1
  cases q1
  rw[Nat.zero_add];exact q2
 -- the result
 have hr:er (Y (100 * RS)).2=r:=hF.1
 have hkr:=R'.key (100 * RS)
 have hreg:=R'.reg RS
 refine⟨(back X (lentsOf X Y 0 ls)).set (100 * d) (Y (100 * RS)).2,I2,by rw[erF_set,hE,hr],?_⟩
 refine RB.putOwn d hd (h4 _ (fun h=>by rw[← er_noImm,hr];exact (himm h).2) hkr.mem) hkr.sep (RR_rootless _ _ (by rw[← er_roots,hr];exact hroot) hreg) fun b o hb=>?_
 have hkb:kfp β' Y (100 * RS) b o:=.inl hb
 obtain⟨l1,l2,l3⟩:=hkr.live b o hkb
 refine⟨l1,l2,l3,fun h=>(R'.imm b o (h2 b o h)).2 _ hkb,?_,fun k hk=>?_⟩
 ·rcases hKx _ b o hkb with ⟨e,he,h⟩ | h
  ·obtain⟨j,hj⟩:=List.getElem?_of_mem he
   obtain⟨_,_,_,_,_,_,_,q1,_⟩:=L.at_ j e hj
   exact R.frK e.1 b o (q1 b o h)
  ·exact .inr (Nat.le_trans R.fr.size h)
 ·-- nobody else has it
  by_cases hlk:∃ (j:Nat) (e:Nat × List Nat),ls[j]?=some e∧e.1=k
  ·obtain⟨j,e,hj,rfl⟩:=hlk
   obtain⟨g,_,a1,a2,a3,a4,a5,a6,_⟩:=L.at_ j e hj
   have hmemf:(⟨e.1,e.2,nodeOf X e,afterN X Y j e⟩:Lent) ∈ lentsOf X Y 0 ls:=mem_lentsOf.2 ⟨j,e,hj,by rw[Nat.zero_add]⟩
   have hback:=back_eq (X:=X) hmemf hn
   have hkey:=R.key e.1
   have rp:=repl e.2 (X e.1).2 hkey.mem hkey.sep a3 a1
   have hnon:(X e.1).2 ≠ .non:=isNode_ne_non (getN_isNode a1 a2)
   -- either it was the key's ahead of the call, or it came back
   have hcase:(kfp β X e.1 b o∧¬ fp (nodeOf X e) b o)∨fp (afterN X Y j e) b o:=by
    rcases hk with hk | ⟨g1,_,g3⟩
    ·rw[hback] at hk
     rcases rp.fps _ b o hk with h | h
     ·exact .inl ⟨.inl h.1,h.2⟩
     ·exact .inr h
    ·refine .inl ⟨.inr ⟨g1,hnon,g3⟩,fun h=>(hkey.cell g1 hnon).2 ?_⟩
     have:=rp.sub b o h
     rwa [g3.1,g3.2] at this
   rcases hcase with ⟨q1,q2⟩ | q
   ·rcases hKx _ b o hkb with ⟨e',he',h⟩ | h
    ·obtain⟨j',hj'⟩:=List.getElem?_of_mem he'
     obtain⟨_,_,_,_,_,_,_,q1',_⟩:=L.at_ j' e' hj'
     by_cases hee:e.1=e'.1
     ·have:=L.inj hj hj' hee
      subst this
      rw[hj] at hj'
      cases hj'
      exact q2 h
     ·exact R.disj e.1 e'.1 hee b o q1 (q1' b o h)
    ·have:=(hkey.live b o q1).1
     omega
   ·obtain⟨k',hk',q'⟩:=(hA hj).2.2.2.2 b o q
    exact R'.disj k' (100 * RS) (fun e=>by rw[e] at hk';unfold RS at hk';omega) b o q' hkb
  ·have hb':back X (lentsOf X Y 0 ls) k=X k:=back_ne fun f hf h=>hlk (by
    obtain⟨j,e,hj,rfl⟩:=mem_lentsOf.1 hf
    exact⟨j,e,hj,h⟩)
   rw[kfp,hb'] at hk
   rcases hKx _ b o hkb with ⟨e',he',h⟩ | h
   ·obtain⟨j',hj'⟩:=List.getElem?_of_mem he'
    obtain⟨_,_,_,_,_,_,_,q1',_⟩:=L.at_ j' e' hj'
    exact R.disj k e'.1 (fun e=>hlk ⟨j',e',hj',e.symm⟩) b o hk (q1' b o h)
   ·have:=((R.key k).live b o hk).1
    omega
end
end Go.OT
namespace Go.OT
def argsOd (nt:Nat):List Nat→List Operand→Option (List COd)
 | s :: ss,x :: xs=>match compOd nt s x,argsOd nt ss xs with
  | some c,some cs=>some (c :: cs)
  | _,_=>none
 | [],[]=>some []
 | _,_=>none
def trArgs (X:XF Unit)(ls:List (Nat × List Nat))(own:Bool):List COd→Option (List AU)
 | []=>some []
 | c :: cs=>match trA X ls own (keyOf c) (rd X c),trArgs X ls own cs with
  | some a,some as=>some (a :: as)
  | _,_=>none
section
variable {C:Ctx} {X:XF LO} {β:Nat→Nat × Nat} {I:ASet} {rg:Nat→Value} {w:World} {ls:List (Nat × List Nat)} {gs:List (Gh Unit)}
theorem trArgs_ok (R:RelL C X β I rg w){own:Bool}{I0:ASet}{X0:XF LO} {β0:Nat→Nat × Nat}(H:CalleeOk C X β I w ls own I0 X0 β0){nt:Nat} :
  ∀ (ss:List Nat) (xs:List Operand) (cs:List COd) (as:List AU),argsOd nt ss xs=some cs→trArgs (erF X) ls own cs=some as →
   ∃ las:List AL,las.map er=as∧las.length=xs.length∧∀ (t:Nat) (la:AL) (x:Operand),las[t]?=some la→xs[t]?=some x→RR X0 β0 la (evR rg x)∧Mem w I0 la∧noOwn la=true
 | [],[],cs,as,h,ht=>by
  simp only[argsOd,Option.some.injEq] at h
  subst h
  simp only[trArgs,Option.some.injEq] at ht
  exact⟨[],by simp[ht],rfl,by simp⟩
 | [],_ :: _,cs,as,h,ht=>by simp[argsOd] at h
 | _ :: _,[],cs,as,h,ht=>by simp[argsOd] at h
 | s :: ss,x :: xs,cs,as,h,ht=>by
  simp only[argsOd] at h
  split at h
  ·rename_i c cs' h1 h2
   simp only[Option.some.injEq] at h
   subst h
   simp only[trArgs] at ht
   split at ht
   ·rename_i a as' g1 g2
    simp only[Option.some.injEq] at ht
    subst ht
    obtain⟨lv,e1,e2,e3,e4⟩:=rd_fp R h1
    rw[← e1] at g1
    obtain⟨la,f1,f2,f3,f4⟩:=trA_ok H _ lv _ a e2 e3 e4 g1
    obtain⟨las,k1,k2,k3⟩:=trArgs_ok R H ss xs cs' as' h2 g2
    refine⟨la :: las,by simp[f1,k1],by simp[k2],fun t la' x' q1 q2=>?_⟩
    cases t with
    | zero=>simp at q1 q2;subst q1 q2;exact⟨f2,f3,f4⟩
    | succ t=>exact k3 t la' x' (by simpa using q1) (by simpa using q2)
   ·cases ht
  ·cases h
end
theorem ok_call {C:Ctx}{o:Oper}{X:XF Unit}{ls:List (Nat × List Nat)}{gs gs':List (Gh Unit)}{as:List AU}{r:AU}{own:Bool}{d:Nat}{f:FuncId}{xs:Array Operand}{tys:Array TypeId}{ss:List Nat}{cs:List COd}
  (hdst:o.dst=some d) (hlt:d < C.nt) (hin:opsIn C.nt o=true) (hop:o.op=.call ⟨.value (.func f),xs,tys⟩) (hcs:argsOd C.nt ss xs.toList=some cs)
  (hgs:ls.mapM (ghAt X)=some gs) (hnd:(ls.map (·.1)).Nodup) (has:trArgs X ls own cs=some as) (hlen:xs.size≤9000)
  (hrun:∀ args w,(callFunc f args).run C.P w=.ok (.enter f args) w) (hfn:Fn C.P f gs as gs' r) (hok:ghsOk gs gs'=true) (himm:own=true→gs'.all ghImm=true∧noImm r=true) (hroot:roots r=[]) :
  OpOk C o X ((backU X (ls.zip gs')).set (100 * d) r):=by
 rintro a w hdef ⟨XL,β,I,rg,he,R,hs,ht⟩ K Q hK
 subst he
 have L:=Loans.of R hgs hnd
 obtain⟨las,e1,e2,e3⟩:=trArgs_ok R (calleeOk R L own) ss xs.toList cs as hcs has
 have hxs:las.length=xs.size:=by simpa using e2
 have hval:∀ t,t < las.length→(xs.map (evR rg)).getD t undef=evR rg (xs.toList.getD t (.const undef)):=by
  intro t htl
  simp[Array.getD_eq_getD_getElem?,List.getD_eq_getElem?_getD,show t < xs.size by omega]
 have R0:=call_rel (own:=own) (args:=xs.map (evR rg)) R L (las:=las) (by simp[hxs]) (fun t la h=>by
  have hlt':t < las.length:=(List.getElem?_eq_some_iff.1 h).1
  have hx:xs.toList[t]?=some (xs.toList[t]'(by simpa using hxs ▸ hlt')):=List.getElem?_eq_getElem _
  rw[hval t hlt',List.getD_eq_getElem?_getD,hx]
  exact e3 t la _ h hx)
 have hcall:=hfn (CC C XL β I w ls own (xs.map (evR rg))) (XC XL ls las) (βC XL ls) (IC XL β I ls own) (rgC XL ls (xs.map (evR rg))) w (xs.map (evR rg)) rfl (by rw[erF_XC L,e1]) R0
  (by rw[← e1];simp[hxs]) (fun t htl=>by
   rw[← e1] at htl
   simp only[List.length_map,hxs] at htl
   simp only[rgC,if_pos (show t < 10000 by omega)])
 have hexec:(execOp (evR rg) o).run C.P w=.ok (.enter f (xs.map (evR rg))) w:=by
  simp only[execOp,hop,resolve,evR,Deferred.ofValue]
  simp only[Sem.run_bind,Sem.run_pure,Result.andThen_ok,invoke,Array.append_empty,Array.empty_append,hrun]
 unfold Oper.wp
 rw[evR_of hin ht,hexec,Oper.upon_enter]
 refine Calls.mono hcall fun e w' hq=>?_
 obtain⟨x,XL',β',I',rg',rfl,R',hx,hF⟩:=hq
 obtain⟨XL2,I2,f1,f2⟩:=call_back R L R' hF hok himm hroot (d:=d) (by have:=C.hnt;omega)
 refine hK _ _ (by simp[Act.put,hdst,hdef]) ⟨XL2,β,I2,_,f1,f2,by simp[Act.put,hdst,hs],fun t htl=>?_⟩
 simp only[Act.put,hdst]
 by_cases e:t=d
 ·subst e;simp[Array.getD_eq_getD_getElem?,hs,hlt,hx]
 ·simp only[e,if_false]
  rw[← ht t htl]
  simp[Array.getD_eq_getD_getElem?,Array.getElem?_setIfInBounds_ne (Ne.symm e)]
end Go.OT
namespace Go.OT
def unitK (k:Nat):Nat:=if k % 100=0 then 2 * (k / 100) else 2 * k+1
def mix (D:List Nat)(Y X:XF Unit):XF Unit:=fun k=>if unitK k ∈ D then Y k else X k
structure LStep (C:Ctx) (ops:Array Oper) (o:Oper) (R D:List Nat) (Y Y':XF Unit):Prop where
 sub:∀ u ∈ D,u ∈ R
 out:∀ k,unitK k ∉ D→Y' k=Y k
 step:∀ X,(∀ k,unitK k ∈ R→X k=Y k)→GStep C ops o X (mix D Y' X)
theorem mix_set {X Y:XF Unit}{d:Nat}{v:AU}(h:X (100 * d)=Y (100 * d)):mix [2 * d] (Y.set (100 * d) v) X=X.set (100 * d) v:=by
 funext k
 simp only[mix,XF.set,List.mem_singleton]
 by_cases hk:k=100 * d
 ·subst hk
  have:unitK (100 * d)=2 * d:=by unfold unitK;rw[if_pos (by omega)];omega
  simp[this,h]
 ·have:unitK k ≠ 2 * d:=by unfold unitK;split<;>omega
  simp[this,hk]
def predsOf (o:Oper):List Nat:=o.after.toList.filterMap fun e=>if Region.binds .any e then some e.on else none
def clos:List (List Nat)→List (List Nat)→List (List Nat)
 | acc,[]=>acc
 | acc,ds :: l=>clos (acc ++ [(ds ++ ds.flatMap fun j=>acc.getD j []).eraseDups]) l
def predsLt:Nat→List (List Nat)→Bool
 | _,[]=>true
 | i,ds :: l=>ds.all (fun j=>j < i) && predsLt (i+1) l
def disjL (a b:List Nat):Bool:=a.all fun x=>!b.contains x
def pairsOk (cl:List (List Nat))(l:List (List Nat × List Nat)):Bool :=
 (List.range l.length).all fun i=>(List.range i).all fun j =>
  (cl.getD i []).contains j || (disjL (l.getD j ([],[])).2 (l.getD i ([],[])).1 && disjL (l.getD i ([],[])).2 (l.getD j ([],[])).1)
def drawOk (pl:List (List Nat))(l:List (List Nat × List Nat)):Bool:=predsLt 0 pl && pairsOk (clos [] pl) l
theorem predsLt_at:∀ {l:List (List Nat)} {i m:Nat} {ds:List Nat},predsLt i l=true→l[m]?=some ds→∀ j ∈ ds,j < i+m
 | [],i,m,ds,_,h=>by simp at h
 | a :: l,i,m,ds,hp,h=>by
  simp only[predsLt,Bool.and_eq_true,List.all_eq_true,decide_eq_true_eq] at hp
  cases m with
  | zero=>simp at h;subst h;exact hp.1
  | succ m =>
   have:=predsLt_at hp.2 (by simpa using h)
   intro j hj
   have:=this j hj
   omega
theorem clos_ok {pl:List (List Nat)}(L:Nat→Bool):∀ (l acc:List (List Nat)) (n:Nat),acc.length=n→(∀ m,l[m]?=pl[n+m]?)→(∀ i ds,i < n→pl[i]?=some ds→(∀ d ∈ ds,L d=true)→∀ j ∈ acc.getD i [],L j=true) →
  (∀ i ds,L i=true→pl[i]?=some ds→∀ d ∈ ds,L d=true)→∀ i ds,pl[i]?=some ds→(∀ d ∈ ds,L d=true)→∀ j ∈ (clos acc l).getD i [],L j=true
 | [],acc,n,hn,hl,ha,hc,i,ds,hi,hd,j,hj=>by
  simp only[clos] at hj
  by_cases hlt:i < n
  ·exact ha i ds hlt hi hd j hj
  ·rw[List.getD_eq_getElem?_getD,List.getElem?_eq_none (by omega)] at hj;simp at hj
 | a :: l,acc,n,hn,hl,ha,hc,i,ds,hi,hd,j,hj=>by
  simp only[clos] at hj
  refine clos_ok L l _ (n+1) (by simp[hn]) (fun m=>by have:=hl (m+1);simp at this;rw[this];congr 1;omega) (fun i ds hlt hi hd j hj=>?_) hc i ds hi hd j hj
  by_cases h:i < n
  ·rw[List.getD_eq_getElem?_getD,List.getElem?_append_left (by omega)] at hj
   exact ha i ds h hi hd j (by rwa [List.getD_eq_getElem?_getD])
  ·have hin:i=n:=by omega
   subst hin
   rw[List.getD_eq_getElem?_getD,List.getElem?_append_right (by omega),hn] at hj
   simp only[Nat.sub_self,List.getElem?_cons_zero,Option.getD_some,List.mem_eraseDups,List.mem_append,List.mem_flatMap] at hj
   have h0:=hl 0
   simp at h0
   rw[hi] at h0
   cases h0
   rcases hj with hj | ⟨m,hm,hj⟩
   ·exact hd j hj
   ·have hLm:=hd m hm
    by_cases hmn:m < i
    ·cases hpm:pl[m]? with
     | none =>
      rw[List.getElem?_eq_none_iff] at hpm
      have:=(List.getElem?_eq_some_iff.1 hi).1
      omega
     | some dm=>exact ha m dm hmn hpm (hc m dm hLm hpm) j hj
    ·rw[List.getD_eq_getElem?_getD,List.getElem?_eq_none (by omega)] at hj;simp at hj
theorem filter_lt {p q:Nat→Bool}(hpq:∀ x,q x=true→p x=true){i:Nat}(hp:p i=true)(hq:q i=false):∀ {l:List Nat},i ∈ l→(l.filter q).length < (l.filter p).length
 | a :: l,h=>by
  have hle:∀ l:List Nat,(l.filter q).length≤(l.filter p).length:=by
   intro l
   induction l with
   | nil=>simp
   | cons b l ih =>
    simp only[List.filter_cons]
    cases hb:q b with
    | true=>simp [hpq b hb];exact ih
    | false=>cases p b<;>simp<;>omega
  simp only[List.filter_cons]
  rcases List.mem_cons.1 h with rfl | h
  ·simp[hp,hq];have:=hle l;omega
  ·have ih:=filter_lt hpq hp hq h
   cases hb:q a with
   | true=>simp [hpq a hb];exact ih
   | false=>cases p a<;>simp<;>omega
def stV' (Y:Nat→XF Unit)(D:Nat→List Nat)(L:Nat→Bool):Nat→XF Unit
 | 0=>Y 0
 | m+1=>if L m=true then mix (D m) (Y (m+1)) (stV' Y D L m) else stV' Y D L m
theorem AWp.draw' {C:Ctx}{id:Nat}{ops:Array Oper}{Q:Ex→XF Unit→Prop}(hm:C.P.follows .mixedOrders=true)(Y:Nat→XF Unit)(R D:Nat→List Nat)(pl:List (List Nat))(l:List (List Nat × List Nat))
  (hl:l.length=ops.size) (hRD:∀ i,i < ops.size→l.getD i ([],[])=(R i,D i)) (hpl:ops.toList.map predsOf=pl)
  (hs:∀ i,i < ops.size→∃ o,ops[i]?=some o∧LStep C ops o (R i) (D i) (Y i) (Y (i+1))) (hok:drawOk pl l=true) (hq:Q .nrm (Y ops.size)):AWp C (.region id ops true) (Y 0) Q:=by
 simp only[drawOk,Bool.and_eq_true] at hok
 obtain⟨hlt,hpairs⟩:=hok
 have hpa:∀ (i:Nat) (o:Oper),ops[i]?=some o→pl[i]?=some (predsOf o):=by
  intro i o h
  rw[← hpl]
  simp[h]
 have hpair:∀ i j,i < ops.size→j < i→j ∈ (clos [] pl).getD i []∨((∀ u ∈ D j,u ∉ R i)∧(∀ u ∈ D i,u ∉ R j)):=by
  intro i j hi hj
  simp only[pairsOk,List.all_eq_true,List.mem_range,hl] at hpairs
  have:=hpairs i hi j hj
  simp only[Bool.or_eq_true,Bool.and_eq_true,List.contains_iff_mem,hRD i hi,hRD j (by omega)] at this
  rcases this with h | h
  ·exact .inl h
  ·refine .inr ⟨fun u hu=>?_,fun u hu=>?_⟩
   ·have:=List.all_eq_true.1 h.1 u hu;simpa using this
   ·have:=List.all_eq_true.1 h.2 u hu;simpa using this
 -- one listed set after the other
 have key:∀ (fuel:Nat) (listed:Array Bool) (a:Act) (w:World),listed.size=ops.size →
   (∀ i o,listed.getD i false=true→ops[i]?=some o→∀ d ∈ predsOf o,listed.getD d false=true) →
   ((List.range ops.size).filter fun i=>!listed.getD i true).length≤fuel→a.defers=[]→RelT C (stV' Y D (fun i=>listed.getD i false) ops.size) a.tmps w →
   wpAny C.P .any ops (CQ C Q) fuel listed a w:=by
  intro fuel
  induction fuel with
  | zero =>
   intro listed a w hsz hcl hcnt hd hr
   have hall:∀ i,i < ops.size→listed.getD i true=true:=by
    intro i hi
    cases h:listed.getD i true with
    | true=>rfl
    | false =>
     exfalso
     have:i ∈ (List.range ops.size).filter fun i=>!listed.getD i true:=by simp only[List.mem_filter,List.mem_range,hi,h,Bool.not_false,and_self]
     have h0:=List.eq_nil_of_length_eq_zero (Nat.le_zero.1 hcnt)
     rw[h0] at this
     cases this
   have hempty:Region.ready .any ops listed=[]:=by
    rw[List.eq_nil_iff_forall_not_mem]
    intro i hi
    rw[mem_ready] at hi
    obtain⟨h0,o,ho,_⟩:=hi
    have:=hall i (Array.getElem?_eq_some_iff.1 ho).1
    rw[h0] at this
    cases this
   refine⟨hempty,hd,_,hr,?_⟩
   have:∀ m,m≤ops.size→stV' Y D (fun i=>listed.getD i false) m=Y m:=by
    intro m
    induction m with
    | zero=>intro _;rfl
    | succ m ih =>
     intro hm
     obtain⟨o,_,hst⟩:=hs m (by omega)
     have hL:listed.getD m false=true:=by
      have:=hall m (by omega)
      simp only[Array.getD_eq_getD_getElem?,Array.getElem?_eq_getElem (show m < listed.size by omega),Option.getD_some] at this ⊢
      exact this
     simp only[stV',hL,if_true,ih (by omega)]
     funext k
     simp only[mix]
     split
     ·rfl
     ·rename_i hk;exact (hst.out k hk).symm
   rw[this _ (Nat.le_refl _)]
   exact hq
  | succ fuel ih =>
   intro listed a w hsz hcl hcnt hd hr
   refine⟨fun hempty=>?_,fun i hi=>?_⟩
   ·-- nothing is ready: all is done
    have hall:∀ i,i < ops.size→listed.getD i false=true:=by
     intro i
     induction i using Nat.strongRecOn with
     | _ i ihi =>
      intro hi
      cases h:listed.getD i false with
      | true=>rfl
      | false =>
       exfalso
       obtain⟨o,ho,_⟩:=hs i hi
       have hin:i ∈ Region.ready .any ops listed:=by
        rw[mem_ready]
        refine⟨by
         simp only[Array.getD_eq_getD_getElem?,Array.getElem?_eq_getElem (show i < listed.size by omega),Option.getD_some] at h ⊢
         exact h,o,ho,fun e he hb=>?_⟩
        have hdp:e.on ∈ predsOf o:=by
         simp only[predsOf,List.mem_filterMap]
         exact⟨e,by simpa using he,by rw[if_pos hb]⟩
        have hlt':=predsLt_at hlt (hpa i o ho) e.on hdp
        exact ihi e.on (by omega) (by omega)
       rw[hempty] at hin
       cases hin
    refine⟨hd,_,hr,?_⟩
    have:∀ m,m≤ops.size→stV' Y D (fun i=>listed.getD i false) m=Y m:=by
     intro m
     induction m with
     | zero=>intro _;rfl
     | succ m ih =>
      intro hm
      obtain⟨o,_,hst⟩:=hs m (by omega)
      simp only[stV',hall m (by omega),if_true,ih (by omega)]
      funext k
      simp only[mix]
      split
      ·rfl
      ·rename_i hk;exact (hst.out k hk).symm
    rw[this _ (Nat.le_refl _)]
    exact hq
   ·-- one that is ready
    rw[mem_ready] at hi
    obtain⟨h0,o,ho,hpre⟩:=hi
    have hisz:i < ops.size:=(Array.getElem?_eq_some_iff.1 ho).1
    have hi0:listed.getD i false=false:=by
     simp only[Array.getD_eq_getD_getElem?,Array.getElem?_eq_getElem (show i < listed.size by omega),Option.getD_some] at h0 ⊢
     exact h0
    obtain⟨o',ho',hst⟩:=hs i hisz
    rw[ho] at ho'
    cases ho'
    have hpre':∀ d ∈ predsOf o,listed.getD d false=true:=by
     intro d hdm
     simp only[predsOf,List.mem_filterMap] at hdm
     obtain⟨e,he,hde⟩:=hdm
     split at hde
     ·rename_i hb
      cases hde
      exact hpre e (by simpa using he) hb
     ·cases hde
    have hclo:∀ m o',ops[m]?=some o'→(∀ d ∈ predsOf o',listed.getD d false=true)→∀ j ∈ (clos [] pl).getD m [],listed.getD j false=true:=by
     intro m o' hm' hd' j hj
     refine clos_ok (pl:=pl) (fun i=>listed.getD i false) pl [] 0 rfl (by simp) (by simp) (fun i ds hL hds d hdd=>?_) m _ (hpa m o' hm') hd' j hj
     have hi':i < ops.size:=by
      have:=(List.getElem?_eq_some_iff.1 hds).1
      rw[← hpl] at this
      simpa using this
     have hoi:ops[i]?=some ops[i]:=Array.getElem?_eq_getElem hi'
     rw[hpa i _ hoi] at hds
     cases hds
     exact hcl i _ hL hoi d hdd
    -- apart from what is not done below i, and what is done above it
    have hbelow:∀ m,m < i→listed.getD m false=false→∀ u ∈ D m,u ∉ R i:=by
     intro m hmi hmL
     rcases hpair i m hisz hmi with h | h
     ·have:=hclo i o ho hpre' m h
      rw[hmL] at this
      cases this
     ·exact h.1
    have habove:∀ m,i < m→m < ops.size→listed.getD m false=true→(∀ u ∈ D m,u ∉ R i)∧(∀ u ∈ D i,u ∉ R m):=by
     intro m hmi hms hmL
     rcases hpair m i hms hmi with h | h
     ·have hom:ops[m]?=some ops[m]:=Array.getElem?_eq_getElem hms
      have:=hclo m _ hom (hcl m _ hmL hom) i h
      rw[hi0] at this
      cases this
     ·exact⟨h.2,h.1⟩
    have hA:∀ m,m≤i→∀ k,unitK k ∈ R i→stV' Y D (fun i=>listed.getD i false) m k=Y m k:=by
     intro m
     induction m with
     | zero=>intro _ k _;rfl
     | succ m ihm =>
      intro hmi k hk
      obtain⟨om,_,hstm⟩:=hs m (by omega)
      simp only[stV']
      by_cases hL:listed.getD m false=true
      ·rw[if_pos hL]
       simp only[mix]
       split
       ·rfl
       ·rename_i hkd;rw[ihm (by omega) k hk,hstm.out k hkd]
      ·rw[if_neg hL,ihm (by omega) k hk]
       exact (hstm.out k (fun hu=>hbelow m (by omega) (by simpa using hL) _ hu hk)).symm
    have hB:∀ n,∀ k,unitK k ∈ R i→i+n≤ops.size→stV' Y D (fun i=>listed.getD i false) (i+n) k=Y i k:=by
     intro n
     induction n with
     | zero=>intro k hk _;exact hA i (Nat.le_refl _) k hk
     | succ n ihn =>
      intro k hk hle
      rw[← Nat.add_assoc]
      simp only[stV']
      by_cases hL:listed.getD (i+n) false=true
      ·rw[if_pos hL]
       simp only[mix]
       have hne:0 < n:=by
        rcases Nat.eq_zero_or_pos n with h | h
        ·subst h;simp only[Nat.add_zero] at hL;rw[hi0] at hL;cases hL
        ·exact h
       rw[if_neg (fun hu=>(habove (i+n) (by omega) (by omega) hL).1 _ hu hk)]
       exact ihn k hk (by omega)
      ·rw[if_neg hL]
       exact ihn k hk (by omega)
    have hag:∀ k,unitK k ∈ R i→stV' Y D (fun i=>listed.getD i false) ops.size k=Y i k:=by
     intro k hk
     have:=hB (ops.size - i) k hk (by omega)
     rwa [show i+(ops.size - i)=ops.size by omega] at this
    have hset:∀ m,(listed.setIfInBounds i true).getD m false=if m=i then true else listed.getD m false:=by
     intro m
     by_cases e:m=i
     ·subst e
      simp[Array.getD_eq_getD_getElem?,hsz,hisz]
     ·simp only[Array.getD_eq_getD_getElem?,Array.getElem?_setIfInBounds_ne (Ne.symm e),e,if_false]
    obtain⟨L',hL'⟩:∃ L':Nat→Bool,L'=fun j=>(listed.setIfInBounds i true).getD j false:=⟨_,rfl⟩
    have hset':∀ m,L' m=if m=i then true else listed.getD m false:=by rw[hL'];exact hset
    have hC0:∀ m,m≤i→stV' Y D L' m=stV' Y D (fun i=>listed.getD i false) m:=by
     intro m
     induction m with
     | zero=>intro _;rfl
     | succ m ihm =>
      intro hmi
      simp only[stV',hset',show m ≠ i by omega,if_false,ihm (by omega)]
    have hC:∀ n,i+1+n≤ops.size→stV' Y D L' (i+1+n)=mix (D i) (Y (i+1)) (stV' Y D (fun i=>listed.getD i false) (i+1+n)):=by
     intro n
     induction n with
     | zero =>
      intro _
      simp only[Nat.add_zero,stV',hset',if_true,hC0 i (Nat.le_refl _),hi0,Bool.false_eq_true,if_false]
     | succ n ihn =>
      intro hle
      rw[← Nat.add_assoc]
      simp only[stV',hset',show i+1+n ≠ i by omega,if_false,ihn (by omega)]
      by_cases hL:listed.getD (i+1+n) false=true
      ·rw[if_pos hL,if_pos hL]
       have hap:=habove (i+1+n) (by omega) (by omega) hL
       obtain⟨_,_,hstm⟩:=hs (i+1+n) (by omega)
       funext k
       simp only[mix]
       by_cases hu:unitK k ∈ D (i+1+n)
       ·by_cases hu':unitK k ∈ D i
        ·exact absurd (hst.sub _ hu') (hap.1 _ hu)
        ·simp[hu,hu']
       ·simp[hu]
      ·rw[if_neg hL,if_neg hL]
    have hnew:stV' Y D L' ops.size=mix (D i) (Y (i+1)) (stV' Y D (fun i=>listed.getD i false) ops.size):=by
     have:=hC (ops.size - (i+1)) (by omega)
     rwa [show i+1+(ops.size - (i+1))=ops.size by omega] at this
    refine (hst.step _ hag).wpOp ho hd hr fun a' w' hd' hr'=>?_
    refine ih _ a' w' (by simp[hsz]) (fun m om hL hom d hdd=>?_) ?_ hd' (by rw[hL'] at hnew;rw[hnew];exact hr')
    ·rw[hset] at hL ⊢
     by_cases ed:d=i
     ·rw[if_pos ed]
     ·rw[if_neg ed]
      by_cases em:m=i
      ·rw[em,ho] at hom
       cases hom
       exact hpre' d hdd
      ·rw[if_neg em] at hL
       exact hcl m om hL hom d hdd
    ·have:=filter_lt (p:=fun i=>!listed.getD i true) (q:=fun j=>!(listed.setIfInBounds i true).getD j true) (fun x hx=>by
       by_cases e:x=i
       ·subst e;simp[h0]
       ·rwa [getD_set_ne true (Ne.symm e)] at hx) (i:=i) (by simp[h0]) (by simp[Array.getD_eq_getD_getElem?,hsz,hisz]) (List.mem_range.2 hisz)
     omega
 intro a w hd hr
 refine wp_region_any hm (key ops.size _ a _ (by simp) (fun i o h=>?_) ?_ hd ?_)
 ·simp only[Array.getD_eq_getD_getElem?,Array.getElem?_replicate] at h
  split at h<;>simp at h
 ·exact Nat.le_trans (List.length_filter_le _ _) (by simp)
 ·have hz:∀ m,stV' Y D (fun i=>(Array.replicate ops.size false).getD i false) m=Y 0:=by
   intro m
   induction m with
   | zero=>rfl
   | succ m ih =>
    have:(Array.replicate ops.size false).getD m false=false:=by
     simp only[Array.getD_eq_getD_getElem?,Array.getElem?_replicate]
     split<;>rfl
    simp only[stV',this,Bool.false_eq_true,if_false,ih]
  rw[hz]
  obtain⟨XL,β,I,rg,he,Rr,h1,h2⟩:=hr
  exact⟨XL,β,I,rg,he,Rr.world (frame_drew _ w),h1,h2⟩
inductive LRun (C:Ctx) (ops:Array Oper):Nat→XF Unit→XF Unit→List (List Nat × List Nat)→Prop
 | nil {i:Nat} {X:XF Unit} (h:i=ops.size):LRun C ops i X X []
 | cons {i:Nat} {o:Oper} {R D:List Nat} {X X1 X':XF Unit} {l:List (List Nat × List Nat)} (hi:ops[i]?=some o) (h:LStep C ops o R D X X1) (r:LRun C ops (i+1) X1 X' l):LRun C ops i X X' ((R,D) :: l)
theorem LRun.states {C:Ctx}{ops:Array Oper}{i:Nat}{X X':XF Unit}{l:List (List Nat × List Nat)}(h:LRun C ops i X X' l) :
  i+l.length=ops.size∧∃ Y:Nat→XF Unit,Y i=X∧Y ops.size=X'∧∀ m,i≤m→m < ops.size→∃ o,ops[m]?=some o∧LStep C ops o (l.getD (m - i) ([],[])).1 (l.getD (m - i) ([],[])).2 (Y m) (Y (m+1)):=by
 induction h with
 | nil h=>exact ⟨by simp[h],fun _=>_,rfl,rfl,fun m h1 h2=>by omega⟩
 | @cons i o R D X X1 X' l hi h r ih =>
  obtain⟨hlen,Y,h1,h2,h3⟩:=ih
  refine⟨by simp;omega,fun m=>if m≤i then X else Y m,by simp,?_,fun m hm1 hm2=>?_⟩
  ·have:i < ops.size:=(Array.getElem?_eq_some_iff.1 hi).1
   simp[show ¬ ops.size≤i by omega,h2]
  ·by_cases e:m=i
   ·subst e
    refine⟨o,hi,?_⟩
    simpa [h1,show ¬ m+1≤m by omega] using h
   ·obtain⟨o',ho',hst⟩:=h3 m (by omega) hm2
    refine⟨o',ho',?_⟩
    simp only[show ¬ m≤i by omega,show ¬ m+1≤i by omega,if_false]
    rw[show m - i=(m - (i+1))+1 by omega]
    simpa using hst
theorem AWp.draw {C:Ctx}{id:Nat}{ops:Array Oper}{X X':XF Unit}{Q:Ex→XF Unit→Prop}{l:List (List Nat × List Nat)}{pl:List (List Nat)}(hm:C.P.follows .mixedOrders=true)(h:LRun C ops 0 X X' l)
  (hpl:ops.toList.map predsOf=pl) (hok:drawOk pl l=true) (hq:Q .nrm X'):AWp C (.region id ops true) X Q:=by
 obtain⟨hlen,Y,rfl,rfl,h3⟩:=h.states
 exact AWp.draw' hm Y (fun i=>(l.getD i ([],[])).1) (fun i=>(l.getD i ([],[])).2) pl l (by omega) (fun i _=>rfl) hpl (fun i hi=>by
  obtain⟨o,ho,hst⟩:=h3 i (Nat.zero_le _) hi
  exact⟨o,ho,by simpa using hst⟩) hok hq
end Go.OT
namespace Go.OT
theorem ok_mx {C:Ctx}{o:Oper}{X:XF Unit}{d sz:Nat}{mx:Bool}{x y:Operand}{tys:Array TypeId}{c e:COd}{u v r:Value}(ho:o.op=.call ⟨.builtin (if mx then .max else .min),#[x,y],tys⟩)(hd:o.dst=some d)(hlt:d < C.nt)(hin:opsIn C.nt o=true)
  (hc:compOd C.nt sz x=some c) (hy:compOd C.nt sz y=some e) (hx:rd X c=.sc u) (hx':rd X e=.sc v) (hr:scMx mx u v=some r):OpOk C o X (X.set (100 * d) (.sc r)) :=
 OpOk.of_sc hd hlt hin fun XL β I rg w he R=>by
  have h:=opd R hc
  have h':=opd R hy
  rw[he,hx] at h
  rw[he,hx'] at h'
  cases u<;>cases v<;>simp [scMx] at hr
  obtain⟨rfl,rfl⟩:=hr
  cases mx
  ·simp[execOp,ho,resolve,invoke,builtin,Builtin.min_,Builtin.min2,h.sc,h'.sc]
  ·simp[execOp,ho,resolve,invoke,builtin,Builtin.max_,Builtin.max2,h.sc,h'.sc]
def cellsU {L:Type}:AV L→Option (List (AV L))
 | .agg vs=>some vs
 | .sc v=>if v.oneCell' then some [.sc v] else none
 | .sl o l s n cs=>some [.sl o l s n cs]
 | .bx o l cs=>some [.bx o l cs]
 | .vptr l cs=>some [.vptr l cs]
 | .clos f cs=>some [.clos f cs]
 | .view k g p off len=>some [.view k g p off len]
 | .ptr k g p i=>some [.ptr k g p i]
 | _=>none
def liveV {L:Type}(X:XF L):AV L→Bool
 | .view k g _ _ _=>(X k).1 == g
 | .ptr k g _ _=>(X k).1 == g
 | _=>true
theorem er_liveV (X:XF LO)(v:AL):liveV (erF X) (er v)=liveV X v:=by cases v<;>simp [er,liveV,erF]
def rdC (X:XF Unit)(c:COd):AU:=if liveV X (rd X c)=true then rd X c else .non
def setR {L:Type}(off:Nat)(cells vs:List L):List L:=vs.zipIdx.foldl (fun cs p=>cs.set (off+p.2) p.1) cells
def fillU (cells:List AU):List (Nat × Nat × AU)→Option (List AU)
 | []=>some cells
 | (off,size,v) :: rest=>(cellsU v).bind fun vs=>if vs.length=size∧off+size≤cells.length then fillU (setR off cells vs) rest else none
theorem er_cellsU {lv:AL}{vs:List AU}(h:cellsU (er lv)=some vs):∃ lvs,cellsU lv=some lvs∧lvs.map er=vs:=by
 cases lv<;>simp [er,cellsU] at h
 case sc v=>obtain ⟨h1,rfl⟩:=h;exact⟨[.sc v],by simp[cellsU,h1],by simp[er]⟩
 case agg cs=>exact ⟨cs,rfl,by rw[← erL_eq];exact h⟩
 all_goals (subst h;exact⟨_,rfl,by simp[er]⟩)
section
variable {C:Ctx} {X:XF LO} {β:Nat→Nat × Nat} {I:ASet} {rg:Nat→Value} {w:World}
theorem cells_ok {lv:AL}{x:Value}{lvs:List AL}(h:cellsU lv=some lvs)(hr:RR X β lv x)(hm:Mem w I lv)(hlive:liveV X lv=true):RRL X β lvs x.cells.toList∧MemA w I lvs:=by
 have one:∀ {lv:AL} {x:Value},RR X β lv x→Mem w I lv→x.cells.toList=[x]→RRL X β [lv] x.cells.toList∧MemA w I [lv]:=by
  intro lv x hr hm hx
  rw[hx]
  exact⟨by simp only[RRL];exact⟨x,[],rfl,hr,rfl⟩,by simp[MemA,hm]⟩
 cases lv<;>simp [cellsU] at h
 case sc v =>
  obtain⟨h1,rfl⟩:=h
  simp only[RR] at hr
  subst hr
  refine one (by simp[RR]) hm ?_
  cases x<;>simp [Value.oneCell'] at h1<;>simp [Value.cells]
 case sl o l s n cs =>
  subst h
  refine one hr hm ?_
  simp only[RR] at hr
  cases l with
  | none=>simp only[CR] at hr;rcases hr.1 with e | ⟨_,a,e⟩<;>rw [e]<;>simp [Value.cells]
  | some l=>simp only[CR] at hr;rw[hr];simp[Value.cells]
 case bx o l cs =>
  subst h
  refine one hr hm ?_
  simp only[RR] at hr
  cases l with
  | none=>simp [Mem] at hm
  | some l=>simp only[CR] at hr;rw[hr];simp[Value.cells]
 case agg cs =>
  subst h
  simp only[RR] at hr
  obtain⟨xs,rfl,hr⟩:=hr
  simp only[Mem] at hm
  exact⟨by simpa [Value.cells] using hr,hm⟩
 case vptr l cs =>
  subst h
  refine one hr hm ?_
  simp only[RR] at hr
  obtain⟨l',_,rfl⟩:=hr
  simp[Value.cells]
 case clos f cs =>
  subst h
  refine one hr hm ?_
  simp only[RR] at hr
  obtain⟨xs,rfl,_⟩:=hr
  simp[Value.cells]
 case view k g p off len =>
  subst h
  refine one hr hm ?_
  simp only[RR] at hr
  simp only[liveV,beq_iff_eq] at hlive
  obtain⟨_,_,_,_,xa,cap,rfl,_⟩:=hr.2 hlive
  simp[Value.cells]
 case ptr k g p i =>
  subst h
  refine one hr hm ?_
  simp only[RR] at hr
  simp only[liveV,beq_iff_eq] at hlive
  obtain⟨_,_,_,_,_,rfl⟩:=hr.2 hlive
  simp[Value.cells]
theorem RRL_set {cs:List AL}{xs:List Value}(h:RRL X β cs xs)(i:Nat){c:AL}{x:Value}(hc:RR X β c x):RRL X β (cs.set i c) (xs.set i x):=by
 rw[RRL_iff] at h ⊢
 refine⟨by simp[h.1],fun j c' x' h1 h2=>?_⟩
 rw[List.getElem?_set] at h1 h2
 by_cases e:i=j
 ·subst e
  simp only[if_true] at h1 h2
  split at h1
  ·rename_i hlt
   rw[if_pos (by rw[← h.1];exact hlt)] at h2
   cases h1;cases h2;exact hc
  ·cases h1
 ·rw[if_neg e] at h1 h2
  exact h.2 j c' x' h1 h2
theorem setR_ok (off:Nat):∀ (lvs:List AL) (ys:List Value) (n:Nat) (cs:List AL) (xs:List Value),RRL X β cs xs→MemA w I cs→RRL X β lvs ys→MemA w I lvs →
  RRL X β ((lvs.zipIdx n).foldl (fun cs p=>cs.set (off+p.2) p.1) cs) ((ys.zipIdx n).foldl (fun cs p=>cs.set (off+p.2) p.1) xs)∧MemA w I ((lvs.zipIdx n).foldl (fun cs p=>cs.set (off+p.2) p.1) cs)
 | [],ys,n,cs,xs,h1,h2,h3,h4=>by
  simp only[RRL] at h3
  subst h3
  exact⟨by simpa using h1,by simpa using h2⟩
 | v :: lvs,ys,n,cs,xs,h1,h2,h3,h4=>by
  simp only[RRL] at h3
  obtain⟨y,ys',rfl,h5,h6⟩:=h3
  simp only[MemA] at h4
  simp only[List.zipIdx_cons,List.foldl_cons]
  refine setR_ok off lvs ys' (n+1) _ _ (RRL_set h1 _ h5) ?_ h6 h4.2
  rw[MemA_iff] at h2 ⊢
  intro c hc
  rcases List.mem_or_eq_of_mem_set hc with h | h
  ·exact h2 c h
  ·rw[h];exact h4.1
theorem er_setR (off:Nat):∀ (lvs:List AL) (n:Nat) (cs:List AL),((lvs.zipIdx n).foldl (fun cs p=>cs.set (off+p.2) p.1) cs).map er=((lvs.map er).zipIdx n).foldl (fun cs p=>cs.set (off+p.2) p.1) (cs.map er)
 | [],n,cs=>by simp
 | v :: lvs,n,cs=>by
  simp only[List.map_cons,List.zipIdx_cons,List.foldl_cons]
  rw[er_setR off lvs (n+1),List.map_set]
theorem setR_length {L:Type}(off:Nat):∀ (vs:List L) (n:Nat) (cs:List L),((vs.zipIdx n).foldl (fun cs p=>cs.set (off+p.2) p.1) cs).length=cs.length
 | [],n,cs=>by simp
 | v :: vs,n,cs=>by
  simp only[List.zipIdx_cons,List.foldl_cons]
  rw[setR_length off vs (n+1)]
  simp
theorem foldl_toList (off:Nat):∀ (l:List (Value × Nat)) (cells:Array Value),(l.foldl (fun cs p=>cs.setIfInBounds (off+p.2) p.1) cells).toList=l.foldl (fun cs p=>cs.set (off+p.2) p.1) cells.toList
 | [],cells=>rfl
 | p :: l,cells=>by
  simp only[List.foldl_cons]
  rw[foldl_toList off l,Array.toList_setIfInBounds]
theorem fill_cells (off:Nat)(v:Array Value)(cells:Array Value):(v.zipIdx.foldl (fun cs (c,j)=>cs.setIfInBounds (off+j) c) cells).toList=setR off cells.toList v.toList:=by
 rw[← Array.foldl_toList]
 simp only[Array.toList_zipIdx]
 exact foldl_toList off _ _
theorem fill_ok (place:Nat→Option (Nat × Nat)):∀ (pv:List (Nat × Nat × AL)) (parts:List (Nat × Value)) (lcs:List AL) (xs:Array Value) (cs:List AU),RRL X β lcs xs.toList→MemA w I lcs→pv.length=parts.length →
  (∀ (j:Nat) (p:Nat × Nat × AL) (q:Nat × Value),pv[j]?=some p→parts[j]?=some q→place q.1=some (p.1,p.2.1)∧RR X β p.2.2 q.2∧Mem w I p.2.2∧liveV X p.2.2=true)→fillU (lcs.map er) (pv.map fun p=>(p.1,p.2.1,er p.2.2))=some cs →
  ∃ lcs' xs',lcs'.map er=cs∧RRL X β lcs' xs'.toList∧MemA w I lcs'∧Instr.fill place xs parts=some xs'
 | [],parts,lcs,xs,cs,h1,h2,hlen,hp,h=>by
  have:parts=[]:=by simpa using hlen.symm
  subst this
  simp only[List.map_nil,fillU,Option.some.injEq] at h
  exact⟨lcs,xs,h,h1,h2,rfl⟩
 | (off,size,lv) :: pv,parts,lcs,xs,cs,h1,h2,hlen,hp,h=>by
  cases parts with
  | nil=>simp at hlen
  | cons q parts =>
   obtain⟨i,x⟩:=q
   obtain⟨g1,g2,g3,g4⟩:=hp 0 _ _ rfl rfl
   simp only at g1 g2 g3 g4
   simp only[List.map_cons,fillU] at h
   cases hv:cellsU (er lv) with
   | none=>simp [hv] at h
   | some vs =>
    simp only[hv,Option.bind_some] at h
    split at h
    ·rename_i hcond
     obtain⟨lvs,e1,e2⟩:=er_cellsU hv
     obtain⟨k1,k2⟩:=cells_ok e1 g2 g3 g4
     have hsz:x.cells.size=size:=by
      have:=(RRL_iff.1 k1).1
      rw[← hcond.1,← e2]
      simpa using this.symm
     have hxl:lcs.length=xs.size:=by simpa using (RRL_iff.1 h1).1
     have hbound:off+size≤xs.size:=by have:=hcond.2;rw[List.length_map,hxl] at this;exact this
     obtain⟨m1,m2⟩:=setR_ok (X:=X) (β:=β) (w:=w) (I:=I) off lvs x.cells.toList 0 lcs xs.toList h1 h2 k1 k2
     have herr:(setR off lcs lvs).map er=setR off (lcs.map er) vs:=by rw[← e2];exact er_setR off lvs 0 lcs
     rw[← herr] at h
     obtain⟨lcs',xs',r1,r2,r3,r4⟩:=fill_ok place pv parts (setR off lcs lvs) (x.cells.zipIdx.foldl (fun cs (c,j)=>cs.setIfInBounds (off+j) c) xs) cs (by rw[fill_cells];exact m1) m2 (by simpa using hlen)
      (fun j p q a b=>hp (j+1) p q (by simpa using a) (by simpa using b)) h
     refine⟨lcs',xs',r1,r2,r3,?_⟩
     simp only[Instr.fill,g1]
     rw[if_neg (by simp[hsz];omega)]
     exact r4
    ·cases h
def placesOf (P:Program)(t:TypeId)(i:Nat):Option (Nat × Nat) :=
 match P.underlying t with
 | some (.array _ e)=>(P.info? e).map fun ie=>(i * ie.size,ie.size)
 | some (.struct fields)=>(fields.toList.mapM fun f=>(P.info? f.type).map fun i=>(f.offset,i.size)).bind (·[i]?)
 | _=>none
theorem built_ok {P:Program}{t:TypeId}{z:Value}{parts:List (Nat × Value)}{xs:Array Value}(hz:((P.info? t).bind (·.zero))=some z)(hne:parts ≠ []∨∃ i,(placesOf P t i).isSome=true)(h:Instr.fill (placesOf P t) z.cells parts=some xs)
  (hp:∀ p ∈ parts,(placesOf P t p.1).isSome=true):P.built t parts=some xs:=by
 unfold Program.built
 cases hi:P.info? t with
 | none=>simp [hi] at hz
 | some it =>
  simp only[hi,Option.bind_some] at hz
  have hsome:∃ i,(placesOf P t i).isSome=true:=by
   rcases hne with h | h
   ·cases parts with
    | nil=>exact absurd rfl h
    | cons p l=>exact ⟨p.1,hp p (by simp)⟩
   ·exact h
  obtain⟨i0,hi0⟩:=hsome
  cases hu:P.underlying t with
  | none=>simp [placesOf,hu] at hi0
  | some d =>
   cases d with
   | array n e =>
    simp only[placesOf,hu] at hi0
    cases hie:P.info? e with
    | none=>simp [hie] at hi0
    | some ie =>
     have hpe:placesOf P t=fun i=>some (i * ie.size,ie.size):=by funext i;simp[placesOf,hu,hie]
     rw[hpe] at h
     simpa [hz,hie] using h
   | struct fields =>
    simp only[placesOf,hu] at hi0
    cases hpl:fields.toList.mapM (fun f=>(P.info? f.type).map fun i=>(f.offset,i.size)) with
    | none=>simp [hpl] at hi0
    | some places =>
     have hpe:placesOf P t=fun i=>places[i]?:=by funext i;simp[placesOf,hu,hpl]
     rw[hpe] at h
     simpa [hz,hpl] using h
   | _=>simp [placesOf,hu] at hi0
end
def zerosSc (P:Program)(t:TypeId):Option (List AU):=((P.info? t).bind (·.zero)).map fun z=>z.cells.toList.map .sc
theorem ok_build {C:Ctx}{o:Oper}{X:XF Unit}{d:Nat}{t:TypeId}{parts:Array (Nat × Operand)}{zs:List AU}{pcs:List (Nat × Nat × COd)}{cs:List AU}(ho:o.op=.build t parts)(hd:o.dst=some d)(hlt:d < C.nt)(hin:opsIn C.nt o=true)
  (hz:zerosSc C.P t=some zs) (hpl:(placesOf C.P t 0).isSome=true) (hlen:pcs.length=parts.size)
  (hp:∀ (j:Nat) (p:Nat × Nat × COd) (q:Nat × Operand),pcs[j]?=some p→parts[j]?=some q→placesOf C.P t q.1=some (p.1,p.2.1)∧∃ sz,compOd C.nt sz q.2=some p.2.2)
  (hf:fillU zs (pcs.map fun p=>(p.1,p.2.1,rdC X p.2.2))=some cs) (hno:noOwnL cs=true):OpOk C o X (X.set (100 * d) (.agg cs)):=by
 refine OpOk.of_pure hd hlt hin (by simpa [noOwn] using hno) fun XL β I rg w he R=>?_
 simp only[zerosSc,Option.map_eq_some_iff] at hz
 obtain⟨z,h4,h3⟩:=hz
 have h3:zs=(z.cells.toList.map (AV.sc:Value→AL)).map er:=by rw[← h3];simp[er]
 -- the parts, with their labels
 have hex:∀ (l:List (Nat × Nat × COd)) (ps:List (Nat × Operand)),l.length=ps.length→(∀ (j:Nat) (p:Nat × Nat × COd) (q:Nat × Operand),l[j]?=some p→ps[j]?=some q→placesOf C.P t q.1=some (p.1,p.2.1)∧∃ sz,compOd C.nt sz q.2=some p.2.2) →
   ∃ pv:List (Nat × Nat × AL),pv.map (fun p=>(p.1,p.2.1,er p.2.2))=l.map (fun p=>(p.1,p.2.1,rdC X p.2.2))∧pv.length=ps.length ∧
    ∀ (j:Nat) (p:Nat × Nat × AL) (q:Nat × Operand),pv[j]?=some p→ps[j]?=some q→placesOf C.P t q.1=some (p.1,p.2.1)∧RR XL β p.2.2 (evR rg q.2)∧Mem w I p.2.2∧liveV XL p.2.2=true:=by
  intro l
  induction l with
  | nil =>
   intro ps hl _
   have:ps=[]:=by simpa using hl.symm
   subst this
   exact⟨[],rfl,rfl,by simp⟩
  | cons a l ih =>
   intro ps hl hp
   cases ps with
   | nil=>simp at hl
   | cons q ps =>
    obtain⟨g1,sz,g2⟩:=hp 0 a q rfl rfl
    obtain⟨lv,k1,k2,k3,_⟩:=rd_ok R g2
    rw[he] at k1
    obtain⟨pv,m1,m2,m3⟩:=ih ps (by simpa using hl) (fun j p q a b=>hp (j+1) p q (by simpa using a) (by simpa using b))
    by_cases hlv:liveV XL lv=true
    case neg =>
     refine⟨(a.1,a.2.1,.non) :: pv,?_,by simp[m2],fun j p q' a' b'=>?_⟩
     ·have:rdC X a.2.2=.non:=by
       unfold rdC
       rw[if_neg]
       rw[← k1,← he,er_liveV]
       exact hlv
      simp[this,er,m1]
     ·cases j with
      | zero=>simp at a' b';subst a' b';exact⟨g1,by simp[RR],by simp[Mem],by simp[liveV]⟩
      | succ j=>exact m3 j p q' (by simpa using a') (by simpa using b')
    have hrc:rdC X a.2.2=er lv:=by
     unfold rdC
     rw[if_pos,k1]
     rw[← k1,← he,er_liveV]
     exact hlv
    refine⟨(a.1,a.2.1,lv) :: pv,by simp[hrc,m1],by simp[m2],fun j p q' a' b'=>?_⟩
    cases j with
    | zero=>simp at a' b';subst a' b';exact⟨g1,k2,k3,hlv⟩
    | succ j=>exact m3 j p q' (by simpa using a') (by simpa using b')
 obtain⟨pv,m1,m2,m3⟩:=hex pcs parts.toList (by simpa using hlen) (fun j p q a b=>hp j p q a (by simpa using b))
 rw[← m1,h3] at hf
 have hzr:RRL XL β (z.cells.toList.map (AV.sc:Value→AL)) z.cells.toList∧MemA w I (z.cells.toList.map (AV.sc:Value→AL)):=by
  refine⟨RRL_iff.2 ⟨by simp,fun i c x a b=>?_⟩,MemA_iff.2 fun c hc=>?_⟩
  ·rw[List.getElem?_map,b] at a
   simp at a
   subst a
   simp[RR]
  ·simp only[List.mem_map] at hc
   obtain⟨v,_,rfl⟩:=hc
   simp[Mem]
 obtain⟨lcs',xs',r1,r2,r3,r4⟩:=fill_ok (placesOf C.P t) pv (parts.toList.map fun p=>(p.1,evR rg p.2)) _ z.cells cs hzr.1 hzr.2 (by simp[m2]) (fun j p q a b=>by
  simp only[List.getElem?_map] at b
  cases hq:parts.toList[j]? with
  | none=>simp [hq] at b
  | some q0 =>
   simp only[hq,Option.map_some,Option.some.injEq] at b
   subst b
   exact m3 j p q0 a hq) hf
 have hb:=built_ok h4 (.inr ⟨0,hpl⟩) r4 (fun p hpm=>by
  simp only[List.mem_map] at hpm
  obtain⟨q,hq,rfl⟩:=hpm
  obtain⟨j,hj⟩:=List.getElem?_of_mem hq
  have hlt':j < pv.length:=by rw[m2];exact (List.getElem?_eq_some_iff.1 hj).1
  have:=(m3 j _ q (List.getElem?_eq_getElem hlt') hj).1
  simp[this])
 refine⟨.agg lcs',.agg xs',by simp[er,erL_eq,r1],?_,by simpa [Mem] using r3,by simp only[RR];exact⟨xs'.toList,rfl,r2⟩⟩
 have hrun:=run_build (P:=C.P) w t (parts.map fun (i,x)=>(i,evR rg x)) xs' (by rw[← hb];simp)
 simp[execOp,ho,hrun]
end Go.OT
namespace Go.OT
def repL {L:Type}(zs:List L):Nat→List L
 | 0=>[]
 | n+1=>zs ++ repL zs n
theorem repL_length {L:Type}(zs:List L):∀ n,(repL zs n).length=n * zs.length
 | 0=>by simp[repL]
 | n+1=>by simp only[repL,List.length_append,repL_length zs n];rw[Nat.succ_mul];omega
theorem repL_get {L:Type}(zs:List L)(i:Nat):∀ n,i < n * zs.length→(repL zs n)[i]?=zs[i % zs.length]?
 | 0,h=>by simp at h
 | n+1,h=>by
  simp only[repL]
  by_cases hi:i < zs.length
  ·rw[List.getElem?_append_left hi,Nat.mod_eq_of_lt hi]
  ·rw[List.getElem?_append_right (by omega)]
   generalize hj:i - zs.length=j
   have:i=j+zs.length:=by omega
   subst this
   rw[Nat.add_mod_right,← repL_get zs j n (by rw[Nat.succ_mul] at h;omega)]
theorem repL_map {L M:Type}(f:L→M)(zs:List L):∀ n,(repL zs n).map f=repL (zs.map f) n
 | 0=>rfl
 | n+1=>by simp only[repL,List.map_append,repL_map f zs n]
theorem repL_mem {L:Type}{zs:List L}{c:L}:∀ {n:Nat},c ∈ repL zs n→c ∈ zs
 | 0,h=>by simp[repL] at h
 | n+1,h=>by
  simp only[repL,List.mem_append] at h
  rcases h with h | h
  ·exact h
  ·exact repL_mem h
section
variable {C:Ctx} {X:XF LO} {β:Nat→Nat × Nat} {I:ASet} {rg:Nat→Value} {w:World}
theorem RelL.newsl (R:RelL C X β I rg w)(d:Nat)(hd:d < 10000)(hs:List Nat)(ht:d ∉ hs)(e:TypeId)(xs:Array Value)(s n c:Nat)(lcs:List AL)(hlen:lcs.length=n * s)(hnc:n≤c)(hsz:xs.size=c * s)(hcb:0 < s→c≤9223372036854775807)
  (hcr:∀ (i:Nat) (c0:AL),lcs[i]?=some c0→∃ v,xs[i]?=some v∧CR c0 v) (hm:MemA w I lcs) (hsep:SepL lcs) (hfp:∀ b o,fpL lcs b o→∃ h ∈ hs,fp (X (100 * h)).2 b o) :
  RelL C (hs.foldl (fun Y h=>Y.set (100 * h) .non) (X.set (100 * d) (.sl true (some ⟨w.heap.size,0,c⟩) s n lcs))) β I (fun t=>if t=d then .slice (some ⟨w.heap.size,0,none⟩) n c else rg t) { w with heap:=w.heap.push (.cells xs e (0,0)) }:=by
 have hw:=frame_alloc (fun _ _=>False) w (.cells xs e (0,0))
 generalize hw':({ w with heap:=w.heap.push (.cells xs e (0,0)) }:World)=w' at hw ⊢
 have hnewat:∀ i,w'.at w.heap.size i=(xs[i]?).map Hp.v:=by
  intro i;subst hw';simp[World.at]
 have hnewfz:∀ i,w'.fz w.heap.size i=false:=by
  intro i;subst hw';simp[World.fz]
 have hsize:w'.heap.size=w.heap.size+1:=by subst hw';simp
 have hmul:=Nat.mul_le_mul_right s hnc
 have hlive:∀ b o,fpL lcs b o→b < w.heap.size:=fun b o hb=>by
  obtain⟨h,_,hb⟩:=hfp b o hb
  exact ((R.key _).live b o (.inl hb)).1
 refine R.fresh d hd hs ht hw ?_ ?_ (by simp[RR,CR]) ?_
 ·simp only[Mem]
  refine⟨hlen,hnc,MemL_iff.2 fun i c0 hc=>?_,fun _=>⟨fun j hj=>⟨xs[j]'(by omega),by rw[hnewat,Nat.zero_add,Array.getElem?_eq_getElem (by omega)];rfl⟩,hcb⟩⟩
  obtain⟨v,hv,hcv⟩:=hcr i c0 hc
  have hmem:=List.mem_of_getElem? hc
  refine⟨⟨v,by rw[hnewat,Nat.zero_add,hv];rfl,hcv⟩,?_,fun e=>by simp at e⟩
  exact Mem_frame c0 (MemA_iff.1 hm c0 hmem) (fun b o hb=>hw.cell b o (hlive b o (fpL_iff.2 ⟨c0,hmem,hb⟩)) (fun h=>h)) (fun b o hb=>⟨hw.cell b o (R.imm b o hb).1 (fun h=>h),hb⟩)
 ·simp only[Sep]
  exact⟨fun j _ hb=>by have:=hlive _ _ hb;simp at this,hsep⟩
 ·intro b o hb
  simp only[fp] at hb
  rcases hb with ⟨rfl,h1,h2⟩ | hb
  ·refine .inl ⟨Nat.le_refl _,by omega,hnewfz o,?_⟩
   rw[hnewat,Array.getElem?_eq_getElem (by omega)]
   rfl
  ·exact .inr (hfp b o hb)
end
theorem ok_make {C:Ctx}{o:Oper}{X:XF Unit}{d sz n c:Nat}{t e:TypeId}{x y:Operand}{cx cy:COd}{i:TypeInfo}{szs:List Nat}{zs:List AU}{k k':IntKind}(ho:o.op=.makeSlice t x y)(hd:o.dst=some d)(hlt:d < C.nt)(hin:opsIn C.nt o=true)
  (ht:C.P.underlying t=some (.slice e)) (hi:C.P.info? e=some i) (hz:zerosOf C.P e szs=some zs) (hsz:i.size=zs.length) (htr:zs.all treeV=true)
  (hcx:compOd C.nt sz x=some cx) (hcy:compOd C.nt sz y=some cy) (hx:rd X cx=.sc (.int k (n:Int))) (hy:rd X cy=.sc (.int k' (c:Int))) (hnc:n≤c) (hb:i.bytes * c≤281474976710656) (hc:c≤9223372036854775807) :
  OpOk C o X (X.set (100 * d) (.sl true () i.size n (repL zs n))) :=
 OpOk.of_val hd hlt hin fun XL β I rg w he R=>by
  subst he
  obtain⟨z,h1,h2,h3,h4⟩:=zerosOf_ok hz
  have hd1:d < 10000:=by have:=C.hnt;omega
  have e1:=opd R hcx
  have e2:=opd R hcy
  rw[hx] at e1
  rw[hy] at e2
  have hz':i.zero=some z:=by rw[hi] at h4;simpa using h4
  generalize hl:List.zipWith lcst szs z.cells.toList=lzs at h3
  have hlen:lzs.length=z.cells.size:=by rw[← hl,List.length_zipWith,← h2,Nat.min_self,Array.length_toList]
  have hlz:zs.length=lzs.length:=by rw[h3];simp
  have hb':(i.bytes:Int) * (c:Int)≤281474976710656:=by
   have h:((i.bytes * c:Nat):Int)≤281474976710656:=by omega
   rwa [Int.natCast_mul] at h
  have hrun:=run_make (P:=C.P) w t e i z ht hi hz' k k' (n:Int) (c:Int) (by omega) (by omega) hb' (by omega)
  have hfact:∀ (j:Nat) (c0:AL),lzs[j]?=some c0→∃ v,z.cells.toList[j]?=some v∧CR c0 v∧Mem w I c0∧Sep c0∧(∀ b o,¬ fp c0 b o):=by
   intro j c0 hj
   rw[← hl] at hj
   obtain⟨s,v,_,hv,rfl⟩:=zip_facts h2 hj
   have:=lcst_ok (X:=XL) (β:=β) (w:=w) (I:=I) s v
   exact⟨v,hv,this.2.2.2.1,this.2.2.1,this.2.2.2.2.2,this.2.2.2.2.1⟩
  have hmemz:∀ c0,c0 ∈ repL lzs n→Mem w I c0∧Sep c0∧(∀ b o,¬ fp c0 b o):=by
   intro c0 hc0
   obtain⟨j,hj⟩:=List.getElem?_of_mem (repL_mem hc0)
   obtain⟨_,_,_,q1,q2,q3⟩:=hfact j c0 hj
   exact⟨q1,q2,q3⟩
  have hmul:=Nat.mul_le_mul_right i.size hnc
  have R1:=R.newsl d hd1 [] (by simp) e (madeCells z.cells (c * i.size)) i.size n c (repL lzs n) (by rw[repL_length,← hlz,hsz]) hnc (by rw[size_madeCells]) (fun _=>hc) (fun j c0 hj=>by
    have hjl:j < n * i.size:=by
     have:=(List.getElem?_eq_some_iff.1 hj).1
     rwa [repL_length,← hlz,← hsz] at this
    rw[repL_get _ _ _ (by rw[← hlz,← hsz];exact hjl)] at hj
    obtain⟨v,hv,hcv,_⟩:=hfact _ c0 hj
    refine⟨v,?_,hcv⟩
    have hpos:0 < lzs.length:=Nat.pos_of_ne_zero fun h0=>by rw[hsz,hlz,h0] at hjl;omega
    have hlt2:j % lzs.length < z.cells.size:=by rw[← hlen];exact Nat.mod_lt _ hpos
    have hv':z.cells[j % lzs.length]?=some v:=by simpa using hv
    simp only[madeCells,Array.getElem?_map,Array.getElem?_range,if_pos (show j < c * i.size by omega),Option.map_some]
    rw[← hlen]
    rw[getElem!_def,hv'])
   (MemA_iff.2 fun c0 h=>(hmemz c0 h).1) (SepL_iff.2 ⟨fun c0 h=>(hmemz c0 h).2.1,fun a b u v _ hu hv b' o' q1 _=>(hmemz u (List.mem_of_getElem? hu)).2.2 b' o' q1⟩)
   (fun b o hb=>by
    obtain⟨c0,hc0,hcb⟩:=fpL_iff.1 hb
    exact absurd hcb ((hmemz c0 hc0).2.2 b o))
  simp only[List.foldl_nil] at R1
  refine⟨.slice (some ⟨w.heap.size,0,none⟩) n c,_,_,_,_,_,?_,?_,R1,by simp,fun t ht1 ht2=>by simp[ht1]⟩
  ·simp only[execOp,ho,e1.sc,e2.sc,Sem.run_bind,hrun,Result.andThen_ok,Sem.run_pure,Int.toNat_natCast]
   rfl
  ·rw[erF_set]
   simp only[er,erL_eq,repL_map,h3]
end Go.OT
namespace Go.OT
def cellsV (X:XF Unit)(s:Nat):AU→Option (List AU)
 | .view k g p off n=>if (X k).1=g then
   match getN (X k).2 p with
   | some (.sl _ _ s' _ cs)=>if s'=s then some ((cs.drop off).take (n * s)) else none
   | _=>none
  else none
 | .sl false _ s' _ cs=>if s'=s then some cs else none
 | .sl true _ s' n cs=>if s'=s∧n=0∧cs.isEmpty=true then some [] else none
 | _=>none
section
variable {C:Ctx} {X:XF LO} {β:Nat→Nat × Nat} {I:ASet} {rg:Nat→Value} {w:World}
theorem cellsV_ok (R:RelL C X β I rg w){s:Nat}{v:AU}{x:Value}{cs:List AU}(h:Opd X β I w v x)(hc:cellsV (erF X) s v=some cs) :
  ∃ (lcs:List AL) (ad:Option Addr) (n cap:Nat),lcs.map er=cs∧x=.slice ad n cap∧n≤cap∧lcs.length=n * s ∧
   (∀ (i:Nat) (c:AL),lcs[i]?=some c→∃ b o,ad=some ⟨b,o,none⟩∧(∃ y,w.at b (o+i)=some (.v y)∧CR c y)∧Mem w I c)∧(ad=none→n=0)∧(∀ a,ad=some a→n ≠ 0→a.spot=none):=by
 cases v with
 | view k g p off n =>
  simp only[cellsV] at hc
  split at hc
  ·rename_i hg
   split at hc
   ·rename_i o' _ s' m cs0 hnode
    split at hc
    ·rename_i hs
     subst hs
     simp only[Option.some.injEq] at hc
     obtain⟨l,sz,m',h1,xa,cap,hx,h3⟩:=h.view hg
     obtain⟨l',lcs,hN,hlcs⟩:=node_sl hnode
     rw[hN] at h1
     simp only[Option.bind_some,hd,Option.some.injEq,Prod.mk.injEq,true_and] at h1
     obtain⟨rfl,rfl,rfl⟩:=h1
     have hm:=Mem_getN (R.key k).mem hN
     refine⟨(lcs.drop off).take (n * s'),xa,n,cap,by rw[List.map_take,List.map_drop,hlcs,hc],hx,?_⟩
     cases l' with
     | none =>
      obtain⟨rfl,rfl,rfl⟩:=h3
      simp only[Mem] at hm
      exact⟨Nat.le_refl _,by simp,fun i c hi=>by simp[hm.2] at hi,fun _=>rfl,fun a ha _=>by cases ha⟩
     | some l =>
      obtain⟨g1,g2,g3,oo,rfl,g5⟩:=h3
      simp only[Mem] at hm
      refine⟨g2,by rw[List.length_take,List.length_drop,hm.1];omega,fun i c hi=>?_,fun h=>(by cases h),fun a ha _=>by cases ha;rfl⟩
      rw[List.getElem?_take] at hi
      split at hi
      ·rename_i hlt
       rw[List.getElem?_drop] at hi
       have hcap:cap ≠ 0:=by
        intro h0
        have:n=0:=by omega
        subst this
        simp at hlt
       have hml:=MemL_iff.1 hm.2.2.1 (off+i) c hi
       refine⟨l.b,oo,rfl,?_,hml.2.1⟩
       rw[g5 hcap,Nat.add_assoc]
       exact hml.1
      ·cases hi
    ·cases hc
   ·cases hc
  ·cases hc
 | sl o u s' n cs0 =>
  cases o with
  | false =>
   simp only[cellsV] at hc
   split at hc
   ·rename_i hs
    subst hs
    simp only[Option.some.injEq] at hc
    subst hc
    rcases h.slI with ⟨⟨a,rfl⟩,rfl,rfl⟩ | ⟨l,lcs,h1,rfl,h3,h4,h5⟩
    ·exact⟨[],a,0,0,rfl,rfl,Nat.le_refl _,by simp,fun i c hi=>by simp at hi,fun _=>rfl,fun a ha h=>absurd rfl h⟩
    ·refine⟨lcs,_,n,l.cap,h1,rfl,h3,h4,fun i c hi=>?_,(fun h=>by cases h),(fun a ha _=>by cases ha;rfl)⟩
     have hml:=MemL_iff.1 h5 i c hi
     exact⟨l.b,l.o,rfl,hml.1,hml.2.1⟩
   ·cases hc
  | true =>
   simp only[cellsV] at hc
   split at hc
   ·rename_i hs
    obtain⟨rfl,rfl,_⟩:=hs
    simp only[Option.some.injEq] at hc
    subst hc
    obtain⟨lv,h1,h2,h3⟩:=h.ex
    obtain⟨l,lcs,rfl,h4⟩:=er_sl h1
    simp only[RR] at h2
    cases l with
    | none =>
     simp only[CR] at h2
     exact⟨[],none,0,0,rfl,(h2.1.resolve_right (by simp)),Nat.le_refl _,by simp,fun i c hi=>by simp at hi,fun _=>rfl,fun a ha _=>by cases ha⟩
    | some l =>
     simp only[CR] at h2
     exact⟨[],some ⟨l.b,l.o,none⟩,0,l.cap,rfl,h2,Nat.zero_le _,by simp,(fun i c hi=>by simp at hi),(fun h=>by cases h),(fun a ha _=>by cases ha;rfl)⟩
   ·cases hc
 | _=>simp [cellsV] at hc
end
end Go.OT
namespace Go.OT
def u8L:List AU→Option (List Int)
 | []=>some []
 | .sc (.int .u8 n) :: l=>(u8L l).map fun r=>n :: r
 | _ :: _=>none
def b2s (ns:List Int):ByteArray:=ns.foldl (fun r n=>r.push (UInt8.ofNat n.toNat)) ByteArray.empty
theorem u8L_map:∀ {l:List AU} {ns:List Int},u8L l=some ns→l=ns.map fun n=>.sc (.int .u8 n)
 | [],ns,h=>by simp only[u8L,Option.some.injEq] at h;subst h;rfl
 | c :: l,ns,h=>by
  cases c with
  | sc v =>
   cases v with
   | int k n =>
    cases k<;>simp only[u8L,reduceCtorEq] at h
    simp only[Option.map_eq_some_iff] at h
    obtain⟨r,h1,rfl⟩:=h
    simp[u8L_map h1]
   | _=>simp [u8L] at h
  | _=>simp [u8L] at h
theorem ok_b2s {C:Ctx}{o:Oper}{X:XF Unit}{d sz:Nat}{s t e:TypeId}{x:Operand}{c:COd}{cs:List AU}{ns:List Int}(ho:o.op=.convert s t x)(hd:o.dst=some d)(hlt:d < C.nt)(hin:opsIn C.nt o=true)
  (hs:C.P.underlying s=some (.slice e)) (he:C.P.underlying e=some (.int .u8)) (ht:C.P.underlying t=some .string) (hc:compOd C.nt sz x=some c) (hcs:cellsV X 1 (rd X c)=some cs) (hn:u8L cs=some ns) :
  OpOk C o X (X.set (100 * d) (.sc (.string (b2s ns)))) :=
 OpOk.of_sc hd hlt hin fun XL β I rg w he' R=>by
  have h:=opd R hc
  rw[he'] at h
  obtain⟨lcs,ad,n,cap,h1,h2,h3,h4,h5,h6,h7⟩:=cellsV_ok R h (by rw[he'];exact hcs)
  have hmap:=u8L_map hn
  have hll:lcs.map er=ns.map fun n=>.sc (.int .u8 n):=h1.trans hmap
  have hlen:ns.length=n:=by
   have:=congrArg List.length hll
   simp at this
   omega
  simp only[execOp,ho,convert,h2,Sem.run_bind,run_underlying hs,run_underlying ht,run_underlying he,Result.andThen_ok]
  cases ad with
  | none =>
   have:n=0:=h6 rfl
   subst this
   have:ns=[]:=by simpa using hlen
   subst this
   simp[Conv.bytesToString,b2s]
  | some a =>
   have hcell:∀ (j:Nat) (v:Value),(ns.map (Value.int .u8))[j]?=some v→w.cell? (a.add j)=some v:=by
    intro j v hv
    rw[List.getElem?_map] at hv
    cases hj:ns[j]? with
    | none=>simp [hj] at hv
    | some m =>
     simp only[hj,Option.map_some,Option.some.injEq] at hv
     subst hv
     have hlj:(lcs.map er)[j]?=some (.sc (.int .u8 m)):=by rw[hll];simp[hj]
     rw[List.getElem?_map] at hlj
     cases hl:lcs[j]? with
     | none=>simp [hl] at hlj
     | some c0 =>
      simp only[hl,Option.map_some,Option.some.injEq] at hlj
      have:=er_sc hlj
      subst this
      obtain⟨b,oo,hab,⟨y,hy,hcy⟩,_⟩:=h5 j _ hl
      cases hab
      simp only[CR] at hcy
      subst hcy
      have hy':w.cell? ⟨b,oo+j,none⟩=some (Value.int IntKind.u8 m):=at_v.1 hy
      have ha:(⟨b,oo,none⟩:Addr).add j=⟨b,oo+j,none⟩:=by
       simp only[Addr.add]
       split
       ·rename_i e;simp[e]
       ·rfl
      rw[ha];exact hy'
   have hload:=run_loadCells_list (P:=C.P) w a (ns.map (Value.int .u8)) hcell
   rw[List.length_map,hlen] at hload
   have:=run_bytesToString (P:=C.P) w a n cap ns hload
   simp[this,b2s]
end Go.OT
namespace Go.OT
def bsV (X:XF Unit)(d s:Nat)(c:COd):Option (XF Unit) :=
 (takeC X c).bind fun X1=>match (X1 (100 * H)).2 with
  | .agg vs=>if vs.length=s∧vs.all treeV=true then some ((X1.set (100 * d) (.sl true () s 1 vs)).set (100 * H) .non) else none
  | v=>if s=1∧treeV v=true then some ((X1.set (100 * d) (.sl true () s 1 [v])).set (100 * H) .non) else none
theorem setR_get {L:Type}:∀ (vs:List L) (n:Nat) (cs:List L) (i:Nat),n+vs.length≤cs.length→((vs.zipIdx n).foldl (fun cs p=>cs.set (0+p.2) p.1) cs)[i]?=if n≤i∧i < n+vs.length then vs[i - n]? else cs[i]?
 | [],n,cs,i,h=>by
  rw[if_neg (by simp)]
  rfl
 | v :: vs,n,cs,i,h=>by
  simp only[List.zipIdx_cons,List.foldl_cons,Nat.zero_add,List.length_cons] at h ⊢
  have ih:=setR_get vs (n+1) (cs.set n v) i (by simp;omega)
  simp only[Nat.zero_add] at ih
  rw[ih]
  by_cases h1:n+1≤i∧i < n+1+vs.length
  ·rw[if_pos h1,if_pos (by omega),show i - n=(i - (n+1))+1 by omega]
   simp
  ·rw[if_neg h1,List.getElem?_set]
   by_cases h2:n=i
   ·subst h2
    rw[if_pos rfl,if_pos (by omega),if_pos (by omega)]
    simp
   ·rw[if_neg h2,if_neg (by omega)]
theorem setR_full {L:Type}(cs vs:List L)(h:vs.length=cs.length):setR 0 cs vs=vs:=by
 apply List.ext_getElem?
 intro i
 unfold setR
 rw[setR_get vs 0 cs i (by omega)]
 by_cases hi:i < vs.length
 ·rw[if_pos (by omega)];rfl
 ·rw[if_neg (by omega),List.getElem?_eq_none (by omega),List.getElem?_eq_none (by omega)]
theorem ok_bs1 {C:Ctx}{o:Oper}{X X':XF Unit}{d sz s:Nat}{t e:TypeId}{x:Operand}{c:COd}{z:Value}(ho:o.op=.buildSlice t 1 #[(0,x)])(hd:o.dst=some d)(hlt:d < C.nt)(hin:opsIn C.nt o=true)(hnt:C.nt≤H)
  (ht:C.P.underlying t=some (.slice e)) (hs:sizeT C.P e=some s) (hz:((C.P.info? e).bind (·.zero))=some z) (hs0:s ≠ 0) (hsb:s≤16777216) (hc:compOd C.nt sz x=some c) (hr:bsV X d s c=some X'):OpOk C o X X' :=
 OpOk.of_val hd hlt hin fun XL β I rg w he R=>by
  subst he
  simp only[bsV] at hr
  cases h1:takeC (erF XL) c with
  | none=>simp [h1] at hr
  | some X1 =>
   simp only[h1,Option.bind_some] at hr
   obtain⟨XL1,rg1,e1,R1,K1,e2,e3⟩:=takeO_ok R hnt hc h1
   subst e1
   have hd1:d < 10000:=by unfold H at hnt;omega
   have hdH:d ≠ H:=by omega
   have hkey:=R1.key (100 * H)
   have hreg:=R1.reg H
   have fin:∀ (lcs:List AL),lcs.length=s→(rg1 H).cells.size=s→(∀ (i:Nat) (c0:AL),lcs[i]?=some c0→∃ v,(rg1 H).cells[i]?=some v∧CR c0 v)→MemA w I lcs→SepL lcs→(∀ b o,fpL lcs b o→fp (XL1 (100 * H)).2 b o) →
     X'=((erF XL1).set (100 * d) (.sl true () s 1 (lcs.map er))).set (100 * H) .non→∃ x w' XL' β' I' rg',(execOp (evR rg) o).run C.P w=.ok (.value x) w'∧erF XL'=X'∧RelL C XL' β' I' rg' w'∧rg' d=x∧∀ t,t ≠ d→t < C.nt→rg' t=rg t:=by
    intro lcs hl hsz hcr hm hsep hfp hX'
    have R2:=R1.newsl d hd1 [H] (by simpa using hdH) e (rg1 H).cells s 1 1 lcs (by omega) (Nat.le_refl _) (by omega) (fun _=>by omega) hcr hm hsep (fun b o hb=>⟨H,by simp,hfp b o hb⟩)
    refine⟨.slice (some ⟨w.heap.size,0,none⟩) 1 1,_,_,_,_,_,?_,?_,R2,by simp,fun t ht1 ht2=>by simp[ht1,e3 t (.inl (Nat.lt_of_lt_of_le ht2 hnt))]⟩
    ·have hzr:(zeroValue e).run C.P w=.ok z w:=by
      cases hi:C.P.info? e with
      | none=>simp [hi] at hz
      | some i=>simp [hi] at hz;simp[zeroValue,typeInfo,hi,hz]
     have hso:=run_sizeOf hs w
     have hfill:Instr.fill (fun i=>some (i * s,s)) ((Array.range (1 * s)).map (z.cells[· % z.cells.size]!)) [(0,rg1 H)]=some (rg1 H).cells:=by
      simp only[Instr.fill]
      rw[if_neg (by simp[hsz])]
      congr 1
      apply Array.ext'
      rw[fill_cells,Nat.zero_mul]
      exact setR_full _ _ (by simp[hsz])
     simp only[execOp,ho]
     have hne:¬ (1 * s=0):=by omega
     have hle:¬ (1 * s > 2 ^ 24):=by omega
     simp only[Instr.buildSlice,Sem.run_bind,run_underlying ht,Result.andThen_ok,hso,if_neg hne,if_neg hle,hzr,Sem.run_pure,e2.symm,List.map_toArray,List.map_cons,List.map_nil,hfill,newRow,newObj,Sem.run]
    ·rw[hX']
     simp only[List.foldl_cons,List.foldl_nil]
     rw[erF_set,erF_set]
     simp[er,erL_eq]
   cases hV:(erF XL1 (100 * H)).2 with
   | agg vs =>
    simp only[hV] at hr
    split at hr
    ·rename_i hall
     simp only[Option.some.injEq] at hr
     obtain⟨lvs,hV',hlvs⟩:=er_agg (lv:=(XL1 (100 * H)).2) hV
     have hm:=hkey.mem
     have hsp:=hkey.sep
     rw[hV'] at hm hsp hreg
     simp only[Mem] at hm
     simp only[Sep] at hsp
     simp only[RR] at hreg
     obtain⟨ys,hys,hRL⟩:=hreg
     have hRL':=RRL_iff.1 hRL
     have hlen:lvs.length=s:=by rw[← hall.1,← hlvs];simp
     refine fin lvs hlen (by rw[hys];simp[Value.cells];omega) (fun i c0 hc0=>?_) hm hsp (fun b o hb=>by rw[hV'];simpa [fp] using hb) (by rw[hlvs,hr])
     have hlt:i < ys.length:=by rw[← hRL'.1];exact (List.getElem?_eq_some_iff.1 hc0).1
     refine⟨ys[i],by rw[hys];simp[Value.cells,hlt],CR_of_RR ?_ (hRL'.2 i c0 _ hc0 (List.getElem?_eq_getElem hlt))⟩
     have:=List.all_eq_true.1 hall.2 (er c0) (by rw[← hlvs];exact List.mem_map_of_mem (List.mem_of_getElem? hc0))
     rwa [er_treeV] at this
    ·cases hr
   | _ =>
    simp only[hV] at hr
    split at hr
    ·rename_i hall
     simp only[Option.some.injEq] at hr
     have hV':er (XL1 (100 * H)).2=_:=hV
     have htv:treeV (XL1 (100 * H)).2=true:=by rw[← er_treeV,hV'];exact hall.2
     have hcr:=CR_of_RR htv hreg
     have hcells:=cellsOf_oneCell (oneCell_of_CR htv hcr)
     have hcs:(rg1 H).cells=#[rg1 H]:=hcells
     refine fin [(XL1 (100 * H)).2] (by simp[hall.1]) (by rw[hcs];simp[hall.1]) (fun i c0 hc0=>?_) (by simp only[MemA];exact⟨hkey.mem,trivial⟩) (by simp only[SepL];exact⟨hkey.sep,trivial,fun _ _ _ h=>by simp[fpL] at h⟩) (fun b o hb=>by simpa [fpL] using hb) (by simp only[List.map_cons,List.map_nil,hV',hr])
     cases i with
     | zero=>simp at hc0;subst hc0;exact⟨rg1 H,by rw[hcs];rfl,hcr⟩
     | succ i=>simp at hc0
    ·cases hr
end Go.OT
namespace Go.OT
theorem frame_setCells (K:ASet)(b:Nat):∀ (vs:List Value) (o:Nat) (w:World),(∀ j,j < vs.length→K b (o+j)∧(w.at b (o+j)).isSome)→Frame K w (w.setCells b o vs)
 | [],o,w,_=>Frame.refl K w
 | v :: vs,o,w,h=>by
  have h0:=h 0 (by simp)
  simp only[Nat.add_zero] at h0
  have f1:=frame_setCell K w b o v h0.1 h0.2
  have hsome:∀ j,j < vs.length→K b (o+1+j)∧((w.setCell ⟨b,o,none⟩ v).at b (o+1+j)).isSome:=by
   intro j hj
   have:=h (j+1) (by simp;omega)
   rw[show o+(j+1)=o+1+j by omega] at this
   refine⟨this.1,?_⟩
   have hb:b < w.heap.size:=by
    rcases Nat.lt_or_ge b w.heap.size with hb | hb
    ·exact hb
    ·have h2:=h0.2
     simp[World.at,World.cell?,Array.getElem?_eq_none hb] at h2
   rw[f1.some b _ hb]
   exact this.2
  exact f1.trans (frame_setCells K b vs (o+1) _ hsome) (fun _ _ h=>.inl h)
theorem kind_setCell (w:World)(a:Addr)(v:Value)(b:Nat):(∃ c e f c',w.heap[b]?=some (.cells c e f)∧(w.setCell a v).heap[b]?=some (.cells c' e f))∨((∀ c e f,w.heap[b]? ≠ some (.cells c e f))∧(w.setCell a v).heap[b]?=w.heap[b]?):=by
 simp only[World.setCell,Array.getElem?_modify]
 by_cases e:a.block=b
 ·rw[if_pos e]
  cases w.heap[b]? with
  | none=>right;simp
  | some ob=>cases ob<;>simp
 ·rw[if_neg e]
  cases w.heap[b]? with
  | none=>right;simp
  | some ob=>cases ob<;>simp
theorem kind_setCells (b0:Nat)(b:Nat):∀ (vs:List Value) (o:Nat) (w:World),(∃ c e f c',w.heap[b]?=some (.cells c e f)∧(w.setCells b0 o vs).heap[b]?=some (.cells c' e f))∨((∀ c e f,w.heap[b]? ≠ some (.cells c e f))∧(w.setCells b0 o vs).heap[b]?=w.heap[b]?)
 | [],o,w=>by
  rw[World.setCells]
  cases h:w.heap[b]? with
  | none=>right;simp
  | some ob=>cases ob<;>simp
 | v :: vs,o,w=>by
  rw[World.setCells]
  rcases kind_setCell w ⟨b0,o,none⟩ v b with ⟨c,e,f,c',h1,h2⟩ | ⟨h1,h2⟩
  ·rcases kind_setCells b0 b vs (o+1) (w.setCell ⟨b0,o,none⟩ v) with ⟨d,e',f',d',g1,g2⟩ | ⟨g1,g2⟩
   ·rw[h2] at g1;cases g1
    exact .inl ⟨c,_,_,d',h1,g2⟩
   ·exact absurd h2 (g1 _ _ _)
  ·rcases kind_setCells b0 b vs (o+1) (w.setCell ⟨b0,o,none⟩ v) with ⟨d,e',f',d',g1,g2⟩ | ⟨g1,g2⟩
   ·rw[h2] at g1;exact absurd g1 (h1 _ _ _)
   ·exact .inr ⟨h1,g2.trans h2⟩
theorem at_setCells_out {b0 o0:Nat}{vs:List Value}{w:World}{b o:Nat}(h:(w.setCells b0 o0 vs).cell? ⟨b,o,none⟩=w.cell? ⟨b,o,none⟩):(w.setCells b0 o0 vs).at b o=w.at b o:=by
 rcases kind_setCells b0 b vs o0 w with ⟨c,e,f,c',h1,h2⟩ | ⟨_,h2⟩
 ·simp only[World.cell?,h1,h2] at h
  simp only[World.at,h1,h2]
  simp at h
  rw[h]
 ·simp only[World.at,h2]
section
variable {C:Ctx} {X:XF LO} {β:Nat→Nat × Nat} {I:ASet} {rg:Nat→Value} {w:World}
theorem RelL.spare (R:RelL C X β I rg w)(h:Nat)(hh:h < 10000){l:Loc}{s n:Nat}{cs:List AL}(hX:(X (100 * h)).2=.sl true (some l) s n cs)(m:Nat)(vs:List Value)(news:List AL)(hlen:news.length=m * s)(hvl:vs.length=m * s)(hroom:n+m≤l.cap)
  (hcr:∀ (i:Nat) (c:AL),news[i]?=some c→∃ v,vs[i]?=some v∧CR c v) (hm:MemA w I news) (hno:noOwnL news=true) :
  RelL C (X.set (100 * h) (.sl true (some l) s (n+m) (cs ++ news))) β I (fun t=>if t=h then .slice (some ⟨l.b,l.o,none⟩) (n+m) l.cap else rg t) (w.setCells l.b (l.o+n * s) vs):=by
 have hkey:=R.key (100 * h)
 have hkm:=hkey.mem
 have hks:=hkey.sep
 rw[hX] at hkm hks
 simp only[Mem] at hkm
 simp only[Sep] at hks
 have hmul:(n+m) * s≤l.cap * s:=Nat.mul_le_mul_right s hroom
 rw[Nat.add_mul] at hmul
 have hown:∀ j,j < l.cap * s→kfp β X (100 * h) l.b (l.o+j):=fun j hj=>.inl (by rw[hX];simp only[fp];exact .inl ⟨trivial,by omega,by omega⟩)
 have hfr:Frame (fun b o=>∃ k0,k0=100 * h∧kfp β X k0 b o) w (w.setCells l.b (l.o+n * s) vs):=frame_setCells _ _ _ _ _ fun j hj=>by
  have:=hown (n * s+j) (by omega)
  rw[← Nat.add_assoc] at this
  exact⟨⟨_,rfl,this⟩,(hkey.live _ _ this).2.2⟩
 generalize hw':w.setCells l.b (l.o+n * s) vs=w' at hfr ⊢
 have hout:∀ b o,(b=l.b→o < l.o+n * s∨l.o+n * s+m * s≤o)→w'.at b o=w.at b o:=by
  intro b o hb
  rw[← hw']
  exact at_setCells_out (World.cell?_setCells_out l.b vs (l.o+n * s) w ⟨b,o,none⟩ (fun e _=>by rw[hvl];exact hb e))
 have hin:∀ j v,vs[j]?=some v→w'.at l.b (l.o+n * s+j)=some (.v v):=by
  intro j v hv
  have hj:j < vs.length:=(List.getElem?_eq_some_iff.1 hv).1
  rw[← hw']
  have:=World.cell?_setCells_in l.b vs (l.o+n * s) w (fun j hj=>by
   obtain⟨y,hy⟩:=(hkm.2.2.2 trivial).1 (n * s+j) (by omega)
   rw[← Nat.add_assoc] at hy
   rw[at_v.1 hy];rfl) j hj
  rw[at_v,this]
  rw[List.getElem?_eq_getElem hj] at hv
  exact hv
 have hno':=noOwnL_spec news hno
 have hI':∀ b o,I b o→w'.at b o=w.at b o:=fun b o hb=>hfr.cell b o (R.imm b o hb).1 (fun ⟨k0,_,hk⟩=>(R.imm b o hb).2 k0 hk)
 have hself:=XF.set_self X (100 * h) (.sl true (some l) s (n+m) (cs ++ news))
 have hfpn:∀ b o,fp (.sl true (some l) s (n+m) (cs ++ news)) b o→fp (X (100 * h)).2 b o:=by
  intro b o hb
  rw[hX]
  simp only[fp] at hb ⊢
  rcases hb with hb | hb
  ·exact .inl hb
  ·obtain⟨c,hc,hcb⟩:=fpL_iff.1 hb
   rcases List.mem_append.1 hc with hc | hc
   ·exact .inr (fpL_iff.2 ⟨c,hc,hcb⟩)
   ·exact absurd (fpL_iff.2 ⟨c,hc,hcb⟩) (hno'.1 b o)
 refine R.change (fun k=>k=100 * h) (fun k hk=>XF.set_ne _ _ hk) (keeps_set X β _ _) (fun _ _ _=>.inl rfl) (fun _ _=>rfl) ?_ ?_ ?_ ?_ ?_ (fun _ _ h=>h) (fun _ _ h=>.inl h) hfr
 ·intro t ht
  rw[if_neg (fun e=>ht.elim (fun ht=>ht (by rw[e])) (fun ht=>by omega))]
 ·intro t ht
  have e:t=h:=by omega
  subst e
  rw[hself,if_pos rfl]
  simp[RR,CR]
 ·rintro k rfl
  refine⟨?_,?_,fun hc=>absurd (by omega) hc.1,fun b o hb=>?_,fun h=>by omega⟩
  ·rw[hself]
   simp only[Mem]
   refine⟨by rw[List.length_append,hkm.1,hlen,Nat.add_mul],hroom,MemL_iff.2 fun i c hc=>?_,fun _=>⟨fun j hj=>?_,(hkm.2.2.2 trivial).2⟩⟩
   rotate_left
   ·by_cases h1:l.o+n * s≤l.o+j∧l.o+j < l.o+n * s+m * s
    ·have hlt:j - n * s < vs.length:=by omega
     have:=hin (j - n * s) _ (List.getElem?_eq_getElem hlt)
     rw[show l.o+n * s+(j - n * s)=l.o+j by omega] at this
     exact⟨_,this⟩
    ·rw[hout _ _ (fun _=>by omega)]
     exact (hkm.2.2.2 trivial).1 j hj
   by_cases hi:i < cs.length
   ·rw[List.getElem?_append_left hi] at hc
    obtain⟨⟨y,hy,hcy⟩,hmc,_⟩:=MemL_iff.1 hkm.2.2.1 i c hc
    refine⟨⟨y,by rw[hout _ _ (fun _=>.inl (by omega))];exact hy,hcy⟩,?_,fun e=>by simp at e⟩
    refine Mem_frame c hmc (fun b o hb=>hout b o fun e=>?_) (fun b o hb=>⟨hI' b o hb,hb⟩)
    subst e
    rcases Nat.lt_or_ge o (l.o+n * s) with h1 | h1
    ·exact .inl h1
    ·right
     rcases Nat.lt_or_ge o (l.o+n * s+m * s) with h2 | h2
     ·exfalso
      have:=hks.1 (o - l.o) (by omega)
      rw[show l.o+(o - l.o)=o by omega] at this
      exact this (fpL_iff.2 ⟨c,List.mem_of_getElem? hc,hb⟩)
     ·exact h2
   ·rw[List.getElem?_append_right (by omega)] at hc
    obtain⟨v,hv,hcv⟩:=hcr _ c hc
    refine⟨⟨v,?_,hcv⟩,?_,fun e=>by simp at e⟩
    ·have:=hin _ v hv
     rwa [show l.o+n * s+(i - cs.length)=l.o+i by omega] at this
    ·exact Mem_frame c (MemA_iff.1 hm c (List.mem_of_getElem? hc)) (fun b o hb=>absurd (fpL_iff.2 ⟨c,List.mem_of_getElem? hc,hb⟩) (hno'.1 b o)) (fun b o hb=>⟨hI' b o hb,hb⟩)
  ·rw[hself]
   simp only[Sep]
   refine⟨fun j hj hb=>?_,?_⟩
   ·obtain⟨c,hc,hcb⟩:=fpL_iff.1 hb
    rcases List.mem_append.1 hc with hc | hc
    ·exact hks.1 j hj (fpL_iff.2 ⟨c,hc,hcb⟩)
    ·exact hno'.1 _ _ (fpL_iff.2 ⟨c,hc,hcb⟩)
   ·refine SepL_iff.2 ⟨fun c hc=>?_,fun i j u v hij hu hv b o h1 h2=>?_⟩
    ·rcases List.mem_append.1 hc with hc | hc
     ·exact (SepL_iff.1 hks.2).1 c hc
     ·exact (SepL_iff.1 hno'.2).1 c hc
    ·by_cases hj:j < cs.length
     ·rw[List.getElem?_append_left hj] at hv
      rw[List.getElem?_append_left (by omega)] at hu
      exact (SepL_iff.1 hks.2).2 i j u v hij hu hv b o h1 h2
     ·rw[List.getElem?_append_right (by omega)] at hv
      exact hno'.1 b o (fpL_iff.2 ⟨v,List.mem_of_getElem? hv,h2⟩)
  ·have hold:kfp β X (100 * h) b o:=by
    rcases hb with hb | ⟨hc,_⟩
    ·rw[hself] at hb;exact .inl (hfpn b o hb)
    ·exact absurd (by omega) hc.1
   obtain⟨l1,l2,l3⟩:=hkey.live b o hold
   exact⟨Nat.lt_of_lt_of_le l1 hfr.size,by rw[hfr.fz b o l1 l3];exact l2,by rw[hfr.some b o l1];exact l3⟩
 ·rintro k k' rfl rfl hne;exact absurd rfl hne
 ·rintro k rfl b o hb
  left
  rcases hb with hb | ⟨hc,_⟩
  ·rw[hself] at hb;exact⟨_,rfl,.inl (hfpn b o hb)⟩
  ·exact absurd (by omega) hc.1
end
end Go.OT
