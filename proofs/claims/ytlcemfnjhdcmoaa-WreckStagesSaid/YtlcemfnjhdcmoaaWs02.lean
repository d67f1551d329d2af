/- Part 2 of the proof: see its last file. -/
import Derived.Scope
import Derived.Calls
import Derived.Laws.Tables
import Derived.Laws.MakeOwn
import Derived.Laws.BytesString
import Derived.ArgAppend
import Derived.Test.YtlcemfnjhdcmoaaWs01
set_option linter.unusedSimpArgs false
set_option linter.unusedVariables false
namespace Go.OT
def zri (X:XF Unit)(d:Nat)(c:COd):Option (XF Unit):=(z54 X c).map fun X1=>(X1.set (100 * d) (X1 (100 * H)).2).set (100 * H) .non
section
variable {C:Ctx} {X:XF LO} {β:Nat→Nat × Nat} {I:z12} {rg:Nat→Value} {w:World}
theorem RelL.moveR (R:RelL C X β I rg w)(d h:Nat)(hdl:d < 10000)(hne:d ≠ h):RelL C ((X.set (100 * d) (X (100 * h)).2).set (100 * h) .non) β I (fun s=>if s=d then rg h else rg s) w :=
 R.fresh d hdl [h] (by simpa using hne) (Frame.refl _ w) (R.key _).mem (R.key _).sep (R.reg h) (fun b o hb=>.inr ⟨h,by simp,hb⟩)
end
theorem y3k {C:Ctx}{o:Oper}{X X':XF Unit}{d sz:Nat}{x:Operand}{c:COd}(ho:o.op=.assign x)(hd:o.dst=some d)(hlt:d < C.nt)(hin:z0r C.nt o=true)(hnt:C.nt≤H)
  (hc:compOd C.nt sz x=some c) (hr:zri X d c=some X'):OpOk C o X X' :=
 wh hd hlt hin fun XL β I rg w he R=>by
  subst he
  simp only[zri,pg] at hr
  obtain⟨X1,h1,h2⟩:=hr
  obtain⟨XL1,rg1,e1,R1,K1,e2,e3⟩:=z40 R hnt hc h1
  refine⟨evR rg x,w,_,β,I,_,by simp[execOp,ho],?_,R1.moveR d H (by have:=C.hnt;omega) (by omega),by simp[e2],fun t h1 h2=>by simp[h1,e3 t (.inl (qo h2 hnt))]⟩
  rw[z03,z03,← h2,e1]
  subst e1;rfl
def zvm (X:XF Unit)(d n i:Nat):Option (XF Unit) :=
 match (X (100 * n)).2 with
 | .tuple vs=>match vs[i]? with
  | some c=>if d ≠ n then some ((X.set (100 * n) (.tuple (vs.set i .dead))).set (100 * d) c) else none
  | none=>none
 | _=>none
theorem y3l {C:Ctx}{o:Oper}{X X':XF Unit}{d n i:Nat}(ho:o.op=.extract (.tmp n) i)(hd:o.dst=some d)(hlt:d < C.nt)(hin:z0r C.nt o=true)
  (hr:zvm X d n i=some X'):OpOk C o X X' :=
 wh hd hlt hin fun XL β I rg w he R=>by
  subst he
  simp only[zvm] at hr
  split at hr
  ·rename_i vs hV
   split at hr
   ·rename_i c hi
    split at hr
    ·rename_i hdn
     simp only[pe] at hr
     obtain⟨lvs,hV',hlvs⟩:=zr8 (lv:=(XL (100 * n)).2) hV
     have hRn:=R.reg n
     rw[hV'] at hRn
     simp only[RR] at hRn
     obtain⟨ys,hys,hRL⟩:=hRn
     rw[← hlvs,qa] at hi
     cases hli:lvs[i]? with
     | none=>simp [hli] at hi
     | some lc =>
      simp only[hli,px,pe] at hi
      have hlt':i < ys.length:=by rw[← (z0u.1 hRL).1];exact (pk.1 hli).1
      have hyi:ys[i]?=some ys[i]:=pi hlt'
      refine⟨ys[i],w,_,β,I,_,?_,?_,R.takeA n d i (by have:=C.hnt;omega) (Ne.symm hdn) (by rw[hV'];rfl) hli ((z0u.1 hRL).2 i lc _ hli hyi),by simp,fun t h1 _=>by simp[h1]⟩
      ·simp[execOp,ho,evR,hys,Instr.extract,hyi]
      ·rw[z03,z03,hi,← hr,hV']
       simp[AV.withParts,er,z0f,sq,hlvs]
    ·cases hr
   ·cases hr
  ·cases hr
def zj3 (sz:Nat)(v:Value):AL :=
 match v with
 | .slice none 0 0=>.sl true none sz 0 []
 | v=>.sc v
theorem zl0 (sz:Nat)(v:Value):(v=.slice none 0 0∧zj3 sz v=.sl true none sz 0 []∧cst sz v=.sl true () sz 0 [])∨(zj3 sz v=.sc v∧cst sz v=.sc v):=by
 by_cases h:v=.slice none 0 0
 ·subst h;exact .inl ⟨rfl,rfl,rfl⟩
 ·refine .inr ⟨?_,?_⟩
  ·unfold zj3;split
   ·exact absurd rfl h
   ·rfl
  ·unfold cst;split
   ·exact absurd rfl h
   ·rfl
theorem zah {X:XF LO} {β:Nat→Nat × Nat}{w:World}{I:z12}(sz:Nat)(v:Value):er (zj3 sz v)=cst sz v∧RR X β (zj3 sz v) v∧Mem w I (zj3 sz v)∧CR (zj3 sz v) v∧(∀ b o,¬ fp (zj3 sz v) b o)∧Sep (zj3 sz v):=by
 rcases zl0 sz v with ⟨rfl,h1,h2⟩ | ⟨h1,h2⟩
 ·rw[h1,h2];exact⟨rfl,by simp[RR,CR],by simp[Mem],by simp[CR],by simp[fp],by simp[Sep]⟩
 ·rw[h1,h2];exact⟨rfl,by simp[RR],by simp[Mem],by simp[CR],by simp[fp],by simp[Sep]⟩
def z8h (P:Program)(t:TypeId)(szs:List Nat):Option (List AU) :=
 ((P.info? t).bind (·.zero)).bind fun z=>if z.cells.toList.length=szs.length then some (List.zipWith cst szs z.cells.toList) else none
theorem zcd {P:Program}{t:TypeId}{szs:List Nat}{zs:List AU}(h:z8h P t szs=some zs) :
  ∃ z,(∀ w,(zeroValue t).run P w=.ok z w)∧z.cells.toList.length=szs.length∧zs=(List.zipWith zj3 szs z.cells.toList).map er∧((P.info? t).bind (·.zero))=some z:=by
 unfold z8h at h
 cases hi:P.info? t with
 | none=>simp [hi] at h
 | some i =>
  cases hz:i.zero with
  | none=>simp [hi,hz] at h
  | some z =>
   simp only[hi,hz,po] at h
   split at h
   ·rename_i hl
    simp only[pe] at h
    refine⟨z,fun w=>by simp[zeroValue,typeInfo,hi,hz],hl,?_,by simp[hz]⟩
    rw[← h,List.map_zipWith]
    congr 1
    funext s v
    exact (zah (X:=fun _=>(0,.non)) (β:=fun _=>(0,0)) (w:=default) (I:=fun _ _=>False) s v).1.symm
   ·cases h
theorem z7b {szs:List Nat}{xs:List Value}(hl:xs.length=szs.length){i:Nat}{c:AL}(h:(List.zipWith zj3 szs xs)[i]?=some c):∃ s x,szs[i]?=some s∧xs[i]?=some x∧c=zj3 s x:=by
 rw[List.getElem?_zipWith] at h
 cases h1:szs[i]? with
 | none=>simp [h1] at h
 | some s =>
  cases h2:xs[i]? with
  | none=>simp [h1,h2] at h
  | some x=>simp [h1,h2] at h;exact⟨s,x,rfl,rfl,h.symm⟩
def zl1 (Y:XF Unit)(d g:Nat):XF Unit:=(Y.set (100 * H) .non).set (100 * d) (.bptr d g 0)
def zvn (X:XF Unit)(d:Nat)(c:COd):Option (XF Unit) :=
 (z54 X c).bind fun X1=>match (X1 (100 * H)).2 with
  | .agg vs=>if vs.all z0q=true then some (zl1 (X1.box d vs) d ((X1 (100 * d+99)).1+1)) else none
  | v=>if z0q v=true then some (zl1 (X1.box d [v]) d ((X1 (100 * d+99)).1+1)) else none
def z5w (X:XF Unit)(d:Nat)(zs:List AU):XF Unit:=zl1 ((X.set (100 * H) (.agg zs)).box d zs) d ((X (100 * d+99)).1+1)
section
variable {C:Ctx} {X:XF LO} {β:Nat→Nat × Nat} {I:z12} {rg:Nat→Value} {w:World}
theorem zf3 (R:RelL C X β I rg w)(d:Nat)(hd:d < 10000)(e:TypeId)(cs:List AL)(xs:List Value)(hV:(X (100 * H)).2=.agg cs∨(cs=[(X (100 * H)).2]∧z0q (X (100 * H)).2=true))(ht:∀ c ∈ cs,z0q c=true)
  (hx:(rg H).cells.toList=xs) :
  RelL C (((X.box d cs).set (100 * H) .non).set (100 * d) (.bptr d ((X (100 * d+99)).1+1) 0)) (fun j=>if j=d then (w.heap.size,0) else β j) I
   (fun s=>if s=d then .pointer (some ⟨w.heap.size,0,none⟩) else rg s) { w with heap:=w.heap.push (.cells xs.toArray e (0,0)) }:=by
 have hk:=R.key (100 * H)
 have hr:=R.reg H
 have hfacts:(∀ b o,fpL cs b o→fp (X (100 * H)).2 b o)∧z2l w I cs∧z76 cs∧cs.length=xs.length∧∀ (i:Nat) (c:AL) (x:Value),cs[i]?=some c→xs[i]?=some x→RR X β c x:=by
  have hm:=hk.mem
  have hs:=hk.sep
  rcases hV with hV | ⟨hV,h'⟩
  ·rw[hV] at hm hs hr ⊢
   simp only[Mem] at hm
   simp only[Sep] at hs
   simp only[RR] at hr
   obtain⟨ys,hys,hRL⟩:=hr
   rw[hys] at hx
   simp only[Value.cells] at hx
   subst hx
   exact⟨fun b o h=>by simpa [fp] using h,hm,hs,by simpa using (z0u.1 hRL).1,(z0u.1 hRL).2⟩
  ·have hcr:=z2u h' hr
   rw[z2e (z1j h' hcr)] at hx
   simp only at hx
   subst hx hV
   refine⟨fun b o h=>by simpa [fpL] using h,by simp only[z2l];exact⟨hm,trivial⟩,by simp only[z76];exact⟨hs,trivial,fun _ _ _ h=>by simp[fpL] at h⟩,rfl,fun i c x hc hx=>?_⟩
   cases i with
   | zero=>simp at hc hx;subst hc hx;exact hr
   | succ i=>simp at hc
 obtain⟨f1,f2,f3,f4,f5⟩:=hfacts
 have R1:=R.newbox d H hd e cs xs f1 f2 f3 f4 (fun i c x hc hx=>.inl (z2u (ht c (pj hc)) (f5 i c x hc hx)))
 refine R1.setR d hd rfl (by simp[Mem]) ?_
 simp only[RR]
 have hg:((X.box d cs).set (100 * H) .non (100 * d+99)).1=(X (100 * d+99)).1+1:=by
  rw[w9 _ _ (by unfold H;omega)]
  simp only[XF.box]
  rw[if_pos ⟨by omega,by omega⟩,if_pos (by omega)]
 rw[hg]
 exact⟨pr _,fun _=>by simp⟩
end
theorem y3m {C:Ctx}{o:Oper}{X X':XF Unit}{d sz:Nat}{e:TypeId}{x:Operand}{c:COd}(ho:o.op=.box e x)(hd:o.dst=some d)(hlt:d < C.nt)(hin:z0r C.nt o=true)(hnt:C.nt≤H)
  (hc:compOd C.nt sz x=some c) (hr:zvn X d c=some X'):OpOk C o X X' :=
 wh hd hlt hin fun XL β I rg w he R=>by
  subst he
  simp only[zvn] at hr
  cases h1:z54 (erF XL) c with
  | none=>simp [h1] at hr
  | some X1 =>
   simp only[h1,po] at hr
   obtain⟨XL1,rg1,e1,R1,K1,e2,e3⟩:=z40 R hnt hc h1
   subst e1
   have hd1:d < 10000:=by unfold H at hnt;omega
   have fin:∀ (cs:List AL),((XL1 (100 * H)).2=.agg cs∨(cs=[(XL1 (100 * H)).2]∧z0q (XL1 (100 * H)).2=true))→(∀ c ∈ cs,z0q c=true) →
     X'=zl1 ((erF XL1).box d (cs.map er)) d ((erF XL1 (100 * d+99)).1+1)→∃ x w' XL' β' I' rg',(execOp (evR rg) o).run C.P w=.ok (.value x) w'∧erF XL'=X'∧RelL C XL' β' I' rg' w'∧rg' d=x∧∀ t,t ≠ d→t < C.nt→rg' t=rg t:=by
    intro cs hV ht hX'
    refine⟨.pointer (some ⟨w.heap.size,0,none⟩),{ w with heap:=w.heap.push (.cells (rg1 H).cells.toList.toArray e (0,0)) },_,_,_,_,?_,?_,zf3 R1 d hd1 e cs _ hV ht rfl,by simp,fun t ht1 ht2=>by simp[ht1,e3 t (.inl (qo ht2 hnt))]⟩
    ·simp only[execOp,ho,Instr.box,newVar,newRow,newObj,qk,s4,Sem.run,e2]
     simp
    ·rw[z03,z03,zdc,hX']
     rfl
   cases hV:(erF XL1 (100 * H)).2 with
   | agg vs =>
    simp only[hV] at hr
    split at hr
    ·rename_i hall
     simp only[pe] at hr
     obtain⟨lvs,hV',hlvs⟩:=z79 (lv:=(XL1 (100 * H)).2) hV
     refine fin lvs (.inl hV') (fun c hc=>?_) (by rw[hlvs,hr])
     rw[qe] at hall
     rw[← z2t]
     exact hall _ (by rw[← hlvs];exact s9 hc)
    ·cases hr
   | _ =>
    simp only[hV] at hr
    split at hr
    ·rename_i hall
     simp only[pe] at hr
     have hV':er (XL1 (100 * H)).2=_:=hV
     refine fin [(XL1 (100 * H)).2] (.inr ⟨rfl,?_⟩) (fun c hc=>?_) (by simp only[List.map_cons,t0,hV',hr])
     ·rw[← z2t,hV'];exact hall
     ·simp only[rm] at hc
      rw[hc,← z2t,hV'];exact hall
    ·cases hr
theorem zrj {C:Ctx}{o:Oper}{X:XF Unit}{d:Nat}{e:TypeId}{szs:List Nat}{zs:List AU}(ho:o.op=.alloc e)(hd:o.dst=some d)(hlt:d < C.nt)(hin:z0r C.nt o=true)(hnt:C.nt≤H)
  (hz:z8h C.P e szs=some zs) (ht:zs.all z0q=true):OpOk C o X (z5w X d zs) :=
 wh hd hlt hin fun XL β I rg w he R=>by
  subst he
  obtain⟨z,h1,h2,h3,h4⟩:=zcd hz
  have hd1:d < 10000:=by unfold H at hnt;omega
  generalize hl:List.zipWith zj3 szs z.cells.toList=lzs at h3
  have hfp:∀ b o,¬ fpL lzs b o:=by
   intro b o hb
   obtain⟨c,hc,hcb⟩:=z04.1 hb
   obtain⟨i,hi⟩:=pq hc
   rw[← hl] at hi
   obtain⟨s,x,_,_,rfl⟩:=z7b h2 hi
   exact (zah (X:=XL) (β:=β) (w:=w) (I:=I) s x).2.2.2.2.1 b o hcb
  have hmem:∀ c ∈ lzs,Mem w I c∧Sep c:=by
   intro c hc
   obtain⟨i,hi⟩:=pq hc
   rw[← hl] at hi
   obtain⟨s,x,_,_,rfl⟩:=z7b h2 hi
   have:=zah (X:=XL) (β:=β) (w:=w) (I:=I) s x
   exact⟨this.2.2.1,this.2.2.2.2.2⟩
  have hlen:lzs.length=z.cells.toList.length:=by rw[← hl];simp[h2]
  have R1:=R.fresh H (by decide) [] (by simp) (Frame.refl _ w) (v:=.agg lzs) (x:=.agg z.cells.toList.toArray)
   (by simp only[Mem];exact z0k.2 fun c hc=>(hmem c hc).1)
   (by simp only[Sep];exact z09.2 ⟨fun c hc=>(hmem c hc).2,fun i j u v _ hu hv b o h1 _=>hfp b o (z04.2 ⟨u,pj hu,h1⟩)⟩)
   (by
    simp only[RR]
    refine⟨_,rfl,z0u.2 ⟨hlen,fun i c x hc hx=>?_⟩⟩
    rw[← hl] at hc
    obtain⟨s,y,_,hy,rfl⟩:=z7b h2 hc
    rw[hx] at hy;cases hy
    exact (zah (X:=XL) (β:=β) (w:=w) (I:=I) s x).2.1)
   (by simp only[fp];intro b o hb;exact absurd hb (hfp b o))
  simp only[ri] at R1
  have hXH:((XL.set (100 * H) (.agg lzs)) (100 * H)).2=.agg lzs:=by rw[wa]
  have R2:=zf3 R1 d hd1 e lzs z.cells.toList (.inl hXH) (fun c hc=>by
   rw[qe] at ht
   rw[← z2t];exact ht _ (by rw[h3];exact s9 hc)) (by simp[Value.cells])
  refine⟨.pointer (some ⟨w.heap.size,0,none⟩),{ w with heap:=w.heap.push (.cells z.cells.toList.toArray e (0,0)) },_,_,_,_,?_,?_,R2,by simp,fun t ht1 ht2=>by simp[ht1,show t ≠ H from by unfold H at hnt ⊢;omega]⟩
  ·simp only[execOp,ho,Instr.alloc,qk,h1,qg,newVar,newRow,newObj,s4,Sem.run]
  ·rw[z03,z03,zdc,z03,h3]
   simp only[z5w,zl1,h3]
   congr 2
   ·simp[er,z0f]
   ·rw[w9 _ _ (by unfold H;omega)];rfl
inductive Ex where
 | nrm
 | ext (id:Nat)
 | ret
def CQ (C:Ctx)(Q:Ex→XF Unit→Prop):Exit→Act→World→Prop
 | .normal,a,w=>a.defers=[]∧∃ X,RelT C X a.tmps w∧Q .nrm X
 | .exit id,a,w=>a.defers=[]∧∃ X,RelT C X a.tmps w∧Q (.ext id) X
 | .ret,a,w=>a.defers=[]∧∃ X,RelT C X a.tmps w∧Q .ret X
 | _,_,_=>False
def AWp (C:Ctx)(c:Code)(X:XF Unit)(Q:Ex→XF Unit→Prop):Prop :=
 ∀ a w,a.defers=[]→RelT C X a.tmps w→c.wp C.P (CQ C Q) a w
section
variable {C:Ctx} {X:XF Unit} {Q:Ex→XF Unit→Prop}
theorem AWp.skip (h:Q .nrm X):AWp C .skip X Q:=fun a w hd hr=>wp_skip ⟨hd,X,hr,h⟩
theorem AWp.label {l:Nat}(h:Q .nrm X):AWp C (.label l) X Q:=fun a w hd hr=>wp_label ⟨hd,X,hr,h⟩
theorem AWp.exit {id:Nat}(h:Q (.ext id) X):AWp C (.exit id) X Q:=fun a w hd hr=>wp_exit ⟨hd,X,hr,h⟩
theorem AWp.ret (h:Q .ret X):AWp C .ret X Q:=fun a w hd hr=>wp_ret ⟨hd,X,hr,h⟩
def nv (next:XF Unit→Prop)(Q:Ex→XF Unit→Prop):Ex→XF Unit→Prop
 | .nrm,X=>next X
 | e,X=>Q e X
theorem AWp.seq {x y:Code}(h:AWp C x X (nv (fun X'=>AWp C y X' Q) Q)):AWp C (.seq x y) X Q:=by
 intro a w hd hr
 refine wp_seq (wp_mono (h a w hd hr) fun e a w hq=>?_)
 cases e with
 | normal =>
  obtain⟨h1,X',h2,h3⟩:=hq
  exact h3 a w h1 h2
 | exit id=>exact hq
 | ret=>exact hq
 | goto l=>exact hq
 | panic c=>exact hq
 | outgrown=>exact hq
theorem AWp.cond {c:Operand}{sz:Nat}{co:COd}{x y:Code}{b:Bool}(hc:compOd C.nt sz c=some co)(hb:rd X co=.sc (.bool b))(ht:b=true→AWp C x X Q)(hf:b=false→AWp C y X Q):AWp C (.cond c x y) X Q:=by
 intro a w hd hr
 have hev:a.eval c=.bool b:=by
  obtain⟨XL,β,I,rg,he,R,hs,hrg⟩:=hr
  have h:=opd R hc
  rw[he,hb] at h
  have:=h.sc
  cases c with
  | tmp t =>
   by_cases hlt:t < C.nt
   ·show a.tmps.getD t undef=_
    rw[hrg t hlt];exact this
   ·simp[compOd,hlt] at hc
  | const v=>exact this
  | func f=>exact this
  | global g=>exact this
 exact wp_cond_split hev (fun h=>ht h a w hd hr) (fun h=>hf h a w hd hr)
def nw (id:Nat)(Q:Ex→XF Unit→Prop):Ex→XF Unit→Prop
 | .ext id',X=>if id'=id then Q .nrm X else Q (.ext id') X
 | e,X=>Q e X
theorem AWp.block {id:Nat}{x:Code}(h:AWp C x X (nw id Q)):AWp C (.block id x) X Q:=by
 intro a w hd hr
 refine wp_block (wp_mono (h a w hd hr) fun e a w hq=>?_)
 cases e with
 | exit id' =>
  obtain⟨h1,X',h2,h3⟩:=hq
  simp only[nw] at h3
  simp only[Exit.inBlock]
  split<;>rename_i e
  ·rw[if_pos e] at h3;exact⟨h1,X',h2,h3⟩
  ·rw[if_neg e] at h3;exact⟨h1,X',h2,h3⟩
 | normal=>exact hq
 | ret=>exact hq
 | goto l=>exact hq
 | panic c=>exact hq
 | outgrown=>exact hq
theorem AWp.scope {x:Code}(h:AWp C x X Q):AWp C (.scope x) X Q:=by
 intro a w hd hr
 refine wp_scope_straight (wp_mono (h a w hd hr) fun e a w hq=>?_)
 cases e<;>first | exact hq | exact hq.elim
theorem AWp.loop {ι:Type}{body:Code}(S:ι→XF Unit) (μ:ι→Nat)(i:ι)(h:∀ i,AWp C body (S i) (nv (fun X'=>∃ j,X'=S j∧μ j < μ i) Q)):AWp C (.loop body) (S i) Q:=by
 intro a0 w0 hd0 hr0 b k cs
 have key:∀ n i,μ i=n→∀ a w,a.defers=[]→RelT C (S i) a.tmps w →
   ∃ e a' w',CQ C Q e a' w'∧Arrives C.P (lone (b.at a (.code body :: .inLoop body :: k)) cs w) b k cs e a' w':=by
  intro n
  induction n using Nat.strongRecOn with
  | _ n ih =>
   intro i hn a w hd hr
   obtain⟨e,a₁,w₁,hq,harr⟩:=h i a w hd hr b (.inLoop body :: k) cs
   cases e with
   | normal =>
    obtain⟨h1,X',h2,j,rfl,hlt⟩:=hq
    obtain⟨e₂,a₂,w₂,hq₂,harr₂⟩:=ih (μ j) (hn ▸ hlt) j rfl a₁ w₁ h1 h2
    exact⟨e₂,a₂,w₂,hq₂,.of_steps (Steps.trans harr (.one step_inLoop)) harr₂⟩
   | exit id=>exact ⟨.exit id,a₁,w₁,hq,.pass (x:=.inLoop body) rfl (fun _ _=>.inl (by simp)) harr⟩
   | ret=>exact ⟨.ret,a₁,w₁,hq,.pass (x:=.inLoop body) rfl (fun _ _=>.inl (by simp)) harr⟩
   | goto l=>exact hq.elim
   | panic ch=>exact hq.elim
   | outgrown=>exact hq.elim
 obtain⟨e,a',w',hq,harr⟩:=key _ i rfl a0 w0 hd0 hr0
 exact⟨e,a',w',hq,.of_steps (.one step_loop) harr⟩
end
mutual
def roots {L:Type}:AV L→List Nat
 | .view k _ _ _ _=>[k]
 | .ptr k _ _ _=>[k]
 | .bptr b _ _=>[100 * b+99]
 | .agg cs=>z1a cs
 | .tuple cs=>z1a cs
 | .clos _ cs=>z1a cs
 | _=>[]
def z1a {L:Type}:List (AV L)→List Nat
 | []=>[]
 | c :: cs=>roots c ++ z1a cs
end
mutual
theorem z69:∀ v:AL,roots (er v)=roots v
 | .agg cs=>by simp only[er,roots];exact z7c cs
 | .tuple cs=>by simp only[er,roots];exact z7c cs
 | .clos _ cs=>by simp only[er,roots];exact z7c cs
 | .sl _ _ _ _ _ | .bx _ _ _ | .sc _ | .view _ _ _ _ _ | .ptr _ _ _ _ | .bptr _ _ _ | .vptr _ _ | .dead | .non=>by simp[er,roots]
theorem z7c:∀ vs:List AL,z1a (erL vs)=z1a vs
 | []=>rfl
 | v :: vs=>by simp only[erL,z1a,z69 v,z7c vs]
end
mutual
theorem z7d {X X':XF LO} {β:Nat→Nat × Nat}:∀ (v:AL) (x:Value),(∀ k ∈ roots v,X' k=X k)→RR X β v x→RR X' β v x
 | .view k g p off len,x,hk,h=>by
  have:=hk k (by simp[roots])
  simp only[RR,this] at h ⊢;exact h
 | .ptr k g p i,x,hk,h=>by
  have:=hk k (by simp[roots])
  simp only[RR,this] at h ⊢;exact h
 | .bptr b g i,x,hk,h=>by
  have:=hk (100 * b+99) (by simp[roots])
  simp only[RR,this] at h ⊢;exact h
 | .agg cs,x,hk,h=>by
  simp only[RR] at h ⊢
  obtain⟨xs,h1,h2⟩:=h
  exact⟨xs,h1,z7e cs xs (by simpa [roots] using hk) h2⟩
 | .tuple cs,x,hk,h=>by
  simp only[RR] at h ⊢
  obtain⟨xs,h1,h2⟩:=h
  exact⟨xs,h1,z7e cs xs (by simpa [roots] using hk) h2⟩
 | .clos f cs,x,hk,h=>by
  simp only[RR] at h ⊢
  obtain⟨xs,h1,h2⟩:=h
  exact⟨xs,h1,z7e cs xs (by simpa [roots] using hk) h2⟩
 | .vptr l cs,x,_,h=>by simpa [RR] using h
 | .non,_,_,_=>by simp[RR]
 | .dead,_,_,_=>by simp[RR]
 | .sc v,x,_,h=>by simpa [RR] using h
 | .sl o l s n cs,x,_,h=>by simpa [RR] using h
 | .bx o l cs,x,_,h=>by simpa [RR] using h
theorem z7e {X X':XF LO} {β:Nat→Nat × Nat}:∀ (vs:List AL) (xs:List Value),(∀ k ∈ z1a vs,X' k=X k)→RRL X β vs xs→RRL X' β vs xs
 | [],_,_,h=>by simpa [RRL] using h
 | v :: vs,xs,hk,h=>by
  simp only[RRL] at h ⊢
  obtain⟨y,ys,h1,h2,h3⟩:=h
  exact⟨y,ys,h1,z7d v y (fun k hm=>hk k (by simp[z1a,hm])) h2,z7e vs ys (fun k hm=>hk k (by simp[z1a,hm])) h3⟩
end
def zc1 {L:Type}(l:List Nat)(X:XF L):XF L:=fun k=>if k ∈ l then X k else (0,.non)
theorem RelL.kp {C:Ctx}{X:XF LO} {β:Nat→Nat × Nat}{I:z12}{rg:Nat→Value}{w:World}(R:RelL C X β I rg w)(l:List Nat)(hl:∀ k ∈ l,∀ r ∈ roots (X k).2,r ∈ l) :
  RelL C (zc1 l X) β I rg w:=by
 have hin:∀ k,k ∈ l→zc1 l X k=X k:=fun k h=>by simp[zc1,h]
 have hout:∀ k,k ∉ l→zc1 l X k=(0,.non):=fun k h=>by simp[zc1,h]
 have hk:∀ k b o,kfp β (zc1 l X) k b o→kfp β X k b o:=by
  intro k b o h
  by_cases hkl:k ∈ l
  ·rwa [kfp,hin k hkl] at h
  ·rw[kfp,hout k hkl] at h
   rcases h with h | ⟨_,h,_⟩
   ·simp[fp] at h
   ·exact absurd rfl h
 refine⟨fun t=>?_,fun k=>?_,fun k k' hne b o h1 h2=>R.disj k k' hne b o (hk k b o h1) (hk k' b o h2),fun b o h=>⟨(R.imm b o h).1,fun k h'=>(R.imm b o h).2 k (hk k b o h')⟩,
  fun k b o h=>R.frK k b o (hk k b o h),R.frI,R.frI0,R.fr,R.gh,R.gr⟩
 ·by_cases hkl:100 * t ∈ l
  ·rw[hin _ hkl]
   exact z7d _ _ (fun r hr=>hin r (hl _ hkl r hr)) (R.reg t)
  ·rw[hout _ hkl];simp[RR]
 ·by_cases hkl:k ∈ l
  ·have h:=R.key k
   refine⟨by rw[hin k hkl];exact h.mem,by rw[hin k hkl];exact h.sep,?_,fun b o hb=>h.live b o (hk k b o hb),by rw[hin k hkl];exact h.last⟩
   rw[hin k hkl]
   intro h1 h2
   obtain⟨⟨y,hy,hc⟩,hf⟩:=h.cell h1 h2
   exact⟨⟨y,hy,hc.imp id fun hc=>⟨hc.1,z7d _ _ (fun r hr=>hin r (hl _ hkl r hr)) hc.2⟩⟩,hf⟩
  ·refine⟨by rw[hout k hkl];simp[Mem],by rw[hout k hkl];simp[Sep],by rw[hout k hkl];intro _ h;exact absurd rfl h,fun b o hb=>(R.key k).live b o (hk k b o hb),fun _=>by rw[hout k hkl]⟩
theorem RelT.kp {C:Ctx}{X:XF Unit}{tm:Array Value}{w:World}(h:RelT C X tm w)(l:List Nat)(hl:∀ k ∈ l,∀ r ∈ roots (X k).2,r ∈ l):RelT C (zc1 l X) tm w:=by
 obtain⟨XL,β,I,rg,he,R,hs,ht⟩:=h
 subst he
 refine⟨zc1 l XL,β,I,rg,?_,R.kp l (fun k hk r hr=>hl k hk r (by simpa [erF,z69] using hr)),hs,ht⟩
 funext k
 simp only[erF,zc1]
 split<;>simp [er]
theorem AWp.kp {C:Ctx}{c:Code}{X:XF Unit}{Q:Ex→XF Unit→Prop}(l:List Nat)(hl:∀ k ∈ l,∀ r ∈ roots (X k).2,r ∈ l)(h:AWp C c (zc1 l X) Q):AWp C c X Q :=
 fun a w hd hr=>h a w hd (hr.kp l hl)
def fnL:List (Nat × Nat × AU)→XF Unit
 | [],_=>(0,.non)
 | (k,e) :: l,j=>if j=k then e else fnL l j
def GStep (C:Ctx)(ops:Array Oper)(o:Oper)(X X':XF Unit):Prop :=
 match o.guard with
 | none=>OpOk C o X X'
 | some (j,want)=>∃ t b,(ops[j]?).bind (·.dst)=some t∧t < C.nt∧(X (100 * t)).2=.sc (.bool b) ∧
   if b=want then OpOk C o X X' else ∃ d,o.dst=some d∧d < C.nt∧X'=X.set (100 * d) .non
theorem RelT.bool {C:Ctx}{X:XF Unit}{a:Act}{w:World}(h:RelT C X a.tmps w){t:Nat}{b:Bool}(ht:t < C.nt)(hb:(X (100 * t)).2=.sc (.bool b)):a.tmps[t]?=some (.bool b):=by
 obtain⟨XL,β,I,rg,he,R,hs,hrg⟩:=h
 subst he
 have hr:=R.reg t
 rw[zhe (lv:=(XL (100 * t)).2) hb] at hr
 simp only[RR] at hr
 have:=hrg t ht
 rw[hr] at this
 simp only[pn] at this
 cases hq:a.tmps[t]? with
 | none=>rw [Array.getElem?_eq_none_iff] at hq;omega
 | some v=>simp [hq] at this;rw[this]
theorem RelT.skipped {C:Ctx}{X:XF Unit}{a:Act}{w:World}(h:RelT C X a.tmps w){d:Nat}(hd:d < C.nt):RelT C (X.set (100 * d) .non) (a.put (some d) undef).tmps w:=by
 obtain⟨XL,β,I,rg,he,R,hs,hrg⟩:=h
 subst he
 refine⟨_,β,I,_,by rw[z03];rfl,R.setR d (by have:=C.hnt;omega) (v:=.non) (x:=undef) rfl (by simp[Mem]) (by simp[RR]),by simp[Act.put,hs],fun t ht=>?_⟩
 simp only[Act.put]
 by_cases e:t=d
 ·subst e;simp[pn,hs,ht]
 ·simp only[e,if_false]
  rw[← hrg t ht]
  simp[pn,qv (Ne.symm e)]
theorem GStep.wpOp {C:Ctx}{ops:Array Oper}{i:Nat}{o:Oper}{X X':XF Unit}(hi:ops[i]?=some o)(h:GStep C ops o X X'){a:Act}{w:World}(hd:a.defers=[])(hr:RelT C X a.tmps w)
  {K:Act→World→Prop} {Q:Exit→Act→World→Prop} (hK:∀ a' w',a'.defers=[]→RelT C X' a'.tmps w'→K a' w'):wpOp C.P ops Q i K a w:=by
 unfold Go.wpOp
 simp only[hi]
 unfold GStep at h
 cases hg:o.guard with
 | none =>
  simp only[hg] at h
  simp only[Region.wanted,hg,if_true]
  exact .inl (h a w hd hr K Q hK)
 | some jw =>
  obtain⟨j,want⟩:=jw
  simp only[hg] at h
  obtain⟨t,b,h1,h2,h3,h4⟩:=h
  have hb:=hr.bool h2 h3
  have hy:yielded ops a.tmps j=some b:=by simp[yielded,h1,hb]
  simp only[Region.wanted,hg,hy]
  by_cases e:b=want
  ·subst e
   simp only[if_true] at h4
   simp only[beq_self_eq_true,if_true]
   exact .inl (h4 a w hd hr K Q hK)
  ·rw[if_neg e] at h4
   obtain⟨d,hd1,hd2,rfl⟩:=h4
   have:(some b == some want)=false:=by simp[e]
   simp only[this,pu,if_false,hd1]
   exact hK _ _ (by simp[Act.put,hd]) (hr.skipped hd2)
inductive Run (C:Ctx) (ops:Array Oper):List Nat→XF Unit→XF Unit→Prop
 | nil {X:XF Unit}:Run C ops [] X X
 | cons {i:Nat} {o:Oper} {l:List Nat} {X X1 X':XF Unit} (hi:ops[i]?=some o) (h:GStep C ops o X X1) (r:Run C ops l X1 X'):Run C ops (i :: l) X X'
theorem Run.wpOps {C:Ctx}{ops:Array Oper}{l:List Nat}{X X':XF Unit}(h:Run C ops l X X'):∀ {a:Act} {w:World} (hd:a.defers=[]) (hr:RelT C X a.tmps w) {Q:Exit→Act→World→Prop},
  (∀ a' w',a'.defers=[]→RelT C X' a'.tmps w'→Q .normal a' w')→wpOps C.P ops Q l a w:=by
 induction h with
 | nil=>intro a w hd hr Q hK;simp only[Go.wpOps];exact hK a w hd hr
 | cons hi h _ ih =>
  intro a w hd hr Q hK
  rw[wpOps_cons]
  exact h.wpOp hi hd hr (fun a' w' hd' hr'=>ih hd' hr' hK)
theorem AWp.region {C:Ctx}{id:Nat}{ops:Array Oper}{X X':XF Unit}{Q:Ex→XF Unit→Prop}(h:Run C ops (List.range ops.size) X X')(hq:Q .nrm X'):AWp C (.region id ops false) X Q :=
 fun a w hd hr=>wp_region (h.wpOps hd hr fun a' w' hd' hr'=>⟨hd',X',hr',hq⟩)
inductive Gh (L:Type) where
 | box (cells:List (AV L))
 | nod (v:AV L)
 deriving Inhabited
def zf4 {L:Type}(gs:List (Gh L))(as:List (AV L))(k:Nat):AV L :=
 if k / 100 < 10000 then (if k % 100=0 then as.getD (k / 100) .non else .non)
 else match gs[k / 100 - 10000]? with
  | some (.box cs)=>if k % 100=0∨k % 100=99 then .non else cs.getD (k % 100 - 1) .non
  | some (.nod v)=>if k % 100=0 then v else .non
  | none=>.non
def z8i {L:Type}(gs:List (Gh L))(as:List (AV L)):XF L:=fun k=>(0,zf4 gs as k)
def Fin (X:XF Unit)(gs:List (Gh Unit))(r:AU):Prop :=
 (X (100 * RS)).2=r∧∀ (j:Nat) (g:Gh Unit),gs[j]?=some g→match g with
  | .box cs=>∀ (i:Nat) (c:AU),cs[i]?=some c→i < 98→(X (100 * (10000+j)+1+i)).2=c
  | .nod v=>(X (100 * (10000+j))).2=v
def Fn (P:Program)(f:FuncId)(gs:List (Gh Unit))(as:List AU)(gs':List (Gh Unit))(r:AU):Prop :=
 ∀ (C:Ctx) (XL:XF LO) (β:Nat→Nat × Nat) (I:z12) (rg:Nat→Value) (w:World) (args:Array Value),C.P=P→erF XL=z8i gs as→RelL C XL β I rg w →
  args.size=as.length→(∀ t,t < as.length→args.getD t undef=rg t) →
  Calls P f args w fun e w'=>∃ x XL' β' I' rg',e=.returned x∧RelL C XL' β' I' rg' w'∧rg' RS=x∧Fin (erF XL') gs' r
inductive CRV where
 | t (n:Nat)
 | cell (a n:Nat) (ag:Bool)
def zhi (X:XF Unit):CRV→Option (XF Unit)
 | .t n=>z54 X (.t n)
 | .cell a n ag=>(z1x X (rd X (.t a)) n).bind fun cs =>
   let v:=if ag then AV.agg cs else cs.getD 0 .non
   if zkz v=true∧z0a v=true then z9e X v else none
def zai (X:XF Unit):Nat→List CRV→Option (XF Unit)
 | _,[]=>some X
 | i,r :: rs=>(zhi X r).bind fun X1=>zai ((X1.set (100 * (RS+1+i)) (X1 (100 * H)).2).set (100 * H) .non) (i+1) rs
def zdg {L:Type}(X:XF L)(n:Nat):XF L :=
 if n=1 then (X.set (100 * RS) (X (100 * (RS+1))).2).set (100 * (RS+1)) .non
 else clr (X.set (100 * RS) (.tuple (z2p X (RS+1) n))) (RS+1) n
def zty (X:XF Unit)(rs:List CRV):Option (XF Unit):=(zai X 0 rs).map fun X1=>zdg X1 rs.length
def zce (tm:Array Value):ResultVar→Sem Value
 | .tmp t=>Pure.pure (tm.getD t undef)
 | .cell a t=>do loadVar t (← asAddr (tm.getD a undef))
theorem zl2 (fn:Func)(tm:Array Value):results fn tm=(do
  let vs ← fn.results.mapM (zce tm)
  Pure.pure (if h:vs.size=1 then vs[0] else .tuple vs)):=by
 unfold results
 congr 1
def zc2 (P:Program)(nt:Nat):ResultVar→CRV→Prop
 | .tmp t,.t n=>t=n∧t < nt
 | .cell a ty,.cell a' n ag=>a=a'∧a < nt∧z7a P ty=some ag∧z2v P ty=some n∧(ag=false→n=1)
 | _,_=>False
section
variable {C:Ctx} {X:XF LO} {β:Nat→Nat × Nat} {I:z12} {rg:Nat→Value} {w:World}
theorem zrk (R:RelL C X β I rg w){rv:ResultVar}{r:CRV}(hr:zc2 C.P C.nt rv r){X':XF Unit}(h:zhi (erF X) r=some X')(tm:Array Value)(htm:∀ t,t < C.nt→tm.getD t undef=rg t) :
  ∃ XL rg' x,erF XL=X'∧RelL C XL β I rg' w∧rg' H=x∧(∀ t,t < H∨RS≤t→rg' t=rg t) ∧
   (zce tm rv).run C.P w=.ok x w:=by
 cases rv with
 | tmp t =>
  cases r with
  | cell a n ag=>simp [zc2] at hr
  | t n =>
   simp only[zc2] at hr
   obtain⟨rfl,hlt⟩:=hr
   simp only[zhi] at h
   obtain⟨XL,rg',e1,R1,_,e2,e3⟩:=z40 (x:=.tmp t) (sz:=0) R (by have:=C.hnt;unfold H;omega) (by simp[compOd,hlt]) h
   exact⟨XL,rg',_,e1,R1,e2,e3,by simp[zce,evR,htm t hlt]⟩
 | cell a ty =>
  cases r with
  | t n=>simp [zc2] at hr
  | cell a' n ag =>
   simp only[zc2] at hr
   obtain⟨rfl,hlt,hag,hn,h1⟩:=hr
   simp only[zhi] at h
   have hop:=opd (x:=.tmp a) (sz:=0) (nt:=C.nt) (c:=.t a) R (by simp[compOd,hlt])
   cases hl:z1x (erF X) (rd (erF X) (.t a)) n with
   | none=>simp [hl] at h
   | some cs =>
    simp only[hl,po] at h
    generalize hv0:(if ag then AV.agg cs else cs.getD 0 .non)=v0 at h
    split at h
    ·rename_i hfl
     obtain⟨b,off,xs,lcs,hx,h2,h3,h4,h5,h6⟩:=zcc R hop hl
     have hrun:=zag (P:=C.P) hag hn h1 h2 h3
     have hv:∃ lv,er lv=(if ag then AV.agg cs else cs.getD 0 .non)∧RR X β lv (if ag then .agg xs.toArray else xs.getD 0 undef)∧Mem w I lv:=by
      refine⟨if ag then .agg lcs else lcs.getD 0 .non,?_,?_,?_⟩
      ·cases ag with
       | true=>simp [er,z0f,h4]
       | false =>
        simp only[pu,if_false,← h4,ph,qa]
        cases lcs[0]?<;>simp [er]
      ·cases ag with
       | true=>simp only[if_true,RR];exact⟨xs,rfl,h5⟩
       | false =>
        simp only[pu,if_false,ph]
        rw[z0u] at h5
        cases hh:lcs[0]? with
        | none=>simp [RR]
        | some c0 =>
         have hlt0:0 < xs.length:=by rw[← h5.1];exact (pk.1 hh).1
         have hx0:xs[0]?=some xs[0]:=pi hlt0
         rw[hx0]
         exact h5.2 0 c0 _ hh hx0
      ·cases ag with
       | true=>simpa [Mem] using h6
       | false =>
        simp only[pu,if_false,ph]
        cases hh:lcs[0]? with
        | none=>simp [Mem]
        | some c0=>exact z0k.1 h6 c0 (pj hh)
     obtain⟨lv,g1,g2,g3⟩:=hv
     have hno:z0a lv=true:=by rw[← z5c,g1,hv0];exact hfl.2
     obtain⟨XL,rg',e1,R1,_,e2,e3⟩:=z9s R ⟨lv,g1.trans hv0,g2,g3,fun _=>(z2h lv hno).1,fun vs e=>by subst e;simpa [z0a] using hno⟩
      (fun vs e=>by subst e;simpa [zkz] using hfl.1) h
     refine⟨XL,rg',_,e1,R1,e2,e3,?_⟩
     have hx':tm.getD a undef=.pointer (some ⟨b,off,none⟩):=by rw[htm a hlt];exact hx
     simp only[zce,hx',asAddr,qk,s4,qg,hrun]
    ·cases h
theorem z94 {P:Program}{w:World}(f:ResultVar→Sem Value):∀ (l:List ResultVar) (xs:List Value),l.length=xs.length→(∀ (i:Nat) (r:ResultVar) (x:Value),l[i]?=some r→xs[i]?=some x→(f r).run P w=.ok x w)→(l.mapM f).run P w=.ok xs w
 | [],xs,h,_=>by
  have:xs=[]:=by simpa using h.symm
  subst this;simp
 | r :: l,xs,h,hf=>by
  cases xs with
  | nil=>simp at h
  | cons x xs =>
   have ih:=z94 f l xs (by simpa using h) (fun i r x h1 h2=>hf (i+1) r x (by simpa using h1) (by simpa using h2))
   have h0:=hf 0 r x rfl rfl
   simp only[List.mapM_cons,qk,h0,qg,ih,s4]
theorem zf5:∀ (rvs:List ResultVar) (rs:List CRV) (i:Nat) (X:XF LO) (rg:Nat→Value) (X':XF Unit) (tm:Array Value),RelL C X β I rg w→rvs.length=rs.length→i+rs.length≤400 →
  (∀ (j:Nat) (rv:ResultVar) (r:CRV),rvs[j]?=some rv→rs[j]?=some r→zc2 C.P C.nt rv r)→(∀ t,t < C.nt→tm.getD t undef=rg t)→zai (erF X) i rs=some X' →
  ∃ (XL:XF LO) (rg':Nat→Value) (xs:List Value),erF XL=X'∧RelL C XL β I rg' w∧xs.length=rs.length∧(∀ (j:Nat) (x:Value),xs[j]?=some x→rg' (RS+1+i+j)=x)∧(∀ t,RS+1≤t→t < RS+1+i→rg' t=rg t) ∧
   (∀ (j:Nat) (rv:ResultVar) (x:Value),rvs[j]?=some rv→xs[j]?=some x→(zce tm rv).run C.P w=.ok x w)
 | [],rs,i,X,rg,X',tm,R,hlen,_,_,_,h=>by
  have:rs=[]:=by simpa using hlen.symm
  subst this
  simp only[zai,pe] at h
  exact⟨X,rg,[],h,R,rfl,by simp,fun _ _ _=>rfl,by simp⟩
 | rv :: rvs,rs,i,X,rg,X',tm,R,hlen,hi,hcr,htm,h=>by
  cases rs with
  | nil=>simp at hlen
  | cons r rs =>
   simp only[zai] at h
   cases h1:zhi (erF X) r with
   | none=>simp [h1] at h
   | some X1 =>
    simp only[h1,po] at h
    obtain⟨XL1,rg1,x,e1,R1,e2,e3,e4⟩:=zrk R (hcr 0 rv r rfl rfl) h1 tm htm
    have hlim:i+1≤400:=by simp at hi;omega
    have R2:=R1.moveR (RS+1+i) H (by unfold RS;omega) (by unfold RS H;omega)
    subst e1
    have hE:((erF XL1).set (100 * (RS+1+i)) (erF XL1 (100 * H)).2).set (100 * H) .non=erF ((XL1.set (100 * (RS+1+i)) (XL1 (100 * H)).2).set (100 * H) .non):=by rw[z03,z03];rfl
    rw[hE] at h
    obtain⟨XL,rg',xs,f1,f2,f3,f4,f5,f6⟩:=zf5 rvs rs (i+1) _ _ X' tm R2 (by simpa using hlen) (by simp at hi;omega) (fun j rv r h1 h2=>hcr (j+1) rv r (by simpa using h1) (by simpa using h2))
     (fun t ht=>by
      have h9:=C.hnt
      simp only[show t ≠ RS+1+i from by unfold RS;omega,if_false]
      rw[e3 t (.inl (by unfold H;omega))];exact htm t ht) h
    refine⟨XL,rg',x :: xs,f1,f2,by simp[f3],fun j y hy=>?_,fun t ht1 ht2=>?_,fun j rv' y h1 h2=>?_⟩
    ·cases j with
     | zero =>
      simp at hy;subst hy
      rw[sx,f5 _ (by omega) (by omega)]
      simp[e2]
     | succ j =>
      simp at hy
      have:=f4 j y hy
      rwa [show RS+1+i+(j+1)=RS+1+(i+1)+j by omega]
    ·rw[f5 t ht1 (by omega)]
     simp only[show t ≠ RS+1+i from by omega,if_false]
     exact e3 t (.inr (by omega))
    ·cases j with
     | zero=>simp at h1 h2;subst h1 h2;exact e4
     | succ j=>exact f6 j rv' y (by simpa using h1) (by simpa using h2)
theorem zvo (R:RelL C X β I rg w){fn:Func}{rs:List CRV}{X':XF Unit}{tm:Array Value}(hlen:fn.results.toList.length=rs.length)(h400:rs.length≤400)
  (hcr:∀ (j:Nat) (rv:ResultVar) (r:CRV),fn.results.toList[j]?=some rv→rs[j]?=some r→zc2 C.P C.nt rv r) (htm:∀ t,t < C.nt→tm.getD t undef=rg t) (h:zty (erF X) rs=some X') :
  ∃ XL rg' x,erF XL=X'∧RelL C XL β I rg' w∧rg' RS=x∧(results fn tm).run C.P w=.ok x w:=by
 simp only[zty,pg] at h
 obtain⟨X1,h1,h2⟩:=h
 obtain⟨XL,rg1,xs,e1,R1,e2,e3,_,e5⟩:=zf5 fn.results.toList rs 0 X rg X1 tm R hlen (by omega) hcr htm h1
 have hrun:(results fn tm).run C.P w=.ok (if h:xs.toArray.size=1 then xs.toArray[0] else .tuple xs.toArray) w:=by
  rw[zl2,← Array.toArray_toList (xs:=fn.results),List.mapM_toArray]
  have:=z94 (P:=C.P) (w:=w) (zce tm) fn.results.toList xs (by omega) (fun i r x h1 h2=>e5 i r x h1 h2)
  simp only[qk,Sem.run_map,this,qg,s4]
 by_cases h1':rs.length=1
 ·have R2:=R1.moveR RS (RS+1) (by decide) (by decide)
  refine⟨_,_,_,?_,R2,rfl,?_⟩
  ·rw[z03,z03,← h2,zdg,if_pos h1',← e1];rfl
  ·have hx1:xs.length=1:=by omega
   rw[hrun]
   obtain⟨y,rfl⟩:∃ y,xs=[y]:=by
    match xs,hx1 with
    | [y],_=>exact ⟨y,rfl⟩
   have:=e3 0 y rfl
   simp only[sx] at this
   simp[this]
 ·refine⟨clr (XL.set (100 * RS) (.tuple (z2p XL (RS+1) rs.length))) (RS+1) rs.length,_,_,?_,zky R1 RS (RS+1) rs.length (by decide) (fun j _=>by omega),rfl,?_⟩
  ·rw[zmv,z03,← h2,zdg,if_neg h1',← e1]
   congr 2
   simp only[er,z0f,z2p,rr]
   congr 1
  ·rw[hrun]
   have hne:xs.length ≠ 1:=by omega
   simp only[t7,hne,dif_neg,not_false_eq_true,if_true]
   congr 3
   apply rf
   intro j
   by_cases hj:j < rs.length
   ·have hj':xs[j]?=some xs[j]:=pi (by omega)
    have:=e3 j _ hj'
    simp only[sx] at this
    simp[hj,hj',this]
   ·simp[z23 hj,qi (by omega:xs.length≤j)]
theorem RelL.nt {C':Ctx}(R:RelL C X β I rg w)(h1:C'.w0=C.w0)(h2:C'.K=C.K)(h3:C'.I0=C.I0)(h4:C'.β0=C.β0)(h5:C'.rg0=C.rg0):RelL C' X β I rg w :=
 ⟨R.reg,R.key,R.disj,R.imm,by rw[h1,h2];exact R.frK,by rw[h1,h2,h3];exact R.frI,by rw[h3];exact R.frI0,by rw[h1,h2];exact R.fr,by rw[h4];exact R.gh,by rw[h5];exact R.gr⟩
end
theorem np {P:Program}{f:FuncId}{fn:Func}{c:Code}{gs gs':List (Gh Unit)}{as:List AU}{r:AU}{rs:List CRV}(hf:P.funcs[f]?=some fn)(hb:fn.body=some c)(hn:fn.ntmps≤9000)
  (ha:as.length≤fn.ntmps) (hlen:fn.results.toList.length=rs.length) (h400:rs.length≤400)
  (hcr:∀ (j:Nat) (rv:ResultVar) (r:CRV),fn.results.toList[j]?=some rv→rs[j]?=some r→zc2 P fn.ntmps rv r)
  (h:∀ C:Ctx,C.P=P→C.nt=fn.ntmps→AWp C c (z8i gs as) fun e X=>(e=.nrm∨e=.ret)∧∃ X',zty X rs=some X'∧Fin X' gs' r):Fn P f gs as gs' r:=by
 intro C XL β I rg w args hP he R hsz hargs
 subst hP
 let C':Ctx:={ C with nt:=fn.ntmps,hnt:=hn }
 have R':RelL C' XL β I rg w:=R.nt rfl rfl rfl rfl rfl
 refine calls_of_wp hf hb ?_
 refine wp_mono (h C' rfl rfl { tmps:=args ++ Array.replicate (fn.ntmps - args.size) undef,defers:=[] } w rfl ?_) fun e a w' hq=>?_
 ·-- the registers behind the arguments hold nothing that is known
  let rg1:Nat→Value:=fun t=>if t < as.length then rg t else if t < fn.ntmps then undef else rg t
  refine⟨XL,β,I,rg1,he,⟨fun t=>?_,R'.key,R'.disj,R'.imm,R'.frK,R'.frI,R'.frI0,R'.fr,R'.gh,fun t ht=>?_⟩,by show (args ++ Array.replicate (fn.ntmps - args.size) undef).size=fn.ntmps;simp;omega,fun t ht=>?_⟩
  ·have hr:=R'.reg t
   by_cases h1:t < as.length
   ·simpa only [rg1,h1,if_true] using hr
   ·by_cases h2:t < fn.ntmps
    ·have hnon:(XL (100 * t)).2=.non:=by
      have hk:=congrFun he (100 * t)
      have hk2:=congrArg Prod.snd hk
      simp only[erF,z8i,zf4] at hk2
      rw[if_pos (by omega),if_pos (by omega),show 100 * t / 100=t by omega,ph,qi (show as.length≤t by omega)] at hk2
      simp only[Option.getD_none] at hk2
      cases hx:(XL (100 * t)).2<;>simp [hx,er] at hk2<;>rfl
     rw[hnon];simp[RR]
    ·simpa only [rg1,h1,h2,if_false] using hr
  ·have h1:¬ t < as.length:=by omega
   have h2:¬ t < fn.ntmps:=by omega
   simp only[rg1,h1,h2,if_false]
   exact R'.gr t ht
  ·have ht':t < fn.ntmps:=ht
   by_cases h1:t < as.length
   ·simp only[rg1,h1,if_true]
    rw[← hargs t h1]
    simp[pn,s8 (show t < args.size by omega)]
   ·simp only[rg1,h1,ht',if_false,if_true]
    rw[pn,ta (by omega),tg]
    split<;>rfl
 ·have key:∀ X,a.defers=[]→RelT C' X a.tmps w'→(∃ X',zty X rs=some X'∧Fin X' gs' r)→a.defers=[]∧∃ v,(results fn a.tmps).run C.P w'=.ok v w' ∧
    ∃ x XL' β' I' rg',Ending.returned v=.returned x∧RelL C XL' β' I' rg' w'∧rg' RS=x∧Fin (erF XL') gs' r:=by
   rintro X hd ⟨XL1,β1,I1,rg1,e1,R1,hs1,ht1⟩ ⟨X',g1,g2⟩
   subst e1
   obtain⟨XL2,rg2,x,f1,f2,f3,f4⟩:=zvo (fn:=fn) R1 hlen h400 hcr ht1 g1
   exact⟨hd,x,f4,x,XL2,β1,I1,rg2,rfl,f2.nt rfl rfl rfl rfl rfl,f3,by rw[f1];exact g2⟩
  cases e with
  | normal=>obtain ⟨hd,X,hr,_,hx⟩:=hq;exact key X hd hr hx
  | ret=>obtain ⟨hd,X,hr,_,hx⟩:=hq;exact key X hd hr hx
  | exit id=>obtain ⟨_,X,_,hx,_⟩:=hq;rcases hx with hx | hx<;>cases hx
  | goto l=>exact hq.elim
  | panic ch=>exact hq.elim
  | outgrown=>exact hq.elim
mutual
def z17 {L:Type}:AV L→Bool
 | .sl o _ _ _ cs=>o && z1v cs
 | .bx o _ cs=>o && z1v cs
 | .vptr _ _=>false
 | .agg cs=>z1v cs
 | .tuple cs=>z1v cs
 | .clos _ cs=>z1v cs
 | _=>true
def z1v {L:Type}:List (AV L)→Bool
 | []=>true
 | c :: cs=>z17 c && z1v cs
end
mutual
theorem z9t:∀ v:AL,z17 (er v)=z17 v
 | .agg cs=>by simp only[er,z17];exact z55 cs
 | .tuple cs=>by simp only[er,z17];exact z55 cs
 | .clos _ cs=>by simp only[er,z17];exact z55 cs
 | .sl _ _ _ _ cs=>by simp only[er,z17];rw[z55 cs]
 | .bx _ _ cs=>by simp only[er,z17];rw[z55 cs]
 | .sc _ | .view _ _ _ _ _ | .ptr _ _ _ _ | .bptr _ _ _ | .vptr _ _ | .dead | .non=>by simp[er,z17]
theorem z55:∀ vs:List AL,z1v (erL vs)=z1v vs
 | []=>rfl
 | v :: vs=>by simp only[erL,z1v,z9t v,z55 vs]
end
mutual
theorem zaj {w:World}{I I':z12}:∀ (v:AL),z17 v=true→Mem w I v→Mem w I' v
 | .sl own none sz n cs,_,h=>by simpa [Mem] using h
 | .sl true (some l) sz n cs,hn,h=>by
  simp only[z17,Bool.true_and] at hn
  simp only[Mem] at h ⊢
  exact⟨h.1,h.2.1,z8j cs l.b l.o hn h.2.2⟩
 | .sl false (some l) sz n cs,hn,_=>by simp[z17] at hn
 | .bx true (some l) cs,hn,h=>by
  simp only[z17,Bool.true_and] at hn
  simp only[Mem] at h ⊢
  exact z8j cs l.b l.o hn h
 | .bx false (some l) cs,hn,_=>by simp[z17] at hn
 | .bx own none cs,_,h=>by simp[Mem] at h
 | .vptr _ _,hn,_=>by simp[z17] at hn
 | .agg cs,hn,h=>by simp only[z17,Mem] at hn h ⊢;exact z6a cs hn h
 | .tuple cs,hn,h=>by simp only[z17,Mem] at hn h ⊢;exact z6a cs hn h
 | .clos _ cs,hn,h=>by simp only[z17,Mem] at hn h ⊢;exact⟨z6a cs hn h.1,h.2⟩
 | .sc _,_,_ | .view _ _ _ _ _,_,_ | .ptr _ _ _ _,_,_ | .bptr _ _ _,_,_ | .dead,_,_ | .non,_,_=>by simp[Mem]
theorem z8j {w:World}{I I':z12}:∀ (cs:List AL) (b o:Nat),z1v cs=true→z3k w I true cs b o→z3k w I' true cs b o
 | [],_,_,_,_=>by simp[z3k]
 | c :: cs,b,o,hn,h=>by
  simp only[z1v,pm] at hn
  simp only[z3k] at h ⊢
  exact⟨h.1,zaj c hn.1 h.2.1,fun e=>by simp at e,z8j cs b (o+1) hn.2 h.2.2.2⟩
theorem z6a {w:World}{I I':z12}:∀ (cs:List AL),z1v cs=true→z2l w I cs→z2l w I' cs
 | [],_,_=>by simp[z2l]
 | c :: cs,hn,h=>by
  simp only[z1v,pm] at hn
  simp only[z2l] at h ⊢
  exact⟨zaj c hn.1 h.1,z6a cs hn.2 h.2⟩
end
mutual
def z1p {L:Type}:AV L→AV L
 | .sl _ l s n cs=>.sl false l s n (z0x cs)
 | .bx _ l cs=>.bx false l (z0x cs)
 | .agg cs=>.agg (z0x cs)
 | .tuple cs=>.tuple (z0x cs)
 | v=>v
def z0x {L:Type}:List (AV L)→List (AV L)
 | []=>[]
 | c :: cs=>z1p c :: z0x cs
end
theorem z3n {L:Type}(cs:List (AV L)):z0x cs=cs.map z1p:=by
 induction cs with
 | nil=>rfl
 | cons c cs ih=>simp [z0x,ih]
mutual
theorem zn0:∀ v:AL,er (z1p v)=z1p (er v)
 | .agg cs=>by simp only[er,z1p];rw[z5d cs]
 | .tuple cs=>by simp only[er,z1p];rw[z5d cs]
 | .sl _ _ _ _ cs=>by simp only[er,z1p];rw[z5d cs]
 | .bx _ _ cs=>by simp only[er,z1p];rw[z5d cs]
 | .clos _ _ | .sc _ | .view _ _ _ _ _ | .ptr _ _ _ _ | .bptr _ _ _ | .vptr _ _ | .dead | .non=>by simp[er,z1p]
theorem z5d:∀ vs:List AL,erL (z0x vs)=z0x (erL vs)
 | []=>rfl
 | v :: vs=>by simp only[erL,z0x,zn0 v,z5d vs]
end
theorem z8k {v:AL}{x:Value}(h:CR v x):CR (z1p v) x:=by
 cases v with
 | sl o l s n cs =>
  cases l with
  | none =>
   simp only[CR] at h
   simp only[z1p,CR,true_and]
   exact⟨h.1.elim .inl (fun e=>.inr e.2),h.2⟩
  | some l=>simpa [z1p,CR] using h
 | bx o l cs =>
  cases l with
  | none=>simp [CR] at h
  | some l=>simpa [z1p,CR] using h
 | agg cs=>simp [CR] at h
 | tuple cs=>simp [CR] at h
 | _=>simpa [z1p] using h
mutual
theorem zak:∀ (v:AL) (b o:Nat),¬ fp (z1p v) b o
 | .agg cs,b,o,h=>by simp only[z1p,fp] at h;exact zdh cs b o h
 | .tuple cs,b,o,h=>by simp only[z1p,fp] at h;exact zdh cs b o h
 | .sl _ _ _ _ cs,b,o,h=>by simp[z1p,fp] at h
 | .bx _ _ cs,b,o,h=>by simp[z1p,fp] at h
 | .clos _ _,_,_,h | .sc _,_,_,h | .view _ _ _ _ _,_,_,h | .ptr _ _ _ _,_,_,h | .bptr _ _ _,_,_,h | .vptr _ _,_,_,h | .dead,_,_,h | .non,_,_,h=>by simp[z1p,fp] at h
theorem zdh:∀ (vs:List AL) (b o:Nat),¬ fpL (z0x vs) b o
 | [],_,_,h=>by simp[z0x,fpL] at h
 | v :: vs,b,o,h=>by
  simp only[z0x,fpL] at h
  exact h.elim (zak v b o) (zdh vs b o)
end
mutual
/-- What is owned may be read as what is never written, as long as it is lent. -/
theorem z7f {w:World}{I I':z12}:∀ (v:AL),Mem w I v→(∀ b o,I b o→I' b o)→(∀ b o,fp v b o→I' b o)→Mem w I' (z1p v)
 | .sl own none sz n cs,h,_,_=>by simp only[Mem] at h;simp[z1p,Mem,h.1,h.2,z0x]
 | .sl true (some l) sz n cs,h,hi,hf=>by
  simp only[Mem] at h
  simp only[z1p,Mem]
  refine⟨by rw[z3n];simpa using h.1,h.2.1,z49 true cs l.b l.o h.2.2 hi (fun b o hb=>hf b o (by simp[fp,hb])) (fun _ i hlt=>hf _ _ ?_)⟩
  simp only[fp]
  have:=sn sz h.2.1
  exact .inl ⟨trivial,by omega,by omega⟩
 | .sl false (some l) sz n cs,h,hi,hf=>by
  simp only[Mem] at h
  simp only[z1p,Mem]
  exact⟨by rw[z3n];simpa using h.1,h.2.1,z49 false cs l.b l.o h.2.2 hi (fun b o hb=>by
   obtain⟨c,hc,hcb⟩:=z04.1 hb
   obtain⟨i,hi'⟩:=pq hc
   exact absurd hcb (((z0e.1 h.2.2 i c hi').2.2 rfl).2 b o)) (fun e=>by simp at e)⟩
 | .bx true (some l) cs,h,hi,hf=>by
  simp only[Mem] at h
  simp only[z1p,Mem]
  exact z49 true cs l.b l.o h hi (fun b o hb=>hf b o (by simp[fp,hb])) (fun _ i hlt=>hf _ _ (by simp only[fp];exact .inl ⟨trivial,by omega,by omega⟩))
 | .bx false (some l) cs,h,hi,hf=>by
  simp only[Mem] at h
  simp only[z1p,Mem]
  exact z49 false cs l.b l.o h hi (fun b o hb=>by
   obtain⟨c,hc,hcb⟩:=z04.1 hb
   obtain⟨i,hi'⟩:=pq hc
   exact absurd hcb (((z0e.1 h i c hi').2.2 rfl).2 b o)) (fun e=>by simp at e)
 | .bx own none cs,h,_,_=>by simp[Mem] at h
 | .vptr (some l) cs,h,hi,hf=>by
  simp only[Mem] at h
  simp only[z1p,Mem]
  refine z0e.2 fun i c hc=>?_
  have:=z0e.1 h i c hc
  exact⟨this.1,z4r c this.2.1 hi,fun e=>⟨hi _ _ (this.2.2 e).1,(this.2.2 e).2⟩⟩
 | .vptr none cs,h,_,_=>by simp[Mem] at h
 | .agg cs,h,hi,hf=>by
  simp only[Mem] at h
  simp only[z1p,Mem]
  exact zal cs h hi (fun b o hb=>hf b o (by simpa [fp] using hb))
 | .tuple cs,h,hi,hf=>by
  simp only[Mem] at h
  simp only[z1p,Mem]
  exact zal cs h hi (fun b o hb=>hf b o (by simpa [fp] using hb))
 | .clos f cs,h,hi,_=>by
  simp only[Mem] at h
  simp only[z1p,Mem]
  exact⟨z0k.2 fun c hc=>z4r c (z0k.1 h.1 c hc) hi,h.2⟩
 | .sc _,_,_,_ | .view _ _ _ _ _,_,_,_ | .ptr _ _ _ _,_,_,_ | .bptr _ _ _,_,_,_ | .dead,_,_,_ | .non,_,_,_=>by simp[z1p,Mem]
theorem z49 {w:World}{I I':z12}(own:Bool):∀ (cs:List AL) (b o:Nat),z3k w I own cs b o→(∀ b o,I b o→I' b o)→(∀ b o,fpL cs b o→I' b o)→(own=true→∀ i,i < cs.length→I' b (o+i))→z3k w I' false (z0x cs) b o
 | [],_,_,_,_,_,_=>by simp[z0x,z3k]
 | c :: cs,b,o,h,hi,hf,ha=>by
  simp only[z3k] at h
  simp only[z0x,z3k]
  obtain⟨⟨y,hy,hc⟩,hm,hn,hr⟩:=h
  refine⟨⟨y,hy,z8k hc⟩,z7f c hm hi (fun b o hb=>hf b o (by simp[fpL,hb])),fun _=>⟨?_,fun b' o'=>zak c b' o'⟩,z49 own cs b (o+1) hr hi (fun b o hb=>hf b o (by simp[fpL,hb])) (fun e i hlt=>?_)⟩
  ·cases own with
   | true=>simpa using ha rfl 0 (by simp)
   | false=>exact hi _ _ (hn rfl).1
  ·have:=ha e (i+1) (by simp;omega)
   rwa [qq,Nat.add_comm 1 i]
theorem zal {w:World}{I I':z12}:∀ (cs:List AL),z2l w I cs→(∀ b o,I b o→I' b o)→(∀ b o,fpL cs b o→I' b o)→z2l w I' (z0x cs)
 | [],_,_,_=>by simp[z0x,z2l]
 | c :: cs,h,hi,hf=>by
  simp only[z2l] at h
  simp only[z0x,z2l]
  exact⟨z7f c h.1 hi (fun b o hb=>hf b o (by simp[fpL,hb])),zal cs h.2 hi (fun b o hb=>hf b o (by simp[fpL,hb]))⟩
theorem z4r {w:World}{I I':z12}:∀ (v:AL),Mem w I v→(∀ b o,I b o→I' b o)→Mem w I' v :=
 fun v h hi=>z19 v h (fun _ _ _=>rfl) (fun b o hb=>⟨rfl,hi b o hb⟩)
end
structure Lent where
 k:Nat
 p:List Nat
 N:AL
 N':AL
structure LentOk (X:XF LO) (I':z12) (w':World) (K0:z12) (B:Nat) (e:Lent):Prop where
 get:z0o (X e.k).2 e.p=some e.N
 node:e.N.isNode=true
 own:z4k (X e.k).2 e.p=true
 hdr:∀ y,CR e.N y→CR e.N' y
 mem:Mem w' I' e.N'
 sep:Sep e.N'
 fps:∀ b o,fp e.N' b o→(K0 b o∨B≤b)∧b < w'.heap.size∧w'.fz b o=false∧(w'.at b o).isSome∧¬ I' b o
def zf6 (X:XF LO):List Lent→XF LO
 | []=>X
 | e :: l=>(zf6 X l).set e.k (z0z (X e.k).2 e.p e.N')
theorem zhj {X:XF LO}{l:List Lent}{k:Nat}(h:∀ e ∈ l,e.k ≠ k):zf6 X l k=X k:=by
 induction l with
 | nil=>rfl
 | cons e l ih =>
  simp only[zf6]
  rw[w9 _ _ (Ne.symm (h e (by simp))),ih fun e he=>h e (by simp[he])]
theorem z6v {X:XF LO}:∀ {l:List Lent} {e:Lent},e ∈ l→(l.map (·.k)).Nodup→zf6 X l e.k=(nx (X e.k),z0z (X e.k).2 e.p e.N')
 | a :: l,e,he,hn=>by
  simp only[List.map_cons,List.nodup_cons] at hn
  simp only[zf6]
  rcases qj.1 he with rfl | he
  ·have hne:∀ a ∈ l,a.k ≠ e.k:=fun a ha h=>hn.1 (by rw[← h];exact s9 ha)
   rw[wa,zhj hne]
  ·have hne:e.k ≠ a.k:=fun h=>hn.1 (by rw[← h];exact s9 he)
   rw[w9 _ _ hne,z6v he hn.2]
theorem zf7:∀ {l:List Lent},(l.map (·.k)).Nodup→∀ {e f:Lent},e ∈ l→f ∈ l→e.k=f.k→e=f
 | a :: l,hn,e,f,he,hf,hk=>by
  simp only[List.map_cons,List.nodup_cons] at hn
  rcases qj.1 he with e1 | e1
  ·rcases qj.1 hf with f1 | f1
   ·rw[e1,f1]
   ·exact absurd (by rw[← e1,hk];exact s9 f1) hn.1
  ·rcases qj.1 hf with f1 | f1
   ·exact absurd (by rw[← f1,← hk];exact s9 e1) hn.1
   ·exact zf7 hn.2 e1 f1 hk
theorem zcf (X:XF LO) (β:Nat→Nat × Nat):∀ l:List Lent,Keeps X (zf6 X l) β β
 | []=>Keeps.refl X β
 | e :: l=>(zcf X β l).trans (z05 _ β _ _)
theorem RelL.comeback {C:Ctx}{X:XF LO} {β:Nat→Nat × Nat}{I I':z12}{rg:Nat→Value}{w w':World}(R:RelL C X β I rg w)(l:List Lent)(hn:(l.map (·.k)).Nodup)
  (K0:z12) (hl:∀ e ∈ l,LentOk X I' w' K0 w.heap.size e) (hK:∀ b o,K0 b o→∃ e ∈ l,fp e.N b o)
  (hpw:∀ e ∈ l,∀ f ∈ l,e.k ≠ f.k→∀ b o,fp e.N' b o→fp f.N' b o→False)
  (hw:Frame K0 w w') (hI:∀ b o,I b o→I' b o) (hI':∀ b o,I' b o→I b o∨(b < w'.heap.size∧(K0 b o∨w.heap.size≤b))) :
  RelL C (zf6 X l) β I' rg w':=by
 have hk0:∀ e ∈ l,∀ b o,fp e.N b o→fp (X e.k).2 b o:=fun e he b o hb=>(zmd e.p (X e.k).2 (R.key e.k).mem (R.key e.k).sep (hl e he).own (hl e he).get).sub b o hb
 have hK':∀ b o,K0 b o→∃ e ∈ l,kfp β X e.k b o:=fun b o hb=>by
  obtain⟨e,he,hb⟩:=hK b o hb
  exact⟨e,he,.inl (hk0 e he b o hb)⟩
 -- what of a key's own is written lies in its lent node
 have hKk:∀ e ∈ l,∀ b o,kfp β X e.k b o→K0 b o→fp e.N b o:=by
  intro e he b o hb hk
  obtain⟨f,hf,hfb⟩:=hK b o hk
  by_cases hef:e.k=f.k
  ·have:e=f:=zf7 hn he hf hef
   rw[this];exact hfb
  ·exact (R.disj e.k f.k hef b o hb (.inl (hk0 f hf b o hfb))).elim
 refine R.change (fun k=>∃ e ∈ l,e.k=k) ?_ (zcf X β l) (fun _ _ _=>.inl rfl) (fun _ _=>rfl) (fun _ _=>rfl) ?_ ?_ ?_ ?_ hI ?_ (hw.mono fun b o _ hb=>by
   obtain⟨e,he,hb⟩:=hK' b o hb
   exact⟨e.k,⟨e,he,rfl⟩,hb⟩)
 ·intro k hk;exact zhj fun e he h=>hk ⟨e,he,h⟩
 ·rintro t ⟨e,he,hek⟩
  have L:=hl e he
  rw[← hek,z6v he hn]
  have hreg:=R.reg t
  rw[← hek] at hreg
  have hnode:=z1m L.get L.node
  have hcr:CR (X e.k).2 (rg t):=by
   generalize (X e.k).2=V at hreg hnode
   cases V<;>simp [AV.isNode] at hnode<;>simpa [RR] using hreg
  by_cases hp:e.p=[]
  ·have hg:=L.get
   rw[hp] at hg ⊢
   simp only[z0o,pe] at hg
   simp only[z0z]
   exact z2s (L.hdr _ (hg ▸ hcr))
  ·exact z2s ((z6t hp).2 hcr)
 ·rintro k ⟨e,he,rfl⟩
  have L:=hl e he
  have hkey:=R.key e.k
  have r:=zmd e.p (X e.k).2 hkey.mem hkey.sep L.own L.get
  have hx:=z6v (X:=X) he hn
  have hnon:(X e.k).2 ≠ .non:=z1w (z1m L.get L.node)
  have hdisN:∀ b o,fp e.N' b o→kfp β X e.k b o→fp e.N b o:=by
   intro b o h1 h2
   rcases (L.fps b o h1).1 with h | h
   ·exact hKk e he b o h2 h
   ·have:=(hkey.live b o h2).1;omega
  have hkfp:∀ b o,kfp β (zf6 X l) e.k b o→(kfp β X e.k b o∧¬ fp e.N b o)∨fp e.N' b o:=by
   intro b o hb
   rcases hb with hb | ⟨h1,_,h3⟩
   ·rw[hx] at hb
    rcases r.fps e.N' b o hb with h | h
    ·exact .inl ⟨.inl h.1,h.2⟩
    ·exact .inr h
   ·refine .inl ⟨.inr ⟨h1,hnon,h3⟩,fun h=>(hkey.cell h1 hnon).2 ?_⟩
    have:=r.sub b o h
    rwa [h3.1,h3.2] at this
  have hsame:∀ b o,kfp β X e.k b o→¬ fp e.N b o→w'.at b o=w.at b o:=fun b o h1 h2=>hw.cell b o (hkey.live b o h1).1 (fun h=>h2 (hKk e he b o h1 h))
  refine⟨?_,?_,?_,?_,fun h99=>absurd (hkey.last h99) hnon⟩
  ·rw[hx]
   refine r.mems e.N' w' I' L.mem (fun b o hb=>?_) (fun b o h1 h2 _=>hsame b o (.inl h1) h2) (fun b o hb=>⟨?_,hI b o hb⟩)
   ·by_cases hp:e.p=[]
    ·rw[hp] at hb;simp[zey] at hb
    ·obtain⟨b',o',y,h1,h2,h3,h4,h5⟩:=r.ad hp
     rw[hb] at h1;cases h1
     exact⟨y,by rw[hsame b o (.inl h2) h3];exact h4,L.hdr y h5⟩
   ·exact hw.cell b o (R.imm b o hb).1 (fun h=>by
     obtain⟨f,hf,hfb⟩:=hK' b o h
     exact (R.imm b o hb).2 _ hfb)
  ·rw[hx];exact r.seps e.N' L.sep (fun b o h1 h2=>hdisN b o h1 (.inl h2))
  ·intro hc _
   obtain⟨⟨y,hy,hcy⟩,hnf⟩:=hkey.cell hc hnon
   have hcy:=hcy.cr (zhd (z1m L.get L.node))
   have hA:kfp β X e.k (β (e.k / 100)).1 ((β (e.k / 100)).2+(e.k % 100 - 1)):=.inr ⟨hc,hnon,rfl,rfl⟩
   have hAN:¬ fp e.N (β (e.k / 100)).1 ((β (e.k / 100)).2+(e.k % 100 - 1)):=fun h=>hnf (r.sub _ _ h)
   rw[hx]
   refine⟨⟨y,by rw[hsame _ _ hA hAN];exact hy,.inl ?_⟩,fun h=>?_⟩
   ·by_cases hp:e.p=[]
    ·have hg:=L.get
     rw[hp] at hg ⊢
     simp only[z0o,pe] at hg
     simp only[z0z]
     exact L.hdr _ (hg ▸ hcy)
    ·exact (z6t hp).2 hcy
   ·rcases r.fps e.N' _ _ h with h' | h'
    ·exact hnf h'.1
    ·exact hAN (hdisN _ _ h' hA)
  ·intro b o hb
   rcases hkfp b o hb with ⟨h1,_⟩ | h1
   ·obtain⟨l1,l2,l3⟩:=hkey.live b o h1
    exact⟨qo l1 hw.size,by rw[hw.fz b o l1 l3];exact l2,by rw[hw.some b o l1];exact l3⟩
   ·have:=L.fps b o h1;exact⟨this.2.1,this.2.2.1,this.2.2.2.1⟩
 ·-- no address twice
  have hcase:∀ e ∈ l,∀ b o,kfp β (zf6 X l) e.k b o→(kfp β X e.k b o∧¬ fp e.N b o)∨fp e.N' b o:=by
   intro e he b o hb
   have L:=hl e he
   have hkey:=R.key e.k
   have r:=zmd e.p (X e.k).2 hkey.mem hkey.sep L.own L.get
   have hnon:(X e.k).2 ≠ .non:=z1w (z1m L.get L.node)
   rcases hb with hb | ⟨h1,_,h3⟩
   ·rw[z6v he hn] at hb
    rcases r.fps e.N' b o hb with h | h
    ·exact .inl ⟨.inl h.1,h.2⟩
    ·exact .inr h
   ·refine .inl ⟨.inr ⟨h1,hnon,h3⟩,fun h=>(hkey.cell h1 hnon).2 ?_⟩
    have:=r.sub b o h
    rwa [h3.1,h3.2] at this
  have hmix:∀ e ∈ l,∀ f ∈ l,e.k ≠ f.k→∀ b o,kfp β X e.k b o→¬ fp e.N b o→fp f.N' b o→False:=by
   intro e he f hf hne b o h1 h2 h3
   rcases ((hl f hf).fps b o h3).1 with h | h
   ·exact h2 (hKk e he b o h1 h)
   ·have:=((R.key e.k).live b o h1).1;omega
  rintro k k' ⟨e,he,rfl⟩ ⟨f,hf,rfl⟩ hne b o h1 h2
  rcases hcase e he b o h1 with ⟨g1,g2⟩ | g1
  ·rcases hcase f hf b o h2 with ⟨g3,g4⟩ | g3
   ·exact R.disj e.k f.k hne b o g1 g3
   ·exact hmix e he f hf hne b o g1 g2 g3
  ·rcases hcase f hf b o h2 with ⟨g3,g4⟩ | g3
   ·exact hmix f hf e he (Ne.symm hne) b o g3 g4 g1
   ·exact hpw e he f hf hne b o g1 g3
 ·rintro k ⟨e,he,rfl⟩ b o hb
  have L:=hl e he
  have hkey:=R.key e.k
  have r:=zmd e.p (X e.k).2 hkey.mem hkey.sep L.own L.get
  have hnon:(X e.k).2 ≠ .non:=z1w (z1m L.get L.node)
  rcases hb with hb | ⟨h1,_,h3⟩
  ·rw[z6v he hn] at hb
   rcases r.fps e.N' b o hb with h | h
   ·exact .inl ⟨e.k,⟨e,he,rfl⟩,.inl h.1⟩
   ·rcases (L.fps b o h).1 with h' | h'
    ·obtain⟨f,hf,hfb⟩:=hK' b o h'
     exact .inl ⟨f.k,⟨f,hf,rfl⟩,hfb⟩
    ·exact .inr h'
  ·exact .inl ⟨e.k,⟨e,he,rfl⟩,.inr ⟨h1,hnon,h3⟩⟩
 ·intro b o hb
  rcases hI' b o hb with h | ⟨h1,h2⟩
  ·exact .inl h
  ·refine .inr ⟨h1,?_,?_⟩
   ·rcases h2 with h2 | h2
    ·obtain⟨f,hf,hfb⟩:=hK' b o h2
     exact .inl ⟨f.k,⟨f,hf,rfl⟩,hfb⟩
    ·exact .inr h2
   ·rintro k ⟨e,he,rfl⟩ hkb
    have L:=hl e he
    have hkey:=R.key e.k
    have r:=zmd e.p (X e.k).2 hkey.mem hkey.sep L.own L.get
    have hnon:(X e.k).2 ≠ .non:=z1w (z1m L.get L.node)
    have hold:kfp β X e.k b o→¬ fp e.N b o→False:=by
     intro g1 g2
     rcases h2 with h2 | h2
     ·exact g2 (hKk e he b o g1 h2)
     ·have:=(hkey.live b o g1).1;omega
    rcases hkb with hkb | ⟨g1,_,g3⟩
    ·rw[z6v he hn] at hkb
     rcases r.fps e.N' b o hkb with g | g
     ·exact hold (.inl g.1) g.2
     ·exact (L.fps b o g).2.2.2.2 hb
    ·refine hold (.inr ⟨g1,hnon,g3⟩) (fun h=>(hkey.cell g1 hnon).2 ?_)
     have:=r.sub b o h
     rwa [g3.1,g3.2] at this
theorem z7g (cs:List AL):(z0x cs).map er=z0x (cs.map er):=by
 have:=z5d cs
 rwa [z0f,z0f] at this
def ztz (k:Nat)(p:List Nat):List (Nat × List Nat)→Option Nat
 | []=>none
 | e :: l=>if e.1=k∧e.2=p then some 0 else (ztz k p l).map (·+1)
theorem zam {k:Nat}{p:List Nat}:∀ {l:List (Nat × List Nat)} {j:Nat},ztz k p l=some j→l[j]?=some (k,p)
 | [],j,h=>by simp[ztz] at h
 | e :: l,j,h=>by
  simp only[ztz] at h
  split at h
  ·rename_i hc
   simp only[pe] at h
   subst h
   obtain⟨h1,h2⟩:=hc
   simp[← h1,← h2]
  ·cases hq:ztz k p l with
   | none=>simp [hq] at h
   | some i =>
    simp only[hq,px,pe] at h
    subst h
    simpa using zam hq
def z36 (j:Nat):Nat:=100 * (10000+j)
def z9g (ls:List (Nat × List Nat))(k:Nat):Bool:=(ls.map (·.1)).contains k
def z0s {L:Type}(X:XF L)(b i:Nat):Nat→List (AV L)
 | 0=>[]
 | n+1=>match (X (100 * b+1+i)).2 with
  | .non=>[]
  | .view _ _ _ _ _=>[]
  | .ptr _ _ _ _=>[]
  | .bptr _ _ _=>[]
  | v=>v :: z0s X b (i+1) n
mutual
/-- An operand's tree as the callee has it. 'own': may owned memory be lent to be read? 'k0': the key of the register that it stands in. -/
def trA (X:XF Unit)(ls:List (Nat × List Nat))(own:Bool)(k0:Nat):AU→Option AU
 | .sc x=>some (.sc x)
 | .sl o u s n cs=>if o=false then some (.sl false u s n cs) else if own=true∧z9g ls k0=false then some (.sl false () s n (z0x cs)) else if n=0∧cs.isEmpty=true then some (.sl false () s 0 []) else none
 | .bx o u cs=>if o=false then some (.bx false u cs) else none
 | .view k g p off len =>
  if (X k).1=g then
   match ztz k p ls with
   | some j=>some (.view (z36 j) 0 [] off len)
   | none=>match z0o (X k).2 p with
    | some (.sl o _ s _ cs)=>if o=false∨(own=true∧z9g ls k=false) then some (.sl false () s len (z0x ((cs.drop off).take (len * s)))) else none
    | _=>none
  else none
 | .ptr k g p i =>
  if (X k).1=g then
   match ztz k p ls with
   | some j=>match z0o (X k).2 p with
    | some (.bx _ _ _)=>some (.ptr (z36 j) 0 [] i)
    | some (.sl _ _ _ _ _)=>some (.ptr (z36 j) 0 [] i)
    | _=>none
   | none=>match z0o (X k).2 p with
    | some (.bx o _ cs)=>if o=false∨(own=true∧z9g ls k=false) then some (.vptr () (z0x (cs.drop i))) else none
    | some (.sl o _ s _ cs)=>if o=false∨(own=true∧z9g ls k=false) then some (.vptr () (z0x ((cs.drop i).take s))) else none
    | _=>none
  else none
 | .bptr b g i=>if own=true∧(X (100 * b+99)).1=g∧i≤98∧ls.all (fun e=>!decide (e.1 / 100=b))=true then some (.vptr () (z0x (z0s X b i (98 - i)))) else none
 | .vptr u cs=>some (.vptr u cs)
 | .agg vs=>(trL X ls own k0 vs).map .agg
 | .clos f caps=>(trL X ls own k0 caps).map (.clos f)
 | _=>none
def trL (X:XF Unit)(ls:List (Nat × List Nat))(own:Bool)(k0:Nat):List AU→Option (List AU)
 | []=>some []
 | v :: vs=>match trA X ls own k0 v,trL X ls own k0 vs with
  | some a,some as=>some (a :: as)
  | _,_=>none
end
def zn1:COd→Nat
 | .t n=>100 * n
 | .c _=>0
def z9u (X:XF Unit)(e:Nat × List Nat):Option (Gh Unit) :=
 if z4k (X e.1).2 e.2=true then
  match z0o (X e.1).2 e.2 with
  | some (.sl true _ s n cs)=>some (.nod (.sl true () s n cs))
  | some (.bx true _ cs)=>some (.nod (.bx true () cs))
  | _=>none
 else none
def z3r:Gh Unit→AU
 | .nod v=>v
 | .box cs=>.bx true () cs
def z5o:Gh Unit→Bool
 | .nod v=>z17 v
 | .box cs=>z1v cs
section
variable {C:Ctx} {X:XF LO} {β:Nat→Nat × Nat} {I:z12} {rg:Nat→Value} {w:World}
theorem zvp (R:RelL C X β I rg w){e:Nat × List Nat}{g:Gh Unit}(h:z9u (erF X) e=some g) :
  ∃ N,z0o (X e.1).2 e.2=some N∧N.isNode=true∧z4k (X e.1).2 e.2=true∧Mem w I N∧Sep N∧(∀ b o,fp N b o→kfp β X e.1 b o) ∧
   ((∃ l s n cs,N=.sl true l s n cs∧g=.nod (.sl true () s n (cs.map er)))∨(∃ l cs,N=.bx true (some l) cs∧g=.nod (.bx true () (cs.map er)))):=by
 unfold z9u at h
 split at h
 ·rename_i hq
  have hq':z4k (X e.1).2 e.2=true:=by rw[← z8g];exact hq
  split at h
  ·rename_i s n cs hN
   simp only[pe] at h
   obtain⟨l,lcs,hN',hlcs⟩:=z5t hN
   have r:=zmd e.2 (X e.1).2 (R.key e.1).mem (R.key e.1).sep hq' hN'
   exact⟨_,hN',rfl,hq',r.mem,r.sep,fun b o hb=>.inl (r.sub b o hb),.inl ⟨l,s,n,lcs,rfl,by rw[hlcs,h]⟩⟩
  ·rename_i cs hN
   simp only[pe] at h
   obtain⟨l,lcs,hN',hlcs⟩:=zdf hN
   have r:=zmd e.2 (X e.1).2 (R.key e.1).mem (R.key e.1).sep hq' hN'
   cases l with
   | none=>have:=r.mem;simp[Mem] at this
   | some l=>exact ⟨_,hN',rfl,hq',r.mem,r.sep,fun b o hb=>.inl (r.sub b o hb),.inr ⟨l,lcs,rfl,by rw[hlcs,h]⟩⟩
  ·cases h
 ·cases h
theorem zhk {p:List Nat}:∀ {v u:AL},Mem w I v→z0o v p=some u→∀ b o,fp u b o→fp v b o:=by
 induction p with
 | nil=>intro v u _ hg b o hb;simp only[z0o,pe] at hg;exact hg ▸ hb
 | cons i p ih =>
  intro v u h hg b o hb
  simp only[z0o] at hg
  cases hc:v.cells? with
  | none=>simp [hc] at hg
  | some cs =>
   simp only[hc] at hg
   cases hi:cs[i]? with
   | none=>simp [hi] at hg
   | some c =>
    simp only[hi] at hg
    have hmem:=pj hi
    cases v with
    | sl o' l s n k =>
     simp only[AV.cells?,pe] at hc;subst hc
     cases l with
     | none=>simp [Mem] at h;simp[h.2] at hi
     | some l =>
      simp only[Mem] at h
      have hl:=(z0e.1 h.2.2) i c hi
      have hf:=ih hl.2.1 hg b o hb
      cases o' with
      | true=>simp only[fp];exact .inr (z04.2 ⟨c,hmem,hf⟩)
      | false=>exact absurd hf ((hl.2.2 rfl).2 b o)
    | bx o' l k =>
     simp only[AV.cells?,pe] at hc;subst hc
     cases l with
     | none=>simp [Mem] at h
     | some l =>
      simp only[Mem] at h
      have hl:=(z0e.1 h) i c hi
      have hf:=ih hl.2.1 hg b o hb
      cases o' with
      | true=>simp only[fp];exact .inr (z04.2 ⟨c,hmem,hf⟩)
      | false=>exact absurd hf ((hl.2.2 rfl).2 b o)
    | _=>simp [AV.cells?] at hc
theorem yn1 (R:RelL C X β I rg w){nt sz:Nat}{x:Operand}{c:COd}(h:compOd nt sz x=some c) :
  ∃ lv,er lv=rd (erF X) c∧RR X β lv (evR rg x)∧Mem w I lv∧(∀ b o,fp lv b o→kfp β X (zn1 c) b o):=by
 obtain⟨lv,h1,h2,h3,h4⟩:=zdd R h
 cases hp:lv.parts? with
 | none=>exact ⟨lv,h1,h2,h3,fun b o hb=>absurd hb (h4 hp b o)⟩
 | some ps =>
  cases x with
  | tmp t =>
   simp only[compOd] at h
   split at h
   ·cases h
    simp only[rd,erF] at h1
    cases hv:(X (100 * t)).2 with
    | sl o l s n cs =>
     rw[hv] at h1
     cases o<;>simp [er,rdK,ldV] at h1<;>cases lv<;>simp [er] at h1<;>simp [AV.parts?] at hp
    | bx o l cs =>
     rw[hv] at h1
     cases o<;>simp [er,rdK,ldV] at h1<;>cases lv<;>simp [er] at h1<;>simp [AV.parts?] at hp
    | agg cs =>
     refine⟨.agg cs,by simp[rd,erF,hv,er,rdK,ldV],?_,?_,fun b o hb=>.inl (by simpa [zn1,hv] using hb)⟩
     ·have:=R.reg t;rw[hv] at this;exact this
     ·have:=(R.key (100 * t)).mem;rw[hv] at this;exact this
    | tuple cs =>
     refine⟨.tuple cs,by simp[rd,erF,hv,er,rdK,ldV],?_,?_,fun b o hb=>.inl (by simpa [zn1,hv] using hb)⟩
     ·have:=R.reg t;rw[hv] at this;exact this
     ·have:=(R.key (100 * t)).mem;rw[hv] at this;exact this
    | _=>rw [hv] at h1;simp[er,rdK,ldV] at h1;cases lv<;>simp [er] at h1<;>simp [AV.parts?] at hp
   ·cases h
  | const v =>
   simp only[compOd] at h
   split at h
   ·cases h
    obtain⟨lv',g1,g2,g3,_,g4,_⟩:=zts (X:=X) (β:=β) (w:=w) (I:=I) sz v
    exact⟨lv',g1,g2,g3,fun b o hb=>absurd hb (g4 b o)⟩
   ·cases h
  | func f =>
   simp only[compOd,pe] at h
   subst h
   simp only[rd] at h1
   cases lv<;>simp [er] at h1<;>simp [AV.parts?] at hp
  | global g=>simp [compOd] at h
theorem zn2 {own:Bool}{I0:z12}{l:LO}{s n off len:Nat}{lcs:List AL}{x:Value}(hm:Mem w I (.sl own l s n lcs))(hI0:∀ b o,I b o→I0 b o)
  (hf:own=true→∀ b o,fp (.sl own l s n lcs) b o→I0 b o) (hs:SV l s n off len x) :
  ∃ la,er la=.sl false () s len (z0x (((lcs.map er).drop off).take (len * s)))∧CR la x∧Mem w I0 la∧z0a la=true:=by
 obtain⟨xa,cap,rfl,hl⟩:=hs
 have hE:∀ l',er (.sl false l' s len (z0x ((lcs.drop off).take (len * s))):AL)=.sl false () s len (z0x (((lcs.map er).drop off).take (len * s))):=by
  intro l'
  simp only[er,z0f,z7g,List.map_take,List.map_drop]
 cases l with
 | none =>
  obtain⟨rfl,rfl,rfl⟩:=hl
  simp only[Mem] at hm
  obtain⟨rfl,rfl⟩:=hm
  exact⟨.sl false none s 0 _,hE none,by simp[CR],by simp[Mem,z0x],by simp[z0a]⟩
 | some l =>
  obtain⟨h1,h2,h3,o',rfl,h5⟩:=hl
  simp only[Mem] at hm
  obtain⟨m1,m2,m3⟩:=hm
  refine⟨.sl false (some ⟨l.b,o',cap⟩) s len _,hE _,by simp[CR],?_,by simp[z0a]⟩
  simp only[Mem]
  refine⟨?_,h2,?_⟩
  ·rw[z3n,r5,s7,td];omega
  ·by_cases hc:cap=0
   ·have:len=0:=by omega
    subst this
    simp[z0x,z3k]
   ·rw[h5 hc]
    have hmul:=sn s m2
    refine z49 own _ l.b (l.o+off) (z5u (z48 m3 off) _) hI0 (fun b o hb=>?_) (fun e i hi=>?_)
    ·obtain⟨c,hc,hcb⟩:=z04.1 hb
     have hc':c ∈ lcs:=List.mem_of_mem_drop (t6 hc)
     cases own with
     | true=>exact hf rfl b o (by simp only[fp];exact .inr (z04.2 ⟨c,hc',hcb⟩))
     | false =>
      obtain⟨i,hi⟩:=pq hc'
      exact absurd hcb (((z0e.1 m3 i c hi).2.2 rfl).2 b o)
    ·subst e
     refine hf rfl _ _ ?_
     simp only[fp]
     have:i < len * s:=by
      have:=hi
      rw[s7] at this
      omega
     exact .inl ⟨trivial,by omega,by omega⟩
theorem zcg {own:Bool}{I0:z12}{b o i m:Nat}{lcs:List AL}(hm:z3k w I own lcs b o)(hI0:∀ b o,I b o→I0 b o)
  (hf:own=true→(∀ j,j < lcs.length→I0 b (o+j))∧∀ b o,fpL lcs b o→I0 b o):z3k w I0 false (z0x ((lcs.drop i).take m)) b (o+i):=by
 refine z49 own _ b (o+i) (z5u (z48 hm i) _) hI0 (fun b o hb=>?_) (fun e j hj=>?_)
 ·obtain⟨c,hc,hcb⟩:=z04.1 hb
  have hc':c ∈ lcs:=List.mem_of_mem_drop (t6 hc)
  cases own with
  | true=>exact (hf rfl).2 b o (z04.2 ⟨c,hc',hcb⟩)
  | false =>
   obtain⟨j,hj⟩:=pq hc'
   exact absurd hcb (((z0e.1 hm j c hj).2.2 rfl).2 b o)
 ·have:=(hf e).1 (i+j) (by rw[s7,td] at hj;omega)
  rwa [← qq] at this
theorem yn2 {I0:z12}{l:Loc}{s n:Nat}{lcs:List AL}(hm:Mem w I (.sl true (some l) s n lcs))(hf:∀ b o,fp (.sl true (some l) s n lcs) b o→I0 b o):(∀ j,j < lcs.length→I0 l.b (l.o+j))∧∀ b o,fpL lcs b o→I0 b o:=by
 simp only[Mem] at hm
 have:=sn s hm.2.1
 exact⟨fun j hj=>hf _ _ (by simp only[fp];exact .inl ⟨trivial,by omega,by omega⟩),fun b o hb=>hf b o (by simp only[fp];exact .inr hb)⟩
theorem yn3 {I0:z12}{l:Loc}{lcs:List AL}(hf:∀ b o,fp (.bx true (some l) lcs) b o→I0 b o):(∀ j,j < lcs.length→I0 l.b (l.o+j))∧∀ b o,fpL lcs b o→I0 b o :=
 ⟨fun j hj=>hf _ _ (by simp only[fp];exact .inl ⟨trivial,by omega,by omega⟩),fun b o hb=>hf b o (by simp only[fp];exact .inr hb)⟩
structure CalleeOk (C:Ctx) (X:XF LO) (β:Nat→Nat × Nat) (I:z12) (w:World) (ls:List (Nat × List Nat)) (own:Bool) (I0:z12) (X0:XF LO) (β0:Nat→Nat × Nat):Prop where
 mem:∀ k,Mem w I (X k).2
 cell:∀ k,z2c k→(X k).2 ≠ .non→∃ y,w.at (β (k / 100)).1 ((β (k / 100)).2+(k % 100 - 1))=some y∧CX X β (X k).2 y
 sub:∀ b o,I b o→I0 b o
 lent:own=true→∀ k,z9g ls k=false→∀ b o,kfp β X k b o→I0 b o
 gen:∀ k,(X0 k).1=0
 gh:∀ (j:Nat) (e:Nat × List Nat),ls[j]?=some e→∃ N,z0o (X e.1).2 e.2=some N∧((∃ l s n cs,N=.sl true l s n cs∧(X0 (z36 j)).2=N)∨(∃ l cs,N=.bx true (some l) cs∧(X0 (z36 j)).2=N))
theorem zch (X:XF LO)(b:Nat):∀ (n i:Nat),z0s (erF X) b i n=(z0s X b i n).map er
 | 0,i=>rfl
 | n+1,i=>by
  simp only[z0s,erF]
  cases hv:(X (100 * b+1+i)).2<;>simp only[er,t0,List.map_cons]<;>(try rw [← zch X b n (i+1)])<;>rfl
theorem zj4 {ls:List (Nat × List Nat)}{I0:z12}{X0:XF LO} {β0:Nat→Nat × Nat}(H:CalleeOk C X β I w ls true I0 X0 β0)(b:Nat)(hl:ls.all (fun e=>!decide (e.1 / 100=b))=true):∀ (n i:Nat),i+n≤98 →
  z3k w I0 false (z0x (z0s X b i n)) (β b).1 ((β b).2+i)
 | 0,i,_=>by simp[z0s,z0x,z3k]
 | n+1,i,h=>by
  have ih:=zj4 H b hl n (i+1) (by omega)
  simp only[z0s]
  have hcell:z2c (100 * b+1+i):=by unfold z2c;omega
  have hlk:z9g ls (100 * b+1+i)=false:=by
   rw[Bool.eq_false_iff]
   intro hh
   simp only[z9g,te,sg] at hh
   obtain⟨e,he,hk⟩:=hh
   have:=qe.1 hl e he
   simp at this
   omega
  have key:(X (100 * b+1+i)).2 ≠ .non→zhc (X (100 * b+1+i)).2=false→z3k w I0 false (z0x ((X (100 * b+1+i)).2 :: z0s X b (i+1) n)) (β b).1 ((β b).2+i):=by
   intro hne hvw
   obtain⟨y,hy,hc⟩:=H.cell _ hcell hne
   have hc:=hc.cr hvw
   rw[show (100 * b+1+i) / 100=b by omega,show (100 * b+1+i) % 100 - 1=i by omega] at hy
   simp only[z0x,z3k]
   refine⟨⟨y,hy,z8k hc⟩,z7f _ (H.mem _) H.sub (fun b' o' hb=>H.lent rfl _ hlk b' o' (.inl hb)),fun _=>⟨H.lent rfl _ hlk _ _ (.inr ⟨hcell,hne,?_⟩),fun b' o'=>zak _ b' o'⟩,by rw[qq];exact ih⟩
   unfold zcb
   rw[show (100 * b+1+i) / 100=b by omega,show (100 * b+1+i) % 100 - 1=i by omega]
   exact⟨rfl,rfl⟩
  cases hv:(X (100 * b+1+i)).2 with
  | non=>simp [z0x,z3k]
  | view _ _ _ _ _=>simp [z0x,z3k]
  | ptr _ _ _ _=>simp [z0x,z3k]
  | bptr _ _ _=>simp [z0x,z3k]
  | _=>(have h1:=key (by rw[hv];simp) (by rw[hv];rfl));rw[hv] at h1;exact h1
mutual
/-- One argument in the callee's first state. -/
theorem zu0 {ls:List (Nat × List Nat)}{own:Bool}{I0:z12}{X0:XF LO} {β0:Nat→Nat × Nat}(H:CalleeOk C X β I w ls own I0 X0 β0) :
  ∀ (k0:Nat) (lv:AL) (x:Value) (a:AU),RR X β lv x→Mem w I lv→(∀ b o,fp lv b o→kfp β X k0 b o)→trA (erF X) ls own k0 (er lv)=some a →
   ∃ la,er la=a∧RR X0 β0 la x∧Mem w I0 la∧z0a la=true
 | k0,.sc v,x,a,hr,hm,hf,ht=>by
  simp only[er,trA,pe] at ht
  exact⟨.sc v,by simp[er,ht],by simpa [RR] using hr,by simp[Mem],by simp[z0a]⟩
 | k0,.sl o l s n cs,x,a,hr,hm,hf,ht=>by
  simp only[er,trA] at ht
  simp only[RR] at hr
  split at ht
  ·rename_i e
   subst e
   simp only[pe] at ht
   exact⟨.sl false l s n cs,by simp[er,← ht],by simpa [RR] using hr,z4r _ hm H.sub,by simp[z0a]⟩
  ·split at ht
   ·rename_i e
    simp only[pe] at ht
    refine⟨z1p (.sl o l s n cs),by simp only[z1p,er,z5d,← ht],?_,z7f _ hm H.sub (fun b o hb=>H.lent e.1 k0 e.2 b o (hf b o hb)),by simp[z1p,z0a]⟩
    exact z2s (z8k hr)
   ·split at ht
    ·rename_i e
     obtain⟨rfl,e2⟩:=e
     simp only[pe] at ht
     have:cs=[]:=by
      rw[z0f] at e2;simpa using e2
     subst this
     refine⟨.sl false l s 0 [],by simp[er,erL,← ht],?_,?_,by simp[z0a]⟩
     ·cases l with
      | none=>simp only[CR,and_true] at hr;simp only[RR,CR,and_true,true_and];exact hr.elim .inl (fun e=>.inr e.2)
      | some l=>simpa [RR,CR] using hr
     ·cases l with
      | none=>simp [Mem]
      | some l=>simp [Mem,z3k]
    ·cases ht
 | k0,.bx o l cs,x,a,hr,hm,hf,ht=>by
  simp only[er,trA] at ht
  simp only[RR] at hr
  split at ht
  ·rename_i e
   subst e
   simp only[pe] at ht
   exact⟨.bx false l cs,by simp[er,← ht],by simpa [RR] using hr,z4r _ hm H.sub,by simp[z0a]⟩
  ·cases ht
 | k0,.view k g p off len,x,a,hr,hm,hf,ht=>by
  simp only[er,trA] at ht
  split at ht
  ·rename_i hgen
   simp only[erF] at hgen
   simp only[RR] at hr
   obtain⟨l,sz,n,hhd,hsv⟩:=hr.2 hgen
   split at ht
   ·rename_i j hj
    simp only[pe] at ht
    obtain⟨N,hN,hor⟩:=H.gh j _ (zam hj)
    simp only at hN
    rw[hN] at hhd
    rcases hor with ⟨l',s',n',cs',rfl,hX0⟩ | ⟨l',cs',rfl,_⟩
    ·simp only[po,hd,pe,qt,true_and] at hhd
     obtain⟨rfl,rfl,rfl⟩:=hhd
     refine⟨.view (z36 j) 0 [] off len,by simp[er,← ht],?_,by simp[Mem],by simp[z0a]⟩
     simp only[RR]
     refine⟨rh _,fun _=>⟨l',s',n',by rw[hX0];simp[z0o,hd],hsv⟩⟩
    ·simp[hd] at hhd
   ·split at ht
    ·rename_i o _ s n0 cs hnode
     split at ht
     ·rename_i hcond
      simp only[pe] at ht
      obtain⟨l',lcs,hN,hlcs⟩:=z5t hnode
      rw[hN] at hhd
      simp only[po,hd,pe,qt,true_and] at hhd
      obtain⟨rfl,rfl,rfl⟩:=hhd
      have hmN:=z68 (H.mem k) hN
      obtain⟨la,g1,g2,g3,g4⟩:=zn2 (I0:=I0) hmN H.sub (fun e b o' hb=>by
       rcases hcond with hc | ⟨hc,hc2⟩
       ·rw[hc] at e;cases e
       ·exact H.lent hc k hc2 b o' (.inl (zhk (H.mem k) hN b o' hb))) hsv
      exact⟨la,by rw[g1,← ht,hlcs],z2s g2,g3,g4⟩
     ·cases ht
    ·cases ht
  ·cases ht
 | k0,.ptr k g p i,x,a,hr,hm,hf,ht=>by
  simp only[er,trA] at ht
  split at ht
  ·rename_i hgen
   simp only[erF] at hgen
   simp only[RR] at hr
   obtain⟨sb,l,sz,n,hhd,hx⟩:=hr.2 hgen
   split at ht
   ·rename_i j hj
    obtain⟨N,hN,hor⟩:=H.gh j _ (zam hj)
    simp only at hN
    rw[hN] at hhd
    split at ht
    ·rename_i o' _ cs hnode
     simp only[pe] at ht
     obtain⟨l0,lcs0,hN0,hlcs0⟩:=zdf hnode
     rw[hN] at hN0
     rcases hor with ⟨l',s',n',cs',rfl,hX0⟩ | ⟨l',cs',rfl,hX0⟩
     ·simp at hN0
     ·refine⟨.ptr (z36 j) 0 [] i,by simp[er,← ht],?_,by simp[Mem],by simp[z0a]⟩
      simp only[RR]
      exact⟨rh _,fun _=>⟨sb,l,sz,n,by rw[hX0];exact hhd,hx⟩⟩
    ·rename_i o' _ s0 n0 cs hnode
     simp only[pe] at ht
     obtain⟨l0,lcs0,hN0,hlcs0⟩:=z5t hnode
     rw[hN] at hN0
     rcases hor with ⟨l',s',n',cs',rfl,hX0⟩ | ⟨l',cs',rfl,hX0⟩
     ·simp only[po,hd,pe,qt] at hhd
      obtain⟨_,rfl,rfl,rfl⟩:=hhd
      refine⟨.ptr (z36 j) 0 [] i,by simp[er,← ht],?_,by simp[Mem],by simp[z0a]⟩
      simp only[RR]
      exact⟨rh _,fun _=>⟨true,l,s',n',by rw[hX0];simp[z0o,hd],hx⟩⟩
     ·simp at hN0
    ·cases ht
   ·split at ht
    ·rename_i o' _ cs hnode
     split at ht
     ·rename_i hcond
      simp only[pe] at ht
      obtain⟨l0,lcs,hN,hlcs⟩:=zdf hnode
      rw[hN] at hhd
      simp only[po,hd,pe,qt] at hhd
      obtain⟨_,rfl,_⟩:=hhd
      have hmN:=z68 (H.mem k) hN
      have hmN':=hmN
      simp only[Mem] at hmN'
      have hT:=zcg (I0:=I0) (i:=i) (m:=lcs.length) hmN' H.sub (fun e=>by
       subst e
       rcases hcond with hc | ⟨hc,hc2⟩
       ·cases hc
       ·exact yn3 fun b o' hb=>H.lent hc k hc2 b o' (.inl (zhk (H.mem k) hN b o' hb)))
      rw[pp (by rw[td];omega)] at hT
      refine⟨.vptr (some ⟨l.b,l.o+i,0⟩) (z0x (lcs.drop i)),?_,?_,?_,by simp[z0a]⟩
      ·rw[← ht,← hlcs];simp only[er,z0f,z7g,List.map_drop]
      ·simp only[RR];exact⟨_,rfl,hx⟩
      ·simp only[Mem];exact hT
     ·cases ht
    ·rename_i o' _ s0 n0 cs hnode
     split at ht
     ·rename_i hcond
      simp only[pe] at ht
      obtain⟨l0,lcs,hN,hlcs⟩:=z5t hnode
      rw[hN] at hhd
      simp only[po,hd,pe,qt] at hhd
      obtain⟨_,rfl,rfl,rfl⟩:=hhd
      have hmN:=z68 (H.mem k) hN
      have hmN':=hmN
      simp only[Mem] at hmN'
      have hT:=zcg (I0:=I0) (i:=i) (m:=s0) hmN'.2.2 H.sub (fun e=>by
       subst e
       rcases hcond with hc | ⟨hc,hc2⟩
       ·cases hc
       ·exact yn2 hmN fun b o' hb=>H.lent hc k hc2 b o' (.inl (zhk (H.mem k) hN b o' hb)))
      refine⟨.vptr (some ⟨l.b,l.o+i,0⟩) (z0x ((lcs.drop i).take s0)),?_,?_,?_,by simp[z0a]⟩
      ·rw[← ht,← hlcs];simp only[er,z0f,z7g,List.map_drop,List.map_take]
      ·simp only[RR];exact⟨_,rfl,hx⟩
      ·simp only[Mem];exact hT
     ·cases ht
    ·cases ht
  ·cases ht
 | k0,.bptr b g i,x,a,hr,hm,hf,ht=>by
  simp only[er,trA] at ht
  split at ht
  ·rename_i hc
   obtain⟨rfl,hg,hi,hl⟩:=hc
   simp only[pe] at ht
   simp only[RR] at hr
   simp only[erF] at hg
   have hx:=hr.2 hg
   refine⟨.vptr (some ⟨(β b).1,(β b).2+i,0⟩) (z0x (z0s X b i (98 - i))),?_,?_,?_,by simp[z0a]⟩
   ·simp only[er,z0f,z7g,← zch,ht]
   ·simp only[RR];exact⟨_,rfl,hx⟩
   ·simp only[Mem];exact zj4 H b hl (98 - i) i (by omega)
  ·cases ht
 | k0,.vptr l cs,x,a,hr,hm,hf,ht=>by
  simp only[er,trA,pe] at ht
  exact⟨.vptr l cs,by simp[er,ht],by simpa [RR] using hr,z4r _ hm H.sub,by simp[z0a]⟩
 | k0,.agg vs,x,a,hr,hm,hf,ht=>by
  simp only[er,trA,pg] at ht
  obtain⟨as,h1,rfl⟩:=ht
  simp only[RR] at hr
  obtain⟨xs,rfl,hr⟩:=hr
  simp only[Mem] at hm
  obtain⟨las,g1,g2,g3,g4⟩:=zf8 H k0 vs xs as hr hm (fun b o hb=>hf b o (by simpa [fp] using hb)) h1
  exact⟨.agg las,by simp[er,g1],by simp only[RR];exact⟨xs,rfl,g2⟩,by simpa [Mem] using g3,by simpa [z0a] using g4⟩
 | k0,.tuple _,x,a,hr,hm,hf,ht=>by simp[er,trA] at ht
 | k0,.clos f vs,x,a,hr,hm,hf,ht=>by
  simp only[er,trA,pg] at ht
  obtain⟨as,h1,rfl⟩:=ht
  simp only[RR] at hr
  obtain⟨xs,rfl,hr⟩:=hr
  simp only[Mem] at hm
  obtain⟨las,g1,g2,g3,g4⟩:=zf8 H k0 vs xs as hr hm.1 (fun b o hb=>absurd hb (hm.2 b o)) h1
  exact⟨.clos f las,by simp[er,g1],by simp only[RR];exact⟨xs,rfl,g2⟩,by simp only[Mem];exact⟨g3,(z1h las g4).1⟩,by simp[z0a]⟩
 | k0,.dead,x,a,hr,hm,hf,ht=>by simp[er,trA] at ht
 | k0,.non,x,a,hr,hm,hf,ht=>by simp[er,trA] at ht
theorem zf8 {ls:List (Nat × List Nat)}{own:Bool}{I0:z12}{X0:XF LO} {β0:Nat→Nat × Nat}(H:CalleeOk C X β I w ls own I0 X0 β0) :
  ∀ (k0:Nat) (lvs:List AL) (xs:List Value) (as:List AU),RRL X β lvs xs→z2l w I lvs→(∀ b o,fpL lvs b o→kfp β X k0 b o)→trL (erF X) ls own k0 (erL lvs)=some as →
   ∃ las,erL las=as∧RRL X0 β0 las xs∧z2l w I0 las∧z0n las=true
 | k0,[],xs,as,hr,hm,hf,ht=>by
  simp only[erL,trL,pe] at ht
  simp only[RRL] at hr
  exact⟨[],by simp[erL,← ht],by simpa [RRL] using hr,by simp[z2l],by simp[z0n]⟩
 | k0,v :: vs,xs,as,hr,hm,hf,ht=>by
  simp only[erL,trL] at ht
  simp only[RRL] at hr
  obtain⟨y,ys,rfl,hr1,hr2⟩:=hr
  simp only[z2l] at hm
  split at ht
  ·rename_i a as' h1 h2
   simp only[pe] at ht
   obtain⟨la,g1,g2,g3,g4⟩:=zu0 H k0 v y a hr1 hm.1 (fun b o hb=>hf b o (by simp[fpL,hb])) h1
   obtain⟨las,k1,k2,k3,k4⟩:=zf8 H k0 vs ys as' hr2 hm.2 (fun b o hb=>hf b o (by simp[fpL,hb])) h2
   exact⟨la :: las,by simp[erL,g1,k1,ht],by simp only[RRL];exact⟨y,ys,rfl,g2,k2⟩,by simp only[z2l];exact⟨g3,k3⟩,by simp[z0n,g4,k4]⟩
  ·cases ht
end
end
def z28 (X:XF LO)(e:Nat × List Nat):AL:=(z0o (X e.1).2 e.2).getD .non
def y3n (v:AL):Gh LO:=.nod v
def zrl:AL→Value
 | .sl _ none _ _ _=>.slice none 0 0
 | .sl _ (some l) _ n _=>.slice (some ⟨l.b,l.o,none⟩) n l.cap
 | .bx _ (some l) _=>.pointer (some ⟨l.b,l.o,none⟩)
 | _=>undef
theorem zn3 {N:AL}{y:Value}(hn:N.own?=true)(h:CR N y):y=zrl N:=by
 cases N with
 | sl o l s n cs =>
  cases o with
  | false=>simp [AV.own?] at hn
  | true=>cases l<;>simp [CR] at h<;>simp [zrl,h]
 | bx o l cs=>cases l<;>simp [CR] at h<;>simp [zrl,h]
 | _=>simp [AV.own?] at hn
def βC (X:XF LO)(ls:List (Nat × List Nat))(b:Nat):Nat × Nat:=(0,0)
def rgC (X:XF LO)(ls:List (Nat × List Nat))(args:Array Value)(t:Nat):Value:=if t < 10000 then args.getD t undef else ((ls.map (z28 X))[t - 10000]?).elim undef zrl
def KC (X:XF LO)(ls:List (Nat × List Nat)):z12:=fun b o=>∃ e ∈ ls,fp (z28 X e) b o
def IC (X:XF LO) (β:Nat→Nat × Nat)(I:z12)(ls:List (Nat × List Nat))(own:Bool):z12:=fun b o=>I b o∨(own=true∧∃ k,z9g ls k=false∧kfp β X k b o)
def XC (X:XF LO)(ls:List (Nat × List Nat))(las:List AL):XF LO:=z8i (ls.map fun e=>y3n (z28 X e)) las
def CC (C:Ctx)(X:XF LO) (β:Nat→Nat × Nat)(I:z12)(w:World)(ls:List (Nat × List Nat))(own:Bool)(args:Array Value):Ctx :=
 { P:=C.P,nt:=C.nt,w0:=w,K:=KC X ls,I0:=IC X β I ls own,β0:=βC X ls,rg0:=rgC X ls args,hnt:=C.hnt }
structure Loans (X:XF LO) (β:Nat→Nat × Nat) (I:z12) (w:World) (ls:List (Nat × List Nat)) (gs:List (Gh Unit)):Prop where
 len:ls.length=gs.length
 nd:(ls.map (·.1)).Nodup
 at_:∀ (j:Nat) (e:Nat × List Nat),ls[j]?=some e→∃ g,gs[j]?=some g∧z0o (X e.1).2 e.2=some (z28 X e)∧(z28 X e).isNode=true∧z4k (X e.1).2 e.2=true∧Mem w I (z28 X e)∧Sep (z28 X e)∧(∀ b o,fp (z28 X e) b o→kfp β X e.1 b o) ∧
   ((∃ l s n cs,z28 X e=.sl true l s n cs∧g=.nod (.sl true () s n (cs.map er)))∨(∃ l cs,z28 X e=.bx true (some l) cs∧g=.nod (.bx true () (cs.map er))))
section
variable {C:Ctx} {X:XF LO} {β:Nat→Nat × Nat} {I:z12} {rg:Nat→Value} {w:World} {ls:List (Nat × List Nat)} {gs:List (Gh Unit)}
theorem zf9 {α γ:Type}(f:α→Option γ):∀ (l:List α) (r:List γ),l.mapM f=some r→l.length=r.length∧∀ (j:Nat) (a:α),l[j]?=some a→∃ b,r[j]?=some b∧f a=some b
 | [],r,h=>by simp at h;subst h;simp
 | a :: l,r,h=>by
  rw[List.mapM_cons] at h
  cases h1:f a with
  | none=>simp [h1] at h
  | some b =>
   simp only[h1,Option.bind_eq_bind,po] at h
   cases h2:l.mapM f with
   | none=>simp [h2] at h
   | some bs =>
    simp only[h2,po,Option.pure_def,pe] at h
    subst h
    have ih:=zf9 f l bs h2
    refine⟨by simp[ih.1],fun j x hx=>?_⟩
    cases j with
    | zero=>simp at hx;subst hx;exact⟨b,rfl,h1⟩
    | succ j=>simp at hx;simpa using ih.2 j x hx
theorem n5 (R:RelL C X β I rg w)(h:ls.mapM (z9u (erF X))=some gs)(hn:(ls.map (·.1)).Nodup):Loans X β I w ls gs:=by
 have:=zf9 _ _ _ h
 refine⟨this.1,hn,fun j e he=>?_⟩
 obtain⟨g,h1,h2⟩:=this.2 j e he
 obtain⟨N,a1,a2,a3,a4,a5,a6,a7⟩:=zvp R h2
 have hN:z28 X e=N:=by simp[z28,a1]
 rw[hN]
 exact⟨g,h1,a1,a2,a3,a4,a5,a6,a7⟩
theorem Loans.inj (L:Loans X β I w ls gs){j j':Nat}{e e':Nat × List Nat}(h:ls[j]?=some e)(h':ls[j']?=some e')(hk:e.1=e'.1):j=j':=by
 have h1:(ls.map (·.1))[j]?=some e.1:=by simp[h]
 have h2:(ls.map (·.1))[j']?=some e.1:=by simp[h',hk]
 have hj:j < (ls.map (·.1)).length:=(pk.1 h1).1
 exact (List.getElem?_inj hj L.nd).1 (h1.trans h2.symm)
theorem zrm {j:Nat}{e:Nat × List Nat}(h:ls[j]?=some e):z9g ls e.1=true:=by
 simp only[z9g,te]
 exact sg.2 ⟨e,pj h,rfl⟩
theorem y3o (las:List AL) (β0:Nat→Nat × Nat):Keeps (XC X ls []) (XC X ls las) β0 β0:=by
 refine⟨fun _=>pr _,fun k _ p h hh=>?_,fun _ _=>rfl⟩
 simp only[XC,z8i,zf4] at hh ⊢
 split at hh
 ·exfalso
  have:(if k % 100=0 then ([]:List AL).getD (k / 100) .non else .non)=.non:=by split<;>simp
  rw[this] at hh
  cases p with
  | nil=>simp [z0o,hd] at hh
  | cons i p=>simp [z0o,AV.cells?] at hh
 ·rename_i hk
  rw[if_neg hk]
  exact hh
theorem z7h (L:Loans X β I w ls gs)(las:List AL)(k:Nat)(hk:10000≤k / 100):(XC X ls las k).2=.non∨∃ j e,ls[j]?=some e∧k / 100=10000+j ∧
  k % 100=0∧(XC X ls las k).2=z28 X e:=by
 simp only[XC,z8i,zf4]
 rw[if_neg (by omega)]
 cases hj:ls[k / 100 - 10000]? with
 | none=>left;simp[hj]
 | some e =>
  simp only[qa,hj,px,y3n]
  by_cases h0:k % 100=0
  ·right
   exact⟨_,e,hj,by omega,h0,by rw[if_pos h0]⟩
  ·left;rw[if_neg h0]
theorem zn4 (las:List AL)(k:Nat)(hk:k / 100 < 10000):(XC X ls las k).2=.non∨∃ la,las[k / 100]?=some la∧k % 100=0∧(XC X ls las k).2=la:=by
 simp only[XC,z8i,zf4]
 rw[if_pos hk]
 split
 ·rename_i h0
  cases hl:las[k / 100]? with
  | none=>left;simp[hl]
  | some la=>right;exact⟨la,rfl,h0,by simp[hl]⟩
 ·left;rfl
theorem y3p (L:Loans X β I w ls gs){las:List AL}(hno:∀ la ∈ las,z0a la=true){k b o:Nat}(h:kfp (βC X ls) (XC X ls las) k b o) :
  ∃ j e,ls[j]?=some e∧k / 100=10000+j∧fp (z28 X e) b o:=by
 by_cases hk:k / 100 < 10000
 ·exfalso
  rcases zn4 (X:=X) (ls:=ls) las k hk with h0 | ⟨la,h1,h2,h3⟩
  ·rcases h with h | ⟨_,h,_⟩
   ·rw[h0] at h;simp[fp] at h
   ·exact h h0
  ·rcases h with h | ⟨hc,_⟩
   ·rw[h3] at h;exact (z2h la (hno la (pj h1))).1 b o h
   ·exact hc.1 h2
 ·rcases z7h L las k (by omega) with h0 | ⟨j,e,hj,hkj,hor⟩
  ·rcases h with h | ⟨_,h,_⟩
   ·rw[h0] at h;simp[fp] at h
   ·exact absurd h0 h
  ·refine⟨j,e,hj,hkj,?_⟩
   obtain⟨h1,h3⟩:=hor
   rcases h with h | ⟨hc,_⟩
   ·rwa [h3] at h
   ·exact absurd h1 hc.1
theorem z7i (R:RelL C X β I rg w)(L:Loans X β I w ls gs){own:Bool}{las:List AL}{args:Array Value}(hsz:las.length≤args.size)
  (hla:∀ (t:Nat) (la:AL),las[t]?=some la→RR (XC X ls []) (βC X ls) la (args.getD t undef)∧Mem w (IC X β I ls own) la∧z0a la=true) :
  RelL (CC C X β I w ls own args) (XC X ls las) (βC X ls) (IC X β I ls own) (rgC X ls args) w:=by
 have hno:∀ la ∈ las,z0a la=true:=fun la h=>by
  obtain⟨t,ht⟩:=pq h
  exact (hla t la ht).2.2
 have hIC:∀ b o,I b o→IC X β I ls own b o:=fun b o h=>.inl h
 refine⟨fun t=>?_,fun k=>?_,fun k k' hne b o h1 h2=>?_,fun b o h=>?_,fun k b o h=>?_,fun b o h=>.inl h,fun b o h=>h,Frame.refl _ w,fun _ _=>rfl,fun _ _=>rfl⟩
 ·by_cases ht:t < 10000
  ·rcases zn4 (X:=X) (ls:=ls) las (100 * t) (by omega) with h0 | ⟨la,h1,h2,h3⟩
   ·rw[h0];simp[RR]
   ·rw[h3]
    rw[show 100 * t / 100=t by omega] at h1
    simp only[rgC,if_pos ht]
    exact z2b (y3o las _) _ _ (hla t la h1).1
  ·rcases z7h L las (100 * t) (by omega) with h0 | ⟨j,e,hj,hkj,hor⟩
   ·rw[h0];simp[RR]
   ·obtain⟨h1,h3⟩:=hor
    have e1:t - 10000=j:=by omega
    obtain⟨g,_,_,_,_,hm,_,_,hor⟩:=L.at_ j e hj
    rcases hor with ⟨l,s,n,cs,hN,_⟩ | ⟨l,cs,hN,_⟩
    ·rw[h3,hN]
     simp only[rgC,if_neg ht,qa,e1,hj,px,Option.elim,hN]
     rw[hN] at hm
     cases l with
     | none=>simp only[Mem] at hm;simp[RR,CR,zrl,hm.1]
     | some l=>simp [RR,CR,zrl]
    ·rw[h3,hN]
     simp only[rgC,if_neg ht,qa,e1,hj,px,Option.elim,hN]
     simp[RR,CR,zrl]
 ·-- what lies at a key
  by_cases hk:k / 100 < 10000
  ·rcases zn4 (X:=X) (ls:=ls) las k hk with h0 | ⟨la,h1,h2,h3⟩
   ·refine⟨by rw[h0];simp[Mem],by rw[h0];simp[Sep],fun _ h=>absurd h0 h,fun b o h=>?_,fun _=>h0⟩
    rcases h with h | ⟨_,h,_⟩
    ·rw[h0] at h;simp[fp] at h
    ·exact absurd h0 h
   ·have hl:=hla _ la h1
    refine⟨by rw[h3];exact hl.2.1,by rw[h3];exact (z2h la hl.2.2).2,fun hc=>absurd h2 hc.1,fun b o h=>?_,fun h=>by omega⟩
    rcases h with h | ⟨hc,_⟩
    ·rw[h3] at h;exact absurd h ((z2h la hl.2.2).1 b o)
    ·exact absurd h2 hc.1
  ·rcases z7h L las k (by omega) with h0 | ⟨j,e,hj,hkj,hor⟩
   ·refine⟨by rw[h0];simp[Mem],by rw[h0];simp[Sep],fun _ h=>absurd h0 h,fun b o h=>?_,fun _=>h0⟩
    rcases h with h | ⟨_,h,_⟩
    ·rw[h0] at h;simp[fp] at h
    ·exact absurd h0 h
   ·obtain⟨g,_,_,hnode,_,hm,hs,hf,_⟩:=L.at_ j e hj
    have hlive:∀ b o,kfp (βC X ls) (XC X ls las) k b o→b < w.heap.size∧w.fz b o=false∧(w.at b o).isSome:=by
     intro b o h
     obtain⟨j',e',hj',_,hfp⟩:=y3p L hno h
     obtain⟨_,_,_,_,_,_,_,hf',_⟩:=L.at_ j' e' hj'
     exact (R.key _).live b o (hf' b o hfp)
    obtain⟨h1,h3⟩:=hor
    exact⟨by rw[h3];exact z4r _ hm hIC,by rw[h3];exact hs,fun hc=>absurd h1 hc.1,hlive,fun h=>by omega⟩
 ·-- no address twice
  obtain⟨j,e,hj,hkj,hf⟩:=y3p L hno h1
  obtain⟨j',e',hj',hkj',hf'⟩:=y3p L hno h2
  by_cases hjj:j=j'
  ·subst hjj
   rw[hj] at hj'
   cases hj'
   rcases z7h L las k (by omega) with h0 | ⟨j1,e1,hj1,hkj1,hm1,_⟩
   ·rcases h1 with h | ⟨_,h,_⟩
    ·rw[h0] at h;simp[fp] at h
    ·exact absurd h0 h
   ·rcases z7h L las k' (by omega) with h0 | ⟨j2,e2,hj2,hkj2,hm2,_⟩
    ·rcases h2 with h | ⟨_,h,_⟩
     ·rw[h0] at h;simp[fp] at h
     ·exact absurd h0 h
    ·exact hne (by omega)
  ·obtain⟨_,_,_,_,_,_,_,q1,_⟩:=L.at_ j e hj
   obtain⟨_,_,_,_,_,_,_,q2,_⟩:=L.at_ j' e' hj'
   exact R.disj e.1 e'.1 (fun h=>hjj (L.inj hj hj' h)) b o (q1 b o hf) (q2 b o hf')
 ·-- what is never written
  have hn:∀ k,kfp (βC X ls) (XC X ls las) k b o→∃ k0,z9g ls k0=true∧kfp β X k0 b o:=by
   intro k hb
   obtain⟨j,e,hj,_,hf⟩:=y3p L hno hb
   obtain⟨_,_,_,_,_,_,_,q1,_⟩:=L.at_ j e hj
   exact⟨e.1,zrm hj,q1 b o hf⟩
  rcases h with h | ⟨_,k0,h1,h2⟩
  ·refine⟨(R.imm b o h).1,fun k hb=>?_⟩
   obtain⟨k1,_,q⟩:=hn k hb
   exact (R.imm b o h).2 k1 q
  ·refine⟨((R.key k0).live b o h2).1,fun k hb=>?_⟩
   obtain⟨k1,q1,q⟩:=hn k hb
   exact R.disj k0 k1 (fun e=>by rw[e,q1] at h1;cases h1) b o h2 q
 ·obtain⟨j,e,hj,_,hf⟩:=y3p L hno h
  exact .inl ⟨e,pj hj,hf⟩
theorem z6b (R:RelL C X β I rg w)(L:Loans X β I w ls gs)(own:Bool):CalleeOk C X β I w ls own (IC X β I ls own) (XC X ls []) (βC X ls):=by
 refine⟨fun k=>(R.key k).mem,fun k h1 h2=>((R.key k).cell h1 h2).1,fun b o h=>.inl h,fun h k hk b o hb=>.inr ⟨h,k,hk,hb⟩,fun _=>rfl,fun j e hj=>?_⟩
 obtain⟨g,_,hN,_,_,_,_,_,hor⟩:=L.at_ j e hj
 refine⟨z28 X e,hN,?_⟩
 have k1:z36 j / 100=10000+j:=by unfold z36;omega
 have k2:z36 j % 100=0:=by unfold z36;omega
 have hX:(XC X ls [] (z36 j)).2=z28 X e:=by
  simp only[XC,z8i,zf4,k1,k2]
  rw[if_neg (by omega),show 10000+j - 10000=j by omega]
  simp only[qa,hj,px,y3n,if_true]
 rcases hor with ⟨l,s,n,cs,h,_⟩ | ⟨l,cs,h,_⟩
 ·exact .inl ⟨l,s,n,cs,h,hX⟩
 ·exact .inr ⟨l,cs,h,hX⟩
theorem zfa (L:Loans X β I w ls gs)(las:List AL):erF (XC X ls las)=z8i gs (las.map er):=by
 funext k
 simp only[erF,XC,z8i,qt,true_and]
 simp only[zf4]
 split
 ·split
  ·simp only[ph,qa]
   cases las[k / 100]?<;>simp [er]
  ·simp[er]
 ·simp only[qa]
  cases hj:ls[k / 100 - 10000]? with
  | none =>
   have:gs[k / 100 - 10000]?=none:=by
    rw[List.getElem?_eq_none_iff] at hj ⊢
    rw[← L.len];exact hj
   simp[this,er]
  | some e =>
   obtain⟨g,hg,_,_,_,_,_,_,hor⟩:=L.at_ _ e hj
   simp only[px,hg]
   rcases hor with ⟨l,s,n,cs,h,rfl⟩ | ⟨l,cs,h,rfl⟩
   ·rw[h]
    simp only[y3n]
    split<;>simp [er,z0f]
   ·rw[h]
    simp only[y3n]
    split<;>simp [er,z0f]
end
def z5x (X Y:XF LO)(j:Nat)(e:Nat × List Nat):AL:=(Y (z36 j)).2
def z2m (X Y:XF LO):Nat→List (Nat × List Nat)→List Lent
 | _,[]=>[]
 | j,e :: l=>⟨e.1,e.2,z28 X e,z5x X Y j e⟩ :: z2m X Y (j+1) l
theorem zfb (X Y:XF LO):∀ (j:Nat) (l:List (Nat × List Nat)),(z2m X Y j l).map (·.k)=l.map (·.1)
 | _,[]=>rfl
 | j,e :: l=>by simp[z2m,zfb X Y (j+1) l]
theorem z2w {X Y:XF LO}{f:Lent}:∀ {j0:Nat} {l:List (Nat × List Nat)},f ∈ z2m X Y j0 l ↔ ∃ j e,l[j]?=some e∧f=⟨e.1,e.2,z28 X e,z5x X Y (j0+j) e⟩
 | j0,[]=>by simp[z2m]
 | j0,e :: l=>by
  simp only[z2m,qj,z2w (j0:=j0+1) (l:=l)]
  constructor
  ·rintro (rfl | ⟨j,e',h,rfl⟩)
   ·exact⟨0,e,rfl,rfl⟩
   ·exact⟨j+1,e',by simpa using h,by rw[show j0+1+j=j0+(j+1) by omega]⟩
  ·rintro⟨j,e',h,rfl⟩
   cases j with
   | zero=>simp at h;subst h;left;rfl
   | succ j=>right;exact⟨j,e',by simpa using h,by rw[show j0+1+j=j0+(j+1) by omega]⟩
def zvq:Gh Unit→Gh Unit→Bool
 | .nod _,.nod (.sl o _ _ _ _)=>o
 | .nod _,.nod (.bx o _ _)=>o
 | .nod _,.nod .dead=>true
 | _,_=>false
def z6j:List (Gh Unit)→List (Gh Unit)→Bool
 | [],[]=>true
 | g :: l,g' :: l'=>zvq g g' && z6j l l'
 | _,_=>false
theorem zdi:∀ {l l':List (Gh Unit)},z6j l l'=true→l.length=l'.length∧∀ (j:Nat) (g:Gh Unit),l[j]?=some g→∃ g',l'[j]?=some g'∧zvq g g'=true
 | [],[],_=>by simp
 | [],_ :: _,h=>by simp[z6j] at h
 | _ :: _,[],h=>by simp[z6j] at h
 | g :: l,g' :: l',h=>by
  simp only[z6j,pm] at h
  have ih:=zdi h.2
  refine⟨by simp[ih.1],fun j x hx=>?_⟩
  cases j with
  | zero=>simp at hx;subst hx;exact⟨g',rfl,h.1⟩
  | succ j=>simp at hx;simpa using ih.2 j x hx
def z26 (X:XF Unit):List ((Nat × List Nat) × Gh Unit)→XF Unit
 | []=>X
 | e :: l=>(z26 X l).set e.1.1 (z0z (X e.1.1).2 e.1.2 (z3r e.2))
mutual
theorem z5e {X X':XF LO} {β β':Nat→Nat × Nat}:∀ (v:AL) (x:Value),roots v=[]→RR X β v x→RR X' β' v x
 | .view k g p off len,x,hk,h=>by simp[roots] at hk
 | .ptr k g p i,x,hk,h=>by simp[roots] at hk
 | .bptr b g i,x,hk,h=>by simp[roots] at hk
 | .agg cs,x,hk,h=>by
  simp only[RR] at h ⊢
  obtain⟨xs,h1,h2⟩:=h
  exact⟨xs,h1,z4s cs xs (by simpa [roots] using hk) h2⟩
 | .tuple cs,x,hk,h=>by
  simp only[RR] at h ⊢
  obtain⟨xs,h1,h2⟩:=h
  exact⟨xs,h1,z4s cs xs (by simpa [roots] using hk) h2⟩
 | .clos f cs,x,hk,h=>by
  simp only[RR] at h ⊢
  obtain⟨xs,h1,h2⟩:=h
  exact⟨xs,h1,z4s cs xs (by simpa [roots] using hk) h2⟩
 | .vptr l cs,x,_,h=>by simpa [RR] using h
 | .non,_,_,_=>by simp[RR]
 | .dead,_,_,_=>by simp[RR]
 | .sc v,x,_,h=>by simpa [RR] using h
 | .sl o l s n cs,x,_,h=>by simpa [RR] using h
 | .bx o l cs,x,_,h=>by simpa [RR] using h
theorem z4s {X X':XF LO} {β β':Nat→Nat × Nat}:∀ (vs:List AL) (xs:List Value),z1a vs=[]→RRL X β vs xs→RRL X' β' vs xs
 | [],_,_,h=>by simpa [RRL] using h
 | v :: vs,xs,hk,h=>by
  simp only[RRL] at h ⊢
  simp only[z1a,List.append_eq_nil_iff] at hk
  obtain⟨y,ys,h1,h2,h3⟩:=h
  exact⟨y,ys,h1,z5e v y hk.1 h2,z4s vs ys hk.2 h3⟩
end
section
variable {C:Ctx} {X:XF LO} {β:Nat→Nat × Nat} {I:z12} {rg:Nat→Value} {w:World} {ls:List (Nat × List Nat)} {gs:List (Gh Unit)}
theorem RelL.putOwn (R:RelL C X β I rg w)(t:Nat)(htl:t < 10000){v:AL}{x:Value}(hm:Mem w I v)(hs:Sep v)(hr:RR X β v x)
  (hf:∀ b o,fp v b o→b < w.heap.size∧w.fz b o=false∧(w.at b o).isSome∧¬ I b o∧(C.K b o∨C.w0.heap.size≤b)∧∀ k,¬ kfp β X k b o) :
  RelL C (X.set (100 * t) v) β I (fun s=>if s=t then x else rg s) w:=by
 have hk:=z05 X β (100 * t) v
 have hne:∀ k,k ≠ 100 * t→(X.set (100 * t) v) k=X k:=fun k h=>w9 _ _ h
 have hself:=wa X (100 * t) v
 have hkfp:∀ k b o,kfp β (X.set (100 * t) v) k b o→(k=100 * t∧fp v b o)∨(k ≠ 100 * t∧kfp β X k b o):=by
  intro k b o h
  by_cases e:k=100 * t
  ·subst e
   rcases h with h | ⟨hc,_⟩
   ·rw[hself] at h;exact .inl ⟨rfl,h⟩
   ·exact absurd (by omega) hc.1
  ·rw[kfp,hne k e] at h;exact .inr ⟨e,h⟩
 refine⟨fun s=>?_,fun k=>?_,fun k k' hkk b o h1 h2=>?_,fun b o h=>⟨(R.imm b o h).1,fun k h'=>?_⟩,fun k b o h=>?_,R.frI,R.frI0,R.fr,R.gh,fun s hs=>?_⟩
 ·by_cases e:s=t
  ·subst e;rw[hself];simp only[if_true];exact z2b hk _ _ hr
  ·rw[hne _ (by omega)];simp only[e,if_false];exact z2b hk _ _ (R.reg s)
 ·by_cases e:k=100 * t
  ·subst e
   refine⟨by rw[hself];exact hm,by rw[hself];exact hs,fun hc=>absurd (by omega) hc.1,fun b o h=>?_,fun h=>by omega⟩
   rcases hkfp _ b o h with ⟨_,h⟩ | ⟨h,_⟩
   ·have:=hf b o h;exact⟨this.1,this.2.1,this.2.2.1⟩
   ·exact absurd rfl h
  ·have h:=R.key k
   refine⟨by rw[hne k e];exact h.mem,by rw[hne k e];exact h.sep,by rw[hne k e];exact fun h1 h2=>⟨(h.cell h1 h2).1.imp fun y hy=>⟨hy.1,hy.2.keep hk⟩,(h.cell h1 h2).2⟩,fun b o hb=>?_,by rw[hne k e];exact h.last⟩
   rcases hkfp _ b o hb with ⟨h',_⟩ | ⟨_,h'⟩
   ·exact absurd h' e
   ·exact h.live b o h'
 ·rcases hkfp _ b o h1 with ⟨e1,g1⟩ | ⟨_,g1⟩
  ·rcases hkfp _ b o h2 with ⟨e2,g2⟩ | ⟨_,g2⟩
   ·exact hkk (e1.trans e2.symm)
   ·exact (hf b o g1).2.2.2.2.2 k' g2
  ·rcases hkfp _ b o h2 with ⟨e2,g2⟩ | ⟨_,g2⟩
   ·exact (hf b o g2).2.2.2.2.2 k g1
   ·exact R.disj k k' hkk b o g1 g2
 ·rcases hkfp _ b o h' with ⟨_,g⟩ | ⟨_,g⟩
  ·exact (hf b o g).2.2.2.1 h
  ·exact (R.imm b o h).2 k g
 ·rcases hkfp _ b o h with ⟨_,g⟩ | ⟨_,g⟩
  ·exact (hf b o g).2.2.2.2.1
  ·exact R.frK k b o g
 ·rw[if_neg (by omega)];exact R.gr s hs
theorem zj5 (Y:XF LO):∀ (j0:Nat) (l:List (Nat × List Nat)) (gl:List (Gh Unit)),l.length=gl.length→(∀ (j:Nat) (e:Nat × List Nat) (g:Gh Unit),l[j]?=some e→gl[j]?=some g→er (z5x X Y (j0+j) e)=z3r g) →
  erF (zf6 X (z2m X Y j0 l))=z26 (erF X) (l.zip gl)
 | j0,[],gl,hl,_=>by simp[z2m,zf6,z26]
 | j0,e :: l,[],hl,_=>by simp at hl
 | j0,e :: l,g :: gl,hl,h=>by
  simp only[z2m,zf6,List.zip_cons_cons,z26]
  rw[z03,z6s,zj5 Y (j0+1) l gl (by simpa using hl) (fun j e' g' h1 h2=>by
   have:=h (j+1) e' g' (by simpa using h1) (by simpa using h2)
   rwa [show j0+(j+1)=j0+1+j by omega] at this)]
  have:=h 0 e g rfl rfl
  simp only[sx] at this
  rw[this];rfl
theorem zrn {own:Bool}{args:Array Value}{Y:XF LO} {β':Nat→Nat × Nat}{I1 I2:z12}{rg':Nat→Value}{w':World}{gs':List (Gh Unit)}{r:AU}(L:Loans X β I w ls gs)
  (R':RelL (CC C X β I w ls own args) Y β' I1 rg' w') (hF:Fin (erF Y) gs' r) (hok:z6j gs gs'=true) (himm:own=true→gs'.all z5o=true)
  (hmem:∀ v,(own=true→z17 v=true)→Mem w' I1 v→Mem w' I2 v) {j:Nat} {e:Nat × List Nat} (hj:ls[j]?=some e) :
  (∃ g',gs'[j]?=some g'∧er (z5x X Y j e)=z3r g')∧Mem w' I2 (z5x X Y j e)∧Sep (z5x X Y j e)∧(∀ y,CR (z28 X e) y→CR (z5x X Y j e) y) ∧
   ∀ b o,fp (z5x X Y j e) b o→∃ k,k / 100=10000+j∧kfp β' Y k b o:=by
 obtain⟨g,hg,_,hnode,_,hmN,_,_,hor⟩:=L.at_ j e hj
 obtain⟨g',hg',hgg⟩:=(zdi hok).2 j g hg
 have hfin:=hF.2 j g' hg'
 have hjg:own=true→z5o g'=true:=fun h=>qe.1 (himm h) g' (pj hg')
 have hA:z5x X Y j e=(Y (z36 j)).2:=rfl
 have hk:=R'.key (z36 j)
 have hown:(z28 X e).own?=true∧∃ v,g=.nod v:=by
  rcases hor with ⟨l,s,n,cs,hN,rfl⟩ | ⟨l,cs,hN,rfl⟩
  ·rw[hN];exact⟨rfl,_,rfl⟩
  ·rw[hN];exact⟨rfl,_,rfl⟩
 obtain⟨hown,v0,rfl⟩:=hown
 have hreg:RR Y β' (Y (z36 j)).2 (zrl (z28 X e)):=by
  have h1:=R'.reg (10000+j)
  have hgr:rg' (10000+j)=zrl (z28 X e):=by
   rw[R'.gr (10000+j) (by omega)]
   show rgC X ls args (10000+j)=_
   simp only[rgC,if_neg (show ¬ 10000+j < 10000 by omega),show 10000+j - 10000=j by omega,qa,hj,px,Option.elim]
  rwa [hgr,show 100 * (10000+j)=z36 j from rfl] at h1
 cases g' with
 | box cs'=>simp [zvq] at hgg
 | nod v =>
  cases v with
  | sl o u s' n' cs' =>
   simp only[zvq] at hgg
   subst hgg
   have hfin':er (Y (z36 j)).2=.sl true () s' n' cs':=by simpa [erF,z36] using hfin
   obtain⟨l',lcs,hY,_⟩:=zbz hfin'
   rw[hA]
   refine⟨⟨_,hg',by rw[hfin',z3r]⟩,hmem _ (fun h=>?_) hk.mem,hk.sep,fun y hy=>?_,fun b o hb=>⟨z36 j,by unfold z36;omega,.inl hb⟩⟩
   ·rw[← z9t,hfin'];simpa [z5o] using hjg h
   ·rw[zn3 hown hy]
    rw[hY] at hreg ⊢
    simpa [RR] using hreg
  | bx o u cs' =>
   simp only[zvq] at hgg
   subst hgg
   have hfin':er (Y (z36 j)).2=.bx true () cs':=by simpa [erF,z36] using hfin
   obtain⟨l',lcs,hY,_⟩:=y3c hfin'
   rw[hA]
   refine⟨⟨_,hg',by rw[hfin',z3r]⟩,hmem _ (fun h=>?_) hk.mem,hk.sep,fun y hy=>?_,fun b o hb=>⟨z36 j,by unfold z36;omega,.inl hb⟩⟩
   ·rw[← z9t,hfin'];simpa [z5o] using hjg h
   ·rw[zn3 hown hy]
    rw[hY] at hreg ⊢
    simpa [RR] using hreg
  | dead =>
   have hfin':er (Y (z36 j)).2=.dead:=by simpa [erF,z36] using hfin
   have hY:(Y (z36 j)).2=.dead:=by
    revert hfin'
    cases (Y (z36 j)).2<;>simp [er]
   rw[hA]
   refine⟨⟨_,hg',by rw[hfin',z3r]⟩,by rw[hY];simp[Mem],by rw[hY];simp[Sep],fun y hy=>by rw[hY];simp[CR],fun b o hb=>by rw[hY] at hb;simp[fp] at hb⟩
  | _=>simp [zvq] at hgg
theorem z7j {own:Bool}{args:Array Value}{Y:XF LO} {β':Nat→Nat × Nat}{I1:z12}{rg':Nat→Value}{w':World}{gs':List (Gh Unit)}{r:AU}(R:RelL C X β I rg w)(L:Loans X β I w ls gs)
  (R':RelL (CC C X β I w ls own args) Y β' I1 rg' w') (hF:Fin (erF Y) gs' r) (hok:z6j gs gs'=true) (himm:own=true→gs'.all z5o=true∧z17 r=true) (hroot:roots r=[]) {d:Nat} (hd:d < 10000) :
  ∃ XL2 I2,erF XL2=(z26 (erF X) (ls.zip gs')).set (100 * d) r∧RelL C XL2 β I2 (fun s=>if s=d then rg' RS else rg s) w':=by
 -- what is immutable behind the call
 obtain⟨I2,h1,h2,h3,h4⟩:∃ I2:z12,(∀ b o,I b o→I2 b o)∧(∀ b o,I2 b o→I1 b o)∧(∀ b o,I2 b o→I b o∨(b < w'.heap.size∧(KC X ls b o∨w.heap.size≤b))) ∧
   (∀ v,(own=true→z17 v=true)→Mem w' I1 v→Mem w' I2 v):=by
  have hII:∀ b o,I b o→I1 b o:=fun b o h=>R'.frI0 b o (.inl h)
  cases own with
  | true=>exact ⟨I,fun _ _ h=>h,hII,fun _ _ h=>.inl h,fun v hv hm=>zaj v (hv rfl) hm⟩
  | false =>
   refine⟨I1,hII,fun _ _ h=>h,fun b o h=>?_,fun v _ hm=>hm⟩
   rcases R'.frI b o h with h' | h'
   ·rcases h' with h' | ⟨h',_⟩
    ·exact .inl h'
    ·cases h'
   ·exact .inr ⟨(R'.imm b o h).1,h'⟩
 have hfr:Frame (KC X ls) w w':=R'.fr
 have hKx:∀ k b o,kfp β' Y k b o→KC X ls b o∨w.heap.size≤b:=fun k b o h=>R'.frK k b o h
 have hA:∀ {j e},ls[j]?=some e→_:=fun {j e} hj=>zrn (I2:=I2) L R' hF hok (fun h=>(himm h).1) h4 (j:=j) (e:=e) hj
 have hl:∀ f ∈ z2m X Y 0 ls,LentOk X I2 w' (KC X ls) w.heap.size f:=by
  intro f hf
  obtain⟨j,e,hj,rfl⟩:=z2w.1 hf
  rw[sy]
  obtain⟨g,_,a1,a2,a3,_⟩:=L.at_ j e hj
  obtain⟨_,b2,b3,b4,b5⟩:=hA hj
  refine⟨a1,a2,a3,b4,b2,b3,fun b o hb=>?_⟩
  obtain⟨k,hk,hkb⟩:=b5 b o hb
  obtain⟨l1,l2,l3⟩:=(R'.key k).live b o hkb
  exact⟨hKx k b o hkb,l1,l2,l3,fun h=>(R'.imm b o (h2 b o h)).2 k hkb⟩
 have hn:((z2m X Y 0 ls).map (·.k)).Nodup:=by rw[zfb];exact L.nd
 have RB:=R.comeback (z2m X Y 0 ls) hn (KC X ls) hl (fun b o hb=>by
   obtain⟨e,he,hb⟩:=hb
   obtain⟨j,hj⟩:=pq he
   exact⟨_,z2w.2 ⟨j,e,hj,rfl⟩,hb⟩)
  (fun f hf f' hf' hne b o g1 g2=>by
   obtain⟨j,e,hj,rfl⟩:=z2w.1 hf
   obtain⟨j',e',hj',rfl⟩:=z2w.1 hf'
   rw[sy] at g1 g2
   obtain⟨k,hk,q1⟩:=(hA hj).2.2.2.2 b o g1
   obtain⟨k',hk',q2⟩:=(hA hj').2.2.2.2 b o g2
   refine R'.disj k k' (fun e=>?_) b o q1 q2
   have:j=j':=by omega
   subst this
   rw[hj] at hj'
   cases hj'
   exact hne rfl)
  hfr h1 h3
 have hE:erF (zf6 X (z2m X Y 0 ls))=z26 (erF X) (ls.zip gs'):=zj5 Y 0 ls gs' (by rw[L.len];exact (zdi hok).1) fun j e g hj hg=>by
  obtain⟨⟨g',q1,q2⟩,_⟩:=hA hj
  rw[hg] at q1
  cases q1
  rw[sy];exact q2
 -- the result
 have hr:er (Y (100 * RS)).2=r:=hF.1
 have hkr:=R'.key (100 * RS)
 have hreg:=R'.reg RS
 refine⟨(zf6 X (z2m X Y 0 ls)).set (100 * d) (Y (100 * RS)).2,I2,by rw[z03,hE,hr],?_⟩
 refine RB.putOwn d hd (h4 _ (fun h=>by rw[← z9t,hr];exact (himm h).2) hkr.mem) hkr.sep (z5e _ _ (by rw[← z69,hr];exact hroot) hreg) fun b o hb=>?_
 have hkb:kfp β' Y (100 * RS) b o:=.inl hb
 obtain⟨l1,l2,l3⟩:=hkr.live b o hkb
 refine⟨l1,l2,l3,fun h=>(R'.imm b o (h2 b o h)).2 _ hkb,?_,fun k hk=>?_⟩
 ·rcases hKx _ b o hkb with ⟨e,he,h⟩ | h
  ·obtain⟨j,hj⟩:=pq he
   obtain⟨_,_,_,_,_,_,_,q1,_⟩:=L.at_ j e hj
   exact R.frK e.1 b o (q1 b o h)
  ·exact .inr (bb R.fr.size h)
 ·-- nobody else has it
  by_cases hlk:∃ (j:Nat) (e:Nat × List Nat),ls[j]?=some e∧e.1=k
  ·obtain⟨j,e,hj,rfl⟩:=hlk
   obtain⟨g,_,a1,a2,a3,a4,a5,a6,_⟩:=L.at_ j e hj
   have hmemf:(⟨e.1,e.2,z28 X e,z5x X Y j e⟩:Lent) ∈ z2m X Y 0 ls:=z2w.2 ⟨j,e,hj,by rw[sy]⟩
   have hback:=z6v (X:=X) hmemf hn
   have hkey:=R.key e.1
   have rp:=zmd e.2 (X e.1).2 hkey.mem hkey.sep a3 a1
   have hnon:(X e.1).2 ≠ .non:=z1w (z1m a1 a2)
   -- either it was the key's ahead of the call, or it came zf6
   have hcase:(kfp β X e.1 b o∧¬ fp (z28 X e) b o)∨fp (z5x X Y j e) b o:=by
    rcases hk with hk | ⟨g1,_,g3⟩
    ·rw[hback] at hk
     rcases rp.fps _ b o hk with h | h
     ·exact .inl ⟨.inl h.1,h.2⟩
     ·exact .inr h
    ·refine .inl ⟨.inr ⟨g1,hnon,g3⟩,fun h=>(hkey.cell g1 hnon).2 ?_⟩
     have:=rp.sub b o h
     rwa [g3.1,g3.2] at this
   rcases hcase with ⟨q1,q2⟩ | q
   ·rcases hKx _ b o hkb with ⟨e',he',h⟩ | h
    ·obtain⟨j',hj'⟩:=pq he'
     obtain⟨_,_,_,_,_,_,_,q1',_⟩:=L.at_ j' e' hj'
     by_cases hee:e.1=e'.1
     ·have:=L.inj hj hj' hee
      subst this
      rw[hj] at hj'
      cases hj'
      exact q2 h
     ·exact R.disj e.1 e'.1 hee b o q1 (q1' b o h)
    ·have:=(hkey.live b o q1).1
     omega
   ·obtain⟨k',hk',q'⟩:=(hA hj).2.2.2.2 b o q
    exact R'.disj k' (100 * RS) (fun e=>by rw[e] at hk';unfold RS at hk';omega) b o q' hkb
  ·have hb':zf6 X (z2m X Y 0 ls) k=X k:=zhj fun f hf h=>hlk (by
    obtain⟨j,e,hj,rfl⟩:=z2w.1 hf
    exact⟨j,e,hj,h⟩)
   rw[kfp,hb'] at hk
   rcases hKx _ b o hkb with ⟨e',he',h⟩ | h
   ·obtain⟨j',hj'⟩:=pq he'
    obtain⟨_,_,_,_,_,_,_,q1',_⟩:=L.at_ j' e' hj'
    exact R.disj k e'.1 (fun e=>hlk ⟨j',e',hj',e.symm⟩) b o hk (q1' b o h)
   ·have:=((R.key k).live b o hk).1
    omega
end
def z3s (nt:Nat):List Nat→List Operand→Option (List COd)
 | s :: ss,x :: xs=>match compOd nt s x,z3s nt ss xs with
  | some c,some cs=>some (c :: cs)
  | _,_=>none
 | [],[]=>some []
 | _,_=>none
def z13 (X:XF Unit)(ls:List (Nat × List Nat))(own:Bool):List COd→Option (List AU)
 | []=>some []
 | c :: cs=>match trA X ls own (zn1 c) (rd X c),z13 X ls own cs with
  | some a,some as=>some (a :: as)
  | _,_=>none
section
variable {C:Ctx} {X:XF LO} {β:Nat→Nat × Nat} {I:z12} {rg:Nat→Value} {w:World} {ls:List (Nat × List Nat)} {gs:List (Gh Unit)}
theorem z5y (R:RelL C X β I rg w){own:Bool}{I0:z12}{X0:XF LO} {β0:Nat→Nat × Nat}(H:CalleeOk C X β I w ls own I0 X0 β0){nt:Nat} :
  ∀ (ss:List Nat) (xs:List Operand) (cs:List COd) (as:List AU),z3s nt ss xs=some cs→z13 (erF X) ls own cs=some as →
   ∃ las:List AL,las.map er=as∧las.length=xs.length∧∀ (t:Nat) (la:AL) (x:Operand),las[t]?=some la→xs[t]?=some x→RR X0 β0 la (evR rg x)∧Mem w I0 la∧z0a la=true
 | [],[],cs,as,h,ht=>by
  simp only[z3s,pe] at h
  subst h
  simp only[z13,pe] at ht
  exact⟨[],by simp[ht],rfl,by simp⟩
 | [],_ :: _,cs,as,h,ht=>by simp[z3s] at h
 | _ :: _,[],cs,as,h,ht=>by simp[z3s] at h
 | s :: ss,x :: xs,cs,as,h,ht=>by
  simp only[z3s] at h
  split at h
  ·rename_i c cs' h1 h2
   simp only[pe] at h
   subst h
   simp only[z13] at ht
   split at ht
   ·rename_i a as' g1 g2
    simp only[pe] at ht
    subst ht
    obtain⟨lv,e1,e2,e3,e4⟩:=yn1 R h1
    rw[← e1] at g1
    obtain⟨la,f1,f2,f3,f4⟩:=zu0 H _ lv _ a e2 e3 e4 g1
    obtain⟨las,k1,k2,k3⟩:=z5y R H ss xs cs' as' h2 g2
    refine⟨la :: las,by simp[f1,k1],by simp[k2],fun t la' x' q1 q2=>?_⟩
    cases t with
    | zero=>simp at q1 q2;subst q1 q2;exact⟨f2,f3,f4⟩
    | succ t=>exact k3 t la' x' (by simpa using q1) (by simpa using q2)
   ·cases ht
  ·cases h
end
theorem zn5 {C:Ctx}{o:Oper}{X:XF Unit}{ls:List (Nat × List Nat)}{gs gs':List (Gh Unit)}{as:List AU}{r:AU}{own:Bool}{d:Nat}{f:FuncId}{xs:Array Operand}{tys:Array TypeId}{ss:List Nat}{cs:List COd}
  (hdst:o.dst=some d) (hlt:d < C.nt) (hin:z0r C.nt o=true) (hop:o.op=.call ⟨.value (.func f),xs,tys⟩) (hcs:z3s C.nt ss xs.toList=some cs)
  (hgs:ls.mapM (z9u X)=some gs) (hnd:(ls.map (·.1)).Nodup) (has:z13 X ls own cs=some as) (hlen:xs.size≤9000)
  (hrun:∀ args w,(callFunc f args).run C.P w=.ok (.enter f args) w) (hfn:Fn C.P f gs as gs' r) (hok:z6j gs gs'=true) (himm:own=true→gs'.all z5o=true∧z17 r=true) (hroot:roots r=[]) :
  OpOk C o X ((z26 X (ls.zip gs')).set (100 * d) r):=by
 rintro a w hdef ⟨XL,β,I,rg,he,R,hs,ht⟩ K Q hK
 subst he
 have L:=n5 R hgs hnd
 obtain⟨las,e1,e2,e3⟩:=z5y R (z6b R L own) ss xs.toList cs as hcs has
 have hxs:las.length=xs.size:=by simpa using e2
 have hval:∀ t,t < las.length→(xs.map (evR rg)).getD t undef=evR rg (xs.toList.getD t (.const undef)):=by
  intro t htl
  simp[pn,ph,show t < xs.size by omega]
 have R0:=z7i (own:=own) (args:=xs.map (evR rg)) R L (las:=las) (by simp[hxs]) (fun t la h=>by
  have hlt':t < las.length:=(pk.1 h).1
  have hx:xs.toList[t]?=some (xs.toList[t]'(by simpa using hxs ▸ hlt')):=pi _
  rw[hval t hlt',ph,hx]
  exact e3 t la _ h hx)
 have hcall:=hfn (CC C XL β I w ls own (xs.map (evR rg))) (XC XL ls las) (βC XL ls) (IC XL β I ls own) (rgC XL ls (xs.map (evR rg))) w (xs.map (evR rg)) rfl (by rw[zfa L,e1]) R0
  (by rw[← e1];simp[hxs]) (fun t htl=>by
   rw[← e1] at htl
   simp only[r5,hxs] at htl
   simp only[rgC,if_pos (show t < 10000 by omega)])
 have hexec:(execOp (evR rg) o).run C.P w=.ok (.enter f (xs.map (evR rg))) w:=by
  simp only[execOp,hop,resolve,evR,Deferred.ofValue]
  simp only[qk,s4,qg,invoke,Array.append_empty,Array.empty_append,hrun]
 unfold Oper.wp
 rw[zae hin ht,hexec,Oper.upon_enter]
 refine Calls.mono hcall fun e w' hq=>?_
 obtain⟨x,XL',β',I',rg',rfl,R',hx,hF⟩:=hq
 obtain⟨XL2,I2,f1,f2⟩:=z7j R L R' hF hok himm hroot (d:=d) (by have:=C.hnt;omega)
 refine hK _ _ (by simp[Act.put,hdst,hdef]) ⟨XL2,β,I2,_,f1,f2,by simp[Act.put,hdst,hs],fun t htl=>?_⟩
 simp only[Act.put,hdst]
 by_cases e:t=d
 ·subst e;simp[pn,hs,hlt,hx]
 ·simp only[e,if_false]
  rw[← ht t htl]
  simp[pn,qv (Ne.symm e)]
def z14 (k:Nat):Nat:=if k % 100=0 then 2 * (k / 100) else 2 * k+1
def mix (D:List Nat)(Y X:XF Unit):XF Unit:=fun k=>if z14 k ∈ D then Y k else X k
structure LStep (C:Ctx) (ops:Array Oper) (o:Oper) (R D:List Nat) (Y Y':XF Unit):Prop where
 sub:∀ u ∈ D,u ∈ R
 out:∀ k,z14 k ∉ D→Y' k=Y k
 step:∀ X,(∀ k,z14 k ∈ R→X k=Y k)→GStep C ops o X (mix D Y' X)
theorem zdj {X Y:XF Unit}{d:Nat}{v:AU}(h:X (100 * d)=Y (100 * d)):mix [2 * d] (Y.set (100 * d) v) X=X.set (100 * d) v:=by
 funext k
 simp only[mix,XF.set,rm]
 by_cases hk:k=100 * d
 ·subst hk
  have:z14 (100 * d)=2 * d:=by unfold z14;rw[if_pos (by omega)];omega
  simp[this,h]
 ·have:z14 k ≠ 2 * d:=by unfold z14;split<;>omega
  simp[this,hk]
def z1y (o:Oper):List Nat:=o.after.toList.filterMap fun e=>if Region.binds .any e then some e.on else none
def clos:List (List Nat)→List (List Nat)→List (List Nat)
 | acc,[]=>acc
 | acc,ds :: l=>clos (acc ++ [(ds ++ ds.flatMap fun j=>acc.getD j []).eraseDups]) l
def zdk:Nat→List (List Nat)→Bool
 | _,[]=>true
 | i,ds :: l=>ds.all (fun j=>j < i) && zdk (i+1) l
def y3q (a b:List Nat):Bool:=a.all fun x=>!b.contains x
def zhl (cl:List (List Nat))(l:List (List Nat × List Nat)):Bool :=
 (List.range l.length).all fun i=>(List.range i).all fun j =>
  (cl.getD i []).contains j || (y3q (l.getD j ([],[])).2 (l.getD i ([],[])).1 && y3q (l.getD i ([],[])).2 (l.getD j ([],[])).1)
def z7k (pl:List (List Nat))(l:List (List Nat × List Nat)):Bool:=zdk 0 pl && zhl (clos [] pl) l
theorem z8l:∀ {l:List (List Nat)} {i m:Nat} {ds:List Nat},zdk i l=true→l[m]?=some ds→∀ j ∈ ds,j < i+m
 | [],i,m,ds,_,h=>by simp at h
 | a :: l,i,m,ds,hp,h=>by
  simp only[zdk,pm,qe,decide_eq_true_eq] at hp
  cases m with
  | zero=>simp at h;subst h;exact hp.1
  | succ m =>
   have:=z8l hp.2 (by simpa using h)
   intro j hj
   have:=this j hj
   omega
theorem zhm {pl:List (List Nat)}(L:Nat→Bool):∀ (l acc:List (List Nat)) (n:Nat),acc.length=n→(∀ m,l[m]?=pl[n+m]?)→(∀ i ds,i < n→pl[i]?=some ds→(∀ d ∈ ds,L d=true)→∀ j ∈ acc.getD i [],L j=true) →
  (∀ i ds,L i=true→pl[i]?=some ds→∀ d ∈ ds,L d=true)→∀ i ds,pl[i]?=some ds→(∀ d ∈ ds,L d=true)→∀ j ∈ (clos acc l).getD i [],L j=true
 | [],acc,n,hn,hl,ha,hc,i,ds,hi,hd,j,hj=>by
  simp only[clos] at hj
  by_cases hlt:i < n
  ·exact ha i ds hlt hi hd j hj
  ·rw[ph,qi (by omega)] at hj;simp at hj
 | a :: l,acc,n,hn,hl,ha,hc,i,ds,hi,hd,j,hj=>by
  simp only[clos] at hj
  refine zhm L l _ (n+1) (by simp[hn]) (fun m=>by have:=hl (m+1);simp at this;rw[this];congr 1;omega) (fun i ds hlt hi hd j hj=>?_) hc i ds hi hd j hj
  by_cases h:i < n
  ·rw[ph,qc (by omega)] at hj
   exact ha i ds h hi hd j (by rwa [ph])
  ·have hin:i=n:=by omega
   subst hin
   rw[ph,qf (by omega),hn] at hj
   simp only[Nat.sub_self,tp,ro,List.mem_eraseDups,qh,List.mem_flatMap] at hj
   have h0:=hl 0
   simp at h0
   rw[hi] at h0
   cases h0
   rcases hj with hj | ⟨m,hm,hj⟩
   ·exact hd j hj
   ·have hLm:=hd m hm
    by_cases hmn:m < i
    ·cases hpm:pl[m]? with
     | none =>
      rw[List.getElem?_eq_none_iff] at hpm
      have:=(pk.1 hi).1
      omega
     | some dm=>exact ha m dm hmn hpm (hc m dm hLm hpm) j hj
    ·rw[ph,qi (by omega)] at hj;simp at hj
theorem zan {p q:Nat→Bool}(hpq:∀ x,q x=true→p x=true){i:Nat}(hp:p i=true)(hq:q i=false):∀ {l:List Nat},i ∈ l→(l.filter q).length < (l.filter p).length
 | a :: l,h=>by
  have hle:∀ l:List Nat,(l.filter q).length≤(l.filter p).length:=by
   intro l
   induction l with
   | nil=>simp
   | cons b l ih =>
    simp only[List.filter_cons]
    cases hb:q b with
    | true=>simp [hpq b hb];exact ih
    | false=>cases p b<;>simp<;>omega
  simp only[List.filter_cons]
  rcases qj.1 h with rfl | h
  ·simp[hp,hq];have:=hle l;omega
  ·have ih:=zan hpq hp hq h
   cases hb:q a with
   | true=>simp [hpq a hb];exact ih
   | false=>cases p a<;>simp<;>omega
def z4l (Y:Nat→XF Unit)(D:Nat→List Nat)(L:Nat→Bool):Nat→XF Unit
 | 0=>Y 0
 | m+1=>if L m=true then mix (D m) (Y (m+1)) (z4l Y D L m) else z4l Y D L m
theorem p8 {C:Ctx}{id:Nat}{ops:Array Oper}{Q:Ex→XF Unit→Prop}(hm:C.P.follows .mixedOrders=true)(Y:Nat→XF Unit)(R D:Nat→List Nat)(pl:List (List Nat))(l:List (List Nat × List Nat))
  (hl:l.length=ops.size) (hRD:∀ i,i < ops.size→l.getD i ([],[])=(R i,D i)) (hpl:ops.toList.map z1y=pl)
  (hs:∀ i,i < ops.size→∃ o,ops[i]?=some o∧LStep C ops o (R i) (D i) (Y i) (Y (i+1))) (hok:z7k pl l=true) (hq:Q .nrm (Y ops.size)):AWp C (.region id ops true) (Y 0) Q:=by
 simp only[z7k,pm] at hok
 obtain⟨hlt,hpairs⟩:=hok
 have hpa:∀ (i:Nat) (o:Oper),ops[i]?=some o→pl[i]?=some (z1y o):=by
  intro i o h
  rw[← hpl]
  simp[h]
 have hpair:∀ i j,i < ops.size→j < i→j ∈ (clos [] pl).getD i []∨((∀ u ∈ D j,u ∉ R i)∧(∀ u ∈ D i,u ∉ R j)):=by
  intro i j hi hj
  simp only[zhl,qe,ql,hl] at hpairs
  have:=hpairs i hi j hj
  simp only[qp,pm,te,hRD i hi,hRD j (by omega)] at this
  rcases this with h | h
  ·exact .inl h
  ·refine .inr ⟨fun u hu=>?_,fun u hu=>?_⟩
   ·have:=qe.1 h.1 u hu;simpa using this
   ·have:=qe.1 h.2 u hu;simpa using this
 -- one listed set after the other
 have key:∀ (fuel:Nat) (listed:Array Bool) (a:Act) (w:World),listed.size=ops.size →
   (∀ i o,listed.getD i false=true→ops[i]?=some o→∀ d ∈ z1y o,listed.getD d false=true) →
   ((List.range ops.size).filter fun i=>!listed.getD i true).length≤fuel→a.defers=[]→RelT C (z4l Y D (fun i=>listed.getD i false) ops.size) a.tmps w →
   wpAny C.P .any ops (CQ C Q) fuel listed a w:=by
  intro fuel
  induction fuel with
  | zero =>
   intro listed a w hsz hcl hcnt hd hr
   have hall:∀ i,i < ops.size→listed.getD i true=true:=by
    intro i hi
    cases h:listed.getD i true with
    | true=>rfl
    | false =>
     exfalso
     have:i ∈ (List.range ops.size).filter fun i=>!listed.getD i true:=by simp only[List.mem_filter,ql,hi,h,Bool.not_false,and_self]
     have h0:=ry (Nat.le_zero.1 hcnt)
     rw[h0] at this
     cases this
   have hempty:Region.ready .any ops listed=[]:=by
    rw[List.eq_nil_iff_forall_not_mem]
    intro i hi
    rw[mem_ready] at hi
    obtain⟨h0,o,ho,_⟩:=hi
    have:=hall i (rt.1 ho).1
    rw[h0] at this
    cases this
   refine⟨hempty,hd,_,hr,?_⟩
   have:∀ m,m≤ops.size→z4l Y D (fun i=>listed.getD i false) m=Y m:=by
    intro m
    induction m with
    | zero=>intro _;rfl
    | succ m ih =>
     intro hm
     obtain⟨o,_,hst⟩:=hs m (by omega)
     have hL:listed.getD m false=true:=by
      have:=hall m (by omega)
      simp only[pn,s5 (show m < listed.size by omega),ro] at this ⊢
      exact this
     simp only[z4l,hL,if_true,ih (by omega)]
     funext k
     simp only[mix]
     split
     ·rfl
     ·rename_i hk;exact (hst.out k hk).symm
   rw[this _ (pr _)]
   exact hq
  | succ fuel ih =>
   intro listed a w hsz hcl hcnt hd hr
   refine⟨fun hempty=>?_,fun i hi=>?_⟩
   ·-- nothing is ready: all is done
    have hall:∀ i,i < ops.size→listed.getD i false=true:=by
     intro i
     induction i using Nat.strongRecOn with
     | _ i ihi =>
      intro hi
      cases h:listed.getD i false with
      | true=>rfl
      | false =>
       exfalso
       obtain⟨o,ho,_⟩:=hs i hi
       have hin:i ∈ Region.ready .any ops listed:=by
        rw[mem_ready]
        refine⟨by
         simp only[pn,s5 (show i < listed.size by omega),ro] at h ⊢
         exact h,o,ho,fun e he hb=>?_⟩
        have hdp:e.on ∈ z1y o:=by
         simp only[z1y,List.mem_filterMap]
         exact⟨e,by simpa using he,by rw[if_pos hb]⟩
        have hlt':=z8l hlt (hpa i o ho) e.on hdp
        exact ihi e.on (by omega) (by omega)
       rw[hempty] at hin
       cases hin
    refine⟨hd,_,hr,?_⟩
    have:∀ m,m≤ops.size→z4l Y D (fun i=>listed.getD i false) m=Y m:=by
     intro m
     induction m with
     | zero=>intro _;rfl
     | succ m ih =>
      intro hm
      obtain⟨o,_,hst⟩:=hs m (by omega)
      simp only[z4l,hall m (by omega),if_true,ih (by omega)]
      funext k
      simp only[mix]
      split
      ·rfl
      ·rename_i hk;exact (hst.out k hk).symm
    rw[this _ (pr _)]
    exact hq
   ·-- one that is ready
    rw[mem_ready] at hi
    obtain⟨h0,o,ho,hpre⟩:=hi
    have hisz:i < ops.size:=(rt.1 ho).1
    have hi0:listed.getD i false=false:=by
     simp only[pn,s5 (show i < listed.size by omega),ro] at h0 ⊢
     exact h0
    obtain⟨o',ho',hst⟩:=hs i hisz
    rw[ho] at ho'
    cases ho'
    have hpre':∀ d ∈ z1y o,listed.getD d false=true:=by
     intro d hdm
     simp only[z1y,List.mem_filterMap] at hdm
     obtain⟨e,he,hde⟩:=hdm
     split at hde
     ·rename_i hb
      cases hde
      exact hpre e (by simpa using he) hb
     ·cases hde
    have hclo:∀ m o',ops[m]?=some o'→(∀ d ∈ z1y o',listed.getD d false=true)→∀ j ∈ (clos [] pl).getD m [],listed.getD j false=true:=by
     intro m o' hm' hd' j hj
     refine zhm (pl:=pl) (fun i=>listed.getD i false) pl [] 0 rfl (by simp) (by simp) (fun i ds hL hds d hdd=>?_) m _ (hpa m o' hm') hd' j hj
     have hi':i < ops.size:=by
      have:=(pk.1 hds).1
      rw[← hpl] at this
      simpa using this
     have hoi:ops[i]?=some ops[i]:=s5 hi'
     rw[hpa i _ hoi] at hds
     cases hds
     exact hcl i _ hL hoi d hdd
    -- apart from what is not done below i, and what is done above it
    have hbelow:∀ m,m < i→listed.getD m false=false→∀ u ∈ D m,u ∉ R i:=by
     intro m hmi hmL
     rcases hpair i m hisz hmi with h | h
     ·have:=hclo i o ho hpre' m h
      rw[hmL] at this
      cases this
     ·exact h.1
    have habove:∀ m,i < m→m < ops.size→listed.getD m false=true→(∀ u ∈ D m,u ∉ R i)∧(∀ u ∈ D i,u ∉ R m):=by
     intro m hmi hms hmL
     rcases hpair m i hms hmi with h | h
     ·have hom:ops[m]?=some ops[m]:=s5 hms
      have:=hclo m _ hom (hcl m _ hmL hom) i h
      rw[hi0] at this
      cases this
     ·exact⟨h.2,h.1⟩
    have hA:∀ m,m≤i→∀ k,z14 k ∈ R i→z4l Y D (fun i=>listed.getD i false) m k=Y m k:=by
     intro m
     induction m with
     | zero=>intro _ k _;rfl
     | succ m ihm =>
      intro hmi k hk
      obtain⟨om,_,hstm⟩:=hs m (by omega)
      simp only[z4l]
      by_cases hL:listed.getD m false=true
      ·rw[if_pos hL]
       simp only[mix]
       split
       ·rfl
       ·rename_i hkd;rw[ihm (by omega) k hk,hstm.out k hkd]
      ·rw[if_neg hL,ihm (by omega) k hk]
       exact (hstm.out k (fun hu=>hbelow m (by omega) (by simpa using hL) _ hu hk)).symm
    have hB:∀ n,∀ k,z14 k ∈ R i→i+n≤ops.size→z4l Y D (fun i=>listed.getD i false) (i+n) k=Y i k:=by
     intro n
     induction n with
     | zero=>intro k hk _;exact hA i (pr _) k hk
     | succ n ihn =>
      intro k hk hle
      rw[← qq]
      simp only[z4l]
      by_cases hL:listed.getD (i+n) false=true
      ·rw[if_pos hL]
       simp only[mix]
       have hne:0 < n:=by
        rcases Nat.eq_zero_or_pos n with h | h
        ·subst h;simp only[sx] at hL;rw[hi0] at hL;cases hL
        ·exact h
       rw[if_neg (fun hu=>(habove (i+n) (by omega) (by omega) hL).1 _ hu hk)]
       exact ihn k hk (by omega)
      ·rw[if_neg hL]
       exact ihn k hk (by omega)
    have hag:∀ k,z14 k ∈ R i→z4l Y D (fun i=>listed.getD i false) ops.size k=Y i k:=by
     intro k hk
     have:=hB (ops.size - i) k hk (by omega)
     rwa [show i+(ops.size - i)=ops.size by omega] at this
    have hset:∀ m,(listed.setIfInBounds i true).getD m false=if m=i then true else listed.getD m false:=by
     intro m
     by_cases e:m=i
     ·subst e
      simp[pn,hsz,hisz]
     ·simp only[pn,qv (Ne.symm e),e,if_false]
    obtain⟨L',hL'⟩:∃ L':Nat→Bool,L'=fun j=>(listed.setIfInBounds i true).getD j false:=⟨_,rfl⟩
    have hset':∀ m,L' m=if m=i then true else listed.getD m false:=by rw[hL'];exact hset
    have hC0:∀ m,m≤i→z4l Y D L' m=z4l Y D (fun i=>listed.getD i false) m:=by
     intro m
     induction m with
     | zero=>intro _;rfl
     | succ m ihm =>
      intro hmi
      simp only[z4l,hset',show m ≠ i by omega,if_false,ihm (by omega)]
    have hC:∀ n,i+1+n≤ops.size→z4l Y D L' (i+1+n)=mix (D i) (Y (i+1)) (z4l Y D (fun i=>listed.getD i false) (i+1+n)):=by
     intro n
     induction n with
     | zero =>
      intro _
      simp only[sx,z4l,hset',if_true,hC0 i (pr _),hi0,pu,if_false]
     | succ n ihn =>
      intro hle
      rw[← qq]
      simp only[z4l,hset',show i+1+n ≠ i by omega,if_false,ihn (by omega)]
      by_cases hL:listed.getD (i+1+n) false=true
      ·rw[if_pos hL,if_pos hL]
       have hap:=habove (i+1+n) (by omega) (by omega) hL
       obtain⟨_,_,hstm⟩:=hs (i+1+n) (by omega)
       funext k
       simp only[mix]
       by_cases hu:z14 k ∈ D (i+1+n)
       ·by_cases hu':z14 k ∈ D i
        ·exact absurd (hst.sub _ hu') (hap.1 _ hu)
        ·simp[hu,hu']
       ·simp[hu]
      ·rw[if_neg hL,if_neg hL]
    have hnew:z4l Y D L' ops.size=mix (D i) (Y (i+1)) (z4l Y D (fun i=>listed.getD i false) ops.size):=by
     have:=hC (ops.size - (i+1)) (by omega)
     rwa [show i+1+(ops.size - (i+1))=ops.size by omega] at this
    refine (hst.step _ hag).wpOp ho hd hr fun a' w' hd' hr'=>?_
    refine ih _ a' w' (by simp[hsz]) (fun m om hL hom d hdd=>?_) ?_ hd' (by rw[hL'] at hnew;rw[hnew];exact hr')
    ·rw[hset] at hL ⊢
     by_cases ed:d=i
     ·rw[if_pos ed]
     ·rw[if_neg ed]
      by_cases em:m=i
      ·rw[em,ho] at hom
       cases hom
       exact hpre' d hdd
      ·rw[if_neg em] at hL
       exact hcl m om hL hom d hdd
    ·have:=zan (p:=fun i=>!listed.getD i true) (q:=fun j=>!(listed.setIfInBounds i true).getD j true) (fun x hx=>by
       by_cases e:x=i
       ·subst e;simp[h0]
       ·rwa [getD_set_ne true (Ne.symm e)] at hx) (i:=i) (by simp[h0]) (by simp[pn,hsz,hisz]) (ql.2 hisz)
     omega
 intro a w hd hr
 refine wp_region_any hm (key ops.size _ a _ (by simp) (fun i o h=>?_) ?_ hd ?_)
 ·simp only[pn,tg] at h
  split at h<;>simp at h
 ·exact bb (List.length_filter_le _ _) (by simp)
 ·have hz:∀ m,z4l Y D (fun i=>(Array.replicate ops.size false).getD i false) m=Y 0:=by
   intro m
   induction m with
   | zero=>rfl
   | succ m ih =>
    have:(Array.replicate ops.size false).getD m false=false:=by
     simp only[pn,tg]
     split<;>rfl
    simp only[z4l,this,pu,if_false,ih]
  rw[hz]
  obtain⟨XL,β,I,rg,he,Rr,h1,h2⟩:=hr
  exact⟨XL,β,I,rg,he,Rr.world (z3a _ w),h1,h2⟩
inductive LRun (C:Ctx) (ops:Array Oper):Nat→XF Unit→XF Unit→List (List Nat × List Nat)→Prop
 | nil {i:Nat} {X:XF Unit} (h:i=ops.size):LRun C ops i X X []
 | cons {i:Nat} {o:Oper} {R D:List Nat} {X X1 X':XF Unit} {l:List (List Nat × List Nat)} (hi:ops[i]?=some o) (h:LStep C ops o R D X X1) (r:LRun C ops (i+1) X1 X' l):LRun C ops i X X' ((R,D) :: l)
theorem LRun.states {C:Ctx}{ops:Array Oper}{i:Nat}{X X':XF Unit}{l:List (List Nat × List Nat)}(h:LRun C ops i X X' l) :
  i+l.length=ops.size∧∃ Y:Nat→XF Unit,Y i=X∧Y ops.size=X'∧∀ m,i≤m→m < ops.size→∃ o,ops[m]?=some o∧LStep C ops o (l.getD (m - i) ([],[])).1 (l.getD (m - i) ([],[])).2 (Y m) (Y (m+1)):=by
 induction h with
 | nil h=>exact ⟨by simp[h],fun _=>_,rfl,rfl,fun m h1 h2=>by omega⟩
 | @cons i o R D X X1 X' l hi h r ih =>
  obtain⟨hlen,Y,h1,h2,h3⟩:=ih
  refine⟨by simp;omega,fun m=>if m≤i then X else Y m,by simp,?_,fun m hm1 hm2=>?_⟩
  ·have:i < ops.size:=(rt.1 hi).1
   simp[show ¬ ops.size≤i by omega,h2]
  ·by_cases e:m=i
   ·subst e
    refine⟨o,hi,?_⟩
    simpa [h1,show ¬ m+1≤m by omega] using h
   ·obtain⟨o',ho',hst⟩:=h3 m (by omega) hm2
    refine⟨o',ho',?_⟩
    simp only[show ¬ m≤i by omega,show ¬ m+1≤i by omega,if_false]
    rw[show m - i=(m - (i+1))+1 by omega]
    simpa using hst
theorem AWp.draw {C:Ctx}{id:Nat}{ops:Array Oper}{X X':XF Unit}{Q:Ex→XF Unit→Prop}{l:List (List Nat × List Nat)}{pl:List (List Nat)}(hm:C.P.follows .mixedOrders=true)(h:LRun C ops 0 X X' l)
  (hpl:ops.toList.map z1y=pl) (hok:z7k pl l=true) (hq:Q .nrm X'):AWp C (.region id ops true) X Q:=by
 obtain⟨hlen,Y,rfl,rfl,h3⟩:=h.states
 exact p8 hm Y (fun i=>(l.getD i ([],[])).1) (fun i=>(l.getD i ([],[])).2) pl l (by omega) (fun i _=>rfl) hpl (fun i hi=>by
  obtain⟨o,ho,hst⟩:=h3 i (rh _) hi
  exact⟨o,ho,by simpa using hst⟩) hok hq
theorem y3r {C:Ctx}{o:Oper}{X:XF Unit}{d sz:Nat}{mx:Bool}{x y:Operand}{tys:Array TypeId}{c e:COd}{u v r:Value}(ho:o.op=.call ⟨.builtin (if mx then .max else .min),#[x,y],tys⟩)(hd:o.dst=some d)(hlt:d < C.nt)(hin:z0r C.nt o=true)
  (hc:compOd C.nt sz x=some c) (hy:compOd C.nt sz y=some e) (hx:rd X c=.sc u) (hx':rd X e=.sc v) (hr:zvh mx u v=some r):OpOk C o X (X.set (100 * d) (.sc r)) :=
 wm hd hlt hin fun XL β I rg w he R=>by
  have h:=opd R hc
  have h':=opd R hy
  rw[he,hx] at h
  rw[he,hx'] at h'
  cases u<;>cases v<;>simp [zvh] at hr
  obtain⟨rfl,rfl⟩:=hr
  cases mx
  ·simp[execOp,ho,resolve,invoke,builtin,Builtin.min_,Builtin.min2,h.sc,h'.sc]
  ·simp[execOp,ho,resolve,invoke,builtin,Builtin.max_,Builtin.max2,h.sc,h'.sc]
def z7l {L:Type}:AV L→Option (List (AV L))
 | .agg vs=>some vs
 | .sc v=>if v.oneCell' then some [.sc v] else none
 | .sl o l s n cs=>some [.sl o l s n cs]
 | .bx o l cs=>some [.bx o l cs]
 | .vptr l cs=>some [.vptr l cs]
 | .clos f cs=>some [.clos f cs]
 | .view k g p off len=>some [.view k g p off len]
 | .ptr k g p i=>some [.ptr k g p i]
 | _=>none
def z6w {L:Type}(X:XF L):AV L→Bool
 | .view k g _ _ _=>(X k).1 == g
 | .ptr k g _ _=>(X k).1 == g
 | _=>true
theorem zj6 (X:XF LO)(v:AL):z6w (erF X) (er v)=z6w X v:=by cases v<;>simp [er,z6w,erF]
def rdC (X:XF Unit)(c:COd):AU:=if z6w X (rd X c)=true then rd X c else .non
def setR {L:Type}(off:Nat)(cells vs:List L):List L:=vs.zipIdx.foldl (fun cs p=>cs.set (off+p.2) p.1) cells
def zc3 (cells:List AU):List (Nat × Nat × AU)→Option (List AU)
 | []=>some cells
 | (off,size,v) :: rest=>(z7l v).bind fun vs=>if vs.length=size∧off+size≤cells.length then zc3 (setR off cells vs) rest else none
theorem zn6 {lv:AL}{vs:List AU}(h:z7l (er lv)=some vs):∃ lvs,z7l lv=some lvs∧lvs.map er=vs:=by
 cases lv<;>simp [er,z7l] at h
 case sc v=>obtain ⟨h1,rfl⟩:=h;exact⟨[.sc v],by simp[z7l,h1],by simp[er]⟩
 case agg cs=>exact ⟨cs,rfl,by rw[← z0f];exact h⟩
 all_goals (subst h;exact⟨_,rfl,by simp[er]⟩)
section
variable {C:Ctx} {X:XF LO} {β:Nat→Nat × Nat} {I:z12} {rg:Nat→Value} {w:World}
theorem zro {lv:AL}{x:Value}{lvs:List AL}(h:z7l lv=some lvs)(hr:RR X β lv x)(hm:Mem w I lv)(hlive:z6w X lv=true):RRL X β lvs x.cells.toList∧z2l w I lvs:=by
 have one:∀ {lv:AL} {x:Value},RR X β lv x→Mem w I lv→x.cells.toList=[x]→RRL X β [lv] x.cells.toList∧z2l w I [lv]:=by
  intro lv x hr hm hx
  rw[hx]
  exact⟨by simp only[RRL];exact⟨x,[],rfl,hr,rfl⟩,by simp[z2l,hm]⟩
 cases lv<;>simp [z7l] at h
 case sc v =>
  obtain⟨h1,rfl⟩:=h
  simp only[RR] at hr
  subst hr
  refine one (by simp[RR]) hm ?_
  cases x<;>simp [Value.oneCell'] at h1<;>simp [Value.cells]
 case sl o l s n cs =>
  subst h
  refine one hr hm ?_
  simp only[RR] at hr
  cases l with
  | none=>simp only[CR] at hr;rcases hr.1 with e | ⟨_,a,e⟩<;>rw [e]<;>simp [Value.cells]
  | some l=>simp only[CR] at hr;rw[hr];simp[Value.cells]
 case bx o l cs =>
  subst h
  refine one hr hm ?_
  simp only[RR] at hr
  cases l with
  | none=>simp [Mem] at hm
  | some l=>simp only[CR] at hr;rw[hr];simp[Value.cells]
 case agg cs =>
  subst h
  simp only[RR] at hr
  obtain⟨xs,rfl,hr⟩:=hr
  simp only[Mem] at hm
  exact⟨by simpa [Value.cells] using hr,hm⟩
 case vptr l cs =>
  subst h
  refine one hr hm ?_
  simp only[RR] at hr
  obtain⟨l',_,rfl⟩:=hr
  simp[Value.cells]
 case clos f cs =>
  subst h
  refine one hr hm ?_
  simp only[RR] at hr
  obtain⟨xs,rfl,_⟩:=hr
  simp[Value.cells]
 case view k g p off len =>
  subst h
  refine one hr hm ?_
  simp only[RR] at hr
  simp only[z6w,beq_iff_eq] at hlive
  obtain⟨_,_,_,_,xa,cap,rfl,_⟩:=hr.2 hlive
  simp[Value.cells]
 case ptr k g p i =>
  subst h
  refine one hr hm ?_
  simp only[RR] at hr
  simp only[z6w,beq_iff_eq] at hlive
  obtain⟨_,_,_,_,_,rfl⟩:=hr.2 hlive
  simp[Value.cells]
theorem zvr {cs:List AL}{xs:List Value}(h:RRL X β cs xs)(i:Nat){c:AL}{x:Value}(hc:RR X β c x):RRL X β (cs.set i c) (xs.set i x):=by
 rw[z0u] at h ⊢
 refine⟨by simp[h.1],fun j c' x' h1 h2=>?_⟩
 rw[t8] at h1 h2
 by_cases e:i=j
 ·subst e
  simp only[if_true] at h1 h2
  split at h1
  ·rename_i hlt
   rw[if_pos (by rw[← h.1];exact hlt)] at h2
   cases h1;cases h2;exact hc
  ·cases h1
 ·rw[if_neg e] at h1 h2
  exact h.2 j c' x' h1 h2
theorem zn7 (off:Nat):∀ (lvs:List AL) (ys:List Value) (n:Nat) (cs:List AL) (xs:List Value),RRL X β cs xs→z2l w I cs→RRL X β lvs ys→z2l w I lvs →
  RRL X β ((lvs.zipIdx n).foldl (fun cs p=>cs.set (off+p.2) p.1) cs) ((ys.zipIdx n).foldl (fun cs p=>cs.set (off+p.2) p.1) xs)∧z2l w I ((lvs.zipIdx n).foldl (fun cs p=>cs.set (off+p.2) p.1) cs)
 | [],ys,n,cs,xs,h1,h2,h3,h4=>by
  simp only[RRL] at h3
  subst h3
  exact⟨by simpa using h1,by simpa using h2⟩
 | v :: lvs,ys,n,cs,xs,h1,h2,h3,h4=>by
  simp only[RRL] at h3
  obtain⟨y,ys',rfl,h5,h6⟩:=h3
  simp only[z2l] at h4
  simp only[rq,so]
  refine zn7 off lvs ys' (n+1) _ _ (zvr h1 _ h5) ?_ h6 h4.2
  rw[z0k] at h2 ⊢
  intro c hc
  rcases si hc with h | h
  ·exact h2 c h
  ·rw[h];exact h4.1
theorem zn8 (off:Nat):∀ (lvs:List AL) (n:Nat) (cs:List AL),((lvs.zipIdx n).foldl (fun cs p=>cs.set (off+p.2) p.1) cs).map er=((lvs.map er).zipIdx n).foldl (fun cs p=>cs.set (off+p.2) p.1) (cs.map er)
 | [],n,cs=>by simp
 | v :: lvs,n,cs=>by
  simp only[List.map_cons,rq,so]
  rw[zn8 off lvs (n+1),sq]
theorem zao {L:Type}(off:Nat):∀ (vs:List L) (n:Nat) (cs:List L),((vs.zipIdx n).foldl (fun cs p=>cs.set (off+p.2) p.1) cs).length=cs.length
 | [],n,cs=>by simp
 | v :: vs,n,cs=>by
  simp only[rq,so]
  rw[zao off vs (n+1)]
  simp
theorem foldl_toList (off:Nat):∀ (l:List (Value × Nat)) (cells:Array Value),(l.foldl (fun cs p=>cs.setIfInBounds (off+p.2) p.1) cells).toList=l.foldl (fun cs p=>cs.set (off+p.2) p.1) cells.toList
 | [],cells=>rfl
 | p :: l,cells=>by
  simp only[so]
  rw[foldl_toList off l,Array.toList_setIfInBounds]
theorem z6c (off:Nat)(v:Array Value)(cells:Array Value):(v.zipIdx.foldl (fun cs (c,j)=>cs.setIfInBounds (off+j) c) cells).toList=setR off cells.toList v.toList:=by
 rw[← Array.foldl_toList]
 simp only[Array.toList_zipIdx]
 exact foldl_toList off _ _
theorem zn9 (place:Nat→Option (Nat × Nat)):∀ (pv:List (Nat × Nat × AL)) (parts:List (Nat × Value)) (lcs:List AL) (xs:Array Value) (cs:List AU),RRL X β lcs xs.toList→z2l w I lcs→pv.length=parts.length →
  (∀ (j:Nat) (p:Nat × Nat × AL) (q:Nat × Value),pv[j]?=some p→parts[j]?=some q→place q.1=some (p.1,p.2.1)∧RR X β p.2.2 q.2∧Mem w I p.2.2∧z6w X p.2.2=true)→zc3 (lcs.map er) (pv.map fun p=>(p.1,p.2.1,er p.2.2))=some cs →
  ∃ lcs' xs',lcs'.map er=cs∧RRL X β lcs' xs'.toList∧z2l w I lcs'∧Instr.fill place xs parts=some xs'
 | [],parts,lcs,xs,cs,h1,h2,hlen,hp,h=>by
  have:parts=[]:=by simpa using hlen.symm
  subst this
  simp only[t0,zc3,pe] at h
  exact⟨lcs,xs,h,h1,h2,rfl⟩
 | (off,size,lv) :: pv,parts,lcs,xs,cs,h1,h2,hlen,hp,h=>by
  cases parts with
  | nil=>simp at hlen
  | cons q parts =>
   obtain⟨i,x⟩:=q
   obtain⟨g1,g2,g3,g4⟩:=hp 0 _ _ rfl rfl
   simp only at g1 g2 g3 g4
   simp only[List.map_cons,zc3] at h
   cases hv:z7l (er lv) with
   | none=>simp [hv] at h
   | some vs =>
    simp only[hv,po] at h
    split at h
    ·rename_i hcond
     obtain⟨lvs,e1,e2⟩:=zn6 hv
     obtain⟨k1,k2⟩:=zro e1 g2 g3 g4
     have hsz:x.cells.size=size:=by
      have:=(z0u.1 k1).1
      rw[← hcond.1,← e2]
      simpa using this.symm
     have hxl:lcs.length=xs.size:=by simpa using (z0u.1 h1).1
     have hbound:off+size≤xs.size:=by have:=hcond.2;rw[r5,hxl] at this;exact this
     obtain⟨m1,m2⟩:=zn7 (X:=X) (β:=β) (w:=w) (I:=I) off lvs x.cells.toList 0 lcs xs.toList h1 h2 k1 k2
     have herr:(setR off lcs lvs).map er=setR off (lcs.map er) vs:=by rw[← e2];exact zn8 off lvs 0 lcs
     rw[← herr] at h
     obtain⟨lcs',xs',r1,r2,r3,r4⟩:=zn9 place pv parts (setR off lcs lvs) (x.cells.zipIdx.foldl (fun cs (c,j)=>cs.setIfInBounds (off+j) c) xs) cs (by rw[z6c];exact m1) m2 (by simpa using hlen)
      (fun j p q a b=>hp (j+1) p q (by simpa using a) (by simpa using b)) h
     refine⟨lcs',xs',r1,r2,r3,?_⟩
     simp only[Instr.fill,g1]
     rw[if_neg (by simp[hsz];omega)]
     exact r4
    ·cases h
def z15 (P:Program)(t:TypeId)(i:Nat):Option (Nat × Nat) :=
 match P.underlying t with
 | some (.array _ e)=>(P.info? e).map fun ie=>(i * ie.size,ie.size)
 | some (.struct fields)=>(fields.toList.mapM fun f=>(P.info? f.type).map fun i=>(f.offset,i.size)).bind (·[i]?)
 | _=>none
theorem zrp {P:Program}{t:TypeId}{z:Value}{parts:List (Nat × Value)}{xs:Array Value}(hz:((P.info? t).bind (·.zero))=some z)(hne:parts ≠ []∨∃ i,(z15 P t i).isSome=true)(h:Instr.fill (z15 P t) z.cells parts=some xs)
  (hp:∀ p ∈ parts,(z15 P t p.1).isSome=true):P.built t parts=some xs:=by
 unfold Program.built
 cases hi:P.info? t with
 | none=>simp [hi] at hz
 | some it =>
  simp only[hi,po] at hz
  have hsome:∃ i,(z15 P t i).isSome=true:=by
   rcases hne with h | h
   ·cases parts with
    | nil=>exact absurd rfl h
    | cons p l=>exact ⟨p.1,hp p (by simp)⟩
   ·exact h
  obtain⟨i0,hi0⟩:=hsome
  cases hu:P.underlying t with
  | none=>simp [z15,hu] at hi0
  | some d =>
   cases d with
   | array n e =>
    simp only[z15,hu] at hi0
    cases hie:P.info? e with
    | none=>simp [hie] at hi0
    | some ie =>
     have hpe:z15 P t=fun i=>some (i * ie.size,ie.size):=by funext i;simp[z15,hu,hie]
     rw[hpe] at h
     simpa [hz,hie] using h
   | struct fields =>
    simp only[z15,hu] at hi0
    cases hpl:fields.toList.mapM (fun f=>(P.info? f.type).map fun i=>(f.offset,i.size)) with
    | none=>simp [hpl] at hi0
    | some places =>
     have hpe:z15 P t=fun i=>places[i]?:=by funext i;simp[z15,hu,hpl]
     rw[hpe] at h
     simpa [hz,hpl] using h
   | _=>simp [z15,hu] at hi0
end
def zhn (P:Program)(t:TypeId):Option (List AU):=((P.info? t).bind (·.zero)).map fun z=>z.cells.toList.map .sc
theorem zrq {C:Ctx}{o:Oper}{X:XF Unit}{d:Nat}{t:TypeId}{parts:Array (Nat × Operand)}{zs:List AU}{pcs:List (Nat × Nat × COd)}{cs:List AU}(ho:o.op=.build t parts)(hd:o.dst=some d)(hlt:d < C.nt)(hin:z0r C.nt o=true)
  (hz:zhn C.P t=some zs) (hpl:(z15 C.P t 0).isSome=true) (hlen:pcs.length=parts.size)
  (hp:∀ (j:Nat) (p:Nat × Nat × COd) (q:Nat × Operand),pcs[j]?=some p→parts[j]?=some q→z15 C.P t q.1=some (p.1,p.2.1)∧∃ sz,compOd C.nt sz q.2=some p.2.2)
  (hf:zc3 zs (pcs.map fun p=>(p.1,p.2.1,rdC X p.2.2))=some cs) (hno:z0n cs=true):OpOk C o X (X.set (100 * d) (.agg cs)):=by
 refine wi hd hlt hin (by simpa [z0a] using hno) fun XL β I rg w he R=>?_
 simp only[zhn,pg] at hz
 obtain⟨z,h4,h3⟩:=hz
 have h3:zs=(z.cells.toList.map (AV.sc:Value→AL)).map er:=by rw[← h3];simp[er]
 -- the parts, with their labels
 have hex:∀ (l:List (Nat × Nat × COd)) (ps:List (Nat × Operand)),l.length=ps.length→(∀ (j:Nat) (p:Nat × Nat × COd) (q:Nat × Operand),l[j]?=some p→ps[j]?=some q→z15 C.P t q.1=some (p.1,p.2.1)∧∃ sz,compOd C.nt sz q.2=some p.2.2) →
   ∃ pv:List (Nat × Nat × AL),pv.map (fun p=>(p.1,p.2.1,er p.2.2))=l.map (fun p=>(p.1,p.2.1,rdC X p.2.2))∧pv.length=ps.length ∧
    ∀ (j:Nat) (p:Nat × Nat × AL) (q:Nat × Operand),pv[j]?=some p→ps[j]?=some q→z15 C.P t q.1=some (p.1,p.2.1)∧RR XL β p.2.2 (evR rg q.2)∧Mem w I p.2.2∧z6w XL p.2.2=true:=by
  intro l
  induction l with
  | nil =>
   intro ps hl _
   have:ps=[]:=by simpa using hl.symm
   subst this
   exact⟨[],rfl,rfl,by simp⟩
  | cons a l ih =>
   intro ps hl hp
   cases ps with
   | nil=>simp at hl
   | cons q ps =>
    obtain⟨g1,sz,g2⟩:=hp 0 a q rfl rfl
    obtain⟨lv,k1,k2,k3,_⟩:=zdd R g2
    rw[he] at k1
    obtain⟨pv,m1,m2,m3⟩:=ih ps (by simpa using hl) (fun j p q a b=>hp (j+1) p q (by simpa using a) (by simpa using b))
    by_cases hlv:z6w XL lv=true
    case neg =>
     refine⟨(a.1,a.2.1,.non) :: pv,?_,by simp[m2],fun j p q' a' b'=>?_⟩
     ·have:rdC X a.2.2=.non:=by
       unfold rdC
       rw[if_neg]
       rw[← k1,← he,zj6]
       exact hlv
      simp[this,er,m1]
     ·cases j with
      | zero=>simp at a' b';subst a' b';exact⟨g1,by simp[RR],by simp[Mem],by simp[z6w]⟩
      | succ j=>exact m3 j p q' (by simpa using a') (by simpa using b')
    have hrc:rdC X a.2.2=er lv:=by
     unfold rdC
     rw[if_pos,k1]
     rw[← k1,← he,zj6]
     exact hlv
    refine⟨(a.1,a.2.1,lv) :: pv,by simp[hrc,m1],by simp[m2],fun j p q' a' b'=>?_⟩
    cases j with
    | zero=>simp at a' b';subst a' b';exact⟨g1,k2,k3,hlv⟩
    | succ j=>exact m3 j p q' (by simpa using a') (by simpa using b')
 obtain⟨pv,m1,m2,m3⟩:=hex pcs parts.toList (by simpa using hlen) (fun j p q a b=>hp j p q a (by simpa using b))
 rw[← m1,h3] at hf
 have hzr:RRL XL β (z.cells.toList.map (AV.sc:Value→AL)) z.cells.toList∧z2l w I (z.cells.toList.map (AV.sc:Value→AL)):=by
  refine⟨z0u.2 ⟨by simp,fun i c x a b=>?_⟩,z0k.2 fun c hc=>?_⟩
  ·rw[qa,b] at a
   simp at a
   subst a
   simp[RR]
  ·simp only[sg] at hc
   obtain⟨v,_,rfl⟩:=hc
   simp[Mem]
 obtain⟨lcs',xs',r1,r2,r3,r4⟩:=zn9 (z15 C.P t) pv (parts.toList.map fun p=>(p.1,evR rg p.2)) _ z.cells cs hzr.1 hzr.2 (by simp[m2]) (fun j p q a b=>by
  simp only[qa] at b
  cases hq:parts.toList[j]? with
  | none=>simp [hq] at b
  | some q0 =>
   simp only[hq,px,pe] at b
   subst b
   exact m3 j p q0 a hq) hf
 have hb:=zrp h4 (.inr ⟨0,hpl⟩) r4 (fun p hpm=>by
  simp only[sg] at hpm
  obtain⟨q,hq,rfl⟩:=hpm
  obtain⟨j,hj⟩:=pq hq
  have hlt':j < pv.length:=by rw[m2];exact (pk.1 hj).1
  have:=(m3 j _ q (pi hlt') hj).1
  simp[this])
 refine⟨.agg lcs',.agg xs',by simp[er,z0f,r1],?_,by simpa [Mem] using r3,by simp only[RR];exact⟨xs'.toList,rfl,r2⟩⟩
 have hrun:=run_build (P:=C.P) w t (parts.map fun (i,x)=>(i,evR rg x)) xs' (by rw[← hb];simp)
 simp[execOp,ho,hrun]
def z8d {L:Type}(zs:List L):Nat→List L
 | 0=>[]
 | n+1=>zs ++ z8d zs n
theorem z6x {L:Type}(zs:List L):∀ n,(z8d zs n).length=n * zs.length
 | 0=>by simp[z8d]
 | n+1=>by simp only[z8d,qr,z6x zs n];rw[Nat.succ_mul];omega
theorem zj7 {L:Type}(zs:List L)(i:Nat):∀ n,i < n * zs.length→(z8d zs n)[i]?=zs[i % zs.length]?
 | 0,h=>by simp at h
 | n+1,h=>by
  simp only[z8d]
  by_cases hi:i < zs.length
  ·rw[qc hi,Nat.mod_eq_of_lt hi]
  ·rw[qf (by omega)]
   generalize hj:i - zs.length=j
   have:i=j+zs.length:=by omega
   subst this
   rw[Nat.add_mod_right,← zj7 zs j n (by rw[Nat.succ_mul] at h;omega)]
theorem zj8 {L M:Type}(f:L→M)(zs:List L):∀ n,(z8d zs n).map f=z8d (zs.map f) n
 | 0=>rfl
 | n+1=>by simp only[z8d,sj,zj8 f zs n]
theorem zj9 {L:Type}{zs:List L}{c:L}:∀ {n:Nat},c ∈ z8d zs n→c ∈ zs
 | 0,h=>by simp[z8d] at h
 | n+1,h=>by
  simp only[z8d,qh] at h
  rcases h with h | h
  ·exact h
  ·exact zj9 h
section
variable {C:Ctx} {X:XF LO} {β:Nat→Nat × Nat} {I:z12} {rg:Nat→Value} {w:World}
theorem RelL.newsl (R:RelL C X β I rg w)(d:Nat)(hd:d < 10000)(hs:List Nat)(ht:d ∉ hs)(e:TypeId)(xs:Array Value)(s n c:Nat)(lcs:List AL)(hlen:lcs.length=n * s)(hnc:n≤c)(hsz:xs.size=c * s)
  (hcr:∀ (i:Nat) (c0:AL),lcs[i]?=some c0→∃ v,xs[i]?=some v∧CR c0 v) (hm:z2l w I lcs) (hsep:z76 lcs) (hfp:∀ b o,fpL lcs b o→∃ h ∈ hs,fp (X (100 * h)).2 b o) :
  RelL C (hs.foldl (fun Y h=>Y.set (100 * h) .non) (X.set (100 * d) (.sl true (some ⟨w.heap.size,0,c⟩) s n lcs))) β I (fun t=>if t=d then .slice (some ⟨w.heap.size,0,none⟩) n c else rg t) { w with heap:=w.heap.push (.cells xs e (0,0)) }:=by
 have hw:=z6u (fun _ _=>False) w (.cells xs e (0,0))
 generalize hw':({ w with heap:=w.heap.push (.cells xs e (0,0)) }:World)=w' at hw ⊢
 have hnewat:∀ i,w'.at w.heap.size i=xs[i]?:=by
  intro i;subst hw';simp[World.at,World.cell?]
 have hnewfz:∀ i,w'.fz w.heap.size i=false:=by
  intro i;subst hw';simp[World.fz]
 have hsize:w'.heap.size=w.heap.size+1:=by subst hw';simp
 have hmul:=sn s hnc
 have hlive:∀ b o,fpL lcs b o→b < w.heap.size:=fun b o hb=>by
  obtain⟨h,_,hb⟩:=hfp b o hb
  exact ((R.key _).live b o (.inl hb)).1
 refine R.fresh d hd hs ht hw ?_ ?_ (by simp[RR,CR]) ?_
 ·simp only[Mem]
  refine⟨hlen,hnc,z0e.2 fun i c0 hc=>?_⟩
  obtain⟨v,hv,hcv⟩:=hcr i c0 hc
  have hmem:=pj hc
  refine⟨⟨v,by rw[hnewat,sy];exact hv,hcv⟩,?_,fun e=>by simp at e⟩
  exact z19 c0 (z0k.1 hm c0 hmem) (fun b o hb=>hw.cell b o (hlive b o (z04.2 ⟨c0,hmem,hb⟩)) (fun h=>h)) (fun b o hb=>⟨hw.cell b o (R.imm b o hb).1 (fun h=>h),hb⟩)
 ·simp only[Sep]
  exact⟨fun j _ hb=>by have:=hlive _ _ hb;simp at this,hsep⟩
 ·intro b o hb
  simp only[fp] at hb
  rcases hb with ⟨rfl,h1,h2⟩ | hb
  ·refine .inl ⟨pr _,by omega,hnewfz o,?_⟩
   rw[hnewat,s5 (by omega)]
   rfl
  ·exact .inr (hfp b o hb)
end
theorem zvs {C:Ctx}{o:Oper}{X:XF Unit}{d sz n c:Nat}{t e:TypeId}{x y:Operand}{cx cy:COd}{i:TypeInfo}{szs:List Nat}{zs:List AU}{k k':IntKind}(ho:o.op=.makeSlice t x y)(hd:o.dst=some d)(hlt:d < C.nt)(hin:z0r C.nt o=true)
  (ht:C.P.underlying t=some (.slice e)) (hi:C.P.info? e=some i) (hz:z8h C.P e szs=some zs) (hsz:i.size=zs.length) (htr:zs.all z0q=true)
  (hcx:compOd C.nt sz x=some cx) (hcy:compOd C.nt sz y=some cy) (hx:rd X cx=.sc (.int k (n:Int))) (hy:rd X cy=.sc (.int k' (c:Int))) (hnc:n≤c) (hb:i.bytes * c≤281474976710656) (hc:c≤9223372036854775807) :
  OpOk C o X (X.set (100 * d) (.sl true () i.size n (z8d zs n))) :=
 wh hd hlt hin fun XL β I rg w he R=>by
  subst he
  obtain⟨z,h1,h2,h3,h4⟩:=zcd hz
  have hd1:d < 10000:=by have:=C.hnt;omega
  have e1:=opd R hcx
  have e2:=opd R hcy
  rw[hx] at e1
  rw[hy] at e2
  have hz':i.zero=some z:=by rw[hi] at h4;simpa using h4
  generalize hl:List.zipWith zj3 szs z.cells.toList=lzs at h3
  have hlen:lzs.length=z.cells.size:=by rw[← hl,List.length_zipWith,← h2,Nat.min_self,Array.length_toList]
  have hlz:zs.length=lzs.length:=by rw[h3];simp
  have hb':(i.bytes:Int) * (c:Int)≤281474976710656:=by
   have h:((i.bytes * c:Nat):Int)≤281474976710656:=by omega
   rwa [Int.natCast_mul] at h
  have hrun:=run_make (P:=C.P) w t e i z ht hi hz' k k' (n:Int) (c:Int) (by omega) (by omega) hb' (by omega)
  have hfact:∀ (j:Nat) (c0:AL),lzs[j]?=some c0→∃ v,z.cells.toList[j]?=some v∧CR c0 v∧Mem w I c0∧Sep c0∧(∀ b o,¬ fp c0 b o):=by
   intro j c0 hj
   rw[← hl] at hj
   obtain⟨s,v,_,hv,rfl⟩:=z7b h2 hj
   have:=zah (X:=XL) (β:=β) (w:=w) (I:=I) s v
   exact⟨v,hv,this.2.2.2.1,this.2.2.1,this.2.2.2.2.2,this.2.2.2.2.1⟩
  have hmemz:∀ c0,c0 ∈ z8d lzs n→Mem w I c0∧Sep c0∧(∀ b o,¬ fp c0 b o):=by
   intro c0 hc0
   obtain⟨j,hj⟩:=pq (zj9 hc0)
   obtain⟨_,_,_,q1,q2,q3⟩:=hfact j c0 hj
   exact⟨q1,q2,q3⟩
  have hmul:=sn i.size hnc
  have R1:=R.newsl d hd1 [] (by simp) e (madeCells z.cells (c * i.size)) i.size n c (z8d lzs n) (by rw[z6x,← hlz,hsz]) hnc (by rw[size_madeCells]) (fun j c0 hj=>by
    have hjl:j < n * i.size:=by
     have:=(pk.1 hj).1
     rwa [z6x,← hlz,← hsz] at this
    rw[zj7 _ _ _ (by rw[← hlz,← hsz];exact hjl)] at hj
    obtain⟨v,hv,hcv,_⟩:=hfact _ c0 hj
    refine⟨v,?_,hcv⟩
    have hpos:0 < lzs.length:=Nat.pos_of_ne_zero fun h0=>by rw[hsz,hlz,h0] at hjl;omega
    have hlt2:j % lzs.length < z.cells.size:=by rw[← hlen];exact Nat.mod_lt _ hpos
    have hv':z.cells[j % lzs.length]?=some v:=by simpa using hv
    simp only[madeCells,Array.getElem?_map,Array.getElem?_range,if_pos (show j < c * i.size by omega),px]
    rw[← hlen]
    rw[getElem!_def,hv'])
   (z0k.2 fun c0 h=>(hmemz c0 h).1) (z09.2 ⟨fun c0 h=>(hmemz c0 h).2.1,fun a b u v _ hu hv b' o' q1 _=>(hmemz u (pj hu)).2.2 b' o' q1⟩)
   (fun b o hb=>by
    obtain⟨c0,hc0,hcb⟩:=z04.1 hb
    exact absurd hcb ((hmemz c0 hc0).2.2 b o))
  simp only[ri] at R1
  refine⟨.slice (some ⟨w.heap.size,0,none⟩) n c,_,_,_,_,_,?_,?_,R1,by simp,fun t ht1 ht2=>by simp[ht1]⟩
  ·simp only[execOp,ho,e1.sc,e2.sc,qk,hrun,qg,s4,t9]
   rfl
  ·rw[z03]
   simp only[er,z0f,zj8,h3]
def z1q (X:XF Unit)(s:Nat):AU→Option (List AU)
 | .view k g p off n=>if (X k).1=g then
   match z0o (X k).2 p with
   | some (.sl _ _ s' _ cs)=>if s'=s then some ((cs.drop off).take (n * s)) else none
   | _=>none
  else none
 | .sl false _ s' _ cs=>if s'=s then some cs else none
 | .sl true _ s' n cs=>if s'=s∧n=0∧cs.isEmpty=true then some [] else none
 | _=>none
section
variable {C:Ctx} {X:XF LO} {β:Nat→Nat × Nat} {I:z12} {rg:Nat→Value} {w:World}
theorem zap (R:RelL C X β I rg w){s:Nat}{v:AU}{x:Value}{cs:List AU}(h:Opd X β I w v x)(hc:z1q (erF X) s v=some cs) :
  ∃ (lcs:List AL) (ad:Option Addr) (n cap:Nat),lcs.map er=cs∧x=.slice ad n cap∧n≤cap∧lcs.length=n * s ∧
   (∀ (i:Nat) (c:AL),lcs[i]?=some c→∃ b o,ad=some ⟨b,o,none⟩∧(∃ y,w.at b (o+i)=some y∧CR c y)∧Mem w I c)∧(ad=none→n=0)∧(∀ a,ad=some a→n ≠ 0→a.spot=none):=by
 cases v with
 | view k g p off n =>
  simp only[z1q] at hc
  split at hc
  ·rename_i hg
   split at hc
   ·rename_i o' _ s' m cs0 hnode
    split at hc
    ·rename_i hs
     subst hs
     simp only[pe] at hc
     obtain⟨l,sz,m',h1,xa,cap,hx,h3⟩:=h.view hg
     obtain⟨l',lcs,hN,hlcs⟩:=z5t hnode
     rw[hN] at h1
     simp only[po,hd,pe,qt,true_and] at h1
     obtain⟨rfl,rfl,rfl⟩:=h1
     have hm:=z68 (R.key k).mem hN
     refine⟨(lcs.drop off).take (n * s'),xa,n,cap,by rw[List.map_take,List.map_drop,hlcs,hc],hx,?_⟩
     cases l' with
     | none =>
      obtain⟨rfl,rfl,rfl⟩:=h3
      simp only[Mem] at hm
      exact⟨pr _,by simp,fun i c hi=>by simp[hm.2] at hi,fun _=>rfl,fun a ha _=>by cases ha⟩
     | some l =>
      obtain⟨g1,g2,g3,oo,rfl,g5⟩:=h3
      simp only[Mem] at hm
      refine⟨g2,by rw[s7,td,hm.1];omega,fun i c hi=>?_,fun h=>(by cases h),fun a ha _=>by cases ha;rfl⟩
      rw[r9] at hi
      split at hi
      ·rename_i hlt
       rw[tu] at hi
       have hcap:cap ≠ 0:=by
        intro h0
        have:n=0:=by omega
        subst this
        simp at hlt
       have hml:=z0e.1 hm.2.2 (off+i) c hi
       refine⟨l.b,oo,rfl,?_,hml.2.1⟩
       rw[g5 hcap,qq]
       exact hml.1
      ·cases hi
    ·cases hc
   ·cases hc
  ·cases hc
 | sl o u s' n cs0 =>
  cases o with
  | false =>
   simp only[z1q] at hc
   split at hc
   ·rename_i hs
    subst hs
    simp only[pe] at hc
    subst hc
    rcases h.slI with ⟨⟨a,rfl⟩,rfl,rfl⟩ | ⟨l,lcs,h1,rfl,h3,h4,h5⟩
    ·exact⟨[],a,0,0,rfl,rfl,pr _,by simp,fun i c hi=>by simp at hi,fun _=>rfl,fun a ha h=>absurd rfl h⟩
    ·refine⟨lcs,_,n,l.cap,h1,rfl,h3,h4,fun i c hi=>?_,(fun h=>by cases h),(fun a ha _=>by cases ha;rfl)⟩
     have hml:=z0e.1 h5 i c hi
     exact⟨l.b,l.o,rfl,hml.1,hml.2.1⟩
   ·cases hc
  | true =>
   simp only[z1q] at hc
   split at hc
   ·rename_i hs
    obtain⟨rfl,rfl,_⟩:=hs
    simp only[pe] at hc
    subst hc
    obtain⟨lv,h1,h2,h3⟩:=h.ex
    obtain⟨l,lcs,rfl,h4⟩:=zbz h1
    simp only[RR] at h2
    cases l with
    | none =>
     simp only[CR] at h2
     exact⟨[],none,0,0,rfl,(h2.1.resolve_right (by simp)),pr _,by simp,fun i c hi=>by simp at hi,fun _=>rfl,fun a ha _=>by cases ha⟩
    | some l =>
     simp only[CR] at h2
     exact⟨[],some ⟨l.b,l.o,none⟩,0,l.cap,rfl,h2,rh _,by simp,(fun i c hi=>by simp at hi),(fun h=>by cases h),(fun a ha _=>by cases ha;rfl)⟩
   ·cases hc
 | _=>simp [z1q] at hc
end
def u8L:List AU→Option (List Int)
 | []=>some []
 | .sc (.int .u8 n) :: l=>(u8L l).map fun r=>n :: r
 | _ :: _=>none
def b2s (ns:List Int):ByteArray:=ns.foldl (fun r n=>r.push (UInt8.ofNat n.toNat)) ByteArray.empty
theorem zna:∀ {l:List AU} {ns:List Int},u8L l=some ns→l=ns.map fun n=>.sc (.int .u8 n)
 | [],ns,h=>by simp only[u8L,pe] at h;subst h;rfl
 | c :: l,ns,h=>by
  cases c with
  | sc v =>
   cases v with
   | int k n =>
    cases k<;>simp only[u8L,reduceCtorEq] at h
    simp only[pg] at h
    obtain⟨r,h1,rfl⟩:=h
    simp[zna h1]
   | _=>simp [u8L] at h
  | _=>simp [u8L] at h
theorem y3s {C:Ctx}{o:Oper}{X:XF Unit}{d sz:Nat}{s t e:TypeId}{x:Operand}{c:COd}{cs:List AU}{ns:List Int}(ho:o.op=.convert s t x)(hd:o.dst=some d)(hlt:d < C.nt)(hin:z0r C.nt o=true)
  (hs:C.P.underlying s=some (.slice e)) (he:C.P.underlying e=some (.int .u8)) (ht:C.P.underlying t=some .string) (hc:compOd C.nt sz x=some c) (hcs:z1q X 1 (rd X c)=some cs) (hn:u8L cs=some ns) :
  OpOk C o X (X.set (100 * d) (.sc (.string (b2s ns)))) :=
 wm hd hlt hin fun XL β I rg w he' R=>by
  have h:=opd R hc
  rw[he'] at h
  obtain⟨lcs,ad,n,cap,h1,h2,h3,h4,h5,h6,h7⟩:=zap R h (by rw[he'];exact hcs)
  have hmap:=zna hn
  have hll:lcs.map er=ns.map fun n=>.sc (.int .u8 n):=h1.trans hmap
  have hlen:ns.length=n:=by
   have:=congrArg List.length hll
   simp at this
   omega
  simp only[execOp,ho,convert,h2,qk,run_underlying hs,run_underlying ht,run_underlying he,qg]
  cases ad with
  | none =>
   have:n=0:=h6 rfl
   subst this
   have:ns=[]:=by simpa using hlen
   subst this
   simp[Conv.bytesToString,b2s]
  | some a =>
   have hcell:∀ (j:Nat) (v:Value),(ns.map (Value.int .u8))[j]?=some v→w.cell? (a.add j)=some v:=by
    intro j v hv
    rw[qa] at hv
    cases hj:ns[j]? with
    | none=>simp [hj] at hv
    | some m =>
     simp only[hj,px,pe] at hv
     subst hv
     have hlj:(lcs.map er)[j]?=some (.sc (.int .u8 m)):=by rw[hll];simp[hj]
     rw[qa] at hlj
     cases hl:lcs[j]? with
     | none=>simp [hl] at hlj
     | some c0 =>
      simp only[hl,px,pe] at hlj
      have:=zhe hlj
      subst this
      obtain⟨b,oo,hab,⟨y,hy,hcy⟩,_⟩:=h5 j _ hl
      cases hab
      simp only[CR] at hcy
      subst hcy
      have hy':w.cell? ⟨b,oo+j,none⟩=some (Value.int IntKind.u8 m):=hy
      have ha:(⟨b,oo,none⟩:Addr).add j=⟨b,oo+j,none⟩:=by
       simp only[Addr.add]
       split
       ·rename_i e;simp[e]
       ·rfl
      rw[ha];exact hy'
   have hload:=run_loadCells_list (P:=C.P) w a (ns.map (Value.int .u8)) hcell
   rw[r5,hlen] at hload
   have:=run_bytesToString (P:=C.P) w a n cap ns hload
   simp[this,b2s]
def bsV (X:XF Unit)(d s:Nat)(c:COd):Option (XF Unit) :=
 (z54 X c).bind fun X1=>match (X1 (100 * H)).2 with
  | .agg vs=>if vs.length=s∧vs.all z0q=true then some ((X1.set (100 * d) (.sl true () s 1 vs)).set (100 * H) .non) else none
  | v=>if s=1∧z0q v=true then some ((X1.set (100 * d) (.sl true () s 1 [v])).set (100 * H) .non) else none
theorem zja {L:Type}:∀ (vs:List L) (n:Nat) (cs:List L) (i:Nat),n+vs.length≤cs.length→((vs.zipIdx n).foldl (fun cs p=>cs.set (0+p.2) p.1) cs)[i]?=if n≤i∧i < n+vs.length then vs[i - n]? else cs[i]?
 | [],n,cs,i,h=>by
  rw[if_neg (by simp)]
  rfl
 | v :: vs,n,cs,i,h=>by
  simp only[rq,so,sy,sd] at h ⊢
  have ih:=zja vs (n+1) (cs.set n v) i (by simp;omega)
  simp only[sy] at ih
  rw[ih]
  by_cases h1:n+1≤i∧i < n+1+vs.length
  ·rw[if_pos h1,if_pos (by omega),show i - n=(i - (n+1))+1 by omega]
   simp
  ·rw[if_neg h1,t8]
   by_cases h2:n=i
   ·subst h2
    rw[if_pos rfl,if_pos (by omega),if_pos (by omega)]
    simp
   ·rw[if_neg h2,if_neg (by omega)]
theorem znb {L:Type}(cs vs:List L)(h:vs.length=cs.length):setR 0 cs vs=vs:=by
 apply rf
 intro i
 unfold setR
 rw[zja vs 0 cs i (by omega)]
 by_cases hi:i < vs.length
 ·rw[if_pos (by omega)];rfl
 ·rw[if_neg (by omega),qi (by omega),qi (by omega)]
theorem y3t {C:Ctx}{o:Oper}{X X':XF Unit}{d sz s:Nat}{t e:TypeId}{x:Operand}{c:COd}{z:Value}(ho:o.op=.buildSlice t 1 #[(0,x)])(hd:o.dst=some d)(hlt:d < C.nt)(hin:z0r C.nt o=true)(hnt:C.nt≤H)
  (ht:C.P.underlying t=some (.slice e)) (hs:z2v C.P e=some s) (hz:((C.P.info? e).bind (·.zero))=some z) (hs0:s ≠ 0) (hsb:s≤16777216) (hc:compOd C.nt sz x=some c) (hr:bsV X d s c=some X'):OpOk C o X X' :=
 wh hd hlt hin fun XL β I rg w he R=>by
  subst he
  simp only[bsV] at hr
  cases h1:z54 (erF XL) c with
  | none=>simp [h1] at hr
  | some X1 =>
   simp only[h1,po] at hr
   obtain⟨XL1,rg1,e1,R1,K1,e2,e3⟩:=z40 R hnt hc h1
   subst e1
   have hd1:d < 10000:=by unfold H at hnt;omega
   have hdH:d ≠ H:=by omega
   have hkey:=R1.key (100 * H)
   have hreg:=R1.reg H
   have fin:∀ (lcs:List AL),lcs.length=s→(rg1 H).cells.size=s→(∀ (i:Nat) (c0:AL),lcs[i]?=some c0→∃ v,(rg1 H).cells[i]?=some v∧CR c0 v)→z2l w I lcs→z76 lcs→(∀ b o,fpL lcs b o→fp (XL1 (100 * H)).2 b o) →
     X'=((erF XL1).set (100 * d) (.sl true () s 1 (lcs.map er))).set (100 * H) .non→∃ x w' XL' β' I' rg',(execOp (evR rg) o).run C.P w=.ok (.value x) w'∧erF XL'=X'∧RelL C XL' β' I' rg' w'∧rg' d=x∧∀ t,t ≠ d→t < C.nt→rg' t=rg t:=by
    intro lcs hl hsz hcr hm hsep hfp hX'
    have R2:=R1.newsl d hd1 [H] (by simpa using hdH) e (rg1 H).cells s 1 1 lcs (by omega) (pr _) (by omega) hcr hm hsep (fun b o hb=>⟨H,by simp,hfp b o hb⟩)
    refine⟨.slice (some ⟨w.heap.size,0,none⟩) 1 1,_,_,_,_,_,?_,?_,R2,by simp,fun t ht1 ht2=>by simp[ht1,e3 t (.inl (qo ht2 hnt))]⟩
    ·have hzr:(zeroValue e).run C.P w=.ok z w:=by
      cases hi:C.P.info? e with
      | none=>simp [hi] at hz
      | some i=>simp [hi] at hz;simp[zeroValue,typeInfo,hi,hz]
     have hso:=z1i hs w
     have hfill:Instr.fill (fun i=>some (i * s,s)) ((Array.range (1 * s)).map (z.cells[· % z.cells.size]!)) [(0,rg1 H)]=some (rg1 H).cells:=by
      simp only[Instr.fill]
      rw[if_neg (by simp[hsz])]
      congr 1
      apply Array.ext'
      rw[z6c,Nat.zero_mul]
      exact znb _ _ (by simp[hsz])
     simp only[execOp,ho]
     have hne:¬ (1 * s=0):=by omega
     have hle:¬ (1 * s > 2 ^ 24):=by omega
     simp only[Instr.buildSlice,qk,run_underlying ht,qg,hso,if_neg hne,if_neg hle,hzr,s4,e2.symm,List.map_toArray,List.map_cons,t0,hfill,newRow,newObj,Sem.run]
    ·rw[hX']
     simp only[so,ri]
     rw[z03,z03]
     simp[er,z0f]
   cases hV:(erF XL1 (100 * H)).2 with
   | agg vs =>
    simp only[hV] at hr
    split at hr
    ·rename_i hall
     simp only[pe] at hr
     obtain⟨lvs,hV',hlvs⟩:=z79 (lv:=(XL1 (100 * H)).2) hV
     have hm:=hkey.mem
     have hsp:=hkey.sep
     rw[hV'] at hm hsp hreg
     simp only[Mem] at hm
     simp only[Sep] at hsp
     simp only[RR] at hreg
     obtain⟨ys,hys,hRL⟩:=hreg
     have hRL':=z0u.1 hRL
     have hlen:lvs.length=s:=by rw[← hall.1,← hlvs];simp
     refine fin lvs hlen (by rw[hys];simp[Value.cells];omega) (fun i c0 hc0=>?_) hm hsp (fun b o hb=>by rw[hV'];simpa [fp] using hb) (by rw[hlvs,hr])
     have hlt:i < ys.length:=by rw[← hRL'.1];exact (pk.1 hc0).1
     refine⟨ys[i],by rw[hys];simp[Value.cells,hlt],z2u ?_ (hRL'.2 i c0 _ hc0 (pi hlt))⟩
     have:=qe.1 hall.2 (er c0) (by rw[← hlvs];exact s9 (pj hc0))
     rwa [z2t] at this
    ·cases hr
   | _ =>
    simp only[hV] at hr
    split at hr
    ·rename_i hall
     simp only[pe] at hr
     have hV':er (XL1 (100 * H)).2=_:=hV
     have htv:z0q (XL1 (100 * H)).2=true:=by rw[← z2t,hV'];exact hall.2
     have hcr:=z2u htv hreg
     have hcells:=z2e (z1j htv hcr)
     have hcs:(rg1 H).cells=#[rg1 H]:=hcells
     refine fin [(XL1 (100 * H)).2] (by simp[hall.1]) (by rw[hcs];simp[hall.1]) (fun i c0 hc0=>?_) (by simp only[z2l];exact⟨hkey.mem,trivial⟩) (by simp only[z76];exact⟨hkey.sep,trivial,fun _ _ _ h=>by simp[fpL] at h⟩) (fun b o hb=>by simpa [fpL] using hb) (by simp only[List.map_cons,t0,hV',hr])
     cases i with
     | zero=>simp at hc0;subst hc0;exact⟨rg1 H,by rw[hcs];rfl,hcr⟩
     | succ i=>simp at hc0
    ·cases hr
theorem z6o (K:z12)(b:Nat):∀ (vs:List Value) (o:Nat) (w:World),(∀ j,j < vs.length→K b (o+j)∧(w.at b (o+j)).isSome)→Frame K w (w.setCells b o vs)
 | [],o,w,_=>Frame.refl K w
 | v :: vs,o,w,h=>by
  have h0:=h 0 (by simp)
  simp only[sx] at h0
  have f1:=z32 K w b o v h0.1 h0.2
  have hsome:∀ j,j < vs.length→K b (o+1+j)∧((w.setCell ⟨b,o,none⟩ v).at b (o+1+j)).isSome:=by
   intro j hj
   have:=h (j+1) (by simp;omega)
   rw[show o+(j+1)=o+1+j by omega] at this
   refine⟨this.1,?_⟩
   have hb:b < w.heap.size:=by
    rcases tv b w.heap.size with hb | hb
    ·exact hb
    ·have h2:=h0.2
     simp[World.at,World.cell?,tc hb] at h2
   rw[f1.some b _ hb]
   exact this.2
  exact f1.trans (z6o K b vs (o+1) _ hsome) (fun _ _ h=>.inl h)
section
variable {C:Ctx} {X:XF LO} {β:Nat→Nat × Nat} {I:z12} {rg:Nat→Value} {w:World}
theorem RelL.spare (R:RelL C X β I rg w)(h:Nat)(hh:h < 10000){l:Loc}{s n:Nat}{cs:List AL}(hX:(X (100 * h)).2=.sl true (some l) s n cs)(m:Nat)(vs:List Value)(news:List AL)(hlen:news.length=m * s)(hvl:vs.length=m * s)(hroom:n+m≤l.cap)
  (hcr:∀ (i:Nat) (c:AL),news[i]?=some c→∃ v,vs[i]?=some v∧CR c v) (hm:z2l w I news) (hno:z0n news=true) :
  RelL C (X.set (100 * h) (.sl true (some l) s (n+m) (cs ++ news))) β I (fun t=>if t=h then .slice (some ⟨l.b,l.o,none⟩) (n+m) l.cap else rg t) (w.setCells l.b (l.o+n * s) vs):=by
 have hkey:=R.key (100 * h)
 have hkm:=hkey.mem
 have hks:=hkey.sep
 rw[hX] at hkm hks
 simp only[Mem] at hkm
 simp only[Sep] at hks
 have hmul:(n+m) * s≤l.cap * s:=sn s hroom
 rw[r7] at hmul
 have hown:∀ j,j < l.cap * s→kfp β X (100 * h) l.b (l.o+j):=fun j hj=>.inl (by rw[hX];simp only[fp];exact .inl ⟨trivial,by omega,by omega⟩)
 have hfr:Frame (fun b o=>∃ k0,k0=100 * h∧kfp β X k0 b o) w (w.setCells l.b (l.o+n * s) vs):=z6o _ _ _ _ _ fun j hj=>by
  have:=hown (n * s+j) (by omega)
  rw[← qq] at this
  exact⟨⟨_,rfl,this⟩,(hkey.live _ _ this).2.2⟩
 generalize hw':w.setCells l.b (l.o+n * s) vs=w' at hfr ⊢
 have hout:∀ b o,(b=l.b→o < l.o+n * s∨l.o+n * s+m * s≤o)→w'.at b o=w.at b o:=by
  intro b o hb
  rw[← hw']
  exact World.cell?_setCells_out l.b vs (l.o+n * s) w ⟨b,o,none⟩ (fun e _=>by rw[hvl];exact hb e)
 have hin:∀ j v,vs[j]?=some v→w'.at l.b (l.o+n * s+j)=some v:=by
  intro j v hv
  have hj:j < vs.length:=(pk.1 hv).1
  rw[← hw']
  have:=World.cell?_setCells_in l.b vs (l.o+n * s) w (fun j hj=>by
   have:=hown (n * s+j) (by omega)
   rw[← qq] at this
   exact (hkey.live _ _ this).2.2) j hj
  rw[World.at,this]
  rw[pi hj] at hv
  exact hv
 have hno':=z1h news hno
 have hI':∀ b o,I b o→w'.at b o=w.at b o:=fun b o hb=>hfr.cell b o (R.imm b o hb).1 (fun ⟨k0,_,hk⟩=>(R.imm b o hb).2 k0 hk)
 have hself:=wa X (100 * h) (.sl true (some l) s (n+m) (cs ++ news))
 have hfpn:∀ b o,fp (.sl true (some l) s (n+m) (cs ++ news)) b o→fp (X (100 * h)).2 b o:=by
  intro b o hb
  rw[hX]
  simp only[fp] at hb ⊢
  rcases hb with hb | hb
  ·exact .inl hb
  ·obtain⟨c,hc,hcb⟩:=z04.1 hb
   rcases qh.1 hc with hc | hc
   ·exact .inr (z04.2 ⟨c,hc,hcb⟩)
   ·exact absurd (z04.2 ⟨c,hc,hcb⟩) (hno'.1 b o)
 refine R.change (fun k=>k=100 * h) (fun k hk=>w9 _ _ hk) (z05 X β _ _) (fun _ _ _=>.inl rfl) (fun _ _=>rfl) ?_ ?_ ?_ ?_ ?_ (fun _ _ h=>h) (fun _ _ h=>.inl h) hfr
 ·intro t ht
  rw[if_neg (fun e=>ht.elim (fun ht=>ht (by rw[e])) (fun ht=>by omega))]
 ·intro t ht
  have e:t=h:=by omega
  subst e
  rw[hself,if_pos rfl]
  simp[RR,CR]
 ·rintro k rfl
  refine⟨?_,?_,fun hc=>absurd (by omega) hc.1,fun b o hb=>?_,fun h=>by omega⟩
  ·rw[hself]
   simp only[Mem]
   refine⟨by rw[qr,hkm.1,hlen,r7],hroom,z0e.2 fun i c hc=>?_⟩
   by_cases hi:i < cs.length
   ·rw[qc hi] at hc
    obtain⟨⟨y,hy,hcy⟩,hmc,_⟩:=z0e.1 hkm.2.2 i c hc
    refine⟨⟨y,by rw[hout _ _ (fun _=>.inl (by omega))];exact hy,hcy⟩,?_,fun e=>by simp at e⟩
    refine z19 c hmc (fun b o hb=>hout b o fun e=>?_) (fun b o hb=>⟨hI' b o hb,hb⟩)
    subst e
    rcases tv o (l.o+n * s) with h1 | h1
    ·exact .inl h1
    ·right
     rcases tv o (l.o+n * s+m * s) with h2 | h2
     ·exfalso
      have:=hks.1 (o - l.o) (by omega)
      rw[show l.o+(o - l.o)=o by omega] at this
      exact this (z04.2 ⟨c,pj hc,hb⟩)
     ·exact h2
   ·rw[qf (by omega)] at hc
    obtain⟨v,hv,hcv⟩:=hcr _ c hc
    refine⟨⟨v,?_,hcv⟩,?_,fun e=>by simp at e⟩
    ·have:=hin _ v hv
     rwa [show l.o+n * s+(i - cs.length)=l.o+i by omega] at this
    ·exact z19 c (z0k.1 hm c (pj hc)) (fun b o hb=>absurd (z04.2 ⟨c,pj hc,hb⟩) (hno'.1 b o)) (fun b o hb=>⟨hI' b o hb,hb⟩)
  ·rw[hself]
   simp only[Sep]
   refine⟨fun j hj hb=>?_,?_⟩
   ·obtain⟨c,hc,hcb⟩:=z04.1 hb
    rcases qh.1 hc with hc | hc
    ·exact hks.1 j hj (z04.2 ⟨c,hc,hcb⟩)
    ·exact hno'.1 _ _ (z04.2 ⟨c,hc,hcb⟩)
   ·refine z09.2 ⟨fun c hc=>?_,fun i j u v hij hu hv b o h1 h2=>?_⟩
    ·rcases qh.1 hc with hc | hc
     ·exact (z09.1 hks.2).1 c hc
     ·exact (z09.1 hno'.2).1 c hc
    ·by_cases hj:j < cs.length
     ·rw[qc hj] at hv
      rw[qc (by omega)] at hu
      exact (z09.1 hks.2).2 i j u v hij hu hv b o h1 h2
     ·rw[qf (by omega)] at hv
      exact hno'.1 b o (z04.2 ⟨v,pj hv,h2⟩)
  ·have hold:kfp β X (100 * h) b o:=by
    rcases hb with hb | ⟨hc,_⟩
    ·rw[hself] at hb;exact .inl (hfpn b o hb)
    ·exact absurd (by omega) hc.1
   obtain⟨l1,l2,l3⟩:=hkey.live b o hold
   exact⟨qo l1 hfr.size,by rw[hfr.fz b o l1 l3];exact l2,by rw[hfr.some b o l1];exact l3⟩
 ·rintro k k' rfl rfl hne;exact absurd rfl hne
 ·rintro k rfl b o hb
  left
  rcases hb with hb | ⟨hc,_⟩
  ·rw[hself] at hb;exact⟨_,rfl,.inl (hfpn b o hb)⟩
  ·exact absurd (by omega) hc.1
end
end Go.OT
