/- Part 5 of the proof: see its last file. -/
import Derived.Test.YtlcemfnjhdcmoaaWs04
set_option linter.unusedSimpArgs false
set_option linter.unusedVariables false
namespace Go.OT
def z7t:SL→SL
 | []=>[]
 | e :: l=>if z2y e.1=true then z7t l else e :: z7t l
def okR:SL→Bool
 | []=>true
 | e :: l=>(roots e.2.2).all (fun r=>!z2y r) && okR l
def noH:SL→Bool
 | []=>true
 | e :: l=>!z2y e.1 && noH l
def z0b (L:SL):Bool:=noH L && okR L
theorem zjq:∀ {L:SL} {k r:Nat},okR L=true→r ∈ roots (fnL L k).2→z2y r=false
 | [],k,r,_,hr=>by simp[fnL,roots] at hr
 | (k',e) :: l,k,r,h,hr=>by
  simp only[okR,pm] at h
  simp only[fnL] at hr
  split at hr
  ·have:=qe.1 h.1 r hr;simpa using this
  ·exact zjq h.2 hr
theorem zu6:∀ {L:SL} {k:Nat},noH L=true→z2y k=true→fnL L k=(0,.non)
 | [],k,_,_=>rfl
 | (k',e) :: l,k,h,hk=>by
  simp only[noH,pm,qm] at h
  simp only[fnL]
  split
  ·rename_i e;subst e;rw[h.1] at hk;cases hk
  ·exact zu6 h.2 hk
theorem zb7 {L:SL}(h:z0b L=true):z30 (fnL L):=by
 simp only[z0b,pm] at h
 exact fun k=>⟨fun hk=>zu6 h.1 hk,fun r hr=>zjq h.2 hr⟩
theorem z4e (k:Nat):∀ L:SL,fnL (z7t L) k=if z2y k=true then (0,.non) else fnL L k
 | []=>by simp[z7t,fnL]
 | (k',e) :: l=>by
  simp only[z7t]
  split
  ·rename_i h
   rw[z4e k l]
   simp only[fnL]
   by_cases hk:k=k'
   ·subst hk;simp[h]
   ·simp[hk]
  ·rename_i h
   simp only[fnL,z4e k l]
   by_cases hk:k=k'
   ·subst hk;simp[h]
   ·simp[hk]
theorem RelT.cleaned {C:Ctx}{X:XF Unit}{tm:Array Value}{w:World}(h:RelT C X tm w)(hr:∀ k,z2y k=false→∀ r ∈ roots (X k).2,z2y r=false):RelT C (fun k=>if z2y k=true then (0,.non) else X k) tm w:=by
 have:=h.nrm (fun k=>!z2y k) (fun k=>!z2y k) (fun k hk r hm=>by
  simp only[qm] at hk
  have:=hr k hk r hm
  simp[this])
 have e:zhu (fun k=>!z2y k) (fun k=>!z2y k) X=fun k=>if z2y k=true then (0,.non) else X k:=by
  funext k
  simp only[zhu]
  by_cases hh:z2y k=true
  ·simp[hh]
  ·simp[hh]
 rwa [e] at this
def z33 (L:SL):COp→Bool
 | .st _ _ _ | .ext _ _ _ | .box _ _ | .alloc _ _ | .bs1 _ _ _ | .app _ _ _ _ _ | .cpy _ _ _ _=>false
 | .asg _ c=>!z7n (fnL L) c
 | _=>true
def z61 (L:SL):COp→Bool
 | .st n a v=>match z0w L v with
  | some L1=>(uO (fnL L1) a ++ bu (rd (fnL L1) a) n).all fun u=>(z1o (fnL L) (.st n a v)).contains u
  | none=>false
 | .app d s b x y=>if z6p (fnL L) s y=true then true else match z0w L y with
  | some L0=>(uO (fnL (zl8 L0)) x).all fun u=>(z1o (fnL L) (.app d s b x y)).contains u
  | none=>false
 | _=>true
def zmh (L:SL)(c:COp):Option (SL × List Nat × List Nat) :=
 (z3v L c).bind fun L1=>if z33 L c=true then (if (roots (fnL L1 (100 * dOf c)).2).all (fun r=>!z2y r)=true then some (L1,z1o (fnL L) c,[2 * dOf c]) else none)
  else if okR (z7t L1)=true∧z61 L c=true then some (z7t L1,z1o (fnL L) c,z1o (fnL L) c) else none
theorem zb8 {k d:Nat}(h:z2y k=true)(hd:d < 9000):k ≠ 100 * d:=by
 simp only[z2y,pm,decide_eq_true_eq] at h
 omega
theorem zct {X Y:XF Unit}{c:COd}(h:agr (uO Y c) X Y):z7n X c=z7n Y c:=by
 cases c with
 | c v=>rfl
 | t n =>
  have:=h (100 * n) (by rw[z0m];simp[uO])
  simp only[z7n,this]
theorem zsc {U:List Nat}{L:SL}{c:COp}(hp:z33 L c=false)(hU:∀ u ∈ z1o (fnL L) c,u ∈ U)(hx:z61 L c=true):Resp U (fnL L) (fun X=>stp X c):=by
 cases c with
 | st n a v =>
  simp only[stp]
  refine zs9 (fun u hu=>hU u (by simp[z1o,hu])) fun Y1 h1 u hu=>?_
  simp only[z61] at hx
  cases ht:z0w L v with
  | none=>simp [ht] at hx
  | some L1 =>
   simp only[ht] at hx
   have h2:=z2q ht
   rw[h1] at h2
   cases h2
   have:=qe.1 hx u hu
   exact hU u (by simpa using this)
 | ext d n i=>simp only[stp];exact zog (hU _ (by simp[z1o])) (hU _ (by simp[z1o]))
 | box d c=>simp only[stp];exact zoh (hU _ (by simp[z1o])) (fun u hu=>hU u (by simp[z1o,hu])) (fun u hu=>hU u (by simp[z1o,hu]))
 | alloc d zs=>simp only[stp];exact zle (hU _ (by simp[z1o])) (fun u hu=>hU u (by simp[z1o,hu]))
 | bs1 d s c=>simp only[stp];exact zsa (hU _ (by simp[z1o])) (fun u hu=>hU u (by simp[z1o,hu]))
 | app d s b x y =>
  have hu1:2 * d ∈ U:=hU _ (by simp[z1o])
  have hux:∀ u ∈ uO (fnL L) x,u ∈ U:=fun u hu=>hU u (by simp[z1o,hu])
  have huy:∀ u ∈ uO (fnL L) y,u ∈ U:=fun u hu=>hU u (by simp[z1o,hu])
  intro X hX Y1 e
  have hag:agr (uO (fnL L) y) X (fnL L):=hX.agr.sub huy
  have hpe:z6p X s y=z6p (fnL L) s y:=by simp only[z6p,z1e hag,z6f (z3d hag)]
  simp only[stp,hpe] at e ⊢
  by_cases hpl:z6p (fnL L) s y=true
  ·rw[if_pos hpl] at e ⊢
   exact zof hu1 hux huy X hX Y1 e
  ·rw[if_neg hpl] at e ⊢
   simp only[z61,hpl,pu,if_false] at hx
   refine zld hu1 huy (fun Y0 h1 u hu=>?_) X hX Y1 e
   cases ht:z0w L y with
   | none=>simp [ht] at hx
   | some L1 =>
    simp only[ht] at hx
    have h2:=z2q ht
    rw[h1] at h2
    cases h2
    rw[zns] at hu
    have:=qe.1 hx u hu
    exact hU u (by simpa using this)
 | cpy d s x y=>simp only[stp];exact zsb (hU _ (by simp[z1o])) (fun u hu=>hU u (by simp[z1o,hu])) (fun u hu=>hU u (by simp[z1o,hu]))
 | asg d c =>
  simp only[z33,tf] at hp
  intro X hX Y1 e
  have hc:∀ u ∈ uO (fnL L) c,u ∈ U:=fun u hu=>hU u (by simp[z1o,hu])
  have ho:z7n X c=true:=by rw[zct (hX.agr.sub hc)];exact hp
  simp only[stp] at e ⊢
  rw[if_pos hp] at e
  rw[if_pos ho]
  exact zoe (hU _ (by simp[z1o])) hc X hX Y1 e
 | _=>simp [z33] at hp
theorem zsd {L L1:SL}{c:COp}(hp:z33 L c=true)(h:z3v L c=some L1):∃ v,L1=z0l L (100 * dOf c) v∧∀ X,agr (z1o (fnL L) c) X (fnL L)→stp X c=some (X.set (100 * dOf c) v):=by
 have key:((z1l (fnL L) c).map fun v=>z0l L (100 * dOf c) v)=some L1→∃ v,L1=z0l L (100 * dOf c) v∧∀ X,agr (z1o (fnL L) c) X (fnL L)→stp X c=some (X.set (100 * dOf c) v):=by
  intro h
  simp only[pg] at h
  obtain⟨v,h1,rfl⟩:=h
  exact⟨v,rfl,fun X hX=>znu (by rw[zs6 hX (by rw[h1];rfl),h1])⟩
 cases c with
 | asg d c =>
  simp only[z33,qm] at hp
  simp only[z3v,hp,pu,if_false,znt] at h
  split at h
  ·rename_i hn
   simp only[pe] at h
   refine⟨_,h.symm,fun X hX=>?_⟩
   have hc:agr (uO (fnL L) c) X (fnL L):=hX.sub (fun u hu=>by simp[z1o,hu])
   simp only[stp,zct hc,hp,pu,if_false,zfk,z1e hc,hn,if_true,dOf]
  ·cases h
 | st _ _ _=>simp [z33] at hp
 | ext _ _ _=>simp [z33] at hp
 | box _ _=>simp [z33] at hp
 | alloc _ _=>simp [z33] at hp
 | bs1 _ _ _=>simp [z33] at hp
 | app _ _ _ _ _=>simp [z33] at hp
 | cpy _ _ _ _=>simp [z33] at hp
 | _=>exact key h
theorem zu7 {X:XF Unit}{L:SL}{c:COp}(hp:z33 L c=true):2 * dOf c ∈ z1o X c:=by
 cases c<;>first | (simp [z33] at hp;done) | simp [z1o,dOf]
theorem zg1 {L L':SL}{c:COp}{R D:List Nat}(hd:dOf c < 9000)(hc0:z30 (fnL L))(h:zmh L c=some (L',R,D)):(∀ u ∈ D,u ∈ R)∧(∀ k,z14 k ∉ D→fnL L' k=fnL L k)∧z30 (fnL L') ∧
  ∀ X,z30 X→(∀ k,z14 k ∈ R→X k=fnL L k)→∃ X1,stp X c=some X1∧∀ C tm w,RelT C X1 tm w→RelT C (mix D (fnL L') X) tm w:=by
 simp only[zmh,pf] at h
 obtain⟨L1,h1,h⟩:=h
 by_cases hp:z33 L c=true
 ·rw[if_pos hp] at h
  split at h
  ·rename_i hr
   simp only[pe,qt] at h
   obtain⟨rfl,rfl,rfl⟩:=h
   obtain⟨v,rfl,hs⟩:=zsd hp h1
   refine⟨fun u hu=>?_,fun k hk=>?_,fun k=>?_,fun X hX ha=>?_⟩
   ·simp only[rm] at hu;subst hu;exact zu7 hp
   ·rw[← z07,w9 _ _ (fun e=>hk (by rw[e,z0m];simp))]
   ·by_cases e:k=100 * dOf c
    ·subst e
     refine⟨fun hh=>absurd rfl (zb8 hh hd),fun r hm=>?_⟩
     have:=qe.1 hr r hm
     simpa using this
    ·rw[← z07,w9 _ _ e];exact hc0 k
   ·have hag:agr (z1o (fnL L) c) X (fnL L):=ha
    refine⟨_,hs X hag,fun C tm w hrel=>?_⟩
    rw[← z07,zdj (ha (100 * dOf c) (by rw[z0m];exact zu7 hp))]
    exact hrel
  ·cases h
 ·rw[if_neg hp] at h
  have hp':z33 L c=false:=by simpa using hp
  split at h
  ·rename_i hok
   simp only[pe,qt] at h
   obtain⟨rfl,rfl,rfl⟩:=h
   have hresp:=zsc (U:=z1o (fnL L) c) hp' (fun u hu=>hu) hok.2
   have hY:=zhz h1
   have hself:=hresp (fnL L) (fun k _=>rfl) _ hY
   obtain⟨_,_,_,_,hout⟩:=hself
   have hcl:z30 (fnL (z7t L1)):=fun k=>⟨fun hk=>by rw[z4e,if_pos hk],fun r hr=>zjq hok.1 hr⟩
   refine⟨fun u hu=>hu,fun k hk=>?_,hcl,fun X hX ha=>?_⟩
   ·rw[z4e]
    split
    ·rename_i hh;exact ((hc0 k).1 hh).symm
    ·rename_i hh
     exact hout k (fun hin=>hin.elim hk (fun h=>hh h))
   ·have hag:agH (z1o (fnL L) c) X (fnL L):=fun k hk=>by
     rcases hk with hk | hk
     ·exact ha k hk
     ·rw[(hX k).1 hk,(hc0 k).1 hk]
    obtain⟨X1,e1,e2,e3,_⟩:=hresp X hag _ hY
    refine⟨X1,e1,fun C tm w hrel=>?_⟩
    have hroots:∀ k,z2y k=false→∀ r ∈ roots (X1 k).2,z2y r=false:=by
     intro k hk r hr
     by_cases hu:z14 k ∈ z1o (fnL L) c
     ·rw[e2 k (.inl hu)] at hr
      exact zjq hok.1 (k:=k) (by rw[z4e,if_neg (by simp[hk])];exact hr)
     ·rw[e3 k (fun hin=>hin.elim hu (fun h=>by rw[hk] at h;cases h))] at hr
      exact (hX k).2 r hr
    have:=hrel.cleaned hroots
    have e:(fun k=>if z2y k=true then (0,.non) else X1 k)=mix (z1o (fnL L) c) (fnL (z7t L1)) X:=by
     funext k
     simp only[mix]
     by_cases hh:z2y k=true
     ·rw[if_pos hh]
      split
      ·rw[z4e,if_pos hh]
      ·exact ((hX k).1 hh).symm
     ·rw[if_neg hh]
      by_cases hu:z14 k ∈ z1o (fnL L) c
      ·rw[if_pos hu,z4e,if_neg hh,e2 k (.inl hu)]
      ·rw[if_neg hu,e3 k (fun hin=>hin.elim hu hh)]
    rwa [e] at this
  ·cases h
section
variable {P:Program} {nt:Nat} {L:SL} {Q:Ex→SL→Prop}
theorem y4f {C:Ctx}{o:Oper}{c:COp}{g:Option (Nat × Bool)}{ops:Array Oper}{here:List Nat}(hn:C.nt=nt)(h:zeu P nt ops here o=some (.op g c)):dOf c < 9000:=by
 obtain⟨_,h2,h3⟩:=z6z h
 have h9:nt≤9000:=by
  unfold zav at h2
  split at h2
  ·rename_i hh;have:=hh.2;simpa [H] using this
  ·cases h2
 rcases h3 with ⟨n,a,v,rfl,_⟩ | ⟨_,hd,_⟩
 ·simp[dOf]
 ·omega
theorem zse {C:Ctx}{ops:Array Oper}{here:List Nat}{i:Nat}{o:Oper}{c:COp}{L':SL}{R D:List Nat}(hP:C.P=P)(hn:C.nt=nt)(hi:ops[i]?=some o)(h:zeu P nt ops here o=some (.op none c))(hc0:z30 (fnL L))(hs:zmh L c=some (L',R,D)):DStep C ops i R D (fnL L) (fnL L'):=by
 obtain⟨h1,h2,h3,h4⟩:=zg1 (y4f hn h) hc0 hs
 refine⟨h1,h2,h3,fun X hX ha=>?_⟩
 obtain⟨X1,e1,e2⟩:=h4 X hX ha
 obtain⟨g1,g2,_⟩:=z6z h
 subst hP hn
 exact (SOk.op hi (z1n g1) (z6d g2 e1)).weak (e2 C)
def z9k (t:Nat)(w:Bool)(L:SL)(c:COp):Option Bool→Option (SL × List Nat × List Nat)
 | some true=>(zmh L c).map fun p=>(p.1,2 * t :: p.2.1,p.2.2)
 | some false=>match c with
  | .st _ _ _=>some (L,[2 * t],[])
  | c=>some (z0l L (100 * dOf c) (.sc undef),[2 * t,2 * dOf c],[2 * dOf c])
 | none=>none
theorem zwg (Y X:XF Unit):mix [] Y X=X:=by funext k;simp[mix]
theorem z8o {C:Ctx}{ops:Array Oper}{i t d:Nat}{w:Bool}(hd:d < 9000)(hc0:z30 (fnL L))(hs:∀ X,z30 X→(∀ k,z14 k ∈ [2 * t,2 * d]→X k=fnL L k)→SOk C ops i X (X.set (100 * d) (.sc undef))) :
  DStep C ops i [2 * t,2 * d] [2 * d] (fnL L) (fnL (z0l L (100 * d) (.sc undef))):=by
 refine⟨fun u hu=>by simp only[rm] at hu;subst hu;simp,fun k hk=>?_,fun k=>?_,fun X hX ha=>?_⟩
 ·rw[← z07,w9 _ _ (fun e=>hk (by rw[e,z0m];simp))]
 ·by_cases e:k=100 * d
  ·subst e
   refine⟨fun hh=>absurd rfl (zb8 hh hd),fun r hm=>?_⟩
   rw[← z07,wa] at hm
   simp[roots] at hm
  ·rw[← z07,w9 _ _ e];exact hc0 k
 ·rw[← z07,zdj (ha (100 * d) (by rw[z0m];simp))]
  exact hs X hX ha
theorem zoi {C:Ctx}{ops:Array Oper}{here:List Nat}{i t:Nat}{w:Bool}{o:Oper}{c:COp}{L':SL}{R D:List Nat}(hP:C.P=P)(hn:C.nt=nt)(hi:ops[i]?=some o)(h:zeu P nt ops here o=some (.op (some (t,w)) c))(hc0:z30 (fnL L))
  (hs:z9k t w L c (gv w (fnL L (100 * t)).2)=some (L',R,D)):DStep C ops i R D (fnL L) (fnL L'):=by
 have hd9:=y4f hn h
 obtain⟨g1,g2,g3⟩:=z6z h
 obtain⟨j,hg,ht,hlt⟩:=z3c g1
 cases hb:gv w (fnL L (100 * t)).2 with
 | none=>rw [hb] at hs;simp[z9k] at hs
 | some b =>
  rw[hb] at hs
  cases b with
  | true =>
   simp only[z9k,pg] at hs
   obtain⟨⟨L1,R1,D1⟩,hs,e⟩:=hs
   simp only[qt] at e
   obtain⟨rfl,rfl,rfl⟩:=e
   obtain⟨h1,h2,h3,h4⟩:=zg1 hd9 hc0 hs
   refine⟨fun u hu=>qd _ (h1 u hu),h2,h3,fun X hX ha=>?_⟩
   obtain⟨X1,e1,e2⟩:=h4 X hX (fun k hk=>ha k (qd _ hk))
   subst hP hn
   refine (n7 hi hg ht hlt ?_ (z6d g2 e1)).weak (e2 C)
   rw[ha (100 * t) (by rw[z0m];simp)]
   exact zb0 hb
  | false =>
   obtain⟨x,hx,hne⟩:=z7r hb
   rcases g3 with ⟨n,a,v,rfl,hdn⟩ | ⟨hd,hdl,hsk⟩
   ·simp only[z9k,pe,qt] at hs
    obtain⟨rfl,rfl,rfl⟩:=hs
    refine⟨by simp,fun _ _=>rfl,hc0,fun X hX ha=>?_⟩
    rw[zwg]
    subst hP hn
    exact nq hi hg ht hlt (by rw[ha (100 * t) (by rw[z0m];simp)];exact hx) hne hdn
   ·have e:z9k t w L c (some false)=some (z0l L (100 * dOf c) (.sc undef),[2 * t,2 * dOf c],[2 * dOf c]):=by
     cases c with
     | st n a v =>
      exfalso
      have:=hsk ([]:SL)
      simp[zfs,z0l] at this
     | _=>rfl
    rw[e] at hs
    simp only[pe,qt] at hs
    obtain⟨rfl,rfl,rfl⟩:=hs
    refine z8o (w:=w) hd9 hc0 fun X hX ha=>?_
    subst hP hn
    exact SOk.no hi hg ht hlt (by rw[ha (100 * t) (by rw[z0m];simp)];exact hx) hne hd hdl
abbrev Fs:=List (List Nat × List Nat)
def DL (P:Program)(nt:Nat)(segs:List Sg)(L:SL)(fs:Fs)(K:SL→Fs→Prop):Prop :=
 ∀ (C:Ctx) (ops:Array Oper) (i:Nat) (n:Nat),C.P=P→C.nt=nt→z30 (fnL L)→z8m P nt ops (z95 ops) (List.range' i n)=some (z21 segs)→∃ L' l,DRun C ops i (fnL L) (fnL L') l∧l.length=n∧K L' (l.reverse ++ fs)
theorem DL.nil {K:SL→Fs→Prop}{fs:Fs}(h:K L fs):DL P nt [] L fs K:=by
 intro C ops i n hP hn hc0 hc
 cases n with
 | zero=>exact ⟨L,[],.nil,rfl,h⟩
 | succ n=>simp only[List.range'_succ,z8m,z21,pf,pg,reduceCtorEq,and_false,exists_false] at hc
theorem DL.cons {K:SL→Fs→Prop}{fs:Fs}{it:It}{segs rest:List Sg}{L1:SL}{R D:List Nat}(hf:z21 segs=it :: z21 rest)
  (hs:∀ (C:Ctx) (ops:Array Oper) (i:Nat) (o:Oper),C.P=P→C.nt=nt→z30 (fnL L)→ops[i]?=some o→zeu P nt ops (z95 ops) o=some it→DStep C ops i R D (fnL L) (fnL L1)) (h:DL P nt rest L1 ((R,D) :: fs) K):DL P nt segs L fs K:=by
 intro C ops i n hP hn hc0 hc
 rw[hf] at hc
 cases n with
 | zero=>simp [z8m] at hc
 | succ n =>
  rw[List.range'_succ] at hc
  simp only[z8m,pf,pg] at hc
  obtain⟨o,ho,c',hc',r,hr',e⟩:=hc
  simp only[List.cons.injEq] at e
  obtain⟨rfl,rfl⟩:=e
  have hst:=hs C ops i o hP hn hc0 ho hc'
  obtain⟨L',l,h1,h2,h3⟩:=h C ops (i+1) n hP hn hst.cl hr'
  exact⟨L',(R,D) :: l,.cons hst h1,by simp[h2],by simpa using h3⟩
def zoj:Option (SL × Fs)→COp→Option (SL × Fs)
 | some (L,fs),c=>(zmh L c).map fun p=>(p.1,p.2 :: fs)
 | none,_=>none
def zok:List COp→Option (SL × Fs)→Option (SL × Fs)
 | [],r=>r
 | c :: l,r=>zok l (zoj r c)
def zg2 (t:Nat)(w:Bool):Option (SL × Fs)→COp→Option (SL × Fs)
 | some (L,fs),c=>(z9k t w L c (gv w (fnL L (100 * t)).2)).map fun p=>(p.1,p.2 :: fs)
 | none,_=>none
def zb9 (t:Nat)(w:Bool):List COp→Option (SL × Fs)→Option (SL × Fs)
 | [],r=>r
 | c :: l,r=>zb9 t w l (zg2 t w r c)
theorem zba:∀ l:List COp,zok l none=none
 | []=>rfl
 | _ :: l=>zba l
theorem z8p {t:Nat}{w:Bool}:∀ l:List COp,zb9 t w l none=none
 | []=>rfl
 | _ :: l=>z8p l
def z71:List Sg→Option (SL × Fs)→Option (SL × Fs)
 | [],r=>r
 | .o l :: s,r=>z71 s (zok l r)
 | .g t w l :: s,r=>z71 s (zb9 t w l r)
 | _ :: _,_=>none
theorem z6g:∀ l:List Sg,z71 l none=none
 | []=>rfl
 | .o l :: s=>by simp only[z71,zba,z6g s]
 | .g t w l :: s=>by simp only[z71,z8p,z6g s]
 | .call _ _ _ _ :: _=>rfl
 | .clo _ _ _ _ :: _=>rfl
 | .nilq _ _ _ :: _=>rfl
 | .bad :: _=>rfl
theorem DL.o {K:SL→Fs→Prop}{rest:List Sg}:∀ {l:List COp} {L L1:SL} {fs fs1:Fs},zok l (some (L,fs))=some (L1,fs1)→DL P nt rest L1 fs1 K→DL P nt (.o l :: rest) L fs K
 | [],L,L1,fs,fs1,hr,h=>by
  simp only[zok,pe,qt] at hr
  obtain⟨rfl,rfl⟩:=hr
  intro C ops i n hP hn hc0 hc
  exact h C ops i n hP hn hc0 (by simpa [z21] using hc)
 | c :: l,L,L1,fs,fs1,hr,h=>by
  simp only[zok,zoj] at hr
  cases hs:zmh L c with
  | none=>rw [hs,Option.map_none,zba] at hr;cases hr
  | some p =>
   obtain⟨L2,R,D⟩:=p
   rw[hs] at hr
   exact DL.cons (it:=.op none c) (rest:=.o l :: rest) (by simp[z21]) (fun C ops i o hP hn hc0 hi hit=>zse hP hn hi hit hc0 hs) (DL.o (l:=l) hr h)
theorem DL.g {K:SL→Fs→Prop}{rest:List Sg}{t:Nat}{w:Bool}:∀ {l:List COp} {L L1:SL} {fs fs1:Fs},zb9 t w l (some (L,fs))=some (L1,fs1)→DL P nt rest L1 fs1 K→DL P nt (.g t w l :: rest) L fs K
 | [],L,L1,fs,fs1,hr,h=>by
  simp only[zb9,pe,qt] at hr
  obtain⟨rfl,rfl⟩:=hr
  intro C ops i n hP hn hc0 hc
  exact h C ops i n hP hn hc0 (by simpa [z21] using hc)
 | c :: l,L,L1,fs,fs1,hr,h=>by
  simp only[zb9,zg2] at hr
  cases hs:z9k t w L c (gv w (fnL L (100 * t)).2) with
  | none=>rw [hs,Option.map_none,z8p] at hr;cases hr
  | some p =>
   obtain⟨L2,R,D⟩:=p
   rw[hs] at hr
   exact DL.cons (it:=.op (some (t,w)) c) (rest:=.g t w l :: rest) (by simp[z21]) (fun C ops i o hP hn hc0 hi hit=>zoi hP hn hi hit hc0 hs) (DL.g (l:=l) hr h)
theorem DL.run {K:SL→Fs→Prop}:∀ {segs:List Sg} {L L1:SL} {fs fs1:Fs},z71 segs (some (L,fs))=some (L1,fs1)→K L1 fs1→DL P nt segs L fs K
 | [],L,L1,fs,fs1,hr,h=>by simp only[z71,pe,qt] at hr;obtain ⟨rfl,rfl⟩:=hr;exact DL.nil h
 | .o l :: s,L,L1,fs,fs1,hr,h=>by
  simp only[z71] at hr
  cases hs:zok l (some (L,fs)) with
  | none=>rw [hs,z6g] at hr;cases hr
  | some p=>obtain ⟨L2,fs2⟩:=p;rw[hs] at hr;exact DL.o hs (DL.run hr h)
 | .g t w l :: s,L,L1,fs,fs1,hr,h=>by
  simp only[z71] at hr
  cases hs:zb9 t w l (some (L,fs)) with
  | none=>rw [hs,z6g] at hr;cases hr
  | some p=>obtain ⟨L2,fs2⟩:=p;rw[hs] at hr;exact DL.g hs (DL.run hr h)
def luK (k:Nat):List Nat:=if k % 100=99 then z9j (k / 100) 1 99 else []
def luR (own:Bool):List Nat→List Nat
 | []=>[]
 | k :: ks=>(if own=true then luK k else []) ++ luR own ks
theorem zcu (own:Bool):∀ a b:List Nat,luR own (a ++ b)=luR own a ++ luR own b
 | [],b=>rfl
 | k :: a,b=>by simp only[rj,luR,zcu own a b,b9]
def luO (X:XF Unit)(own:Bool)(c:COd):List Nat:=luR own (roots (rd X c))
def zi7 (X:XF Unit)(own:Bool):List COd→List Nat
 | []=>[]
 | c :: cs=>luO X own c ++ zi7 X own cs
theorem zbb {X Y:XF Unit}{b:Nat}(h:∀ m,1≤m→m≤98→X (100 * b+m)=Y (100 * b+m)):∀ (n i:Nat),i+n≤98→z0s X b i n=z0s Y b i n
 | 0,i,_=>rfl
 | n+1,i,hi=>by
  have:=h (1+i) (by omega) (by omega)
  rw[← qq] at this
  simp only[z0s,this,zbb h n (i+1) (by omega)]
mutual
theorem zol {U:List Nat}{X Y:XF Unit}{ls:List (Nat × List Nat)}{own:Bool}{k0:Nat}(h:agr U X Y):∀ (v:AU),(∀ u ∈ ru v,u ∈ U)→(∀ u ∈ luR own (roots v),u ∈ U)→trA X ls own k0 v=trA Y ls own k0 v
 | .view k g p off len,hv,_=>by simp only[trA,y2o h hv k (by simp[roots])]
 | .ptr k g p i,hv,_=>by simp only[trA,y2o h hv k (by simp[roots])]
 | .bptr b g i,hv,hl=>by
  simp only[trA,h _ (zdy hv)]
  by_cases ho:own=true
  ·have hc:∀ u ∈ z9j b 1 99,u ∈ U:=fun u hu=>hl u (by
    simp only[roots,luR,ho,if_true,luK,List.append_nil]
    rw[if_pos (by omega),show (100 * b+99) / 100=b by omega]
    exact hu)
   have hb:∀ m,1≤m→m≤98→X (100 * b+m)=Y (100 * b+m):=fun m h1 h2=>h _ (by
    have:=z57 (b:=b) (m:=1) (n:=99) hc (j:=m - 1) (by omega) (by omega) (by omega)
    rwa [show 100 * b+(1+(m - 1))=100 * b+m by omega] at this)
   by_cases hi:i≤98
   ·rw[zbb hb (98 - i) i (by omega)]
   ·rw[if_neg (fun hh=>hi hh.2.2.1),if_neg (fun hh=>hi hh.2.2.1)]
  ·simp only[ho,false_and,and_false,if_false,pu]
 | .agg vs,hv,hl=>by simp only[trA,zbc h vs (by simpa [ru,roots] using hv) (by simpa [roots] using hl)]
 | .clos f vs,hv,hl=>by simp only[trA,zbc h vs (by simpa [ru,roots] using hv) (by simpa [roots] using hl)]
 | .sc _,_,_ | .sl _ _ _ _ _,_,_ | .bx _ _ _,_,_ | .vptr _ _,_,_ | .tuple _,_,_ | .dead,_,_ | .non,_,_=>by simp only[trA]
theorem zbc {U:List Nat}{X Y:XF Unit}{ls:List (Nat × List Nat)}{own:Bool}{k0:Nat}(h:agr U X Y):∀ (vs:List AU),(∀ u ∈ (z1a vs).map z14,u ∈ U)→(∀ u ∈ luR own (z1a vs),u ∈ U)→trL X ls own k0 vs=trL Y ls own k0 vs
 | [],_,_=>rfl
 | v :: vs,hv,hl=>by
  simp only[z1a,sj,qh] at hv
  simp only[z1a,zcu,qh] at hl
  simp only[trL,zol h v (fun u hu=>hv u (.inl hu)) (fun u hu=>hl u (.inl hu)),zbc h vs (fun u hu=>hv u (.inr hu)) (fun u hu=>hl u (.inr hu))]
end
theorem z44 {X Y:XF Unit}{ls:List (Nat × List Nat)}{own:Bool}:∀ {cs:List COd},agr (uOs Y cs ++ zi7 Y own cs) X Y→z13 X ls own cs=z13 Y ls own cs
 | [],_=>rfl
 | c :: cs,h=>by
  have hc:agr (uO Y c) X Y:=h.sub (fun u hu=>by simp[uOs,hu])
  simp only[z13,z1e hc,zol (own:=own) h (rd Y c) (fun u hu=>by simp[uOs,zo9 u hu]) (fun u hu=>by simp[zi7,luO,hu]),z44 (cs:=cs) (h.sub (fun u hu=>by
   simp only[uOs,zi7,qh] at hu ⊢
   rcases hu with hu | hu
   ·exact .inl (.inr hu)
   ·exact .inr (.inr hu)))]
theorem z7u {C:Ctx}{ops:Array Oper}{i d:Nat}{R:List Nat}{r:AU}(hd:d < 9000)(hR:2 * d ∈ R)(hr:roots r=[])(hc0:z30 (fnL L))(hs:∀ X,z30 X→(∀ k,z14 k ∈ R→X k=fnL L k)→SOk C ops i X (X.set (100 * d) r)) :
  DStep C ops i R [2 * d] (fnL L) (fnL (z0l L (100 * d) r)):=by
 refine⟨fun u hu=>by simp only[rm] at hu;subst hu;exact hR,fun k hk=>?_,fun k=>?_,fun X hX ha=>?_⟩
 ·rw[← z07,w9 _ _ (fun e=>hk (by rw[e,z0m];simp))]
 ·by_cases e:k=100 * d
  ·subst e
   refine⟨fun hh=>absurd rfl (zb8 hh hd),fun r' hm=>?_⟩
   rw[← z07,wa] at hm
   rw[hr] at hm;cases hm
  ·rw[← z07,w9 _ _ e];exact hc0 k
 ·rw[← z07,zdj (ha (100 * d) (by rw[z0m];exact hR))]
  exact hs X hX ha
theorem zlf {C:Ctx}(hn:C.nt=nt):nt≤9000:=hn ▸ C.hnt
theorem DL.call0 {K:SL→Fs→Prop}{rest:List Sg}{d f:Nat}{cs:List COd}{as:List AU}{r:AU}{fs:Fs}(own:Bool)(hfn:FnC P f [] as [] r)(has:z13 (fnL L) [] own cs=some as)(hs:z1d own [] [] r=true)
  (h:DL P nt rest (z0l L (100 * d) r) ((2 * d :: (uOs (fnL L) cs ++ zi7 (fnL L) own cs),[2 * d]) :: fs) K):DL P nt (.call none d f cs :: rest) L fs K:=by
 refine DL.cons (it:=.call none d f cs) (rest:=rest) (by simp[z21]) (fun C ops i o hP hn hc0 hi hit=>?_) h
 have hcl:=z4d hit
 have hroot:roots r=[]:=by simp only[z1d,pm,rk] at hs;exact hs.2
 refine z7u (by have:=zlf hn;omega) (by simp) hroot hc0 fun X hX ha=>?_
 have hag:agr (uOs (fnL L) cs ++ zi7 (fnL L) own cs) X (fnL L):=fun k hk=>ha k (qd _ hk)
 exact zdv (ls:=[]) (gs:=[]) (gs':=[]) own hP hn hi hit hfn rfl (by simp) (by rw[z44 hag];exact has) hs
theorem DL.callY0 {K:SL→Fs→Prop}{rest:List Sg}{d f t:Nat}{w:Bool}{cs:List COd}{as:List AU}{r:AU}{fs:Fs}(own:Bool)(hb:gv w (fnL L (100 * t)).2=some true)(hfn:FnC P f [] as [] r)(has:z13 (fnL L) [] own cs=some as)(hs:z1d own [] [] r=true)
  (h:DL P nt rest (z0l L (100 * d) r) ((2 * d :: 2 * t :: (uOs (fnL L) cs ++ zi7 (fnL L) own cs),[2 * d]) :: fs) K):DL P nt (.call (some (t,w)) d f cs :: rest) L fs K:=by
 refine DL.cons (it:=.call (some (t,w)) d f cs) (rest:=rest) (by simp[z21]) (fun C ops i o hP hn hc0 hi hit=>?_) h
 have hcl:=z4d hit
 have hroot:roots r=[]:=by simp only[z1d,pm,rk] at hs;exact hs.2
 refine z7u (by have:=zlf hn;omega) (by simp) hroot hc0 fun X hX ha=>?_
 have hag:agr (uOs (fnL L) cs ++ zi7 (fnL L) own cs) X (fnL L):=fun k hk=>ha k (qd _ (qd _ hk))
 exact zfv (ls:=[]) (gs:=[]) (gs':=[]) own hP hn hi hit (by rw[ha (100 * t) (by rw[z0m];simp)];exact zb0 hb) hfn rfl (by simp) (by rw[z44 hag];exact has) hs
theorem DL.callN {K:SL→Fs→Prop}{rest:List Sg}{d f t:Nat}{w:Bool}{cs:List COd}{fs:Fs}(hb:gv w (fnL L (100 * t)).2=some false)
  (h:DL P nt rest (z0l L (100 * d) (.sc undef)) (([2 * t,2 * d],[2 * d]) :: fs) K):DL P nt (.call (some (t,w)) d f cs :: rest) L fs K:=by
 refine DL.cons (it:=.call (some (t,w)) d f cs) (rest:=rest) (by simp[z21]) (fun C ops i o hP hn hc0 hi hit=>?_) h
 have hcl:=z4d hit
 obtain⟨x,hx,hne⟩:=z7r hb
 refine z8o (w:=w) (by have:=zlf hn;omega) hc0 fun X hX ha=>?_
 exact zfw hP hn hi hit (by rw[ha (100 * t) (by rw[z0m];simp)];exact hx) hne
theorem WL.draw {dead:List Nat}{pl:List (List Nat)}{segs:List Sg}(hm:P.follows .mixedOrders=true)(hc0:z0b L=true)(h:DL P nt segs L [] fun L1 fs=>z7k pl fs.reverse=true∧∃ L2,zmg dead L1=some L2∧Q .nrm L2):WL P nt (.draw pl dead segs) L Q:=by
 intro C code hP hn hc
 cases code<;>simp only[comp,Cd.er,pf,pg,pe,reduceCtorEq,and_false,exists_false,exists_const] at hc
 case region id ops d =>
  cases d with
  | false=>simp [comp] at hc
  | true =>
   simp only[comp,pg,C0.draw.injEq] at hc
   obtain⟨its,h1,hpl,rfl⟩:=hc
   rw[List.range_eq_range'] at h1
   obtain⟨L1,l,h2,h3,h4,L2,h5,h6⟩:=h C ops 0 ops.size hP hn (zb7 hc0) h1
   simp only[List.append_nil,List.reverse_reverse] at h4
   intro a w hd hr
   have:=p7 (id:=id) (Q:=fun e X=>e=.nrm∧X=fnL L1) (by rw[hP];exact hm) h2 h3 (zb7 hc0) hpl h4 ⟨rfl,rfl⟩
   refine wp_mono (this a w hd hr) fun e a w hq=>?_
   cases e with
   | normal =>
    obtain⟨hd',X,hr',_,rfl⟩:=hq
    exact⟨hd',fnL L2,hr'.fin h5,L2,rfl,h6⟩
   | exit id=>obtain ⟨_,X,_,hx,_⟩:=hq;cases hx
   | ret=>obtain ⟨_,X,_,hx,_⟩:=hq;cases hx
   | goto l=>exact hq.elim
   | panic c=>exact hq.elim
   | outgrown=>exact hq.elim
theorem p9 {dead:List Nat}{pl:List (List Nat)}{segs:List Sg}{y:Cd}{L1 L2:SL}{fs:Fs}(hm:P.follows .mixedOrders=true)(hc0:z0b L=true)(h1:z71 segs (some (L,[]))=some (L1,fs))(h2:z7k pl fs.reverse=true)(h3:zmg dead L1=some L2)(h:WL P nt y L2 Q):WL P nt (.seq (.draw pl dead segs) y) L Q :=
 WL.seq (WL.draw hm hc0 (DL.run h1 ⟨h2,L2,h3,h⟩))
theorem wr {dead:List Nat}{pl:List (List Nat)}{segs:List Sg}{y:Cd}(hm:P.follows .mixedOrders=true)(hc0:z0b L=true)(h:DL P nt segs L [] fun L1 fs=>z7k pl fs.reverse=true∧∃ L2,zmg dead L1=some L2∧WL P nt y L2 Q):WL P nt (.seq (.draw pl dead segs) y) L Q :=
 WL.seq (WL.draw hm hc0 h)
end
end Go.OT
