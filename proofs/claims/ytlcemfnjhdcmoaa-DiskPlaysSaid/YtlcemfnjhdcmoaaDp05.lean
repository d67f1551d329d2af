/- Part 5 of the proof: see its last file. -/
import Derived.Orders
import Derived.Below
import Derived.Laws.Entries
import Derived.Laws.Cells
import Derived.Laws.IdiomCopy
import Derived.Scope
import Derived.Calls
import Derived.Laws.Tables
import Derived.Laws.MakeOwn
import Derived.Laws.BytesString
import Derived.ArgAppend
import Derived.WalkSpells
import Derived.Lib.SlBytesConst
import Derived.Lib.ConvBytes
import Derived.WalkKit
import Derived.ProofKit
import Derived.OpenShut
import Derived.ShutString
import Derived.ChangeOld
import Derived.Lib.SmallJoins
import Derived.Test.YtlcemfnjhdcmoaaDp04
set_option linter.unusedSimpArgs false
set_option linter.unusedVariables false
namespace Go.OT
def dropH:SL→SL
 | []=>[]
 | e :: l=>if handB e.1=true then dropH l else e :: dropH l
def okR:SL→Bool
 | []=>true
 | e :: l=>(roots e.2.2).all (fun r=>!handB r) && okR l
def noH:SL→Bool
 | []=>true
 | e :: l=>!handB e.1 && noH l
def cleanL (L:SL):Bool:=noH L && okR L
theorem okR_at:∀ {L:SL} {k r:Nat},okR L=true→r ∈ roots (fnL L k).2→handB r=false
 | [],k,r,_,hr=>by simp[fnL,roots] at hr
 | (k',e) :: l,k,r,h,hr=>by
  simp only[okR,Bool.and_eq_true] at h
  simp only[fnL] at hr
  split at hr
  ·have:=List.all_eq_true.1 h.1 r hr;simpa using this
  ·exact okR_at h.2 hr
theorem noH_at:∀ {L:SL} {k:Nat},noH L=true→handB k=true→fnL L k=(0,.non)
 | [],k,_,_=>rfl
 | (k',e) :: l,k,h,hk=>by
  simp only[noH,Bool.and_eq_true,Bool.not_eq_true'] at h
  simp only[fnL]
  split
  ·rename_i e;subst e;rw[h.1] at hk;cases hk
  ·exact noH_at h.2 hk
theorem cleanL_ok {L:SL}(h:cleanL L=true):cleanX (fnL L):=by
 simp only[cleanL,Bool.and_eq_true] at h
 exact fun k=>⟨fun hk=>noH_at h.1 hk,fun r hr=>okR_at h.2 hr⟩
theorem fnL_dropH (k:Nat):∀ L:SL,fnL (dropH L) k=if handB k=true then (0,.non) else fnL L k
 | []=>by simp[dropH,fnL]
 | (k',e) :: l=>by
  simp only[dropH]
  split
  ·rename_i h
   rw[fnL_dropH k l]
   simp only[fnL]
   by_cases hk:k=k'
   ·subst hk;simp[h]
   ·simp[hk]
  ·rename_i h
   simp only[fnL,fnL_dropH k l]
   by_cases hk:k=k'
   ·subst hk;simp[h]
   ·simp[hk]
theorem RelT.cleaned {C:Ctx}{X:XF Unit}{tm:Array Value}{w:World}(h:RelT C X tm w)(hr:∀ k,handB k=false→∀ r ∈ roots (X k).2,handB r=false):RelT C (fun k=>if handB k=true then (0,.non) else X k) tm w:=by
 have:=h.nrm (fun k=>!handB k) (fun k=>!handB k) (fun k hk r hm=>by
  simp only[Bool.not_eq_true'] at hk
  have:=hr k hk r hm
  simp[this])
 have e:nrmX (fun k=>!handB k) (fun k=>!handB k) X=fun k=>if handB k=true then (0,.non) else X k:=by
  funext k
  simp only[nrmX]
  by_cases hh:handB k=true
  ·simp[hh]
  ·simp[hh]
 rwa [e] at this
def isPure (L:SL):COp→Bool
 | .st _ _ _ | .ext _ _ _ | .box _ _ | .alloc _ _ | .bs1 _ _ _ | .app _ _ _ _ _ | .cpy _ _ _ _=>false
 | .asg _ c=>!ownRaw (fnL L) c
 | _=>true
def extra (L:SL):COp→Bool
 | .st n a v=>match takeCS L v with
  | some L1=>(uO (fnL L1) a ++ bu (rd (fnL L1) a) n).all fun u=>(foot (fnL L) (.st n a v)).contains u
  | none=>false
 | .app d s b x y=>if plainX (fnL L) s y=true then true else match takeCS L y with
  | some L0=>(uO (fnL (mvHL L0)) x).all fun u=>(foot (fnL L) (.app d s b x y)).contains u
  | none=>false
 | _=>true
def stpD (L:SL)(c:COp):Option (SL × List Nat × List Nat) :=
 (stpL L c).bind fun L1=>if isPure L c=true then (if (roots (fnL L1 (100 * dOf c)).2).all (fun r=>!handB r)=true then some (L1,foot (fnL L) c,[2 * dOf c]) else none)
  else if okR (dropH L1)=true∧extra L c=true then some (dropH L1,foot (fnL L) c,foot (fnL L) c) else none
theorem hand_unit {k d:Nat}(h:handB k=true)(hd:d < 9000):k ≠ 100 * d:=by
 simp only[handB,Bool.and_eq_true,decide_eq_true_eq] at h
 omega
theorem ownRaw_agr {X Y:XF Unit}{c:COd}(h:agr (uO Y c) X Y):ownRaw X c=ownRaw Y c:=by
 cases c with
 | c v=>rfl
 | t n =>
  have:=h (100 * n) (by rw[unit_reg];simp[uO])
  simp only[ownRaw,this]
theorem stp_resp {U:List Nat}{L:SL}{c:COp}(hp:isPure L c=false)(hU:∀ u ∈ foot (fnL L) c,u ∈ U)(hx:extra L c=true):Resp U (fnL L) (fun X=>stp X c):=by
 cases c with
 | st n a v =>
  simp only[stp]
  refine stV_resp (fun u hu=>hU u (by simp[foot,hu])) fun Y1 h1 u hu=>?_
  simp only[extra] at hx
  cases ht:takeCS L v with
  | none=>simp [ht] at hx
  | some L1 =>
   simp only[ht] at hx
   have h2:=takeCS_ok ht
   rw[h1] at h2
   cases h2
   have:=List.all_eq_true.1 hx u hu
   exact hU u (by simpa using this)
 | ext d n i=>simp only[stp];exact extV_resp (hU _ (by simp[foot])) (hU _ (by simp[foot]))
 | box d c=>simp only[stp];exact boxV_resp (hU _ (by simp[foot])) (fun u hu=>hU u (by simp[foot,hu])) (fun u hu=>hU u (by simp[foot,hu]))
 | alloc d zs=>simp only[stp];exact alloc_resp (hU _ (by simp[foot])) (fun u hu=>hU u (by simp[foot,hu]))
 | bs1 d s c=>simp only[stp];exact bsV_resp (hU _ (by simp[foot])) (fun u hu=>hU u (by simp[foot,hu]))
 | app d s b x y =>
  have hu1:2 * d ∈ U:=hU _ (by simp[foot])
  have hux:∀ u ∈ uO (fnL L) x,u ∈ U:=fun u hu=>hU u (by simp[foot,hu])
  have huy:∀ u ∈ uO (fnL L) y,u ∈ U:=fun u hu=>hU u (by simp[foot,hu])
  intro X hX Y1 e
  have hag:agr (uO (fnL L) y) X (fnL L):=hX.agr.sub huy
  have hpe:plainX X s y=plainX (fnL L) s y:=by simp only[plainX,rd_agr hag,cellsV_agr (rdr_agr hag)]
  simp only[stp,hpe] at e ⊢
  by_cases hpl:plainX (fnL L) s y=true
  ·rw[if_pos hpl] at e ⊢
   exact appV_resp hu1 hux huy X hX Y1 e
  ·rw[if_neg hpl] at e ⊢
   simp only[extra,hpl,Bool.false_eq_true,if_false] at hx
   refine appOV_resp hu1 huy (fun Y0 h1 u hu=>?_) X hX Y1 e
   cases ht:takeCS L y with
   | none=>simp [ht] at hx
   | some L1 =>
    simp only[ht] at hx
    have h2:=takeCS_ok ht
    rw[h1] at h2
    cases h2
    rw[mvHL_eq] at hu
    have:=List.all_eq_true.1 hx u hu
    exact hU u (by simpa using this)
 | cpy d s x y=>simp only[stp];exact cpV_resp (hU _ (by simp[foot])) (fun u hu=>hU u (by simp[foot,hu])) (fun u hu=>hU u (by simp[foot,hu]))
 | asg d c =>
  simp only[isPure,Bool.not_eq_false'] at hp
  intro X hX Y1 e
  have hc:∀ u ∈ uO (fnL L) c,u ∈ U:=fun u hu=>hU u (by simp[foot,hu])
  have ho:ownRaw X c=true:=by rw[ownRaw_agr (hX.agr.sub hc)];exact hp
  simp only[stp] at e ⊢
  rw[if_pos hp] at e
  rw[if_pos ho]
  exact asgV_resp (hU _ (by simp[foot])) hc X hX Y1 e
 | _=>simp [isPure] at hp
theorem pure_agr {L L1:SL}{c:COp}(hp:isPure L c=true)(h:stpL L c=some L1):∃ v,L1=setL L (100 * dOf c) v∧∀ X,agr (foot (fnL L) c) X (fnL L)→stp X c=some (X.set (100 * dOf c) v):=by
 have key:((pval (fnL L) c).map fun v=>setL L (100 * dOf c) v)=some L1→∃ v,L1=setL L (100 * dOf c) v∧∀ X,agr (foot (fnL L) c) X (fnL L)→stp X c=some (X.set (100 * dOf c) v):=by
  intro h
  simp only[Option.map_eq_some_iff] at h
  obtain⟨v,h1,rfl⟩:=h
  exact⟨v,rfl,fun X hX=>pval_ok (by rw[pval_agr hX (by rw[h1];rfl),h1])⟩
 cases c with
 | asg d c =>
  simp only[isPure,Bool.not_eq_true'] at hp
  simp only[stpL,hp,Bool.false_eq_true,if_false,putVS] at h
  split at h
  ·rename_i hn
   simp only[Option.some.injEq] at h
   refine⟨_,h.symm,fun X hX=>?_⟩
   have hc:agr (uO (fnL L) c) X (fnL L):=hX.sub (fun u hu=>by simp[foot,hu])
   simp only[stp,ownRaw_agr hc,hp,Bool.false_eq_true,if_false,putV,rd_agr hc,hn,if_true,dOf]
  ·cases h
 | st _ _ _=>simp [isPure] at hp
 | ext _ _ _=>simp [isPure] at hp
 | box _ _=>simp [isPure] at hp
 | alloc _ _=>simp [isPure] at hp
 | bs1 _ _ _=>simp [isPure] at hp
 | app _ _ _ _ _=>simp [isPure] at hp
 | cpy _ _ _ _=>simp [isPure] at hp
 | _=>exact key h
theorem foot_d {X:XF Unit}{L:SL}{c:COp}(hp:isPure L c=true):2 * dOf c ∈ foot X c:=by
 cases c<;>first | (simp [isPure] at hp;done) | simp [foot,dOf]
theorem stpD_step {L L':SL}{c:COp}{R D:List Nat}(hd:dOf c < 9000)(hc0:cleanX (fnL L))(h:stpD L c=some (L',R,D)):(∀ u ∈ D,u ∈ R)∧(∀ k,unitK k ∉ D→fnL L' k=fnL L k)∧cleanX (fnL L') ∧
  ∀ X,cleanX X→(∀ k,unitK k ∈ R→X k=fnL L k)→∃ X1,stp X c=some X1∧∀ C tm w,RelT C X1 tm w→RelT C (mix D (fnL L') X) tm w:=by
 simp only[stpD,Option.bind_eq_some_iff] at h
 obtain⟨L1,h1,h⟩:=h
 by_cases hp:isPure L c=true
 ·rw[if_pos hp] at h
  split at h
  ·rename_i hr
   simp only[Option.some.injEq,Prod.mk.injEq] at h
   obtain⟨rfl,rfl,rfl⟩:=h
   obtain⟨v,rfl,hs⟩:=pure_agr hp h1
   refine⟨fun u hu=>?_,fun k hk=>?_,fun k=>?_,fun X hX ha=>?_⟩
   ·simp only[List.mem_singleton] at hu;subst hu;exact foot_d hp
   ·rw[← fnL_set,XF.set_ne _ _ (fun e=>hk (by rw[e,unit_reg];simp))]
   ·by_cases e:k=100 * dOf c
    ·subst e
     refine⟨fun hh=>absurd rfl (hand_unit hh hd),fun r hm=>?_⟩
     have:=List.all_eq_true.1 hr r hm
     simpa using this
    ·rw[← fnL_set,XF.set_ne _ _ e];exact hc0 k
   ·have hag:agr (foot (fnL L) c) X (fnL L):=ha
    refine⟨_,hs X hag,fun C tm w hrel=>?_⟩
    rw[← fnL_set,mix_set (ha (100 * dOf c) (by rw[unit_reg];exact foot_d hp))]
    exact hrel
  ·cases h
 ·rw[if_neg hp] at h
  have hp':isPure L c=false:=by simpa using hp
  split at h
  ·rename_i hok
   simp only[Option.some.injEq,Prod.mk.injEq] at h
   obtain⟨rfl,rfl,rfl⟩:=h
   have hresp:=stp_resp (U:=foot (fnL L) c) hp' (fun u hu=>hu) hok.2
   have hY:=stpL_ok h1
   have hself:=hresp (fnL L) (fun k _=>rfl) _ hY
   obtain⟨_,_,_,_,hout⟩:=hself
   have hcl:cleanX (fnL (dropH L1)):=fun k=>⟨fun hk=>by rw[fnL_dropH,if_pos hk],fun r hr=>okR_at hok.1 hr⟩
   refine⟨fun u hu=>hu,fun k hk=>?_,hcl,fun X hX ha=>?_⟩
   ·rw[fnL_dropH]
    split
    ·rename_i hh;exact ((hc0 k).1 hh).symm
    ·rename_i hh
     exact hout k (fun hin=>hin.elim hk (fun h=>hh h))
   ·have hag:agH (foot (fnL L) c) X (fnL L):=fun k hk=>by
     rcases hk with hk | hk
     ·exact ha k hk
     ·rw[(hX k).1 hk,(hc0 k).1 hk]
    obtain⟨X1,e1,e2,e3,_⟩:=hresp X hag _ hY
    refine⟨X1,e1,fun C tm w hrel=>?_⟩
    have hroots:∀ k,handB k=false→∀ r ∈ roots (X1 k).2,handB r=false:=by
     intro k hk r hr
     by_cases hu:unitK k ∈ foot (fnL L) c
     ·rw[e2 k (.inl hu)] at hr
      exact okR_at hok.1 (k:=k) (by rw[fnL_dropH,if_neg (by simp[hk])];exact hr)
     ·rw[e3 k (fun hin=>hin.elim hu (fun h=>by rw[hk] at h;cases h))] at hr
      exact (hX k).2 r hr
    have:=hrel.cleaned hroots
    have e:(fun k=>if handB k=true then (0,.non) else X1 k)=mix (foot (fnL L) c) (fnL (dropH L1)) X:=by
     funext k
     simp only[mix]
     by_cases hh:handB k=true
     ·rw[if_pos hh]
      split
      ·rw[fnL_dropH,if_pos hh]
      ·exact ((hX k).1 hh).symm
     ·rw[if_neg hh]
      by_cases hu:unitK k ∈ foot (fnL L) c
      ·rw[if_pos hu,fnL_dropH,if_neg hh,e2 k (.inl hu)]
      ·rw[if_neg hu,e3 k (fun hin=>hin.elim hu hh)]
    rwa [e] at this
  ·cases h
section
variable {P:Program} {nt:Nat} {L:SL} {Q:Ex→SL→Prop}
theorem nt_lt {C:Ctx}{o:Oper}{c:COp}{g:Option (Nat × Bool)}{ops:Array Oper}{here:List Nat}(hn:C.nt=nt)(h:itOf P nt ops here o=some (.op g c)):dOf c < 9000:=by
 obtain⟨_,h2,h3⟩:=itOf_op h
 have h9:nt≤9000:=by
  unfold compO at h2
  split at h2
  ·rename_i hh;have:=hh.2;simpa [H] using this
  ·cases h2
 rcases h3 with ⟨n,a,v,rfl,_⟩ | ⟨_,hd,_⟩
 ·simp[dOf]
 ·omega
theorem dstep_op {C:Ctx}{ops:Array Oper}{here:List Nat}{i:Nat}{o:Oper}{c:COp}{L':SL}{R D:List Nat}(hP:C.P=P)(hn:C.nt=nt)(hi:ops[i]?=some o)(h:itOf P nt ops here o=some (.op none c))(hc0:cleanX (fnL L))(hs:stpD L c=some (L',R,D)):DStep C ops i R D (fnL L) (fnL L'):=by
 obtain⟨h1,h2,h3,h4⟩:=stpD_step (nt_lt hn h) hc0 hs
 refine⟨h1,h2,h3,fun X hX ha=>?_⟩
 obtain⟨X1,e1,e2⟩:=h4 X hX ha
 obtain⟨g1,g2,_⟩:=itOf_op h
 subst hP hn
 exact (SOk.op hi (compGd_none g1) (compO_ok g2 e1)).weak (e2 C)
def stpDG (t:Nat)(w:Bool)(L:SL)(c:COp):Option Bool→Option (SL × List Nat × List Nat)
 | some true=>(stpD L c).map fun p=>(p.1,2 * t :: p.2.1,p.2.2)
 | some false=>match c with
  | .st _ _ _=>some (L,[2 * t],[])
  | c=>some (setL L (100 * dOf c) (.sc undef),[2 * t,2 * dOf c],[2 * dOf c])
 | none=>none
theorem mix_nil (Y X:XF Unit):mix [] Y X=X:=by funext k;simp[mix]
theorem dstep_skip {C:Ctx}{ops:Array Oper}{i t d:Nat}{w:Bool}(hd:d < 9000)(hc0:cleanX (fnL L))(hs:∀ X,cleanX X→(∀ k,unitK k ∈ [2 * t,2 * d]→X k=fnL L k)→SOk C ops i X (X.set (100 * d) (.sc undef))) :
  DStep C ops i [2 * t,2 * d] [2 * d] (fnL L) (fnL (setL L (100 * d) (.sc undef))):=by
 refine⟨fun u hu=>by simp only[List.mem_singleton] at hu;subst hu;simp,fun k hk=>?_,fun k=>?_,fun X hX ha=>?_⟩
 ·rw[← fnL_set,XF.set_ne _ _ (fun e=>hk (by rw[e,unit_reg];simp))]
 ·by_cases e:k=100 * d
  ·subst e
   refine⟨fun hh=>absurd rfl (hand_unit hh hd),fun r hm=>?_⟩
   rw[← fnL_set,XF.set_self] at hm
   simp[roots] at hm
  ·rw[← fnL_set,XF.set_ne _ _ e];exact hc0 k
 ·rw[← fnL_set,mix_set (ha (100 * d) (by rw[unit_reg];simp))]
  exact hs X hX ha
theorem dstep_gop {C:Ctx}{ops:Array Oper}{here:List Nat}{i t:Nat}{w:Bool}{o:Oper}{c:COp}{L':SL}{R D:List Nat}(hP:C.P=P)(hn:C.nt=nt)(hi:ops[i]?=some o)(h:itOf P nt ops here o=some (.op (some (t,w)) c))(hc0:cleanX (fnL L))
  (hs:stpDG t w L c (gv w (fnL L (100 * t)).2)=some (L',R,D)):DStep C ops i R D (fnL L) (fnL L'):=by
 have hd9:=nt_lt hn h
 obtain⟨g1,g2,g3⟩:=itOf_op h
 obtain⟨j,hg,ht,hlt⟩:=compGd_some g1
 cases hb:gv w (fnL L (100 * t)).2 with
 | none=>rw [hb] at hs;simp[stpDG] at hs
 | some b =>
  rw[hb] at hs
  cases b with
  | true =>
   simp only[stpDG,Option.map_eq_some_iff] at hs
   obtain⟨⟨L1,R1,D1⟩,hs,e⟩:=hs
   simp only[Prod.mk.injEq] at e
   obtain⟨rfl,rfl,rfl⟩:=e
   obtain⟨h1,h2,h3,h4⟩:=stpD_step hd9 hc0 hs
   refine⟨fun u hu=>List.mem_cons_of_mem _ (h1 u hu),h2,h3,fun X hX ha=>?_⟩
   obtain⟨X1,e1,e2⟩:=h4 X hX (fun k hk=>ha k (List.mem_cons_of_mem _ hk))
   subst hP hn
   refine (SOk.yes hi hg ht hlt ?_ (compO_ok g2 e1)).weak (e2 C)
   rw[ha (100 * t) (by rw[unit_reg];simp)]
   exact gv_true hb
  | false =>
   obtain⟨x,hx,hne⟩:=gv_false hb
   rcases g3 with ⟨n,a,v,rfl,hdn⟩ | ⟨hd,hdl,hsk⟩
   ·simp only[stpDG,Option.some.injEq,Prod.mk.injEq] at hs
    obtain⟨rfl,rfl,rfl⟩:=hs
    refine⟨by simp,fun _ _=>rfl,hc0,fun X hX ha=>?_⟩
    rw[mix_nil]
    subst hP hn
    exact SOk.no' hi hg ht hlt (by rw[ha (100 * t) (by rw[unit_reg];simp)];exact hx) hne hdn
   ·have e:stpDG t w L c (some false)=some (setL L (100 * dOf c) (.sc undef),[2 * t,2 * dOf c],[2 * dOf c]):=by
     cases c with
     | st n a v =>
      exfalso
      have:=hsk ([]:SL)
      simp[skipL,setL] at this
     | _=>rfl
    rw[e] at hs
    simp only[Option.some.injEq,Prod.mk.injEq] at hs
    obtain⟨rfl,rfl,rfl⟩:=hs
    refine dstep_skip (w:=w) hd9 hc0 fun X hX ha=>?_
    subst hP hn
    exact SOk.no hi hg ht hlt (by rw[ha (100 * t) (by rw[unit_reg];simp)];exact hx) hne hd hdl
abbrev Fs:=List (List Nat × List Nat)
def DL (P:Program)(nt:Nat)(segs:List Sg)(L:SL)(fs:Fs)(K:SL→Fs→Prop):Prop :=
 ∀ (C:Ctx) (ops:Array Oper) (i:Nat) (n:Nat),C.P=P→C.nt=nt→cleanX (fnL L)→itsOf P nt ops (hereOf ops) (List.range' i n)=some (flatS segs)→∃ L' l,DRun C ops i (fnL L) (fnL L') l∧l.length=n∧K L' (l.reverse ++ fs)
theorem DL.nil {K:SL→Fs→Prop}{fs:Fs}(h:K L fs):DL P nt [] L fs K:=by
 intro C ops i n hP hn hc0 hc
 cases n with
 | zero=>exact ⟨L,[],.nil,rfl,h⟩
 | succ n=>simp only[List.range'_succ,itsOf,flatS,Option.bind_eq_some_iff,Option.map_eq_some_iff,reduceCtorEq,and_false,exists_false] at hc
theorem DL.cons {K:SL→Fs→Prop}{fs:Fs}{it:It}{segs rest:List Sg}{L1:SL}{R D:List Nat}(hf:flatS segs=it :: flatS rest)
  (hs:∀ (C:Ctx) (ops:Array Oper) (i:Nat) (o:Oper),C.P=P→C.nt=nt→cleanX (fnL L)→ops[i]?=some o→itOf P nt ops (hereOf ops) o=some it→DStep C ops i R D (fnL L) (fnL L1)) (h:DL P nt rest L1 ((R,D) :: fs) K):DL P nt segs L fs K:=by
 intro C ops i n hP hn hc0 hc
 rw[hf] at hc
 cases n with
 | zero=>simp [itsOf] at hc
 | succ n =>
  rw[List.range'_succ] at hc
  simp only[itsOf,Option.bind_eq_some_iff,Option.map_eq_some_iff] at hc
  obtain⟨o,ho,c',hc',r,hr',e⟩:=hc
  simp only[List.cons.injEq] at e
  obtain⟨rfl,rfl⟩:=e
  have hst:=hs C ops i o hP hn hc0 ho hc'
  obtain⟨L',l,h1,h2,h3⟩:=h C ops (i+1) n hP hn hst.cl hr'
  exact⟨L',(R,D) :: l,.cons hst h1,by simp[h2],by simpa using h3⟩
def stpDO:Option (SL × Fs)→COp→Option (SL × Fs)
 | some (L,fs),c=>(stpD L c).map fun p=>(p.1,p.2 :: fs)
 | none,_=>none
def runD:List COp→Option (SL × Fs)→Option (SL × Fs)
 | [],r=>r
 | c :: l,r=>runD l (stpDO r c)
def stpDGO (t:Nat)(w:Bool):Option (SL × Fs)→COp→Option (SL × Fs)
 | some (L,fs),c=>(stpDG t w L c (gv w (fnL L (100 * t)).2)).map fun p=>(p.1,p.2 :: fs)
 | none,_=>none
def runDG (t:Nat)(w:Bool):List COp→Option (SL × Fs)→Option (SL × Fs)
 | [],r=>r
 | c :: l,r=>runDG t w l (stpDGO t w r c)
theorem runD_none:∀ l:List COp,runD l none=none
 | []=>rfl
 | _ :: l=>runD_none l
theorem runDG_none {t:Nat}{w:Bool}:∀ l:List COp,runDG t w l none=none
 | []=>rfl
 | _ :: l=>runDG_none l
def runDS:List Sg→Option (SL × Fs)→Option (SL × Fs)
 | [],r=>r
 | .o l :: s,r=>runDS s (runD l r)
 | .g t w l :: s,r=>runDS s (runDG t w l r)
 | _ :: _,_=>none
theorem runDS_none:∀ l:List Sg,runDS l none=none
 | []=>rfl
 | .o l :: s=>by simp only[runDS,runD_none,runDS_none s]
 | .g t w l :: s=>by simp only[runDS,runDG_none,runDS_none s]
 | .call _ _ _ _ :: _=>rfl
 | .clo _ _ _ _ :: _=>rfl
 | .nilq _ _ _ :: _=>rfl
 | .raw _ _ _ :: _=>rfl
 | .bad :: _=>rfl
theorem DL.o {K:SL→Fs→Prop}{rest:List Sg}:∀ {l:List COp} {L L1:SL} {fs fs1:Fs},runD l (some (L,fs))=some (L1,fs1)→DL P nt rest L1 fs1 K→DL P nt (.o l :: rest) L fs K
 | [],L,L1,fs,fs1,hr,h=>by
  simp only[runD,Option.some.injEq,Prod.mk.injEq] at hr
  obtain⟨rfl,rfl⟩:=hr
  intro C ops i n hP hn hc0 hc
  exact h C ops i n hP hn hc0 (by simpa [flatS] using hc)
 | c :: l,L,L1,fs,fs1,hr,h=>by
  simp only[runD,stpDO] at hr
  cases hs:stpD L c with
  | none=>rw [hs,Option.map_none,runD_none] at hr;cases hr
  | some p =>
   obtain⟨L2,R,D⟩:=p
   rw[hs] at hr
   exact DL.cons (it:=.op none c) (rest:=.o l :: rest) (by simp[flatS]) (fun C ops i o hP hn hc0 hi hit=>dstep_op hP hn hi hit hc0 hs) (DL.o (l:=l) hr h)
theorem DL.g {K:SL→Fs→Prop}{rest:List Sg}{t:Nat}{w:Bool}:∀ {l:List COp} {L L1:SL} {fs fs1:Fs},runDG t w l (some (L,fs))=some (L1,fs1)→DL P nt rest L1 fs1 K→DL P nt (.g t w l :: rest) L fs K
 | [],L,L1,fs,fs1,hr,h=>by
  simp only[runDG,Option.some.injEq,Prod.mk.injEq] at hr
  obtain⟨rfl,rfl⟩:=hr
  intro C ops i n hP hn hc0 hc
  exact h C ops i n hP hn hc0 (by simpa [flatS] using hc)
 | c :: l,L,L1,fs,fs1,hr,h=>by
  simp only[runDG,stpDGO] at hr
  cases hs:stpDG t w L c (gv w (fnL L (100 * t)).2) with
  | none=>rw [hs,Option.map_none,runDG_none] at hr;cases hr
  | some p =>
   obtain⟨L2,R,D⟩:=p
   rw[hs] at hr
   exact DL.cons (it:=.op (some (t,w)) c) (rest:=.g t w l :: rest) (by simp[flatS]) (fun C ops i o hP hn hc0 hi hit=>dstep_gop hP hn hi hit hc0 hs) (DL.g (l:=l) hr h)
theorem DL.run {K:SL→Fs→Prop}:∀ {segs:List Sg} {L L1:SL} {fs fs1:Fs},runDS segs (some (L,fs))=some (L1,fs1)→K L1 fs1→DL P nt segs L fs K
 | [],L,L1,fs,fs1,hr,h=>by simp only[runDS,Option.some.injEq,Prod.mk.injEq] at hr;obtain ⟨rfl,rfl⟩:=hr;exact DL.nil h
 | .o l :: s,L,L1,fs,fs1,hr,h=>by
  simp only[runDS] at hr
  cases hs:runD l (some (L,fs)) with
  | none=>rw [hs,runDS_none] at hr;cases hr
  | some p=>obtain ⟨L2,fs2⟩:=p;rw[hs] at hr;exact DL.o hs (DL.run hr h)
 | .g t w l :: s,L,L1,fs,fs1,hr,h=>by
  simp only[runDS] at hr
  cases hs:runDG t w l (some (L,fs)) with
  | none=>rw [hs,runDS_none] at hr;cases hr
  | some p=>obtain ⟨L2,fs2⟩:=p;rw[hs] at hr;exact DL.g hs (DL.run hr h)
def luK (k:Nat):List Nat:=if k % 100=99 then cellU (k / 100) 1 99 else []
def luR (own:Bool):List Nat→List Nat
 | []=>[]
 | k :: ks=>(if own=true then luK k else []) ++ luR own ks
theorem luR_append (own:Bool):∀ a b:List Nat,luR own (a ++ b)=luR own a ++ luR own b
 | [],b=>rfl
 | k :: a,b=>by simp only[List.cons_append,luR,luR_append own a b,List.append_assoc]
def luO (X:XF Unit)(own:Bool)(c:COd):List Nat:=luR own (roots (rd X c))
def luOs (X:XF Unit)(own:Bool):List COd→List Nat
 | []=>[]
 | c :: cs=>luO X own c ++ luOs X own cs
theorem boxFrom_agr {X Y:XF Unit}{b:Nat}(h:∀ m,1≤m→m≤98→X (100 * b+m)=Y (100 * b+m)):∀ (n i:Nat),i+n≤98→boxFrom X b i n=boxFrom Y b i n
 | 0,i,_=>rfl
 | n+1,i,hi=>by
  have:=h (1+i) (by omega) (by omega)
  rw[← Nat.add_assoc] at this
  simp only[boxFrom,this,boxFrom_agr h n (i+1) (by omega)]
mutual
theorem trA_agr {U:List Nat}{X Y:XF Unit}{ls:List (Nat × List Nat)}{own:Bool}{k0:Nat}(h:agr U X Y):∀ (v:AU),(∀ u ∈ ru v,u ∈ U)→(∀ u ∈ luR own (roots v),u ∈ U)→trA X ls own k0 v=trA Y ls own k0 v
 | .view k g p off len,hv,_=>by simp only[trA,agrV h hv k (by simp[roots])]
 | .ptr k g p i,hv,_=>by simp only[trA,agrV h hv k (by simp[roots])]
 | .bptr b g i,hv,hl=>by
  simp only[trA,h _ (gen_unit hv)]
  by_cases ho:own=true
  ·have hc:∀ u ∈ cellU b 1 99,u ∈ U:=fun u hu=>hl u (by
    simp only[roots,luR,ho,if_true,luK,List.append_nil]
    rw[if_pos (by omega),show (100 * b+99) / 100=b by omega]
    exact hu)
   have hb:∀ m,1≤m→m≤98→X (100 * b+m)=Y (100 * b+m):=fun m h1 h2=>h _ (by
    have:=cell_unit (b:=b) (m:=1) (n:=99) hc (j:=m - 1) (by omega) (by omega) (by omega)
    rwa [show 100 * b+(1+(m - 1))=100 * b+m by omega] at this)
   by_cases hi:i≤98
   ·rw[boxFrom_agr hb (98 - i) i (by omega)]
   ·rw[if_neg (fun hh=>hi hh.2.2.1),if_neg (fun hh=>hi hh.2.2.1)]
  ·simp only[ho,false_and,and_false,if_false,Bool.false_eq_true]
 | .agg vs,hv,hl=>by simp only[trA,trL_agr h vs (by simpa [ru,roots] using hv) (by simpa [roots] using hl)]
 | .clos f vs,hv,hl=>by simp only[trA,trL_agr h vs (by simpa [ru,roots] using hv) (by simpa [roots] using hl)]
 | .sc _,_,_ | .sl _ _ _ _ _,_,_ | .bx _ _ _,_,_ | .vptr _ _,_,_ | .tuple _,_,_ | .mp _ _ _,_,_ | .mv _ _ _,_,_ | .dead,_,_ | .non,_,_=>by simp only[trA]
theorem trL_agr {U:List Nat}{X Y:XF Unit}{ls:List (Nat × List Nat)}{own:Bool}{k0:Nat}(h:agr U X Y):∀ (vs:List AU),(∀ u ∈ (rootsL vs).map unitK,u ∈ U)→(∀ u ∈ luR own (rootsL vs),u ∈ U)→trL X ls own k0 vs=trL Y ls own k0 vs
 | [],_,_=>rfl
 | v :: vs,hv,hl=>by
  simp only[rootsL,List.map_append,List.mem_append] at hv
  simp only[rootsL,luR_append,List.mem_append] at hl
  simp only[trL,trA_agr h v (fun u hu=>hv u (.inl hu)) (fun u hu=>hl u (.inl hu)),trL_agr h vs (fun u hu=>hv u (.inr hu)) (fun u hu=>hl u (.inr hu))]
end
theorem trArgs_agr {X Y:XF Unit}{ls:List (Nat × List Nat)}{own:Bool}:∀ {cs:List COd},agr (uOs Y cs ++ luOs Y own cs) X Y→trArgs X ls own cs=trArgs Y ls own cs
 | [],_=>rfl
 | c :: cs,h=>by
  have hc:agr (uO Y c) X Y:=h.sub (fun u hu=>by simp[uOs,hu])
  simp only[trArgs,rd_agr hc,trA_agr (own:=own) h (rd Y c) (fun u hu=>by simp[uOs,ru_uO u hu]) (fun u hu=>by simp[luOs,luO,hu]),trArgs_agr (cs:=cs) (h.sub (fun u hu=>by
   simp only[uOs,luOs,List.mem_append] at hu ⊢
   rcases hu with hu | hu
   ·exact .inl (.inr hu)
   ·exact .inr (.inr hu)))]
theorem dstep_val {C:Ctx}{ops:Array Oper}{i d:Nat}{R:List Nat}{r:AU}(hd:d < 9000)(hR:2 * d ∈ R)(hr:roots r=[])(hc0:cleanX (fnL L))(hs:∀ X,cleanX X→(∀ k,unitK k ∈ R→X k=fnL L k)→SOk C ops i X (X.set (100 * d) r)) :
  DStep C ops i R [2 * d] (fnL L) (fnL (setL L (100 * d) r)):=by
 refine⟨fun u hu=>by simp only[List.mem_singleton] at hu;subst hu;exact hR,fun k hk=>?_,fun k=>?_,fun X hX ha=>?_⟩
 ·rw[← fnL_set,XF.set_ne _ _ (fun e=>hk (by rw[e,unit_reg];simp))]
 ·by_cases e:k=100 * d
  ·subst e
   refine⟨fun hh=>absurd rfl (hand_unit hh hd),fun r' hm=>?_⟩
   rw[← fnL_set,XF.set_self] at hm
   rw[hr] at hm;cases hm
  ·rw[← fnL_set,XF.set_ne _ _ e];exact hc0 k
 ·rw[← fnL_set,mix_set (ha (100 * d) (by rw[unit_reg];exact hR))]
  exact hs X hX ha
theorem opsNt {C:Ctx}(hn:C.nt=nt):nt≤9000:=hn ▸ C.hnt
theorem DL.call0 {K:SL→Fs→Prop}{rest:List Sg}{d f:Nat}{cs:List COd}{as:List AU}{r:AU}{fs:Fs}(own:Bool)(hfn:FnC P f [] as [] r)(has:trArgs (fnL L) [] own cs=some as)(hs:sideOk own [] [] r=true)
  (h:DL P nt rest (setL L (100 * d) r) ((2 * d :: (uOs (fnL L) cs ++ luOs (fnL L) own cs),[2 * d]) :: fs) K):DL P nt (.call none d f cs :: rest) L fs K:=by
 refine DL.cons (it:=.call none d f cs) (rest:=rest) (by simp[flatS]) (fun C ops i o hP hn hc0 hi hit=>?_) h
 have hcl:=itOf_call hit
 have hroot:roots r=[]:=by simp only[sideOk,Bool.and_eq_true,List.isEmpty_iff] at hs;exact hs.2
 refine dstep_val (by have:=opsNt hn;omega) (by simp) hroot hc0 fun X hX ha=>?_
 have hag:agr (uOs (fnL L) cs ++ luOs (fnL L) own cs) X (fnL L):=fun k hk=>ha k (List.mem_cons_of_mem _ hk)
 exact sok_call (ls:=[]) (gs:=[]) (gs':=[]) own hP hn hi hit hfn rfl (by simp) (by rw[trArgs_agr hag];exact has) hs
theorem DL.callY0 {K:SL→Fs→Prop}{rest:List Sg}{d f t:Nat}{w:Bool}{cs:List COd}{as:List AU}{r:AU}{fs:Fs}(own:Bool)(hb:gv w (fnL L (100 * t)).2=some true)(hfn:FnC P f [] as [] r)(has:trArgs (fnL L) [] own cs=some as)(hs:sideOk own [] [] r=true)
  (h:DL P nt rest (setL L (100 * d) r) ((2 * d :: 2 * t :: (uOs (fnL L) cs ++ luOs (fnL L) own cs),[2 * d]) :: fs) K):DL P nt (.call (some (t,w)) d f cs :: rest) L fs K:=by
 refine DL.cons (it:=.call (some (t,w)) d f cs) (rest:=rest) (by simp[flatS]) (fun C ops i o hP hn hc0 hi hit=>?_) h
 have hcl:=itOf_call hit
 have hroot:roots r=[]:=by simp only[sideOk,Bool.and_eq_true,List.isEmpty_iff] at hs;exact hs.2
 refine dstep_val (by have:=opsNt hn;omega) (by simp) hroot hc0 fun X hX ha=>?_
 have hag:agr (uOs (fnL L) cs ++ luOs (fnL L) own cs) X (fnL L):=fun k hk=>ha k (List.mem_cons_of_mem _ (List.mem_cons_of_mem _ hk))
 exact sok_callG (ls:=[]) (gs:=[]) (gs':=[]) own hP hn hi hit (by rw[ha (100 * t) (by rw[unit_reg];simp)];exact gv_true hb) hfn rfl (by simp) (by rw[trArgs_agr hag];exact has) hs
theorem WL.draw {dead:List Nat}{pl:List (List Nat)}{segs:List Sg}(hm:P.follows .mixedOrders=true)(hc0:cleanL L=true)(h:DL P nt segs L [] fun L1 fs=>drawOk pl fs.reverse=true∧∃ L2,finL dead L1=some L2∧Q .nrm L2):WL P nt (.draw pl dead segs) L Q:=by
 intro C code hP hn hc
 cases code<;>simp only[comp,Cd.er,Option.bind_eq_some_iff,Option.map_eq_some_iff,Option.some.injEq,reduceCtorEq,and_false,exists_false,exists_const] at hc
 case region id ops d =>
  cases d with
  | false=>simp [comp] at hc
  | true =>
   simp only[comp,Option.map_eq_some_iff,C0.draw.injEq] at hc
   obtain⟨its,h1,hpl,rfl⟩:=hc
   rw[List.range_eq_range'] at h1
   obtain⟨L1,l,h2,h3,h4,L2,h5,h6⟩:=h C ops 0 ops.size hP hn (cleanL_ok hc0) h1
   simp only[List.append_nil,List.reverse_reverse] at h4
   intro a w hd hr
   have:=AWp.drawR (id:=id) (Q:=fun e X=>e=.nrm∧X=fnL L1) (by rw[hP];exact hm) h2 h3 (cleanL_ok hc0) hpl h4 ⟨rfl,rfl⟩
   refine wp_mono (this a w hd hr) fun e a w hq=>?_
   cases e with
   | normal =>
    obtain⟨hd',X,hr',_,rfl⟩:=hq
    exact⟨hd',fnL L2,hr'.fin h5,L2,rfl,h6⟩
   | exit id=>obtain ⟨_,X,_,hx,_⟩:=hq;cases hx
   | ret=>obtain ⟨_,X,_,hx,_⟩:=hq;cases hx
   | goto l=>exact hq.elim
   | panic c=>exact hq.elim
   | outgrown=>exact hq.elim
theorem WL.sdraw {dead:List Nat}{pl:List (List Nat)}{segs:List Sg}{y:Cd}{L1 L2:SL}{fs:Fs}(hm:P.follows .mixedOrders=true)(hc0:cleanL L=true)(h1:runDS segs (some (L,[]))=some (L1,fs))(h2:drawOk pl fs.reverse=true)(h3:finL dead L1=some L2)(h:WL P nt y L2 Q):WL P nt (.seq (.draw pl dead segs) y) L Q :=
 WL.seq (WL.draw hm hc0 (DL.run h1 ⟨h2,L2,h3,h⟩))
end
end Go.OT
