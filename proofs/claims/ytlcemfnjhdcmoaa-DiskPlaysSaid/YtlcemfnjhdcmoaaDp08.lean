/- Part 8 of the proof: see its last file. -/
import Derived.Orders
import Derived.Below
import Derived.Laws.Entries
import Derived.Laws.Cells
import Derived.Laws.IdiomCopy
import Derived.Scope
import Derived.Calls
import Derived.Laws.Tables
import Derived.Laws.MakeOwn
import Derived.Laws.BytesString
import Derived.ArgAppend
import Derived.WalkSpells
import Derived.Lib.SlBytesConst
import Derived.Lib.ConvBytes
import Derived.WalkKit
import Derived.ProofKit
import Derived.OpenShut
import Derived.ShutString
import Derived.ChangeOld
import Derived.Lib.SmallJoins
import Derived.Test.YtlcemfnjhdcmoaaProg
import Derived.KernelRfl
import Derived.Shelf.Spec.SlicesInsertGrow
import Derived.Laws.IdiomRangeMap
import Derived.Laws.AppendOwn
import Derived.IntWalk
import Derived.Shelf.SlIterI.Nil
import Derived.Shelf.SortM.Plain
import Derived.Shelf.SortM.SortNone
import Derived.Shelf.Spec.SlicesGrow
import Derived.Test.YtlcemfnjhdcmoaaDp07
set_option linter.unusedSimpArgs false
set_option linter.unusedVariables false
namespace Go.OT
theorem EntK_frame {w w':World}{I I':ASet}(hI:∀ b o,I b o→w'.at b o=w.at b o∧I' b o):∀ {lm:List (Int × AL)} {es:List MapEntry},EntK w I lm es→EntK w' I' lm es
 | [],[],_=>by simp[EntK]
 | (a,v) :: lm,e :: es,h=>by
  simp only[EntK] at h ⊢
  exact⟨h.1,h.2.1,Mem_frame v h.2.2.1 (fun b o hb=>absurd hb (h.2.2.2.1 b o)) hI,h.2.2.2.1,EntK_frame hI h.2.2.2.2⟩
 | [],_ :: _,h=>by simp[EntK] at h
 | _ :: _,[],h=>by simp[EntK] at h
theorem RelL.wipe1 {C:Ctx}{XL:XF LO} {β:Nat→Nat × Nat}{I:ASet}{rg:Nat→Value}{w:World}(R:RelL C XL β I rg w)(k:Nat)(p:List Nat)(hk:k % 100=0)(hkH:k ≠ 100 * H)(hHL:(XL (100 * H)).2=.non){NL:AL}(hNL:getN (XL k).2 p=some NL)(hnL:NL.isNode=true)(hoL:ownQ (XL k).2 p=true)
  (hsmL:hdSame (er (XL k).2) (er (setN (XL k).2 p .dead))=true) (h2:∀ t,rootR [k] (XL (100 * t)).2=true) (h3:∀ k',isCell k'→noR [k] (XL k').2=true):RelL C (XL.upd k (setN (XL k).2 p .dead)) β I rg w:=by
 have R1:=R.takeP k H (by decide) p hkH (v:=.non) (x:=rg H) hNL hnL hoL (by simp[Mem]) (by simp[Sep]) (fun b o hb=>by simp[fp] at hb) (by simp[RR])
 have erg:(fun s=>if s=H then rg H else rg s)=rg:=by funext s;split<;>simp_all
 rw[erg] at R1
 have hM1:∀ j,j ≠ k→((XL.set k (setN (XL k).2 p .dead)).set (100 * H) .non) j=XL j:=fun j hj=>by
  by_cases e:j=100 * H
  ·subst e
   rw[XF.set_self,XF.set_ne _ _ hj]
   have:XL (100 * H)=((XL (100 * H)).1,.non):=by rw[← hHL]
   rw[this];rfl
  ·rw[XF.set_ne _ _ e,XF.set_ne _ _ hj]
 have hM2:(((XL.set k (setN (XL k).2 p .dead)).set (100 * H) .non) k).2=setN (XL k).2 p .dead:=by
  rw[XF.set_ne _ _ hkH,XF.set_self]
 have hroot:rootR [k] (setN (XL k).2 p .dead)=true:=by
  rw[← er_rootR]
  revert hsmL
  generalize er (setN (XL k).2 p .dead)=z
  generalize er (XL k).2=y
  intro h
  cases y<;>cases z<;>simp [hdSame] at h<;>rfl
 have R2:=R.regen R1 [k] H (fun j hj=>by simp at hj;subst hj;exact⟨hk,hkH⟩) (fun _ _=>rfl) (by
   rw[hM1 _ (Ne.symm hkH),hHL];rfl) (fun j hj _=>by
   rw[hM1 j (by intro e;subst e;simp at hj)]) (fun t=>by
   by_cases e:100 * t=k
   ·rw[e,hM2];exact hroot
   ·rw[hM1 _ e];exact h2 t) (fun j hj=>by
   have:j ≠ k:=by intro e;subst e;unfold isCell at hj;omega
   rw[hM1 _ this];exact h3 j hj) (fun j hj=>by
   simp at hj;subst hj;rw[hM2];exact hsmL)
 have:ungen [k] XL ((XL.set k (setN (XL k).2 p .dead)).set (100 * H) .non)=XL.upd k (setN (XL k).2 p .dead):=by
  funext j
  by_cases e:j=k
  ·subst e
   simp only[ungen,List.contains_cons,beq_self_eq_true,Bool.true_or,if_true,XF.upd_self]
   rw[hM2]
  ·have hc:[k].contains j=false:=by simp[e]
   simp only[ungen,hc,Bool.false_eq_true,if_false,XF.upd_ne _ _ e,hM1 j e]
 rw[this] at R2
 exact R2
theorem RelL.hide {C:Ctx}{XL:XF LO} {β:Nat→Nat × Nat}{I:ASet}{rg:Nat→Value}{w:World}(R:RelL C XL β I rg w)(k:Nat)(p:List Nat)(hp:p ≠ [])(hk:k % 100=0)(hkH:k ≠ 100 * H)(hHL:(XL (100 * H)).2=.non){l:Loc}{cs:List AL}(hNL:getN (XL k).2 p=some (.mp true (some l) cs))(hoL:ownQ (XL k).2 p=true)
  (hsmL:hdSame (er (XL k).2) (er (setN (XL k).2 p .dead))=true) (h2:∀ t,rootR [k] (XL (100 * t)).2=true) (h3:∀ k',isCell k'→noR [k] (XL k').2=true) :
  RelL C (XL.upd k (setN (XL k).2 p (.sc (.map (some l.b))))) β I rg w∧(∀ j o,¬ kfp β (XL.upd k (setN (XL k).2 p (.sc (.map (some l.b))))) j l.b o)∧¬ I l.b 0∧(C.K l.b 0∨C.w0.heap.size≤l.b) ∧
  ∃ es ck,w.heap[l.b]?=some (.map es ck)∧EOk es ck∧MemK w I cs (flatE es.toList):=by
 have hKk:=R.key k
 have r:=repl p (XL k).2 hKk.mem hKk.sep hoL hNL
 have hm:=r.mem
 simp only[Mem] at hm
 obtain⟨⟨es,ck,hes,hE,hMK⟩,_⟩:=hm
 have hb:=(at_m.1 hes).2
 obtain⟨ba,oa,ya,had,hfa,hna,hya,hca⟩:=r.ad hp
 have hya':ya=.map (some l.b):=by simpa [CR] using hca
 subst hya'
 have R1:=R.wipe1 k p hk hkH hHL hNL rfl hoL hsmL h2 h3
 have hg1:getN ((XL.upd k (setN (XL k).2 p .dead)) k).2 p=some .dead:=by rw[XF.upd_self];exact getN_setN hNL
 have ho1:ownQ ((XL.upd k (setN (XL k).2 p .dead)) k).2 p=true:=by rw[XF.upd_self];exact ownQ_setN hNL hoL
 have hfb:fp (XL k).2 l.b 0:=r.sub _ _ (by simp[fp])
 have hkf:kfp β XL k l.b 0:=.inl hfb
 have R2:=R1.leaf k p (N':=.sc (.map (some l.b))) hp hg1 ho1 rfl (.inl rfl) rfl (by simp[Mem]) (by simp[Sep]) (fun b o y ha hy=>by
   rw[XF.upd_self] at ha
   have:addr (setN (XL k).2 p .dead) p=addr (XL k).2 p:=by
    clear r hca hna hya hfa had ha hy R1 hg1 ho1 hfb hkf hKk hsmL hoL
    generalize (XL k).2=v at hNL ⊢
    induction p generalizing v with
    | nil=>rfl
    | cons i q ih =>
     simp only[getN] at hNL
     cases hc:v.cells? with
     | none=>simp only[hc,reduceCtorEq] at hNL
     | some cs' =>
      simp only[hc] at hNL
      cases hi:cs'[i]? with
      | none=>simp only[hi,reduceCtorEq] at hNL
      | some c =>
       simp only[hi] at hNL
       have hw:∀ cs2,(v.withCells cs2).cells?=some cs2:=fun cs2=>by cases v<;>simp [AV.cells?] at hc<;>rfl
       have hl:∀ cs2,(v.withCells cs2).loc?=v.loc?:=fun cs2=>by cases v<;>simp [AV.cells?] at hc<;>rfl
       have hs:setN v (i :: q) .dead=v.withCells (cs'.set i (setN c q .dead)):=by
        simp only[setN,hc];congr 3;simp[List.getD_eq_getElem?_getD,hi]
       rw[hs]
       cases q with
       | nil=>simp only[addr,hl]
       | cons j q' =>
        simp only[addr,hw,hc]
        rw[List.getElem?_set_self (List.getElem?_eq_some_iff.1 hi).1]
        simp only[hi]
        exact ih (by simp) c hNL
   rw[this,had] at ha
   cases ha
   rw[hya] at hy
   cases hy
   simp[CR]) (fun b o h=>by simp[fp] at h)
 have e2:(XL.upd k (setN (XL k).2 p .dead)).upd k (setN ((XL.upd k (setN (XL k).2 p .dead)) k).2 p (.sc (.map (some l.b))))=XL.upd k (setN (XL k).2 p (.sc (.map (some l.b)))):=by
  rw[XF.upd_self,setN_setN hNL]
  funext j
  by_cases e:j=k
  ·subst e;simp only[XF.upd_self]
  ·rw[XF.upd_ne _ _ e,XF.upd_ne _ _ e,XF.upd_ne _ _ e]
 rw[e2] at R2
 have hat0:∀ o,o ≠ 0→w.at l.b o=none:=fun o h=>by simp[World.at,hb,h]
 refine⟨R2,fun j o h=>?_,fun h=>(R.imm _ _ h).2 k hkf,R.frK _ _ _ hkf,es,ck,hb,hE,hMK⟩
 have hl:=(R2.key j).live _ _ h
 by_cases h0:o=0
 ·subst h0
  by_cases e:j=k
  ·subst e
   rcases h with h | ⟨c1,c2,c3⟩
   ·rw[XF.upd_self] at h
    rcases r.fps _ _ _ h with h | h
    ·exact h.2 (by simp[fp])
    ·simp[fp] at h
   ·exact absurd hk c1.1
  ·rw[kfp,XF.upd_ne _ _ e] at h
   exact R.disj j k e _ _ h hkf
 ·rw[hat0 o h0] at hl
  cases hl.2.2
theorem RelL.unhide {C:Ctx}{XL:XF LO} {β:Nat→Nat × Nat}{I:ASet}{rg:Nat→Value}{w:World}(R:RelL C XL β I rg w)(k:Nat)(p:List Nat)(hp:p ≠ []){mb:Nat}{cs:List AL}(hNL:getN (XL k).2 p=some (.sc (.map (some mb))))(hoL:ownQ (XL k).2 p=true)
  {es:Array MapEntry} {ck:Nat} (hb:w.heap[mb]?=some (.map es ck)) (hE:EOk es ck) (hMK:MemK w I cs (flatE es.toList)) (hn:∀ j,¬ kfp β XL j mb 0) (hI:¬ I mb 0) (hK:C.K mb 0∨C.w0.heap.size≤mb) :
  RelL C (XL.upd k (setN (XL k).2 p (.mp true (some ⟨mb,0,0⟩) cs))) β I rg w:=by
 have hat:w.at mb 0=some (.m es ck):=at_m.2 ⟨rfl,hb⟩
 have hKk:=R.key k
 have r:=repl p (XL k).2 hKk.mem hKk.sep hoL hNL
 obtain⟨ba,oa,ya,had,hfa,hna,hya,hca⟩:=r.ad hp
 refine R.leaf k p hp hNL hoL rfl (.inl rfl) rfl ?_ (by simp[Sep]) (fun b o y ha hy=>?_) (fun b o h=>?_)
 ·simp only[Mem]
  exact⟨⟨es,ck,hat,hE,hMK⟩,fun e=>by cases e⟩
 ·rw[had] at ha
  cases ha
  rw[hya] at hy
  cases hy
  have:ya=.map (some mb):=by simpa [CR] using hca
  rw[this]
  simp[CR]
 ·simp only[fp] at h
  obtain⟨rfl,rfl⟩:=h
  refine .inr ⟨hn,hI,(Array.getElem?_eq_some_iff.1 hb).1,by simp[World.fz,hb],by rw[hat];rfl,hK⟩
def Ctx.re (C:Ctx)(w:World)(K I:ASet):Ctx:={ C with w0:=w,K:=K,I0:=I }
theorem RelL.re_in {C:Ctx}{XL:XF LO} {β:Nat→Nat × Nat}{I:ASet}{rg:Nat→Value}{w:World}(R:RelL C XL β I rg w):RelL (C.re w (fun b o=>∃ j,kfp β XL j b o) I) XL β I rg w :=
 ⟨R.reg,R.key,R.disj,R.imm,fun k b o h=>.inl ⟨k,h⟩,fun b o h=>.inl h,fun b o h=>h,Frame.refl _ w,R.gh,R.gr⟩
theorem RelL.re_out {C:Ctx}{XL XL':XF LO} {β β':Nat→Nat × Nat}{I I':ASet}{rg rg':Nat→Value}{w w':World}(R:RelL C XL β I rg w)(R':RelL (C.re w (fun b o=>∃ j,kfp β XL j b o) I) XL' β' I' rg' w'):RelL C XL' β' I' rg' w':=by
 refine⟨R'.reg,R'.key,R'.disj,R'.imm,fun k b o h=>?_,fun b o h=>?_,fun b o h=>R'.frI0 b o (R.frI0 b o h),R.fr.trans R'.fr (fun b o ⟨j,h⟩=>R.frK j b o h),R'.gh,R'.gr⟩
 ·rcases R'.frK k b o h with ⟨j,h⟩ | h
  ·exact R.frK j b o h
  ·exact .inr (Nat.le_trans R.fr.size h)
 ·rcases R'.frI b o h with h | ⟨j,h⟩ | h
  ·exact R.frI b o h
  ·exact .inr (R.frK j b o h)
  ·exact .inr (.inr (Nat.le_trans R.fr.size h))
end Go.OT
namespace Go.OT
theorem leftOf_empty (es:Array MapEntry):leftOf es #[]=es:=by
 unfold leftOf
 rw[Array.filter_eq_self]
 intro x hx;simp
theorem run_next_at {P:Program}(w:World)(ty:TypeId)(r bm since c0:Nat)(seen:Array Nat)(es:Array MapEntry)(clock:Nat)(hr:w.heap[r]?=some (.mapIter (some bm) since seen c0))(hb:w.heap[bm]?=some (.map es clock))(hold:∀ x ∈ es.toList,x.born < since)(hsc:since≤c0) :
  ((leftOf es seen).size=0∧(Instr.next (.pointer (some ⟨r,0,none⟩)) false ty).run P w=.ok (.tuple #[.bool false]) w) ∨
  ∃ (j:Nat) (e:MapEntry) (dr:Nat),(leftOf es seen)[j]?=some e∧(Instr.next (.pointer (some ⟨r,0,none⟩)) false ty).run P w=.ok (.tuple #[.bool true,e.key,e.val]) { w with drawn:=dr,heap:=w.heap.setIfInBounds r (.mapIter (some bm) since (seen.push e.born) clock) }:=by
 simp only[Instr.next,getObj,Sem.run_bind,Sem.run,hr,hb,Result.andThen,next_test_false seen es since c0 hold hsc,Bool.false_eq_true,if_false]
 unfold leftOf
 have hmem:∀ x ∈ (Array.filter (fun e=>!seen.contains e.born) es).toList,x.born < since:=fun x hx=>hold x (by simp at hx ⊢;exact hx.1)
 generalize Array.filter (fun e=>!seen.contains e.born) es=L at hmem ⊢
 have e1:L.filter (fun x=>decide (x.born < since))=L:=Array.filter_eq_self.2 (fun x hx=>by simpa using hmem x (by simpa using hx))
 have e2:L.filter (fun x=>decide (x.born ≥ since))=#[]:=by
  rw[Array.filter_eq_empty_iff]
  intro x hx
  have:=hmem x (by simpa using hx)
  simp
  omega
 simp only[e1,e2,Array.append_empty]
 by_cases h0:L.size=0
 ·left
  have:L=#[]:=Array.eq_empty_of_size_eq_zero h0
  subst this
  refine⟨rfl,?_⟩
  simp[choose,Sem.run,Question.forced]
 ·right
  have hne:L.isEmpty=false:=by simp[Array.isEmpty,h0]
  simp only[hne,Bool.false_eq_true,if_false,Array.empty_append,Array.size_map]
  have hch:∃ (j dr:Nat),j < L.size∧(choose (Question.mapNext L.size)).run P w=.ok j { w with drawn:=dr }:=by
   by_cases hf:L.size≤1
   ·exact⟨0,w.drawn,by omega,by simp[choose,Sem.run,Question.forced,hf]⟩
   ·exact⟨_,w.drawn+1,Nat.mod_lt _ (by omega),by
     simp only[choose,Sem.run,Question.forced,decide_eq_true_eq,hf,if_false,Question.cut]
     rfl⟩
  obtain⟨j,dr,hj,hrun⟩:=hch
  refine⟨j,L[j],dr,by simp[hj],?_⟩
  simp only[hrun,Array.getElem?_map,Array.getElem?_eq_getElem hj,Option.map_some,Sem.run_bind,Result.andThen,setObj,Sem.run,hr]
  rfl
theorem run_entry_at {P:Program}(w:World)(r bm since:Nat)(seen:Array Nat)(es:Array MapEntry)(clock:Nat)(e:MapEntry)(hr:w.heap[r]?=some (.mapIter (some bm) since (seen.push e.born) clock))(hb:w.heap[bm]?=some (.map es clock))(he:e ∈ es.toList)(hn:(es.toList.map (·.born)).Nodup) :
  (Instr.entry (.pointer (some ⟨r,0,none⟩))).run P w=.ok (.tuple #[e.key,e.val]) w:=by
 have hf:es.find? (·.born == e.born)=some e:=by rw[← Array.find?_toList];exact find_born e es.toList hn he
 simp only[Instr.entry,getObj,Sem.run_bind,Sem.run,hr,hb,Result.andThen,Array.back?_push,bne_self_eq_false,Bool.false_eq_true,if_false,hf]
 rfl
theorem left_push {es:Array MapEntry}{seen:Array Nat}{e:MapEntry}{j:Nat}(hn:(es.toList.map (·.born)).Nodup)(hj:(leftOf es seen)[j]?=some e):(leftOf es (seen.push e.born)).toList=(leftOf es seen).toList.eraseIdx j:=by
 unfold leftOf at *
 rw[Array.toList_filter,Array.toList_filter]
 have hj':(es.toList.filter fun e=>!seen.contains e.born)[j]?=some e:=by
  rw[← Array.toList_filter,Array.getElem?_toList];exact hj
 have hf:∀ x:MapEntry,(!(seen.push e.born).contains x.born)=(!(x.born == e.born) && !seen.contains x.born):=fun x=>by
  rw[contains_push]
  cases seen.contains x.born<;>cases (x.born == e.born)<;>rfl
 have e1:(es.toList.filter fun x=>!(seen.push e.born).contains x.born)=(es.toList.filter fun x=>!seen.contains x.born).filter fun x=>!(x.born == e.born):=by
  rw[List.filter_filter]
  exact List.filter_congr fun x _=>hf x
 rw[e1]
 have hnd:((es.toList.filter fun x=>!seen.contains x.born).map (·.born)).Nodup:=(List.filter_sublist.map _).nodup hn
 generalize (es.toList.filter fun x=>!seen.contains x.born)=l at hj' hnd
 clear e1 hf hj
 induction l generalizing j with
 | nil=>simp at hj'
 | cons x l ih =>
  simp only[List.map_cons,List.nodup_cons] at hnd
  cases j with
  | zero =>
   simp at hj'
   subst hj'
   simp only[List.filter_cons,beq_self_eq_true,Bool.not_true,Bool.false_eq_true,if_false,List.eraseIdx_zero,List.tail_cons]
   rw[List.filter_eq_self]
   intro y hy
   simp
   exact fun e=>hnd.1 (e ▸ List.mem_map_of_mem hy)
  | succ j =>
   simp only[List.getElem?_cons_succ] at hj'
   have hx:(x.born == e.born)=false:=by
    simp
    exact fun e'=>hnd.1 (e' ▸ List.mem_map_of_mem (List.mem_of_getElem? hj'))
   simp only[List.filter_cons,hx,Bool.not_false,if_true,List.eraseIdx_cons_succ,ih hj' hnd.2]
theorem EntK_get {w:World}{I:ASet}:∀ {lm:List (Int × AL)} {es:List MapEntry} {j:Nat} {e:MapEntry},EntK w I lm es→es[j]?=some e→∃ a v,lm[j]?=some (a,v)∧e.key=.int .i64 a∧CR v e.val∧Mem w I v∧(∀ b o,¬ fp v b o)∧EntK w I (lm.eraseIdx j) (es.eraseIdx j)
 | (a,v) :: lm,x :: es,0,e,h,hj=>by
  simp only[EntK] at h
  simp at hj
  subst hj
  exact⟨a,v,rfl,h.1,h.2.1,h.2.2.1,h.2.2.2.1,h.2.2.2.2⟩
 | (a,v) :: lm,x :: es,j+1,e,h,hj=>by
  simp only[EntK] at h
  obtain⟨a',v',h1,h2,h3,h4,h5,h6⟩:=EntK_get h.2.2.2.2 (by simpa using hj)
  refine⟨a',v',by simpa using h1,h2,h3,h4,h5,?_⟩
  simp only[List.eraseIdx_cons_succ,EntK]
  exact⟨h.1,h.2.1,h.2.2.1,h.2.2.2.1,h6⟩
 | [],[],_,_,_,hj=>by simp at hj
 | [],_ :: _,_,_,h,_=>by simp[EntK] at h
 | _ :: _,[],_,_,h,_=>by simp[EntK] at h
theorem EntK_len {w:World}{I:ASet}:∀ {lm:List (Int × AL)} {es:List MapEntry},EntK w I lm es→lm.length=es.length
 | [],[],_=>rfl
 | (a,v) :: lm,x :: es,h=>by simp only[EntK] at h;simp[EntK_len h.2.2.2.2]
 | [],_ :: _,h=>by simp[EntK] at h
 | _ :: _,[],h=>by simp[EntK] at h
structure Hid (C:Ctx) (X:XF Unit) (tm:Array Value) (w:World) (mb r since c0 ck:Nat) (seen sa:Array Nat) (es:Array MapEntry) (m rem:List (Int × AU)):Prop where
 ex:∃ XL β I rg lm lr,erF XL=X∧RelL C XL β I rg w∧tm.size=C.nt∧(∀ t,t < C.nt→tm.getD t undef=rg t)∧(∀ j,¬ kfp β XL j mb 0)∧¬ I mb 0∧EntK w I lm es.toList∧erM lm=m∧EntK w I lr (leftOf es sa).toList∧erM lr=rem
 mp:w.heap[mb]?=some (.map es ck)
 it:w.heap[r]?=some (.mapIter (some mb) since seen c0)
 eok:EOk es ck
 old:∀ x ∈ es.toList,x.born < since
 sc:since≤c0
 ckle:since≤ck
 own:C.K mb 0∨C.w0.heap.size≤mb
 fr:C.w0.heap.size≤r
variable {C:Ctx} {X:XF Unit} {tm:Array Value} {w:World} {mb r since c0 ck:Nat} {seen sa:Array Nat} {es:Array MapEntry} {m rem:List (Int × AU)}
theorem Hid.relT (h:Hid C X tm w mb r since c0 ck seen sa es m rem):RelT C X tm w:=by
 obtain⟨XL,β,I,rg,lm,lr,h1,R,h3,h4,_⟩:=h.ex
 exact⟨XL,β,I,rg,h1,R,h3,h4⟩
theorem Hid.frame (h:Hid C X tm w mb r since c0 ck seen sa es m rem):∃ C':Ctx,C'.P=C.P∧C'.nt=C.nt∧RelT C' X tm w∧∀ X' tm' w',RelT C' X' tm' w'→Hid C X' tm' w' mb r since c0 ck seen sa es m rem:=by
 obtain⟨⟨XL,β,I,rg,lm,lr,h1,R,h3,h4,h5,h6,h7,h8,h9,h10⟩,q1,q2,q3,q4,q5,qk,q6,q7⟩:=h
 refine⟨C.re w (fun b o=>∃ j,kfp β XL j b o) I,rfl,rfl,⟨XL,β,I,rg,h1,R.re_in,h3,h4⟩,fun X' tm' w' hr=>?_⟩
 obtain⟨XL',β',I',rg',g1,R',g3,g4⟩:=hr
 have hmb:mb < w.heap.size:=(Array.getElem?_eq_some_iff.1 q1).1
 have hr:r < w.heap.size:=(Array.getElem?_eq_some_iff.1 q2).1
 have hmb':∀ o,¬ ∃ j,kfp β XL j mb o:=fun o ⟨j,hj⟩=>by
  have hl:=(R.key j).live _ _ hj
  by_cases h0:o=0
  ·subst h0;exact h5 j hj
  ·have:w.at mb o=none:=by simp[World.at,q1,h0]
   rw[this] at hl
   cases hl.2.2
 have hr':∀ o,¬ ∃ j,kfp β XL j r o:=fun o ⟨j,hj⟩=>by
  have hl:=(R.key j).live _ _ hj
  have:w.at r o=none:=by simp[World.at,q2]
  rw[this] at hl
  cases hl.2.2
 have hI:∀ b o,I b o→w'.at b o=w.at b o∧I' b o:=fun b o hb=>⟨R'.fr.cell b o (R.imm b o hb).1 (fun ⟨j,hj⟩=>(R.imm b o hb).2 j hj),R'.frI0 b o hb⟩
 refine⟨⟨XL',β',I',rg',lm,lr,g1,R.re_out R',g3,g4,fun j hj=>?_,fun hI'=>?_,EntK_frame hI h7,h8,EntK_frame hI h9,h10⟩,by rw[R'.fr.block mb hmb hmb'];exact q1,by rw[R'.fr.block r hr hr'];exact q2,q3,q4,q5,qk,q6,q7⟩
 ·rcases R'.frK j mb 0 hj with h | h
  ·exact hmb' 0 h
  ·exact absurd hmb (Nat.not_lt.2 h)
 ·rcases R'.frI mb 0 hI' with h | h | h
  ·exact h6 h
  ·exact hmb' 0 h
  ·exact absurd hmb (Nat.not_lt.2 h)
theorem RelL.same {XL:XF LO} {β:Nat→Nat × Nat}{I:ASet}{rg:Nat→Value}{w1:World}(R:RelL C XL β I rg w)(h:∀ b o,w1.at b o=w.at b o)(hz:∀ b o,w1.fz b o=w.fz b o)(hs:w.heap.size≤w1.heap.size)(hfr:Frame C.K C.w0 w1):RelL C XL β I rg w1 :=
 ⟨R.reg,fun k=>by
  have hk:=R.key k
  exact⟨Mem_frame _ hk.mem (fun b o _=>h b o) (fun b o hI=>⟨h b o,hI⟩),hk.sep,fun a b=>by rw[h];exact hk.cell a b,fun b o hb=>by rw[hz,h];exact⟨Nat.lt_of_lt_of_le (hk.live b o hb).1 hs,(hk.live b o hb).2⟩,hk.last⟩,
  R.disj,fun b o hI=>⟨Nat.lt_of_lt_of_le (R.imm b o hI).1 hs,(R.imm b o hI).2⟩,R.frK,R.frI,R.frI0,hfr,R.gh,R.gr⟩
theorem Hid.stepW {a:Act}(h:Hid C X a.tmps w mb r since c0 ck seen sa es m rem){d:Nat}(hd:d < C.nt){seen' sa':Array Nat}{c0' dr:Nat}{rem':List (Int × AU)}(lv:AL)(x:Value)(hno:noOwn lv=true)
  {XL:XF LO} {β:Nat→Nat × Nat} {I:ASet} {rg:Nat→Value} {lm:List (Int × AL)} (h1:erF XL=X) (R:RelL C XL β I rg w) (h3:a.tmps.size=C.nt) (h4:∀ t,t < C.nt→a.tmps.getD t undef=rg t) (h5:∀ j,¬ kfp β XL j mb 0) (h6:¬ I mb 0) (h7:EntK w I lm es.toList) (h8:erM lm=m)
  (hx:Mem w I lv∧RR XL β lv x∧∃ lr',EntK w I lr' (leftOf es sa').toList∧erM lr'=rem') (hc:since≤c0') (hdf:a.defers=[]) :
  Hid C (X.set (100 * d) (er lv)) (a.put (some d) x).tmps { w with drawn:=dr,heap:=w.heap.setIfInBounds r (.mapIter (some mb) since seen' c0') } mb r since c0' ck seen' sa' es m rem':=by
 obtain⟨_,q1,q2,q3,q4,q5,qk,q6,q7⟩:=h
 obtain⟨g1,g2,lr',g3,g4⟩:=hx
 have hr:r < w.heap.size:=(Array.getElem?_eq_some_iff.1 q2).1
 have hne:mb ≠ r:=fun e=>by rw[e,q2] at q1;cases q1
 generalize hw':({ w with drawn:=dr,heap:=w.heap.setIfInBounds r (.mapIter (some mb) since seen' c0') }:World)=w'
 have hb:∀ b,b ≠ r→w'.heap[b]?=w.heap[b]?:=fun b hb=>by subst hw';simp[Array.getElem?_setIfInBounds_ne (Ne.symm hb)]
 have hbr:w'.heap[r]?=some (.mapIter (some mb) since seen' c0'):=by subst hw';simp[hr]
 have hat:∀ b o,w'.at b o=w.at b o:=fun b o=>by
  by_cases e:b=r
  ·subst e;simp[World.at,hbr,q2]
  ·simp only[World.at,hb b e]
 have hfz:∀ b o,w'.fz b o=w.fz b o:=fun b o=>by
  by_cases e:b=r
  ·subst e;simp[World.fz,hbr,q2]
  ·simp only[World.fz,hb b e]
 have hsz:w'.heap.size=w.heap.size:=by subst hw';simp
 have hfr:Frame C.K C.w0 w':=by
  have F:=R.fr
  refine⟨by subst hw';exact F.os,by subst hw';exact F.tape,by subst hw';exact F.output,by rw[hsz];exact F.size,fun b hlt hn=>?_,fun b o hlt hn=>?_,fun b o hlt=>?_,fun b o hlt hs=>?_⟩
  ·rw[hb b (by omega)];exact F.block b hlt hn
  ·rw[hat];exact F.cell b o hlt hn
  ·rw[hat];exact F.some b o hlt
  ·rw[hfz];exact F.fz b o hlt hs
 have R1:=R.same hat hfz (Nat.le_of_eq hsz.symm) hfr
 have hd1:d < 10000:=by have:=C.hnt;omega
 have hI:∀ b o,I b o→w'.at b o=w.at b o∧I b o:=fun b o hb=>⟨hat b o,hb⟩
 have R2:=R1.setR d hd1 (v:=lv) (x:=x) hno (Mem_frame lv g1 (fun b o hb=>absurd hb ((noOwn_spec lv hno).1 b o)) hI) g2
 refine⟨⟨_,β,I,_,lm,lr',?_,R2,?_,fun t hlt=>?_,fun j hj=>?_,h6,EntK_frame hI h7,h8,EntK_frame hI g3,g4⟩,by rw[hb mb hne];exact q1,hbr,q3,q4,hc,qk,q6,q7⟩
 ·rw[erF_set,h1]
 ·simp[Act.put,h3]
 ·simp only[Act.put]
  by_cases e:t=d
  ·subst e;simp[Array.getD_eq_getD_getElem?,h3,hlt]
  ·rw[if_neg e,← h4 t hlt]
   simp[Array.getD_eq_getD_getElem?,Array.getElem?_setIfInBounds_ne (Ne.symm e)]
 ·by_cases e:j=100 * d
  ·subst e
   rcases hj with hj | hj
   ·rw[XF.set_self] at hj;exact (noOwn_spec lv hno).1 _ _ hj
   ·exact absurd hj.1 (isCell_reg d)
  ·rw[kfp,XF.set_ne _ _ e] at hj
   exact h5 j hj
theorem Hid.step {a:Act}(h:Hid C X a.tmps w mb r since c0 ck seen sa es m rem){d:Nat}(hd:d < C.nt){seen' sa':Array Nat}{c0' dr:Nat}{rem':List (Int × AU)}(lv:AL)(x:Value)(hno:noOwn lv=true)
  (hx:∀ XL β I rg lm lr,erF XL=X→RelL C XL β I rg w→EntK w I lm es.toList→erM lm=m→EntK w I lr (leftOf es sa).toList→erM lr=rem→Mem w I lv∧RR XL β lv x∧∃ lr',EntK w I lr' (leftOf es sa').toList∧erM lr'=rem') (hc:since≤c0') (hdf:a.defers=[]) :
  Hid C (X.set (100 * d) (er lv)) (a.put (some d) x).tmps { w with drawn:=dr,heap:=w.heap.setIfInBounds r (.mapIter (some mb) since seen' c0') } mb r since c0' ck seen' sa' es m rem':=by
 obtain⟨XL,β,I,rg,lm,lr,h1,R,h3,h4,h5,h6,h7,h8,h9,h10⟩:=h.ex
 exact h.stepW hd lv x hno h1 R h3 h4 h5 h6 h7 h8 (hx XL β I rg lm lr h1 R h7 h8 h9 h10) hc hdf
end Go.OT
namespace Go.OT
section
variable {P:Program} {nt:Nat}
theorem comp_seq {a b:C0}{code:Code}(h:comp P nt code=some (.seq a b)):∃ x y,code=.seq x y∧comp P nt x=some a∧comp P nt y=some b:=by
 cases code<;>(try simp only[comp,Option.bind_eq_some_iff,Option.map_eq_some_iff,Option.some.injEq,reduceCtorEq,and_false,exists_false,exists_const] at h)
 case seq x y =>
  obtain⟨ca,h1,cb,h2,h3⟩:=h
  simp only[C0.seq.injEq] at h3
  obtain⟨rfl,rfl⟩:=h3
  exact⟨x,y,rfl,h1,h2⟩
 case region id ops d=>cases d<;>simp [comp] at h
theorem comp_cond {co:COd}{a b:C0}{code:Code}(h:comp P nt code=some (.cond co a b)):∃ c x y,code=.cond c x y∧compOd nt 0 c=some co∧comp P nt x=some a∧comp P nt y=some b:=by
 cases code<;>(try simp only[comp,Option.bind_eq_some_iff,Option.map_eq_some_iff,Option.some.injEq,reduceCtorEq,and_false,exists_false,exists_const] at h)
 case cond c x y =>
  obtain⟨co',h0,ca,h1,cb,h2,h3⟩:=h
  simp only[C0.cond.injEq] at h3
  obtain⟨rfl,rfl,rfl⟩:=h3
  exact⟨c,x,y,rfl,h0,h1,h2⟩
 case region id ops d=>cases d<;>simp [comp] at h
theorem comp_block {id:Nat}{a:C0}{code:Code}(h:comp P nt code=some (.block id a)):∃ x,code=.block id x∧comp P nt x=some a:=by
 cases code<;>(try simp only[comp,Option.bind_eq_some_iff,Option.map_eq_some_iff,Option.some.injEq,reduceCtorEq,and_false,exists_false,exists_const] at h)
 case block id' x =>
  obtain⟨ca,h1,h3⟩:=h
  simp only[C0.block.injEq] at h3
  obtain⟨rfl,rfl⟩:=h3
  exact⟨x,rfl,h1⟩
 case region id ops d=>cases d<;>simp [comp] at h
theorem comp_loop {a:C0}{code:Code}(h:comp P nt code=some (.loop a)):∃ x,code=.loop x∧comp P nt x=some a:=by
 cases code<;>(try simp only[comp,Option.bind_eq_some_iff,Option.map_eq_some_iff,Option.some.injEq,reduceCtorEq,and_false,exists_false,exists_const] at h)
 case loop x =>
  obtain⟨ca,h1,h3⟩:=h
  simp only[C0.loop.injEq] at h3
  subst h3
  exact⟨x,rfl,h1⟩
 case region id ops d=>cases d<;>simp [comp] at h
theorem comp_reg {l:List It}{code:Code}(h:comp P nt code=some (.reg l)):∃ id ops,code=.region id ops false∧itsOf P nt ops (hereOf ops) (List.range ops.size)=some l:=by
 cases code<;>(try simp only[comp,Option.bind_eq_some_iff,Option.map_eq_some_iff,Option.some.injEq,reduceCtorEq,and_false,exists_false,exists_const] at h)
 case region id ops d =>
  cases d with
  | true=>simp [comp] at h
  | false =>
   simp only[comp,Option.map_eq_some_iff,C0.reg.injEq] at h
   obtain⟨its,h1,rfl⟩:=h
   exact⟨id,ops,rfl,h1⟩
theorem comp_skip {code:Code}(h:comp P nt code=some .skip):code=.skip:=by
 cases code<;>(try simp only[comp,Option.bind_eq_some_iff,Option.map_eq_some_iff,Option.some.injEq,reduceCtorEq,and_false,exists_false,exists_const] at h)
 case skip=>rfl
 case region id ops d=>cases d<;>simp [comp] at h
theorem comp_exit {id:Nat}{code:Code}(h:comp P nt code=some (.exit id)):code=.exit id:=by
 cases code<;>(try simp only[comp,Option.bind_eq_some_iff,Option.map_eq_some_iff,Option.some.injEq,reduceCtorEq,and_false,exists_false,exists_const,C0.exit.injEq] at h)
 case exit=>rw [h]
 case region id ops d=>cases d<;>simp [comp] at h
end
theorem wp_loop_inv {P:Program}{c:Code}{b0:Nat}{Z:Act→World→Prop}(Inv:Nat→Act→World→Prop)
  (round:∀ n a w,Inv n a w→c.wp P (fun e a' w'=>(e=.normal∧∃ n',n' < n∧Inv n' a' w')∨(e=.exit b0∧Z a' w')) a w):∀ n a w,Inv n a w→(Code.loop c).wp P (fun e a' w'=>e=.exit b0∧Z a' w') a w:=by
 intro n0 a0 w0 h0 b k cs
 have key:∀ n a w,Inv n a w→∃ e a' w',(e=.exit b0∧Z a' w')∧Arrives P (lone (b.at a (.code c :: .inLoop c :: k)) cs w) b k cs e a' w':=by
  intro n
  induction n using Nat.strongRecOn with
  | _ n ih =>
   intro a w hi
   obtain⟨e,a₁,w₁,hq,harr⟩:=round n a w hi b (.inLoop c :: k) cs
   rcases hq with ⟨rfl,n',hlt,hi'⟩ | ⟨rfl,hz⟩
   ·obtain⟨e₂,a₂,w₂,hq₂,harr₂⟩:=ih n' hlt a₁ w₁ hi'
    exact⟨e₂,a₂,w₂,hq₂,.of_steps (Steps.trans harr (.one step_inLoop)) harr₂⟩
   ·exact⟨.exit b0,a₁,w₁,⟨rfl,hz⟩,.pass (x:=.inLoop c) rfl (fun _ _=>.inl (by simp)) harr⟩
 obtain⟨e,a',w',hq,harr⟩:=key n0 a0 w0 h0
 exact⟨e,a',w',hq,.of_steps (.one step_loop) harr⟩
theorem oC {C:Ctx}{ops:Array Oper}{rest:List Sg}:∀ {l:List COp} {L L1:SL} {idx:List Nat},runL l (some L)=some L1→itsOf C.P C.nt ops (hereOf ops) idx=some (flatS (.o l :: rest))→∀ (a:Act) (w:World) (Q:Exit→Act→World→Prop),a.defers=[]→RelT C (fnL L) a.tmps w →
  (∀ idx2 a' w',itsOf C.P C.nt ops (hereOf ops) idx2=some (flatS rest)→a'.defers=[]→RelT C (fnL L1) a'.tmps w'→wpOps C.P ops Q idx2 a' w')→wpOps C.P ops Q idx a w
 | [],L,L1,idx,hr,hc,a,w,Q,hd,hR,h=>by
  simp only[runL,Option.some.injEq] at hr
  subst hr
  exact h idx a w (by simpa [flatS] using hc) hd hR
 | c :: l,L,L1,idx,hr,hc,a,w,Q,hd,hR,h=>by
  simp only[runL,stpO] at hr
  cases hs:stpL L c with
  | none=>rw [hs,runL_none] at hr;cases hr
  | some L2 =>
   rw[hs] at hr
   have hf:flatS (.o (c :: l) :: rest)=.op none c :: flatS (.o l :: rest):=by simp[flatS]
   rw[hf] at hc
   obtain⟨i,l',o,rfl,ho,hit,hl⟩:=its_cons hc
   rw[wpOps_cons]
   exact sok_op (C:=C) rfl rfl ho hit hs a w _ Q hd hR fun a' w' hd' hr'=>oC hr hl a' w' Q hd' hr' h
variable {C:Ctx} {X:XF Unit} {tm:Array Value} {w:World} {mb r since c0 ck:Nat} {seen sa:Array Nat} {es:Array MapEntry} {m rem:List (Int × AU)} {X0:SL}
theorem Hid.get {a:Act}(h:Hid C X a.tmps w mb r since c0 ck seen sa es m rem){it:Nat}{v:Value}(hit:it < C.nt)(hx:(X (100 * it)).2=.sc v):a.eval (.tmp it)=v:=by
 have h1:=h.relT.scal hit hx
 show a.tmps.getD it undef=v
 simp[Array.getD_eq_getD_getElem?,h1]
theorem set_same {α:Type}(l:Array α)(i:Nat)(x:α)(h:l[i]?=some x):l.setIfInBounds i x=l:=by
 apply Array.ext_getElem?
 intro j
 by_cases e:i=j
 ·subst e
  rw[Array.getElem?_setIfInBounds_self_of_lt (Array.getElem?_eq_some_iff.1 h).1,h]
 ·rw[Array.getElem?_setIfInBounds_ne e]
theorem Hid.back (h:Hid C (fnL X0) tm w mb r since c0 ck seen sa es m rem){k:Nat}{p:List Nat}(hp:p ≠ [])(hg:getN (fnL X0 k).2 p=some (.sc (.map (some mb))))(ho:ownQ (fnL X0 k).2 p=true):RelT C (fnL (updL X0 k (setN (fnL X0 k).2 p (.mp true () (flatM m))))) tm w:=by
 obtain⟨⟨XL,β,I,rg,lm,lr,h1,R,h3,h4,h5,h6,h7,h8,h9,h10⟩,q1,q2,q3,q4,q5,qk,q6,q7⟩:=h
 have hg':getN (XL k).2 p=some (.sc (.map (some mb))):=by
  rw[← h1] at hg
  simp only[erF,er_getN] at hg
  cases hc:getN (XL k).2 p with
  | none=>simp [hc] at hg
  | some v=>rw [hc] at hg;simp only[Option.map_some,Option.some.injEq] at hg;rw[er_sc hg]
 have ho':ownQ (XL k).2 p=true:=by rw[← h1] at ho;exact (er_ownQ p _).symm.trans ho
 have R2:=R.unhide k p hp hg' ho' q1 q3 ((memK_ent lm es.toList).2 h7) h5 h6 q6
 refine⟨_,β,I,rg,?_,R2,h3,h4⟩
 rw[erF_upd,h1,← fnL_upd,er_setN,er_flatM,h8,← h1]
 rfl
end Go.OT
namespace Go.OT
abbrev itV (r:Nat):AU:=.sc (.pointer (some ⟨r,0,none⟩))
abbrev mpV (b:Nat):AU:=.sc (.map (some b))
theorem map_erase {α β:Type}(f:α→β):∀ (l:List α) (j:Nat),(l.eraseIdx j).map f=(l.map f).eraseIdx j
 | [],_=>rfl
 | _ :: _,0=>rfl
 | a :: l,j+1=>by simp only[List.eraseIdx_cons_succ,List.map_cons,map_erase f l j]
section
variable {C:Ctx} {X:XF Unit} {w:World} {mb r since c0 ck:Nat} {seen sa:Array Nat} {es:Array MapEntry} {m rem:List (Int × AU)}
theorem Hid.next {a:Act}(h:Hid C X a.tmps w mb r since c0 ck seen seen es m rem)(hdf:a.defers=[])(hown:∀ x ∈ rem,noOwn x.2=true){it n:Nat}{o:Oper}(hit:it < C.nt)(hn:n < C.nt)(hx:(X (100 * it)).2=itV r)
  (h2:o.dst=some n) (h3:o.op=.next (.tmp it) false) {ops:Array Oper} {i:Nat} (ho:ops[i]?=some o) (hgd:o.guard=none) {K:Act→World→Prop} {Q:Exit→Act→World→Prop}
  (hend:rem=[]→∀ a' w',a'.defers=[]→Hid C (X.set (100 * n) (.tuple [.sc (.bool false)])) a'.tmps w' mb r since c0 ck seen seen es m rem→K a' w')
  (hmid:∀ (j:Nat) (key:Int) (v:AU) (e:MapEntry),rem[j]?=some (key,v)→(leftOf es seen)[j]?=some e→∀ a' w',a'.defers=[]→Hid C (X.set (100 * n) (.tuple [.sc (.bool true),.sc (.int .i64 key),v])) a'.tmps w' mb r since ck ck (seen.push e.born) seen es m rem→K a' w') :
  wpOp C.P ops Q i K a w:=by
 refine wpOp_of ho hgd ?_
 have hev:a.eval (.tmp it)=.pointer (some ⟨r,0,none⟩):=h.get hit hx
 have hck:=h.ckle
 rcases run_next_at (P:=C.P) w o.type r mb since c0 seen es ck h.it h.mp h.old h.sc with ⟨g1,g2⟩ | ⟨j,e,dr,g1,g2⟩
 ·have hrun:(execOp a.eval o).run C.P w=.ok (.value (.tuple #[.bool false])) w:=by
   simp only[execOp,h3,hev,Sem.run_bind,g2,Result.andThen_ok,Sem.run_pure]
  refine wp_in hrun ?_
  rw[h2]
  have hrem:rem=[]:=by
   obtain⟨XL,β,I,rg,lm,lr,_,_,_,_,_,_,_,_,g9,g10⟩:=h.ex
   have h0:(leftOf es seen).toList.length=0:=by rw[Array.length_toList];exact g1
   have h9:=EntK_len g9
   rw[h0] at h9
   rw[← g10,List.length_eq_zero_iff.1 h9];rfl
  refine hend hrem _ _ (by simp[Act.put,hdf]) ?_
  have:=h.step (d:=n) hn (seen':=seen) (sa':=seen) (c0':=c0) (dr:=w.drawn) (rem':=rem) (.tuple [.sc (.bool false)]) (.tuple #[.bool false]) (by simp[noOwn,noOwnL])
   (fun XL β I rg lm lr q1 q2 q3 q4 q5 q6=>⟨by simp[Mem,MemA],by simp only[RR];exact⟨[.bool false],rfl,.bool false,[],rfl,by simp[RR],by simp[RRL]⟩,lr,q5,q6⟩) h.sc hdf
  rw[set_same _ _ _ h.it] at this
  simpa [er,erL] using this
 ·have hrun:(execOp a.eval o).run C.P w=.ok (.value (.tuple #[.bool true,e.key,e.val])) { w with drawn:=dr,heap:=w.heap.setIfInBounds r (.mapIter (some mb) since (seen.push e.born) ck) }:=by
   simp only[execOp,h3,hev,Sem.run_bind,g2,Result.andThen_ok,Sem.run_pure]
  refine wp_in hrun ?_
  rw[h2]
  obtain⟨key,v,hr⟩:∃ key v,rem[j]?=some (key,v):=by
   obtain⟨XL,β,I,rg,lm,lr,_,_,_,_,_,_,_,_,g9,g10⟩:=h.ex
   obtain⟨key,v,q1,_⟩:=EntK_get g9 (by simpa using g1)
   exact⟨key,er v,by rw[← g10];simp[erM,q1]⟩
  refine hmid j key v e hr g1 _ _ (by simp[Act.put,hdf]) ?_
  -- the value's tree, out of what is left
  obtain⟨XL,β,I,rg,lm,lr,q1,q2,q3,q4,q5,q6,q7,q8,q9,q10⟩:=h.ex
  obtain⟨key',lv,p1,p2,p3,p4,p5,_⟩:=EntK_get q9 (by simpa using g1)
  have hkv:key'=key∧er lv=v:=by
   have:rem[j]?=some (key',er lv):=by rw[← q10];simp[erM,p1]
   rw[hr] at this
   simp only[Option.some.injEq,Prod.mk.injEq] at this
   exact⟨this.1.symm,this.2.symm⟩
  obtain⟨rfl,rfl⟩:=hkv
  have hno:noOwn lv=true:=by rw[← er_noOwn];exact hown _ (List.mem_of_getElem? hr)
  have:=h.stepW (d:=n) hn (seen':=seen.push e.born) (sa':=seen) (c0':=ck) (dr:=dr) (rem':=rem) (.tuple [.sc (.bool true),.sc (.int .i64 key'),lv]) (.tuple #[.bool true,e.key,e.val]) (by simp[noOwn,noOwnL,hno])
   q1 q2 q3 q4 q5 q6 q7 q8 ⟨by simp only[Mem,MemA];exact⟨trivial,trivial,p4,trivial⟩,by
    simp only[RR]
    refine⟨[.bool true,e.key,e.val],rfl,.bool true,_,rfl,by simp[RR],e.key,_,rfl,by rw[p2];simp[RR],e.val,[],rfl,RR_of_CR p3,by simp[RRL]⟩,lr,q9,q10⟩ hck hdf
  simpa [er,erL] using this
theorem Hid.entry {a:Act}{e:MapEntry}{j:Nat}{key:Int}{v:AU}(h:Hid C X a.tmps w mb r since ck ck (seen.push e.born) seen es m rem)(hdf:a.defers=[])(hj:rem[j]?=some (key,v))(hje:(leftOf es seen)[j]?=some e)(hno:noOwn v=true){it d:Nat}{o:Oper}(hit:it < C.nt)(hd:d < C.nt)(hx:(X (100 * it)).2=itV r)
  (h2:o.dst=some d) (h3:o.op=.entry (.tmp it)) {ops:Array Oper} {i:Nat} (ho:ops[i]?=some o) (hgd:o.guard=none) {K:Act→World→Prop} {Q:Exit→Act→World→Prop}
  (hK:∀ a' w',a'.defers=[]→Hid C (X.set (100 * d) (.tuple [.sc (.int .i64 key),v])) a'.tmps w' mb r since ck ck (seen.push e.born) (seen.push e.born) es m (rem.eraseIdx j)→K a' w') :
  wpOp C.P ops Q i K a w:=by
 refine wpOp_of ho hgd ?_
 have hev:a.eval (.tmp it)=.pointer (some ⟨r,0,none⟩):=h.get hit hx
 have hmem:=mem_left (es:=es) (seen:=seen) (e:=e) (by rw[Array.mem_toList_iff];exact Array.mem_of_getElem? hje)
 have hrun:(execOp a.eval o).run C.P w=.ok (.value (.tuple #[e.key,e.val])) w:=by
  simp only[execOp,h3,hev,Sem.run_bind,run_entry_at (P:=C.P) w r mb since seen es ck e h.it h.mp hmem.1 h.eok.1,Result.andThen_ok,Sem.run_pure]
 refine wp_in hrun ?_
 rw[h2]
 refine hK _ _ (by simp[Act.put,hdf]) ?_
 obtain⟨XL,β,I,rg,lm,lr,q1,q2,q3,q4,q5,q6,q7,q8,q9,q10⟩:=h.ex
 obtain⟨key',lv,p1,p2,p3,p4,p5,p6⟩:=EntK_get q9 (by simpa using hje)
 have hkv:key'=key∧er lv=v:=by
  have:rem[j]?=some (key',er lv):=by rw[← q10];simp[erM,p1]
  rw[hj] at this
  simp only[Option.some.injEq,Prod.mk.injEq] at this
  exact⟨this.1.symm,this.2.symm⟩
 obtain⟨rfl,rfl⟩:=hkv
 have hno:noOwn lv=true:=by rw[← er_noOwn];exact hno
 rw[← left_push h.eok.1 hje] at p6
 have:=h.stepW (d:=d) hd (seen':=seen.push e.born) (sa':=seen.push e.born) (c0':=ck) (dr:=w.drawn) (rem':=rem.eraseIdx j) (.tuple [.sc (.int .i64 key'),lv]) (.tuple #[e.key,e.val]) (by simp[noOwn,noOwnL,hno])
  q1 q2 q3 q4 q5 q6 q7 q8 ⟨by simp only[Mem,MemA];exact⟨trivial,p4,trivial⟩,by
   simp only[RR]
   exact⟨[e.key,e.val],rfl,e.key,_,rfl,by rw[p2];simp[RR],e.val,[],rfl,RR_of_CR p3,by simp[RRL]⟩,lr.eraseIdx j,p6,by rw[← q10];exact map_erase _ _ _⟩ h.ckle hdf
 rw[set_same _ _ _ h.it] at this
 simpa [er,erL] using this
theorem Hid.begin {L1:SL}{a:Act}{it r t kt et k g:Nat}{p:List Nat}{o:Oper}(hr:RelT C (fnL L1) a.tmps w)(hdf:a.defers=[])
  (hx:(fnL L1 (100 * r)).2=.mv k g p) (hg:(fnL L1 k).1=g) (hn:getN (fnL L1 k).2 p=some (.mp true () (flatM m))) (hp:p ≠ []) (ht:C.P.underlying t=some (.map kt et)) (hit:it < C.nt) (hrn:r < C.nt) (hne:it ≠ r)
  (hB:∀ rr mb,wipe1B k p (setL (setL L1 (100 * it) (itV rr)) (100 * r) (mpV mb))=true) (hk1:k ≠ 100 * it) (hk2:k ≠ 100 * r)
  (h2:o.dst=some it) (h3:o.op=.range t (.tmp r)) {ops:Array Oper} {i:Nat} (ho:ops[i]?=some o) (hgd:o.guard=none) {K:Act→World→Prop} {Q:Exit→Act→World→Prop}
  (hK:∀ rr mb ck es a' w',a'.defers=[]→Hid C (fnL (updL (setL (setL L1 (100 * it) (itV rr)) (100 * r) (mpV mb)) k (setN (fnL L1 k).2 p (mpV mb)))) a'.tmps w' mb rr ck ck ck #[] #[] es m m→K a' w') :
  wpOp C.P ops Q i K a w:=by
 refine wpOp_of ho hgd ?_
 obtain⟨XL,β,I,rg,he,R,hs,htm⟩:=hr
 have hcx:compOd C.nt 0 (.tmp r)=some (.t r):=by simp[compOd,hrn]
 obtain⟨l,lm,e1,rfl,e2⟩:=mv_node R he hcx (by rw[rd_self (by rw[hx];rfl),hx]) hg hn
 have hm:=Mem_getN (R.key k).mem e1
 simp only[Mem] at hm
 obtain⟨⟨es,ck,h5,hE,hMK⟩,_⟩:=hm
 have hb:=(at_m.1 h5).2
 have hin:opsIn C.nt o=true:=by simp[opsIn,isSelect,h3,Op.operands,hrn]
 have hrun:(execOp a.eval o).run C.P w=.ok (.value (.pointer (some ⟨w.heap.size,0,none⟩))) (w.alloc (.mapIter (some l.b) ck #[] ck)):=by
  rw[evR_of hin htm]
  simp only[execOp,h3,e2,Sem.run_bind,run_range_map w t kt et l.b es ck ht hb,Result.andThen_ok,Sem.run_pure]
 refine wp_in hrun ?_
 rw[h2]
 have hw:(w.alloc (.mapIter (some l.b) ck #[] ck))={ w with heap:=w.heap.push (.mapIter (some l.b) ck #[] ck) }:=rfl
 rw[hw]
 have hF:=frame_alloc (fun _ _=>False) w (.mapIter (some l.b) ck #[] ck)
 generalize hw1:({ w with heap:=w.heap.push (.mapIter (some l.b) ck #[] ck) }:World)=w1 at hF
 have hnew:w1.heap[w.heap.size]?=some (.mapIter (some l.b) ck #[] ck):=by subst hw1;simp
 have hold:∀ b,b ≠ w.heap.size→w1.heap[b]?=w.heap[b]?:=fun b hb=>by
  subst hw1
  simp only[Array.getElem?_push]
  rw[if_neg hb]
 have hnone:w.heap[w.heap.size]?=none:=Array.getElem?_eq_none (Nat.le_refl _)
 have hat:∀ b o,w1.at b o=w.at b o:=fun b o=>by
  by_cases e:b=w.heap.size
  ·subst e;simp[World.at,hnew,hnone]
  ·simp only[World.at,hold b e]
 have hfz:∀ b o,w1.fz b o=w.fz b o:=fun b o=>by
  by_cases e:b=w.heap.size
  ·subst e;simp[World.fz,hnew,hnone]
  ·simp only[World.fz,hold b e]
 have hsz:w.heap.size≤w1.heap.size:=by subst hw1;simp
 have R1:=R.same hat hfz hsz (R.fr.trans (K':=fun _ _=>False) hF (fun _ _ h=>h.elim))
 have hd1:it < 10000:=by have:=C.hnt;omega
 have hd2:r < 10000:=by have:=C.hnt;omega
 have R2:=R1.setR it hd1 (v:=.sc (.pointer (some ⟨w.heap.size,0,none⟩))) (x:=.pointer (some ⟨w.heap.size,0,none⟩)) (by simp[noOwn]) (by simp[Mem]) (by simp[RR])
 have R3:=R2.setR r hd2 (v:=.sc (.map (some l.b))) (x:=.map (some l.b)) (by simp[noOwn]) (by simp[Mem]) (by simp[RR])
 generalize hX3:(XL.set (100 * it) (.sc (.pointer (some ⟨w.heap.size,0,none⟩)))).set (100 * r) (.sc (.map (some l.b)))=X3 at R3
 have hk3:X3 k=XL k:=by subst hX3;rw[XF.set_ne _ _ hk2,XF.set_ne _ _ hk1]
 have hE3:erF X3=fnL (setL (setL L1 (100 * it) (itV w.heap.size)) (100 * r) (mpV l.b)):=by
  subst hX3
  rw[erF_set,erF_set,he,fnL_set,fnL_set]
  rfl
 have hBB:=hB w.heap.size l.b
 generalize hL3:setL (setL L1 (100 * it) (itV w.heap.size)) (100 * r) (mpV l.b)=L3 at hBB hE3
 simp only[wipe1B,Bool.and_eq_true,decide_eq_true_eq,Bool.not_eq_true',decide_eq_false_iff_not,List.all_eq_true,Bool.or_eq_true] at hBB
 obtain⟨a1,a2,a3,a5,a6,a7,a4⟩:=hBB
 have a3':(X3 (100 * H)).2=.non:=by
  rw[← hE3] at a3
  simp only[erF] at a3
  revert a3
  generalize (X3 (100 * H)).2=v
  intro h;cases v<;>simp [er,AV.isNon] at h;rfl
 have hkE:(fnL L3 k).2=er (X3 k).2:=by rw[← hE3];rfl
 obtain⟨R4,f1,f2,f3,es',ck',g1,g2,g3⟩:=R3.hide k p hp a1 a2 a3' (by rw[hk3];exact e1) (by rw[hkE,er_ownQ] at a6;exact a6) (by rw[hkE] at a7;rw[er_setN];exact a7)
  (fun t=>by
   rw[← er_rootR]
   have:er (X3 (100 * t)).2=(fnL L3 (100 * t)).2:=by rw[← hE3];rfl
   rw[this]
   rcases fnL_mem L3 (100 * t) with h | ⟨e,he,_,h⟩
   ·rw[h];rfl
   ·rw[h];exact (a4 e he).1)
  (fun k' hc=>by
   rw[← er_noR]
   have:er (X3 k').2=(fnL L3 k').2:=by rw[← hE3];rfl
   rw[this]
   rcases fnL_mem L3 k' with h | ⟨e,he,e1,h⟩
   ·rw[h];rfl
   ·rw[h]
    rcases (a4 e he).2 with q | q
    ·rw[e1] at q;exact absurd q hc.1
    ·exact q)
 have hb1:w1.heap[l.b]?=some (.map es ck):=by rw[hold _ (by have:=(Array.getElem?_eq_some_iff.1 hb).1;omega)];exact hb
 rw[hb1] at g1
 cases g1
 have hEnt:=(memK_ent lm es.toList).1 g3
 refine hK w.heap.size l.b ck es _ _ (by simp[Act.put,hdf]) ⟨⟨_,β,I,_,lm,lm,?_,R4,?_,fun s hlt=>?_,fun j=>f1 j 0,f2,hEnt,rfl,by rw[leftOf_empty];exact hEnt,rfl⟩,hb1,hnew,g2,fun x hx=>g2.2 x hx,Nat.le_refl _,Nat.le_refl _,f3,R.fr.size⟩
 ·rw[erF_upd,hE3,er_setN,hk3,hL3]
  rw[← fnL_upd]
  have:er (XL k).2=(fnL L1 k).2:=by rw[← he];rfl
  rw[this]
  rfl
 ·simp[Act.put,hs]
 ·simp only[Act.put]
  by_cases e:s=it
  ·subst e
   rw[if_neg hne,if_pos rfl]
   simp[Array.getD_eq_getD_getElem?,hs,hlt]
  ·have hse:∀ (x:Value),(a.tmps.setIfInBounds it x).getD s undef=rg s:=fun x=>by
    rw[← htm s hlt]
    simp[Array.getD_eq_getD_getElem?,Array.getElem?_setIfInBounds_ne (Ne.symm e)]
   rw[hse]
   by_cases e':s=r
   ·subst e'
    rw[if_pos rfl]
    simpa [evR] using e2
   ·rw[if_neg e',if_neg e]
end
end Go.OT
namespace Go.OT
set_option maxHeartbeats 1000000 in
theorem WL.rangeMap {P:Program}{nt:Nat}{L:SL}{Q:Ex→SL→Prop} {ι:Type}{d0 d1 d2:List Nat}{l0:List COp}{segs2:List Sg}{rest after:Cd}{it r t kt et ty0 b0 n ty1 ok b1 e ty2:Nat}{L1:SL}{k g:Nat}{p:List Nat}(m:List (Int × AU))
  (h0:runL l0 (some L)=some L1) (hx:(fnL L1 (100 * r)).2=.mv k g p) (hg:(fnL L1 k).1=g) (hn:getN (fnL L1 k).2 p=some (.mp true () (flatM m))) (hp:p ≠ []) (ht:P.underlying t=some (.map kt et))
  (hnum:it < nt∧r < nt∧n < nt∧e < nt∧it ≠ r∧k ≠ 100 * it∧k ≠ 100 * r)
  (hB:∀ rr mb,wipe1B k p (setL (setL L1 (100 * it) (itV rr)) (100 * r) (mpV mb))=true)
  (S:Nat→Nat→ι→SL) (rem:ι→List (Int × AU)) (i0:ι) (hrem:rem i0=m) (hown:∀ i,∀ x ∈ rem i,noOwn x.2=true)
  (h1:∀ rr mb,finL d0 (updL (setL (setL L1 (100 * it) (itV rr)) (100 * r) (mpV mb)) k (setN (fnL L1 k).2 p (mpV mb)))=some (S rr mb i0))
  (hS:∀ rr mb i,(fnL (S rr mb i) (100 * it)).2=itV rr)
  (hstep:∀ rr mb i (j:Nat) (key:Int) (v:AU),(rem i)[j]?=some (key,v)→RL P nt [.o [.ext ok n 0]] (setL (S rr mb i) (100 * n) (.tuple [.sc (.bool true),.sc (.int .i64 key),v])) (fun L2=>∃ L3,finL d1 L2=some L3∧rd (fnL L3) (.t ok)=.sc (.bool true)∧(fnL L3 (100 * it)).2=itV rr ∧
   RL P nt segs2 (setL L3 (100 * e) (.tuple [.sc (.int .i64 key),v])) (fun L4=>∃ L5,finL d2 L4=some L5∧WL P nt rest L5 (Ex.blkL b1 (fun ex L'=>ex=.nrm∧∃ i',L'=S rr mb i'∧rem i'=(rem i).eraseIdx j)))))
  (hend:∀ rr mb i,rem i=[]→RL P nt [.o [.ext ok n 0]] (setL (S rr mb i) (100 * n) (.tuple [.sc (.bool false)])) (fun L2=>∃ L3,finL d1 L2=some L3∧rd (fnL L3) (.t ok)=.sc (.bool false)∧getN (fnL L3 k).2 p=some (mpV mb)∧ownQ (fnL L3 k).2 p=true∧WL P nt after (updL L3 k (setN (fnL L3 k).2 p (.mp true () (flatM m)))) Q)) :
  WL P nt (.seq (.seq (.reg d0 [.o l0,.raw (some it) (.range t (.tmp r)) ty0]) (.block b0 (.loop (.seq (.reg d1 [.raw (some n) (.next (.tmp it) false) ty1,.o [.ext ok n 0]]) (.seq (.cond (.t ok) .skip (.exit b0)) (.block b1 (.seq (.reg d2 (.raw (some e) (.entry (.tmp it)) ty2 :: segs2)) rest))))))) after) L Q:=by
 intro C code hP hnt hc
 subst hP hnt
 obtain⟨hit,hr,hnn,hee,hne,hk1,hk2⟩:=hnum
 simp only[Cd.er] at hc
 obtain⟨c1,cAfter,rfl,hc1,hcA⟩:=comp_seq hc
 obtain⟨c2,c3,rfl,hc2,hc3⟩:=comp_seq hc1
 obtain⟨id0,ops0,rfl,hi0⟩:=comp_reg hc2
 obtain⟨c4,rfl,hc4⟩:=comp_block hc3
 obtain⟨c5,rfl,hc5⟩:=comp_loop hc4
 obtain⟨c6,c7,rfl,hc6,hc7⟩:=comp_seq hc5
 obtain⟨id1,ops1,rfl,hi1⟩:=comp_reg hc6
 obtain⟨c8,c9,rfl,hc8,hc9⟩:=comp_seq hc7
 obtain⟨cc,cs,ce,rfl,hco,hcs,hce⟩:=comp_cond hc8
 have:=comp_skip hcs
 subst this
 have:=comp_exit hce
 subst this
 obtain⟨c10,rfl,hc10⟩:=comp_block hc9
 obtain⟨c11,c12,rfl,hc11,hc12⟩:=comp_seq hc10
 obtain⟨id2,ops2,rfl,hi2⟩:=comp_reg hc11
 have hcc:cc=.tmp ok∧ok < C.nt:=by
  cases cc with
  | tmp t' =>
   simp only[compOd] at hco
   split at hco
   ·rename_i h;simp only[Option.some.injEq,COd.t.injEq] at hco;exact⟨by rw[hco],hco ▸ h⟩
   ·cases hco
  | const v=>simp [compOd] at hco
  | global v=>simp [compOd] at hco
  | func f=>simp [compOd] at hco
 obtain⟨rfl,hok⟩:=hcc
 intro a w hd hR
 refine wp_seq (wp_seq (wp_region ?_))
 refine oC h0 hi0 a w _ hd hR fun idx2 a1 w1 hi hd1 hR1=>?_
 obtain⟨i,l,o,rfl,ho,hit',hl⟩:=its_cons hi
 obtain⟨q1,q2,q3,q4⟩:=itOf_raw hit' fun it h=>itOf0_kn h
 rw[wpOps_cons]
 refine Hid.begin hR1 hd1 hx hg hn hp ht hit hr hne hB hk1 hk2 q2 q3 ho q1 fun rr mb ck es a2 w2 hd2 hH=>?_
 cases l with
 | cons i' l'=>simp [itsOf,flatS,Option.bind_eq_some_iff] at hl
 | nil =>
 simp only[Go.wpOps]
 simp only[Exit.then]
 -- what was dead is forgotten
 have hH0:Hid C (fnL (S rr mb i0)) a2.tmps w2 mb rr ck ck ck #[] #[] es m m:=by
  obtain⟨C',e1,e2,hr',hb⟩:=hH.frame
  exact hb _ _ _ (hr'.fin (h1 rr mb))
 clear hH
 refine wp_block ?_
 -- the loop
 have hloop:=wp_loop_inv (P:=C.P) (b0:=b0) (c:=.seq (.region id1 ops1 false) (.seq (.cond (.tmp ok) .skip (.exit b0)) (.block b1 (.seq (.region id2 ops2 false) c12))))
  (Z:=fun a w=>a.defers=[]∧∃ L',RelT C (fnL L') a.tmps w∧WL C.P C.nt after L' Q)
  (fun n a w=>∃ i seen c0,(rem i).length=n∧a.defers=[]∧Hid C (fnL (S rr mb i)) a.tmps w mb rr ck c0 ck seen seen es m (rem i)) ?_ (rem i0).length a2 w2 ⟨i0,#[],ck,rfl,hd2,by rw[hrem];exact hH0⟩
 ·refine wp_mono hloop fun e' a' w' ⟨he,hd',L',hr',hwl⟩=>?_
  subst he
  simp only[Exit.inBlock,if_true]
  exact hwl C cAfter rfl rfl hcA a' w' hd' hr'
 ·rintro num a3 w3 ⟨i,seen,c0,hlen,hd3,hH3⟩
  refine wp_seq (wp_region ?_)
  simp only[flatS] at hi1
  obtain⟨i1,l1,o1,e1,ho1,hit1,hl1⟩:=its_cons hi1
  rw[e1]
  obtain⟨p1,p2,p3,p4⟩:=itOf_raw hit1 fun it h=>itOf0_kn h
  rw[wpOps_cons]
  refine hH3.next hd3 (hown i) hit hnn (hS rr mb i) p2 p3 ho1 p1 ?_ ?_
  ·-- none is left
   intro hre a4 w4 hd4 hH4
   obtain⟨C',e5,e6,hr',hb⟩:=hH4.frame
   have hRL:=hend rr mb i hre
   have hRL2:=hRL C' ops1 l1 e5 e6 (by simpa [flatS] using hl1) a4 w4
   rw[e5] at hRL2
   refine hRL2 _ hd4 (by rw[fnL_set] at hr';exact hr') fun L2 a5 w5 hd5 hr5 hK=>?_
   obtain⟨L3,g1,g2,g3,g4,g5⟩:=hK
   have hH5:=hb _ _ _ (hr5.fin g1)
   simp only[Exit.then]
   refine wp_seq ?_
   have hev:a5.eval (.tmp ok)=.bool false:=hH5.get hok (by
    have:(fnL L3 (100 * ok)).2=.sc (.bool false):=by
     have:=g2
     simp only[rd,rdK] at this
     generalize (fnL L3 (100 * ok)).2=v at this
     cases v with
     | sc x=>simpa [ldV] using this
     | sl o l s n cs=>cases o<;>simp [ldV] at this
     | bx o l cs=>cases o<;>simp [ldV] at this
     | mp o l cs=>cases o<;>simp [ldV] at this
     | _=>simp [ldV] at this
    exact this)
   refine wp_cond_split hev (fun h=>by cases h) fun _=>wp_exit ?_
   simp only[Exit.then]
   exact .inr ⟨trivial,hd5,_,hH5.back hp g3 g4,g5⟩
  ·intro j key v e' hj hje a4 w4 hd4 hH4
   obtain⟨C',e5,e6,hr',hb⟩:=hH4.frame
   have hRL2:=hstep rr mb i j key v hj C' ops1 l1 e5 e6 (by simpa [flatS] using hl1) a4 w4
   rw[e5] at hRL2
   refine hRL2 _ hd4 (by rw[fnL_set] at hr';exact hr') fun L2 a5 w5 hd5 hr5 hK=>?_
   obtain⟨L3,g1,g2,g3,g4⟩:=hK
   have hH5:=hb _ _ _ (hr5.fin g1)
   simp only[Exit.then]
   refine wp_seq ?_
   have hev:a5.eval (.tmp ok)=.bool true:=hH5.get hok (by
    have:(fnL L3 (100 * ok)).2=.sc (.bool true):=by
     have:=g2
     simp only[rd,rdK] at this
     generalize (fnL L3 (100 * ok)).2=v at this
     cases v with
     | sc x=>simpa [ldV] using this
     | sl o l s n cs=>cases o<;>simp [ldV] at this
     | bx o l cs=>cases o<;>simp [ldV] at this
     | mp o l cs=>cases o<;>simp [ldV] at this
     | _=>simp [ldV] at this
    exact this)
   refine wp_cond_split hev (fun _=>wp_skip ?_) (fun h=>by cases h)
   simp only[Exit.then]
   refine wp_block (wp_seq (wp_region ?_))
   simp only[flatS] at hi2
   obtain⟨i2,l2,o2,e2,ho2,hit2,hl2⟩:=its_cons hi2
   rw[e2]
   obtain⟨p5,p6,p7,p8⟩:=itOf_raw hit2 fun it h=>itOf0_kn h
   rw[wpOps_cons]
   refine hH5.entry hd5 hj hje (hown i _ (List.mem_of_getElem? hj)) hit hee g3 p6 p7 ho2 p5 ?_
   intro a6 w6 hd6 hH6
   obtain⟨C2,e7,e8,hr6,hb6⟩:=hH6.frame
   have hRL3:=g4 C2 ops2 l2 e7 e8 hl2 a6 w6
   rw[e7] at hRL3
   refine hRL3 _ hd6 (by rw[fnL_set] at hr6;exact hr6) fun L4 a7 w7 hd7 hr7 hK7=>?_
   obtain⟨L5,f1,f2⟩:=hK7
   simp only[Exit.then]
   have hwl:=f2 C2 c12 e7 e8 hc12 a7 w7 hd7 (hr7.fin f1)
   rw[e7] at hwl
   refine wp_mono hwl fun ex a8 w8 hq=>?_
   have fin:∀ L',a8.defers=[]→RelT C2 (fnL L') a8.tmps w8→(∃ i',L'=S rr mb i'∧rem i'=(rem i).eraseIdx j)→∃ n',n' < num∧∃ i seen c0,(rem i).length=n'∧a8.defers=[]∧Hid C (fnL (S rr mb i)) a8.tmps w8 mb rr ck c0 ck seen seen es m (rem i):=by
    rintro L' z1 z2 ⟨i',rfl,z3⟩
    have hjl:=(List.getElem?_eq_some_iff.1 hj).1
    refine⟨(rem i').length,by rw[z3,List.length_eraseIdx_of_lt hjl];omega,i',seen.push e'.born,ck,rfl,z1,?_⟩
    rw[z3]
    exact hb6 _ _ _ z2
   cases ex with
   | normal =>
    obtain⟨z1,X,z2,L',rfl,z3⟩:=hq
    simp only[Ex.blkL] at z3
    exact .inl ⟨rfl,fin L' z1 z2 z3.2⟩
   | exit id =>
    obtain⟨z1,X,z2,L',rfl,z3⟩:=hq
    simp only[Ex.blkL] at z3
    simp only[Exit.inBlock]
    by_cases hid:id=b1
    ·rw[if_pos hid] at z3
     rw[if_pos hid]
     exact .inl ⟨trivial,fin L' z1 z2 z3.2⟩
    ·rw[if_neg hid] at z3
     cases z3.1
   | ret =>
    obtain⟨z1,X,z2,L',rfl,z3⟩:=hq
    simp only[Ex.blkL] at z3
    cases z3.1
   | goto l=>exact hq.elim
   | panic ch=>exact hq.elim
   | outgrown=>exact hq.elim
end Go.OT
namespace Go.OT
def sortZ (l:List Int):List Int:=l.mergeSort fun x y=>decide (x≤y)
theorem sortZ_perm {l l':List Int}(h:l.Perm l'):sortZ l=sortZ l':=by
 have tr:∀ a b c:Int,decide (a≤b)=true→decide (b≤c)=true→decide (a≤c)=true:=fun a b c h1 h2=>by simp only[decide_eq_true_eq] at *;omega
 have to:∀ a b:Int,(decide (a≤b) || decide (b≤a))=true:=fun a b=>by simp only[Bool.or_eq_true,decide_eq_true_eq];omega
 unfold sortZ
 refine List.Perm.eq_of_pairwise (le:=fun a b:Int=>decide (a≤b)=true) (fun a b _ _ h1 h2=>?_) (List.pairwise_mergeSort tr to l) (List.pairwise_mergeSort tr to l') (((List.mergeSort_perm l _).trans h).trans (List.mergeSort_perm l' _).symm)
 simp only[decide_eq_true_eq] at h1 h2
 omega
structure KeysC (P:Program) (fK g1 fS:Nat) (te:TypeId):Prop where
 ek:∀ args w,(callFunc fK args).run P w=.ok (.enter fK args) w
 es:∀ args w,(callFunc fS args).run P w=.ok (.enter fS args) w
 ex:∃ tt,(∀ mb W,Calls P fK #[.map mb] W fun e w'=>e=.returned (.func (.func g1) #[] #[.pointer (some ⟨W.heap.size,0,none⟩)])∧w'=W.alloc (.cells #[.map mb] tt)) ∧
  ∀ (w:World) (b:Nat) (es:Array MapEntry) (ck:Nat) (keys:List Int),w.heap[b]?=some (.map es ck)→EOk es ck→es.toList.map (·.key)=keys.map (Value.int .i64)→keys.Nodup→(∀ x ∈ keys,(Lit.int .i64 x).wf=true)→keys.length≤100000 →
   Calls P fS #[.func (.func g1) #[] #[.pointer (some ⟨w.heap.size,0,none⟩)]] (w.alloc (.cells #[.map (some b)] tt)) fun e w'=>∃ (v:Value) (ss:List Int),e=.returned v∧ss.Perm keys ∧
    w'.ownsRow (w.heap.size+1) te 1 v ss.length ((sortZ ss).map (Value.int .i64))∧Go.RowKit.Below (w.heap.size+1) (w.alloc (.cells #[.map (some b)] tt)) w'
theorem EntK_keys {w:World}{I:ASet}:∀ {lm:List (Int × AL)} {es:List MapEntry},EntK w I lm es→es.map (·.key)=(lm.map (·.1)).map (Value.int .i64)
 | [],[],_=>rfl
 | (a,v) :: lm,x :: es,h=>by simp only[EntK] at h;simp[h.1,EntK_keys h.2.2.2.2]
 | [],_ :: _,h=>by simp[EntK] at h
 | _ :: _,[],h=>by simp[EntK] at h
theorem argsOd1 {nt a:Nat}{ss:List Nat}{l:List Operand}(h:argsOd nt ss l=some [.t a]):l=[.tmp a]∧a < nt:=by
 obtain⟨s1,ss1,x1,l1,rfl,h1,h⟩:=argsOd_cons h
 obtain rfl:=argsOd_nil h
 obtain⟨rfl,q1⟩:=compOd_t h1
 exact⟨rfl,q1⟩
theorem RelL.grow {C:Ctx}{X:XF LO} {β:Nat→Nat × Nat}{I:ASet}{rg:Nat→Value}{w w':World}(R:RelL C X β I rg w)(hw:Frame (fun _ _=>False) w w'):RelL C X β I rg w' :=
 R.change (fun _=>False) (fun _ _=>rfl) (Keeps.refl X β) (fun _ _ _=>.inl rfl) (fun _ _=>rfl) (fun _ _=>rfl) (fun _ h=>h.elim) (fun _ h=>h.elim) (fun _ _ h=>h.elim) (fun _ h=>h.elim) (fun _ _ h=>h) (fun _ _ h=>.inl h)
  (hw.mono fun _ _ _ h=>h.elim)
theorem RL.sortedKeys {P:Program}{nt:Nat}{L:SL}{K:SL→Prop}{rest:List Sg}{rm d1 d2 fK fS g1 k g:Nat}{te:TypeId}{p:List Nat}{own:Bool}(m:List (Int × AU))(hC:KeysC P fK g1 fS te)
  (hx:(fnL L (100 * rm)).2=.mv k g p) (hg:(fnL L k).1=g) (hn:getN (fnL L k).2 p=some (.mp own () (flatM m))) (hnd:(m.map (·.1)).Nodup) (hwf:∀ e ∈ m,(Lit.int .i64 e.1).wf=true) (hlen:m.length≤100000) (hne:d1 ≠ d2)
  (h:RL P nt rest (setL (setL L (100 * d1) .non) (100 * d2) (.sl true () 1 m.length ((sortZ (m.map (·.1))).map fun x=>.sc (.int .i64 x)))) K):RL P nt (.call none d1 fK [.t rm] :: .call none d2 fS [.t d1] :: rest) L K:=by
 intro C ops idx hP hnt hc a0 w Q hd hr hK
 obtain⟨i1,l1,o1,rfl,ho1,hit1,hl1⟩:=its_cons (it:=.call none d1 fK [.t rm]) (r:=.call none d2 fS [.t d1] :: flatS rest) (by simpa [flatS] using hc)
 obtain⟨i2,l2,o2,rfl,ho2,hit2,hl2⟩:=its_cons hl1
 obtain⟨h0,e1,e2,e3,xa,ts,ss,hop1,hxs,hcs⟩:=itOf_call hit1
 obtain⟨h0',e1',e2',e3',xa',ts',ss',hop2,hxs',hcs'⟩:=itOf_call hit2
 obtain⟨hxa,hrm⟩:=argsOd1 hcs
 obtain⟨hxa',hd1'⟩:=argsOd1 hcs'
 have exa:xa=#[.tmp rm]:=by cases xa;simp only at hxa;rw[hxa]
 have exa':xa'=#[.tmp d1]:=by cases xa';simp only at hxa';rw[hxa']
 subst exa exa' hP hnt
 obtain⟨tt,hcK,hcS⟩:=hC.ex
 obtain⟨XL,β,I,rg,he,R,hsz,htm⟩:=hr
 obtain⟨l,lm,q1,rfl,q2⟩:=mv_node R he (x:=.tmp rm) (cx:=.t rm) (sz:=0) (by simp[compOd,hrm]) (by rw[rd_self (by rw[hx];rfl),hx]) hg hn
 have hm:=Mem_getN (R.key k).mem q1
 simp only[Mem] at hm
 obtain⟨⟨es,ck,h5,hE,hMK⟩,_⟩:=hm
 have hb:=(at_m.1 h5).2
 have hEnt:=(memK_ent lm es.toList).1 hMK
 have hkeys:(erM lm).map (·.1)=lm.map (·.1):=by simp[erM,List.map_map,Function.comp_def]
 rw[hkeys] at hnd h
 have hd1l:d1 < 10000:=by have:=C.hnt;omega
 have hd2l:d2 < 10000:=by have:=C.hnt;omega
 -- maps.Keys
 rw[wpOps_cons]
 refine wpOp_of ho1 (compGd_none h0) ?_
 have ev1:a0.tmps.getD rm undef=.map (some l.b):=by rw[htm rm hrm];simpa [evR] using q2
 have hexec:(execOp a0.eval o1).run C.P w=.ok (.enter fK #[.map (some l.b)]) w:=by
  simp only[execOp,hop1,resolve,Deferred.ofValue]
  simp only[Act.eval,Sem.run_bind,Sem.run_pure,Result.andThen_ok,invoke,Array.append_empty,Array.empty_append,hC.ek,List.map_toArray,List.map_cons,List.map_nil,ev1]
 unfold Oper.wp
 rw[hexec,Oper.upon_enter]
 refine Calls.mono (hcK (some l.b) w) fun e w1 hq=>?_
 obtain⟨rfl,hw1⟩:=hq
 have hF1:Frame (fun _ _=>False) w w1:=by subst hw1;exact frame_alloc _ w _
 have hS1:w1.heap.size=w.heap.size+1:=by subst hw1;show (w.heap.push _).size=_;simp
 have R1:=(R.grow hF1).setR d1 hd1l (v:=.non) (x:=.func (.func g1) #[] #[.pointer (some ⟨w.heap.size,0,none⟩)]) (by simp[noOwn]) (by simp[Mem]) (by simp[RR])
 -- slices.Sorted
 show wpOps C.P ops Q (i2 :: l2) (a0.put o1.dst (.func (.func g1) #[] #[.pointer (some ⟨w.heap.size,0,none⟩)])) w1
 rw[wpOps_cons]
 refine wpOp_of ho2 (compGd_none h0') ?_
 have ev2:(a0.put o1.dst (.func (.func g1) #[] #[.pointer (some ⟨w.heap.size,0,none⟩)])).tmps.getD d1 undef=.func (.func g1) #[] #[.pointer (some ⟨w.heap.size,0,none⟩)]:=by
  simp[Act.put,e1,Array.getD_eq_getD_getElem?,hsz,e2]
 have htm1:∀ t,t < C.nt→(a0.put o1.dst (.func (.func g1) #[] #[.pointer (some ⟨w.heap.size,0,none⟩)])).tmps.getD t undef=if t=d1 then .func (.func g1) #[] #[.pointer (some ⟨w.heap.size,0,none⟩)] else rg t:=by
  intro t hlt
  by_cases e:t=d1
  ·subst e;rw[if_pos rfl];exact ev2
  ·rw[if_neg e,← htm t hlt]
   simp[Act.put,e1,Array.getD_eq_getD_getElem?,Array.getElem?_setIfInBounds_ne (Ne.symm e)]
 have hsz1:(a0.put o1.dst (.func (.func g1) #[] #[.pointer (some ⟨w.heap.size,0,none⟩)])).tmps.size=C.nt:=by simp[Act.put,e1,hsz]
 have hdf1:(a0.put o1.dst (.func (.func g1) #[] #[.pointer (some ⟨w.heap.size,0,none⟩)])).defers=[]:=by simp[Act.put,e1,hd]
 generalize a0.put o1.dst (.func (.func g1) #[] #[.pointer (some ⟨w.heap.size,0,none⟩)])=a1 at ev2 htm1 hsz1 hdf1
 have hexec2:(execOp a1.eval o2).run C.P w1=.ok (.enter fS #[.func (.func g1) #[] #[.pointer (some ⟨w.heap.size,0,none⟩)]]) w1:=by
  simp only[execOp,hop2,resolve,Deferred.ofValue]
  simp only[Act.eval,Sem.run_bind,Sem.run_pure,Result.andThen_ok,invoke,Array.append_empty,Array.empty_append,hC.es,List.map_toArray,List.map_cons,List.map_nil,ev2]
 unfold Oper.wp
 rw[hexec2,Oper.upon_enter]
 have hcall:=hcS w l.b es ck (lm.map (·.1)) hb hE (EntK_keys hEnt) hnd (fun x hx=>by
  obtain⟨e,he,rfl⟩:=List.mem_map.1 hx
  exact hwf (e.1,er e.2) (List.mem_map.2 ⟨e,he,rfl⟩)) (by simpa [erM] using hlen)
 rw[← hw1] at hcall
 refine Calls.mono hcall fun e w2 hq=>?_
 obtain⟨v,ss,rfl,hp,hrow,hbel⟩:=hq
 have hF2:Frame (fun _ _=>False) w1 w2:=by
  have hbk:∀ b,b < w1.heap.size→w2.heap[b]?=w1.heap[b]?:=fun b hb=>hbel.block b (by omega)
  exact⟨hbel.os,hbel.tape,hbel.output,hbel.size,fun b hlt _=>hbk b hlt,fun b o hlt _=>by simp only[World.at,hbk b hlt],fun b o hlt=>by simp only[World.at,hbk b hlt],fun b o hlt _=>by simp only[World.fz,hbk b hlt]⟩
 have hssl:ss.length=lm.length:=by rw[hp.length_eq];simp
 have hsort:sortZ ss=sortZ (lm.map (·.1)):=sortZ_perm hp
 rw[hssl,hsort] at hrow
 have hR2:∃ lab,RelL C ((XL.set (100 * d1) .non).set (100 * d2) (.sl true lab 1 lm.length ((sortZ (lm.map (·.1))).map fun x=>.sc (.int .i64 x)))) β I (fun t=>if t=d2 then v else if t=d1 then .func (.func g1) #[] #[.pointer (some ⟨w.heap.size,0,none⟩)] else rg t) w2:=by
  obtain⟨hln,hrow⟩:=hrow
  rcases hrow with ⟨rfl,h0⟩ | ⟨g,cap,cur,rfl,hge,hgb,r1,r2,r3,r4⟩
  ·have hz:(sortZ (lm.map (·.1)))=[]:=List.eq_nil_of_length_eq_zero (by simpa [h0] using hln)
   rw[hz,h0]
   refine⟨none,?_⟩
   have:=R1.fresh (w':=w2) d2 hd2l [] (by simp) (v:=.sl true none 1 0 []) (x:=.slice none 0 0) hF2 (by simp[Mem]) (by simp[Sep]) (by simp[RR,CR]) (fun b o hb=>by simp[fp] at hb)
   simpa using this
  ·refine⟨some ⟨g,0,cap⟩,?_⟩
   have hcur:∀ j (x:Int),(sortZ (lm.map (·.1)))[j]?=some x→w2.at g j=some (.v (.int .i64 x)):=by
    intro j x hj
    have hjl:=(List.getElem?_eq_some_iff.1 hj).1
    have h9:cur.toList[j]?=some (.int .i64 x):=by
     have:(cur.toList.take (lm.length * 1))[j]?=some (.int .i64 x):=by rw[r4,List.getElem?_map,hj];rfl
     rw[List.getElem?_take] at this
     split at this
     ·exact this
     ·cases this
    have h10:cur[j]?=some (.int .i64 x):=by rw[← Array.getElem?_toList];exact h9
    simp[World.at,hgb,h10]
   have hroom:∀ j,j < cap→∃ y,w2.at g j=some (.v y):=fun j hj=>⟨cur[j]'(by omega),by simp[World.at,hgb,show j < cur.size by omega]⟩
   have:=R1.fresh (w':=w2) d2 hd2l [] (by simp) (v:=.sl true (some ⟨g,0,cap⟩) 1 lm.length ((sortZ (lm.map (·.1))).map fun x=>.sc (.int .i64 x))) (x:=.slice (some ⟨g,0,none⟩) lm.length cap) hF2 ?_ ?_ (by simp[RR,CR]) ?_
   ·simpa using this
   ·simp only[Mem]
    refine⟨by simpa using hln,r1,MemL_iff.2 fun i c0 hc=>?_,fun _=>⟨fun j hj=>by rw[Nat.zero_add];exact hroom j (by omega),fun _=>by unfold maxLen at r2;omega⟩⟩
    rw[List.getElem?_map] at hc
    cases hy:(sortZ (lm.map (·.1)))[i]? with
    | none=>simp [hy] at hc
    | some x =>
     simp only[hy,Option.map_some,Option.some.injEq] at hc
     subst hc
     exact⟨⟨_,by rw[Nat.zero_add];exact hcur i x hy,by simp[CR]⟩,by simp[Mem],fun e=>by simp at e⟩
   ·simp only[Sep]
    have e0:(sortZ (lm.map (·.1))).map (fun x=>(AV.sc (.int .i64 x):AL))=((sortZ (lm.map (·.1))).map (Value.int .i64)).map AV.sc:=by simp[List.map_map,Function.comp_def]
    rw[e0]
    exact⟨fun j hj hb=>fpL_sc _ _ _ hb,SepL_sc _⟩
   ·intro b o hb
    simp only[fp] at hb
    rcases hb with ⟨rfl,h1,h2⟩ | hb
    ·obtain⟨y,hy⟩:=hroom o (by simp at h2;omega)
     refine .inl ⟨by omega,(Array.getElem?_eq_some_iff.1 hgb).1,by simp[World.fz,hgb],by rw[hy];rfl⟩
    ·have e0:(sortZ (lm.map (·.1))).map (fun x=>(AV.sc (.int .i64 x):AL))=((sortZ (lm.map (·.1))).map (Value.int .i64)).map AV.sc:=by simp[List.map_map,Function.comp_def]
     rw[e0] at hb
     exact absurd hb (fpL_sc _ b o)
 obtain⟨lab,R2⟩:=hR2
 show wpOps C.P ops Q l2 (a1.put o2.dst v) w2
 refine h C ops l2 rfl rfl hl2 _ _ Q (by simp[Act.put,e1',hdf1]) ⟨_,β,I,_,?_,R2,by simp[Act.put,e1',hsz1],fun t' htl=>?_⟩ hK
 ·rw[erF_set,erF_set,he,← fnL_set,← fnL_set]
  simp only[er,erL_eq,List.map_map,Function.comp_def,erM,List.length_map]
 ·simp only[Act.put,e1']
  by_cases e:t'=d2
  ·subst e;simp[Array.getD_eq_getD_getElem?,hsz1,e2']
  ·rw[if_neg e,← htm1 t' htl]
   simp[Array.getD_eq_getD_getElem?,Array.getElem?_setIfInBounds_ne (Ne.symm e)]
end Go.OT
namespace Go.OT
open Go.Proofs
abbrev sI (o:Bool)(l:List Int):AU:=.sl o () 1 l.length (l.map i64)
abbrev sU (o:Bool)(l:List UInt8):AU:=.sl o () 1 l.length (l.map fun b=>u8 (b.toNat:Int))
abbrev sP (o:Bool)(l:List (List UInt8)):AU:=.sl o () 1 l.length (l.map (sU false))
def Small (n:Nat):Prop:=n≤1000000000
theorem wrap_small {x:Int}(h:-9223372036854775808≤x)(h':x < 9223372036854775808):IntKind.wrap .i64 x=x:=IntWalk.i64_in x ⟨h,by omega⟩
theorem wrap_succ {i n:Nat}(h:Small n)(hi:i < n):IntKind.wrap .i64 ((i:Int)+1)=((i+1:Nat):Int):=by
 unfold Small at h
 rw[wrap_small (by omega) (by omega)];simp
theorem mixed:Try.prog.follows .mixedOrders=true:=by kernel_rfl
structure Dk where
 P:List (List UInt8)
 W:List (Int × List UInt8)
 A:Int
 F:Int
 D:Bool
abbrev mW (l:List (Int × List UInt8)):List (Int × AU):=l.map fun e=>(e.1,sU false e.2)
abbrev celD (d:Dk):List AU:=[sP true d.P,.mp true () (flatM (mW d.W)),i64 d.A,i64 d.F,bl d.D]
abbrev nodD (d:Dk):Gh Unit:=.nod (.bx true () (celD d))
structure Dk.Ok (d:Dk):Prop where
 n:d.P.length≤48
 s:∀ p ∈ d.P,p.length=24
 t:∀ e ∈ d.W,e.2.length=24
 u:(d.W.map (·.1)).Nodup
 k:∀ e ∈ d.W,0≤e.1∧e.1 < d.P.length
 a:0≤d.A∧d.A≤1000000000
 f:0≤d.F∧d.F≤1000000
abbrev zeros24:List UInt8:=List.replicate 24 0
set_option maxHeartbeats 4000000 in
theorem blank_fn:FnC Try.prog 75 [] [] [] (sU true zeros24):=by
 refine FnC.go ok75 rfl ?_
 refine WL.sreg (by simp;rfl) (by simp;rfl) ?_
 refine WL.sreg (by simp;rfl) (by simp;rfl) (WL.ret ⟨.inr rfl,?_⟩)
 simp[fi75,repL]
@[simp] theorem take_len_map {α β:Type} (f:α→β) (l:List α):List.take l.length (l.map f)=l.map f:=List.take_of_length_le (by simp)
set_option maxHeartbeats 4000000 in
theorem clone_fn (l:List UInt8)(hl:Small l.length):FnC Try.prog 108 [] [sU false l] [] (sU true l):=by
 unfold Small at hl
 refine FnC.go ok108 rfl ?_
 refine WL.sreg (by simp;rfl) (by simp;rfl) ?_
 refine WL.seq (WL.sregC (RL.o (by simp;rfl) (RL.nilq (n:=l.length) (by simp) fun b hb=>RL.nil ⟨_,by simp;rfl,?_⟩)))
 cases b with
 | true =>
  have h0:l=[]:=by
   cases l with
   | nil=>rfl
   | cons x l=>have:=hb (by simp);cases this
  subst h0
  refine WL.cond (t:=true) (by simp) (fun _=>?_) (by simp)
  refine WL.sreg (by simp;rfl) (by simp;rfl) (WL.ret ⟨.inr rfl,?_⟩)
  simp[fi108]
 | false =>
  refine WL.cond (t:=false) (by simp) (by simp) (fun _=>WL.skip ?_)
  have h2:l.length≤140737488355328:=by omega
  have h3:l.length≤maxLen:=by unfold maxLen;omega
  refine WL.sreg (by simp[h2,h3];rfl) (by simp;rfl) (WL.ret ⟨.inr rfl,?_⟩)
  simp[fi108]
set_option maxHeartbeats 4000000 in
theorem has_fn (d:Dk)(p:Int):FnC Try.prog 106 [nodD d] [.ptr 1000000 0 [] 0,i64 p] [nodD d] (bl (decide (0≤p) && decide (p < d.P.length))):=by
 refine FnC.go ok106 rfl ?_
 refine WL.sreg (by simp;rfl) (by simp;rfl) ?_
 by_cases h:0≤p
 ·refine WL.sreg (by simp[h];rfl) (by simp;rfl) (WL.ret ⟨.inr rfl,?_⟩)
  simp[fi106,h]
 ·refine WL.sreg (by simp[h];rfl) (by simp;rfl) (WL.ret ⟨.inr rfl,?_⟩)
  simp[fi106,h]
def accF (d:Dk):Dk × Int :=
 if d.D=true then (d,12) else if 0 < d.F then ({ d with A:=d.A+1,F:=d.F - 1 },if d.F - 1=0 then 9 else 0) else ({ d with A:=d.A+1 },0)
set_option maxHeartbeats 4000000 in
theorem access_fn (d:Dk)(ok:d.Ok):FnC Try.prog 107 [nodD d] [.ptr 1000000 0 [] 0] [nodD (accF d).1] (i64 (accF d).2):=by
 have ha:=ok.a
 have hf:=ok.f
 have w1:IntKind.wrap .i64 (d.A+1)=d.A+1:=wrap_small (by omega) (by omega)
 have w2:IntKind.wrap .i64 (d.F - 1)=d.F - 1:=wrap_small (by omega) (by omega)
 refine FnC.go ok107 rfl ?_
 refine WL.sreg (by simp;rfl) (by simp;rfl) ?_
 refine WL.seq (WL.sreg (by simp;rfl) (by simp;rfl) ?_)
 by_cases hD:d.D=true
 ·refine WL.cond (t:=true) (by simp[hD]) (fun _=>?_) (by simp)
  refine WL.sreg (by simp;rfl) (by simp;rfl) (WL.ret ⟨.inr rfl,?_⟩)
  simp[fi107,accF,hD]
 ·have hD':d.D=false:=by simpa using hD
  refine WL.cond (t:=false) (by simp[hD']) (by simp) (fun _=>WL.skip ?_)
  refine WL.sreg (by simp[w1];rfl) (by simp;rfl) ?_
  refine WL.seq (WL.sreg (by simp;rfl) (by simp;rfl) ?_)
  by_cases hF:0 < d.F
  ·refine WL.cond (t:=true) (by simp[hF]) (fun _=>?_) (by simp)
   refine WL.sreg (by simp[w2];rfl) (by simp;rfl) ?_
   refine WL.sreg (by simp;rfl) (by simp;rfl) ?_
   by_cases h1:d.F - 1=0
   ·refine WL.cond (t:=true) (by simp[h1]) (fun _=>?_) (by simp)
    refine WL.sreg (by simp;rfl) (by simp;rfl) (WL.ret ⟨.inr rfl,?_⟩)
    simp[fi107,accF,hD',hF,h1]
   ·refine WL.cond (t:=false) (by simp[h1]) (by simp) (fun _=>WL.skip ?_)
    refine WL.sreg (by simp;rfl) (by simp;rfl) (WL.ret ⟨.inr rfl,?_⟩)
    simp[fi107,accF,hD',hF,h1]
  ·refine WL.cond (t:=false) (by simp[hF]) (by simp) (fun _=>WL.skip ?_)
   refine WL.sreg (by simp;rfl) (by simp;rfl) (WL.ret ⟨.inr rfl,?_⟩)
   simp[fi107,accF,hD',hF]
theorem accF_ok {d:Dk}(ok:d.Ok)(ha:d.A < 1000000000):(accF d).1.Ok:=by
 have hf:=ok.f
 have h1:=ok.a
 unfold accF
 split
 ·exact ok
 ·split
  ·exact⟨ok.n,ok.s,ok.t,ok.u,ok.k,by simp only;omega,by simp only;omega⟩
  ·exact⟨ok.n,ok.s,ok.t,ok.u,ok.k,by simp only;omega,ok.f⟩
def failF (d:Dk)(n:Int):Dk × Bool:=if n < 0∨1000000 < n then (d,false) else ({ d with F:=n },true)
set_option maxHeartbeats 4000000 in
theorem fail_fn (d:Dk)(n:Int):FnC Try.prog 56 [nodD d] [.ptr 1000000 0 [] 0,i64 n] [nodD (failF d n).1] (bl (failF d n).2):=by
 refine FnC.go ok56 rfl ?_
 refine WL.sreg (by simp;rfl) (by simp;rfl) ?_
 by_cases h1:n < 0
 ·refine WL.seq (WL.sreg (by simp[h1];rfl) (by simp;rfl) ?_)
  refine WL.cond (t:=true) (by simp[h1]) (fun _=>?_) (by simp)
  refine WL.sreg (by simp;rfl) (by simp;rfl) (WL.ret ⟨.inr rfl,?_⟩)
  simp[fi56,failF,h1]
 ·by_cases h2:1000000 < n
  ·refine WL.seq (WL.sreg (by simp[h1,h2];rfl) (by simp;rfl) ?_)
   refine WL.cond (t:=true) (by simp[h1,h2]) (fun _=>?_) (by simp)
   refine WL.sreg (by simp;rfl) (by simp;rfl) (WL.ret ⟨.inr rfl,?_⟩)
   simp[fi56,failF,h1,h2]
  ·refine WL.seq (WL.sreg (by simp[h1,h2];rfl) (by simp;rfl) ?_)
   refine WL.cond (t:=false) (by simp[h1,h2]) (by simp) (fun _=>WL.skip ?_)
   refine WL.sreg (by simp;rfl) (by simp;rfl) ?_
   refine WL.sreg (by simp;rfl) (by simp;rfl) (WL.ret ⟨.inr rfl,?_⟩)
   simp[fi56,failF,h1,h2]
set_option maxHeartbeats 4000000 in
theorem fail_nil (n:Int):FnC Try.prog 56 [] [.sc (.pointer none),i64 n] [] (bl false):=by
 refine FnC.go ok56 rfl ?_
 refine WL.sreg (by simp;rfl) (by simp;rfl) ?_
 refine WL.seq (WL.sreg (by simp;rfl) (by simp;rfl) ?_)
 refine WL.cond (t:=true) (by simp) (fun _=>?_) (by simp)
 refine WL.sreg (by simp;rfl) (by simp;rfl) (WL.ret ⟨.inr rfl,?_⟩)
 simp[fi56]
set_option maxHeartbeats 4000000 in
theorem accesses_fn (d:Dk):FnC Try.prog 64 [nodD d] [.ptr 1000000 0 [] 0] [nodD d] (i64 d.A):=by
 refine FnC.go ok64 rfl ?_
 refine WL.sreg (by simp;rfl) (by simp;rfl) ?_
 refine WL.seq (WL.sreg (by simp;rfl) (by simp;rfl) ?_)
 refine WL.cond (t:=false) (by simp) (by simp) (fun _=>WL.skip ?_)
 refine WL.sreg (by simp;rfl) (by simp;rfl) (WL.ret ⟨.inr rfl,?_⟩)
 simp[fi64]
set_option maxHeartbeats 4000000 in
theorem bytes_fn (c:UInt8):FnC Try.prog 52 [] [u8 (c.toNat:Int)] [] (sU true (List.replicate 24 c)):=by
 refine FnC.go ok52 rfl ?_
 refine WL.sreg (by simp;rfl) (by simp;rfl) ?_
 refine WL.sreg (by simp;rfl) (by simp;rfl) ?_
 refine WL.seq (WL.sreg (by simp;rfl) (by simp;rfl) ?_)
 refine WL.block (WL.count 24 (fun i=>[(0,0,u8 (c.toNat:Int)),(300,0,.sl true () 1 24 (List.replicate i (u8 (c.toNat:Int)) ++ List.replicate (24 - i) (u8 0))),(400,0,i64 i)]) (fun _=>True) ?_ trivial fun i hi _=>?_)
 ·simp[repL]
 by_cases h:i < 24
 ·have h':(i:Int) < 24:=by omega
  refine WL.seq (WL.sreg (by simp[h'];rfl) (by simp;rfl) ?_)
  refine WL.cond (t:=true) (by simp) (fun _=>WL.skip ?_) (by simp)
  have hg:(List.replicate i (u8 (c.toNat:Int)) ++ List.replicate (24 - i) (u8 0))[i]?=some (u8 0):=by
   rw[List.getElem?_append_right (by simp),List.length_replicate,Nat.sub_self,List.getElem?_replicate,if_pos (by omega)]
  refine WL.seq (WL.block (WL.reg (RL.run (by simp[h,h',hg];rfl) ⟨_,by simp;rfl,?_⟩)))
  refine WL.reg (RL.run (by simp[wrap_succ (n:=24) (by unfold Small;omega) h];rfl) ⟨_,by simp;rfl,?_⟩)
  refine⟨h,?_,trivial⟩
  have hr:List.replicate (24 - i) (u8 0)=u8 0 :: List.replicate (23 - i) (u8 0):=by
   rw[← List.replicate_succ];congr 1;omega
  simp[hr,List.replicate_succ',List.append_assoc]
 ·have h':¬ (i:Int) < 24:=by omega
  refine WL.seq (WL.sreg (by simp[h'];rfl) (by simp;rfl) ?_)
  refine WL.cond (t:=false) (by simp) (by simp) (fun _=>WL.exit ?_)
  simp
  have:i=24:=by omega
  subst this
  refine WL.sregC (RL.mv (by decide) (RL.o (by simp;rfl) (RL.nil ⟨_,by simp;rfl,WL.ret ⟨.inr rfl,?_⟩⟩)))
  simp[fi52]
end Go.OT
namespace Go.OT
open Go.Proofs
structure Dop where
 K:Int
 P:Int
 N:Int
 C:UInt8
 B:List UInt8
abbrev dopC (q:Dop):List AU:=[i64 q.K,i64 q.P,i64 q.N,u8 (q.C.toNat:Int),sU false q.B]
abbrev sDop (l:List Dop):AU:=.sl false () 5 l.length (l.flatMap dopC)
theorem ty3:Ty Try.prog 3 Int (fun n=>[i64 n]) (fun n=>(Lit.int .i64 n).wf=true):=Ty.int Try.underlying3
theorem ta3:TyA Try.prog 3 Int (fun n=>i64 n) (fun n=>(Lit.int .i64 n).wf=true):=TyA.int Try.underlying3 ty3
theorem ty5:Ty Try.prog 5 UInt8 (fun b=>[u8 (b.toNat:Int)]) (fun _=>True):=Ty.u8 Try.underlying5
theorem ty40:Ty Try.prog 40 (List UInt8) (fun l=>[sU false l]) (fun l=>l.length≤9223372036854775807) :=
 (Ty.slice (s:=1) Try.underlying40 (by kernel_rfl) (by decide) (fun _=>rfl) ty5).map id (fun l=>by rw[flatMap_one];rfl) (fun l h=>h.1)
theorem ty87:Ty Try.prog 87 Dop (fun q=>dopC q) (fun q=>q.B.length≤9223372036854775807) :=
 (Ty.struct Try.underlying87 (by kernel_rfl) (TyF.cons rfl (by kernel_rfl) ty3 (TyF.cons rfl (by kernel_rfl) ty3 (TyF.cons rfl (by kernel_rfl) ty3 (TyF.cons rfl (by kernel_rfl) ty5 (TyF.cons rfl (by kernel_rfl) ty40 (TyF.nil (off:=5)))))))).map
  (fun p=>⟨p.1,p.2.1,p.2.2.1,p.2.2.2.1,p.2.2.2.2.1⟩) (fun p=>rfl) (fun p h=>h.2.2.2.2.1)
theorem ta81:TyA Try.prog 81 (List Dop) (fun l=>sDop l) (fun l=>l.length≤9223372036854775807∧∀ c ∈ l,c.B.length≤9223372036854775807) :=
 TyA.slice Try.underlying81 (Ty.slice (s:=5) Try.underlying81 (by kernel_rfl) (by decide) (fun _=>rfl) ty87)
end Go.OT
namespace Go.OT
open Go.Proofs
theorem hideNew {C:Ctx}{L:SL}{a:Act}{w:World}{d:Nat}(hlt:d < C.nt)(hr:RelT C (fnL L) a.tmps w) :
  ∃ C':Ctx,C'.P=C.P∧C'.nt=C.nt∧RelT C' (fnL (setL L (100 * d) (mpV w.heap.size))) (a.put (some d) (.map (some w.heap.size))).tmps { w with heap:=w.heap.push (.map #[] 0) } ∧
   ∀ (L1:SL) (tm2:Array Value) (w2:World),RelT C' (fnL L1) tm2 w2→∀ (k:Nat) (p:List Nat),p ≠ []→getN (fnL L1 k).2 p=some (mpV w.heap.size)→ownQ (fnL L1 k).2 p=true→RelT C (fnL (updL L1 k (setN (fnL L1 k).2 p (.mp true () [])))) tm2 w2:=by
 obtain⟨XL,β,I,rg,he,R,hs,htm⟩:=hr
 have hd1:d < 10000:=by have:=C.hnt;omega
 have hF:=frame_alloc (fun _ _=>False) w (.map #[] 0)
 generalize hw1:({ w with heap:=w.heap.push (.map #[] 0) }:World)=w1 at hF
 have hb1:w1.heap[w.heap.size]?=some (.map #[] 0):=by subst hw1;simp
 have hmb:w.heap.size < w1.heap.size:=(Array.getElem?_eq_some_iff.1 hb1).1
 have R1:=(R.grow hF).setR d hd1 (v:=.sc (.map (some w.heap.size))) (x:=.map (some w.heap.size)) (by simp[noOwn]) (by simp[Mem]) (by simp[RR])
 have hk0:∀ j o,¬ kfp β (XL.set (100 * d) (.sc (.map (some w.heap.size)))) j w.heap.size o:=fun j o hj=>by
  by_cases e:j=100 * d
  ·subst e
   rcases hj with hj | hj
   ·rw[XF.set_self] at hj;simp[fp] at hj
   ·exact absurd hj.1 (isCell_reg d)
  ·rw[kfp,XF.set_ne _ _ e] at hj
   have:=((R.key j).live _ _ hj).1
   omega
 have hI0:¬ I w.heap.size 0:=fun h=>by have:=(R.imm _ _ h).1;omega
 refine⟨C.re w1 (fun b o=>∃ j,kfp β (XL.set (100 * d) (.sc (.map (some w.heap.size)))) j b o) I,rfl,rfl,⟨_,β,I,_,?_,R1.re_in,?_,fun s hlt'=>?_⟩,fun L1 tm2 w2 hr2 k p hp hg ho'=>?_⟩
 ·rw[erF_set,he,← fnL_set]
  rfl
 ·simp[Act.put,hs];rfl
 ·simp only[Act.put]
  have hlt':s < C.nt:=hlt'
  by_cases e:s=d
  ·subst e;simp[Array.getD_eq_getD_getElem?,hs];intro h;omega
  ·rw[if_neg e,← htm s hlt']
   simp[Array.getD_eq_getD_getElem?,Array.getElem?_setIfInBounds_ne (Ne.symm e)]
 ·obtain⟨XL',β',I',rg',g1,R',g3,g4⟩:=hr2
  have hg':getN (XL' k).2 p=some (.sc (.map (some w.heap.size))):=by
   rw[← g1] at hg
   simp only[erF,er_getN] at hg
   cases hc:getN (XL' k).2 p with
   | none=>simp [hc] at hg
   | some v=>rw [hc] at hg;simp only[Option.map_some,Option.some.injEq] at hg;rw[er_sc hg]
  have hoo:ownQ (XL' k).2 p=true:=by rw[← g1] at ho';exact (er_ownQ p _).symm.trans ho'
  have hn':∀ j,¬ kfp β' XL' j w.heap.size 0:=fun j hj=>by
   rcases R'.frK j _ 0 hj with ⟨j',h⟩ | h
   ·exact hk0 j' 0 h
   ·exact absurd hmb (Nat.not_lt.2 h)
  have hI':¬ I' w.heap.size 0:=fun hI'=>by
   rcases R'.frI _ 0 hI' with h | ⟨j',h⟩ | h
   ·exact hI0 h
   ·exact hk0 j' 0 h
   ·exact absurd hmb (Nat.not_lt.2 h)
  have hb2:w2.heap[w.heap.size]?=some (.map #[] 0):=by
   rw[R'.fr.block _ hmb (fun o ⟨j,hj⟩=>hk0 j o hj)];exact hb1
  have R2:=(R1.re_out R').unhide k p hp hg' hoo hb2 (cs:=[]) ⟨by simp,by simp⟩ (by simp[MemK,flatE]) hn' hI' (.inr R.fr.size)
  refine⟨_,β',I',rg',?_,R2,g3,g4⟩
  rw[erF_upd,g1,← fnL_upd,er_setN,← g1]
  rfl
def TakeM (mb:Nat)(K:SL→Prop)(L1:SL):Prop:=∃ k p,p ≠ []∧getN (fnL L1 k).2 p=some (mpV mb)∧ownQ (fnL L1 k).2 p=true∧K (updL L1 k (setN (fnL L1 k).2 p (.mp true () [])))
theorem mkmap_run {P:Program}{o:Oper}{a:Act}{w:World}{t:TypeId}(h:o.op=.makeMap t none):(execOp a.eval o).run P w=.ok (.value (.map (some w.heap.size))) { w with heap:=w.heap.push (.map #[] 0) }:=by
 simp only[execOp,h,Option.map_none]
 rfl
theorem RL.mkmapH {P:Program}{nt:Nat}{L:SL}{K:SL→Prop}{rest:List Sg}{d:Nat}{ty t:TypeId}(hd:d < nt)(h:∀ mb,RL P nt rest (setL L (100 * d) (mpV mb)) (TakeM mb K)):RL P nt (.raw (some d) (.makeMap t none) ty :: rest) L K:=by
 intro C ops idx hP hnt hc a w Q hdf hr hK
 obtain⟨i,l,o,rfl,ho,hit,hl⟩:=its_cons (it:=.raw (some d) (.makeMap t none) ty) (r:=flatS rest) (by simpa [flatS] using hc)
 subst hP hnt
 obtain⟨q1,q2,q3,q4⟩:=itOf_raw hit fun it h=>itOf0_kn h
 rw[wpOps_cons]
 refine wpOp_of ho q1 ?_
 obtain⟨C',e1,e2,hr1,hb⟩:=hideNew hd hr
 refine wp_in (mkmap_run q3) ?_
 rw[q2]
 have:=h w.heap.size C' ops l e1 e2 hl (a.put (some d) (.map (some w.heap.size))) { w with heap:=w.heap.push (.map #[] 0) } Q (by simp[Act.put,hdf]) hr1 fun L1 a2 w2 hd2 hr2 hK2=>by
  obtain⟨k,p,hp,hg,ho',hKK⟩:=hK2
  exact hK _ a2 w2 hd2 (hb L1 _ w2 hr2 k p hp hg ho') hKK
 rw[e1] at this
 exact this
theorem WL.mkmapH {P:Program}{nt:Nat}{L:SL}{Q:Ex→SL→Prop}{dead:List Nat}{segs:List Sg}{y:Cd}{d:Nat}{ty t:TypeId}(hd:d < nt)
  (h:∀ mb,RL P nt segs (setL L (100 * d) (mpV mb)) fun L1=>∃ L2,finL dead L1=some L2∧WL P nt y L2 fun e=>TakeM mb (Q e)):WL P nt (.seq (.reg dead (.raw (some d) (.makeMap t none) ty :: segs)) y) L Q:=by
 intro C code hP hnt hc
 subst hP hnt
 simp only[Cd.er] at hc
 obtain⟨c1,c2,rfl,hc1,hc2⟩:=comp_seq hc
 obtain⟨id0,ops,rfl,hi0⟩:=comp_reg hc1
 intro a w hdf hr
 refine wp_seq (wp_region ?_)
 obtain⟨i,l,o,hil,ho,hit,hl⟩:=its_cons (it:=.raw (some d) (.makeMap t none) ty) (r:=flatS segs) (by simpa [flatS] using hi0)
 obtain⟨q1,q2,q3,q4⟩:=itOf_raw hit fun it h=>itOf0_kn h
 rw[hil,wpOps_cons]
 refine wpOp_of ho q1 ?_
 obtain⟨C',e1,e2,hr1,hb⟩:=hideNew hd hr
 refine wp_in (mkmap_run q3) ?_
 rw[q2]
 have:=h w.heap.size C' ops l e1 e2 hl (a.put (some d) (.map (some w.heap.size))) { w with heap:=w.heap.push (.map #[] 0) } (fun e a w=>(e.then (fun a w=>c2.wp C.P (CQ C (QX Q)) a w) (CQ C (QX Q))) a w) (by simp[Act.put,hdf]) hr1 fun L1 a1 w1 hd1 hr1 hq=>by
  obtain⟨L2,h3,h4⟩:=hq
  have:=h4 C' c2 e1 e2 (by rw[e1,e2] at *;exact hc2) a1 w1 hd1 (hr1.fin h3)
  rw[e1] at this
  refine wp_mono this fun ex a8 w8 hq=>?_
  cases ex with
  | normal =>
   obtain⟨hd8,X,hr8,L8,rfl,k,p,hp,hg,ho',hKK⟩:=hq
   exact⟨hd8,_,hb L8 _ w8 hr8 k p hp hg ho',_,rfl,hKK⟩
  | exit id =>
   obtain⟨hd8,X,hr8,L8,rfl,k,p,hp,hg,ho',hKK⟩:=hq
   exact⟨hd8,_,hb L8 _ w8 hr8 k p hp hg ho',_,rfl,hKK⟩
  | ret =>
   obtain⟨hd8,X,hr8,L8,rfl,k,p,hp,hg,ho',hKK⟩:=hq
   exact⟨hd8,_,hb L8 _ w8 hr8 k p hp hg ho',_,rfl,hKK⟩
  | _=>exact hq.elim
 rw[e1] at this
 exact this
end Go.OT
namespace Go.OT
open Go.Proofs
def newD (n:Nat):Dk:=⟨List.replicate n zeros24,[],0,0,false⟩
set_option maxHeartbeats 4000000 in
theorem new_bad (p:Int)(h:p < 1∨48 < p):FnC Try.prog 46 [] [i64 p] [] (.sc (.pointer none)):=by
 refine FnC.go ok46 rfl ?_
 refine WL.sreg (by simp;rfl) (by simp;rfl) ?_
 by_cases h1:p < 1
 ·refine WL.seq (WL.sreg (by simp[h1];rfl) (by simp;rfl) ?_)
  refine WL.cond (t:=true) (by simp) (fun _=>?_) (by simp)
  refine WL.sreg (by simp;rfl) (by simp;rfl) (WL.ret ⟨.inr rfl,?_⟩)
  simp[fi46]
 ·have h2:48 < p:=by omega
  refine WL.seq (WL.sreg (by simp[h1,h2];rfl) (by simp;rfl) ?_)
  refine WL.cond (t:=true) (by simp) (fun _=>?_) (by simp)
  refine WL.sreg (by simp;rfl) (by simp;rfl) (WL.ret ⟨.inr rfl,?_⟩)
  simp[fi46]
set_option maxHeartbeats 4000000 in
theorem new_fn (n:Nat)(h1:1≤n)(h2:n≤48):FnC Try.prog 46 [] [i64 n] [] (.bx true () (celD (newD n))):=by
 have g1:¬ (n:Int) < 1:=by omega
 have g2:¬ 48 < (n:Int):=by omega
 have hbl:=blank_fn
 simp only[newD]
 generalize zeros24=z at hbl ⊢
 refine FnC.go ok46 rfl ?_
 refine WL.sreg (by simp;rfl) (by simp;rfl) ?_
 refine WL.seq (WL.sreg (by simp[g1,g2];rfl) (by simp;rfl) ?_)
 refine WL.cond (t:=false) (by simp) (by simp) (fun _=>WL.skip ?_)
 refine WL.mkmapH (by decide) fun mb=>RL.o (by simp;rfl) (RL.nil1 1201 true 1 (by simp) (RL.nil ⟨_,by simp;rfl,?_⟩))
 refine WL.seq (WL.sreg (by simp;rfl) (by simp;rfl) ?_)
 refine WL.block (WL.count n (fun i=>[(300,0,.bptr 12 1 0),(1201,0,sP true (List.replicate i z)),(1202,0,mpV mb),(1203,0,i64 0),(1204,0,i64 0),(1205,0,bl false),(1299,1,.non),(1300,0,i64 n),(1400,0,i64 i)]) (fun _=>True) ?_ trivial fun i hi _=>?_)
 ·simp
 by_cases h:i < n
 ·have h':(i:Int) < n:=by omega
  refine WL.seq (WL.reg (RL.run (by simp[h'];rfl) ⟨_,by simp;rfl,?_⟩))
  refine WL.seq (WL.cond (t:=true) (by simp) (fun _=>WL.skip ?_) (by simp))
  refine WL.seq (WL.block (WL.draw mixed (by simp[cleanL,noH]) (DL.o (by simp;exact⟨rfl,rfl⟩) ?_)))
  refine DL.callLF false [] hbl (by simp) (by simp) (by simp) (by simp) (by simp[cleanL,noH]) ?_
  have e1:(i+1) * 24≤140737488355328:=by omega
  have e2:i+1≤140737488355328:=by omega
  have e3:i+1≤maxLen:=by unfold maxLen;omega
  have e4:(i+1) * 1≤140737488355328:=by omega
  refine DL.o (by simp[e1,e2,e3,e4];exact⟨rfl,rfl⟩) ?_
  refine DL.nil ⟨by kernel_rfl,_,by simp;rfl,?_⟩
  refine WL.reg (RL.run (by simp[wrap_succ (n:=n) (by unfold Small;omega) h];rfl) ⟨_,by simp;rfl,?_⟩)
  refine⟨h,?_,trivial⟩
  have e5:List.take (i+1) (List.replicate i (sU false z) ++ [sU false z])=List.replicate (i+1) (sU false z):=by
   rw[List.take_of_length_le (by simp),List.replicate_succ']
  simp[e5]
 ·have h':¬ (i:Int) < n:=by omega
  refine WL.seq (WL.reg (RL.run (by simp[h'];rfl) ⟨_,by simp;rfl,?_⟩))
  refine WL.seq (WL.cond (t:=false) (by simp) (by simp) (fun _=>WL.exit ?_))
  have:i=n:=by omega
  subst this
  simp
  refine WL.lift 3 12 5 (by simp) (by simp;rfl) (by simp) ?_
  refine WL.sregC (RL.mv (by decide) (RL.o (by simp;rfl) (RL.nil ⟨_,by simp;rfl,WL.ret ⟨200,[1],by simp,by simp,by simp,.inr rfl,?_⟩⟩)))
  simp[fi46,flatM]
end Go.OT
namespace Go.OT
open Go.Proofs
def wget (W:List (Int × List UInt8))(p:Int):Option (List UInt8):=(W.find? (·.1 == p)).map (·.2)
theorem wget_has (p:Int):∀ W:List (Int × List UInt8),mhas p (mW W)=(wget W p).isSome
 | []=>rfl
 | e :: W=>by
  have ih:=wget_has p W
  simp only[mhas,wget,List.map_cons,List.any_cons,List.find?_cons] at ih ⊢
  by_cases h:e.1 == p
  ·simp[h]
  ·simp[h,ih]
theorem wget_D (p:Int):∀ W:List (Int × List UInt8),mgetD (sU false []) p (mW W)=sU false ((wget W p).getD [])
 | []=>rfl
 | e :: W=>by
  have ih:=wget_D p W
  simp only[List.map_cons,mgetD,wget,List.find?_cons] at ih ⊢
  by_cases h:e.1=p
  ·simp[h]
  ·have hb:(e.1 == p)=false:=by simpa using h
   rw[if_neg h,ih,hb]
theorem wget_ok {d:Dk}(ok:d.Ok){p:Int}{b:List UInt8}(h:wget d.W p=some b):b.length=24:=by
 simp only[wget,Option.map_eq_some_iff] at h
 obtain⟨e,h1,rfl⟩:=h
 exact ok.t e (List.mem_of_find?_eq_some h1)
def readF (d:Dk)(p:Int):Dk × List UInt8 × Int :=
 if ¬ (0≤p∧p < d.P.length) then (d,[],1) else
 if (accF d).2 ≠ 0 then ((accF d).1,[],(accF d).2) else
 ((accF d).1,((wget d.W p).getD (d.P.getD p.toNat [])),0)
theorem accF_W (d:Dk):(accF d).1.W=d.W:=by unfold accF;split;rfl;split<;>rfl
theorem accF_P (d:Dk):(accF d).1.P=d.P:=by unfold accF;split;rfl;split<;>rfl
set_option maxHeartbeats 4000000 in
theorem read_fn (d:Dk)(ok:d.Ok)(p:Int):FnC Try.prog 49 [nodD d] [.ptr 1000000 0 [] 0,i64 p] [nodD (readF d p).1] (.tuple [sU true (readF d p).2.1,i64 (readF d p).2.2]):=by
 refine FnC.go ok49 rfl ?_
 refine WL.sreg (by simp;rfl) (by simp;rfl) ?_
 refine WL.seq (WL.sreg (by simp;rfl) (by simp;rfl) ?_)
 refine WL.cond (t:=false) (by simp) (by simp) (fun _=>WL.skip ?_)
 refine WL.seq (WL.sregC (RL.o (by simp;rfl) (RL.callK false [(1000000,[])] (has_fn d p) (by simp) (by simp) (by simp[gkey]) (by simp) (by simp) (RL.o (by simp;rfl) (RL.nil ⟨_,by simp;rfl,?_⟩)))))
 by_cases hh:0≤p∧p < d.P.length
 ·refine WL.cond (t:=false) (by simp[hh]) (by simp) (fun _=>WL.skip ?_)
  refine WL.seq (WL.sregC (RL.o (by simp;rfl) (RL.callK false [(1000000,[])] (access_fn d ok) (by simp) (by simp) (by simp[gkey]) (by simp) (by simp) (RL.o (by simp;rfl) (RL.nil ⟨_,by simp;rfl,?_⟩)))))
  refine WL.sreg (by simp;rfl) (by simp;rfl) ?_
  by_cases he:(accF d).2=0
  ·refine WL.cond (t:=false) (by simp[he]) (by simp) (fun _=>WL.skip ?_)
   simp only[readF,hh,and_self,not_true_eq_false,if_false,he,ne_eq]
   have hW:=accF_W d
   have hP:=accF_P d
   generalize (accF d).1=d1 at hW hP ⊢
   refine WL.seq (WL.sregC (RL.o (by simp;rfl) ?_))
   refine RL.mlook (k:=1000000) (g:=0) (p:=[1]) (own:=true) (key:=p) (mW d1.W) (.sl false none 1 0 []) Try.underlying145 Try.underlying3 Try.zeroValue40 rfl (by simp[Mem]) (by simp[CR]) (by decide) (by decide) (by decide) (by simp) (by simp) (by simp) (by simp) ?_ ?_
   ·simp[noOwn]
   have hD:mgetD (er (AV.sl false none 1 0 [])) p (mW d1.W)=sU false ((wget d.W p).getD []):=by rw[← hW];exact wget_D p d1.W
   rw[if_pos rfl,hD,wget_has,hW,← hP]
   cases hw:wget d.W p with
   | some b =>
    have hb:=wget_ok ok hw
    refine RL.o (by simp;rfl) (RL.nil ⟨_,by simp;rfl,?_⟩)
    refine WL.sreg (by simp;rfl) (by simp;rfl) ?_
    refine WL.cond (t:=true) (by simp) (fun _=>?_) (by simp)
    refine WL.sregC (RL.o (by simp;rfl) (RL.call0 false (clone_fn b (by unfold Small;omega)) (by simp) (by simp) (RL.o (by simp;rfl) (RL.nil ⟨_,by simp;rfl,WL.ret ⟨.inr rfl,?_⟩⟩))))
    simp[fi49]
   | none =>
    refine RL.o (by simp;rfl) (RL.nil ⟨_,by simp;rfl,?_⟩)
    refine WL.sreg (by simp;rfl) (by simp;rfl) ?_
    refine WL.cond (t:=false) (by simp) (by simp) (fun _=>WL.skip ?_)
    obtain⟨m,rfl⟩:∃ m:Nat,p=m:=⟨p.toNat,by omega⟩
    have hm:m < d1.P.length:=by rw[hP];omega
    have hm':(m:Int) < d1.P.length:=by omega
    have hm1:m+1≤d1.P.length:=hm
    have hl:=ok.s d1.P[m] (by rw[← hP];exact List.getElem_mem hm)
    refine WL.sregC (RL.o (by simp[hm,hm',hm1];rfl) (RL.call0 false (clone_fn d1.P[m] (by unfold Small;omega)) (by simp) (by simp) (RL.o (by simp;rfl) (RL.nil ⟨_,by simp;rfl,WL.ret ⟨.inr rfl,?_⟩⟩))))
    simp[fi49,hm,List.getD_eq_getElem?_getD]
  ·refine WL.cond (t:=true) (by simp[he]) (fun _=>?_) (by simp)
   refine WL.sreg (by simp;rfl) (by simp;rfl) (WL.ret ⟨.inr rfl,?_⟩)
   simp[fi49,readF,hh,he]
 ·have hc:(!decide (0≤p) || !decide (p < (d.P.length:Int)))=true:=by
   by_cases h1:0≤p
   ·have h2:¬ p < (d.P.length:Int):=fun h=>hh ⟨h1,h⟩
    simp[h2]
   ·simp[h1]
  refine WL.cond (t:=true) (by simp[hc]) (fun _=>?_) (by simp)
  refine WL.sreg (by simp;rfl) (by simp;rfl) (WL.ret ⟨.inr rfl,?_⟩)
  simp only[fi49,readF,hh,not_false_eq_true,if_true]
  simp
def wput (p:Int)(b:List UInt8):List (Int × List UInt8)→List (Int × List UInt8)
 | []=>[(p,b)]
 | (a,v) :: r=>if a=p then (p,b) :: r else (a,v) :: wput p b r
theorem wput_m (p:Int)(b:List UInt8):∀ W,mset p (sU false b) (mW W)=mW (wput p b W)
 | []=>rfl
 | (a,v) :: W=>by
  have ih:=wput_m p b W
  simp only[List.map_cons,mset,wput] at ih ⊢
  by_cases h:a=p
  ·simp[h]
  ·simp[h,ih]
theorem wput_mem {p:Int}{b:List UInt8}{e:Int × List UInt8}:∀ {W},e ∈ wput p b W→e=(p,b)∨e ∈ W
 | [],h=>by simp only[wput,List.mem_singleton] at h;exact .inl h
 | (a,v) :: W,h=>by
  simp only[wput] at h
  split at h
  ·rcases List.mem_cons.1 h with h | h
   ·exact .inl h
   ·exact .inr (List.mem_cons_of_mem _ h)
  ·rcases List.mem_cons.1 h with h | h
   ·exact .inr (h ▸ List.mem_cons_self)
   ·exact (wput_mem h).imp id (List.mem_cons_of_mem _)
theorem wput_nd {p:Int}{b:List UInt8}:∀ {W:List (Int × List UInt8)},(W.map (·.1)).Nodup→((wput p b W).map (·.1)).Nodup
 | [],_=>by simp[wput]
 | (a,v) :: W,h=>by
  simp only[List.map_cons,List.nodup_cons] at h
  simp only[wput]
  split
  ·rename_i e;subst e;simpa using h
  ·rename_i e
   simp only[List.map_cons,List.nodup_cons]
   refine⟨fun hm=>?_,wput_nd h.2⟩
   obtain⟨x,hx,he⟩:=List.mem_map.1 hm
   rcases wput_mem hx with rfl | hx
   ·exact e he.symm
   ·exact h.1 (List.mem_map.2 ⟨x,hx,he⟩)
def writeF (d:Dk)(p:Int)(b:List UInt8):Dk × Int :=
 if ¬ (0≤p∧p < d.P.length)∨b.length ≠ 24 then (d,1) else
 if (accF d).2 ≠ 0 then accF d else
 ({ (accF d).1 with W:=wput p b d.W },0)
theorem writeF_ok {d:Dk}(ok:d.Ok)(ha:d.A < 1000000000)(p:Int)(b:List UInt8):(writeF d p b).1.Ok:=by
 have o1:=accF_ok ok ha
 unfold writeF
 split
 ·exact ok
 ·rename_i h
  split
  ·exact o1
  ·have h1:0≤p∧p < d.P.length:=Decidable.byContradiction fun e=>h (.inl e)
   have h2:b.length=24:=Decidable.byContradiction fun e=>h (.inr e)
   refine⟨o1.n,o1.s,fun e he=>?_,wput_nd ok.u,fun e he=>?_,o1.a,o1.f⟩
   ·rcases wput_mem he with rfl | he
    ·exact h2
    ·exact ok.t e he
   ·simp only[accF_P]
    rcases wput_mem he with rfl | he
    ·exact h1
    ·exact ok.k e he
set_option maxHeartbeats 4000000 in
theorem write_fn (d:Dk)(ok:d.Ok)(p:Int)(b:List UInt8)(hb:Small b.length):FnC Try.prog 51 [nodD d] [.ptr 1000000 0 [] 0,i64 p,sU false b] [nodD (writeF d p b).1] (i64 (writeF d p b).2):=by
 refine FnC.go ok51 rfl ?_
 refine WL.sreg (by simp;rfl) (by simp;rfl) ?_
 refine WL.seq (WL.sreg (by simp;rfl) (by simp;rfl) ?_)
 refine WL.cond (t:=false) (by simp) (by simp) (fun _=>WL.skip ?_)
 by_cases hh:0≤p∧p < d.P.length
 ·by_cases h24:b.length=24
  ·have h24':(b.length:Int)=24:=by omega
   refine WL.seq (WL.sregC (RL.o (by simp;rfl) (RL.callK false [(1000000,[])] (has_fn d p) (by simp) (by simp) (by simp[gkey]) (by simp) (by simp) (RL.o (by simp[hh];rfl) (RL.g (by simp[h24'];rfl) (RL.o (by simp;rfl) (RL.nil ⟨_,by simp;rfl,?_⟩)))))))
   refine WL.cond (t:=false) (by simp) (by simp) (fun _=>WL.skip ?_)
   refine WL.seq (WL.sregC (RL.o (by simp;rfl) (RL.callK false [(1000000,[])] (access_fn d ok) (by simp) (by simp) (by simp[gkey]) (by simp) (by simp) (RL.o (by simp;rfl) (RL.nil ⟨_,by simp;rfl,?_⟩)))))
   refine WL.sreg (by simp;rfl) (by simp;rfl) ?_
   by_cases he:(accF d).2=0
   ·refine WL.cond (t:=false) (by simp[he]) (by simp) (fun _=>WL.skip ?_)
    have hr:writeF d p b=({ (accF d).1 with W:=wput p b d.W },0):=by
     unfold writeF
     rw[if_neg (by simp[hh,h24]),if_neg (by simp[he])]
    rw[hr]
    have hW:=accF_W d
    rw[← hW]
    generalize (accF d).1=d1 at hW ⊢
    refine WL.seq (WL.draw mixed (by simp[cleanL,noH]) (DL.o (by simp;exact⟨rfl,rfl⟩) ?_))
    refine DL.callLF false [] (clone_fn b hb) (by simp) (by simp) (by simp) (by simp) (by simp[cleanL,noH]) ?_
    refine DL.mupd (k:=1000000) (g:=0) (p:=[1]) (key:=p) (u:=sU false b) (mW d1.W) Try.underlying145 Try.underlying3 (by decide) (by decide) (by decide) (by simp) (by simp) (by simp) (by simp) (by simp) (by simp) (by simp[noOwn]) (by simp[treeV]) (by simp[handB]) ?_
    refine DL.nil ⟨by kernel_rfl,_,by simp;rfl,?_⟩
    refine WL.sreg (by simp;rfl) (by simp;rfl) (WL.ret ⟨.inr rfl,?_⟩)
    simp[fi51,wput_m]
   ·refine WL.cond (t:=true) (by simp[he]) (fun _=>?_) (by simp)
    refine WL.sreg (by simp;rfl) (by simp;rfl) (WL.ret ⟨.inr rfl,?_⟩)
    have hr:writeF d p b=accF d:=by
     unfold writeF
     rw[if_neg (by simp[hh,h24]),if_pos he]
    simp[fi51,hr]
  ·have h24':¬ (b.length:Int)=24:=by omega
   refine WL.seq (WL.sregC (RL.o (by simp;rfl) (RL.callK false [(1000000,[])] (has_fn d p) (by simp) (by simp) (by simp[gkey]) (by simp) (by simp) (RL.o (by simp[hh];rfl) (RL.g (by simp[h24'];rfl) (RL.o (by simp;rfl) (RL.nil ⟨_,by simp;rfl,?_⟩)))))))
   refine WL.cond (t:=true) (by simp[h24']) (fun _=>?_) (by simp)
   refine WL.sreg (by simp;rfl) (by simp;rfl) (WL.ret ⟨.inr rfl,?_⟩)
   have hr:writeF d p b=(d,1):=by
    unfold writeF
    rw[if_pos (.inr h24)]
   simp[fi51,hr]
 ·have hc:(decide (0≤p) && decide (p < (d.P.length:Int)))=false:=by
   by_cases h1:0≤p
   ·have h2:¬ p < (d.P.length:Int):=fun h=>hh ⟨h1,h⟩
    simp[h2]
   ·simp[h1]
  have hfn:=has_fn d p
  rw[hc] at hfn
  refine WL.seq (WL.sregC (RL.o (by simp;rfl) (RL.callK false [(1000000,[])] hfn (by simp) (by simp) (by simp[gkey]) (by simp) (by simp) (RL.o (by simp;rfl) (RL.g (by simp;rfl) (RL.o (by simp;rfl) (RL.nil ⟨_,by simp;rfl,?_⟩)))))))
  refine WL.cond (t:=true) (by simp) (fun _=>?_) (by simp)
  refine WL.sreg (by simp;rfl) (by simp;rfl) (WL.ret ⟨.inr rfl,?_⟩)
  have hr:writeF d p b=(d,1):=by
   unfold writeF
   rw[if_pos (.inl hh)]
  simp[fi51,hr]
end Go.OT
namespace Go.Proofs
open Go.RowKit Go.Maps Go.Sort Go.Shelf
def Try.keysA_ren:Go.Shelf.Ren:=⟨fun | 7=>112 | 10=>151 | n=>n,fun | 23=>145 | 26=>3 | 3=>40 | 28=>153 | 0=>0 | 27=>152 | 33=>96 | 4=>4 | n=>n,fun | n=>n⟩
theorem Try.keysA:Go.Proofs.SlLaysZI.n7 Try.prog Try.keysA_ren :=
 { mixed:=by kernel_rfl,f7:=⟨Try.f112.name,by decide,Try.func112.trans (congrArg some (by kernel_rfl))⟩,f10:=⟨Try.f151.name,by decide,Try.func151.trans (congrArg some (by kernel_rfl))⟩,t0:=Try.underlying0,a0:=Try.isAgg0,z0:=Try.sizeOf0,v0:=Try.zeroValue0,t4:=Try.underlying4,a4:=Try.isAgg4,z4:=Try.sizeOf4,v4:=Try.zeroValue4,t23:=Try.underlying145,a23:=Try.isAgg145,z23:=Try.sizeOf145,v23:=Try.zeroValue145,t26:=Try.underlying3,a26:=Try.isAgg3,z26:=Try.sizeOf3,v26:=Try.zeroValue3,t27:=Try.underlying152,a27:=Try.isAgg152,z27:=Try.sizeOf152,v27:=Try.zeroValue152,t28:=Try.underlying153,a28:=Try.isAgg153,z28:=Try.sizeOf153,v28:=Try.zeroValue153,t33:=Try.underlying96,a33:=Try.isAgg96,z33:=Try.sizeOf96,v33:=Try.zeroValue96 }
def Try.sortedA_ren:Go.Shelf.Ren:=⟨fun | 6=>111 | 8=>149 | 9=>150 | 11=>168 | 13=>170 | 12=>169 | 23=>183 | 24=>184 | 14=>175 | 15=>176 | 16=>177 | 17=>178 | 18=>179 | 19=>180 | 20=>159 | 21=>181 | 22=>182 | 25=>188 | 26=>189 | 27=>190 | 28=>191 | 29=>192 | 30=>139 | 31=>193 | n=>n,fun | 26=>3 | 28=>153 | 24=>23 | 0=>0 | 3=>3 | 37=>28 | 48=>162 | 50=>192 | 4=>4 | 40=>203 | 39=>202 | 45=>124 | 5=>5 | 9=>9 | 51=>210 | 55=>214 | 57=>216 | 58=>217 | 33=>96 | n=>n,fun | n=>n⟩
theorem Try.sortedA:Go.Proofs.SlLaysZI.n6 Try.prog Try.sortedA_ren :=
 { mixed:=by kernel_rfl,f6:=⟨Try.f111.name,by decide,Try.func111.trans (congrArg some (by kernel_rfl))⟩,f8:=⟨Try.f149.name,by decide,Try.func149.trans (congrArg some (by kernel_rfl))⟩,f11:=⟨Try.f168.name,by decide,Try.func168.trans (congrArg some (by kernel_rfl))⟩,t0:=Try.underlying0,a0:=Try.isAgg0,z0:=Try.sizeOf0,v0:=Try.zeroValue0,t24:=Try.underlying23,a24:=Try.isAgg23,z24:=Try.sizeOf23,v24:=Try.zeroValue23,t26:=Try.underlying3,a26:=Try.isAgg3,z26:=Try.sizeOf3,v26:=Try.zeroValue3,t28:=Try.underlying153,a28:=Try.isAgg153,z28:=Try.sizeOf153,v28:=Try.zeroValue153,i26:=by kernel_rfl }
def Try.sortA_ren:Go.Shelf.Ren:=⟨fun | 5=>150 | 8=>170 | 7=>169 | 19=>183 | 20=>184 | 10=>175 | 11=>176 | 12=>177 | 13=>178 | 14=>179 | 15=>180 | 16=>159 | 17=>181 | 18=>182 | 30=>188 | 31=>189 | 32=>190 | 33=>191 | 34=>192 | 35=>139 | 40=>193 | n=>n,fun | 23=>23 | 25=>3 | 3=>3 | 32=>28 | 22=>23 | 0=>0 | 44=>162 | 46=>192 | 4=>4 | 36=>203 | 35=>202 | 41=>124 | 5=>5 | 9=>9 | 53=>210 | 57=>214 | 63=>216 | 64=>217 | n=>n,fun | n=>n⟩
theorem Try.sortA:Go.Proofs.SlLaysM.n5 Try.prog Try.sortA_ren :=
 { mixed:=by kernel_rfl,f5:=⟨Try.f150.name,by decide,Try.func150.trans (congrArg some (by kernel_rfl))⟩,f7:=⟨Try.f169.name,by decide,Try.func169.trans (congrArg some (by kernel_rfl))⟩,f8:=Try.func170.trans (congrArg some (by kernel_rfl)),f10:=⟨Try.f175.name,by decide,Try.func175.trans (congrArg some (by kernel_rfl))⟩,f11:=⟨Try.f176.name,by decide,Try.func176.trans (congrArg some (by kernel_rfl))⟩,f12:=⟨Try.f177.name,by decide,Try.func177.trans (congrArg some (by kernel_rfl))⟩,f13:=⟨Try.f178.name,by decide,Try.func178.trans (congrArg some (by kernel_rfl))⟩,f14:=⟨Try.f179.name,by decide,Try.func179.trans (congrArg some (by kernel_rfl))⟩,f15:=⟨Try.f180.name,by decide,Try.func180.trans (congrArg some (by kernel_rfl))⟩,f16:=⟨Try.f159.name,by decide,Try.func159.trans (congrArg some (by kernel_rfl))⟩,f17:=⟨Try.f181.name,by decide,Try.func181.trans (congrArg some (by kernel_rfl))⟩,f18:=⟨Try.f182.name,by decide,Try.func182.trans (congrArg some (by kernel_rfl))⟩,f19:=Try.func183.trans (congrArg some (by kernel_rfl)),f20:=Try.func184.trans (congrArg some (by kernel_rfl)),f30:=⟨Try.f188.name,by decide,Try.func188.trans (congrArg some (by kernel_rfl))⟩,f31:=Try.func189.trans (congrArg some (by kernel_rfl)),f32:=Try.func190.trans (congrArg some (by kernel_rfl)),f33:=⟨Try.f191.name,by decide,Try.func191.trans (congrArg some (by kernel_rfl))⟩,f34:=⟨Try.f192.name,by decide,Try.func192.trans (congrArg some (by kernel_rfl))⟩,f35:=⟨Try.f139.name,by decide,Try.func139.trans (congrArg some (by kernel_rfl))⟩,f40:=⟨Try.f193.name,by decide,Try.func193.trans (congrArg some (by kernel_rfl))⟩,t0:=Try.underlying0,a0:=Try.isAgg0,z0:=Try.sizeOf0,v0:=Try.zeroValue0,t3:=Try.underlying3,a3:=Try.isAgg3,z3:=Try.sizeOf3,v3:=Try.zeroValue3,t4:=Try.underlying4,a4:=Try.isAgg4,z4:=Try.sizeOf4,v4:=Try.zeroValue4,t5:=Try.underlying5,a5:=Try.isAgg5,z5:=Try.sizeOf5,v5:=Try.zeroValue5,t9:=Try.underlying9,a9:=Try.isAgg9,z9:=Try.sizeOf9,v9:=Try.zeroValue9,t22:=Try.underlying23,a22:=Try.isAgg23,z22:=Try.sizeOf23,v22:=Try.zeroValue23,t23:=Try.underlying23,a23:=Try.isAgg23,z23:=Try.sizeOf23,v23:=Try.zeroValue23,t25:=Try.underlying3,a25:=Try.isAgg3,z25:=Try.sizeOf3,v25:=Try.zeroValue3,t32:=Try.underlying28,a32:=Try.isAgg28,z32:=Try.sizeOf28,v32:=Try.zeroValue28,t35:=Try.underlying202,a35:=Try.isAgg202,z35:=Try.sizeOf202,v35:=Try.zeroValue202,t36:=Try.underlying203,a36:=Try.isAgg203,z36:=Try.sizeOf203,v36:=Try.zeroValue203,t41:=Try.underlying124,a41:=Try.isAgg124,z41:=Try.sizeOf124,v41:=Try.zeroValue124,t44:=Try.underlying162,a44:=Try.isAgg162,z44:=Try.sizeOf162,v44:=Try.zeroValue162,t46:=Try.underlying192,a46:=Try.isAgg192,z46:=Try.sizeOf192,v46:=Try.zeroValue192,t53:=Try.underlying210,a53:=Try.isAgg210,z53:=Try.sizeOf210,v53:=Try.zeroValue210,t57:=Try.underlying214,a57:=Try.isAgg214,z57:=Try.sizeOf214,v57:=Try.zeroValue214,t63:=Try.underlying216,a63:=Try.isAgg216,z63:=Try.sizeOf216,v63:=Try.zeroValue216,t64:=Try.underlying217,a64:=Try.isAgg217,z64:=Try.sizeOf217,v64:=Try.zeroValue217 }
theorem Try.sortsA (m:Nat):AnyZI.SortsIn Try.prog Try.sortedA_ren Fence.wide m :=
 ⟨fun blk off cap ss W hH hblk hsz=>callsIn_wide.2 (AnyM.slices_Sort_int Try.sortA blk off cap ss W hH hblk hsz),
  fun p cap W=>callsIn_wide.2 (AnyM.slices_Sort_int_none Try.sortA p cap W)⟩
end Go.Proofs
namespace Go.OT
open Go.Proofs Go.RowKit Go.Maps Go.Sort Go.Shelf Go.MapKept
theorem rdZ {P:Program}{R:Value→Option (DataW Unit × List MemPlace)}(hR:∀ v,R v=some (.nil,[])){k:TypeId}(hk:P.underlying k=some (.int .i64))(x:MapEntry)(a:Int)(h1:x.key=.int .i64 a)(h2:(Lit.int .i64 a).wf=true):Go.WideElems.rd P k R x=some (.int .i64 a,.nil):=by
 have hko:=keyOf_int_mk (P:=P) hk h2
 simp[Go.WideElems.rd,h1,hko,hR]
theorem rgs {P:Program}{R:Value→Option (DataW Unit × List MemPlace)}(hR:∀ v,R v=some (.nil,[])){k:TypeId}(hk:P.underlying k=some (.int .i64)):∀ (es:List MapEntry) (keys:List Int),es.map (·.key)=keys.map (Value.int .i64)→(∀ x ∈ keys,(Lit.int .i64 x).wf=true)→es.map (Go.WideElems.rg P k R)=keys.map fun a=>(Lit.int .i64 a,.nil)
 | [],[],_,_=>rfl
 | x :: es,a :: keys,h,hw=>by
  simp only[List.map_cons,List.cons.injEq] at h
  simp only[List.map_cons,Go.WideElems.rg_of (rdZ hR hk x a h.1 (hw a (by simp)))]
  rw[rgs hR hk es keys h.2 fun y hy=>hw y (by simp[hy])]
 | [],_ :: _,h,_=>by simp at h
 | _ :: _,[],h,_=>by simp at h
theorem intKeys_perm {l l':List (Lit × DataW Unit)}(h:l.Perm l')(keys:List Int)(e:l'=keys.map fun a=>(Lit.int .i64 a,.nil)):(intKeys (.map l)).Perm keys:=by
 subst e
 have:=h.map fun p=>intOf p.1
 simpa [intKeys,List.map_map,Function.comp_def,intOf] using this
set_option maxHeartbeats 1000000 in
theorem keysC:KeysC Try.prog 112 151 111 3:=by
 refine⟨enters_of Try.func112 (by kernel_rfl) rfl,enters_of Try.func111 (by kernel_rfl) rfl,145,fun mb W=>(callsIn_wide (n:=5)).1 (AnyZI.keys_in Try.keysA Fence.wide 5 trivial rfl mb W),fun w b es ck keys hb hE hk hnd hwf hlen=>?_⟩
 have hbl:b < w.heap.size:=(Array.getElem?_eq_some_iff.1 hb).1
 let R:Value→Option (DataW Unit × List MemPlace):=fun _=>some (.nil,[])
 have hR:∀ v,R v=some (.nil,[]):=fun _=>rfl
 have hrg:=rgs (P:=Try.prog) hR Try.underlying3 es.toList keys hk hwf
 have hszk:es.toList.length=keys.length:=by have:=congrArg List.length hk;simpa using this
 have hszk':es.size=keys.length:=by simpa using hszk
 have hknd:(es.toList.map (·.key)).Nodup:=by
  rw[hk];exact List.pairwise_map.2 (hnd.imp fun h e=>h (by injection e))
 have Ft:Go.WideElems.Fit Try.prog 3 R es ck:=by
  refine⟨by unfold maxLen;omega,⟨hE.2,hE.1,hknd⟩,fun x hx=>?_⟩
  have:x.key ∈ es.toList.map (·.key):=List.mem_map.2 ⟨x,hx,rfl⟩
  rw[hk] at this
  obtain⟨a,ha,e⟩:=List.mem_map.1 this
  exact⟨_,rdZ hR Try.underlying3 x a e.symm (hwf a ha)⟩
 have hperm:=Go.WideShapes.sorted_perm (es.toList.map (Go.WideElems.rg Try.prog 3 R))
 have hpk:=intKeys_perm hperm keys hrg
 have hsize:Maps.size (DataW.map ((es.toList.map (Go.WideElems.rg Try.prog 3 R)).foldr DataW.insert []))=keys.length:=by
  rw[Maps.size_eq,hperm.length_eq,List.length_map,hszk]
 have hseq:SeqGives Fence.wide 2 Try.prog 151 #[.pointer (some ⟨w.heap.size,0,none⟩)] encZ (fun ss=>ss.Perm (intKeys (DataW.map ((es.toList.map (Go.WideElems.rg Try.prog 3 R)).foldr DataW.insert [])))) (Maps.size (DataW.map ((es.toList.map (Go.WideElems.rg Try.prog 3 R)).foldr DataW.insert []))) (w.alloc (.cells #[.map (some b)] 145)) :=
  AnyZI.keys_gives (ρ:=Try.keysA_ren) { Try.keysA with } Fence.wide _ trivial rfl (by omega) w.heap.size b keys.length _ _ (by simp) (by simp) (by
   exact⟨es,ck,(Below.heap_alloc _ _ b hbl).trans hb,Ft,by omega,rfl⟩)
 have cS:=AnyZI.sorted_in Try.sortedA Fence.wide 5 trivial trivial trivial trivial rfl (by omega) (Try.sortsA _) (enters_of Try.func150 (by kernel_rfl) rfl) 151 #[.pointer (some ⟨w.heap.size,0,none⟩)] trivial (enters_of Try.func151 (by kernel_rfl) rfl) _ _ (by rw[hsize];unfold maxLen;omega) (by rw[hsize];exact Nat.le_trans (Nat.mul_le_mul_right 8 hlen) (by decide)) _ hseq
 change CallsIn _ _ Try.prog 111 _ _ _ at cS
 refine ((callsIn_wide (n:=5)).1 cS).mono ?_
 rintro e w' ⟨v,ss,rfl,hS,hrow,hnil,hbw⟩
 refine⟨v,ss,rfl,hS.trans hpk,?_,?_⟩
 ·have e0:(w.alloc (.cells #[.map (some b)] 145)).heap.size=w.heap.size+1:=by simp
  rw[e0] at hrow
  exact hrow
 ·simpa using hbw
end Go.OT
namespace Go.OT
open Go.Proofs
def putAll (W:List (Int × List UInt8))(P:List (List UInt8)):List (List UInt8):=W.foldl (fun P e=>P.set e.1.toNat e.2) P
theorem putAll_len:∀ (W:List (Int × List UInt8)) (P:List (List UInt8)),(putAll W P).length=P.length
 | [],P=>rfl
 | e :: W,P=>by
  have:=putAll_len W (P.set e.1.toNat e.2)
  simp only[putAll,List.foldl_cons,List.length_set] at this ⊢
  exact this
theorem putAll_erase:∀ (W:List (Int × List UInt8)) (P:List (List UInt8)) (j:Nat) (e:Int × List UInt8),(W.map (·.1)).Nodup→(∀ x ∈ W,0≤x.1)→W[j]?=some e→putAll (W.eraseIdx j) (P.set e.1.toNat e.2)=putAll W P
 | [],P,j,e,_,_,h=>by simp at h
 | x :: W,P,0,e,_,_,h=>by
  simp only[List.getElem?_cons_zero,Option.some.injEq] at h
  subst h
  rfl
 | x :: W,P,j+1,e,hn,h0,h=>by
  simp only[List.getElem?_cons_succ] at h
  simp only[List.map_cons,List.nodup_cons] at hn
  have hx:=h0 x (by simp)
  have hm:=List.mem_of_getElem? h
  have he:=h0 e (by simp[hm])
  have hne:x.1 ≠ e.1:=fun q=>hn.1 (List.mem_map.2 ⟨e,hm,q.symm⟩)
  have ih:=putAll_erase W (P.set x.1.toNat x.2) j e hn.2 (fun y hy=>h0 y (by simp[hy])) h
  simp only[putAll,List.eraseIdx_cons_succ,List.foldl_cons] at ih ⊢
  rw[List.set_comm _ _ (by omega),ih]
def syncF (d:Dk):Dk × Int :=
 if (accF d).2 ≠ 0 then accF d else ({ (accF d).1 with P:=putAll d.W d.P,W:=[] },0)
structure SyI (n:Nat) (W0:List (Int × List UInt8)) (P0:List (List UInt8)) where
 W:List (Int × List UInt8)
 P:List (List UInt8)
 hn:(W.map (·.1)).Nodup
 hr:∀ e ∈ W,0≤e.1∧e.1 < n
 hl:P.length=n
 he:putAll W P=putAll W0 P0
def SyS (d:Dk)(P:List (List UInt8))(rr mb:Nat):SL:=[(0,0,.ptr 1000000 0 [] 0),(1700,0,itV rr),(1000000,0,.bx true () [sP true P,mpV mb,i64 d.A,i64 d.F,bl d.D])]
theorem mW_map (W:List (Int × List UInt8)):(mW W).map (·.1)=W.map (·.1):=by simp[List.map_map,Function.comp_def]
theorem mW_at {W:List (Int × List UInt8)}{j:Nat}{key:Int}{v:AU}(h:(mW W)[j]?=some (key,v)):∃ b,W[j]?=some (key,b)∧v=sU false b:=by
 simp only[List.getElem?_map,Option.map_eq_some_iff] at h
 obtain⟨e,h1,h2⟩:=h
 simp only[Prod.mk.injEq] at h2
 exact⟨e.2,by rw[h1];simp[← h2.1],h2.2.symm⟩
theorem mW_erase (W:List (Int × List UInt8))(j:Nat):mW (W.eraseIdx j)=(mW W).eraseIdx j:=(map_erase _ W j).symm ▸ rfl
set_option maxHeartbeats 4000000 in
theorem sync_fn (d:Dk)(ok:d.Ok):FnC Try.prog 54 [nodD d] [.ptr 1000000 0 [] 0] [nodD (syncF d).1] (i64 (syncF d).2):=by
 refine FnC.go ok54 rfl ?_
 refine WL.sreg (by simp;rfl) (by simp;rfl) ?_
 refine WL.seq (WL.sreg (by simp;rfl) (by simp;rfl) ?_)
 refine WL.cond (t:=false) (by simp) (by simp) (fun _=>WL.skip ?_)
 refine WL.seq (WL.sregC (RL.o (by simp;rfl) (RL.callK false [(1000000,[])] (access_fn d ok) (by simp) (by simp) (by simp[gkey]) (by simp) (by simp) (RL.o (by simp;rfl) (RL.nil ⟨_,by simp;rfl,?_⟩)))))
 refine WL.sreg (by simp;rfl) (by simp;rfl) ?_
 by_cases he:(accF d).2=0
 ·refine WL.cond (t:=false) (by simp[he]) (by simp) (fun _=>WL.skip ?_)
  have hr:syncF d=({ (accF d).1 with P:=putAll d.W d.P,W:=[] },0):=by
   unfold syncF
   rw[if_neg (by simp[he])]
  rw[hr,he]
  have hW:=accF_W d
  have hP:=accF_P d
  have hk:=ok.k
  have hu:=ok.u
  rw[← hW,← hP]
  rw[← hW,← hP] at hk
  rw[← hW] at hu
  have hn48:(accF d).1.P.length≤48:=by rw[hP];exact ok.n
  generalize (accF d).1=d1 at hk hu hn48 ⊢
  refine WL.rangeMap (ι:=SyI d1.P.length d1.W d1.P) (k:=1000000) (g:=0) (p:=[1]) (mW d1.W) (by simp;rfl) (by simp) (by simp) (by simp) (by simp) Try.underlying145 (by decide) (fun rr mb=>?_) (fun rr mb i=>SyS d1 i.P rr mb) (fun i=>mW i.W) ⟨d1.W,d1.P,hu,hk,rfl,rfl⟩ rfl (fun i x hx=>?_) (fun rr mb=>?_) (fun rr mb i=>?_) (fun rr mb i j key v hj=>?_) (fun rr mb i hi=>?_)
  ·simp[wipe1B]
  ·obtain⟨e,_,rfl⟩:=List.mem_map.1 hx
   simp[noOwn]
  ·simp;rfl
  ·simp[SyS]
  ·simp only[SyS]
   obtain⟨b,hb,rfl⟩:=mW_at hj
   have hbm:=List.mem_of_getElem? hb
   have hkr:=i.hr _ hbm
   obtain⟨m,rfl⟩:∃ m:Nat,key=m:=⟨key.toNat,by simp only at hkr;omega⟩
   have hm:m < i.P.length:=by rw[i.hl];simp only at hkr;omega
   have hm':(m:Int) < i.P.length:=by omega
   refine RL.o (by simp;rfl) (RL.nil ⟨_,by simp;rfl,by simp,by simp,?_⟩)
   refine RL.o (by simp;rfl) (RL.nil ⟨_,by simp;rfl,?_⟩)
   refine WL.wipe1 1000000 [0,m] (by simp[wipe1B,hm]) ?_
   refine WL.reg (RL.run (by simp[hm,hm'];rfl) ⟨_,by simp;rfl,?_⟩)
   refine⟨rfl,⟨i.W.eraseIdx j,i.P.set m b,?_,fun e he=>i.hr e (List.mem_of_mem_eraseIdx he),by simp[i.hl],?_⟩,?_,mW_erase _ _⟩
   ·exact i.hn.sublist ((List.eraseIdx_sublist _ _).map _)
   ·have:=putAll_erase i.W i.P j _ i.hn (fun x hx=>(i.hr x hx).1) hb
    rw[← i.he,← this]
    simp
   ·simp[SyS,List.map_set]
  ·simp only[SyS]
   refine RL.o (by simp;rfl) (RL.nil ⟨_,by simp;rfl,by simp,by simp,by simp,?_⟩)
   have hi0:i.W=[]:=by simpa using hi
   have hfin:i.P=putAll d1.W d1.P:=by rw[← i.he,hi0];rfl
   refine WL.seq (WL.reg (RL.o (by simp;rfl) (RL.mclr (k:=1000000) (g:=0) (p:=[1]) (mW d1.W) Try.underlying145 (by decide) (by simp) (by simp) (by simp) (by simp) (RL.nil ⟨_,by simp;rfl,?_⟩))))
   refine WL.sreg (by simp;rfl) (by simp;rfl) (WL.ret ⟨.inr rfl,?_⟩)
   simp[fi54,hfin,flatM]
 ·refine WL.cond (t:=true) (by simp[he]) (fun _=>?_) (by simp)
  refine WL.sreg (by simp;rfl) (by simp;rfl) (WL.ret ⟨.inr rfl,?_⟩)
  simp[fi54,syncF,he]
theorem syncF_ok {d:Dk}(ok:d.Ok)(ha:d.A < 1000000000):(syncF d).1.Ok:=by
 have o1:=accF_ok ok ha
 unfold syncF
 split
 ·exact o1
 ·refine⟨by simp only[putAll_len];exact ok.n,fun p hp=>?_,by simp,by simp,by simp,o1.a,o1.f⟩
  have h1:=ok.s
  have h2:=ok.t
  have key:∀ (W:List (Int × List UInt8)) (P:List (List UInt8)),(∀ p ∈ P,p.length=24)→(∀ e ∈ W,e.2.length=24)→∀ p ∈ putAll W P,p.length=24:=by
   intro W
   induction W with
   | nil=>intro P h _ p hp;exact h p hp
   | cons e W ih =>
    intro P h g p hp
    refine ih (P.set e.1.toNat e.2) (fun q hq=>?_) (fun x hx=>g x (by simp[hx])) p hp
    rcases List.mem_or_eq_of_mem_set hq with hq | rfl
    ·exact h q hq
    ·exact g e (by simp)
  exact key d.W d.P h1 h2 p hp
set_option maxHeartbeats 4000000 in
theorem sync_nil:FnC Try.prog 54 [] [.sc (.pointer none)] [] (i64 12):=by
 refine FnC.go ok54 rfl ?_
 refine WL.sreg (by simp;rfl) (by simp;rfl) ?_
 refine WL.seq (WL.sreg (by simp;rfl) (by simp;rfl) ?_)
 refine WL.cond (t:=true) (by simp) (fun _=>?_) (by simp)
 refine WL.sreg (by simp;rfl) (by simp;rfl) (WL.ret ⟨.inr rfl,?_⟩)
 simp[fi54]
def waitsF (d:Dk):List Int:=sortZ (d.W.map (·.1))
theorem waitsF_len (d:Dk):(waitsF d).length=d.W.length:=by simp[waitsF,sortZ]
theorem nodup_bound {l:List Int}{n:Nat}(h:l.Nodup)(hb:∀ x ∈ l,0≤x∧x < n):l.length≤n:=by
 have h1:(l.map Int.toNat).Nodup:=by
  rw[List.Nodup,List.pairwise_map]
  exact h.imp_of_mem fun {a b} ha hbm hne e=>hne (by have:=hb a ha;have:=hb b hbm;omega)
 have h2:(l.map Int.toNat) ⊆ List.range n:=fun x hx=>by
  obtain⟨y,hy,rfl⟩:=List.mem_map.1 hx
  have:=hb y hy
  simp only[List.mem_range];omega
 have:=List.Nodup.length_le_of_subset h1 h2
 simpa using this
set_option maxHeartbeats 4000000 in
theorem waits_fn (d:Dk)(ok:d.Ok):FnC Try.prog 62 [nodD d] [.ptr 1000000 0 [] 0] [nodD d] (sI true (waitsF d)):=by
 have hn:=nodup_bound ok.u fun x hx=>by
  obtain⟨e,he,rfl⟩:=List.mem_map.1 hx
  exact ok.k e he
 have h48:=ok.n
 rw[List.length_map] at hn
 refine FnC.go ok62 rfl ?_
 refine WL.sreg (by simp;rfl) (by simp;rfl) ?_
 refine WL.seq (WL.sreg (by simp;rfl) (by simp;rfl) ?_)
 refine WL.cond (t:=false) (by simp) (by simp) (fun _=>WL.skip ?_)
 refine WL.sregC (RL.o (by simp;rfl) (RL.sortedKeys (k:=1000000) (g:=0) (p:=[1]) (own:=true) (mW d.W) keysC (by simp) (by simp) (by simp) (by rw[mW_map];exact ok.u) (fun e he=>?_) (by simp;omega) (by decide) ?_))
 ·obtain⟨e,hm,rfl⟩:=List.mem_map.1 he
  have:=ok.k e hm
  simp[Lit.wf]
  exact⟨Int.le_trans (by decide:IntKind.i64.min≤0) this.1,by omega⟩
 ·refine RL.o (by simp;rfl) (RL.nil ⟨_,by simp;rfl,WL.ret ⟨.inr rfl,?_⟩⟩)
  have hl:=waitsF_len d
  have e1:sortZ (List.map ((fun x=>x.1) ∘ fun e:Int × List UInt8=>(e.1,sU false e.2)) d.W)=waitsF d:=rfl
  simp[fi62,hl]
  rw[e1,List.take_of_length_le (by simp[hl]),List.take_of_length_le (by simp[hl])]
set_option maxHeartbeats 4000000 in
theorem durable_fn (d:Dk)(ok:d.Ok):FnC Try.prog 61 [nodD d] [.ptr 1000000 0 [] 0] [nodD d] (sP true d.P):=by
 have h48:=ok.n
 refine FnC.go ok61 rfl ?_
 refine WL.sreg (by simp;rfl) (by simp;rfl) ?_
 refine WL.seq (WL.sreg (by simp;rfl) (by simp;rfl) ?_)
 refine WL.cond (t:=false) (by simp) (by simp) (fun _=>WL.skip ?_)
 refine WL.sreg (by simp;rfl) (by simp;rfl) ?_
 refine WL.seq (WL.sreg (by simp;rfl) (by simp;rfl) ?_)
 refine WL.block (WL.count d.P.length (fun i=>[(300,0,.sl true () 1 i ((d.P.map (sU false)).take i)),(1100,0,.view 1000000 0 [0] 0 d.P.length),(1200,0,i64 d.P.length),(1300,0,i64 i),(1000000,0,.bx true () (celD d))]) (fun _=>True) ?_ trivial fun i hi _=>?_)
 ·simp
 have hti:(d.P.take i).length=i:=by simp;omega
 by_cases h:i < d.P.length
 ·have h':(i:Int) < d.P.length:=by omega
  have hm1:i+1≤d.P.length:=h
  refine WL.seq (WL.reg (RL.run (by simp[h'];rfl) ⟨_,by simp;rfl,?_⟩))
  refine WL.seq (WL.cond (t:=true) (by simp) (fun _=>WL.skip ?_) (by simp))
  refine WL.seq (WL.block ?_)
  refine WL.sreg (by simp[h,h',hm1];rfl) (by simp;rfl) ?_
  have hl:=ok.s d.P[i] (List.getElem_mem h)
  have hcl:=clone_fn d.P[i] (by unfold Small;omega)
  refine WL.reg (RL.o (by simp;rfl) (RL.call0 false hcl (by simp) (by simp) (RL.freeze 1900 ?_)))
  have e1:(i+1) * 24≤140737488355328:=by omega
  have e2:i+1≤140737488355328:=by omega
  have e3:i+1≤maxLen:=by unfold maxLen;omega
  have hmin:min i d.P.length=i:=by omega
  refine RL.o (by simp[e1,e2,e3,hmin];rfl) (RL.nil ⟨_,by simp;rfl,?_⟩)
  refine WL.reg (RL.run (by simp[wrap_succ (n:=d.P.length) (by unfold Small;omega) h];rfl) ⟨_,by simp;rfl,?_⟩)
  refine⟨h,?_,trivial⟩
  have e5:List.take (i+1) (List.take i (List.take i (List.map (sU false) d.P)) ++ [sU false d.P[i]])=List.take (i+1) (List.map (sU false) d.P):=by
   rw[List.take_take,Nat.min_self,List.take_of_length_le (by simp;omega),List.take_succ_eq_append_getElem (by simpa using h)]
   simp
  rw[e5]
  simp
 ·have h':¬ (i:Int) < d.P.length:=by omega
  refine WL.seq (WL.reg (RL.run (by simp[h'];rfl) ⟨_,by simp;rfl,?_⟩))
  refine WL.seq (WL.cond (t:=false) (by simp) (by simp) (fun _=>WL.exit ?_))
  have:i=d.P.length:=by omega
  subst this
  simp
  refine WL.sregC (RL.mv (by decide) (RL.o (by simp;rfl) (RL.nil ⟨_,by simp;rfl,WL.ret ⟨.inr rfl,?_⟩⟩)))
  simp[fi61]
end Go.OT
namespace Go.OT
open Go.Proofs
structure GrowC (P:Program) (fG:Nat):Prop where
 eg:∀ args w,(callFunc fG args).run P w=.ok (.enter fG args) w
 gr:∀ (n:Nat) (w:World),1≤n→n≤100000→Calls P fG #[.slice none 0 0,.int .i64 n] w fun e w' =>
  ∃ (G:Nat) (cs:Array Value) (ty:TypeId),e=.returned (.slice (some ⟨w.heap.size,0,none⟩) 0 G)∧G≤9223372036854775807∧G≤cs.size∧w'=w.drew.alloc (.cells cs ty)
theorem compOd_nil {nt sz s1:Nat}{x:Operand}(h:compOd nt sz x=some (.c (.sl true () s1 0 []))):x=.const (.slice none 0 0):=by
 cases x with
 | tmp t=>simp only[compOd] at h;split at h<;>cases h
 | const v =>
  simp only[compOd] at h
  split at h
  ·by_cases e:v=.slice none 0 0
   ·rw[e]
   ·exfalso
    simp only[Option.some.injEq,COd.c.injEq] at h
    unfold cst at h
    split at h
    ·exact e rfl
    ·cases h
  ·cases h
 | global v=>simp [compOd] at h
 | func f=>simp [compOd] at h
theorem RL.growNil {P:Program}{nt:Nat}{L:SL}{K:SL→Prop}{rest:List Sg}{d s fG:Nat}(n:Nat)(hC:GrowC P fG)(hx:(fnL L (100 * s)).2=.sc (.int .i64 n))(hn1:1≤n)(hn2:n≤100000)
  (h:RL P nt rest (setL L (100 * d) (.sl true () 1 0 [])) K):RL P nt (.call none d fG [.c (.sl true () 1 0 []),.t s] :: rest) L K:=by
 intro C ops idx hP hnt hc a0 w Q hdf hr hK
 obtain⟨i1,l1,o1,rfl,ho1,hit1,hl1⟩:=its_cons (it:=.call none d fG [.c (.sl true () 1 0 []),.t s]) (r:=flatS rest) (by simpa [flatS] using hc)
 obtain⟨h0,e1,e2,e3,xa,ts,ss,hop1,hxs,hcs⟩:=itOf_call hit1
 obtain⟨s1,ss1,x1,l1',el1,hc1,hcs⟩:=argsOd_cons hcs
 obtain⟨s2,ss2,x2,l2',el2,hc2,hcs⟩:=argsOd_cons hcs
 have el3:=argsOd_nil hcs
 obtain⟨rfl,hs⟩:=compOd_t hc2
 have:=compOd_nil hc1
 subst this
 subst el3 el2
 have exa:xa=#[.const (.slice none 0 0),.tmp s]:=by cases xa;simp only at el1;rw[el1]
 subst exa hP hnt
 obtain⟨XL,β,I,rg,he,R,hsz,htm⟩:=hr
 have hd1l:d < 10000:=by have:=C.hnt;omega
 rw[wpOps_cons]
 refine wpOp_of ho1 (compGd_none h0) ?_
 have ev1:a0.tmps.getD s undef=.int .i64 n:=by
  have:=RelT.scal ⟨XL,β,I,rg,he,R,hsz,htm⟩ hs hx
  simp[Array.getD_eq_getD_getElem?,this]
 have hexec:(execOp a0.eval o1).run C.P w=.ok (.enter fG #[.slice none 0 0,.int .i64 n]) w:=by
  simp only[execOp,hop1,resolve,Deferred.ofValue]
  simp only[Act.eval,Sem.run_bind,Sem.run_pure,Result.andThen_ok,invoke,Array.append_empty,Array.empty_append,hC.eg,List.map_toArray,List.map_cons,List.map_nil,ev1]
 unfold Oper.wp
 rw[hexec,Oper.upon_enter]
 refine Calls.mono (hC.gr n w hn1 hn2) fun e w1 hq=>?_
 obtain⟨G,cs,ty,rfl,hG1,hG2,hw1⟩:=hq
 have hF1:Frame (fun _ _=>False) w w1:=by
  subst hw1
  exact (frame_drew _ w).trans (frame_alloc _ w.drew _) (fun _ _ h=>h)
 have hgb:w1.heap[w.heap.size]?=some (.cells cs ty):=by subst hw1;show (w.heap.push _)[w.heap.size]?=_;simp
 have hroom:∀ j,j < G→∃ y,w1.at w.heap.size j=some (.v y):=fun j hj=>⟨cs[j]'(by omega),by simp[World.at,hgb,show j < cs.size by omega]⟩
 have R1:=R.fresh (w':=w1) d hd1l [] (by simp) (v:=.sl true (some ⟨w.heap.size,0,G⟩) 1 0 []) (x:=.slice (some ⟨w.heap.size,0,none⟩) 0 G) hF1 (by
  simp only[Mem]
  refine⟨rfl,Nat.zero_le _,by simp[MemL],fun _=>⟨fun j hj=>by rw[Nat.zero_add];exact hroom j (by omega),fun _=>hG1⟩⟩) (by simp[Sep,SepL,fpL]) (by simp[RR,CR]) (fun b o hb=>by
  simp only[fp] at hb
  rcases hb with ⟨rfl,h1,h2⟩ | hb
  ·obtain⟨y,hy⟩:=hroom o (by simp at h2;omega)
   refine .inl ⟨Nat.le_refl _,(Array.getElem?_eq_some_iff.1 hgb).1,by simp[World.fz,hgb],by rw[hy];rfl⟩
  ·simp[fpL] at hb)
 show wpOps C.P ops Q l1 (a0.put o1.dst (.slice (some ⟨w.heap.size,0,none⟩) 0 G)) w1
 refine h C ops l1 rfl rfl hl1 _ _ Q (by simp[Act.put,e1,hdf]) ⟨_,β,I,_,?_,R1,by simp[Act.put,e1,hsz],fun t' htl=>?_⟩ hK
 ·simp only[List.foldl_nil,erF_set,he,← fnL_set]
  simp[er,erL]
 ·simp only[Act.put,e1]
  by_cases e:t'=d
  ·subst e;simp[Array.getD_eq_getD_getElem?,hsz,e2]
  ·rw[if_neg e,← htm t' htl]
   simp[Array.getD_eq_getD_getElem?,Array.getElem?_setIfInBounds_ne (Ne.symm e)]
end Go.OT
namespace Go.Proofs
open Go.RowKit Go.Shelf Go.Lib
def Try.growA_ren:Go.Shelf.Ren:=⟨fun | 4=>148 | n=>n,fun | 22=>40 | 25=>5 | 3=>3 | 4=>4 | 9=>9 | 20=>20 | 0=>0 | n=>n,fun | n=>n⟩
theorem Try.growA:Go.Proofs.Lays8.n4 Try.prog Try.growA_ren :=
 { mixed:=by kernel_rfl,f4:=⟨Try.f148.name,by decide,Try.func148.trans (congrArg some (by kernel_rfl))⟩,t0:=Try.underlying0,a0:=Try.isAgg0,z0:=Try.sizeOf0,v0:=Try.zeroValue0,t3:=Try.underlying3,a3:=Try.isAgg3,z3:=Try.sizeOf3,v3:=Try.zeroValue3,t4:=Try.underlying4,a4:=Try.isAgg4,z4:=Try.sizeOf4,v4:=Try.zeroValue4,t9:=Try.underlying9,a9:=Try.isAgg9,z9:=Try.sizeOf9,v9:=Try.zeroValue9,t20:=Try.underlying20,a20:=Try.isAgg20,z20:=Try.sizeOf20,v20:=Try.zeroValue20,t22:=Try.underlying40,a22:=Try.isAgg40,z22:=Try.sizeOf40,v22:=Try.zeroValue40 }
end Go.Proofs
namespace Go.OT
open Go.Proofs Go.RowKit Go.Shelf Go.Lib
theorem growC:GrowC Try.prog 148:=by
 refine⟨enters_of Try.func148 (by kernel_rfl) rfl,fun n w h1 h2=>?_⟩
 obtain⟨i0,hi0,z,hz0,hs0,hb⟩:∃ i0,Try.prog.info? 5=some i0∧∃ z,i0.zero=some z∧i0.size=1∧i0.bytes=1∧z.cells.size=1:=by
  have hk:((Try.prog.info? 5).bind fun i=>i.zero.map fun z=>(i.size,i.bytes,z.cells.size))=some (1,1,1):=by kernel_rfl
  simp only[Option.bind_eq_some_iff,Option.map_eq_some_iff,Prod.mk.injEq] at hk
  obtain⟨i,h1,z,h2,h3,h4,h5⟩:=hk
  exact⟨i,h1,z,h2,h3,h4,h5⟩
 have:=Any8.slices_Grow_grow Try.growA i0 z hi0 hz0 (by omega) none 0 0 n [] w (Nat.le_refl _) (by omega) (by rw[hb.1];omega) (by omega) (by simp) (fun _=>rfl) (by simp)
 refine Calls.mono this fun e w' hq=>?_
 obtain⟨rfl,rfl⟩:=hq
 refine⟨_,_,_,rfl,?_,?_,rfl⟩
 ·have:=grownCap_le_maxLen w (0+n) 0 (Try.growA_ren.t 25) (by unfold maxLen;omega)
  unfold maxLen at this
  omega
 ·have:=grownCap_ge w (0+n) 0 (Try.growA_ren.t 25)
  simp only[Array.size_append,List.size_toArray,List.length_nil,size_zeroCells,hb.2]
  omega
def totL (ss:List (List UInt8))(i:Nat):Nat:=((ss.take i).flatten).length
theorem totL_succ {ss:List (List UInt8)}{i:Nat}(h:i < ss.length):totL ss (i+1)=totL ss i+ss[i].length:=by
 unfold totL
 rw[List.take_succ_eq_append_getElem h,List.flatten_append,List.length_append,List.flatten_cons,List.flatten_nil,List.append_nil]
theorem totL_le (ss:List (List UInt8))(i:Nat):totL ss i≤ss.flatten.length:=by
 unfold totL
 have:ss.flatten=(ss.take i).flatten ++ (ss.drop i).flatten:=by rw[← List.flatten_append,List.take_append_drop]
 rw[this,List.length_append]
 omega
def catV (ss:List (List UInt8))(i:Nat):List AU:=((ss.take i).flatten).map fun b=>u8 (b.toNat:Int)
theorem catV_len (ss:List (List UInt8))(i:Nat):(catV ss i).length=totL ss i:=by rw[catV,List.length_map,totL]
theorem catV_succ {ss:List (List UInt8)}{i:Nat}(h:i < ss.length):catV ss (i+1)=catV ss i ++ ss[i].map fun b=>u8 (b.toNat:Int):=by
 unfold catV
 rw[List.take_succ_eq_append_getElem h,List.flatten_append,List.map_append,List.flatten_cons,List.flatten_nil,List.append_nil]
set_option maxHeartbeats 4000000 in
theorem concat_fn (ss:List (List UInt8))(h1:1≤ss.flatten.length)(h2:ss.flatten.length≤100000)(hl:ss.length≤1000):FnC Try.prog 110 [] [.sl false () 1 ss.length (ss.map (sU false))] [] (sU true ss.flatten):=by
 refine FnC.go ok110 rfl ?_
 refine WL.sreg (by simp;rfl) (by simp;rfl) ?_
 refine WL.sreg (by simp;rfl) (by simp;rfl) ?_
 refine WL.seq (WL.sreg (by simp;rfl) (by simp;rfl) ?_)
 refine WL.block (WL.count ss.length (fun i=>[(0,0,.sl false () 1 ss.length (ss.map (sU false))),(300,0,i64 (totL ss i)),(900,0,.sl false () 1 ss.length (ss.map (sU false))),(1000,0,i64 ss.length),(1100,0,i64 i)]) (fun _=>True) (by simp[totL]) trivial fun i hi _=>?_)
 by_cases h:i < ss.length
 ·have h':(i:Int) < ss.length:=by omega
  have hm1:i+1≤ss.length:=h
  have hts:=totL_succ h
  have htl:=totL_le ss (i+1)
  have hw:IntKind.wrap .i64 ((totL ss i:Int)+(ss[i].length:Int))=((totL ss (i+1):Nat):Int):=by
   rw[hts,wrap_small (by omega) (by omega)];simp
  have hnn:¬ ((totL ss (i+1):Nat):Int) < 0:=by omega
  refine WL.seq (WL.reg (RL.run (by simp[h'];rfl) ⟨_,by simp;rfl,?_⟩))
  refine WL.seq (WL.cond (t:=true) (by simp) (fun _=>WL.skip ?_) (by simp))
  refine WL.seq (WL.block ?_)
  refine WL.sreg (by simp[h,h',hm1];rfl) (by simp;rfl) ?_
  refine WL.sreg (by simp[hw];rfl) (by simp;rfl) ?_
  refine WL.sreg (by simp[hnn];rfl) (by simp;rfl) ?_
  refine WL.cond (t:=false) (by simp) (by simp) (fun _=>WL.skip ?_)
  refine WL.reg (RL.run (by simp[wrap_succ (n:=ss.length) (by unfold Small;omega) h];rfl) ⟨_,by simp;rfl,?_⟩)
  refine⟨h,?_,trivial⟩
  simp
 ·have h':¬ (i:Int) < ss.length:=by omega
  refine WL.seq (WL.reg (RL.run (by simp[h'];rfl) ⟨_,by simp;rfl,?_⟩))
  refine WL.seq (WL.cond (t:=false) (by simp) (by simp) (fun _=>WL.exit ?_))
  have:i=ss.length:=by omega
  subst this
  have e0:totL ss ss.length=ss.flatten.length:=by simp[totL]
  simp[e0]
  refine WL.sregC (RL.o (by simp;rfl) (RL.growNil ss.flatten.length growC (by simp) h1 h2 (RL.o (by simp;rfl) (RL.nil ⟨_,by simp;rfl,?_⟩))))
  refine WL.seq (WL.sreg (by simp;rfl) (by simp;rfl) ?_)
  refine WL.block (WL.count ss.length (fun i=>[(600,0,.sl true () 1 (totL ss i) (catV ss i)),(2500,0,.sl false () 1 ss.length (ss.map (sU false))),(2600,0,i64 ss.length),(2700,0,i64 i)]) (fun _=>True) (by simp[totL,catV]) trivial fun i hi _=>?_)
  by_cases h:i < ss.length
  ·have h':(i:Int) < ss.length:=by omega
   have hm1:i+1≤ss.length:=h
   have hts:=totL_succ h
   have htl:=totL_le ss (i+1)
   refine WL.seq (WL.reg (RL.run (by simp[h'];rfl) ⟨_,by simp;rfl,?_⟩))
   refine WL.seq (WL.cond (t:=true) (by simp) (fun _=>WL.skip ?_) (by simp))
   refine WL.seq (WL.block ?_)
   refine WL.sreg (by simp[h,h',hm1];rfl) (by simp;rfl) ?_
   have e1:(totL ss i+ss[i].length) * 1≤140737488355328:=by omega
   have e2:totL ss i+ss[i].length≤140737488355328:=by omega
   have e3:totL ss i+ss[i].length≤maxLen:=by unfold maxLen;omega
   refine WL.reg (RL.run (by simp[e1,e2,e3];rfl) ⟨_,by simp;rfl,?_⟩)
   refine WL.reg (RL.run (by simp[wrap_succ (n:=ss.length) (by unfold Small;omega) h];rfl) ⟨_,by simp;rfl,?_⟩)
   refine⟨h,?_,trivial⟩
   rw[List.take_of_length_le (Nat.le_of_eq (catV_len ss i)),List.take_of_length_le (by simp[catV_len]),← catV_succ h,← hts]
   simp
  ·have h':¬ (i:Int) < ss.length:=by omega
   refine WL.seq (WL.reg (RL.run (by simp[h'];rfl) ⟨_,by simp;rfl,?_⟩))
   refine WL.seq (WL.cond (t:=false) (by simp) (by simp) (fun _=>WL.exit ?_))
   have:i=ss.length:=by omega
   subst this
   have e5:catV ss ss.length=ss.flatten.map fun b=>u8 (b.toNat:Int):=by simp only[catV,List.take_length]
   rw[e0,e5]
   generalize ss.flatten=l
   simp
   refine WL.sregC (RL.mv (by decide) (RL.o (by simp;rfl) (RL.nil ⟨_,by simp;rfl,WL.ret ⟨.inr rfl,?_⟩⟩)))
   simp[fi110,e0]
end Go.OT
namespace Go.OT
open Go.Proofs
def bitsAt (bits:List UInt8)(k:Nat):Nat:=if k / 4 < bits.length then ((bits.getD (k / 4) 0).toNat >>> (2 * (k % 4))) % 4 else 0
def tear (c:Nat)(b o:List UInt8):List UInt8:=if c=0 then o else if c=1 then b else if c=2 then b.take 12 ++ o.drop 12 else o.take 12 ++ b.drop 12
def crashL (W:List (Int × List UInt8))(bits:List UInt8):List Int→Nat→List (List UInt8)→List (List UInt8)
 | [],_,P=>P
 | p :: ws,k,P=>crashL W bits ws (k+1) (P.set p.toNat (tear (bitsAt bits k) ((wget W p).getD []) (P.getD p.toNat [])))
def crashF (d:Dk)(bits:List UInt8):Dk × Bool:=if d.D=true then (d,false) else ({ d with P:=crashL d.W bits (waitsF d) 0 d.P,W:=[],D:=true },true)
set_option maxHeartbeats 4000000 in
theorem crash_down (d:Dk)(hD:d.D=true)(bits:List UInt8):FnC Try.prog 58 [nodD d] [.ptr 1000000 0 [] 0,sU false bits] [nodD d] (bl false):=by
 refine FnC.go ok58 rfl ?_
 refine WL.sreg (by simp;rfl) (by simp;rfl) ?_
 refine WL.scope (WL.seq (WL.sreg (by simp;rfl) (by simp;rfl) ?_))
 refine WL.cond (t:=true) (by simp[hD]) (fun _=>?_) (by simp)
 refine WL.sreg (by simp;rfl) (by simp;rfl) (WL.ret ⟨.inr rfl,?_⟩)
 simp[fi58]
structure CrI (d:Dk) (bits:List UInt8) (ws:List Int) where
 i:Nat
 P:List (List UInt8)
 hi:i≤ws.length
 hn:P.length=d.P.length
 hs:∀ p ∈ P,p.length=24
 he:crashL d.W bits (ws.drop i) i P=crashL d.W bits ws 0 d.P
def CrS (d:Dk)(bits:List UInt8)(ws:List Int)(i:Nat)(P:List (List UInt8)):SL :=
 [(0,0,.bptr 0 1 0),(1,0,sP true P),(2,0,.mp true () (flatM (mW d.W))),(3,0,i64 d.A),(4,0,i64 d.F),(5,0,bl true),(99,1,.non),(100,0,sU false bits),(500,0,i64 i),(2200,0,sI true ws),(2300,0,i64 ws.length),(2400,0,i64 i),(1000000,0,.bptr 0 1 0)]
theorem two_bits (x:UInt8)(r:Nat)(hr:r < 4):IntKind.i64.wrap (IntKind.u8.wrap ((((((x.toNat:Nat):Int).fdiv (2 ^ min (2 * r) IntKind.u8.bits) % 2 ^ IntKind.u8.bits).toNat &&& 3 % 2 ^ IntKind.u8.bits:Nat)):Int))=(((x.toNat >>> (2 * r)) % 4:Nat):Int):=by
 have hb:IntKind.u8.bits=8:=rfl
 have hx:x.toNat < 256:=x.toNat_lt
 have hm:min (2 * r) 8=2 * r:=by omega
 rw[hb,hm]
 have h1:((x.toNat:Nat):Int).fdiv (2 ^ (2 * r))=((x.toNat / 2 ^ (2 * r):Nat):Int):=by
  rw[Int.fdiv_eq_ediv_of_nonneg _ (by exact Int.le_of_lt (Int.pow_pos (by decide)))]
  simp
 have h2:x.toNat / 2 ^ (2 * r) < 256:=Nat.lt_of_le_of_lt (Nat.div_le_self _ _) hx
 rw[h1,Nat.shiftRight_eq_div_pow]
 generalize x.toNat / 2 ^ (2 * r)=n at h2 ⊢
 have h3:((n:Int) % 2 ^ 8).toNat=n:=by
  have:(2:Int) ^ 8=256:=by decide
  rw[this];omega
 have h4:3 % 2 ^ 8=2 ^ 2 - 1:=by decide
 rw[h3,h4,Nat.and_two_pow_sub_one_eq_mod]
 have h5:IntKind.wrap .u8 ((n % 2 ^ 2:Nat):Int)=((n % 2 ^ 2:Nat):Int):=IntWalk.u8_in _ ⟨by omega,by omega⟩
 rw[h5,wrap_small (by omega) (by omega)]
theorem lendL_u8:∀ l:List UInt8,lendL (l.map fun b=>u8 (b.toNat:Int))=l.map fun b=>u8 (b.toNat:Int)
 | []=>rfl
 | x :: l=>by simp only[List.map_cons,lendL,lend,lendL_u8 l]
theorem noImmL_u8:∀ l:List UInt8,noImmL (l.map fun b=>u8 (b.toNat:Int))=true
 | []=>rfl
 | x :: l=>by simp only[List.map_cons,noImmL,noImm,noImmL_u8 l,Bool.and_self]
theorem lendL_t (n:Nat)(l:List UInt8):lendL (List.take n (l.map fun b=>u8 (b.toNat:Int)))=List.take n (l.map fun b=>u8 (b.toNat:Int)):=by
 rw[← List.map_take];exact lendL_u8 _
theorem lendL_td (n k:Nat)(l:List UInt8):lendL (List.take n (List.drop k (l.map fun b=>u8 (b.toNat:Int))))=List.take n (List.drop k (l.map fun b=>u8 (b.toNat:Int))):=by
 rw[← List.map_drop,← List.map_take];exact lendL_u8 _
theorem concat2 (x y:List UInt8)(hx:x.length=24)(hy:y.length=24):FnC Try.prog 110 [] [.sl false () 1 2 [.sl false () 1 12 (List.take 12 (x.map fun b=>u8 (b.toNat:Int))),.sl false () 1 12 (List.take 12 (List.drop 12 (y.map fun b=>u8 (b.toNat:Int))))]] [] (sU true (x.take 12 ++ y.drop 12)):=by
 have h1:(x.take 12).length=12:=by simp[hx]
 have h2:(y.drop 12).length=12:=by simp[hy]
 have:=concat_fn [x.take 12,y.drop 12] (by simp only[List.flatten_cons,List.flatten_nil,List.length_append];omega) (by simp[hx,hy]) (by simp)
 have e1:List.take 12 (x.map fun b=>u8 (b.toNat:Int))=(x.take 12).map fun b=>u8 (b.toNat:Int):=by rw[List.map_take]
 have e2:List.take 12 (List.drop 12 (y.map fun b=>u8 (b.toNat:Int)))=(y.drop 12).map fun b=>u8 (b.toNat:Int):=by rw[List.take_of_length_le (by simp[hy]),List.map_drop]
 rw[e1,e2]
 have e3:[x.take 12,y.drop 12].flatten=x.take 12 ++ y.drop 12:=by simp
 rw[e3] at this
 have e4:[x.take 12,y.drop 12].map (sU false)=[.sl false () 1 12 ((x.take 12).map fun b=>u8 (b.toNat:Int)),.sl false () 1 12 ((y.drop 12).map fun b=>u8 (b.toNat:Int))]:=by
  simp only[List.map_cons,List.map_nil,sU,h1,h2]
 rw[e4] at this
 exact this
def CrT (d:Dk)(bits:List UInt8)(ws:List Int)(i m:Nat)(P:List (List UInt8))(c:Nat):SL :=
 [(0,0,.bptr 0 1 0),(1,0,sP true P),(2,0,.mp true () (flatM (mW d.W))),(3,0,i64 d.A),(4,0,i64 d.F),(5,0,bl true),(99,1,.non),(100,0,sU false bits),(500,0,i64 i),(700,0,i64 m),(800,0,i64 c),(2200,0,sI true ws),(2300,0,i64 ws.length),(2400,0,i64 i),(1000000,0,.bptr 0 1 0)]
set_option maxHeartbeats 4000000 in
theorem crash_fn (d:Dk)(ok:d.Ok)(hD:d.D=false)(bits:List UInt8)(hb:bits.length≤1000):FnC Try.prog 58 [nodD d] [.ptr 1000000 0 [] 0,sU false bits] [nodD (crashF d bits).1] (bl (crashF d bits).2):=by
 have hwt:=waits_fn { d with D:=true } ⟨ok.n,ok.s,ok.t,ok.u,ok.k,ok.a,ok.f⟩
 refine FnC.go ok58 rfl ?_
 refine WL.sreg (by simp;rfl) (by simp;rfl) ?_
 refine WL.scope (WL.seq (WL.sreg (by simp;rfl) (by simp;rfl) ?_))
 refine WL.cond (t:=false) (by simp[hD]) (by simp) (fun _=>WL.skip ?_)
 refine WL.sreg (by simp;rfl) (by simp;rfl) ?_
 refine WL.sreg (by simp;rfl) (by simp;rfl) ?_
 refine WL.seq (WL.label ?_)
 refine WL.seq (WL.sregC (RL.o (by simp;rfl) (RL.callK false [(1000000,[])] hwt (by simp) (by simp) (by simp[gkey]) (by simp) (by simp) (RL.o (by simp;rfl) (RL.nil ⟨_,by simp;rfl,?_⟩)))))
 have hwd:waitsF { d with D:=true }=waitsF d:=rfl
 rw[hwd]
 generalize hws:waitsF d=ws
 refine WL.lower 10000 0 (by simp;rfl) (by simp) ?_
 refine WL.fin [] (by simp;rfl) ?_
 refine WL.block (WL.loop (ι:=CrI d bits ws) (fun x=>CrS d bits ws x.i x.P) (fun x=>ws.length - x.i) ⟨0,d.P,Nat.zero_le _,rfl,ok.s,by rw[List.drop_zero]⟩ ?_ fun x=>?_)
 ·simp[CrS]
 obtain⟨i,P,hi,hn,hs,he⟩:=x
 simp only[CrS]
 have hwl:ws.length≤48:=by
  rw[← hws,waitsF_len]
  have:=nodup_bound ok.u fun x hx=>by
   obtain⟨e,he,rfl⟩:=List.mem_map.1 hx
   exact ok.k e he
  rw[List.length_map] at this
  have:=ok.n
  omega
 by_cases h:i < ws.length
 ·have h':(i:Int) < ws.length:=by omega
  have hm1:i+1≤ws.length:=h
  have hmem:ws[i] ∈ d.W.map (·.1):=by
   have:ws[i] ∈ waitsF d:=by simp only[hws];exact List.getElem_mem h
   rw[waitsF,sortZ] at this
   exact (List.mergeSort_perm _ _).mem_iff.1 this
  obtain⟨e,hew,hep⟩:=List.mem_map.1 hmem
  have hek:=ok.k e hew
  obtain⟨b,hwg⟩:∃ b,wget d.W ws[i]=some b:=by
   have:(d.W.find? (·.1 == ws[i])).isSome=true:=List.find?_isSome.2 ⟨e,hew,by simp[hep]⟩
   obtain⟨y,hy⟩:=Option.isSome_iff_exists.1 this
   exact⟨y.2,by simp[wget,hy]⟩
  have hbl:=wget_ok ok hwg
  obtain⟨m,hm⟩:∃ m:Nat,ws[i]=m:=⟨ws[i].toNat,by omega⟩
  have hmP:m < P.length:=by rw[hn];omega
  have hmP':(m:Int) < P.length:=by omega
  have hmP1:m+1≤P.length:=hmP
  have hdrop:ws.drop i=(m:Int) :: ws.drop (i+1):=by rw[List.drop_eq_getElem_cons h,hm]
  rw[hdrop] at he
  simp only[crashL,Int.toNat_natCast] at he
  rw[hm] at hwg
  rw[hwg,Option.getD_some,List.getD_eq_getElem?_getD,List.getElem?_eq_getElem hmP,Option.getD_some] at he
  refine WL.seq (WL.reg (RL.run (by simp[h'];rfl) ⟨_,by simp;rfl,?_⟩))
  refine WL.seq (WL.cond (t:=true) (by simp) (fun _=>WL.skip ?_) (by simp))
  refine WL.seq (WL.block ?_)
  refine WL.sreg (by simp[h,h',hm1,hm];rfl) (by simp;rfl) ?_
  refine WL.sreg (by simp;rfl) (by simp;rfl) ?_
  refine WL.join (CrT d bits ws i m P (bitsAt bits i)) ?_ ?_
  ·obtain⟨q,hqd⟩:∃ q,q=i / 4:=⟨_,rfl⟩
   obtain⟨r,hrd⟩:∃ r,r=i % 4:=⟨_,rfl⟩
   have hq:IntKind.wrap .i64 ((i:Int) / 4)=(q:Int):=by rw[wrap_small (by omega) (by omega)];omega
   have hr:Int.tmod (i:Int) 4=(r:Int):=by rw[Int.tmod_eq_emod_of_nonneg (by omega)];omega
   obtain⟨u,hud⟩:∃ u,u=2 * r:=⟨_,rfl⟩
   have hr2:IntKind.wrap .i64 (2 * (r:Int))=(u:Int):=by rw[wrap_small (by omega) (by omega)];omega
   have hr3:IntKind.wrap .u64 (u:Int)=(u:Int):=IntWalk.u64_in _ ⟨by omega,by omega⟩
   have hr4:¬ (u:Int) < 0:=by omega
   by_cases hq1:q < bits.length
   ·have hq2:(q:Int) < bits.length:=by omega
    have hq3:q+1≤bits.length:=hq1
    refine WL.sreg (by simp[hq,hq2];rfl) (by simp;rfl) ?_
    refine WL.cond (t:=true) (by simp) (fun _=>?_) (by simp)
    refine WL.reg (RL.run (by simp[hq,hq1,hq2,hq3,hr,hr2,hr3,hr4];rfl) ⟨_,by simp;rfl,?_⟩)
    refine⟨rfl,?_⟩
    have e9:bitsAt bits i=(bits[q].toNat >>> (2 * r)) % 4:=by
     rw[hqd] at hq1
     simp only[bitsAt,hq1,if_true,List.getD_eq_getElem?_getD,List.getElem?_eq_getElem hq1,Option.getD_some,hqd,hrd]
    have e10:=two_bits bits[q] r (by omega)
    rw[hud,e9,e10]
    simp[CrT]
   ·have hq2:¬ (q:Int) < bits.length:=by omega
    refine WL.sreg (by simp[hq,hq2];rfl) (by simp;rfl) ?_
    refine WL.cond (t:=false) (by simp) (by simp) (fun _=>WL.fin [32] (by simp;rfl) (WL.skip ?_))
    refine⟨rfl,?_⟩
    simp[CrT,bitsAt,← hqd,hq1]
  simp only[CrT]
  generalize hc:bitsAt bits i=c at he ⊢
  have hc4:c < 4:=by
   rw[← hc];unfold bitsAt;split
   ·exact Nat.mod_lt _ (by decide)
   ·decide
  have hwi:=wrap_succ (n:=ws.length) (by unfold Small;omega) h
  refine WL.sreg (by simp[hwi];rfl) (by simp;rfl) ?_
  have hD:mgetD (er (AV.sl false none 1 0 [])) (m:Int) (mW d.W)=sU false b:=by
   have:=wget_D (m:Int) d.W
   rw[hwg] at this
   exact this
  refine WL.sregC (RL.o (by simp;rfl) (RL.mlook (k:=2) (g:=0) (p:=[]) (own:=true) (key:=(m:Int)) (mW d.W) (.sl false none 1 0 []) Try.underlying145 Try.underlying3 Try.zeroValue40 rfl (by simp[Mem]) (by simp[CR]) (by decide) (by decide) (by decide) (by simp) (by simp) (by simp) (by simp) (by simp[noOwn]) ?_))
  rw[if_neg (by decide),hD]
  refine RL.o (by simp;rfl) (RL.nil ⟨_,by simp;rfl,?_⟩)
  refine WL.sreg (by simp;rfl) (by simp;rfl) ?_
  refine WL.block ?_
  have hPm:=hs P[m] (List.getElem_mem hmP)
  have hts:(tear c b P[m]).length=24:=by
   unfold tear
   split
   ·exact hPm
   ·split
    ·exact hbl
    ·split<;>simp [hPm,hbl]
  let xn:CrI d bits ws:=⟨i+1,P.set m (tear c b P[m]),h,by simp[hn],fun p hp=>by
   rcases List.mem_or_eq_of_mem_set hp with hp | rfl
   ·exact hs p hp
   ·exact hts,he⟩
  have hxn:ws.length - xn.i < ws.length - i:=by show ws.length - (i+1) < _;omega
  rcases (by omega:c=0∨c=1∨c=2∨c=3) with rfl | rfl | rfl | rfl
  ·refine WL.sreg (by simp;rfl) (by simp;rfl) ?_
   refine WL.cond (t:=true) (by simp) (fun _=>WL.exit ?_) (by simp)
   refine WL.reg (RL.run (by simp[hwi];rfl) ⟨_,by simp;rfl,?_⟩)
   refine⟨xn,?_,hxn⟩
   have:xn.P=P:=by show P.set m (tear 0 b P[m])=P;simp[tear]
   rw[this]
   show _=[_,_,_,_,_,_,_,_,(500,0,i64 ((i+1:Nat):Int)),_,_,(2400,0,i64 ((i+1:Nat):Int)),_]
   simp
  ·refine WL.sreg (by simp;rfl) (by simp;rfl) ?_
   refine WL.cond (t:=false) (by simp) (by simp) (fun _=>?_)
   refine WL.sreg (by simp;rfl) (by simp;rfl) ?_
   refine WL.cond (t:=true) (by simp) (fun _=>?_) (by simp)
   refine WL.reg (RL.run (by simp[hmP,hmP',hmP1];rfl) ⟨_,by simp;rfl,?_⟩)
   refine WL.reg (RL.run (by simp[hwi];rfl) ⟨_,by simp;rfl,?_⟩)
   refine⟨xn,?_,hxn⟩
   have:xn.P=P.set m b:=by show P.set m (tear 1 b P[m])=_;simp[tear]
   rw[this]
   show _=[_,_,_,_,_,_,_,_,(500,0,i64 ((i+1:Nat):Int)),_,_,(2400,0,i64 ((i+1:Nat):Int)),_]
   simp[List.map_set]
  ·refine WL.sreg (by simp;rfl) (by simp;rfl) ?_
   refine WL.cond (t:=false) (by simp) (by simp) (fun _=>?_)
   refine WL.sreg (by simp;rfl) (by simp;rfl) ?_
   refine WL.cond (t:=false) (by simp) (by simp) (fun _=>?_)
   refine WL.sreg (by simp;rfl) (by simp;rfl) ?_
   refine WL.cond (t:=true) (by simp) (fun _=>?_) (by simp)
   refine WL.draw mixed (by simp[cleanL,noH]) (DL.o (by simp[hmP,hmP',hmP1,hbl,hPm];exact⟨rfl,rfl⟩) ?_)
   obtain⟨z,hz⟩:∃ z,z=b.take 12 ++ P[m].drop 12:=⟨_,rfl⟩
   have hcc:=concat2 b P[m] hbl hPm
   rw[← hz] at hcc
   refine DL.callLF true [] hcc (by simp) (by simp) (by simp[lendL_t,lendL_td]) (by simp[noImmL_u8]) (by simp[cleanL,noH]) ?_
   refine DL.o (by simp[hmP,hmP',hmP1];exact⟨rfl,rfl⟩) (DL.nil ⟨by kernel_rfl,_,by simp;rfl,?_⟩)
   refine WL.reg (RL.run (by simp[hwi];rfl) ⟨_,by simp;rfl,?_⟩)
   refine⟨xn,?_,hxn⟩
   have:xn.P=P.set m z:=by show P.set m (tear 2 b P[m])=_;simp[tear,hz]
   rw[this]
   show _=[_,_,_,_,_,_,_,_,(500,0,i64 ((i+1:Nat):Int)),_,_,(2400,0,i64 ((i+1:Nat):Int)),_]
   simp[List.map_set]
  ·refine WL.sreg (by simp;rfl) (by simp;rfl) ?_
   refine WL.cond (t:=false) (by simp) (by simp) (fun _=>?_)
   refine WL.sreg (by simp;rfl) (by simp;rfl) ?_
   refine WL.cond (t:=false) (by simp) (by simp) (fun _=>?_)
   refine WL.sreg (by simp;rfl) (by simp;rfl) ?_
   refine WL.cond (t:=false) (by simp) (by simp) (fun _=>?_)
   refine WL.sreg (by simp;rfl) (by simp;rfl) ?_
   refine WL.cond (t:=true) (by simp) (fun _=>?_) (by simp)
   refine WL.draw mixed (by simp[cleanL,noH]) (DL.o (by simp[hmP,hmP',hmP1,hbl,hPm];exact⟨rfl,rfl⟩) ?_)
   obtain⟨z,hz⟩:∃ z,z=P[m].take 12 ++ b.drop 12:=⟨_,rfl⟩
   have hcc:=concat2 P[m] b hPm hbl
   rw[← hz] at hcc
   refine DL.callLF true [] hcc (by simp) (by simp) (by simp[lendL_t,lendL_td]) (by simp[noImmL_u8]) (by simp[cleanL,noH]) ?_
   refine DL.o (by simp[hmP,hmP',hmP1];exact⟨rfl,rfl⟩) (DL.nil ⟨by kernel_rfl,_,by simp;rfl,?_⟩)
   refine WL.reg (RL.run (by simp[hwi];rfl) ⟨_,by simp;rfl,?_⟩)
   refine⟨xn,?_,hxn⟩
   have:xn.P=P.set m z:=by show P.set m (tear 3 b P[m])=_;simp[tear,hz]
   rw[this]
   show _=[_,_,_,_,_,_,_,_,(500,0,i64 ((i+1:Nat):Int)),_,_,(2400,0,i64 ((i+1:Nat):Int)),_]
   simp[List.map_set]
 ·have h':¬ (i:Int) < ws.length:=by omega
  refine WL.seq (WL.reg (RL.run (by simp[h'];rfl) ⟨_,by simp;rfl,?_⟩))
  refine WL.seq (WL.cond (t:=false) (by simp) (by simp) (fun _=>WL.exit ?_))
  have:i=ws.length:=by omega
  subst this
  rw[List.drop_length] at he
  have hcr:crashF d bits=({ d with P:=P,W:=[],D:=true },true):=by
   unfold crashF
   rw[if_neg (by simp[hD]),hws,← he]
   rfl
  rw[hcr]
  simp
  refine WL.seq (WL.reg (RL.o (by simp;rfl) (RL.mclr (k:=2) (g:=0) (p:=[]) (mW d.W) Try.underlying145 (by decide) (by simp) (by simp) (by simp) (by simp) (RL.nil ⟨_,by simp;rfl,?_⟩))))
  refine WL.lift 10000 0 5 (by simp) (by simp;rfl) (by simp) ?_
  refine WL.sreg (by simp;rfl) (by simp;rfl) (WL.ret ⟨.inr rfl,?_⟩)
  simp[fi58,flatM]
end Go.OT
namespace Go.OT
open Go.Proofs
def tT:List UInt8:=List.replicate 23 0
def T0 (z t:List UInt8):Dk:=⟨[z,z],[],0,0,false⟩
def T1 (z t:List UInt8):Dk:=⟨[z,z],[],1,0,false⟩
def T2 (z t:List UInt8):Dk:=⟨[z,z],[(1,7 :: t)],2,0,false⟩
def T3 (z t:List UInt8):Dk:=⟨[z,z],[(1,7 :: t)],2,1,false⟩
def T4 (z t:List UInt8):Dk:=⟨[z,z],[(1,7 :: t)],3,0,false⟩
def T5 (z t:List UInt8):Dk:=⟨[z,7 :: t],[],4,0,false⟩
def T6 (z t:List UInt8):Dk:=⟨[z,7 :: t],[],4,0,true⟩
theorem okT (z t:List UInt8)(hz:z.length=24)(ht:t.length=23)(W:Bool)(P:Bool)(A F:Int)(D:Bool)(ha:0≤A∧A≤4)(hf:0≤F∧F≤1):(⟨[z,if P then 7 :: t else z],if W then [(1,7 :: t)] else [],A,F,D⟩:Dk).Ok:=by
 refine⟨by simp,?_,?_,?_,?_,by simp only;omega,by simp only;omega⟩
 ·intro p hp
  simp only[List.mem_cons,List.not_mem_nil,or_false] at hp
  rcases hp with rfl | rfl
  ·exact hz
  ·split
   ·simp[ht]
   ·exact hz
 ·cases W<;>simp [ht]
 ·cases W<;>simp
 ·cases W<;>simp
set_option maxHeartbeats 8000000 in
theorem told_fn:FnC Try.prog 48 [] [] [] (bl true):=by
 have hz:zeros24.length=24:=by simp
 have hnew:=new_fn 2 (by decide) (by decide)
 have hnil:=new_bad 0 (.inl (by decide))
 have ht:tT.length=23:=by simp[tT]
 have hbT:(7 :: tT:List UInt8).length=24:=by simp[ht]
 have hT0:newD 2=T0 zeros24 tT:=rfl
 rw[hT0] at hnew
 have c1:readF (T0 zeros24 tT) 0=(T1 zeros24 tT,zeros24,0):=rfl
 have c2:writeF (T1 zeros24 tT) 1 (7 :: tT)=(T2 zeros24 tT,0):=rfl
 have c3:failF (T2 zeros24 tT) 1=(T3 zeros24 tT,true):=rfl
 have c4:syncF (T3 zeros24 tT)=(T4 zeros24 tT,9):=rfl
 have c5:syncF (T4 zeros24 tT)=(T5 zeros24 tT,0):=rfl
 have c6:crashF (T5 zeros24 tT) []=(T6 zeros24 tT,true):=by
  simp[crashF,T5,T6,waitsF,sortZ,crashL]
 have c7:syncF (T6 zeros24 tT)=(T6 zeros24 tT,12):=rfl
 have w2:waitsF (T2 zeros24 tT)=[1]:=by simp[waitsF,T2,sortZ]
 have hrep:List.take 24 (repL [AV.sc (Value.int IntKind.u8 0)] 24)=(u8 0:AU) :: tT.map fun b=>u8 (b.toNat:Int):=rfl
 generalize zeros24=z at *
 generalize tT=t at *
 have o0:(T0 z t).Ok:=okT z t hz ht false false 0 0 false (by decide) (by decide)
 have o1:(T1 z t).Ok:=okT z t hz ht false false 1 0 false (by decide) (by decide)
 have o2:(T2 z t).Ok:=okT z t hz ht true false 2 0 false (by decide) (by decide)
 have o3:(T3 z t).Ok:=okT z t hz ht true false 2 1 false (by decide) (by decide)
 have o4:(T4 z t).Ok:=okT z t hz ht true false 3 0 false (by decide) (by decide)
 have o5:(T5 z t).Ok:=okT z t hz ht false true 4 0 false (by decide) (by decide)
 have o6:(T6 z t).Ok:=okT z t hz ht false true 4 0 true (by decide) (by decide)
 have f1:=read_fn (T0 z t) o0 0
 rw[c1] at f1
 have f2:=write_fn (T1 z t) o1 1 (7 :: t) (by unfold Small;omega)
 rw[c2] at f2
 have f3:=waits_fn (T2 z t) o2
 rw[w2] at f3
 have f4:=fail_fn (T2 z t) 1
 rw[c3] at f4
 have f5:=sync_fn (T3 z t) o3
 rw[c4] at f5
 have f6:=sync_fn (T4 z t) o4
 rw[c5] at f6
 have f7:=crash_fn (T5 z t) o5 rfl [] (by simp)
 rw[c6] at f7
 have f8:=sync_fn (T6 z t) o6
 rw[c7] at f8
 have f9:=durable_fn (T6 z t) o6
 have f10:=crash_down (T6 z t) rfl []
 have f11:=accesses_fn (T6 z t)
 refine FnC.go ok48 rfl ?_
 refine WL.sreg (by simp;rfl) (by simp;rfl) ?_
 refine WL.sregC (RL.call0 false hnew (by simp) (by simp) (RL.o (by simp;rfl) (RL.nil ⟨_,by simp;rfl,?_⟩)))
 refine WL.sreg (by simp[hrep];rfl) (by simp;rfl) ?_
 refine WL.sreg (by simp;rfl) (by simp;rfl) ?_
 have hb7:(AV.sc (Value.int IntKind.u8 7):AU)=u8 (((7:UInt8).toNat:Nat):Int):=rfl
 refine WL.freeze 200 (WL.eqL (L':=[(100,0,.bx true () (celD (T0 z t))),(200,0,sU false (7 :: t))]) ?_ ?_)
 ·simp[frzL,lendL_u8,ht,hb7]
 refine WL.seq (WL.sreg (by simp;rfl) (by simp;rfl) (WL.cond (t:=false) (by simp) (by simp) (fun _=>WL.skip ?_)))
 refine WL.sregC (RL.o (by simp;rfl) (RL.call false [(100,[])] f1 (by simp) (by simp) (by simp[gkey]) (by simp) (RL.freeze 2200 (RL.o (by simp[lendL_u8];rfl) (RL.nil ⟨_,by simp;rfl,?_⟩)))))
 refine WL.sregC (RL.o (by simp;rfl) (RL.call false [(100,[])] f2 (by simp) (by simp) (by simp[gkey]) (by simp) (RL.o (by simp;rfl) (RL.nil ⟨_,by simp;rfl,?_⟩))))
 refine WL.sregC (RL.o (by simp;rfl) (RL.call false [(100,[])] f3 (by simp) (by simp) (by simp[gkey]) (by simp) (RL.o (by simp;rfl) (RL.nil ⟨_,by simp;rfl,?_⟩))))
 refine WL.sregC (RL.o (by simp;rfl) (RL.call false [(100,[])] f4 (by simp) (by simp) (by simp[gkey]) (by simp) (RL.o (by simp;rfl) (RL.nil ⟨_,by simp;rfl,?_⟩))))
 refine WL.sregC (RL.o (by simp;rfl) (RL.call false [(100,[])] f5 (by simp) (by simp) (by simp[gkey]) (by simp) (RL.o (by simp;rfl) (RL.nil ⟨_,by simp;rfl,?_⟩))))
 refine WL.sregC (RL.o (by simp;rfl) (RL.call false [(100,[])] f6 (by simp) (by simp) (by simp[gkey]) (by simp) (RL.o (by simp;rfl) (RL.nil ⟨_,by simp;rfl,?_⟩))))
 refine WL.sregC (RL.o (by simp;rfl) (RL.call false [(100,[])] f7 (by simp) (by simp) (by simp[gkey]) (by simp) (RL.o (by simp;rfl) (RL.nil ⟨_,by simp;rfl,?_⟩))))
 refine WL.sregC (RL.o (by simp;rfl) (RL.call false [(100,[])] f8 (by simp) (by simp) (by simp[gkey]) (by simp) (RL.o (by simp;rfl) (RL.nil ⟨_,by simp;rfl,?_⟩))))
 refine WL.sregC (RL.o (by simp;rfl) (RL.call false [(100,[])] f9 (by simp) (by simp) (by simp[gkey]) (by simp) (RL.o (by simp;rfl) (RL.nil ⟨_,by simp;rfl,?_⟩))))
 refine WL.sreg (by simp;rfl) (by simp;rfl) ?_
 have hP6:(T6 z t).P=[z,7 :: t]:=rfl
 have hA6:(T6 z t).A=4:=rfl
 rw[hA6] at f11
 have g1:=sync_nil
 have g2:=fail_nil 1
 rw[hP6]
 refine WL.sregC ?_
 iterate 8
  refine RL.o (by simp[hz];rfl) ?_
  refine RL.g (by simp;rfl) ?_
 refine RL.o (by simp;rfl) (RL.g (by simp;rfl) ?_)
 refine RL.callY false [(100,[])] (by simp[gv]) f10 (by simp) (by simp) (by simp[gkey]) (by simp) ?_
 refine RL.g (by simp;rfl) ?_
 iterate 4
  refine RL.o (by simp;rfl) ?_
  refine RL.g (by simp;rfl) ?_
 refine RL.callY false [(100,[])] (by simp[gv]) f11 (by simp) (by simp) (by simp[gkey]) (by simp) ?_
 refine RL.g (by simp;rfl) (RL.o (by simp;rfl) ?_)
 refine RL.callY0 false (by simp[gv]) hnil (by simp) (by simp) ?_
 refine RL.g (by simp;rfl) (RL.o (by simp;rfl) (RL.g (by simp;rfl) ?_))
 refine RL.callY0 false (by simp[gv]) g1 (by simp) (by simp) ?_
 refine RL.g (by simp;rfl) (RL.o (by simp;rfl) (RL.g (by simp;rfl) ?_))
 refine RL.callY0 false (by simp[gv]) g2 (by simp) (by simp) ?_
 refine RL.g (by simp;rfl) (RL.o (by simp;rfl) (RL.nil ⟨_,by simp;rfl,WL.ret ⟨.inr rfl,?_⟩⟩))
 simp[fi48]
end Go.OT
namespace Go.OT
open Go.Proofs
theorem dopC_drop:∀ (l:List Dop) (i:Nat) (h:i < l.length),List.drop (i * 5) (l.flatMap dopC)=i64 l[i].K :: i64 l[i].P :: i64 l[i].N :: u8 (l[i].C.toNat:Int) :: sU false l[i].B :: List.drop ((i+1) * 5) (l.flatMap dopC)
 | [],i,h=>by simp at h
 | q :: l,0,h=>by simp[dopC]
 | q :: l,i+1,h=>by
  have:=dopC_drop l i (by simpa using h)
  simp only[List.flatMap_cons,dopC,List.cons_append,List.nil_append]
  have e1:(i+1) * 5=i * 5+1+1+1+1+1:=by omega
  have e2:(i+1+1) * 5=(i+1) * 5+1+1+1+1+1:=by omega
  rw[e2,e1]
  simp only[List.drop_succ_cons,List.getElem_cons_succ]
  rw[show (i+1) * 5=i * 5+5 by omega] at this
  exact this
theorem wget_wput (p q:Int)(b:List UInt8):∀ W:List (Int × List UInt8),wget (wput p b W) q=if q=p then some b else wget W q
 | []=>by
  simp only[wput,wget,List.find?_cons,List.find?_nil]
  by_cases h:q=p
  ·subst h;simp
  ·have:(p == q)=false:=by simp;omega
   simp[this,h]
 | (a,v) :: W=>by
  have ih:=wget_wput p q b W
  simp only[wput]
  by_cases h:a=p
  ·subst h
   rw[if_pos rfl]
   by_cases h2:q=a
   ·subst h2;simp[wget]
   ·have:(a == q)=false:=by simp;omega
    simp[wget,List.find?_cons,this,h2]
  ·rw[if_neg h]
   by_cases h2:a=q
   ·subst h2;simp[wget,h]
   ·have e:(a == q)=false:=by simpa using h2
    simp only[wget,List.find?_cons,e] at ih ⊢
    exact ih
theorem wget_none {W:List (Int × List UInt8)}{q:Int}(h:q ∉ W.map (·.1)):wget W q=none:=by
 simp only[wget,Option.map_eq_none_iff,List.find?_eq_none]
 intro e he hq
 exact h (List.mem_map.2 ⟨e,he,by simpa using hq⟩)
theorem putAll_get:∀ (W:List (Int × List UInt8)) (P:List (List UInt8)) (q:Nat),(W.map (·.1)).Nodup→(∀ e ∈ W,0≤e.1)→q < P.length→(putAll W P).getD q []=(wget W q).getD (P.getD q [])
 | [],P,q,_,_,_=>rfl
 | e :: W,P,q,hn,h0,hq=>by
  simp only[List.map_cons,List.nodup_cons] at hn
  have ih:=putAll_get W (P.set e.1.toNat e.2) q hn.2 (fun x hx=>h0 x (by simp[hx])) (by simpa using hq)
  have he:=h0 e (by simp)
  have e0:putAll (e :: W) P=putAll W (P.set e.1.toNat e.2):=rfl
  rw[e0,ih]
  by_cases h:e.1=(q:Int)
  ·have hw:wget W (q:Int)=none:=wget_none (by rw[← h];exact hn.1)
   have h2:e.1.toNat=q:=by omega
   rw[hw,h2]
   simp[wget,h,List.getD_eq_getElem?_getD,hq]
  ·have h2:e.1.toNat ≠ q:=by omega
   have hb:(e.1 == (q:Int))=false:=by simpa using h
   have e3:wget (e :: W) (q:Int)=wget W (q:Int):=by simp only[wget,List.find?_cons,hb]
   rw[e3]
   simp[List.getD_eq_getElem?_getD,List.getElem?_set_ne h2]
structure Rdv (d:Dk) (w:List UInt8) (a:Int):Prop where
 ok:d.Ok
 down:d.D=false
 f:d.F=0
 a:d.A≤a
 n:d.P.length=w.length
 c:∀ q (h:q < w.length),(wget d.W q).getD (d.P.getD q [])=List.replicate 24 w[q]
theorem accR {d:Dk}{w:List UInt8}{a:Int}(h:Rdv d w a):accF d=({ d with A:=d.A+1 },0):=by
 have h1:=h.down
 have h2:=h.f
 simp[accF,h1,h2]
theorem Rdv.acc {d:Dk}{w:List UInt8}{a:Int}(h:Rdv d w a)(ha:a < 1000000000):Rdv { d with A:=d.A+1 } w (a+1):=by
 have h1:=h.ok
 have h2:=h.a
 have h3:=h1.a
 exact⟨⟨h1.n,h1.s,h1.t,h1.u,h1.k,by simp only;omega,h1.f⟩,h.down,h.f,by simp only;omega,h.n,h.c⟩
theorem Rdv.write {d:Dk}{w:List UInt8}{a:Int}(h:Rdv d w a)(ha:a < 1000000000)(q:Nat)(hq:q < w.length)(c:UInt8):Rdv { d with A:=d.A+1,W:=wput q (List.replicate 24 c) d.W } (w.set q c) (a+1):=by
 have h1:=h.ok
 have h2:=h.a
 have h3:=h1.a
 have hn:=h.n
 refine⟨⟨h1.n,h1.s,fun e he=>?_,wput_nd h1.u,fun e he=>?_,by simp only;omega,h1.f⟩,h.down,h.f,by simp only;omega,by simp[hn],fun q' hq'=>?_⟩
 ·rcases wput_mem he with rfl | he
  ·simp
  ·exact h1.t e he
 ·rcases wput_mem he with rfl | he
  ·simp only;omega
  ·exact h1.k e he
 ·simp only[wget_wput,List.length_set] at hq' ⊢
  by_cases e:q'=q
  ·subst e;simp
  ·rw[if_neg (by omega),List.getElem_set_ne (by omega)]
   exact h.c q' hq'
theorem syncR {d:Dk}{w:List UInt8}{a:Int}(h:Rdv d w a):syncF d=({ d with A:=d.A+1,P:=putAll d.W d.P,W:=[] },0):=by
 unfold syncF
 rw[accR h,if_neg (by simp)]
theorem Rdv.sync {d:Dk}{w:List UInt8}{a:Int}(h:Rdv d w a)(ha:a < 1000000000):Rdv { d with A:=d.A+1,P:=putAll d.W d.P,W:=[] } w (a+1):=by
 have h1:=h.ok
 have h2:=h.a
 have h3:=h1.a
 have h4:=syncF_ok h1 (by omega)
 rw[syncR h] at h4
 refine⟨h4,h.down,h.f,by simp only;omega,by simp only[putAll_len];exact h.n,fun q hq=>?_⟩
 have:=h.c q hq
 rw[← putAll_get d.W d.P q h1.u (fun e he=>(h1.k e he).1) (by rw[h.n];exact hq)] at this
 exact this
theorem Rdv.new (n:Nat)(h1:1≤n)(h2:n≤48):Rdv (newD n) (List.replicate n 0) 0:=by
 refine⟨⟨by simpa [newD] using h2,fun p hp=>?_,by simp[newD],by simp[newD],by simp[newD],by simp[newD],by simp[newD]⟩,rfl,rfl,by simp[newD],by simp[newD],fun q hq=>?_⟩
 ·simp only[newD,List.mem_replicate] at hp
  rw[hp.2];simp
 ·simp only[List.length_replicate] at hq
  simp only[newD,wget,List.find?_nil,Option.map_none,Option.getD_none,List.getElem_replicate]
  rw[List.getD_eq_getElem?_getD,List.getElem?_replicate,if_pos hq]
  rfl
end Go.OT
namespace Go.OT
open Go.Proofs
abbrev st (s:ByteArray):AU:=.sc (.string s)
abbrev sS (o:Bool)(l:List ByteArray):AU:=.sl o () 1 l.length (l.map st)
abbrev sB (o:Bool)(l:List Bool):AU:=.sl o () 1 l.length (l.map bl)
structure Rk where
 P:List ByteArray
 Q:List ByteArray
 W:List Bool
 A:Int
 F:Int
 D:Bool
abbrev celR (r:Rk):List AU:=[sS true r.P,sS true r.Q,sB true r.W,i64 r.A,i64 r.F,bl r.D]
abbrev nodR (r:Rk):Gh Unit:=.nod (.bx true () (celR r))
structure Rk.Ok (r:Rk):Prop where
 n:r.P.length≤48
 q:r.Q.length=r.P.length
 w:r.W.length=r.P.length
 sp:∀ p ∈ r.P,p.size=24
 sq:∀ p ∈ r.Q,p.size=24
 a:0≤r.A∧r.A≤1000000000
 f:0≤r.F∧r.F≤1000000
theorem u8L_bytes':∀ l:List UInt8,u8L (l.map fun b=>u8 (b.toNat:Int))=some (l.map fun b=>(b.toNat:Int))
 | []=>rfl
 | x :: l=>by simp only[List.map_cons,u8L,u8L_bytes' l];rfl
theorem b2s_go:∀ (l:List UInt8) (r:ByteArray),(((l.map fun b=>(b.toNat:Int)).foldl (fun r n=>r.push (UInt8.ofNat n.toNat)) r).data.toList=r.data.toList ++ l)
 | [],r=>by simp
 | b :: l,r=>by
  simp only[List.map_cons,List.foldl_cons]
  rw[b2s_go l]
  simp[ByteArray.push]
def ofL (l:List UInt8):ByteArray:=b2s (l.map fun b=>(b.toNat:Int))
theorem ofL_list (l:List UInt8):(ofL l).data.toList=l:=by
 unfold ofL b2s
 rw[b2s_go]
 rfl
theorem ofL_size (l:List UInt8):(ofL l).size=l.length:=by
 have:=congrArg List.length (ofL_list l)
 simpa using this
set_option maxHeartbeats 4000000 in
theorem rblank_fn:FnC Try.prog 74 [] [] [] (st (ofL zeros24)):=by
 refine FnC.go ok74 rfl ?_
 refine WL.sreg (by simp;rfl) (by simp;rfl) ?_
 refine WL.sreg (by simp[repL,u8L];rfl) (by simp;rfl) (WL.ret ⟨.inr rfl,?_⟩)
 simp[fi74,ofL]
def raccF (r:Rk):Rk × Bool :=
 if 0 < r.F then ({ r with A:=r.A+1,F:=r.F - 1 },decide (0 < r.F - 1)) else ({ r with A:=r.A+1 },true)
set_option maxHeartbeats 4000000 in
theorem raccess_fn (r:Rk)(ok:r.Ok):FnC Try.prog 109 [nodR r] [.ptr 1000000 0 [] 0] [nodR (raccF r).1] (bl (raccF r).2):=by
 have ha:=ok.a
 have hf:=ok.f
 have w1:IntKind.wrap .i64 (r.A+1)=r.A+1:=wrap_small (by omega) (by omega)
 have w2:IntKind.wrap .i64 (r.F - 1)=r.F - 1:=wrap_small (by omega) (by omega)
 refine FnC.go ok109 rfl ?_
 refine WL.sreg (by simp;rfl) (by simp;rfl) ?_
 refine WL.sreg (by simp[w1];rfl) (by simp;rfl) ?_
 refine WL.seq (WL.seq (WL.reg (RL.run (by simp;rfl) ⟨_,by simp;rfl,?_⟩)))
 by_cases hF:0 < r.F
 ·refine WL.cond (t:=true) (by simp[hF]) (fun _=>?_) (by simp)
  refine WL.sreg (by simp[w2];rfl) (by simp;rfl) ?_
  refine WL.sreg (by simp;rfl) (by simp;rfl) (WL.ret ⟨.inr rfl,?_⟩)
  simp[fi109,raccF,hF]
 ·refine WL.cond (t:=false) (by simp[hF]) (by simp) (fun _=>WL.skip ?_)
  refine WL.sreg (by simp;rfl) (by simp;rfl) (WL.ret ⟨.inr rfl,?_⟩)
  simp[fi109,raccF,hF]
def rfailF (r:Rk)(n:Int):Rk × Bool:=if n < 0∨1000000 < n then (r,false) else ({ r with F:=n },true)
set_option maxHeartbeats 4000000 in
theorem rfail_fn (d:Rk)(n:Int):FnC Try.prog 57 [nodR d] [.ptr 1000000 0 [] 0,i64 n] [nodR (rfailF d n).1] (bl (rfailF d n).2):=by
 refine FnC.go ok57 rfl ?_
 refine WL.sreg (by simp;rfl) (by simp;rfl) ?_
 by_cases h1:n < 0
 ·refine WL.seq (WL.sreg (by simp[h1];rfl) (by simp;rfl) ?_)
  refine WL.cond (t:=true) (by simp[h1]) (fun _=>?_) (by simp)
  refine WL.sreg (by simp;rfl) (by simp;rfl) (WL.ret ⟨.inr rfl,?_⟩)
  simp[fi57,rfailF,h1]
 ·by_cases h2:1000000 < n
  ·refine WL.seq (WL.sreg (by simp[h1,h2];rfl) (by simp;rfl) ?_)
   refine WL.cond (t:=true) (by simp[h1,h2]) (fun _=>?_) (by simp)
   refine WL.sreg (by simp;rfl) (by simp;rfl) (WL.ret ⟨.inr rfl,?_⟩)
   simp[fi57,rfailF,h1,h2]
  ·refine WL.seq (WL.sreg (by simp[h1,h2];rfl) (by simp;rfl) ?_)
   refine WL.cond (t:=false) (by simp[h1,h2]) (by simp) (fun _=>WL.skip ?_)
   refine WL.sreg (by simp;rfl) (by simp;rfl) ?_
   refine WL.sreg (by simp;rfl) (by simp;rfl) (WL.ret ⟨.inr rfl,?_⟩)
   simp[fi57,rfailF,h1,h2]
def rreadF (r:Rk)(p:Int):Rk × ByteArray × Int :=
 if ¬ (0≤p∧p < r.P.length) then (r,ByteArray.mk #[],1) else
 if r.D=true then (r,ByteArray.mk #[],12) else
 if (raccF r).2=false then ((raccF r).1,ByteArray.mk #[],9) else ((raccF r).1,r.Q.getD p.toNat (ByteArray.mk #[]),0)
theorem raccF_Q (r:Rk):(raccF r).1.Q=r.Q∧(raccF r).1.P=r.P∧(raccF r).1.W=r.W∧(raccF r).1.D=r.D:=by unfold raccF;split<;>exact ⟨rfl,rfl,rfl,rfl⟩
set_option maxHeartbeats 4000000 in
theorem rread_fn (r:Rk)(ok:r.Ok)(p:Int):FnC Try.prog 50 [nodR r] [.ptr 1000000 0 [] 0,i64 p] [nodR (rreadF r p).1] (.tuple [st (rreadF r p).2.1,i64 (rreadF r p).2.2]):=by
 refine FnC.go ok50 rfl ?_
 refine WL.sreg (by simp;rfl) (by simp;rfl) ?_
 refine WL.seq (WL.block ?_)
 by_cases hh:0≤p∧p < r.P.length
 ·have g1:¬ p < 0:=by omega
  have g2:¬ (r.P.length:Int)≤p:=by omega
  refine WL.sreg (by simp[g1,g2];rfl) (by simp;rfl) ?_
  refine WL.cond (t:=false) (by simp[g2]) (by simp) (fun _=>?_)
  refine WL.sreg (by simp;rfl) (by simp;rfl) ?_
  by_cases hD:r.D=true
  ·refine WL.cond (t:=true) (by simp[hD]) (fun _=>?_) (by simp)
   refine WL.sreg (by simp;rfl) (by simp;rfl) (WL.ret ⟨.inr rfl,?_⟩)
   simp[fi50,rreadF,hh,hD]
  ·have hD':r.D=false:=by simpa using hD
   refine WL.cond (t:=false) (by simp[hD']) (by simp) (fun _=>?_)
   refine WL.sregC (RL.o (by simp;rfl) (RL.callK false [(1000000,[])] (raccess_fn r ok) (by simp) (by simp) (by simp[gkey]) (by simp) (by simp) (RL.o (by simp;rfl) (RL.nil ⟨_,by simp;rfl,?_⟩))))
   by_cases hA:(raccF r).2=false
   ·refine WL.cond (t:=true) (by simp[hA]) (fun _=>?_) (by simp)
    refine WL.sreg (by simp;rfl) (by simp;rfl) (WL.ret ⟨.inr rfl,?_⟩)
    simp[fi50,rreadF,hh,hD',hA]
   ·have hA':(raccF r).2=true:=by simpa using hA
    refine WL.cond (t:=false) (by simp[hA']) (by simp) (fun _=>WL.skip ?_)
    obtain⟨q1,q2,q3,q4⟩:=raccF_Q r
    have hr:rreadF r p=((raccF r).1,(raccF r).1.Q.getD p.toNat (ByteArray.mk #[]),0):=by
     unfold rreadF;rw[if_neg (by simp[hh]),if_neg hD,if_neg hA,q1]
    rw[hr]
    obtain⟨m,rfl⟩:∃ m:Nat,p=m:=⟨p.toNat,by omega⟩
    have hm:m < (raccF r).1.Q.length:=by rw[q1,ok.q];omega
    generalize (raccF r).1=r1 at hm ⊢
    have hm':(m:Int) < r1.Q.length:=by omega
    have hm1:m+1≤r1.Q.length:=hm
    refine WL.sreg (by simp[hm,hm',hm1];rfl) (by simp;rfl) (WL.ret ⟨.inr rfl,?_⟩)
    simp[fi50,hm,List.getD_eq_getElem?_getD]
 ·have hr:rreadF r p=(r,ByteArray.mk #[],1):=by unfold rreadF;rw[if_pos hh]
  rw[hr]
  by_cases g1:p < 0
  ·refine WL.sreg (by simp[g1];rfl) (by simp;rfl) ?_
   refine WL.cond (t:=true) (by simp) (fun _=>?_) (by simp)
   refine WL.sreg (by simp;rfl) (by simp;rfl) (WL.ret ⟨.inr rfl,?_⟩)
   simp[fi50]
  ·have g2:(r.P.length:Int)≤p:=by omega
   refine WL.sreg (by simp[g1,g2];rfl) (by simp;rfl) ?_
   refine WL.cond (t:=true) (by simp[g2]) (fun _=>?_) (by simp)
   refine WL.sreg (by simp;rfl) (by simp;rfl) (WL.ret ⟨.inr rfl,?_⟩)
   simp[fi50]
end Go.OT
namespace Go.OT
open Go.Proofs
def rwriteF (r:Rk)(p:Int)(s:ByteArray):Rk × Int :=
 if ¬ (0≤p∧p < r.P.length)∨s.size ≠ 24 then (r,1) else
 if r.D=true then (r,12) else
 if (raccF r).2=false then ((raccF r).1,9) else ({ (raccF r).1 with Q:=r.Q.set p.toNat s,W:=r.W.set p.toNat true },0)
set_option maxHeartbeats 4000000 in
theorem rwrite_fn (r:Rk)(ok:r.Ok)(p:Int)(s:ByteArray):FnC Try.prog 53 [nodR r] [.ptr 1000000 0 [] 0,i64 p,st s] [nodR (rwriteF r p s).1] (i64 (rwriteF r p s).2):=by
 refine FnC.go ok53 rfl ?_
 refine WL.sreg (by simp;rfl) (by simp;rfl) ?_
 refine WL.seq (WL.block ?_)
 by_cases hh:(0≤p∧p < r.P.length)∧s.size=24
 ·obtain⟨hh,hs⟩:=hh
  have g1:¬ p < 0:=by omega
  have g2:¬ (r.P.length:Int)≤p:=by omega
  have g3:(s.size:Int)=24:=by omega
  refine WL.sreg (by simp[g1,g2,g3,hs];rfl) (by simp;rfl) ?_
  refine WL.cond (t:=false) (by simp[g2,g3,hs]) (by simp) (fun _=>?_)
  refine WL.sreg (by simp;rfl) (by simp;rfl) ?_
  by_cases hD:r.D=true
  ·refine WL.cond (t:=true) (by simp[hD]) (fun _=>?_) (by simp)
   refine WL.sreg (by simp;rfl) (by simp;rfl) (WL.ret ⟨.inr rfl,?_⟩)
   simp[fi53,rwriteF,hh,hD,hs]
  ·have hD':r.D=false:=by simpa using hD
   refine WL.cond (t:=false) (by simp[hD']) (by simp) (fun _=>?_)
   refine WL.sregC (RL.o (by simp;rfl) (RL.callK false [(1000000,[])] (raccess_fn r ok) (by simp) (by simp) (by simp[gkey]) (by simp) (by simp) (RL.o (by simp;rfl) (RL.nil ⟨_,by simp;rfl,?_⟩))))
   by_cases hA:(raccF r).2=false
   ·refine WL.cond (t:=true) (by simp[hA]) (fun _=>?_) (by simp)
    refine WL.sreg (by simp;rfl) (by simp;rfl) (WL.ret ⟨.inr rfl,?_⟩)
    simp[fi53,rwriteF,hh,hD',hA,hs]
   ·have hA':(raccF r).2=true:=by simpa using hA
    refine WL.cond (t:=false) (by simp[hA']) (by simp) (fun _=>WL.skip ?_)
    obtain⟨q1,q2,q3,q4⟩:=raccF_Q r
    have hr:rwriteF r p s=({ (raccF r).1 with Q:=(raccF r).1.Q.set p.toNat s,W:=(raccF r).1.W.set p.toNat true },0):=by
     unfold rwriteF;rw[if_neg (by simp[hh,hs]),if_neg hD,if_neg hA,q1,q3]
    rw[hr]
    obtain⟨m,rfl⟩:∃ m:Nat,p=m:=⟨p.toNat,by omega⟩
    have hm:m < (raccF r).1.Q.length:=by rw[q1,ok.q];omega
    have hw:m < (raccF r).1.W.length:=by rw[q3,ok.w];omega
    generalize (raccF r).1=r1 at hm hw ⊢
    have hm':(m:Int) < r1.Q.length:=by omega
    have hm1:m+1≤r1.Q.length:=hm
    have hw':(m:Int) < r1.W.length:=by omega
    have hw1:m+1≤r1.W.length:=hw
    refine WL.sdraw mixed (by simp[cleanL,noH]) (by simp[hm,hm',hm1,hw,hw',hw1];exact⟨rfl,rfl⟩) (by kernel_rfl) (by simp;rfl) ?_
    refine WL.sreg (by simp;rfl) (by simp;rfl) (WL.ret ⟨.inr rfl,?_⟩)
    simp[fi53,List.map_set]
 ·have hr:rwriteF r p s=(r,1):=by unfold rwriteF;rw[if_pos (by by_cases h1:0≤p∧p < r.P.length;exact .inr (fun e=>hh ⟨h1,e⟩);exact .inl h1)]
  rw[hr]
  by_cases g1:p < 0
  ·refine WL.sreg (by simp[g1];rfl) (by simp;rfl) ?_
   refine WL.cond (t:=true) (by simp) (fun _=>?_) (by simp)
   refine WL.sreg (by simp;rfl) (by simp;rfl) (WL.ret ⟨.inr rfl,?_⟩)
   simp[fi53]
  ·by_cases g2:(r.P.length:Int)≤p
   ·refine WL.sreg (by simp[g1,g2];rfl) (by simp;rfl) ?_
    refine WL.cond (t:=true) (by simp[g2]) (fun _=>?_) (by simp)
    refine WL.sreg (by simp;rfl) (by simp;rfl) (WL.ret ⟨.inr rfl,?_⟩)
    simp[fi53]
   ·have g3:¬ s.size=24:=fun e=>hh ⟨⟨by omega,by omega⟩,e⟩
    have g4:((s.size:Int) != 24)=true:=by rw[bne_iff_ne];omega
    refine WL.sreg (by simp[g1,g2,g4];rfl) (by simp;rfl) ?_
    refine WL.cond (t:=true) (by simp[g2,g4]) (fun _=>?_) (by simp)
    refine WL.sreg (by simp;rfl) (by simp;rfl) (WL.ret ⟨.inr rfl,?_⟩)
    simp[fi53]
set_option maxHeartbeats 4000000 in
theorem ints_fn (a b:List Int)(ha:a.length≤1000)(hb:b=a):FnC Try.prog 32 [] [sI false a,sI false b] [] (bl true):=by
 subst hb
 refine FnC.go ok32 rfl ?_
 refine WL.sreg (by simp;rfl) (by simp;rfl) ?_
 refine WL.seq (WL.sreg (by simp;rfl) (by simp;rfl) ?_)
 refine WL.cond (t:=false) (by simp) (by simp) (fun _=>WL.skip ?_)
 refine WL.seq (WL.sreg (by simp;rfl) (by simp;rfl) ?_)
 refine WL.block (WL.count b.length (fun i=>[(0,0,sI false b),(100,0,sI false b),(500,0,i64 i)]) (fun _=>True) (by simp) trivial fun i hi _=>?_)
 by_cases h:i < b.length
 ·have h':(i:Int) < b.length:=by omega
  have hm1:i+1≤b.length:=h
  refine WL.seq (WL.sreg (by simp[h'];rfl) (by simp;rfl) ?_)
  refine WL.cond (t:=true) (by simp) (fun _=>WL.skip ?_) (by simp)
  refine WL.seq (WL.block ?_)
  refine WL.sdraw mixed (by simp[cleanL,noH]) (by simp[h,h',hm1];exact⟨rfl,rfl⟩) (by kernel_rfl) (by simp;rfl) ?_
  refine WL.cond (t:=false) (by simp) (by simp) (fun _=>WL.skip ?_)
  refine WL.reg (RL.run (by simp[wrap_succ (n:=b.length) (by unfold Small;omega) h];rfl) ⟨_,by simp;rfl,h,by simp,trivial⟩)
 ·have h':¬ (i:Int) < b.length:=by omega
  refine WL.seq (WL.sreg (by simp[h'];rfl) (by simp;rfl) ?_)
  refine WL.cond (t:=false) (by simp) (by simp) (fun _=>WL.exit ?_)
  simp
  refine WL.sreg (by simp;rfl) (by simp;rfl) (WL.ret ⟨.inr rfl,?_⟩)
  simp[fi32]
set_option maxHeartbeats 4000000 in
theorem texts_fn (a:List (List UInt8))(ha:a.length≤1000)(hl:∀ p ∈ a,p.length=24):FnC Try.prog 60 [] [sP false a,sS false (a.map ofL)] [] (bl true):=by
 refine FnC.go ok60 rfl ?_
 refine WL.sreg (by simp;rfl) (by simp;rfl) ?_
 refine WL.seq (WL.sreg (by simp;rfl) (by simp;rfl) ?_)
 refine WL.cond (t:=false) (by simp) (by simp) (fun _=>WL.skip ?_)
 refine WL.seq (WL.sreg (by simp;rfl) (by simp;rfl) ?_)
 refine WL.block (WL.count a.length (fun i=>[(0,0,sP false a),(100,0,sS false (a.map ofL)),(500,0,i64 i)]) (fun _=>True) (by simp) trivial fun i hi _=>?_)
 by_cases h:i < a.length
 ·have h':(i:Int) < a.length:=by omega
  have hm1:i+1≤a.length:=h
  refine WL.seq (WL.sreg (by simp[h'];rfl) (by simp;rfl) ?_)
  refine WL.cond (t:=true) (by simp) (fun _=>WL.skip ?_) (by simp)
  refine WL.seq (WL.block ?_)
  refine WL.sdraw mixed (by simp[cleanL,noH]) (by simp[h,h',hm1,u8L_bytes'];exact⟨rfl,rfl⟩) (by kernel_rfl) (by simp;rfl) ?_
  refine WL.cond (t:=false) (by simp[ofL]) (by simp) (fun _=>WL.skip ?_)
  refine WL.reg (RL.run (by simp[wrap_succ (n:=a.length) (by unfold Small;omega) h];rfl) ⟨_,by simp;rfl,h,by simp,trivial⟩)
 ·have h':¬ (i:Int) < a.length:=by omega
  refine WL.seq (WL.sreg (by simp[h'];rfl) (by simp;rfl) ?_)
  refine WL.cond (t:=false) (by simp) (by simp) (fun _=>WL.exit ?_)
  simp
  refine WL.sreg (by simp;rfl) (by simp;rfl) (WL.ret ⟨.inr rfl,?_⟩)
  simp[fi60]
end Go.OT
namespace Go.OT
open Go.Proofs
abbrev B24:ByteArray:=ofL zeros24
def newR (n:Nat):Rk:=⟨List.replicate n B24,List.replicate n B24,List.replicate n false,0,0,false⟩
set_option maxHeartbeats 4000000 in
theorem rnew_bad (p:Int)(h:p < 1∨48 < p):FnC Try.prog 47 [] [i64 p] [] (.sc (.pointer none)):=by
 refine FnC.go ok47 rfl ?_
 refine WL.sreg (by simp;rfl) (by simp;rfl) ?_
 by_cases h1:p < 1
 ·refine WL.seq (WL.sreg (by simp[h1];rfl) (by simp;rfl) ?_)
  refine WL.cond (t:=true) (by simp) (fun _=>?_) (by simp)
  refine WL.sreg (by simp;rfl) (by simp;rfl) (WL.ret ⟨.inr rfl,?_⟩)
  simp[fi47]
 ·have h2:48 < p:=by omega
  refine WL.seq (WL.sreg (by simp[h1,h2];rfl) (by simp;rfl) ?_)
  refine WL.cond (t:=true) (by simp) (fun _=>?_) (by simp)
  refine WL.sreg (by simp;rfl) (by simp;rfl) (WL.ret ⟨.inr rfl,?_⟩)
  simp[fi47]
theorem take_rep {α:Type}(i:Nat)(x:α):List.take (i+1) (List.replicate i x ++ [x])=List.replicate (i+1) x:=by
 rw[List.take_of_length_le (by simp),List.replicate_succ']
set_option maxHeartbeats 8000000 in
theorem rnew_fn (n:Nat)(h1:1≤n)(h2:n≤48):FnC Try.prog 47 [] [i64 n] [] (.bx true () (celR (newR n))):=by
 have g1:¬ (n:Int) < 1:=by omega
 have g2:¬ 48 < (n:Int):=by omega
 have hbl:=rblank_fn
 simp only[newR]
 unfold B24
 generalize ofL zeros24=z at hbl ⊢
 refine FnC.go ok47 rfl ?_
 refine WL.sreg (by simp;rfl) (by simp;rfl) ?_
 refine WL.seq (WL.sreg (by simp[g1,g2];rfl) (by simp;rfl) ?_)
 refine WL.cond (t:=false) (by simp) (by simp) (fun _=>WL.skip ?_)
 refine WL.sreg (by simp;rfl) (by simp;rfl) ?_
 refine WL.nil1 1201 true 1 (by simp) (WL.nil1 1202 true 1 (by simp) (WL.nil1 1203 true 1 (by simp) ?_))
 refine WL.seq (WL.sreg (by simp;rfl) (by simp;rfl) ?_)
 refine WL.block (WL.count n (fun i=>[(0,0,i64 n),(300,0,.bptr 12 1 0),(400,0,i64 i),(1201,0,sS true (List.replicate i z)),(1202,0,sS true (List.replicate i z)),(1203,0,sB true (List.replicate i false)),(1204,0,i64 0),(1205,0,i64 0),(1206,0,bl false),(1299,1,.non)]) (fun _=>True) ?_ trivial fun i hi _=>?_)
 ·simp
 by_cases h:i < n
 ·have h':(i:Int) < n:=by omega
  have e1:(i+1) * 16≤140737488355328:=by omega
  have e2:i+1≤140737488355328:=by omega
  have e3:i+1≤maxLen:=by unfold maxLen;omega
  have e4:(i+1) * 1≤140737488355328:=by omega
  refine WL.seq (WL.sreg (by simp[h'];rfl) (by simp;rfl) ?_)
  refine WL.cond (t:=true) (by simp) (fun _=>WL.skip ?_) (by simp)
  refine WL.seq (WL.block (WL.draw mixed (by simp[cleanL,noH]) (DL.o (by simp;exact⟨rfl,rfl⟩) ?_)))
  refine DL.call0 false hbl (by simp) (by simp) ?_
  refine DL.o (by simp[e1,e2,e3,e4];exact⟨rfl,rfl⟩) ?_
  refine DL.call0 false hbl (by simp) (by simp) ?_
  refine DL.o (by simp[e1,e2,e3,e4];exact⟨rfl,rfl⟩) ?_
  refine DL.nil ⟨by kernel_rfl,_,by simp;rfl,?_⟩
  refine WL.reg (RL.run (by simp[wrap_succ (n:=n) (by unfold Small;omega) h];rfl) ⟨_,by simp;rfl,?_⟩)
  refine⟨h,?_,trivial⟩
  simp[take_rep]
 ·have h':¬ (i:Int) < n:=by omega
  refine WL.seq (WL.sreg (by simp[h'];rfl) (by simp;rfl) ?_)
  refine WL.cond (t:=false) (by simp) (by simp) (fun _=>WL.exit ?_)
  have:i=n:=by omega
  subst this
  simp
  refine WL.lift 3 12 6 (by simp) (by simp;rfl) (by simp) ?_
  refine WL.sregC (RL.mv (by decide) (RL.o (by simp;rfl) (RL.nil ⟨_,by simp;rfl,WL.ret ⟨.inr rfl,?_⟩⟩)))
  simp[fi47]
def rsyncF (r:Rk):Rk × Int :=
 if r.D=true then (r,12) else if (raccF r).2=false then ((raccF r).1,9) else ({ (raccF r).1 with P:=r.Q,W:=r.W.map fun _=>false },0)
set_option maxHeartbeats 8000000 in
theorem rsync_fn (r:Rk)(ok:r.Ok):FnC Try.prog 55 [nodR r] [.ptr 1000000 0 [] 0] [nodR (rsyncF r).1] (i64 (rsyncF r).2):=by
 refine FnC.go ok55 rfl ?_
 refine WL.sreg (by simp;rfl) (by simp;rfl) ?_
 refine WL.seq (WL.sreg (by simp;rfl) (by simp;rfl) ?_)
 by_cases hD:r.D=true
 ·refine WL.cond (t:=true) (by simp[hD]) (fun _=>?_) (by simp)
  refine WL.sreg (by simp;rfl) (by simp;rfl) (WL.ret ⟨.inr rfl,?_⟩)
  simp[fi55,rsyncF,hD]
 ·have hD':r.D=false:=by simpa using hD
  refine WL.cond (t:=false) (by simp[hD']) (by simp) (fun _=>WL.skip ?_)
  refine WL.seq (WL.sregC (RL.o (by simp;rfl) (RL.callK false [(1000000,[])] (raccess_fn r ok) (by simp) (by simp) (by simp[gkey]) (by simp) (by simp) (RL.o (by simp;rfl) (RL.nil ⟨_,by simp;rfl,?_⟩)))))
  by_cases hA:(raccF r).2=false
  ·refine WL.cond (t:=true) (by simp[hA]) (fun _=>?_) (by simp)
   refine WL.sreg (by simp;rfl) (by simp;rfl) (WL.ret ⟨.inr rfl,?_⟩)
   simp[fi55,rsyncF,hD',hA]
  ·have hA':(raccF r).2=true:=by simpa using hA
   refine WL.cond (t:=false) (by simp[hA']) (by simp) (fun _=>WL.skip ?_)
   obtain⟨q1,q2,q3,q4⟩:=raccF_Q r
   have hr:rsyncF r=({ (raccF r).1 with P:=(raccF r).1.Q,W:=(raccF r).1.W.map fun _=>false },0):=by
    unfold rsyncF;rw[if_neg hD,if_neg hA,q1,q3]
   rw[hr]
   have l1:(raccF r).1.Q.length=(raccF r).1.P.length:=by rw[q1,q2,ok.q]
   have l2:(raccF r).1.W.length=(raccF r).1.P.length:=by rw[q3,q2,ok.w]
   have l3:(raccF r).1.P.length≤48:=by rw[q2];exact ok.n
   generalize (raccF r).1=r1 at l1 l2 l3 ⊢
   obtain⟨P,Q,W,A,F,D⟩:=r1
   simp only at l1 l2 l3 ⊢
   refine WL.seq (WL.sreg (by simp;rfl) (by simp;rfl) ?_)
   refine WL.block (WL.count P.length (fun i=>[(0,0,.ptr 1000000 0 [] 0),(300,0,i64 i),(1000000,0,.bx true () [.sl true () 1 P.length ((Q.take i ++ P.drop i).map st),sS true Q,.sl true () 1 W.length ((List.replicate i false ++ W.drop i).map bl),i64 A,i64 F,bl D])]) (fun _=>True) ?_ trivial fun i hi _=>?_)
   ·simp
   by_cases h:i < P.length
   ·have h':(i:Int) < P.length:=by omega
    have hm1:i+1≤P.length:=h
    have hq:i < Q.length:=by omega
    have hq':(i:Int) < Q.length:=by omega
    have hq1:i+1≤Q.length:=hq
    have hw:i < W.length:=by omega
    have hw':(i:Int) < W.length:=by omega
    have hw1:i+1≤W.length:=hw
    have b1:i < (Q.take i ++ P.drop i).length:=by simp;omega
    have b2:i < (List.replicate i false ++ W.drop i).length:=by simp;omega
    have s1:(Q.take i ++ P.drop i).set i Q[i]=Q.take (i+1) ++ P.drop (i+1):=by
     rw[List.set_append_right _ _ (by simp;omega),List.take_succ_eq_append_getElem hq,List.append_assoc]
     have:i - (Q.take i).length=0:=by simp;omega
     rw[this,List.drop_eq_getElem_cons h]
     simp only[List.set_cons_zero,List.cons_append,List.nil_append]
    have s2:(List.replicate i false ++ W.drop i).set i false=List.replicate (i+1) false ++ W.drop (i+1):=by
     rw[List.set_append_right _ _ (by simp),List.length_replicate,Nat.sub_self,List.drop_eq_getElem_cons hw,List.replicate_succ',List.append_assoc]
     simp only[List.set_cons_zero,List.cons_append,List.nil_append]
    generalize Q.take i ++ P.drop i=PP at b1 s1 ⊢
    generalize List.replicate i false ++ W.drop i=WW at b2 s2 ⊢
    refine WL.seq (WL.sreg (by simp[h'];rfl) (by simp;rfl) ?_)
    refine WL.cond (t:=true) (by simp) (fun _=>WL.skip ?_) (by simp)
    refine WL.seq (WL.block (WL.draw mixed (by simp[cleanL,noH]) (DL.run (by simp[h,h',hm1,hq,hq',hq1,hw,hw',hw1,b1,b2];exact⟨rfl,rfl⟩) ⟨by kernel_rfl,_,by simp;rfl,?_⟩)))
    refine WL.reg (RL.run (by simp[wrap_succ (n:=P.length) (by unfold Small;omega) h];rfl) ⟨_,by simp;rfl,?_⟩)
    refine⟨h,?_,trivial⟩
    rw[← s1,← s2]
    simp[List.map_set]
   ·have h':¬ (i:Int) < P.length:=by omega
    refine WL.seq (WL.sreg (by simp[h'];rfl) (by simp;rfl) ?_)
    refine WL.cond (t:=false) (by simp) (by simp) (fun _=>WL.exit ?_)
    have:i=P.length:=by omega
    subst this
    have t1:Q.take P.length ++ P.drop P.length=Q:=by rw[List.take_of_length_le (by omega)];simp
    have t2:List.replicate P.length false ++ W.drop P.length=W.map fun _=>false:=by rw[List.drop_of_length_le (by omega),List.append_nil,List.map_const',l2]
    have t3:List.take P.length (Q.map st) ++ List.drop P.length (P.map st)=Q.map st:=by
     rw[← List.map_take,← List.map_drop,← List.map_append,t1]
    have t4:List.drop P.length (W.map bl)=[]:=List.drop_of_length_le (by simp[l2])
    simp
    refine WL.sreg (by simp;rfl) (by simp;rfl) (WL.ret ⟨.inr rfl,?_⟩)
    simp[fi55,t3,t4,l1,l2]
    have t5:(bl ∘ fun _:Bool=>false)=fun _=>bl false:=rfl
    rw[t5,List.map_const',l2]
def rwN (W:List Bool)(i:Nat):List Int:=((List.range i).filter fun j=>W.getD j false).map Int.ofNat
theorem rwN_succ (W:List Bool)(i:Nat):rwN W (i+1)=if W.getD i false=true then rwN W i ++ [(i:Int)] else rwN W i:=by
 unfold rwN
 rw[List.range_succ,List.filter_append,List.map_append]
 by_cases h:W.getD i false=true
 ·have e:[i].filter (fun j=>W.getD j false)=[i]:=List.filter_cons_of_pos (p:=fun j=>W.getD j false) h
  rw[if_pos h,e];rfl
 ·have e:[i].filter (fun j=>W.getD j false)=[]:=List.filter_cons_of_neg (p:=fun j=>W.getD j false) h
  rw[if_neg h,e];simp
theorem rwN_len (W:List Bool)(i:Nat):(rwN W i).length≤i:=by
 unfold rwN
 rw[List.length_map]
 exact Nat.le_trans (List.length_filter_le _ _) (by simp)
set_option maxHeartbeats 8000000 in
theorem rwaits_fn (r:Rk)(ok:r.Ok):FnC Try.prog 63 [nodR r] [.ptr 1000000 0 [] 0] [nodR r] (sI true (rwN r.W r.W.length)):=by
 have h48:r.W.length≤48:=by rw[ok.w];exact ok.n
 refine FnC.go ok63 rfl ?_
 refine WL.sreg (by simp;rfl) (by simp;rfl) ?_
 refine WL.sreg (by simp;rfl) (by simp;rfl) ?_
 refine WL.seq (WL.sreg (by simp;rfl) (by simp;rfl) ?_)
 refine WL.block (WL.count r.W.length (fun i=>[(0,0,.ptr 1000000 0 [] 0),(300,0,sI true (rwN r.W i)),(400,0,i64 i),(1000000,0,.bx true () (celR r))]) (fun _=>True) (by simp[rwN]) trivial fun i hi _=>?_)
 have hlen:=rwN_len r.W i
 have hsu:=rwN_succ r.W i
 by_cases h:i < r.W.length
 ·have h':(i:Int) < r.W.length:=by omega
  have hm1:i+1≤r.W.length:=h
  have hg:r.W.getD i false=r.W[i]:=by rw[List.getD_eq_getElem?_getD,List.getElem?_eq_getElem h];rfl
  rw[hg] at hsu
  generalize rwN r.W i=ws at hlen hsu ⊢
  refine WL.seq (WL.sreg (by simp[h'];rfl) (by simp;rfl) ?_)
  refine WL.cond (t:=true) (by simp) (fun _=>WL.skip ?_) (by simp)
  refine WL.seq (WL.block (WL.seq (WL.reg (RL.run (by simp[h,h',hm1];rfl) ⟨_,by simp;rfl,?_⟩))))
  have e1:(ws.length+1) * 8≤140737488355328:=by omega
  have e2:ws.length+1≤140737488355328:=by omega
  have e3:ws.length+1≤maxLen:=by unfold maxLen;omega
  by_cases hw:r.W[i]=true
  ·rw[if_pos hw] at hsu
   refine WL.cond (t:=true) (by simp[hw]) (fun _=>?_) (by simp)
   refine WL.reg (RL.run (by simp[e1,e2,e3];rfl) ⟨_,by simp;rfl,?_⟩)
   refine WL.reg (RL.run (by simp[wrap_succ (n:=r.W.length) (by unfold Small;omega) h];rfl) ⟨_,by simp;rfl,?_⟩)
   refine⟨h,?_,trivial⟩
   rw[hsu]
   have e5:List.take (ws.length+1) (ws.map i64 ++ [i64 (i:Int)])=ws.map i64 ++ [i64 (i:Int)]:=List.take_of_length_le (by simp)
   simp[e5]
  ·have hw':r.W[i]=false:=by simpa using hw
   rw[if_neg hw] at hsu
   refine WL.cond (t:=false) (by simp[hw']) (by simp) (fun _=>WL.skip ?_)
   refine WL.reg (RL.run (by simp[wrap_succ (n:=r.W.length) (by unfold Small;omega) h];rfl) ⟨_,by simp;rfl,?_⟩)
   refine⟨h,?_,trivial⟩
   rw[hsu]
   simp
 ·have h':¬ (i:Int) < r.W.length:=by omega
  refine WL.seq (WL.sreg (by simp[h'];rfl) (by simp;rfl) ?_)
  refine WL.cond (t:=false) (by simp) (by simp) (fun _=>WL.exit ?_)
  have:i=r.W.length:=by omega
  subst this
  generalize rwN r.W r.W.length=ws
  simp
  refine WL.sregC (RL.mv (by decide) (RL.o (by simp;rfl) (RL.nil ⟨_,by simp;rfl,WL.ret ⟨.inr rfl,?_⟩⟩)))
  simp[fi63]
end Go.OT
