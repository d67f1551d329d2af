/-
  The operation 'call', over a contract.
-/
import Derived.Test.YtpdigppbokpdkaaOtU
set_option linter.unusedSimpArgs false
set_option linter.unusedVariables false
namespace Go.OT

def argsOd (nt : Nat) : List Nat → List Operand → Option (List COd)
  | s :: ss, x :: xs => match compOd nt s x, argsOd nt ss xs with
    | some c, some cs => some (c :: cs)
    | _, _ => none
  | [], [] => some []
  | _, _ => none

def trArgs (X : XF Unit) (ls : List (Nat × List Nat)) (own : Bool) : List COd → Option (List AU)
  | [] => some []
  | c :: cs => match trA X ls own (keyOf c) (rd X c), trArgs X ls own cs with
    | some a, some as => some (a :: as)
    | _, _ => none

section
variable {C : Ctx} {X : XF LO} {β : Nat → Nat × Nat} {I : ASet} {rg : Nat → Value} {w : World} {ls : List (Nat × List Nat)} {gs : List (Gh Unit)}

theorem trArgs_ok (R : RelL C X β I rg w) {own : Bool} {I0 : ASet} {X0 : XF LO} {β0 : Nat → Nat × Nat} (H : CalleeOk C X β I w ls own I0 X0 β0) {nt : Nat} :
    ∀ (ss : List Nat) (xs : List Operand) (cs : List COd) (as : List AU), argsOd nt ss xs = some cs → trArgs (erF X) ls own cs = some as →
      ∃ las : List AL, las.map er = as ∧ las.length = xs.length ∧ ∀ (t : Nat) (la : AL) (x : Operand), las[t]? = some la → xs[t]? = some x → RR X0 β0 la (evR rg x) ∧ Mem w I0 la ∧ noOwn la = true
  | [], [], cs, as, h, ht => by
    simp only [argsOd, Option.some.injEq] at h
    subst h
    simp only [trArgs, Option.some.injEq] at ht
    exact ⟨[], by simp [ht], rfl, by simp⟩
  | [], _ :: _, cs, as, h, ht => by simp [argsOd] at h
  | _ :: _, [], cs, as, h, ht => by simp [argsOd] at h
  | s :: ss, x :: xs, cs, as, h, ht => by
    simp only [argsOd] at h
    split at h
    · rename_i c cs' h1 h2
      simp only [Option.some.injEq] at h
      subst h
      simp only [trArgs] at ht
      split at ht
      · rename_i a as' g1 g2
        simp only [Option.some.injEq] at ht
        subst ht
        obtain ⟨lv, e1, e2, e3, e4⟩ := rd_fp R h1
        rw [← e1] at g1
        obtain ⟨la, f1, f2, f3, f4⟩ := trA_ok H _ lv _ a e2 e3 e4 g1
        obtain ⟨las, k1, k2, k3⟩ := trArgs_ok R H ss xs cs' as' h2 g2
        refine ⟨la :: las, by simp [f1, k1], by simp [k2], fun t la' x' q1 q2 => ?_⟩
        cases t with
        | zero => simp at q1 q2; subst q1 q2; exact ⟨f2, f3, f4⟩
        | succ t => exact k3 t la' x' (by simpa using q1) (by simpa using q2)
      · cases ht
    · cases h
end

theorem ok_call {C : Ctx} {o : Oper} {X : XF Unit} {ls : List (Nat × List Nat)} {gs gs' : List (Gh Unit)} {as : List AU} {r : AU} {own : Bool} {d : Nat} {f : FuncId} {xs : Array Operand} {tys : Array TypeId} {ss : List Nat} {cs : List COd}
    (hdst : o.dst = some d) (hlt : d < C.nt) (hin : opsIn C.nt o = true) (hop : o.op = .call ⟨.value (.func f), xs, tys⟩) (hcs : argsOd C.nt ss xs.toList = some cs)
    (hgs : ls.mapM (ghAt X) = some gs) (hnd : (ls.map (·.1)).Nodup) (has : trArgs X ls own cs = some as) (hlen : xs.size ≤ 9000)
    (hrun : ∀ args w, (callFunc f args).run C.P w = .ok (.enter f args) w) (hfn : Fn C.P f gs as gs' r) (hok : ghsOk gs gs' = true) (himm : own = true → gs'.all ghImm = true ∧ noImm r = true) (hroot : roots r = []) :
    OpOk C o X ((backU X (ls.zip gs')).set (100 * d) r) := by
  rintro a w hdef ⟨XL, β, I, rg, he, R, hs, ht⟩ K Q hK
  subst he
  have L := Loans.of R hgs hnd
  obtain ⟨las, e1, e2, e3⟩ := trArgs_ok R (calleeOk R L own) ss xs.toList cs as hcs has
  have hxs : las.length = xs.size := by simpa using e2
  have hval : ∀ t, t < las.length → (xs.map (evR rg)).getD t undef = evR rg (xs.toList.getD t (.const undef)) := by
    intro t htl
    simp [Array.getD_eq_getD_getElem?, List.getD_eq_getElem?_getD, show t < xs.size by omega]
  have R0 := call_rel (own := own) (args := xs.map (evR rg)) R L (las := las) (by simp [hxs]) (fun t la h => by
    have hlt' : t < las.length := (List.getElem?_eq_some_iff.1 h).1
    have hx : xs.toList[t]? = some (xs.toList[t]'(by simpa using hxs ▸ hlt')) := List.getElem?_eq_getElem _
    rw [hval t hlt', List.getD_eq_getElem?_getD, hx]
    exact e3 t la _ h hx)
  have hcall := hfn (CC C XL β I w ls own (xs.map (evR rg))) (XC XL ls las) (βC XL ls) (IC XL β I ls own) (rgC XL ls (xs.map (evR rg))) w (xs.map (evR rg)) rfl (by rw [erF_XC L, e1]) R0
    (by rw [← e1]; simp [hxs]) (fun t htl => by
      rw [← e1] at htl
      simp only [List.length_map, hxs] at htl
      simp only [rgC, if_pos (show t < 10000 by omega)])
  have hexec : (execOp (evR rg) o).run C.P w = .ok (.enter f (xs.map (evR rg))) w := by
    simp only [execOp, hop, resolve, evR, Deferred.ofValue]
    simp only [Sem.run_bind, Sem.run_pure, Result.andThen_ok, invoke, Array.append_empty, Array.empty_append, hrun]
  unfold Oper.wp
  rw [evR_of hin ht, hexec, Oper.upon_enter]
  refine Calls.mono hcall fun e w' hq => ?_
  obtain ⟨x, XL', β', I', rg', rfl, R', hx, hF⟩ := hq
  obtain ⟨XL2, I2, f1, f2⟩ := call_back R L R' hF hok himm hroot (d := d) (by have := C.hnt; omega)
  refine hK _ _ (by simp [Act.put, hdst, hdef]) ⟨XL2, β, I2, _, f1, f2, by simp [Act.put, hdst, hs], fun t htl => ?_⟩
  simp only [Act.put, hdst]
  by_cases e : t = d
  · subst e; simp [Array.getD_eq_getD_getElem?, hs, hlt, hx]
  · simp only [e, if_false]
    rw [← ht t htl]
    simp [Array.getD_eq_getD_getElem?, Array.getElem?_setIfInBounds_ne (Ne.symm e)]
end Go.OT
