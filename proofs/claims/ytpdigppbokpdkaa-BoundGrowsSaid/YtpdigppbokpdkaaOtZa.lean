/-
  Regions whose order is drawn: the steps of a run.
-/
import Derived.Test.YtpdigppbokpdkaaOtZ
set_option linter.unusedSimpArgs false
set_option linter.unusedVariables false
namespace Go.OT

def LRunQ (C : Ctx) (ops : Array Oper) (i : Nat) (Y : XF Unit) (l : List (List Nat × List Nat)) (Q : XF Unit → Prop) : Prop := ∃ Y', LRun C ops i Y Y' l ∧ Q Y'

def agreeU (R : List Nat) (X Y : XF Unit) : Prop := ∀ k, unitK k ∈ R → X k = Y k

section
variable {C : Ctx} {P : Program} {nt : Nat} {ops : Array Oper} {Y : XF Unit} {Q : XF Unit → Prop} {i d : Nat} {o : Oper} {l : List (List Nat × List Nat)} {R : List Nat}

theorem LRunQ.nil (h : i = ops.size) (hq : Q Y) : LRunQ C ops i Y [] Q := ⟨Y, .nil h, hq⟩

theorem unitK_reg (d : Nat) : unitK (100 * d) = 2 * d := by unfold unitK; rw [if_pos (by omega)]; omega

/-- A step that writes one register. -/
theorem LRunQ.step {v : AU} (hi : ops[i]? = some o) (hR : R.contains (2 * d) = true) (h : ∀ X, agreeU R X Y → GStep C ops o X (X.set (100 * d) v)) (q : LRunQ C ops (i + 1) (Y.set (100 * d) v) l Q) : LRunQ C ops i Y ((R, [2 * d]) :: l) Q := by
  obtain ⟨Y', h1, h2⟩ := q
  have hR' : 2 * d ∈ R := by simpa using hR
  refine ⟨Y', .cons hi ⟨fun u hu => ?_, fun k hk => ?_, fun X hX => ?_⟩ h1, h2⟩
  · simp only [List.mem_singleton] at hu; rw [hu]; exact hR'
  · refine XF.set_ne _ _ fun e => hk ?_
    rw [e, unitK_reg]; simp
  · rw [mix_set (hX (100 * d) (by rw [unitK_reg]; exact hR'))]
    exact h X hX

theorem GStep.ofC {here : List Nat} {c : CG} {X X' : XF Unit} (hP : C.P = P) (hn : C.nt = nt) (hc : compG P nt ops here o = some c) (h : stO (some X) c = some X') : GStep C ops o X X' := by
  subst hP hn
  exact compG_ok hc h

/-- A compiled step that writes one register. -/
theorem LRunQ.op {c : CG} {v : AU} (hP : C.P = P) (hn : C.nt = nt) (hi : ops[i]? = some o) (hc : compG P nt ops (hereOf ops) o = some c) (hR : R.contains (2 * d) = true) (h : ∀ X, agreeU R X Y → stO (some X) c = some (X.set (100 * d) v)) (q : LRunQ C ops (i + 1) (Y.set (100 * d) v) l Q) : LRunQ C ops i Y ((R, [2 * d]) :: l) Q :=
  LRunQ.step hi hR (fun X hX => GStep.ofC hP hn hc (h X hX)) q

theorem GStep.call0 {X : XF Unit} {f : Nat} {ss : List Nat} {cs : List COd} {ags : List AU} {r : AU} (own : Bool) (hP : C.P = P) (hn : C.nt = nt) (hg : o.guard = none) (h : CallOp nt o d f ss cs) (has : trArgs X [] own cs = some ags)
    (hrun : ∀ args w, (callFunc f args).run P w = .ok (.enter f args) w) (hfn : Fn P f [] ags [] r) (himm : own = true → noImm r = true) (hroot : roots r = []) : GStep C ops o X (X.set (100 * d) r) := by
  unfold GStep
  rw [hg]
  exact CallOp.ok (ls := []) (gs := []) (gs' := []) hP hn h rfl (by simp) has hrun hfn rfl (fun h => ⟨rfl, himm h⟩) hroot

theorem GStep.call0G {X : XF Unit} {j t : Nat} {want : Bool} {f : Nat} {ss : List Nat} {cs : List COd} {ags : List AU} {r : AU} (own : Bool) (hP : C.P = P) (hn : C.nt = nt) (hg : o.guard = some (j, want)) (ht : (ops[j]?).bind (·.dst) = some t) (hlt : t < nt) (hb : (X (100 * t)).2 = .sc (.bool want))
    (h : CallOp nt o d f ss cs) (has : trArgs X [] own cs = some ags) (hrun : ∀ args w, (callFunc f args).run P w = .ok (.enter f args) w) (hfn : Fn P f [] ags [] r) (himm : own = true → noImm r = true) (hroot : roots r = []) : GStep C ops o X (X.set (100 * d) r) := by
  unfold GStep
  rw [hg]
  refine ⟨t, want, ht, by rw [hn]; exact hlt, hb, ?_⟩
  rw [if_pos rfl]
  exact CallOp.ok (ls := []) (gs := []) (gs' := []) hP hn h rfl (by simp) has hrun hfn rfl (fun h => ⟨rfl, himm h⟩) hroot

theorem LRunQ.call0 {f : Nat} {ss : List Nat} {cs : List COd} {ags : List AU} {r : AU} (own : Bool) (hP : C.P = P) (hn : C.nt = nt) (hi : ops[i]? = some o) (hg : o.guard = none) (h : CallOp nt o d f ss cs) (hR : R.contains (2 * d) = true) (has : ∀ X, agreeU R X Y → trArgs X [] own cs = some ags)
    (hrun : ∀ args w, (callFunc f args).run P w = .ok (.enter f args) w) (hfn : Fn P f [] ags [] r) (himm : own = true → noImm r = true) (hroot : roots r = []) (q : LRunQ C ops (i + 1) (Y.set (100 * d) r) l Q) : LRunQ C ops i Y ((R, [2 * d]) :: l) Q :=
  LRunQ.step hi hR (fun X hX => GStep.call0 own hP hn hg h (has X hX) hrun hfn himm hroot) q

theorem LRunQ.call0G {j t : Nat} {want : Bool} {f : Nat} {ss : List Nat} {cs : List COd} {ags : List AU} {r : AU} (own : Bool) (hP : C.P = P) (hn : C.nt = nt) (hi : ops[i]? = some o) (hg : o.guard = some (j, want)) (ht : (ops[j]?).bind (·.dst) = some t) (hlt : t < nt) (h : CallOp nt o d f ss cs) (hR : R.contains (2 * d) = true)
    (hb : ∀ X, agreeU R X Y → (X (100 * t)).2 = .sc (.bool want)) (has : ∀ X, agreeU R X Y → trArgs X [] own cs = some ags)
    (hrun : ∀ args w, (callFunc f args).run P w = .ok (.enter f args) w) (hfn : Fn P f [] ags [] r) (himm : own = true → noImm r = true) (hroot : roots r = []) (q : LRunQ C ops (i + 1) (Y.set (100 * d) r) l Q) : LRunQ C ops i Y ((R, [2 * d]) :: l) Q :=
  LRunQ.step hi hR (fun X hX => GStep.call0G own hP hn hg ht hlt (hb X hX) h (has X hX) hrun hfn himm hroot) q

theorem AWp.drawQ {id : Nat} {X : XF Unit} {Q : Ex → XF Unit → Prop} {pl : List (List Nat)} (l : List (List Nat × List Nat)) (hP : C.P = P) (hm : P.follows .mixedOrders = true) (hpl : ops.toList.map predsOf = pl) (hok : drawOk pl l = true) (h : LRunQ C ops 0 X l (Q .nrm)) : AWp C (.region id ops true) X Q := by
  obtain ⟨Y', h1, h2⟩ := h
  exact AWp.draw (by rw [hP]; exact hm) h1 hpl hok h2
end
end Go.OT
