/- Part 10 of the proof: see its last file. -/
import Derived.Orders
import Derived.Below
import Derived.Laws.Entries
import Derived.Laws.Cells
import Derived.Laws.IdiomCopy
import Derived.Scope
import Derived.Calls
import Derived.Laws.Tables
import Derived.Laws.MakeOwn
import Derived.Laws.BytesString
import Derived.ArgAppend
import Derived.WalkSpells
import Derived.Lib.SlBytesConst
import Derived.Lib.ConvBytes
import Derived.Test.YtpdigppbokpdkaaProg
import Derived.KernelRfl
import Derived.IntWalk
import Derived.Lib.Strings
import Derived.WalkKit
import Derived.ProofKit
import Derived.OpenShut
import Derived.ShutString
import Derived.ChangeOld
import Derived.Lib.SmallJoins
import Derived.Test.YtpdigppbokpdkaaAs09
set_option linter.unusedSimpArgs false
set_option linter.unusedVariables false
set_option linter.unusedSimpArgs false
set_option linter.unusedVariables false
namespace Go.OT
open Go.Proofs

/-- The least free handle; -1. -/
def freeI (l : List Int) : Int := ixF (fun p => decide (p < 0)) l 0

set_option maxHeartbeats 2000000 in
theorem give_fn (s : St) (T B : AU) (hT : T = sB false s.There) (hB : B = sS false s.Body) (c : Nat) (hc : c < s.Handles.length) (hs : Small s.Handles[c].length) (page : Int) (k : Nat) (hk : k < s.Handles[c].length) (hfree : freeI s.Handles[c] = (k : Int)) :
    FnC Try.prog 50 [.nod (sII true s.Handles)] [.agg [T, B, .view 1000000 0 [] 0 s.Handles.length], i64 c, i64 page] [.nod (sII true (s.Handles.set c (s.Handles[c].set k page)))] (i64 k) := by
  subst hT hB
  have hc1 : c + 1 ≤ s.Handles.length := hc
  refine FnC.go ok50 rfl ?_
  refine WL.sregC (RL.boxW (by simp; rfl) (by simp) (by simp [isVw]) (by simp) (RL.o (by simp; rfl) (RL.nil ⟨_, by simp; rfl, ?_⟩)))
  refine WL.seq (WL.sreg (by simp; rfl) (by simp; rfl) ?_)
  refine WL.block (WL.count s.Handles[c].length (fun i => [(100, 0, i64 c), (200, 0, i64 page), (300, 0, .bptr 3 1 0), (301, 0, sB false s.There), (302, 0, sS false s.Body), (303, 0, .view 1000000 0 [] 0 s.Handles.length), (399, 1, .non), (700, 0, i64 i), (1000000, 0, sII true s.Handles)]) (fun i => ixF (fun p => decide (p < 0)) (s.Handles[c].drop i) i = (k : Int)) rfl (by simpa [freeI] using hfree) fun i hi hp => ?_)
  by_cases h : i < s.Handles[c].length
  · have hi1 : i + 1 ≤ s.Handles[c].length := h
    rw [ixF_drop _ _ _ h] at hp
    refine WL.seq (WL.sreg (by simp [hc, h, hc1, hi1]; rfl) (by simp; rfl) ?_)
    refine WL.cond (t := true) (by simp) (fun _ => WL.skip ?_) (by simp)
    refine WL.seq (WL.block (WL.sreg (by simp [hc, h, hc1, hi1]; rfl) (by simp; rfl) ?_))
    by_cases hf : s.Handles[c][i] < 0
    · refine WL.cond (t := true) (by simp [hf]) (fun _ => ?_) (by simp)
      rw [if_pos (by simpa using hf)] at hp
      obtain rfl : i = k := by omega
      refine WL.sreg (by simp [hc, h, hc1, hi1]; rfl) (by simp; rfl) ?_
      refine WL.sreg (by simp; rfl) (by simp; rfl) ?_
      refine WL.ret ⟨.inr rfl, ?_⟩
      simp [fi50, List.map_set, sI]
    · refine WL.cond (t := false) (by simp; omega) (by simp) fun _ => WL.skip ?_
      rw [if_neg (by simpa using hf)] at hp
      refine WL.reg (RL.run (by simp [wrap_succ hs h]; rfl) ⟨_, by simp; rfl, h, ?_, hp⟩)
      simp
  · rw [ixF_end _ _ _ h] at hp
    omega
end Go.OT
set_option linter.unusedSimpArgs false
set_option linter.unusedVariables false
namespace Go.OT
open Go.Proofs

@[simp] theorem extra_alloc (L : SL) (d : Nat) (zs : List AU) : extra L (.alloc d zs) = true := rfl

abbrev cpS (s : St) (j : Nat) : SL := [(100, 0, .bptr 1 1 0), (101, 0, sB false s.There), (102, 0, sS false s.Body), (103, 0, sII false s.Handles), (199, 1, .non), (200, 0, .bptr 2 1 0), (201, 0, .sl true () 1 0 []), (202, 0, .sl true () 1 0 []), (203, 0, .sl true () 1 0 []), (299, 1, .non), (300, 0, .bptr 3 1 0), (301, 0, sB true s.There), (302, 0, sS true s.Body), (303, 0, sII true (s.Handles.take j)), (399, 1, .non), (400, 0, i64 j)]

set_option maxHeartbeats 4000000 in
theorem copy_fn (s : St) (hs : Sized s) : FnC Try.prog 25 [] [encT false s] [] (encT true s) := by
  have hST := hs.t
  have hSB := hs.b
  have hSH := hs.h
  have hS2 : Small s.Handles.length := by unfold Small; omega
  refine FnC.go ok25 rfl ?_
  refine WL.sreg (by simp; rfl) (by simp; rfl) ?_
  have a1 : s.There.length ≤ 140737488355328 := by omega
  have a2 : s.There.length ≤ maxLen := by unfold maxLen; omega
  have a3 : s.Body.length * 16 ≤ 140737488355328 := by omega
  have a4 : s.Body.length ≤ maxLen := by unfold maxLen; omega
  refine WL.seq (WL.draw mixed (by simp [cleanL, noH]) (DL.o (by simp [a1, a2, a3, a4]; exact ⟨rfl, rfl⟩) (DL.nil ⟨by kernel_rfl, _, by simp; rfl, ?_⟩)))
  refine WL.nil1 303 true 1 (by simp) ?_
  refine WL.seq (WL.sreg (by simp; rfl) (by simp; rfl) ?_)
  refine WL.block (WL.count s.Handles.length (fun j => cpS s j) (fun _ => True) (by simp) trivial fun j hj _ => ?_)
  by_cases h : j < s.Handles.length
  · have hl : s.Handles[j].length ≤ 1000 := hs.hs _ (List.getElem_mem h)
    have e2 : min j s.Handles.length = j := by omega
    have b1 : s.Handles[j].length * 8 ≤ 140737488355328 := by omega
    have b2 : s.Handles[j].length ≤ maxLen := by unfold maxLen; omega
    have b3 : (j + 1) * 24 ≤ 140737488355328 := by omega
    have b4 : j + 1 ≤ maxLen := by unfold maxLen; omega
    refine WL.seq (WL.sreg (by simp [h]; rfl) (by simp; rfl) ?_)
    refine WL.cond (t := true) (by simp [h]) (fun _ => WL.skip ?_) (by simp)
    refine WL.seq (WL.block (WL.draw mixed (by simp [cleanL, noH]) (DL.o (by simp [h, e2, b1, b2, b3, b4]; exact ⟨rfl, rfl⟩) (DL.nil ⟨by kernel_rfl, _, by simp; rfl, ?_⟩))))
    refine WL.reg (RL.run (by simp [wrap_succ hS2 h]; rfl) ⟨_, by simp; rfl, h, ?_, trivial⟩)
    have q1 := grow_take (f := sI true) h
    simp [q1, Nat.min_eq_left h]
  · refine WL.seq (WL.sreg (by simp [h]; rfl) (by simp; rfl) ?_)
    refine WL.cond (t := false) (by simp [h]) (by simp) fun _ => WL.exit ?_
    obtain rfl : j = s.Handles.length := by omega
    refine WL.sreg (by simp; rfl) (by simp; rfl) (WL.ret ⟨.inr rfl, ?_⟩)
    simp [fi25]
end Go.OT
set_option linter.unusedSimpArgs false
set_option linter.unusedVariables false
namespace Go.OT
open Go.Proofs

/-- Is a state small? -/
def fewB (s : St) : Bool := decide (s.There.length ≤ 60) && (decide (s.Body.length ≤ 60) && (decide (s.Handles.length ≤ 8) && ((s.Body.all fun b => decide (b.length ≤ 40)) && s.Handles.all fun l => decide (l.length ≤ 10))))

theorem few_sized {s : St} (h : fewB s = true) : Sized s := by
  simp only [fewB, Bool.and_eq_true, decide_eq_true_eq, List.all_eq_true] at h
  obtain ⟨h1, h2, h3, h4, h5⟩ := h
  exact ⟨by omega, by omega, by omega, fun b hb => by have := h4 b hb; omega, fun l hl => by have := h5 l hl; omega⟩

abbrev fwS (s : St) : SL := [(100, 0, .bptr 1 1 0), (101, 0, sB false s.There), (102, 0, sUU false s.Body), (103, 0, sII false s.Handles), (199, 1, .non)]

set_option maxHeartbeats 4000000 in
theorem few_fn (s : St) : FnC Try.prog 20 [] [encS false s] [] (bl (fewB s)) := by
  refine FnC.go ok20 rfl ?_
  refine WL.sreg (by simp; rfl) (by simp; rfl) ?_
  by_cases g1 : 60 < s.There.length
  · have g1' : (60 : Int) < s.There.length := by omega
    have hv : fewB s = false := by simp [fewB]; omega
    refine WL.seq (WL.sreg (by simp [g1, g1']; rfl) (by simp; rfl) ?_)
    refine WL.cond (t := true) (by simp) (fun _ => WL.sreg (by simp; rfl) (by simp; rfl) (WL.ret ⟨.inr rfl, ?_⟩)) (by simp)
    simp [fi20, hv]
  have g1' : ¬ (60 : Int) < s.There.length := by omega
  by_cases g2 : 60 < s.Body.length
  · have g2' : (60 : Int) < s.Body.length := by omega
    have hv : fewB s = false := by simp [fewB]; omega
    refine WL.seq (WL.sreg (by simp [g1, g1', g2, g2']; rfl) (by simp; rfl) ?_)
    refine WL.cond (t := true) (by simp) (fun _ => WL.sreg (by simp; rfl) (by simp; rfl) (WL.ret ⟨.inr rfl, ?_⟩)) (by simp)
    simp [fi20, hv]
  have g2' : ¬ (60 : Int) < s.Body.length := by omega
  by_cases g3 : 8 < s.Handles.length
  · have g3' : (8 : Int) < s.Handles.length := by omega
    have hv : fewB s = false := by simp [fewB]; omega
    refine WL.seq (WL.sreg (by simp [g1, g1', g2, g2', g3, g3']; rfl) (by simp; rfl) ?_)
    refine WL.cond (t := true) (by simp [g3, g3']) (fun _ => WL.sreg (by simp; rfl) (by simp; rfl) (WL.ret ⟨.inr rfl, ?_⟩)) (by simp)
    simp [fi20, hv]
  have g3' : ¬ (8 : Int) < s.Handles.length := by omega
  refine WL.seq (WL.sreg (by simp [g1, g1', g2, g2', g3, g3']; rfl) (by simp; rfl) ?_)
  refine WL.cond (t := false) (by simp [g3, g3']) (by simp) fun _ => WL.skip ?_
  have hS1 : Small s.Body.length := by unfold Small; omega
  have hS2 : Small s.Handles.length := by unfold Small; omega
  refine WL.seq (WL.sreg (by simp; rfl) (by simp; rfl) ?_)
  refine WL.block (WL.count s.Body.length (fun i => fwS s ++ [(300, 0, i64 i)]) (fun i => ∀ j (hj : j < s.Body.length), j < i → s.Body[j].length ≤ 40) (by simp) (fun j _ h => absurd h (Nat.not_lt_zero _)) fun i hi hp => ?_)
  by_cases h : i < s.Body.length
  · refine WL.seq (WL.sreg (by simp [h]; rfl) (by simp; rfl) ?_)
    refine WL.cond (t := true) (by simp [h]) (fun _ => WL.skip ?_) (by simp)
    by_cases k : 40 < s.Body[i].length
    · have k' : (40 : Int) < s.Body[i].length := by omega
      have hv : fewB s = false := by
        have : (s.Body.all fun b => decide (b.length ≤ 40)) = false := List.all_eq_false.2 ⟨_, List.getElem_mem h, by simp; omega⟩
        simp [fewB, this]
      refine WL.seq (WL.block (WL.sreg (by simp [h, k, k']; rfl) (by simp; rfl) ?_))
      refine WL.cond (t := true) (by simp [k, k']) (fun _ => WL.sreg (by simp; rfl) (by simp; rfl) (WL.ret ⟨.inr rfl, ?_⟩)) (by simp)
      simp [fi20, hv]
    · have k' : ¬ (40 : Int) < s.Body[i].length := by omega
      refine WL.seq (WL.block (WL.sreg (by simp [h, k, k']; rfl) (by simp; rfl) ?_))
      refine WL.cond (t := false) (by simp [k, k']) (by simp) fun _ => WL.skip ?_
      refine WL.reg (RL.run (by simp [wrap_succ hS1 h]; rfl) ⟨_, by simp; rfl, h, ?_, fun j hj hji => ?_⟩)
      · simp
      · by_cases e : j = i
        · subst e; omega
        · exact hp j hj (by omega)
  · refine WL.seq (WL.sreg (by simp [h]; rfl) (by simp; rfl) ?_)
    refine WL.cond (t := false) (by simp [h]) (by simp) fun _ => WL.exit ?_
    have hB : (s.Body.all fun b => decide (b.length ≤ 40)) = true := List.all_eq_true.2 fun b hb => by
      obtain ⟨j, hj, rfl⟩ := List.mem_iff_getElem.1 hb
      simpa using hp j hj (by omega)
    refine WL.seq (WL.sreg (by simp; rfl) (by simp; rfl) ?_)
    refine WL.block (WL.count s.Handles.length (fun i => fwS s ++ [(400, 0, i64 i)]) (fun i => ∀ j (hj : j < s.Handles.length), j < i → s.Handles[j].length ≤ 10) (by simp) (fun j _ h => absurd h (Nat.not_lt_zero _)) fun i hi hp => ?_)
    by_cases h : i < s.Handles.length
    · refine WL.seq (WL.sreg (by simp [h]; rfl) (by simp; rfl) ?_)
      refine WL.cond (t := true) (by simp [h]) (fun _ => WL.skip ?_) (by simp)
      by_cases k : 10 < s.Handles[i].length
      · have k' : (10 : Int) < s.Handles[i].length := by omega
        have hv : fewB s = false := by
          have : (s.Handles.all fun b => decide (b.length ≤ 10)) = false := List.all_eq_false.2 ⟨_, List.getElem_mem h, by simp; omega⟩
          simp [fewB, this]
        refine WL.seq (WL.block (WL.sreg (by simp [h, k, k']; rfl) (by simp; rfl) ?_))
        refine WL.cond (t := true) (by simp [k, k']) (fun _ => WL.sreg (by simp; rfl) (by simp; rfl) (WL.ret ⟨.inr rfl, ?_⟩)) (by simp)
        simp [fi20, hv]
      · have k' : ¬ (10 : Int) < s.Handles[i].length := by omega
        refine WL.seq (WL.block (WL.sreg (by simp [h, k, k']; rfl) (by simp; rfl) ?_))
        refine WL.cond (t := false) (by simp [k, k']) (by simp) fun _ => WL.skip ?_
        refine WL.reg (RL.run (by simp [wrap_succ hS2 h]; rfl) ⟨_, by simp; rfl, h, ?_, fun j hj hji => ?_⟩)
        · simp
        · by_cases e : j = i
          · subst e; omega
          · exact hp j hj (by omega)
    · have hH : (s.Handles.all fun b => decide (b.length ≤ 10)) = true := List.all_eq_true.2 fun b hb => by
        obtain ⟨j, hj, rfl⟩ := List.mem_iff_getElem.1 hb
        simpa using hp j hj (by omega)
      have hv : fewB s = true := by
        simp only [fewB, hB, hH, Bool.and_true, Bool.and_eq_true, decide_eq_true_eq]
        omega
      refine WL.seq (WL.sreg (by simp [h]; rfl) (by simp; rfl) ?_)
      refine WL.cond (t := false) (by simp [h]) (by simp) fun _ => WL.exit ?_
      refine WL.sreg (by simp; rfl) (by simp; rfl) (WL.ret ⟨.inr rfl, ?_⟩)
      simp [fi20, hv]
end Go.OT
set_option linter.unusedSimpArgs false
set_option linter.unusedVariables false
namespace Go.OT
open Go.Proofs

abbrev smS (a b : St) : SL := [(200, 0, .bptr 2 1 0), (201, 0, sB false a.There), (202, 0, sUU false a.Body), (203, 0, sII false a.Handles), (299, 1, .non), (300, 0, .bptr 3 1 0), (301, 0, sB false b.There), (302, 0, sUU false b.Body), (303, 0, sII false b.Handles), (399, 1, .non)]
abbrev smQ (v : Bool) : Ex → SL → Prop := fun e L => (e = Ex.nrm ∨ e = Ex.ret) ∧ RetOk fi24.rs [] (bl v) L

theorem ne_at {α : Type} [DecidableEq α] {a b : List α} {i : Nat} (h : i < a.length) (h' : i < b.length) (hne : a[i] ≠ b[i]) : (a == b) = false := by
  simp only [beq_eq_false_iff_ne, ne_eq]
  intro e
  subst e
  exact hne rfl
theorem eq_all {α : Type} {a b : List α} (hl : a.length = b.length) (h : ∀ j (hj : j < a.length) (hj' : j < b.length), a[j] = b[j]) : a = b := List.ext_getElem hl h

set_option maxHeartbeats 4000000 in
/-- The bits. -/
theorem sm_a (a b : St) (h1 : Small a.There.length) (hl : a.There.length = b.There.length) (v : Bool) (hf : (a.There == b.There) = false → v = false)
    (k : a.There = b.There → WL Try.prog fi24.nt c24_33 (smS a b ++ [(500, 0, i64 a.There.length), (3800, 0, bl false)]) (smQ v)) :
    WL Try.prog fi24.nt c24_34 (smS a b ++ [(3300, 0, bl false)]) (smQ v) := by
  refine WL.seq (WL.sreg (by simp; rfl) (by simp; rfl) ?_)
  refine WL.block (WL.count a.There.length (fun i => smS a b ++ [(500, 0, i64 i)]) (fun i => ∀ j (hj : j < a.There.length) (hj' : j < b.There.length), j < i → a.There[j] = b.There[j]) (by simp) (fun j _ _ h => absurd h (Nat.not_lt_zero _)) fun i hi hp => ?_)
  by_cases h : i < a.There.length
  · have h' : i < b.There.length := by omega
    refine WL.seq (WL.sreg (by simp [h]; rfl) (by simp; rfl) ?_)
    refine WL.cond (t := true) (by simp [h]) (fun _ => WL.skip ?_) (by simp)
    by_cases e : a.There[i] = b.There[i]
    · have e' : (a.There[i] == b.There[i]) = true := by simp [e]
      refine WL.seq (WL.block (WL.seq (WL.draw mixed (by simp [cleanL, noH]) (DL.o (by simp [h, h', e]; exact ⟨rfl, rfl⟩) (DL.nil ⟨by kernel_rfl, _, by simp; rfl, ?_⟩)))))
      refine WL.cond (t := false) (by simp) (by simp) fun _ => WL.skip ?_
      refine WL.reg (RL.run (by simp [wrap_succ h1 h]; rfl) ⟨_, by simp; rfl, h, ?_, fun j hj hj' hji => ?_⟩)
      · simp
      · by_cases e2 : j = i
        · subst e2; exact e
        · exact hp j hj hj' (by omega)
    · have e' : (a.There[i] == b.There[i]) = false := by simpa using e
      refine WL.seq (WL.block (WL.seq (WL.draw mixed (by simp [cleanL, noH]) (DL.o (by simp [h, h', e, e']; exact ⟨rfl, rfl⟩) (DL.nil ⟨by kernel_rfl, _, by simp; rfl, ?_⟩)))))
      refine WL.cond (t := true) (by simp [e, e']) (fun _ => WL.sreg (by simp; rfl) (by simp; rfl) (WL.ret ⟨.inr rfl, ?_⟩)) (by simp)
      have := hf (by simpa using ne_at h h' e)
      simp [fi24, this]
  · refine WL.seq (WL.sreg (by simp [h]; rfl) (by simp; rfl) ?_)
    refine WL.cond (t := false) (by simp [h]) (by simp) fun _ => WL.exit ?_
    obtain rfl : i = a.There.length := by omega
    have := k (eq_all hl fun j hj hj' => hp j hj hj' hj)
    simpa using this

set_option maxHeartbeats 4000000 in
/-- The bodies. -/
theorem sm_b (a b : St) (h1 : Small a.Body.length) (hl : a.Body.length = b.Body.length) (n : Nat) (v : Bool) (hf : (a.Body == b.Body) = false → v = false)
    (k : a.Body = b.Body → WL Try.prog fi24.nt c24_32 (smS a b ++ [(600, 0, i64 a.Body.length), (5600, 0, bl false)]) (smQ v)) :
    WL Try.prog fi24.nt c24_33 (smS a b ++ [(500, 0, i64 n), (3800, 0, bl false)]) (smQ v) := by
  refine WL.seq (WL.sreg (by simp; rfl) (by simp; rfl) ?_)
  refine WL.block (WL.count a.Body.length (fun i => smS a b ++ [(600, 0, i64 i)]) (fun i => ∀ j (hj : j < a.Body.length) (hj' : j < b.Body.length), j < i → a.Body[j] = b.Body[j]) (by simp) (fun j _ _ h => absurd h (Nat.not_lt_zero _)) fun i hi hp => ?_)
  by_cases h : i < a.Body.length
  · have h' : i < b.Body.length := by omega
    refine WL.seq (WL.sreg (by simp [h]; rfl) (by simp; rfl) ?_)
    refine WL.cond (t := true) (by simp [h]) (fun _ => WL.skip ?_) (by simp)
    by_cases e : a.Body[i] = b.Body[i]
    · refine WL.seq (WL.block (WL.seq (WL.draw mixed (by simp [cleanL, noH]) (DL.o (by simp [h, h', e]; exact ⟨rfl, rfl⟩) (DL.nil ⟨by kernel_rfl, _, by simp; rfl, ?_⟩)))))
      refine WL.cond (t := false) (by simp) (by simp) fun _ => WL.skip ?_
      refine WL.reg (RL.run (by simp [wrap_succ h1 h]; rfl) ⟨_, by simp; rfl, h, ?_, fun j hj hj' hji => ?_⟩)
      · simp
      · by_cases e2 : j = i
        · subst e2; exact e
        · exact hp j hj hj' (by omega)
    · refine WL.seq (WL.block (WL.seq (WL.draw mixed (by simp [cleanL, noH]) (DL.o (by simp [h, h', b2s_bytes, strOf_toList]; exact ⟨rfl, rfl⟩) (DL.nil ⟨by kernel_rfl, _, by simp; rfl, ?_⟩)))))
      refine WL.cond (t := true) (by simp [e]) (fun _ => WL.sreg (by simp; rfl) (by simp; rfl) (WL.ret ⟨.inr rfl, ?_⟩)) (by simp)
      have := hf (by simpa using ne_at h h' e)
      simp [fi24, this]
  · refine WL.seq (WL.sreg (by simp [h]; rfl) (by simp; rfl) ?_)
    refine WL.cond (t := false) (by simp [h]) (by simp) fun _ => WL.exit ?_
    obtain rfl : i = a.Body.length := by omega
    have := k (eq_all hl fun j hj hj' => hp j hj hj' hj)
    simpa using this
end Go.OT
set_option linter.unusedSimpArgs false
set_option linter.unusedVariables false
namespace Go.OT
open Go.Proofs

set_option maxHeartbeats 4000000 in
/-- The handles. -/
theorem sm_c (a b : St) (h1 : Small a.Handles.length) (h2 : ∀ l ∈ a.Handles, Small l.length) (hl : a.Handles.length = b.Handles.length) (n : Nat) (v : Bool) (hf : (a.Handles == b.Handles) = false → v = false) (ht : a.Handles = b.Handles → v = true) :
    WL Try.prog fi24.nt c24_32 (smS a b ++ [(600, 0, i64 n), (5600, 0, bl false)]) (smQ v) := by
  refine WL.seq (WL.sreg (by simp; rfl) (by simp; rfl) ?_)
  refine WL.block (WL.count a.Handles.length (fun i => smS a b ++ [(700, 0, i64 i)]) (fun i => ∀ j (hj : j < a.Handles.length) (hj' : j < b.Handles.length), j < i → a.Handles[j] = b.Handles[j]) (by simp) (fun j _ _ h => absurd h (Nat.not_lt_zero _)) fun i hi hp => ?_)
  by_cases h : i < a.Handles.length
  · have h' : i < b.Handles.length := by omega
    have hs : Small a.Handles[i].length := h2 _ (List.getElem_mem h)
    refine WL.seq (WL.sreg (by simp [h]; rfl) (by simp; rfl) ?_)
    refine WL.cond (t := true) (by simp [h]) (fun _ => WL.skip ?_) (by simp)
    by_cases e : a.Handles[i].length = b.Handles[i].length
    · have e' : ((a.Handles[i].length : Int) != (b.Handles[i].length : Int)) = false := by simp [e]
      refine WL.seq (WL.block (WL.seq (WL.seq (WL.draw mixed (by simp [cleanL, noH]) (DL.o (by simp [h, h', e']; exact ⟨rfl, rfl⟩) (DL.nil ⟨by kernel_rfl, _, by simp; rfl, ?_⟩))))))
      refine WL.cond (t := false) (by simp) (by simp) fun _ => WL.skip ?_
      refine WL.sreg (by simp; rfl) (by simp; rfl) ?_
      refine WL.block (WL.count a.Handles[i].length (fun k => smS a b ++ [(700, 0, i64 i), (800, 0, i64 k)]) (fun k => ∀ j (hj : j < a.Handles[i].length) (hj' : j < b.Handles[i].length), j < k → a.Handles[i][j] = b.Handles[i][j]) (by simp) (fun j _ _ h => absurd h (Nat.not_lt_zero _)) fun k hk hq => ?_)
      by_cases g : k < a.Handles[i].length
      · have g' : k < b.Handles[i].length := by omega
        refine WL.seq (WL.sreg (by simp [h, g]; rfl) (by simp; rfl) ?_)
        refine WL.cond (t := true) (by simp [g]) (fun _ => WL.skip ?_) (by simp)
        by_cases d : a.Handles[i][k] = b.Handles[i][k]
        · have d' : (a.Handles[i][k] != b.Handles[i][k]) = false := by simp [d]
          refine WL.seq (WL.block (WL.seq (WL.draw mixed (by simp [cleanL, noH]) (DL.o (by simp [h, h', g, g', d']; exact ⟨rfl, rfl⟩) (DL.nil ⟨by kernel_rfl, _, by simp; rfl, ?_⟩)))))
          refine WL.cond (t := false) (by simp) (by simp) fun _ => WL.skip ?_
          refine WL.reg (RL.run (by simp [wrap_succ hs g]; rfl) ⟨_, by simp; rfl, g, ?_, fun j hj hj' hji => ?_⟩)
          · simp
          · by_cases e2 : j = k
            · subst e2; exact d
            · exact hq j hj hj' (by omega)
        · have d' : (a.Handles[i][k] != b.Handles[i][k]) = true := by simpa using d
          refine WL.seq (WL.block (WL.seq (WL.draw mixed (by simp [cleanL, noH]) (DL.o (by simp [h, h', g, g', d']; exact ⟨rfl, rfl⟩) (DL.nil ⟨by kernel_rfl, _, by simp; rfl, ?_⟩)))))
          refine WL.cond (t := true) (by simp) (fun _ => WL.sreg (by simp; rfl) (by simp; rfl) (WL.ret ⟨.inr rfl, ?_⟩)) (by simp)
          have hne : a.Handles[i] ≠ b.Handles[i] := fun q => d (by simp only [q])
          have := hf (by simpa using ne_at h h' hne)
          simp [fi24, this]
      · refine WL.seq (WL.sreg (by simp [h, g]; rfl) (by simp; rfl) ?_)
        refine WL.cond (t := false) (by simp [g]) (by simp) fun _ => WL.exit ?_
        have hrow : a.Handles[i] = b.Handles[i] := eq_all e fun j hj hj' => hq j hj hj' (by omega)
        refine WL.reg (RL.run (by simp [wrap_succ h1 h]; rfl) ⟨_, by simp; rfl, h, ?_, fun j hj hj' hji => ?_⟩)
        · simp
        · by_cases e2 : j = i
          · subst e2; exact hrow
          · exact hp j hj hj' (by omega)
    · have e' : ((a.Handles[i].length : Int) != (b.Handles[i].length : Int)) = true := by simp; omega
      refine WL.seq (WL.block (WL.seq (WL.seq (WL.draw mixed (by simp [cleanL, noH]) (DL.o (by simp [h, h', e']; exact ⟨rfl, rfl⟩) (DL.nil ⟨by kernel_rfl, _, by simp; rfl, ?_⟩))))))
      refine WL.cond (t := true) (by simp) (fun _ => WL.sreg (by simp; rfl) (by simp; rfl) (WL.ret ⟨.inr rfl, ?_⟩)) (by simp)
      have hne : a.Handles[i] ≠ b.Handles[i] := fun q => e (by rw [q])
      have := hf (by simpa using ne_at h h' hne)
      simp [fi24, this]
  · refine WL.seq (WL.sreg (by simp [h]; rfl) (by simp; rfl) ?_)
    refine WL.cond (t := false) (by simp [h]) (by simp) fun _ => WL.exit ?_
    have := ht (eq_all hl fun j hj hj' => hp j hj hj' (by omega))
    refine WL.sreg (by simp; rfl) (by simp; rfl) (WL.ret ⟨.inr rfl, ?_⟩)
    simp [fi24, this]

set_option maxHeartbeats 4000000 in
/-- The document's sameness of two states. -/
theorem refsame_fn (a b : St) (ha : Sized a) : FnC Try.prog 24 [] [encS false a, encS false b] [] (bl (Same a b)) := by
  have h1 : Small a.There.length := by have := ha.t; unfold Small; omega
  have h2 : Small a.Body.length := by have := ha.b; unfold Small; omega
  have h3 : Small a.Handles.length := by have := ha.h; unfold Small; omega
  have h4 : ∀ l ∈ a.Handles, Small l.length := fun l hl => by have := ha.hs l hl; unfold Small; omega
  refine FnC.go ok24 rfl ?_
  refine WL.sreg (by simp; rfl) (by simp; rfl) ?_
  by_cases e1 : a.There.length = b.There.length
  · have f1 : ((a.There.length : Int) != (b.There.length : Int)) = false := by simp [e1]
    by_cases e2 : a.Body.length = b.Body.length
    · have f2 : ((a.Body.length : Int) != (b.Body.length : Int)) = false := by simp [e2]
      by_cases e3 : a.Handles.length = b.Handles.length
      · have f3 : ((a.Handles.length : Int) != (b.Handles.length : Int)) = false := by simp [e3]
        refine WL.seq (WL.sreg (by simp [f1, f2, f3]; rfl) (by simp; rfl) ?_)
        refine WL.cond (t := false) (by simp) (by simp) fun _ => WL.skip ?_
        refine sm_a a b h1 e1 (Same a b) (fun h => by simp [Same, h]) fun g1 => ?_
        refine sm_b a b h2 e2 _ (Same a b) (fun h => by simp only [Same, h, Bool.false_and, Bool.and_false]) fun g2 => ?_
        exact sm_c a b h3 h4 e3 _ (Same a b) (fun h => by simp only [Same, h, Bool.false_and, Bool.and_false]) fun g3 => by simp [Same, g1, g2, g3]
      · have f3 : ((a.Handles.length : Int) != (b.Handles.length : Int)) = true := by simp; omega
        have hv : Same a b = false := by
          have : (a.Handles == b.Handles) = false := by simpa using fun h => e3 (by rw [h])
          simp only [Same, this, Bool.and_false]
        refine WL.seq (WL.sreg (by simp [f1, f2, f3]; rfl) (by simp; rfl) ?_)
        refine WL.cond (t := true) (by simp) (fun _ => WL.sreg (by simp; rfl) (by simp; rfl) (WL.ret ⟨.inr rfl, ?_⟩)) (by simp)
        simp [fi24, hv]
    · have f2 : ((a.Body.length : Int) != (b.Body.length : Int)) = true := by simp; omega
      have hv : Same a b = false := by
        have : (a.Body == b.Body) = false := by simpa using fun h => e2 (by rw [h])
        simp only [Same, this, Bool.and_false, Bool.false_and]
      refine WL.seq (WL.sreg (by simp [f1, f2]; rfl) (by simp; rfl) ?_)
      refine WL.cond (t := true) (by simp) (fun _ => WL.sreg (by simp; rfl) (by simp; rfl) (WL.ret ⟨.inr rfl, ?_⟩)) (by simp)
      simp [fi24, hv]
  · have f1 : ((a.There.length : Int) != (b.There.length : Int)) = true := by simp; omega
    have hv : Same a b = false := by
      have : (a.There == b.There) = false := by simpa using fun h => e1 (by rw [h])
      simp only [Same, this, Bool.false_and]
    refine WL.seq (WL.sreg (by simp [f1]; rfl) (by simp; rfl) ?_)
    refine WL.cond (t := true) (by simp) (fun _ => WL.sreg (by simp; rfl) (by simp; rfl) (WL.ret ⟨.inr rfl, ?_⟩)) (by simp)
    simp [fi24, hv]
end Go.OT
set_option linter.unusedSimpArgs false
set_option linter.unusedVariables false
namespace Go.OT
open Go.Proofs

/-! The document's Do: its state is lent, and comes back changed. -/
abbrev gsT (s : St) : List (Gh Unit) := [.nod (sB true s.There), .nod (sS true s.Body), .nod (sII true s.Handles)]
abbrev vwT (s : St) : AU := .agg [.view 1000000 0 [] 0 s.There.length, .view 1000100 0 [] 0 s.Body.length, .view 1000200 0 [] 0 s.Handles.length]
abbrev ghT (s : St) : SL := [(1000000, 0, sB true s.There), (1000100, 0, sS true s.Body), (1000200, 0, sII true s.Handles)]
abbrev rb1 (cl : Int) : SL := [(100, 0, i64 cl)]
abbrev rb3 (s : St) : SL := [(300, 0, .bptr 3 1 0), (301, 0, .view 1000000 0 [] 0 s.There.length), (302, 0, .view 1000100 0 [] 0 s.Body.length), (303, 0, .view 1000200 0 [] 0 s.Handles.length), (399, 1, .non)]
abbrev rb5 (q : Op) : SL := [(500, 0, .bptr 5 1 0), (501, 0, i64 q.Kind), (502, 0, i64 q.Page), (503, 0, i64 q.Handle), (504, 0, i64 q.Off), (505, 0, i64 q.N), (506, 0, sU false q.Data), (599, 1, .non)]
abbrev rb6 : SL := [(600, 0, .bptr 6 1 0), (601, 0, i64 0), (602, 0, i64 0), (603, 0, i64 0), (604, 0, .sl true () 1 0 []), (699, 1, .non)]
abbrev rbQ (s' : St) (r : Rs) : Ex → SL → Prop := fun e L => e = Ex.ret ∧ RetOk fi26.rs (gsT s') (encR true r) L
theorem WL.up {P : Program} {nt : Nat} {cc : Cd} {L : SL} {R : SL → Prop} {Q : Ex → SL → Prop} (h : WL P nt cc L fun e L => e = Ex.ret ∧ R L) (hq : ∀ L, R L → Q .ret L) : WL P nt cc L Q :=
  h.mono fun e L ⟨h1, h2⟩ => by subst h1; exact hq L h2
abbrev rbA (s : St) (cl : Int) (q : Op) : SL := rb1 cl ++ (rb3 s ++ (rb5 q ++ rb6))

set_option maxHeartbeats 4000000 in
/-- The first look. -/
theorem dr_start (s : St) (cl : Int) (q : Op) (s' : St) (r : Rs)
    (h1 : (cl < 0 ∨ (s.Handles.length : Int) ≤ cl ∨ q.Kind < 1 ∨ 8 < q.Kind) → WL Try.prog fi26.nt c26_0 (rbA s cl q ++ ((2600, 0, bl true) :: ghT s)) (rbQ s' r))
    (h2 : ¬ (cl < 0 ∨ (s.Handles.length : Int) ≤ cl ∨ q.Kind < 1 ∨ 8 < q.Kind) → WL Try.prog fi26.nt c26_60 (rbA s cl q ++ ((2600, 0, bl false) :: ghT s)) (rbQ s' r)) :
    FnC Try.prog 26 (gsT s) [vwT s, i64 cl, encO false q] (gsT s') (encR true r) := by
  refine FnC.go ok26 rfl ?_
  refine WL.sregC (RL.boxW (by simp; rfl) (by simp) (by simp [isVw]) (by simp) ?_)
  refine RL.o (by simp; rfl) (RL.nil ⟨_, by simp; rfl, ?_⟩)
  refine WL.seq ?_
  by_cases k1 : cl < 0
  · refine WL.sreg (by simp [k1]; rfl) (by simp; rfl) ?_
    exact WL.cond (t := true) (by simp) (fun _ => (h1 (.inl k1)).up fun _ h => ⟨.inr rfl, h⟩) (by simp)
  by_cases k2 : (s.Handles.length : Int) ≤ cl
  · refine WL.sreg (by simp [k1, k2]; rfl) (by simp; rfl) ?_
    exact WL.cond (t := true) (by simp) (fun _ => (h1 (.inr (.inl k2))).up fun _ h => ⟨.inr rfl, h⟩) (by simp)
  by_cases k3 : q.Kind < 1
  · refine WL.sreg (by simp [k1, k2, k3]; rfl) (by simp; rfl) ?_
    exact WL.cond (t := true) (by simp) (fun _ => (h1 (.inr (.inr (.inl k3)))).up fun _ h => ⟨.inr rfl, h⟩) (by simp)
  by_cases k4 : 8 < q.Kind
  · refine WL.sreg (by simp [k1, k2, k3, k4]; rfl) (by simp; rfl) ?_
    exact WL.cond (t := true) (by simp) (fun _ => (h1 (.inr (.inr (.inr k4)))).up fun _ h => ⟨.inr rfl, h⟩) (by simp)
  · refine WL.sreg (by simp [k1, k2, k3, k4]; rfl) (by simp; rfl) ?_
    exact WL.cond (t := false) (by simp) (by simp) (fun _ => WL.skip ((h2 (by omega)).up fun _ h => ⟨.inr rfl, h⟩))
end Go.OT
set_option linter.unusedSimpArgs false
set_option linter.unusedVariables false
namespace Go.OT
open Go.Proofs

abbrev rbP (s : St) (cl : Int) (q : Op) (p : Int) (t : SL) : SL := rb1 cl ++ (rb3 s ++ (rb5 q ++ (rb6 ++ ((700, 0, i64 p) :: (t ++ ghT s)))))

set_option maxHeartbeats 4000000 in
/-- No call: client or kind is none. -/
theorem dr_none (s : St) (cl : Int) (q : Op) : WL Try.prog fi26.nt c26_0 (rbA s cl q ++ ((2600, 0, bl true) :: ghT s)) (rbQ s (rsE 1)) := by
  refine WL.sregC (RL.call0 false (fail_fn 1) (by simp) (by simp) (RL.o (by simp; rfl) (RL.nil ⟨_, by simp; rfl, ?_⟩)))
  refine WL.ret ⟨rfl, ?_⟩
  simp [fi26, rsE]

set_option maxHeartbeats 4000000 in
/-- The page is looked at for kinds 2, 6, 8. -/
theorem dr_page (s : St) (cl : Int) (q : Op) (s' : St) (r : Rs) (hk : q.Kind = 2 ∨ q.Kind = 6 ∨ q.Kind = 8) (hsm : Small s.There.length)
    (e1 : isPage s q.Page = false → s' = s ∧ r = rsE 1)
    (e2 : isPage s q.Page = true → there s q.Page = false → s' = s ∧ r = rsE 2)
    (k : there s q.Page = true → WL Try.prog fi26.nt c26_58 (rbP s cl q q.Page [(5800, 0, bl false)]) (rbQ s' r)) :
    WL Try.prog fi26.nt c26_60 (rbA s cl q ++ ((2600, 0, bl false) :: ghT s)) (rbQ s' r) := by
  refine WL.sreg (by simp; rfl) (by simp; rfl) ?_
  refine WL.seq ?_
  suffices h : WL Try.prog fi26.nt c26_8 (rbP s cl q q.Page [(4200, 0, bl true)]) (Ex.thenL (fun L' => WL Try.prog fi26.nt c26_58 L' (rbQ s' r)) (rbQ s' r)) by
    clear e1 e2 k
    obtain ⟨K, Pg, Hd, Of, Nn, Dt⟩ := q
    rcases hk with hk | hk | hk <;> (simp only at hk; subst hk; exact WL.sreg (by simp <;> rfl) (by simp <;> rfl) h)
  refine WL.cond (t := true) (by simp) (fun _ => ?_) (by simp)
  refine WL.seq ?_
  by_cases h1 : q.Page < 0
  · obtain ⟨a, b⟩ := e1 (by simp [isPage]; omega)
    subst a b
    refine WL.sreg (by simp [h1]; rfl) (by simp; rfl) ?_
    refine WL.cond (t := true) (by simp) (fun _ => ?_) (by simp)
    refine WL.sregC (RL.call0 false (fail_fn 1) (by simp) (by simp) (RL.o (by simp; rfl) (RL.nil ⟨_, by simp; rfl, ?_⟩)))
    refine WL.ret ⟨rfl, ?_⟩
    simp [fi26, rsE]
  obtain ⟨p, hp⟩ := Int.eq_ofNat_of_zero_le (a := q.Page) (by omega)
  by_cases h2 : s.There.length ≤ p
  · obtain ⟨a, b⟩ := e1 (by simp [isPage, hp]; omega)
    subst a b
    refine WL.sreg (by simp [hp, h2]; rfl) (by simp; rfl) ?_
    refine WL.cond (t := true) (by simp [h2]) (fun _ => ?_) (by simp)
    refine WL.sregC (RL.call0 false (fail_fn 1) (by simp) (by simp) (RL.o (by simp; rfl) (RL.nil ⟨_, by simp; rfl, ?_⟩)))
    refine WL.ret ⟨rfl, ?_⟩
    simp [fi26, rsE]
  have h2' : p < s.There.length := by omega
  refine WL.sreg (by simp [hp, h2, h2']; rfl) (by simp; rfl) ?_
  refine WL.cond (t := false) (by simp [h2, h2']) (by simp) (fun _ => WL.skip ?_)
  refine WL.sreg (by simp [h2', Nat.succ_le_of_lt h2']; rfl) (by simp; rfl) ?_
  have hth : there s q.Page = s.There[p] := by simp [there, isPage, hp, h2']
  cases h3 : s.There[p] with
  | false =>
    obtain ⟨a, b⟩ := e2 (by simp [isPage, hp]; omega) (by rw [hth, h3])
    subst a b
    refine WL.cond (t := true) (by simp [h3]) (fun _ => ?_) (by simp)
    refine WL.sregC (RL.call0 false (fail_fn 2) (by simp) (by simp) (RL.o (by simp; rfl) (RL.nil ⟨_, by simp; rfl, ?_⟩)))
    refine WL.ret ⟨rfl, ?_⟩
    simp [fi26, rsE]
  | true =>
    refine WL.cond (t := false) (by simp [h3]) (by simp) (fun _ => WL.skip ?_)
    have := k (by rw [hth, h3])
    simp only [rbP, rb5, hp] at this
    exact this

set_option maxHeartbeats 4000000 in
/-- The handle is looked at for kinds 3, 4, 5. -/
theorem dr_held (s : St) (cl : Int) (q : Op) (s' : St) (r : Rs) (hk : q.Kind = 3 ∨ q.Kind = 4 ∨ q.Kind = 5)
    (e5 : heldF s cl q.Handle < 0 → s' = s ∧ r = rsE 5)
    (k : 0 ≤ heldF s cl q.Handle → WL Try.prog fi26.nt c26_57 (rbP s cl q (heldF s cl q.Handle) [(7900, 0, bl false)]) (rbQ s' r)) :
    WL Try.prog fi26.nt c26_60 (rbA s cl q ++ ((2600, 0, bl false) :: ghT s)) (rbQ s' r) := by
  refine WL.sreg (by simp; rfl) (by simp; rfl) ?_
  refine WL.seq ?_
  suffices h : WL Try.prog fi26.nt c26_13 (rbP s cl q q.Page [(7200, 0, bl true)]) (Ex.thenL (fun L' => WL Try.prog fi26.nt c26_57 L' (rbQ s' r)) (rbQ s' r)) by
    clear e5 k
    obtain ⟨K, Pg, Hd, Of, Nn, Dt⟩ := q
    rcases hk with hk | hk | hk <;> (simp only at hk; subst hk; exact WL.sreg (by simp <;> rfl) (by simp <;> rfl) (WL.cond (t := false) (by simp) (by simp) fun _ => WL.skip (WL.seq (WL.sreg (by simp <;> rfl) (by simp <;> rfl) h))))
  refine WL.cond (t := true) (by simp) (fun _ => ?_) (by simp)
  refine WL.sregC (RL.o (by simp; rfl) (RL.call0 true (held_fn s cl q.Handle) (by simp) (by simp) (RL.o (by simp; rfl) (RL.nil ⟨_, by simp; rfl, ?_⟩))))
  refine WL.sreg (by simp; rfl) (by simp; rfl) ?_
  by_cases h1 : heldF s cl q.Handle < 0
  · obtain ⟨a, b⟩ := e5 h1
    subst a b
    refine WL.cond (t := true) (by simp [h1]) (fun _ => ?_) (by simp)
    refine WL.sregC (RL.call0 false (fail_fn 5) (by simp) (by simp) (RL.o (by simp; rfl) (RL.nil ⟨_, by simp; rfl, ?_⟩)))
    refine WL.ret ⟨rfl, ?_⟩
    simp [fi26, rsE]
  · refine WL.cond (t := false) (by simp; omega) (by simp) (fun _ => WL.skip ?_)
    have d : decide (heldF s cl q.Handle < 0) = false := by simpa using Int.not_lt.1 h1
    rw [d]
    exact k (by omega)
end Go.OT
set_option linter.unusedSimpArgs false
set_option linter.unusedVariables false
namespace Go.OT
open Go.Proofs

theorem immI : ∀ l : List Int, noImmL (l.map i64) = true
  | [] => rfl
  | _ :: l => immI l
theorem immB : ∀ l : List Bool, noImmL (l.map bl) = true
  | [] => rfl
  | _ :: l => immB l
theorem immS : ∀ l : List (List UInt8), noImmL (l.map str) = true
  | [] => rfl
  | _ :: l => immS l
theorem immII : ∀ l : List (List Int), noImmL (l.map (sI true)) = true
  | [] => rfl
  | a :: l => by
    show (noImm (sI true a : AU) && noImmL (l.map (sI true))) = true
    rw [immII l, Bool.and_true]
    simp only [noImm, immI, Bool.and_self]
theorem side_give (H H' : List (List Int)) (hl : H'.length = H.length) (k : Int) : sideOk true [.nod (sII true H)] [.nod (sII true H')] (i64 k) = true := by
  have : noImm (sII true H' : AU) = true := by simp only [noImm, immII, Bool.and_self]
  simp only [sideOk, List.all_cons, List.all_nil, ghImm, this]
  simp [hl]

/-- What the end gives back. -/
abbrev rsO : Rs := ⟨0, 0, 0, []⟩

set_option maxHeartbeats 4000000 in
/-- A flush of one: nothing happens. -/
theorem dr_flush (s : St) (cl : Int) (P Hd Of Nn : Int) (D : List UInt8) : WL Try.prog fi26.nt c26_58 (rbP s cl ⟨6, P, Hd, Of, Nn, D⟩ P [(5800, 0, bl false)]) (rbQ s rsO) := by
  refine WL.seq (WL.sreg (by simp <;> rfl) (by simp <;> rfl) ?_)
  refine WL.cond (t := false) (by simp) (by simp) (fun _ => WL.skip ?_)
  refine WL.seq (WL.sreg (by simp <;> rfl) (by simp <;> rfl) ?_)
  refine WL.block (WL.sreg (by simp <;> rfl) (by simp <;> rfl) ?_)
  refine WL.cond (t := false) (by simp) (by simp) (fun _ => WL.sreg (by simp <;> rfl) (by simp <;> rfl) ?_)
  refine WL.cond (t := false) (by simp) (by simp) (fun _ => WL.sreg (by simp <;> rfl) (by simp <;> rfl) ?_)
  refine WL.cond (t := false) (by simp) (by simp) (fun _ => WL.sreg (by simp <;> rfl) (by simp <;> rfl) ?_)
  refine WL.cond (t := false) (by simp) (by simp) (fun _ => WL.sreg (by simp <;> rfl) (by simp <;> rfl) ?_)
  refine WL.cond (t := false) (by simp) (by simp) (fun _ => WL.sreg (by simp <;> rfl) (by simp <;> rfl) ?_)
  refine WL.cond (t := false) (by simp) (by simp) (fun _ => WL.skip ?_)
  refine WL.sreg (by simp <;> rfl) (by simp <;> rfl) (WL.nil1 604 true 1 (by simp) (WL.ret ⟨rfl, ?_⟩))
  simp [fi26]

set_option maxHeartbeats 4000000 in
/-- A fetch. -/
theorem dr_fetch (s : St) (c : Nat) (hc : c < s.Handles.length) (hs : Small s.Handles[c].length) (P Hd Of Nn : Int) (D : List UInt8) (s' : St) (r : Rs)
   (e4 : freeH s.Handles[c] = false → s' = s ∧ r = rsE 4) (k : Nat) (ek : freeH s.Handles[c] = true → k < s.Handles[c].length ∧ freeI s.Handles[c] = (k : Int) ∧ s' = ⟨s.There, s.Body, s.Handles.set c (s.Handles[c].set k P)⟩ ∧ r = ⟨0, P, k, []⟩) :
   WL Try.prog fi26.nt c26_58 (rbP s c ⟨2, P, Hd, Of, Nn, D⟩ P [(5800, 0, bl false)]) (rbQ s' r) := by
  refine WL.seq (WL.sreg (by simp <;> rfl) (by simp <;> rfl) ?_)
  refine WL.cond (t := false) (by simp) (by simp) (fun _ => WL.skip ?_)
  refine WL.seq (WL.sreg (by simp <;> rfl) (by simp <;> rfl) ?_)
  refine WL.block (WL.sreg (by simp <;> rfl) (by simp <;> rfl) ?_)
  refine WL.cond (t := false) (by simp) (by simp) (fun _ => WL.sreg (by simp <;> rfl) (by simp <;> rfl) ?_)
  refine WL.cond (t := true) (by simp) (fun _ => ?_) (by simp)
  refine WL.seq (WL.sregC (RL.o (by simp; rfl) (RL.call0 true (room_fn s c hc hs) (by simp) (by simp) (RL.o (by simp; rfl) (RL.nil ⟨_, by simp; rfl, ?_⟩)))))
  cases h : freeH s.Handles[c] with
  | false =>
    obtain ⟨a, b⟩ := e4 h
    subst a b
    refine WL.cond (t := true) (by simp) (fun _ => ?_) (by simp)
    refine WL.sregC (RL.call0 false (fail_fn 4) (by simp) (by simp) (RL.o (by simp; rfl) (RL.nil ⟨_, by simp; rfl, ?_⟩)))
    refine WL.ret ⟨rfl, ?_⟩
    simp [fi26, rsE]
  | true =>
    obtain ⟨hk, hf, a, b⟩ := ek h
    subst a b
    refine WL.cond (t := false) (by simp) (by simp) (fun _ => WL.skip ?_)
    refine WL.sregC (RL.o (by simp; rfl) (RL.call true [(1000200, [])] (give_fn s _ _ rfl rfl c hc hs P k hk hf) (by simp) (by simp) (by simp [gkey]) (side_give _ _ (by simp) _) (RL.o (by simp; rfl) (RL.nil ⟨_, by simp; rfl, ?_⟩))))
    refine WL.nil1 604 true 1 (by simp) (WL.ret ⟨rfl, ?_⟩)
    simp [fi26]
end Go.OT
set_option linter.unusedSimpArgs false
set_option linter.unusedVariables false
namespace Go.OT
open Go.Proofs

theorem strOf_ext (w : List UInt8) (lo hi : Nat) : (strOf w).extract lo hi = strOf ((w.drop lo).take (hi - lo)) := by
  apply ByteArray.ext
  rw [ByteArray.data_extract]
  simp [strOf]
theorem strOf_app (a b : List UInt8) : strOf a ++ strOf b = strOf (a ++ b) := by
  apply ByteArray.ext
  simp [strOf]
theorem strC_of (w : List UInt8) : (strC (strOf w) : List AU) = w.map fun b => u8 (b.toNat : Int) := by
  simp [strC, strOf_toList]

set_option maxHeartbeats 4000000 in
theorem dr_flushAll (s : St) (cl : Int) (P Hd Of Nn : Int) (D : List UInt8) : WL Try.prog fi26.nt c26_60 (rbA s cl ⟨7, P, Hd, Of, Nn, D⟩ ++ ((2600, 0, bl false) :: ghT s)) (rbQ s rsO) := by
  refine WL.sreg (by simp <;> rfl) (by simp <;> rfl) ?_
  refine WL.seq (WL.sreg (by simp <;> rfl) (by simp <;> rfl) ?_)
  refine WL.cond (t := false) (by simp) (by simp) (fun _ => WL.skip ?_)
  refine WL.seq (WL.sreg (by simp <;> rfl) (by simp <;> rfl) ?_)
  refine WL.cond (t := false) (by simp) (by simp) (fun _ => WL.skip ?_)
  refine WL.seq (WL.sreg (by simp <;> rfl) (by simp <;> rfl) ?_)
  refine WL.block (WL.sreg (by simp <;> rfl) (by simp <;> rfl) ?_)
  refine WL.cond (t := false) (by simp) (by simp) (fun _ => WL.sreg (by simp <;> rfl) (by simp <;> rfl) ?_)
  refine WL.cond (t := false) (by simp) (by simp) (fun _ => WL.sreg (by simp <;> rfl) (by simp <;> rfl) ?_)
  refine WL.cond (t := false) (by simp) (by simp) (fun _ => WL.sreg (by simp <;> rfl) (by simp <;> rfl) ?_)
  refine WL.cond (t := false) (by simp) (by simp) (fun _ => WL.sreg (by simp <;> rfl) (by simp <;> rfl) ?_)
  refine WL.cond (t := false) (by simp) (by simp) (fun _ => WL.sreg (by simp <;> rfl) (by simp <;> rfl) ?_)
  refine WL.cond (t := false) (by simp) (by simp) (fun _ => WL.skip ?_)
  refine WL.sreg (by simp <;> rfl) (by simp <;> rfl) (WL.nil1 604 true 1 (by simp) (WL.ret ⟨rfl, ?_⟩))
  simp [fi26]

set_option maxHeartbeats 4000000 in
/-- A handle is given back. -/
theorem dr_unpin (s : St) (c : Nat) (hc : c < s.Handles.length) (k : Nat) (hk : k < s.Handles[c].length) (P p Of Nn : Int) (D : List UInt8) :
   WL Try.prog fi26.nt c26_57 (rbP s c ⟨5, P, k, Of, Nn, D⟩ p [(7900, 0, bl false)]) (rbQ ⟨s.There, s.Body, s.Handles.set c (s.Handles[c].set k (-1))⟩ rsO) := by
  refine WL.seq (WL.sreg (by simp <;> rfl) (by simp <;> rfl) ?_)
  refine WL.block (WL.sreg (by simp <;> rfl) (by simp <;> rfl) ?_)
  refine WL.cond (t := false) (by simp) (by simp) (fun _ => WL.sreg (by simp <;> rfl) (by simp <;> rfl) ?_)
  refine WL.cond (t := false) (by simp) (by simp) (fun _ => WL.sreg (by simp <;> rfl) (by simp <;> rfl) ?_)
  refine WL.cond (t := false) (by simp) (by simp) (fun _ => WL.sreg (by simp <;> rfl) (by simp <;> rfl) ?_)
  refine WL.cond (t := false) (by simp) (by simp) (fun _ => WL.sreg (by simp <;> rfl) (by simp <;> rfl) ?_)
  refine WL.cond (t := true) (by simp) (fun _ => ?_) (by simp)
  refine WL.draw mixed (by simp [cleanL, noH]) (DL.o (by simp [hc, hk, Nat.succ_le_of_lt hk, Nat.succ_le_of_lt hc]; exact ⟨rfl, rfl⟩) (DL.nil ⟨by kernel_rfl, _, by simp; rfl, ?_⟩))
  refine WL.sreg (by simp <;> rfl) (by simp <;> rfl) (WL.nil1 604 true 1 (by simp) (WL.ret ⟨rfl, ?_⟩))
  simp [fi26, List.map_set, sI]
end Go.OT
set_option linter.unusedSimpArgs false
set_option linter.unusedVariables false
namespace Go.OT
open Go.Proofs

/-- How many handles have a page; none has what is none. -/
def pcnt (p : Int) (l : List Int) : Nat := if 0 ≤ p then cnt p l else 0
def ppins (p : Int) (l : List (List Int)) : Nat := if 0 ≤ p then pinsL p l else 0

set_option maxHeartbeats 4000000 in
theorem refpins_fn (s : St) (hs : Sized s) (p : Int) : FnC Try.prog 30 [] [encT false s, i64 p] [] (i64 (Pins s p)) := by
  have hP : Pins s p = (ppins p s.Handles : Nat) := by
    unfold Pins ppins
    by_cases h : p < 0
    · rw [if_pos h, if_neg (by omega)]; rfl
    · rw [if_neg h, if_pos (by omega)]
  refine FnC.go ok30 rfl ?_
  refine WL.sreg (by simp; rfl) (by simp; rfl) ?_
  refine WL.sreg (by simp; rfl) (by simp; rfl) ?_
  refine WL.seq (WL.sreg (by simp; rfl) (by simp; rfl) ?_)
  refine WL.block (WL.count s.Handles.length (fun i => [(100, 0, i64 p), (200, 0, .bptr 2 1 0), (201, 0, sB false s.There), (202, 0, sS false s.Body), (203, 0, sII false s.Handles), (299, 1, .non), (500, 0, i64 (ppins p (s.Handles.take i))), (600, 0, i64 i)]) (fun _ => True) (by simp [ppins, pinsL]) trivial fun i hi _ => ?_)
  have hS : Small s.Handles.length := by have := hs.h; unfold Small; omega
  by_cases h : i < s.Handles.length
  · have hi1 : i + 1 ≤ s.Handles.length := h
    have hl : s.Handles[i].length ≤ 1000 := hs.hs _ (List.getElem_mem h)
    have hSl : Small s.Handles[i].length := by unfold Small; omega
    have hle : ppins p (s.Handles.take i) ≤ 1000 * 1000 := by
      have h1 := pinsL_le p (s.Handles.take i) (fun l hl => hs.hs l (List.mem_of_mem_take hl))
      have h2 := hs.h
      simp only [List.length_take] at h1
      unfold ppins
      split <;> omega
    have hadd : ∀ k, pcnt p (s.Handles[i].take k) ≤ 1000 := fun k => by
      have := cnt_le p (s.Handles[i].take k)
      simp only [List.length_take] at this
      unfold pcnt
      split <;> omega
    refine WL.seq (WL.sreg (by simp [h]; rfl) (by simp; rfl) ?_)
    refine WL.cond (t := true) (by simp) (fun _ => WL.skip ?_) (by simp)
    refine WL.seq (WL.block (WL.sreg (by simp; rfl) (by simp; rfl) ?_))
    refine WL.block (WL.count s.Handles[i].length (fun k => [(100, 0, i64 p), (200, 0, .bptr 2 1 0), (201, 0, sB false s.There), (202, 0, sS false s.Body), (203, 0, sII false s.Handles), (299, 1, .non), (500, 0, i64 (ppins p (s.Handles.take i) + pcnt p (s.Handles[i].take k) : Nat)), (600, 0, i64 i), (700, 0, i64 k)]) (fun _ => True) (by simp [pcnt, cnt]) trivial fun k hk _ => ?_)
    by_cases h' : k < s.Handles[i].length
    · have hk1 : k + 1 ≤ s.Handles[i].length := h'
      have hS2 : Small 1000000000 := by unfold Small; omega
      refine WL.seq (WL.sreg (by simp [h, hi1, h']; rfl) (by simp; rfl) ?_)
      refine WL.cond (t := true) (by simp) (fun _ => WL.skip ?_) (by simp)
      have hcs := cnt_snoc p s.Handles[i] h'
      have hc := hadd k
      by_cases e : s.Handles[i][k] = p
      · by_cases e0 : 0 ≤ p
        · rw [if_pos e] at hcs
          have hcs' : pcnt p (s.Handles[i].take (k + 1)) = pcnt p (s.Handles[i].take k) + 1 := by simp only [pcnt, if_pos e0, hcs]
          have hw : IntKind.wrap .i64 ((ppins p (s.Handles.take i) : Int) + (pcnt p (s.Handles[i].take k) : Int) + 1) = (ppins p (s.Handles.take i) : Int) + (pcnt p (s.Handles[i].take k) : Int) + 1 := by
            simpa using wrap_succ hS2 (show ppins p (s.Handles.take i) + pcnt p (s.Handles[i].take k) < 1000000000 by omega)
          refine WL.seq (WL.block (WL.sreg (by simp [h, hi1, h', hk1, e, e0]; rfl) (by simp; rfl) ?_))
          refine WL.cond (t := true) (by simp [e0]) (fun _ => ?_) (by simp)
          refine WL.reg (RL.run (by simp [hw]; rfl) ⟨_, by simp; rfl, ?_⟩)
          refine WL.reg (RL.run (by simp [wrap_succ hSl h']; rfl) ⟨_, by simp; rfl, h', ?_, trivial⟩)
          simp [hcs']
          omega
        · have hcs' : ∀ j, pcnt p (s.Handles[i].take j) = 0 := fun j => by simp only [pcnt, if_neg e0]
          refine WL.seq (WL.block (WL.sreg (by simp [h, hi1, h', hk1, e, e0]; rfl) (by simp; rfl) ?_))
          refine WL.cond (t := false) (by simp [e0]) (by simp) (fun _ => WL.skip ?_)
          refine WL.reg (RL.run (by simp [wrap_succ hSl h']; rfl) ⟨_, by simp; rfl, h', ?_, trivial⟩)
          simp [hcs', e0]
      · rw [if_neg e] at hcs
        have eb : (s.Handles[i][k] == p) = false := by simp [e]
        have hcs' : pcnt p (s.Handles[i].take (k + 1)) = pcnt p (s.Handles[i].take k) := by simp only [pcnt, hcs, Nat.add_zero]
        refine WL.seq (WL.block (WL.sreg (by simp [h, hi1, h', hk1, eb]; rfl) (by simp; rfl) ?_))
        refine WL.cond (t := false) (by simp) (by simp) (fun _ => WL.skip ?_)
        refine WL.reg (RL.run (by simp [wrap_succ hSl h']; rfl) ⟨_, by simp; rfl, h', ?_, trivial⟩)
        simp [hcs']
    · refine WL.seq (WL.sreg (by simp [h, hi1, h']; rfl) (by simp; rfl) ?_)
      refine WL.cond (t := false) (by simp) (by simp) fun _ => WL.exit ?_
      refine WL.reg (RL.run (by simp [wrap_succ hS h]; rfl) ⟨_, by simp; rfl, h, ?_, trivial⟩)
      have hk' : k = s.Handles[i].length := by omega
      subst hk'
      have : ppins p (s.Handles.take (i + 1)) = ppins p (s.Handles.take i) + pcnt p s.Handles[i] := by
        unfold ppins pcnt
        split
        · rw [pinsL_snoc p s.Handles h]
        · rfl
      simp [this]
  · refine WL.seq (WL.sreg (by simp [h]; rfl) (by simp; rfl) ?_)
    refine WL.cond (t := false) (by simp) (by simp) fun _ => WL.exit ?_
    have hi' : i = s.Handles.length := by omega
    subst hi'
    refine WL.sreg (by simp; rfl) (by simp; rfl) (WL.ret ⟨.inr rfl, ?_⟩)
    simp [fi30, hP]
end Go.OT
set_option linter.unusedSimpArgs false
set_option linter.unusedVariables false
namespace Go.OT
open Go.Proofs

set_option maxHeartbeats 4000000 in
/-- A page is deleted. -/
theorem dr_delete (s : St) (hs : Sized s) (cl : Int) (p : Nat) (hp : p < s.There.length) (hb : p < s.Body.length) (Hd Of Nn : Int) (D : List UInt8) (s' : St) (r : Rs)
   (e7 : 0 < Pins s p → s' = s ∧ r = rsE 7) (ok : ¬ 0 < Pins s p → s' = ⟨s.There.set p false, s.Body.set p z16, s.Handles⟩ ∧ r = rsO) :
   WL Try.prog fi26.nt c26_58 (rbP s cl ⟨8, p, Hd, Of, Nn, D⟩ p [(5800, 0, bl false)]) (rbQ s' r) := by
  refine WL.seq (WL.sreg (by simp <;> rfl) (by simp <;> rfl) ?_)
  refine WL.cond (t := false) (by simp) (by simp) (fun _ => WL.skip ?_)
  refine WL.seq (WL.sreg (by simp <;> rfl) (by simp <;> rfl) ?_)
  refine WL.block (WL.sreg (by simp <;> rfl) (by simp <;> rfl) ?_)
  refine WL.cond (t := false) (by simp) (by simp) (fun _ => WL.sreg (by simp <;> rfl) (by simp <;> rfl) ?_)
  refine WL.cond (t := false) (by simp) (by simp) (fun _ => WL.sreg (by simp <;> rfl) (by simp <;> rfl) ?_)
  refine WL.cond (t := false) (by simp) (by simp) (fun _ => WL.sreg (by simp <;> rfl) (by simp <;> rfl) ?_)
  refine WL.cond (t := false) (by simp) (by simp) (fun _ => WL.sreg (by simp <;> rfl) (by simp <;> rfl) ?_)
  refine WL.cond (t := false) (by simp) (by simp) (fun _ => WL.sreg (by simp <;> rfl) (by simp <;> rfl) ?_)
  refine WL.cond (t := true) (by simp) (fun _ => ?_) (by simp)
  refine WL.seq (WL.sregC (RL.o (by simp; rfl) (RL.call0 true (refpins_fn s hs p) (by simp) (by simp) (RL.o (by simp; rfl) (RL.nil ⟨_, by simp; rfl, ?_⟩)))))
  by_cases h : 0 < Pins s p
  · obtain ⟨a, b⟩ := e7 h
    subst a b
    refine WL.cond (t := true) (by simp [h]) (fun _ => ?_) (by simp)
    refine WL.sregC (RL.call0 false (fail_fn 7) (by simp) (by simp) (RL.o (by simp; rfl) (RL.nil ⟨_, by simp; rfl, ?_⟩)))
    refine WL.ret ⟨rfl, ?_⟩
    simp [fi26, rsE]
  · obtain ⟨a, b⟩ := ok h
    subst a b
    refine WL.cond (t := false) (by simp; omega) (by simp) (fun _ => WL.skip ?_)
    refine WL.draw mixed (by simp [cleanL, noH]) (DL.o (by simp; exact ⟨rfl, rfl⟩) (DL.call0 false zeros_fn (by simp) (by simp) (DL.o (by simp [hp, hb, Nat.succ_le_of_lt hp, Nat.succ_le_of_lt hb]; exact ⟨rfl, rfl⟩) (DL.nil ⟨by kernel_rfl, _, by simp; rfl, ?_⟩))))
    refine WL.sreg (by simp <;> rfl) (by simp <;> rfl) (WL.nil1 604 true 1 (by simp) (WL.ret ⟨rfl, ?_⟩))
    simp [fi26, List.map_set]

abbrev rbN (s : St) (cl : Int) (p : Int) (t : SL) : SL := rb1 cl ++ (rb3 s ++ (rb6 ++ ((700, 0, i64 p) :: (t ++ ghT s))))

set_option maxHeartbeats 4000000 in
/-- A new page: the place is known. -/
theorem dr_newAt (s : St) (c : Nat) (hc : c < s.Handles.length) (hs : Small s.Handles[c].length) (i : Nat) (hi : i < s.There.length) (hb : i < s.Body.length) (k : Nat) (hk : k < s.Handles[c].length) (hf : freeI s.Handles[c] = (k : Int)) :
   WL Try.prog fi26.nt c26_22 (rbN s c i [(10800, 0, bl false)]) (rbQ ⟨s.There.set i true, s.Body.set i z16, s.Handles.set c (s.Handles[c].set k i)⟩ ⟨0, i, k, []⟩) := by
  refine WL.seq (WL.draw mixed (by simp [cleanL, noH]) (DL.o (by simp; exact ⟨rfl, rfl⟩) (DL.call0 false zeros_fn (by simp) (by simp) (DL.o (by simp [hi, hb, Nat.succ_le_of_lt hi, Nat.succ_le_of_lt hb]; exact ⟨rfl, rfl⟩) (DL.nil ⟨by kernel_rfl, _, by simp; rfl, ?_⟩)))))
  obtain ⟨T, hT⟩ : ∃ T, T = s.There.set i true := ⟨_, rfl⟩
  obtain ⟨B, hB⟩ : ∃ B, B = s.Body.set i z16 := ⟨_, rfl⟩
  have eT : (AV.sl true () 1 s.There.length ((s.There.map bl).set i (bl true)) : AU) = sB true T := by simp [hT, List.map_set, sB]
  have eB : (AV.sl true () 1 s.Body.length ((s.Body.map str).set i (str z16)) : AU) = sS true B := by simp [hB, List.map_set, sS]
  have lT : T.length = s.There.length := by simp [hT]
  have lB : B.length = s.Body.length := by simp [hB]
  have tT : (T.map bl).take s.There.length = T.map bl := List.take_of_length_le (by simp [lT])
  have tB : (B.map str).take s.Body.length = B.map str := List.take_of_length_le (by simp [lB])
  rw [eT, eB, ← hT, ← hB]
  clear eT eB hT hB
  have hg := give_fn ⟨T, B, s.Handles⟩ _ _ rfl rfl c hc hs i k hk hf
  refine WL.sregC (RL.o (by simp; rfl) (RL.call true [(1000200, [])] hg (by simp) (by simp) (by simp [gkey, lT, lB, tT, tB]) (side_give _ _ (by simp) _) (RL.o (by simp; rfl) (RL.nil ⟨_, by simp; rfl, ?_⟩))))
  refine WL.nil1 604 true 1 (by simp) (WL.ret ⟨rfl, ?_⟩)
  simp [fi26, List.map_set, lT, lB]
end Go.OT
set_option linter.unusedSimpArgs false
set_option linter.unusedVariables false
namespace Go.OT
open Go.Proofs

set_option maxHeartbeats 4000000 in
/-- New. -/
theorem dr_new (s : St) (hT : Small s.There.length) (hB : s.Body.length = s.There.length) (c : Nat) (hc : c < s.Handles.length) (hs : Small s.Handles[c].length) (P Hd Of Nn : Int) (D : List UInt8) (s' : St) (r : Rs)
   (e4 : freeH s.Handles[c] = false → s' = s ∧ r = rsE 4)
   (e3 : freeH s.Handles[c] = true → ixF (· == false) s.There 0 = -1 → s' = s ∧ r = rsE 3)
   (k : Nat) (ek : freeH s.Handles[c] = true → k < s.Handles[c].length ∧ freeI s.Handles[c] = (k : Int))
   (ok : freeH s.Handles[c] = true → ∀ i : Nat, i < s.There.length → ixF (· == false) s.There 0 = (i : Int) → s' = ⟨s.There.set i true, s.Body.set i z16, s.Handles.set c (s.Handles[c].set k i)⟩ ∧ r = ⟨0, i, k, []⟩) :
   WL Try.prog fi26.nt c26_60 (rbA s c ⟨1, P, Hd, Of, Nn, D⟩ ++ ((2600, 0, bl false) :: ghT s)) (rbQ s' r) := by
  refine WL.sreg (by simp <;> rfl) (by simp <;> rfl) ?_
  refine WL.seq (WL.sreg (by simp <;> rfl) (by simp <;> rfl) ?_)
  refine WL.cond (t := false) (by simp) (by simp) (fun _ => WL.skip ?_)
  refine WL.seq (WL.sreg (by simp <;> rfl) (by simp <;> rfl) ?_)
  refine WL.cond (t := false) (by simp) (by simp) (fun _ => WL.skip ?_)
  refine WL.seq (WL.sreg (by simp <;> rfl) (by simp <;> rfl) ?_)
  refine WL.block (WL.sreg (by simp <;> rfl) (by simp <;> rfl) ?_)
  refine WL.cond (t := true) (by simp) (fun _ => ?_) (by simp)
  refine WL.seq (WL.sregC (RL.o (by simp; rfl) (RL.call0 true (room_fn s c hc hs) (by simp) (by simp) (RL.o (by simp; rfl) (RL.nil ⟨_, by simp; rfl, ?_⟩)))))
  cases h : freeH s.Handles[c] with
  | false =>
    obtain ⟨a, b⟩ := e4 h
    subst a b
    refine WL.cond (t := true) (by simp) (fun _ => ?_) (by simp)
    refine WL.sregC (RL.call0 false (fail_fn 4) (by simp) (by simp) (RL.o (by simp; rfl) (RL.nil ⟨_, by simp; rfl, ?_⟩)))
    refine WL.ret ⟨rfl, ?_⟩
    simp [fi26, rsE]
  | true =>
    obtain ⟨hk, hf⟩ := ek h
    refine WL.cond (t := false) (by simp) (by simp) (fun _ => WL.skip ?_)
    refine WL.sreg (by simp; rfl) (by simp; rfl) ?_
    refine WL.seq (WL.block (WL.count s.There.length (fun i => rbN s c i []) (fun i => ixF (· == false) (s.There.drop i) i = ixF (· == false) s.There 0) (by simp) rfl fun i hi hp => ?_))
    have fin : i < s.There.length → s.There[i]? = some false → WL Try.prog fi26.nt c26_22 (rbN s c i [(10800, 0, bl false)]) (rbQ s' r) := fun hi hf' => by
      have h1 : s.There[i] = false := by simpa [hi] using hf'
      rw [ixF_drop _ _ _ hi, if_pos (by simp [h1])] at hp
      obtain ⟨a, b⟩ := ok h i hi hp.symm
      subst a b
      exact dr_newAt s c hc hs i hi (by omega) k hk hf
    by_cases hi' : i < s.There.length
    · have hi1 : i + 1 ≤ s.There.length := hi'
      cases hb : s.There[i] with
      | true =>
        refine WL.seq (WL.sreg (by simp [hi', hi1, hb]; rfl) (by simp; rfl) ?_)
        refine WL.cond (t := true) (by simp [hb]) (fun _ => WL.skip ?_) (by simp)
        rw [ixF_drop _ _ _ hi', if_neg (by simp [hb])] at hp
        refine WL.block (WL.reg (RL.run (by simp [wrap_succ hT hi']; rfl) ⟨_, by simp; rfl, hi', ?_, hp⟩))
        simp
      | false =>
        refine WL.seq (WL.sreg (by simp [hi', hi1, hb]; rfl) (by simp; rfl) ?_)
        refine WL.cond (t := false) (by simp [hb]) (by simp) (fun _ => WL.exit ?_)
        have hne : ¬ i = s.There.length := by omega
        have hneI : ¬ (i : Int) = s.There.length := by omega
        refine WL.seq (WL.sreg (by simp [hne, hneI]; rfl) (by simp; rfl) ?_)
        refine WL.cond (t := false) (by simp [hne, hneI]) (by simp) (fun _ => WL.skip ?_)
        have d : ((i : Int) == (s.There.length : Int)) = false := by simpa using hneI
        rw [d]
        show WL Try.prog fi26.nt c26_22 _ _
        exact WL.up (fin hi' (by simp [hi', hb])) fun _ h => ⟨rfl, h⟩
    · have hi2 : i = s.There.length := by omega
      subst hi2
      rw [ixF_end _ _ _ hi'] at hp
      obtain ⟨a, b⟩ := e3 h hp.symm
      subst a b
      refine WL.seq (WL.sreg (by simp; rfl) (by simp; rfl) ?_)
      refine WL.cond (t := false) (by simp) (by simp) (fun _ => WL.exit ?_)
      refine WL.seq (WL.sreg (by simp; rfl) (by simp; rfl) ?_)
      refine WL.cond (t := true) (by simp) (fun _ => ?_) (by simp)
      refine WL.sregC (RL.call0 false (fail_fn 3) (by simp) (by simp) (RL.o (by simp; rfl) (RL.nil ⟨_, by simp; rfl, ?_⟩)))
      refine WL.ret ⟨rfl, ?_⟩
      simp [fi26, rsE]
end Go.OT
set_option linter.unusedSimpArgs false
set_option linter.unusedVariables false
namespace Go.OT
open Go.Proofs

set_option maxHeartbeats 4000000 in
/-- A read. -/
theorem dr_read (s : St) (cl : Int) (m : Nat) (hm : m < s.Body.length) (h16 : s.Body[m].length = 16) (P Hd Of Nn : Int) (D : List UInt8) (s' : St) (r : Rs)
   (e6 : badRg ⟨3, P, Hd, Of, Nn, D⟩ Nn = true → s' = s ∧ r = rsE 6)
   (ok : ∀ o n : Nat, Of = o → Nn = n → o + n ≤ 16 → s' = s ∧ r = ⟨0, 0, 0, (s.Body[m].drop o).take n⟩) :
   WL Try.prog fi26.nt c26_57 (rbP s cl ⟨3, P, Hd, Of, Nn, D⟩ m [(7900, 0, bl false)]) (rbQ s' r) := by
  refine WL.seq (WL.sreg (by simp <;> rfl) (by simp <;> rfl) ?_)
  refine WL.block (WL.sreg (by simp <;> rfl) (by simp <;> rfl) ?_)
  refine WL.cond (t := false) (by simp) (by simp) (fun _ => WL.sreg (by simp <;> rfl) (by simp <;> rfl) ?_)
  refine WL.cond (t := false) (by simp) (by simp) (fun _ => WL.sreg (by simp <;> rfl) (by simp <;> rfl) ?_)
  refine WL.cond (t := true) (by simp) (fun _ => ?_) (by simp)
  refine WL.seq ?_
  by_cases k1 : Of < 0
  · obtain ⟨a, b⟩ := e6 (by simp [badRg, k1])
    subst a b
    refine WL.sreg (by simp [k1]; rfl) (by simp; rfl) ?_
    refine WL.cond (t := true) (by simp) (fun _ => ?_) (by simp)
    refine WL.sregC (RL.call0 false (fail_fn 6) (by simp) (by simp) (RL.o (by simp; rfl) (RL.nil ⟨_, by simp; rfl, ?_⟩)))
    refine WL.ret ⟨rfl, ?_⟩
    simp [fi26, rsE]
  by_cases k2 : Nn < 0
  · obtain ⟨a, b⟩ := e6 (by simp [badRg, k2])
    subst a b
    refine WL.sreg (by simp [k1, k2]; rfl) (by simp; rfl) ?_
    refine WL.cond (t := true) (by simp) (fun _ => ?_) (by simp)
    refine WL.sregC (RL.call0 false (fail_fn 6) (by simp) (by simp) (RL.o (by simp; rfl) (RL.nil ⟨_, by simp; rfl, ?_⟩)))
    refine WL.ret ⟨rfl, ?_⟩
    simp [fi26, rsE]
  by_cases k3 : 16 < Of
  · obtain ⟨a, b⟩ := e6 (by simp [badRg, k3])
    subst a b
    refine WL.sreg (by simp [k1, k2, k3]; rfl) (by simp; rfl) ?_
    refine WL.cond (t := true) (by simp) (fun _ => ?_) (by simp)
    refine WL.sregC (RL.call0 false (fail_fn 6) (by simp) (by simp) (RL.o (by simp; rfl) (RL.nil ⟨_, by simp; rfl, ?_⟩)))
    refine WL.ret ⟨rfl, ?_⟩
    simp [fi26, rsE]
  obtain ⟨o, ho⟩ := Int.eq_ofNat_of_zero_le (a := Of) (by omega)
  obtain ⟨n, hn⟩ := Int.eq_ofNat_of_zero_le (a := Nn) (by omega)
  subst ho hn
  have w1 : IntKind.wrap .i64 ((16 : Int) - (o : Int)) = 16 - (o : Int) := wrap_small (by omega) (by omega)
  by_cases k4 : 16 - (o : Int) < n
  · obtain ⟨a, b⟩ := e6 (by simp [badRg, k4])
    subst a b
    refine WL.sreg (by simp [k1, k2, k3, k4, w1]; rfl) (by simp; rfl) ?_
    refine WL.cond (t := true) (by simp [k4]) (fun _ => ?_) (by simp)
    refine WL.sregC (RL.call0 false (fail_fn 6) (by simp) (by simp) (RL.o (by simp; rfl) (RL.nil ⟨_, by simp; rfl, ?_⟩)))
    refine WL.ret ⟨rfl, ?_⟩
    simp [fi26, rsE]
  have hon : o + n ≤ 16 := by omega
  obtain ⟨a, b⟩ := ok o n rfl rfl hon
  subst a b
  refine WL.sreg (by simp [k1, k2, k3, k4, w1]; rfl) (by simp; rfl) ?_
  refine WL.cond (t := false) (by simp [k4]; try omega) (by simp) (fun _ => WL.skip ?_)
  obtain ⟨e, he⟩ : ∃ e, e = o + n := ⟨_, rfl⟩
  have hw : IntKind.wrap .i64 ((o : Int) + (n : Int)) = (e : Int) := by rw [wrap_small (by omega) (by omega)]; omega
  have f1 : o ≤ e := by omega
  have f2 : e ≤ 16 := by omega
  have f3 : e - o = n := by omega
  refine WL.seq (WL.draw mixed (by simp [cleanL, noH]) (DL.o (by simp [hm, h16, hw, f1, f2, f3, strOf_size, strOf_ext, strC_of, Nat.succ_le_of_lt hm, -List.map_take, -List.map_drop]; exact ⟨rfl, rfl⟩) (DL.nil ⟨by kernel_rfl, _, by simp; rfl, ?_⟩)))
  refine WL.ret ⟨rfl, ?_⟩
  have f4 : min n (16 - o) = n := by omega
  simp [fi26, h16, f4, List.take_take]
end Go.OT
set_option linter.unusedSimpArgs false
set_option linter.unusedVariables false
namespace Go.OT
open Go.Proofs

set_option maxHeartbeats 4000000 in
/-- A write. -/
theorem dr_write (s : St) (cl : Int) (m : Nat) (hm : m < s.Body.length) (h16 : s.Body[m].length = 16) (P Hd Of Nn : Int) (D : List UInt8) (s' : St) (r : Rs)
   (e6 : badRg ⟨4, P, Hd, Of, Nn, D⟩ D.length = true → s' = s ∧ r = rsE 6)
   (ok : ∀ o : Nat, Of = o → o + D.length ≤ 16 → s' = ⟨s.There, s.Body.set m (over s.Body[m] o D), s.Handles⟩ ∧ r = rsO) (hD : Small D.length) :
   WL Try.prog fi26.nt c26_57 (rbP s cl ⟨4, P, Hd, Of, Nn, D⟩ m [(7900, 0, bl false)]) (rbQ s' r) := by
  refine WL.seq (WL.sreg (by simp <;> rfl) (by simp <;> rfl) ?_)
  refine WL.block (WL.sreg (by simp <;> rfl) (by simp <;> rfl) ?_)
  refine WL.cond (t := false) (by simp) (by simp) (fun _ => WL.sreg (by simp <;> rfl) (by simp <;> rfl) ?_)
  refine WL.cond (t := false) (by simp) (by simp) (fun _ => WL.sreg (by simp <;> rfl) (by simp <;> rfl) ?_)
  refine WL.cond (t := false) (by simp) (by simp) (fun _ => WL.sreg (by simp <;> rfl) (by simp <;> rfl) ?_)
  refine WL.cond (t := true) (by simp) (fun _ => ?_) (by simp)
  refine WL.seq ?_
  by_cases k1 : Of < 0
  · obtain ⟨a, b⟩ := e6 (by simp [badRg, k1])
    subst a b
    refine WL.sreg (by simp [k1]; rfl) (by simp; rfl) ?_
    refine WL.cond (t := true) (by simp) (fun _ => ?_) (by simp)
    refine WL.sregC (RL.call0 false (fail_fn 6) (by simp) (by simp) (RL.o (by simp; rfl) (RL.nil ⟨_, by simp; rfl, ?_⟩)))
    refine WL.ret ⟨rfl, ?_⟩
    simp [fi26, rsE]
  by_cases k3 : 16 < Of
  · obtain ⟨a, b⟩ := e6 (by simp [badRg, k3])
    subst a b
    refine WL.sreg (by simp [k1, k3]; rfl) (by simp; rfl) ?_
    refine WL.cond (t := true) (by simp) (fun _ => ?_) (by simp)
    refine WL.sregC (RL.call0 false (fail_fn 6) (by simp) (by simp) (RL.o (by simp; rfl) (RL.nil ⟨_, by simp; rfl, ?_⟩)))
    refine WL.ret ⟨rfl, ?_⟩
    simp [fi26, rsE]
  obtain ⟨o, ho⟩ := Int.eq_ofNat_of_zero_le (a := Of) (by omega)
  subst ho
  have w1 : IntKind.wrap .i64 ((16 : Int) - (o : Int)) = 16 - (o : Int) := wrap_small (by omega) (by omega)
  by_cases k4 : 16 - (o : Int) < D.length
  · obtain ⟨a, b⟩ := e6 (by simp [badRg, k4])
    subst a b
    refine WL.sreg (by simp [k1, k3, k4, w1]; rfl) (by simp; rfl) ?_
    refine WL.cond (t := true) (by simp [k4]) (fun _ => ?_) (by simp)
    refine WL.sregC (RL.call0 false (fail_fn 6) (by simp) (by simp) (RL.o (by simp; rfl) (RL.nil ⟨_, by simp; rfl, ?_⟩)))
    refine WL.ret ⟨rfl, ?_⟩
    simp [fi26, rsE]
  have hon : o + D.length ≤ 16 := by omega
  obtain ⟨a, b⟩ := ok o rfl hon
  subst a b
  refine WL.sreg (by simp [k1, k3, k4, w1]; rfl) (by simp; rfl) ?_
  refine WL.cond (t := false) (by simp [k4]; try omega) (by simp) (fun _ => WL.skip ?_)
  obtain ⟨e, he⟩ : ∃ e, e = o + D.length := ⟨_, rfl⟩
  have hw : IntKind.wrap .i64 ((o : Int) + (D.length : Int)) = (e : Int) := by rw [wrap_small (by omega) (by omega)]; omega
  have f1 : o ≤ e := by omega
  have f2 : e ≤ 16 := by omega
  have f5 : o ≤ 16 := by omega
  have g1 : o + D.length ≤ 4611686018427387904 := by omega
  have g2 : o + (D.length + (16 - e)) ≤ 4611686018427387904 := by omega
  have g3 : o + D.length + (16 - e) ≤ 4611686018427387904 := by omega
  refine WL.draw mixed (by simp [cleanL, noH]) (DL.o (by simp [hm, h16, hw, f1, f2, f5, g1, g2, g3, strOf_size, strOf_ext, strOf_app, strC_of, b2s_bytes, Nat.succ_le_of_lt hm, -List.map_take, -List.map_drop]; exact ⟨rfl, rfl⟩) (DL.nil ⟨by kernel_rfl, _, by simp; rfl, ?_⟩))
  refine WL.sreg (by simp <;> rfl) (by simp <;> rfl) (WL.nil1 604 true 1 (by simp) (WL.ret ⟨rfl, ?_⟩))
  have f6 : List.take (16 - e) (List.drop e s.Body[m]) = List.drop e s.Body[m] := List.take_of_length_le (by simp [h16])
  simp [fi26, List.map_set, over, ← he]
  rw [f6]
end Go.OT
set_option linter.unusedSimpArgs false
set_option linter.unusedVariables false
namespace Go.OT
open Go.Proofs

theorem ixF_cong {α : Type} {p q : α → Bool} : ∀ (l : List α) (n : Nat), (∀ x ∈ l, p x = q x) → ixF p l n = ixF q l n
  | [], _, _ => rfl
  | x :: l, n, h => by
    simp only [ixF]
    rw [h x List.mem_cons_self, ixF_cong l (n + 1) fun y hy => h y (List.mem_cons_of_mem _ hy)]
theorem any_cong {α : Type} {p q : α → Bool} : ∀ (l : List α), (∀ x ∈ l, p x = q x) → l.any p = l.any q
  | [], _ => rfl
  | x :: l, h => by
    simp only [List.any_cons]
    rw [h x List.mem_cons_self, any_cong l fun y hy => h y (List.mem_cons_of_mem _ hy)]
theorem free_eq {s : St} (h : OkSt s) {l : List Int} (hl : l ∈ s.Handles) : freeH l = room l ∧ freeI l = ixF (· == -1) l 0 := by
  have hx : ∀ x ∈ l, decide (x < 0) = (x == -1) := fun x hx => by
    rcases h.hp l hl x hx with e | e
    · subst e; rfl
    · simp only [there, Bool.and_eq_true, decide_eq_true_eq] at e
      have h1 : ¬ x < 0 := by omega
      have h2 : ¬ x = -1 := by omega
      simp [h1, h2]
  exact ⟨any_cong _ hx, ixF_cong _ _ hx⟩

theorem heldF_ok {s : St} {c k : Nat} (hc : c < s.Handles.length) (hk : k < s.Handles[c].length) : heldF s c k = s.Handles[c][k] := by
  have h1 : ¬ s.Handles.length ≤ c := by omega
  have h2 : ¬ s.Handles[c].length ≤ k := by omega
  have h3 : ¬ (c : Int) < 0 := by omega
  have h4 : ¬ (k : Int) < 0 := by omega
  simp [heldF, hc, hk, h1, h2, h3, h4]

theorem heldF_bad {s : St} (h : OkSt s) {c : Nat} (hc : c < s.Handles.length) (hd : Int) (hb : badHd s.Handles[c] hd = true) : heldF s c hd = -1 := by
  have h6 := h.l6 _ (List.getElem_mem hc)
  have h1 : ¬ s.Handles.length ≤ c := by omega
  simp only [badHd, Bool.or_eq_true, decide_eq_true_eq] at hb
  by_cases e1 : hd < 0
  · simp [heldF, e1]
  obtain ⟨k, rfl⟩ := Int.eq_ofNat_of_zero_le (a := hd) (by omega)
  by_cases e2 : 6 ≤ k
  · have e3 : (6 : Int) ≤ k := by omega
    simp [heldF, hc, h6, e3]
  · have hk : k < s.Handles[c].length := by omega
    rw [heldF_ok hc hk]
    have := (hb.resolve_left e1).resolve_left (by omega)
    simpa [hk] using this

theorem refdo_kind {s : St} {c : Nat} {q : Op} (h : OkSt s) (hc : c < s.Handles.length) : (codeOf s s.Handles[c] q ≠ 0 → (DoB s c q).2.1 = s ∧ (DoB s c q).2.2 = rsE (codeOf s s.Handles[c] q)) ∧ (codeOf s s.Handles[c] q = 0 → (DoB s c q).2.1 = (Step s c q).1 ∧ (DoB s c q).2.2 = (Step s c q).2) := by
  have hn : ¬ noCall s c = true := by
    have := (May_iff s).2 h
    simp [noCall, this]
    omega
  constructor
  · intro h0
    simp [DoB, hn, hc, h0]
  · intro h0
    simp [DoB, hn, hc, h0]

theorem set_self {α : Type} (l : List α) (i : Nat) (h : i < l.length) (v : α) (hv : l[i] = v) : l.set i v = l := by
  subst hv
  exact List.set_getElem_self h

set_option maxHeartbeats 1000000 in
/-- A call with a kind: what the walk shows is the model's. -/
theorem refdo_main (s : St) (h : OkSt s) (c : Nat) (hc : c < s.Handles.length) (q : Op) (hD : Small q.Data.length) (hk : 1 ≤ q.Kind ∧ q.Kind ≤ 8) (s' : St) (r : Rs)
    (hE : codeOf s s.Handles[c] q ≠ 0 → s' = s ∧ r = rsE (codeOf s s.Handles[c] q)) (hO : codeOf s s.Handles[c] q = 0 → s' = (Step s c q).1 ∧ r = (Step s c q).2) :
    WL Try.prog fi26.nt c26_60 (rbA s c q ++ ((2600, 0, bl false) :: ghT s)) (rbQ s' r) := by
  have hs := h.sized
  have hmem := List.getElem_mem hc
  have h6 : s.Handles[c].length = 6 := h.l6 _ hmem
  have hS : Small s.Handles[c].length := by unfold Small; omega
  have hT : Small s.There.length := by have := hs.t; unfold Small; omega
  obtain ⟨fr, fi⟩ := free_eq h hmem
  have hroom : room s.Handles[c] = true → ix (· == -1) s.Handles[c] < s.Handles[c].length ∧ freeI s.Handles[c] = (ix (· == -1) s.Handles[c] : Int) := fun hr => by
    obtain ⟨j1, j2, j3⟩ := ix_spec hr
    exact ⟨j1, by rw [fi, j2]⟩
  have hl : s.Handles.getD c [] = s.Handles[c] := by simp [hc]
  obtain ⟨K, P, Hd, Of, Nn, D⟩ := q
  simp only at hk hD
  by_cases k1 : K = 1
  · subst k1
    refine dr_new s hT h.bn c hc hS P Hd Of Nn D s' r (fun e => ?_) (fun e e3 => ?_) (ix (· == -1) s.Handles[c]) (fun e => hroom (by rw [← fr]; exact e)) (fun e i hi hix => ?_)
    · rw [fr] at e
      have := hE (by simp [codeOf, e])
      simpa [codeOf, e] using this
    · rw [fr] at e
      have ha : s.There.any (· == false) = false := by
        cases e' : s.There.any (· == false) with
        | false => rfl
        | true =>
          have := (ixF_ge (· == false) s.There 0).2 e'
          omega
      have := hE (by simp only [codeOf, e, ha, if_true]; decide)
      simpa only [codeOf, e, ha, if_true, Bool.true_eq_false, if_false] using this
    · rw [fr] at e
      have ha : s.There.any (· == false) = true := (ixF_ge (· == false) s.There 0).1 (by rw [hix]; omega)
      have he : ix (· == false) s.There = i := by unfold ix; rw [hix]; exact Int.toNat_natCast i
      have hb : i < s.Body.length := by rw [h.bn]; exact hi
      obtain ⟨i1, i2, i3⟩ := ix_spec ha
      have hth : s.There[i] = false := by
        have := i3
        simp only [he] at this
        simpa using this
      have hz := h.zero i hb (by simp [hi, hth])
      have := hO (by simp only [codeOf, e, ha, if_true, Bool.true_eq_false, if_false])
      simp only [Step, if_true, hl, he] at this
      rw [set_self s.Body i hb z16 hz]
      exact this
  by_cases k2 : K = 2 ∨ K = 6 ∨ K = 8
  · refine dr_page s c ⟨K, P, Hd, Of, Nn, D⟩ s' r k2 hT (fun e => ?_) (fun e1 e2 => ?_) (fun e => ?_)
    · have := hE (by simp only [codeOf, if_neg k1, if_pos k2, e, if_true]; decide)
      simpa only [codeOf, if_neg k1, if_pos k2, e, if_true] using this
    · simp only at e1 e2
      have := hE (by simp only [codeOf, if_neg k1, if_pos k2, e1, e2, if_true, Bool.true_eq_false, if_false]; decide)
      simpa only [codeOf, if_neg k1, if_pos k2, e1, e2, if_true, Bool.true_eq_false, if_false] using this
    · simp only at e
      have hth := e
      simp only [there, Bool.and_eq_true, decide_eq_true_eq] at hth
      obtain ⟨m, rfl⟩ := Int.eq_ofNat_of_zero_le hth.1
      have hm : m < s.There.length := by
        have := hth.2
        by_cases h : m < s.There.length
        · exact h
        · simp [h] at this
      have hmb : m < s.Body.length := by rw [h.bn]; exact hm
      have hpg : isPage s (m : Int) = true := by simp [isPage, hm]
      rcases k2 with k2 | k2 | k2 <;> subst k2
      · refine dr_fetch s c hc hS m Hd Of Nn D s' r (fun e4 => ?_) (ix (· == -1) s.Handles[c]) (fun e4 => ?_)
        · rw [fr] at e4
          have := hE (by simp [codeOf, hpg, e, e4])
          simpa [codeOf, hpg, e, e4] using this
        · rw [fr] at e4
          obtain ⟨a, b⟩ := hroom e4
          have := hO (by simp [codeOf, hpg, e, e4])
          simp only [Step, hl] at this
          exact ⟨a, b, by simpa using this⟩
      · have := hO (by simp [codeOf, hpg, e])
        simp only [Step] at this
        obtain ⟨a, b⟩ : s' = s ∧ r = rsO := by simpa using this
        subst a b
        exact dr_flush s' c m Hd Of Nn D
      · refine dr_delete s hs c m hm hmb Hd Of Nn D s' r (fun e7 => ?_) (fun e7 => ?_)
        · have := hE (by simp [codeOf, hpg, e, e7])
          simpa [codeOf, hpg, e, e7] using this
        · have := hO (by simp [codeOf, hpg, e, e7])
          simp only [Step] at this
          simpa [z16] using this
  by_cases k3 : K = 3 ∨ K = 4 ∨ K = 5
  · refine dr_held s c ⟨K, P, Hd, Of, Nn, D⟩ s' r k3 (fun e => ?_) (fun e => ?_)
    · simp only at e
      have hb : badHd s.Handles[c] Hd = true := by
        cases hb : badHd s.Handles[c] Hd with
        | true => rfl
        | false =>
          exfalso
          simp only [badHd, Bool.or_eq_false_iff, decide_eq_false_iff_not, beq_eq_false_iff_ne] at hb
          obtain ⟨k, rfl⟩ := Int.eq_ofNat_of_zero_le (a := Hd) (by omega)
          have hk6 : k < s.Handles[c].length := by omega
          rw [heldF_ok hc hk6] at e
          have hne : s.Handles[c][k] ≠ -1 := by simpa [hk6] using hb.2.2
          have hth := (h.hp _ hmem _ (List.getElem_mem hk6)).resolve_left hne
          simp only [there, Bool.and_eq_true, decide_eq_true_eq] at hth
          omega
      have := hE (by simp only [codeOf, if_neg k1, if_neg k2, if_pos k3, hb, if_true]; decide)
      simpa only [codeOf, if_neg k1, if_neg k2, if_pos k3, hb, if_true] using this
    · simp only at e
      have hb : badHd s.Handles[c] Hd = false := by
        cases hb : badHd s.Handles[c] Hd with
        | false => rfl
        | true => rw [heldF_bad h hc Hd hb] at e; omega
      have hb' := hb
      simp only [badHd, Bool.or_eq_false_iff, decide_eq_false_iff_not, beq_eq_false_iff_ne] at hb'
      obtain ⟨k, rfl⟩ := Int.eq_ofNat_of_zero_le (a := Hd) (by omega)
      have hk6 : k < s.Handles[c].length := by omega
      simp only
      rw [heldF_ok hc hk6] at e ⊢
      have hne : s.Handles[c][k] ≠ -1 := by simpa [hk6] using hb'.2.2
      have hth := (h.hp _ hmem _ (List.getElem_mem hk6)).resolve_left hne
      simp only [there, Bool.and_eq_true, decide_eq_true_eq] at hth
      obtain ⟨m, hm⟩ := Int.eq_ofNat_of_zero_le hth.1
      have hmt : m < s.There.length := by
        have := hth.2
        rw [hm] at this
        by_cases h : m < s.There.length
        · exact h
        · simp [h] at this
      have hmb : m < s.Body.length := by rw [h.bn]; exact hmt
      have h16 := h.b16 _ (List.getElem_mem hmb)
      rcases k3 with k3 | k3 | k3 <;> subst k3
      · rw [hm]
        refine dr_read s c m hmb h16 P k Of Nn D s' r (fun e6 => ?_) (fun o n ho hn hon => ?_)
        · have := hE (by simp [codeOf, hb, e6])
          simpa [codeOf, hb, e6] using this
        · subst ho hn
          have e6 : badRg ⟨3, P, k, o, n, D⟩ n = false := by
            simp [badRg]
            omega
          have := hO (by simp [codeOf, hb, e6])
          simpa [Step, hc, hk6, hm, hmb] using this
      · rw [hm]
        refine dr_write s c m hmb h16 P k Of Nn D s' r (fun e6 => ?_) (fun o ho hon => ?_) hD
        · have := hE (by simp [codeOf, hb, e6])
          simpa [codeOf, hb, e6] using this
        · subst ho
          have e6 : badRg ⟨4, P, k, o, Nn, D⟩ D.length = false := by
            simp [badRg]
            omega
          have := hO (by simp [codeOf, hb, e6])
          simpa [Step, hc, hk6, hm, hmb] using this
      · have e6 : badRg ⟨5, P, k, Of, Nn, D⟩ Nn = false := by simp [badRg]
        have := hO (by simp [codeOf, hb, e6])
        obtain ⟨a, b⟩ : s' = ⟨s.There, s.Body, s.Handles.set c (s.Handles[c].set k (-1))⟩ ∧ r = rsO := by simpa [Step, hc] using this
        subst a b
        exact dr_unpin s c hc k hk6 P _ Of Nn D
  · have k7 : K = 7 := by omega
    subst k7
    have := hO (by simp [codeOf])
    obtain ⟨a, b⟩ : s' = s ∧ r = rsO := by simpa [Step] using this
    subst a b
    exact dr_flushAll s' c P Hd Of Nn D

/-- The document's Do, on states that may be. -/
theorem refdo_fn (s : St) (h : OkSt s) (cl : Int) (q : Op) (hD : Small q.Data.length) : FnC Try.prog 26 (gsT s) [vwT s, i64 cl, encO false q] (gsT (DoB s cl q).2.1) (encR true (DoB s cl q).2.2) := by
  have hM : May s = true := (May_iff s).2 h
  refine dr_start s cl q _ _ (fun h1 => ?_) (fun h1 => ?_)
  · have : DoB s cl q = (false, s, rsE 1) := by
      by_cases hn : noCall s cl = true
      · simp only [DoB, if_pos hn]
      · have hn' := hn
        simp only [noCall, hM, Bool.not_true, Bool.false_or, Bool.or_eq_true, decide_eq_true_eq] at hn'
        have hk : q.Kind < 1 ∨ 8 < q.Kind := by omega
        have hcd : codeOf s (s.Handles.getD cl.toNat []) q = 1 := by
          have a1 : ¬ q.Kind = 1 := by omega
          have a2 : ¬ (q.Kind = 2 ∨ q.Kind = 6 ∨ q.Kind = 8) := by omega
          have a3 : ¬ (q.Kind = 3 ∨ q.Kind = 4 ∨ q.Kind = 5) := by omega
          have a4 : ¬ q.Kind = 7 := by omega
          simp only [codeOf, if_neg a1, if_neg a2, if_neg a3, if_neg a4]
        simp only [DoB, if_neg hn, hcd]
        rfl
    rw [this]
    exact dr_none s cl q
  · obtain ⟨c, rfl⟩ := Int.eq_ofNat_of_zero_le (a := cl) (by omega)
    have hc : c < s.Handles.length := by omega
    obtain ⟨a, b⟩ := refdo_kind (q := q) h hc
    exact refdo_main s h c hc q hD (by omega) _ _ a b
end Go.OT
set_option linter.unusedSimpArgs false
set_option linter.unusedVariables false
namespace Go.OT
open Go.Proofs

abbrev rb4e : SL := [(400, 0, .bptr 4 1 0), (401, 0, .sl true () 1 0 []), (402, 0, .sl true () 1 0 []), (403, 0, .sl true () 1 0 []), (499, 1, .non)]
abbrev rb5e (a b c : AU) : SL := [(500, 0, .bptr 5 1 0), (501, 0, a), (502, 0, b), (503, 0, c), (599, 1, .non)]
abbrev rnA (n m i : Nat) : SL := [(0, 0, i64 n), (100, 0, i64 m)] ++ (rb4e ++ (rb5e (.sl true () 1 i (List.replicate i (bl false))) (.sl true () 1 i (List.replicate i (str z16))) (.sl true () 1 0 []) ++ [(600, 0, i64 i)]))
abbrev rnB (n m j : Nat) : SL := [(100, 0, i64 m)] ++ (rb4e ++ (rb5e (.sl true () 1 n (List.replicate n (bl false))) (.sl true () 1 n (List.replicate n (str z16))) (.sl true () 1 j (List.replicate j (sI true [-1, -1, -1, -1, -1, -1]))) ++ [(700, 0, i64 j)]))

set_option maxHeartbeats 4000000 in
theorem refnew_fn (p c : Int) : FnC Try.prog 32 [] [i64 p, i64 c] [] (encT true (newSt p c)) := by
  refine FnC.go ok32 rfl ?_
  refine WL.sreg (by simp; rfl) (by simp; rfl) ?_
  refine WL.sreg (by simp; rfl) (by simp; rfl) ?_
  refine WL.seq (WL.ifEq (newBad p c) ([(0, 0, i64 p), (100, 0, i64 c)] ++ (rb4e ++ (rb5e (.sl true () 1 0 []) (.sl true () 1 0 []) (.sl true () 1 0 []) ++ [(2100, 0, bl (newBad p c))]))) ?_ (by simp) (fun h => ?_) (fun h => WL.skip ?_))
  · by_cases h1 : p < 1
    · simp [newBad, h1]
    by_cases h2 : 48 < p
    · simp [newBad, h1, h2]
    by_cases h3 : c < 1
    · simp [newBad, h1, h2, h3]
    by_cases h4 : 6 < c
    · simp [newBad, h1, h2, h3, h4]
    · simp [newBad, h1, h2, h3, h4]
  · refine WL.sreg (by simp; rfl) (by simp; rfl) (WL.ret ⟨.inr rfl, ?_⟩)
    simp [fi32, newSt, h]
  simp only [newBad, Bool.or_eq_false_iff, decide_eq_false_iff_not] at h
  obtain ⟨n, rfl⟩ := Int.eq_ofNat_of_zero_le (a := p) (by omega)
  obtain ⟨m, rfl⟩ := Int.eq_ofNat_of_zero_le (a := c) (by omega)
  have hn : n ≤ 48 := by omega
  have hm : m ≤ 6 := by omega
  have hst : newSt n m = ⟨List.replicate n false, List.replicate n (List.replicate 16 0), List.replicate m [-1, -1, -1, -1, -1, -1]⟩ := by
    unfold newSt
    rw [if_neg]
    · rfl
    · simp only [newBad, Bool.or_eq_true, decide_eq_true_eq]; omega
  rw [hst]
  refine WL.seq (WL.sreg (by simp; rfl) (by simp; rfl) ?_)
  refine WL.block (WL.count n (fun i => rnA n m i) (fun _ => True) (by simp) trivial fun i hi _ => ?_)
  by_cases h : i < n
  · refine WL.seq (WL.sreg (by simp [h]; rfl) (by simp; rfl) ?_)
    refine WL.cond (t := true) (by simp [h]) (fun _ => WL.skip ?_) (by simp)
    have hm0 : i + 1 ≤ 140737488355328 := by omega
    have hm1 : (i + 1) * 16 ≤ 140737488355328 := by omega
    have hm2 : i + 1 ≤ maxLen := by unfold maxLen; omega
    refine WL.seq (WL.block (WL.draw mixed (by simp [cleanL, noH]) (DL.o (by simp [hm0, hm1, hm2]; exact ⟨rfl, rfl⟩) (DL.call0 false zeros_fn (by simp) (by simp) (DL.o (by simp [hm0, hm1, hm2]; exact ⟨rfl, rfl⟩) (DL.nil ⟨by kernel_rfl, _, by simp; rfl, ?_⟩))))))
    have hs : Small n := by unfold Small; omega
    refine WL.reg (RL.run (by simp [wrap_succ hs h]; rfl) ⟨_, by simp; rfl, h, ?_, trivial⟩)
    simp [← replicate_snoc]
    exact ⟨List.take_of_length_le (by simp), List.take_of_length_le (by simp)⟩
  · refine WL.seq (WL.sreg (by simp [h]; rfl) (by simp; rfl) ?_)
    refine WL.cond (t := false) (by simp [h]) (by simp) fun _ => WL.exit ?_
    obtain rfl : i = n := by omega
    refine WL.seq (WL.sreg (by simp; rfl) (by simp; rfl) ?_)
    refine WL.block (WL.count m (fun j => rnB i m j) (fun _ => True) (by simp) trivial fun j hj _ => ?_)
    by_cases h : j < m
    · have hs : Small m := by unfold Small; omega
      refine WL.seq (WL.sreg (by simp [h]; rfl) (by simp; rfl) ?_)
      refine WL.cond (t := true) (by simp [h]) (fun _ => WL.skip ?_) (by simp)
      have hm1 : (j + 1) * 24 ≤ 140737488355328 := by omega
      have hm2 : j + 1 ≤ maxLen := by unfold maxLen; omega
      refine WL.seq (WL.block (WL.reg (RL.run (by simp [hm1, hm2]; rfl) ⟨_, by simp; rfl, ?_⟩)))
      refine WL.reg (RL.run (by simp [wrap_succ hs h]; rfl) ⟨_, by simp; rfl, h, ?_, trivial⟩)
      simp [← replicate_snoc]
      exact List.take_of_length_le (by simp)
    · refine WL.seq (WL.sreg (by simp [h]; rfl) (by simp; rfl) ?_)
      refine WL.cond (t := false) (by simp [h]) (by simp) fun _ => WL.exit ?_
      obtain rfl : j = m := by omega
      refine WL.sreg (by simp; rfl) (by simp; rfl) (WL.ret ⟨.inr rfl, ?_⟩)
      simp [fi32, z16]
end Go.OT
/-
  Calls in a drawn region that are lent something to write.
-/
set_option linter.unusedSimpArgs false
set_option linter.unusedVariables false
namespace Go.OT
section
variable {P : Program} {nt : Nat} {L : SL}

theorem unitK_inj {k j : Nat} (h : unitK k = unitK j) : k = j := by
  unfold unitK at h
  split at h <;> split at h <;> omega

theorem backU_ne {X : XF Unit} {k : Nat} : ∀ {zs : List ((Nat × List Nat) × Gh Unit)}, (∀ e ∈ zs, e.1.1 ≠ k) → backU X zs k = X k
  | [], _ => rfl
  | e :: l, h => by
    rw [backU, XF.set_ne _ _ (fun e' => h e List.mem_cons_self e'.symm)]
    exact backU_ne fun e' he' => h e' (List.mem_cons_of_mem _ he')

theorem backU_agr {X Y : XF Unit} : ∀ {zs : List ((Nat × List Nat) × Gh Unit)}, (∀ e ∈ zs, X e.1.1 = Y e.1.1) → ∀ k, X k = Y k → backU X zs k = backU Y zs k
  | [], _, k, hk => hk
  | e :: l, h, k, hk => by
    have ih := backU_agr (zs := l) fun e' he' => h e' (List.mem_cons_of_mem _ he')
    simp only [backU]
    by_cases hke : k = e.1.1
    · subst hke
      have h1 := ih e.1.1 hk
      simp only [XF.set, if_true, hk, h1]
    · rw [XF.set_ne _ _ hke, XF.set_ne _ _ hke]
      exact ih k hk

theorem mapM_agr {X Y : XF Unit} : ∀ {ls : List (Nat × List Nat)}, (∀ e ∈ ls, X e.1 = Y e.1) → ls.mapM (ghAt X) = ls.mapM (ghAt Y)
  | [], _ => rfl
  | e :: l, h => by
    simp only [List.mapM_cons]
    rw [mapM_agr fun e' he' => h e' (List.mem_cons_of_mem _ he')]
    have : ghAt X e = ghAt Y e := by simp only [ghAt, h e List.mem_cons_self]
    rw [this]

theorem DL.callL {K : SL → Fs → Prop} {rest : List Sg} {d f : Nat} {cs : List COd} {gs gs' : List (Gh Unit)} {vs : List AU} {r : AU} {fs : Fs} (own : Bool) (ls : List (Nat × List Nat)) (hfn : FnC P f gs vs gs' r) (hgs : ls.mapM (ghAt (fnL L)) = some gs) (hnd : (ls.map (·.1)).Nodup)
    (has : trArgs (fnL L) ls own cs = some vs) (hs : sideOk own gs gs' r = true) (hcl : cleanL (setL (backL L (ls.zip gs')) (100 * d) r) = true)
    (h : DL P nt rest (setL (backL L (ls.zip gs')) (100 * d) r) ((2 * d :: (ls.map (fun e => unitK e.1) ++ (uOs (fnL L) cs ++ luOs (fnL L) own cs)), 2 * d :: ls.map (fun e => unitK e.1)) :: fs) K) : DL P nt (.call none d f cs :: rest) L fs K := by
  refine DL.cons (it := .call none d f cs) (rest := rest) (by simp [flatS]) (fun C ops i o hP hn hc0 hi hit => ?_) h
  have hzip : ∀ e ∈ ls.zip gs', e.1 ∈ ls := fun e he => (List.of_mem_zip (a := e.1) (b := e.2) he).1
  have hcx := cleanL_ok hcl
  have e0 : fnL (setL (backL L (ls.zip gs')) (100 * d) r) = (backU (fnL L) (ls.zip gs')).set (100 * d) r := by rw [← fnL_set, fnL_back]
  rw [e0] at hcx ⊢
  refine ⟨fun u hu => ?_, fun k hk => ?_, hcx, fun X hX ha => ?_⟩
  · simp only [List.mem_cons, List.mem_append] at hu ⊢
    rcases hu with hu | hu
    · exact .inl hu
    · exact .inr (.inl hu)
  · have h1 : k ≠ 100 * d := fun e => hk (by rw [e, unit_reg]; simp)
    rw [XF.set_ne _ _ h1]
    refine backU_ne fun e he e' => hk ?_
    rw [← e']
    exact List.mem_cons_of_mem _ (List.mem_map.2 ⟨e.1, hzip e he, rfl⟩)
  · have hls : ∀ e ∈ ls, X e.1 = fnL L e.1 := fun e he => ha e.1 (by
      simp only [List.mem_cons, List.mem_append]
      exact .inr (.inl (List.mem_map.2 ⟨e, he, rfl⟩)))
    have hzs : ∀ e ∈ ls.zip gs', X e.1.1 = fnL L e.1.1 := fun e he => hls _ (hzip e he)
    have hag : agr (uOs (fnL L) cs ++ luOs (fnL L) own cs) X (fnL L) := fun k hk => ha k (by
      simp only [List.mem_cons, List.mem_append] at hk ⊢
      exact .inr (.inr hk))
    have hd0 : X (100 * d) = fnL L (100 * d) := ha _ (by rw [unit_reg]; simp)
    have hsk := sok_call (ls := ls) (gs := gs) (gs' := gs') own hP hn hi hit hfn (by rw [mapM_agr hls]; exact hgs) hnd (by rw [trArgs_agr hag]; exact has) hs
    have : mix (2 * d :: ls.map (fun e => unitK e.1)) ((backU (fnL L) (ls.zip gs')).set (100 * d) r) X = (backU X (ls.zip gs')).set (100 * d) r := by
      funext k
      unfold mix
      by_cases hk : unitK k ∈ 2 * d :: ls.map (fun e => unitK e.1)
      · rw [if_pos hk]
        have hXk : X k = fnL L k := by
          rcases List.mem_cons.1 hk with hk | hk
          · rw [← unit_reg d] at hk
            rw [unitK_inj hk]
            exact hd0
          · obtain ⟨e, he, hke⟩ := List.mem_map.1 hk
            rw [← unitK_inj hke]
            exact hls e he
        have hb := backU_agr hzs k hXk
        by_cases e : k = 100 * d
        · subst e
          simp only [XF.set, if_true, hb]
        · rw [XF.set_ne _ _ e, XF.set_ne _ _ e, hb]
      · rw [if_neg hk]
        have h1 : k ≠ 100 * d := fun e => hk (by rw [e, unit_reg]; simp)
        rw [XF.set_ne _ _ h1, backU_ne fun e he e' => hk (by
          rw [← e']
          exact List.mem_cons_of_mem _ (List.mem_map.2 ⟨e.1, hzip e he, rfl⟩))]
    rw [this]
    exact hsk
end
end Go.OT
set_option linter.unusedSimpArgs false
set_option linter.unusedVariables false
namespace Go.OT
open Go.Proofs

theorem newSt_eq {n m : Nat} (hn : 1 ≤ n) (hn' : n ≤ 48) (hm : 1 ≤ m) (hm' : m ≤ 6) : newSt n m = ⟨List.replicate n false, List.replicate n (List.replicate 16 0), List.replicate m [-1, -1, -1, -1, -1, -1]⟩ := by
  unfold newSt
  rw [if_neg]
  · rfl
  · simp only [newBad, Bool.or_eq_true, decide_eq_true_eq]; omega

theorem newSt_ok {n m : Nat} (hn : 1 ≤ n) (hn' : n ≤ 48) (hm : 1 ≤ m) (hm' : m ≤ 6) : OkSt (newSt n m) := by
  rw [newSt_eq hn hn' hm hm']
  refine ⟨by simpa using hn, by simpa using hn', by simp, by simpa using hm, by simpa using hm', fun b hb => ?_, fun i hi _ => ?_, fun l hl => ?_, fun l hl p hp => ?_⟩
  · rw [List.eq_of_mem_replicate hb]; rfl
  · simp
  · rw [List.eq_of_mem_replicate hl]; rfl
  · rw [List.eq_of_mem_replicate hl] at hp
    left
    simpa using hp

theorem immR (r : Rs) : noImm (encR true r) = true := by
  show noImmL [i64 r.Code, i64 r.Page, i64 r.Handle, sU true r.Data] = true
  simp [noImm, noImmL, noImmU]

theorem side_do (s s' : St) (r : Rs) : sideOk true (gsT s) (gsT s') (encR true r) = true := by
  have e1 : noImm (sB true s'.There : AU) = true := by simp only [noImm, immB, Bool.and_self]
  have e2 : noImm (sS true s'.Body : AU) = true := by simp only [noImm, immS, Bool.and_self]
  have e3 : noImm (sII true s'.Handles : AU) = true := by simp only [noImm, immII, Bool.and_self]
  have e4 : noImm (encR true r) = true := immR r
  simp only [sideOk, List.all_cons, List.all_nil, ghImm, e1, e2, e3, e4]
  simp

/-! ModelPlays -/
abbrev bx3 (b : Nat) (T B H : AU) : SL := [(100 * b, 0, .bptr b 1 0), (100 * b + 1, 0, T), (100 * b + 2, 0, B), (100 * b + 3, 0, H), (100 * b + 99, 1, .non)]
abbrev plA (p k : Int) (mk : Int) (l : List Cl) (s : St) : SL := [(0, 0, i64 p), (100, 0, i64 k), (200, 0, sCl l), (300, 0, i64 mk), (900, 0, .bptr 9 1 0), (901, 0, sB false s.There), (902, 0, sUU false s.Body), (903, 0, sII false s.Handles), (999, 1, .non), (1000, 0, .bptr 10 1 0), (1001, 0, sB true s.There), (1002, 0, sS true s.Body), (1003, 0, sII true s.Handles), (1099, 1, .non)]
abbrev plS (p k : Int) (mk : Int) (l : List Cl) (i : Nat) (s : St) : SL := plA p k mk l s ++ [(1100, 0, i64 i)]
abbrev plQ : Ex → SL → Prop := fun e L => e = Ex.ret ∧ RetOk fi7.rs [] (bl true) L
abbrev bx12 (c : Cl) : SL := [(1200, 0, .bptr 12 1 0), (1201, 0, i64 c.Client), (1202, 0, i64 c.op.Kind), (1203, 0, i64 c.op.Page), (1204, 0, i64 c.op.Handle), (1205, 0, i64 c.op.Off), (1206, 0, i64 c.op.N), (1207, 0, sU false c.op.Data), (1299, 1, .non)]

theorem u64nn (x : Int) : ¬ IntKind.wrap .u64 x < 0 := by
  unfold IntKind.wrap
  simp [IntKind.signed, IntKind.bits]
  try omega

set_option maxHeartbeats 8000000 in
/-- A step: both are asked. -/
theorem pl_step (p k : Int) (mk : Int) (l : List Cl) (i : Nat) (s : St) (h : OkSt s) (x : Cl) (hD : Small x.op.Data.length) (Q : Ex → SL → Prop)
    (hq : Q .nrm (plS p k mk l i (DoB s x.Client x.op).2.1)) :
    WL Try.prog fi7.nt c7_13 (plS p k mk l i s ++ bx12 x) Q := by
  have h' := h.doB x.Client x.op
  have hdo := refdo_fn s h x.Client x.op hD
  refine WL.sregC ?_
  refine RL.o (by simp; rfl) (RL.doC s h.sized x.Client x.op (by simp) ?_)
  generalize DoB s x.Client x.op = dd at hq h' hdo ⊢
  obtain ⟨o', t, r⟩ := dd
  simp only at hq h' hdo ⊢
  refine RL.o (by simp; rfl) (RL.nil ⟨_, by simp; rfl, ?_⟩)
  refine WL.seq (WL.seq ?_)
  have hmay := may_fn t h'.sized
  rw [(May_iff t).2 h'] at hmay
  have hsame := refres_fn r r
  rw [show SameRes r r = true by simp [SameRes]] at hsame
  refine WL.draw mixed (by simp [cleanL, noH]) (DL.o (by simp; exact ⟨rfl, rfl⟩) ?_)
  refine DL.callL true [(1001, []), (1002, []), (1003, [])] hdo (by simp) (by simp) (by simp [gkey]) (side_do s t r) (by simp [cleanL, noH]) ?_
  refine DL.call0 true hsame (by simp) (by simp) ?_
  refine DL.o (by simp; exact ⟨rfl, rfl⟩) (DL.g (by simp; exact ⟨rfl, rfl⟩) ?_)
  refine DL.callY0 true (by simp) (is_fn t h'.sized h'.bn) (by simp) (by simp) ?_
  refine DL.g (by simp; exact ⟨rfl, rfl⟩) (DL.o (by simp; exact ⟨rfl, rfl⟩) (DL.g (by simp; exact ⟨rfl, rfl⟩) ?_))
  refine DL.callY0 true (by simp) hmay (by simp) (by simp) ?_
  refine DL.g (by simp; exact ⟨rfl, rfl⟩) (DL.o (by simp; exact ⟨rfl, rfl⟩) (DL.nil ⟨by kernel_rfl, _, by simp; rfl, ?_⟩))
  refine WL.cond (t := false) (by simp) (by simp) fun _ => WL.skip ?_
  refine WL.reg (RL.run (by simp; rfl) ⟨_, by simp; rfl, ?_⟩)
  exact hq

set_option maxHeartbeats 8000000 in
set_option maxRecDepth 10000 in
/-- One round of the loop. -/
theorem pl_body (n m : Nat) (hn : 1 ≤ n) (hn' : n ≤ 48) (hm : 1 ≤ m) (hm' : m ≤ 6) (mk : Int) (l : List Cl) (hl : l.length ≤ 80) (i : Nat) (hi : i < l.length) (s : St) (h : OkSt s) (R : Ex → SL → Prop)
    (hR : ∀ L, RetOk fi7.rs [] (bl true) L → R .ret L) (hq : ∀ s', OkSt s' → R .nrm (plS n m mk l (i + 1) s')) :
    WL Try.prog fi7.nt c7_17 (plS n m mk l i s ++ [(3900, 0, bl true)]) R := by
  have hi1 : i + 1 ≤ l.length := hi
  have hfm := fm_drop hi
  have hfl : 7 ≤ l.length * 7 - i * 7 := by omega
  have hS : Small l.length := by unfold Small; omega
  refine WL.seq (WL.block (WL.sreg (by simp [hi, hfm]; rfl) (by simp; rfl) ?_))
  refine WL.seq (WL.sreg (by simp; rfl) (by simp; rfl) ?_)
  by_cases hd : 40 < l[i].op.Data.length
  · have hd' : (40 : Int) < l[i].op.Data.length := by omega
    refine WL.cond (t := true) (by simp [hd']) (fun _ => ?_) (by simp)
    refine WL.sregC (RL.call0 false told_fn (by simp) (by simp) (RL.o (by simp; rfl) (RL.nil ⟨_, by simp; rfl, ?_⟩)))
    refine WL.ret (hR _ ?_)
    simp [fi7]
  have hd' : ¬ (40 : Int) < l[i].op.Data.length := by omega
  refine WL.cond (t := false) (by simp [hd']) (by simp) fun _ => WL.skip ?_
  have fin : ∀ x : Cl, x.op.Data.length ≤ 1000 → WL Try.prog fi7.nt c7_13 (plS n m mk l i s ++ bx12 x) (Ex.blkL 1 (Ex.thenL (fun L' => WL Try.prog fi7.nt c7_16 L' R) R)) := fun x hx => by
    refine pl_step n m mk l i s h x (by unfold Small; omega) _ ?_
    refine WL.reg (RL.run (by simp [wrap_succ hS hi]; rfl) ⟨_, by simp; rfl, ?_⟩)
    have := hq _ (h.doB x.Client x.op)
    simpa using this
  refine WL.seq (WL.sreg (by simp [u64nn]; rfl) (by simp; rfl) ?_)
  refine WL.cond (by simp; rfl) (fun _ => ?_) (fun _ => WL.skip ?_)
  · refine WL.reg (RL.o (by simp; rfl) (RL.call0 false (near_fn l[i] n m (by omega) (by omega) (by omega) (by omega) (by omega)) (by simp) (by simp) (RL.o (by simp; rfl) (RL.nil ⟨_, by simp; rfl, ?_⟩))))
    exact fin (nearC l[i] n m) (by simp [nearC]; omega)
  · refine WL.fin [58] (by simp; rfl) ?_
    exact fin l[i] (by omega)

set_option maxHeartbeats 8000000 in
theorem plays_law (p c : Int) (l : List Cl) (mk : Int) (hl : l.length ≤ 9223372036854775807) (hld : ∀ x ∈ l, x.op.Data.length ≤ 9223372036854775807) : FnC Try.prog 7 [] [i64 p, i64 c, sCl l, i64 mk] [] (bl true) := by
  refine FnC.go ok7 rfl ?_
  refine WL.sreg (by simp; rfl) (by simp; rfl) ?_
  refine WL.sregC (RL.o (by simp; rfl) (RL.newC p c (by simp) ?_))
  refine RL.o (by simp; rfl) (RL.call0 false (refnew_fn p c) (by simp) (by simp) (RL.o (by simp; rfl) (RL.nil ⟨_, by simp; rfl, ?_⟩)))
  cases hb : newBad p c with
  | true =>
    have hst : newSt p c = ⟨[], [], []⟩ := by unfold newSt; rw [if_pos hb]
    rw [hst]
    refine WL.seq (WL.sreg (by simp; rfl) (by simp; rfl) ?_)
    refine WL.cond (t := true) (by simp) (fun _ => ?_) (by simp)
    refine WL.sregC (RL.call0 false told_fn (by simp) (by simp) (RL.o (by simp; rfl) (RL.g (by simp; rfl) (RL.o (by simp; rfl) (RL.nil ⟨_, by simp; rfl, ?_⟩)))))
    refine WL.ret ⟨.inr rfl, ?_⟩
    simp [fi7]
  | false =>
    have hb' := hb
    simp only [newBad, Bool.or_eq_false_iff, decide_eq_false_iff_not] at hb'
    obtain ⟨n, rfl⟩ := Int.eq_ofNat_of_zero_le (a := p) (by omega)
    obtain ⟨m, rfl⟩ := Int.eq_ofNat_of_zero_le (a := c) (by omega)
    have hok : OkSt (newSt n m) := newSt_ok (by omega) (by omega) (by omega) (by omega)
    have hn0 : ¬ (newSt n m).There.length = 0 := by have := hok.n1; omega
    generalize newSt n m = s0 at hok hn0 ⊢
    refine WL.seq (WL.sreg (by simp; rfl) (by simp; rfl) ?_)
    refine WL.cond (t := false) (by simpa using hn0) (by simp) fun _ => WL.skip ?_
    refine WL.seq (WL.sreg (by simp; rfl) (by simp; rfl) ?_)
    by_cases h80 : 80 < l.length
    · have h80' : (80 : Int) < l.length := by omega
      refine WL.cond (t := true) (by simp [h80']) (fun _ => ?_) (by simp)
      refine WL.sregC (RL.call0 false told_fn (by simp) (by simp) (RL.o (by simp; rfl) (RL.nil ⟨_, by simp; rfl, ?_⟩)))
      refine WL.ret ⟨.inr rfl, ?_⟩
      simp [fi7]
    have h80' : ¬ (80 : Int) < l.length := by omega
    refine WL.cond (t := false) (by simp [h80']) (by simp) fun _ => WL.skip ?_
    refine WL.seq (WL.sreg (by simp; rfl) (by simp; rfl) ?_)
    refine WL.block (WL.loop (ι := {x : Nat × St // x.1 ≤ l.length ∧ OkSt x.2}) (fun x => plS n m mk l x.1.1 x.1.2) (fun x => l.length - x.1.1) ⟨(0, s0), Nat.zero_le _, hok⟩ (by simp) fun x => ?_)
    obtain ⟨⟨i, s⟩, hi, h⟩ := x
    simp only at hi h ⊢
    by_cases hi' : i < l.length
    · refine WL.seq (WL.sreg (by simp [hi']; rfl) (by simp; rfl) ?_)
      refine WL.cond (t := true) (by simp [hi']) (fun _ => WL.skip ?_) (by simp)
      refine pl_body n m (by omega) (by omega) (by omega) (by omega) mk l (by omega) i hi' s h _ (fun L hL => ⟨.inr rfl, hL⟩) (fun s' h' => ?_)
      exact ⟨⟨(i + 1, s'), hi', h'⟩, rfl, by simp only; omega⟩
    · refine WL.seq (WL.sreg (by simp [hi']; rfl) (by simp; rfl) ?_)
      refine WL.cond (t := false) (by simp [hi']) (by simp) fun _ => WL.exit ?_
      refine WL.sregC (RL.call0 false told_fn (by simp) (by simp) (RL.o (by simp; rfl) (RL.nil ⟨_, by simp; rfl, ?_⟩)))
      refine WL.ret ⟨.inr rfl, ?_⟩
      simp [fi7]
end Go.OT
set_option linter.unusedSimpArgs false
set_option linter.unusedVariables false
namespace Go.OT
open Go.Proofs

/-! ModelAsks -/
abbrev akO (q : Op) : SL := [(700, 0, .bptr 7 1 0), (701, 0, i64 q.Kind), (702, 0, i64 q.Page), (703, 0, i64 q.Handle), (704, 0, i64 q.Off), (705, 0, i64 q.N), (706, 0, sU false q.Data), (799, 1, .non)]
abbrev akS (s t : St) (cl : Int) (q : Op) : SL := [(200, 0, i64 cl)] ++ (bx3 4 (sB false s.There) (sUU false s.Body) (sII false s.Handles) ++ (bx3 5 (sB false t.There) (sUU false t.Body) (sII false t.Handles) ++ akO q))
abbrev akQ : Ex → SL → Prop := fun e L => e = Ex.ret ∧ RetOk fi6.rs [] (bl true) L

theorem noCall_bad {s : St} (h : ¬ OkSt s) (cl : Int) : noCall s cl = true := by
  have : May s = false := by
    cases e : May s with
    | false => rfl
    | true => exact absurd ((May_iff s).1 e) h
  simp [noCall, this]
theorem DoB_bad {s : St} (h : ¬ OkSt s) (cl : Int) (q : Op) : DoB s cl q = (false, s, rsE 1) := by
  unfold DoB; rw [if_pos (noCall_bad h cl)]
theorem Same_self (s : St) : Same s s = true := by simp [Same]
theorem SameRes_self (r : Rs) : SameRes r r = true := by simp [SameRes]

set_option maxHeartbeats 16000000 in
set_option maxRecDepth 10000 in
/-- A state that may not be. -/
theorem asks_bad (s t : St) (hs : Sized s) (h : ¬ OkSt s) (cl : Int) (q : Op) : WL Try.prog fi6.nt c6_12 (akS s t cl q ++ [(2800, 0, bl false)]) akQ := by
  have hmay := may_fn s hs
  rw [show May s = false by
    cases e : May s with
    | false => rfl
    | true => exact absurd ((May_iff s).1 e) h] at hmay
  have hself := same_fn s s hs
  rw [Same_self] at hself
  refine WL.sregC (RL.o (by simp; rfl) (RL.frzC (raw_fn s hs h) (by simp) (by simp [roots, rootsL]) ?_))
  rw [show (lend frN : AU) = .tuple [encT false ⟨[], [], []⟩, bl false] by simp [lend, lendL]]
  refine RL.o (by simp; rfl) (RL.nil ⟨_, by simp; rfl, ?_⟩)
  refine WL.sregC (RL.o (by simp; rfl) (RL.doC s hs cl q (by simp) ?_))
  rw [DoB_bad h]
  refine RL.o (by simp; rfl) (RL.nil ⟨_, by simp; rfl, ?_⟩)
  refine WL.seq (WL.seq ?_)
  refine WL.draw mixed (by simp [cleanL, noH]) (DL.o (by simp; exact ⟨rfl, rfl⟩) (DL.call0 false hmay (by simp) (by simp) (DL.o (by simp; exact ⟨rfl, rfl⟩) ?_)))
  refine DL.g (by simp; exact ⟨rfl, rfl⟩) (DL.callY0 false (by simp) (same_fn s t hs) (by simp) (by simp) ?_)
  refine DL.g (by simp; exact ⟨rfl, rfl⟩) (DL.callY0 false (by simp) (refsame_fn s t hs) (by simp) (by simp) ?_)
  refine DL.g (by simp; exact ⟨rfl, rfl⟩) (DL.o (by simp; exact ⟨rfl, rfl⟩) ?_)
  refine DL.g (by simp; exact ⟨rfl, rfl⟩) (DL.callY0 false (by simp) hself (by simp) (by simp) ?_)
  refine DL.g (by simp; exact ⟨rfl, rfl⟩) (DL.o (by simp; exact ⟨rfl, rfl⟩) (DL.nil ⟨by kernel_rfl, _, by simp; rfl, ?_⟩))
  refine WL.cond (t := false) (by simp) (by simp) fun _ => WL.skip ?_
  refine WL.seq (WL.sreg (by simp; rfl) (by simp; rfl) ?_)
  refine WL.cond (t := true) (by simp) (fun _ => ?_) (by simp)
  refine WL.sregC (RL.call0 false told_fn (by simp) (by simp) (RL.o (by simp; rfl) (RL.g (by simp [rsE]; rfl) (RL.o (by simp; rfl) (RL.g (by simp; rfl) ?_)))))
  refine RL.callY0 false (by simp) hself (by simp) (by simp) (RL.o (by simp; rfl) (RL.nil ⟨_, by simp; rfl, ?_⟩))
  refine WL.ret ⟨rfl, ?_⟩
  simp [fi6, rsE]

set_option maxHeartbeats 16000000 in
set_option maxRecDepth 10000 in
/-- A state that may be. -/
theorem asks_ok (s t : St) (h : OkSt s) (cl : Int) (q : Op) (hD : Small q.Data.length) : WL Try.prog fi6.nt c6_12 (akS s t cl q ++ [(2800, 0, bl false)]) akQ := by
  have hs := h.sized
  have hmay := may_fn s hs
  rw [(May_iff s).2 h] at hmay
  have hself := same_fn s s hs
  rw [Same_self] at hself
  have h' := h.doB cl q
  have hdo := refdo_fn s h cl q hD
  refine WL.sregC (RL.o (by simp; rfl) (RL.frzC (from_fn s h) (by simp) (by simp [roots, rootsL]) ?_))
  rw [show (lend (.tuple [encT true s, bl true]) : AU) = .tuple [encT false s, bl true] by simp [lend, lendL, Function.comp_def]]
  refine RL.o (by simp; rfl) (RL.nil ⟨_, by simp; rfl, ?_⟩)
  refine WL.sregC (RL.o (by simp; rfl) (RL.doC s hs cl q (by simp) ?_))
  generalize DoB s cl q = dd at h' hdo ⊢
  obtain ⟨o', n, r⟩ := dd
  simp only at h' hdo ⊢
  refine RL.o (by simp; rfl) (RL.nil ⟨_, by simp; rfl, ?_⟩)
  refine WL.seq (WL.seq ?_)
  refine WL.draw mixed (by simp [cleanL, noH]) (DL.o (by simp; exact ⟨rfl, rfl⟩) (DL.call0 false hmay (by simp) (by simp) (DL.o (by simp; exact ⟨rfl, rfl⟩) ?_)))
  refine DL.g (by simp; exact ⟨rfl, rfl⟩) (DL.callY0 false (by simp) (same_fn s t hs) (by simp) (by simp) ?_)
  refine DL.g (by simp; exact ⟨rfl, rfl⟩) (DL.callY0 false (by simp) (refsame_fn s t hs) (by simp) (by simp) ?_)
  refine DL.g (by simp; exact ⟨rfl, rfl⟩) (DL.o (by simp; exact ⟨rfl, rfl⟩) ?_)
  refine DL.g (by simp; exact ⟨rfl, rfl⟩) (DL.callY0 false (by simp) hself (by simp) (by simp) ?_)
  refine DL.g (by simp; exact ⟨rfl, rfl⟩) (DL.o (by simp; exact ⟨rfl, rfl⟩) (DL.nil ⟨by kernel_rfl, _, by simp; rfl, ?_⟩))
  refine WL.cond (t := false) (by simp) (by simp) fun _ => WL.skip ?_
  refine WL.seq (WL.sreg (by simp; rfl) (by simp; rfl) ?_)
  refine WL.cond (t := false) (by simp) (by simp) fun _ => WL.skip ?_
  refine WL.sregC (RL.o (by simp; rfl) (RL.call0 false (copy_fn s hs) (by simp) (by simp) (RL.o (by simp; rfl) (RL.nil ⟨_, by simp; rfl, ?_⟩))))
  refine WL.sregC (RL.o (by simp; rfl) ?_)
  refine RL.call true [(1301, []), (1302, []), (1303, [])] hdo (by simp) (by simp) (by simp [gkey]) (side_do s n r) ?_
  refine RL.o (by simp; rfl) (RL.nil ⟨_, by simp; rfl, ?_⟩)
  have hsame := refres_fn r r
  rw [SameRes_self] at hsame
  have hsame2 := sameres_fn r r
  rw [SameRes_self] at hsame2
  refine WL.seq ?_
  refine WL.draw mixed (by simp [cleanL, noH]) ?_
  refine DL.call0 false told_fn (by simp) (by simp) (DL.o (by simp; exact ⟨rfl, rfl⟩) (DL.g (by simp; exact ⟨rfl, rfl⟩) ?_))
  refine DL.callY0 true (by simp) hsame (by simp) (by simp) ?_
  refine DL.o (by simp; exact ⟨rfl, rfl⟩) (DL.g (by simp; exact ⟨rfl, rfl⟩) ?_)
  refine DL.callY0 true (by simp) (is_fn n h'.sized h'.bn) (by simp) (by simp) ?_
  refine DL.o (by simp; exact ⟨rfl, rfl⟩) (DL.g (by simp; exact ⟨rfl, rfl⟩) ?_)
  refine DL.callY0 true (by simp) (pins_fn s hs q.Page) (by simp) (by simp) ?_
  refine DL.g (by simp; exact ⟨rfl, rfl⟩) ?_
  refine DL.callY0 true (by simp) (refpins_fn s hs q.Page) (by simp) (by simp) ?_
  refine DL.g (by simp; exact ⟨rfl, rfl⟩) (DL.o (by simp; exact ⟨rfl, rfl⟩) (DL.g (by simp; exact ⟨rfl, rfl⟩) ?_))
  refine DL.callY0 true (by simp) hsame2 (by simp) (by simp) ?_
  refine DL.o (by simp; exact ⟨rfl, rfl⟩) (DL.nil ⟨by kernel_rfl, _, by simp; rfl, ?_⟩)
  refine WL.ret ⟨rfl, ?_⟩
  simp [fi6]

set_option maxHeartbeats 16000000 in
theorem asks_law (s t : St) (cl : Int) (q : Op) : FnC Try.prog 6 [] [encS false s, encS false t, i64 cl, encO false q] [] (bl true) := by
  refine FnC.go ok6 rfl ?_
  refine WL.mono (Q' := akQ) ?_ fun e L h => ⟨.inr h.1, h.2⟩
  refine WL.sreg (by simp; rfl) (by simp; rfl) ?_
  have tl : WL Try.prog fi6.nt c6_0 (akS s t cl q ++ [(2800, 0, bl true)]) akQ := by
    refine WL.sregC (RL.call0 false told_fn rfl rfl (RL.o (by simp; rfl) (RL.nil ⟨_, by simp; rfl, ?_⟩)))
    refine WL.ret ⟨rfl, ?_⟩
    simp [fi6]
  refine WL.seq (WL.sregC (RL.o (by simp; rfl) (RL.call0 false (few_fn s) (by simp) (by simp) ?_)))
  cases hf : fewB s with
  | false =>
    refine RL.o (by simp; rfl) (RL.g (by simp; rfl) (RL.callN (by simp) (RL.g (by simp; rfl) (RL.o (by simp; rfl) (RL.g (by simp; rfl) (RL.o (by simp; rfl) (RL.nil ⟨_, by simp; rfl, ?_⟩)))))))
    refine WL.cond (t := true) (by simp) (fun _ => ?_) (by simp)
    refine WL.mono (Q' := akQ) ?_ fun e L h => ?_
    · exact tl
    · obtain ⟨rfl, h⟩ := h; exact ⟨rfl, h⟩
  | true =>
  refine RL.o (by simp; rfl) (RL.g (by simp; rfl) (RL.callY0 false (by simp) (few_fn t) (by simp) (by simp) ?_))
  cases hf2 : fewB t with
  | false =>
    refine (RL.g (by simp; rfl) (RL.o (by simp; rfl) (RL.g (by simp; rfl) (RL.o (by simp; rfl) (RL.nil ⟨_, by simp; rfl, ?_⟩)))))
    refine WL.cond (t := true) (by simp) (fun _ => ?_) (by simp)
    refine WL.mono (Q' := akQ) ?_ fun e L h => ?_
    · exact tl
    · obtain ⟨rfl, h⟩ := h; exact ⟨rfl, h⟩
  | true =>
  by_cases hd : (40 : Int) < q.Data.length
  · refine (RL.g (by simp; rfl) (RL.o (by simp; rfl) (RL.g (by simp [hd]; rfl) (RL.o (by simp; rfl) (RL.nil ⟨_, by simp; rfl, ?_⟩)))))
    refine WL.cond (t := true) (by simp) (fun _ => ?_) (by simp)
    refine WL.mono (Q' := akQ) ?_ fun e L h => ?_
    · exact tl
    · obtain ⟨rfl, h⟩ := h; exact ⟨rfl, h⟩
  refine (RL.g (by simp; rfl) (RL.o (by simp; rfl) (RL.g (by simp [hd]; rfl) (RL.o (by simp; rfl) (RL.nil ⟨_, by simp; rfl, ?_⟩)))))
  refine WL.cond (t := false) (by simp) (by simp) fun _ => WL.skip ?_
  have hs := few_sized hf
  by_cases h : OkSt s
  · exact asks_ok s t h cl q (by unfold Small; omega)
  · exact asks_bad s t hs h cl q
end Go.OT
/-
  The arguments' types of ModelAsks.
-/
set_option linter.unusedSimpArgs false
set_option linter.unusedVariables false
namespace Go.OT
open Go.Proofs

theorem ty31 : Ty Try.prog 31 (List Bool) (fun l => [sB false l]) (fun _ => True) :=
  (Ty.slice (s := 1) Try.underlying31 (by kernel_rfl) (by decide) (fun _ => rfl) (Ty.bool Try.underlying4)).map id (fun l => by rw [flatMap_one]; rfl) (fun l h => trivial)
theorem ty43 : Ty Try.prog 43 (List Int) (fun l => [sI false l]) (fun _ => True) :=
  (Ty.slice (s := 1) Try.underlying43 (by kernel_rfl) (by decide) (fun _ => rfl) ty3).map id (fun l => by rw [flatMap_one]; rfl) (fun l h => trivial)
theorem ty32 : Ty Try.prog 32 (List (List UInt8)) (fun l => [sUU false l]) (fun _ => True) :=
  (Ty.slice (s := 1) Try.underlying32 (by kernel_rfl) (by decide) (fun _ => rfl) ty30).map id (fun l => by rw [flatMap_one]; rfl) (fun l h => trivial)
theorem ty33 : Ty Try.prog 33 (List (List Int)) (fun l => [sII false l]) (fun _ => True) :=
  (Ty.slice (s := 1) Try.underlying33 (by kernel_rfl) (by decide) (fun _ => rfl) ty43).map id (fun l => by rw [flatMap_one]; rfl) (fun l h => trivial)
theorem ty35 : Ty Try.prog 35 St (fun s => cellsS false s) (fun _ => True) :=
  (Ty.struct Try.underlying35 (by kernel_rfl) (TyF.cons rfl (by kernel_rfl) ty31 (TyF.cons rfl (by kernel_rfl) ty32 (TyF.cons rfl (by kernel_rfl) ty33 (TyF.nil (off := 3)))))).map
    (fun p => ⟨p.1, p.2.1, p.2.2.1⟩) (fun p => rfl) (fun p h => trivial)
theorem ta35 : TyA Try.prog 35 St (fun s => encS false s) (fun _ => True) := TyA.struct Try.underlying35 ty35
theorem ta42 : TyA Try.prog 42 Op (fun q => encO false q) (fun q => q.Data.length ≤ 9223372036854775807) := TyA.struct Try.underlying42 ty42
end Go.OT
