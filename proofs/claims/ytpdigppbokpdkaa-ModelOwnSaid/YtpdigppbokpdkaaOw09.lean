/- Part 9 of the proof: see its last file. -/
import Derived.Orders
import Derived.Below
import Derived.Laws.Entries
import Derived.Laws.Cells
import Derived.Laws.IdiomCopy
import Derived.Scope
import Derived.Calls
import Derived.Laws.Tables
import Derived.Laws.MakeOwn
import Derived.Laws.BytesString
import Derived.ArgAppend
import Derived.WalkSpells
import Derived.Lib.SlBytesConst
import Derived.Lib.ConvBytes
import Derived.Test.YtpdigppbokpdkaaProg
import Derived.KernelRfl
import Derived.IntWalk
import Derived.Lib.Strings
import Derived.WalkKit
import Derived.ProofKit
import Derived.OpenShut
import Derived.ShutString
import Derived.ChangeOld
import Derived.Lib.SmallJoins
import Derived.Test.YtpdigppbokpdkaaBs08
set_option linter.unusedSimpArgs false
set_option linter.unusedVariables false
set_option linter.unusedSimpArgs false
set_option linter.unusedVariables false
namespace Go.OT
open Go.Proofs

/-! ModelPins -/
def pa : St := (DoB (newSt 2 2) 0 ⟨1, 0, 0, 0, 0, []⟩).2.1
def pb : St := (DoB pa 0 ⟨5, 0, 0, 0, 0, []⟩).2.1
def pf : Nat → St
  | 0 => pb
  | i + 1 => (DoB (pf i) (i % 2 : Nat) ⟨2, 0, 0, 0, 0, []⟩).2.1
def pu (k : Nat) : Nat → St
  | 0 => pf k
  | j + 1 => (DoB (pu k j) (j % 2 : Nat) ⟨5, 0, (j / 2 : Nat), 0, 0, []⟩).2.1
def pfOk (i : Nat) : Bool := (DoB (pf i) (i % 2 : Nat) ⟨2, 0, 0, 0, 0, []⟩).2.2.Code == 0 && (DoB (pf i) (i % 2 : Nat) ⟨2, 0, 0, 0, 0, []⟩).2.2.Handle == (i / 2 : Nat)
def puOk (k j : Nat) : Bool := (DoB (pu k j) (j % 2 : Nat) ⟨5, 0, (j / 2 : Nat), 0, 0, []⟩).2.2.Code == 0
def pdOk (k m : Nat) : Bool := Pins (pu k m) 0 == ((k - m : Nat) : Int) && (DoB (pu k m) 1 ⟨8, 0, 0, 0, 0, []⟩).2.2.Code == (if k = m then 0 else 7)
def pxOk (k : Nat) : Bool := ((DoB (pf k) 0 ⟨2, 0, 0, 0, 0, []⟩).2.2.Code == 4) == decide (10 < k)
theorem pf_ok : ((List.range 12).all pfOk && (List.range 13).all pxOk && (List.range 13).all fun k => (List.range k).all (puOk k) && (List.range (k + 1)).all (pdOk k)) = true := by kernel_rfl
theorem pf_sized (i : Nat) : Sized (pf i) := by
  induction i with
  | zero => exact ((newSt_sized 2 2).doB _ _).doB _ _
  | succ i ih => exact ih.doB _ _
theorem pu_sized (k j : Nat) : Sized (pu k j) := by
  induction j with
  | zero => exact pf_sized k
  | succ i ih => exact ih.doB _ _
end Go.OT
set_option linter.unusedSimpArgs false
set_option linter.unusedVariables false
namespace Go.OT
open Go.Proofs

theorem umod (n : Int) (m : Nat) (h0 : 0 < m) (h : m ≤ 1000000000) : ∃ k : Nat, k < m ∧ IntKind.wrap .i64 ((IntKind.wrap .u64 n).tmod (m : Int)) = (k : Int) := by
  have hw : 0 ≤ IntKind.wrap .u64 n := by rw [IntKind.wrap_u64]; omega
  have h1 := Int.tmod_nonneg (m : Int) hw
  have h2 := Int.tmod_lt_of_pos (IntKind.wrap .u64 n) (show (0 : Int) < (m : Int) by omega)
  refine ⟨((IntKind.wrap .u64 n).tmod (m : Int)).toNat, by omega, ?_⟩
  rw [wrap_small (by omega) (by omega)]
  omega

set_option maxHeartbeats 4000000 in
theorem pins_law (n back : Int) : FnC Try.prog 11 [] [i64 n, i64 back] [] (bl true) := by
  obtain ⟨k, hk, ek⟩ := umod n 13 (by decide) (by decide)
  obtain ⟨b, hb, eb⟩ := umod back 14 (by decide) (by decide)
  rw [show ((13 : Nat) : Int) = 13 from rfl] at ek
  rw [show ((14 : Nat) : Int) = 14 from rfl] at eb
  refine FnC.go ok11 rfl ?_
  refine WL.sreg (by simp; rfl) (by simp; rfl) ?_
  refine WL.sreg (by simp [ek]; rfl) (by simp; rfl) ?_
  refine WL.sregC (RL.newC 2 2 (by simp) (RL.o (by simp; rfl) (RL.nil ⟨_, by simp; rfl, ?_⟩)))
  refine WL.sregC (RL.o (by simp; rfl) (RL.nilA 25 5 1 (by simp; rfl) rfl rfl (RL.doC (newSt 2 2) (newSt_sized 2 2) 0 ⟨1, 0, 0, 0, 0, []⟩ (by simp) (RL.o (by simp; rfl) (RL.nil ⟨_, by simp; rfl, ?_⟩)))))
  rw [← pa]
  have za : Sized pa := (newSt_sized 2 2).doB _ _
  refine WL.sregC (RL.o (by simp; rfl) (RL.nilA 31 5 1 (by simp; rfl) rfl rfl (RL.doC pa za 0 ⟨5, 0, 0, 0, 0, []⟩ (by simp) (RL.o (by simp; rfl) (RL.nil ⟨_, by simp; rfl, ?_⟩)))))
  rw [← pb]
  refine WL.seq (WL.sreg (by simp; rfl) (by simp; rfl) ?_)
  refine WL.block (WL.count k (fun i => [(100, 0, i64 back), (500, 0, i64 k), (600, 0, .bptr 6 1 0), (601, 0, sB false (pf i).There), (602, 0, sUU false (pf i).Body), (603, 0, sII false (pf i).Handles), (699, 1, .non), (700, 0, i64 i)]) (fun _ => True) rfl trivial fun i hi _ => ?_)
  by_cases h : i < k
  · refine WL.seq (WL.sreg (by simp [h]; rfl) (by simp; rfl) ?_)
    refine WL.cond (t := true) (by simp) (fun _ => WL.skip ?_) (by simp)
    refine WL.seq ?_
    refine WL.block (WL.sregC ?_)
    have hw : (i : Int).tmod 2 = ((i % 2 : Nat) : Int) := rfl
    refine RL.o (by simp; rfl) (RL.nilA 44 5 1 (by simp; rfl) rfl rfl (RL.doC (pf i) (pf_sized i) (i % 2 : Nat) ⟨2, 0, 0, 0, 0, []⟩ (by simp [hw]) ?_))
    have f := pf_ok
    simp only [Bool.and_eq_true, List.all_eq_true, List.mem_range] at f
    have f1 := f.1.1 i (by omega)
    simp only [pfOk, Bool.and_eq_true, beq_iff_eq] at f1
    have hn : pf (i + 1) = (DoB (pf i) (i % 2 : Nat) ⟨2, 0, 0, 0, 0, []⟩).2.1 := rfl
    generalize DoB (pf i) (i % 2 : Nat) ⟨2, 0, 0, 0, 0, []⟩ = dd at f1 hn ⊢
    obtain ⟨o', s', r⟩ := dd
    simp only at f1 hn ⊢
    refine RL.o (by simp; rfl) (RL.nil ⟨_, by simp; rfl, ?_⟩)
    have hq : IntKind.wrap .i64 ((i : Int) / 2) = (i : Int) / 2 := wrap_small (by omega) (by omega)
    have hws : IntKind.wrap .i64 ((i : Int) + 1) = (i : Int) + 1 := wrap_small (by omega) (by omega)
    refine WL.seq (WL.sreg (by simp [f1, hq]; rfl) (by simp; rfl) ?_)
    refine WL.cond (t := false) (by simp) (by simp) fun _ => WL.skip ?_
    refine WL.reg (RL.run (by simp; rfl) ⟨_, by simp; rfl, ?_⟩)
    refine WL.reg (RL.run (by simp; rfl) ⟨_, by simp; rfl, h, ?_, trivial⟩)
    rw [hn]
    simp [hws]
  · refine WL.seq (WL.sreg (by simp [h]; rfl) (by simp; rfl) ?_)
    refine WL.cond (t := false) (by simp) (by simp) fun _ => WL.exit ?_
    obtain rfl : i = k := by omega
    refine WL.sregC (RL.o (by simp; rfl) (RL.nilA 61 5 1 (by simp; rfl) rfl rfl (RL.doC (pf i) (pf_sized i) 0 ⟨2, 0, 0, 0, 0, []⟩ (by simp) ?_)))
    have f := pf_ok
    simp only [Bool.and_eq_true, List.all_eq_true, List.mem_range] at f
    have f1 := f.1.2 i (by omega)
    have f2 := (f.2 i hk).1
    have f3 := (f.2 i hk).2
    clear f
    simp only [pxOk] at f1
    generalize DoB (pf i) 0 ⟨2, 0, 0, 0, 0, []⟩ = dd at f1 ⊢
    obtain ⟨o', s', rx⟩ := dd
    simp only at f1 ⊢
    refine RL.o (by simp; rfl) (RL.nil ⟨_, by simp; rfl, ?_⟩)
    have hm : ∃ m : Nat, m ≤ i ∧ (if b < i then (b : Int) else (i : Int)) = (m : Int) := ⟨min i b, Nat.min_le_left _ _, by split <;> omega⟩
    obtain ⟨m, hmi, hm⟩ := hm
    refine WL.sreg (by simp [eb, hm]; rfl) (by simp; rfl) ?_
    refine WL.seq (WL.sreg (by simp; rfl) (by simp; rfl) ?_)
    refine WL.block (WL.count m (fun j => [(500, 0, i64 i), (600, 0, .bptr 6 1 0), (601, 0, sB false (pu i j).There), (602, 0, sUU false (pu i j).Body), (603, 0, sII false (pu i j).Handles), (699, 1, .non), (1100, 0, .bptr 11 1 0), (1101, 0, i64 rx.Code), (1102, 0, i64 rx.Page), (1103, 0, i64 rx.Handle), (1104, 0, sU false rx.Data), (1199, 1, .non), (1200, 0, i64 m), (1300, 0, i64 j)]) (fun _ => True) rfl trivial fun j hj _ => ?_)
    by_cases h' : j < m
    · refine WL.seq (WL.sreg (by simp [h']; rfl) (by simp; rfl) ?_)
      refine WL.cond (t := true) (by simp) (fun _ => WL.skip ?_) (by simp)
      refine WL.seq ?_
      refine WL.block (WL.sregC ?_)
      have hw : (j : Int).tmod 2 = ((j % 2 : Nat) : Int) := rfl
      have hq : IntKind.wrap .i64 ((j : Int) / 2) = (j : Int) / 2 := wrap_small (by omega) (by omega)
      have hws : IntKind.wrap .i64 ((j : Int) + 1) = (j : Int) + 1 := wrap_small (by omega) (by omega)
      refine RL.o (by simp; rfl) (RL.nilA 82 5 1 (by simp; rfl) rfl rfl (RL.doC (pu i j) (pu_sized i j) (j % 2 : Nat) ⟨5, 0, (j / 2 : Nat), 0, 0, []⟩ (by simp [hw, hq]) ?_))
      have g1 := f2 j (by omega)
      simp only [puOk, Bool.and_eq_true, beq_iff_eq] at g1
      have hn : pu i (j + 1) = (DoB (pu i j) (j % 2 : Nat) ⟨5, 0, (j / 2 : Nat), 0, 0, []⟩).2.1 := rfl
      generalize DoB (pu i j) (j % 2 : Nat) ⟨5, 0, (j / 2 : Nat), 0, 0, []⟩ = dd at g1 hn ⊢
      obtain ⟨o2, s2, r⟩ := dd
      simp only at g1 hn ⊢
      refine RL.o (by simp; rfl) (RL.nil ⟨_, by simp; rfl, ?_⟩)
      refine WL.seq (WL.sreg (by simp [g1]; rfl) (by simp; rfl) ?_)
      refine WL.cond (t := false) (by simp) (by simp) fun _ => WL.skip ?_
      refine WL.reg (RL.run (by simp; rfl) ⟨_, by simp; rfl, ?_⟩)
      refine WL.reg (RL.run (by simp; rfl) ⟨_, by simp; rfl, h', ?_, trivial⟩)
      rw [hn]
      simp [hws]
    · refine WL.seq (WL.sreg (by simp [h']; rfl) (by simp; rfl) ?_)
      refine WL.cond (t := false) (by simp) (by simp) fun _ => WL.exit ?_
      obtain rfl : j = m := by omega
      have g3 := f3 j (by omega)
      simp only [pdOk, Bool.and_eq_true, beq_iff_eq] at g3
      obtain ⟨g3, g4⟩ := g3
      refine WL.sregC (RL.o (by simp; rfl) (RL.nilA 92 5 1 (by simp; rfl) rfl rfl (RL.doC (pu i j) (pu_sized i j) 1 ⟨8, 0, 0, 0, 0, []⟩ (by simp) ?_)))
      generalize DoB (pu i j) 1 ⟨8, 0, 0, 0, 0, []⟩ = dd at g4 ⊢
      obtain ⟨o2, s2, r⟩ := dd
      simp only at g4 ⊢
      refine RL.o (by simp; rfl) (RL.nil ⟨_, by simp; rfl, ?_⟩)
      refine WL.sregC (RL.call0 false told_fn (by simp) (by simp) ?_)
      have hb1 : (rx.Code == 4) = decide ((10 : Int) < i) := by
        have : (rx.Code == 4) = decide (10 < i) := by simpa using f1
        rw [this]; exact decide_eq_decide.2 (by omega)
      have hp := pins_fn (pu i j) (pu_sized i j) 0
      rw [g3] at hp
      have hsub : ((i - j : Nat) : Int) = (i : Int) - j := by omega
      have hws : IntKind.wrap .i64 ((i : Int) - j) = (i : Int) - j := wrap_small (by omega) (by omega)
      rw [hsub] at hp
      refine RL.o (by simp; rfl) (RL.g (by simp [hb1]; rfl) (RL.o (by simp; rfl) ?_))
      refine RL.g (by simp; rfl) (RL.callY0 false (by simp) hp (by simp) (by simp) (RL.g (by simp [hws]; rfl) (RL.o (by simp; rfl) ?_)))
      have hb2 : (r.Code == 0) = ((i : Int) == (j : Int)) := by
        rw [g4]
        by_cases e : i = j
        · simp [e]
        · simp [e]; omega
      refine RL.g (by simp [hb2]; rfl) (RL.o (by simp; rfl) ?_)
      have hb3 : i ≠ j → (r.Code == 7) = true := by
        intro e; rw [g4]; simp [e]
      by_cases e : i = j
      · refine RL.g (by simp [hb2, e]; rfl) (RL.g (by simp [hb2, e]; rfl) (RL.g (by simp [hb2, e]; rfl) (RL.o (by simp; rfl) (RL.nil ⟨_, by simp; rfl, ?_⟩))))
        refine WL.ret ⟨.inr rfl, ?_⟩
        simp [fi11]
      · have e' : ((i : Int) == (j : Int)) = false := by simp; omega
        refine RL.g (by simp [hb2, e']; rfl) (RL.g (by simp [hb3 e]; rfl) (RL.g (by simp; rfl) (RL.o (by simp; rfl) (RL.nil ⟨_, by simp; rfl, ?_⟩))))
        refine WL.ret ⟨.inr rfl, ?_⟩
        simp [fi11]
end Go.OT
set_option linter.unusedSimpArgs false
set_option linter.unusedVariables false
namespace Go.OT
open Go.Proofs

/-! ModelReads -/
def z16 : List UInt8 := List.replicate 16 0
/-- Page 0 has the body w; two clients have c1, c2 at their first handle. -/
def sw (w : List UInt8) (c1 c2 : Int) : St := ⟨[true, false, false], [w, z16, z16], [[c1, -1, -1, -1, -1, -1], [c2, -1, -1, -1, -1, -1]]⟩
theorem sw_ok {w : List UInt8} (hw : w.length = 16) {c1 c2 : Int} (h1 : c1 = 0 ∨ c1 = -1) (h2 : c2 = 0 ∨ c2 = -1) : OkSt (sw w c1 c2) := by
  refine ⟨by simp [sw], by simp [sw], by simp [sw], by simp [sw], by simp [sw], fun b hb => ?_, fun i hi hf => ?_, fun l hl => ?_, fun l hl p hp => ?_⟩
  · simp [sw] at hb; rcases hb with rfl | rfl
    · exact hw
    · simp [z16]
  · match i, hi with
    | 0, _ => simp [sw] at hf
    | 1, _ => simp [sw, z16]
    | 2, _ => simp [sw, z16]
    | i + 3, hi => simp [sw] at hi; omega
  · simp [sw] at hl; rcases hl with rfl | rfl <;> rfl
  · have h0 : there (sw w c1 c2) 0 = true := by simp [there, sw]
    simp [sw] at hl
    rcases hl with rfl | rfl
    · simp at hp
      rcases hp with rfl | rfl
      · exact h1.elim (fun e => .inr (by rw [e]; exact h0)) .inl
      · exact .inl rfl
    · simp at hp
      rcases hp with rfl | rfl
      · exact h2.elim (fun e => .inr (by rw [e]; exact h0)) .inl
      · exact .inl rfl
theorem sw_no {w : List UInt8} (hw : w.length = 16) {c1 c2 : Int} (h1 : c1 = 0 ∨ c1 = -1) (h2 : c2 = 0 ∨ c2 = -1) (c : Nat) (hc : c < 2) : noCall (sw w c1 c2) c = false := by
  have := (May_iff _).2 (sw_ok hw h1 h2)
  simp only [noCall, this, Bool.not_true, Bool.false_or, Bool.or_eq_false_iff, decide_eq_false_iff_not]
  refine ⟨by omega, ?_⟩
  show ¬ ((2 : Nat) : Int) ≤ (c : Int)
  omega

theorem rd_s1 : DoB (newSt 3 2) 0 ⟨1, 0, 0, 0, 0, []⟩ = (true, sw z16 0 (-1), ⟨0, 0, 0, []⟩) := by kernel_rfl
theorem rd_s2 : DoB (sw z16 0 (-1)) 1 ⟨2, 0, 0, 0, 0, []⟩ = (true, sw z16 0 0, ⟨0, 0, 0, []⟩) := by kernel_rfl
theorem rd_s3 (k : Nat) (b : List UInt8) (h : k + b.length ≤ 16) : DoB (sw z16 0 0) 0 ⟨4, 0, 0, k, 0, b⟩ = (true, sw (over z16 k b) 0 0, ⟨0, 0, 0, []⟩) := by
  have hn : noCall (sw z16 0 0) 0 = false := by kernel_rfl
  have hr : badRg ⟨4, 0, 0, (k : Int), 0, b⟩ (b.length : Int) = false := by
    simp [badRg]; omega
  simp only [DoB, hn, Bool.false_eq_true, if_false]
  simp [codeOf, sw, badHd, hr, Step]
theorem rd_r (w : List UInt8) (hw : w.length = 16) (f c : Nat) (h : f + c ≤ 16) : DoB (sw w 0 0) 1 ⟨3, 0, 0, f, c, []⟩ = (true, sw w 0 0, ⟨0, 0, 0, (w.drop f).take c⟩) := by
  have hn := sw_no hw (.inl rfl) (.inl rfl) 1 (by decide)
  have hr : badRg ⟨3, 0, 0, (f : Int), (c : Int), []⟩ (c : Int) = false := by
    simp [badRg]; omega
  rw [show ((1 : Nat) : Int) = 1 from rfl] at hn
  simp only [DoB, hn, Bool.false_eq_true, if_false]
  simp [codeOf, sw, badHd, hr, Step]
theorem rd_s4 (w : List UInt8) (hw : w.length = 16) : DoB (sw w 0 0) 0 ⟨5, 0, 0, 0, 0, []⟩ = (true, sw w (-1) 0, ⟨0, 0, 0, []⟩) := by
  have hn := sw_no hw (.inl rfl) (.inl rfl) 0 (by decide)
  rw [show ((0 : Nat) : Int) = 0 from rfl] at hn
  simp only [DoB, hn, Bool.false_eq_true, if_false]
  simp [codeOf, sw, badHd, badRg, Step]
theorem rd_s5 (w : List UInt8) (hw : w.length = 16) : DoB (sw w (-1) 0) 1 ⟨5, 0, 0, 0, 0, []⟩ = (true, sw w (-1) (-1), ⟨0, 0, 0, []⟩) := by
  have hn := sw_no hw (.inr rfl) (.inl rfl) 1 (by decide)
  rw [show ((1 : Nat) : Int) = 1 from rfl] at hn
  simp only [DoB, hn, Bool.false_eq_true, if_false]
  simp [codeOf, sw, badHd, badRg, Step]
theorem rd_s6 (w : List UInt8) (hw : w.length = 16) : DoB (sw w (-1) (-1)) 0 ⟨8, 0, 0, 0, 0, []⟩ = (true, newSt 3 2, ⟨0, 0, 0, []⟩) := by
  have hn := sw_no hw (.inr rfl) (.inr rfl) 0 (by decide)
  rw [show ((0 : Nat) : Int) = 0 from rfl] at hn
  have e : newSt 3 2 = ⟨[false, false, false], [z16, z16, z16], [[-1, -1, -1, -1, -1, -1], [-1, -1, -1, -1, -1, -1]]⟩ := by kernel_rfl
  simp only [DoB, hn, Bool.false_eq_true, if_false]
  have hz : List.replicate 16 (0 : UInt8) = z16 := rfl
  simp only [codeOf, isPage, there, Pins, pinsL, cnt, sw, Step, e, hz]
  simp
theorem rd_z : DoB (sw z16 0 (-1)) 0 ⟨3, 0, 0, 0, 16, []⟩ = (true, sw z16 0 (-1), ⟨0, 0, 0, z16⟩) := by kernel_rfl
end Go.OT
set_option linter.unusedSimpArgs false
set_option linter.unusedVariables false
namespace Go.OT
open Go.Proofs

theorem u8L_td (w : List UInt8) (f c : Nat) : u8L (List.take c (List.drop f (w.map fun b => u8 (b.toNat : Int)))) = some (List.take c (List.drop f (w.map fun b => (b.toNat : Int)))) := by
  rw [← List.map_drop, ← List.map_take, u8L_bytes, List.map_take, List.map_drop]

set_option maxHeartbeats 4000000 in
set_option maxRecDepth 10000 in
theorem reads_law (off : Int) (b : List UInt8) (at' n : Int) (hbl : b.length ≤ 9223372036854775807) : FnC Try.prog 8 [] [i64 off, sU false b, i64 at', i64 n] [] (bl true) := by
  refine FnC.go ok8 rfl ?_
  refine WL.sreg (by simp; rfl) (by simp; rfl) ?_
  refine WL.seq (WL.sreg (by simp; rfl) (by simp; rfl) ?_)
  by_cases hb : 16 < b.length
  · have hb' : (16 : Int) < b.length := by omega
    refine WL.cond (t := true) (by simp [hb']) (fun _ => ?_) (by simp)
    refine WL.sregC (RL.call0 false told_fn (by simp) (by simp) (RL.o (by simp; rfl) (RL.nil ⟨_, by simp; rfl, ?_⟩)))
    refine WL.ret ⟨.inr rfl, ?_⟩
    simp [fi8]
  have hb' : ¬ (16 : Int) < b.length := by omega
  refine WL.cond (t := false) (by simp [hb']) (by simp) fun _ => WL.skip ?_
  obtain ⟨k, hk, ek⟩ := umod off (17 - b.length) (by omega) (by omega)
  obtain ⟨f, hf, ef⟩ := umod at' 17 (by omega) (by omega)
  obtain ⟨c, hc, ec⟩ := umod n (17 - f) (by omega) (by omega)
  rw [show ((17 : Nat) : Int) = 17 from rfl] at ef
  have m1 : IntKind.wrap .i64 (16 - (b.length : Int)) = 16 - (b.length : Int) := wrap_small (by omega) (by omega)
  have m2 : IntKind.wrap .i64 (16 - (b.length : Int) + 1) = ((17 - b.length : Nat) : Int) := by rw [wrap_small (by omega) (by omega)]; omega
  have m3 : IntKind.wrap .u64 ((17 - b.length : Nat) : Int) = ((17 - b.length : Nat) : Int) := IntWalk.u64_in _ ⟨by omega, by omega⟩
  have m4 : ((17 - b.length : Nat) : Int) ≠ 0 := by omega
  have p1 : IntKind.wrap .i64 (16 - (f : Int)) = 16 - (f : Int) := wrap_small (by omega) (by omega)
  have p2 : IntKind.wrap .i64 (16 - (f : Int) + 1) = ((17 - f : Nat) : Int) := by rw [wrap_small (by omega) (by omega)]; omega
  have p3 : IntKind.wrap .u64 ((17 - f : Nat) : Int) = ((17 - f : Nat) : Int) := IntWalk.u64_in _ ⟨by omega, by omega⟩
  have p4 : ((17 - f : Nat) : Int) ≠ 0 := by omega
  generalize ((17 - b.length : Nat) : Int) = M at ek m2 m3 m4
  generalize ((17 - f : Nat) : Int) = N at ec p2 p3 p4
  generalize hw : over z16 k b = w
  have hwl : w.length = 16 := by rw [← hw, over_length (by simp [z16]; omega)]; simp [z16]
  refine WL.sregC (RL.newC 3 2 (by simp) (RL.o (by simp; rfl) (RL.nil ⟨_, by simp; rfl, ?_⟩)))
  refine WL.sregC (RL.o (by simp; rfl) (RL.nilA 28 5 1 (by simp; rfl) rfl rfl (RL.doC (newSt 3 2) (newSt_sized 3 2) 0 ⟨1, 0, 0, 0, 0, []⟩ (by simp) ?_)))
  rw [rd_s1]
  refine RL.o (by simp; rfl) (RL.nil ⟨_, by simp; rfl, ?_⟩)
  have z1 := (sw_ok (w := z16) (by rfl) (.inl rfl : (0 : Int) = 0 ∨ (0 : Int) = -1) (.inr rfl : (-1 : Int) = 0 ∨ (-1 : Int) = -1)).sized
  refine WL.sregC (RL.o (by simp; rfl) (RL.nilA 34 5 1 (by simp; rfl) rfl rfl (RL.doC (sw z16 0 (-1)) z1 1 ⟨2, 0, 0, 0, 0, []⟩ (by simp) ?_)))
  rw [rd_s2]
  refine RL.o (by simp; rfl) (RL.nil ⟨_, by simp; rfl, ?_⟩)
  refine WL.sreg (by simp [m1, m2, m3, m4, ek]; rfl) (by simp; rfl) ?_
  have z2 := (sw_ok (w := z16) (by rfl) (.inl rfl : (0 : Int) = 0 ∨ (0 : Int) = -1) (.inl rfl : (0 : Int) = 0 ∨ (0 : Int) = -1)).sized
  refine WL.sregC (RL.o (by simp; rfl) (RL.doC (sw z16 0 0) z2 0 ⟨4, 0, 0, k, 0, b⟩ (by simp [ek]) ?_))
  rw [rd_s3 k b (by omega), hw]
  refine RL.o (by simp; rfl) (RL.nil ⟨_, by simp; rfl, ?_⟩)
  refine WL.sreg (by simp [ef]; rfl) (by simp; rfl) ?_
  refine WL.sreg (by simp [ef, p1, p2, p3, p4, ec]; rfl) (by simp; rfl) ?_
  have z3 := (sw_ok hwl (.inl rfl : (0 : Int) = 0 ∨ (0 : Int) = -1) (.inl rfl : (0 : Int) = 0 ∨ (0 : Int) = -1)).sized
  refine WL.sregC (RL.o (by simp; rfl) (RL.nilA 71 5 1 (by simp; rfl) rfl rfl (RL.doC (sw w 0 0) z3 1 ⟨3, 0, 0, f, c, []⟩ (by simp [ef, ec]) ?_)))
  rw [rd_r w hwl f c (by omega)]
  refine RL.o (by simp; rfl) (RL.nil ⟨_, by simp; rfl, ?_⟩)
  have hrep : repL [.sc (.int .u8 0)] 16 = z16.map (fun b => u8 (b.toNat : Int)) := rfl
  have htk : List.take 16 (z16.map (fun b => u8 (b.toNat : Int))) = z16.map (fun b => u8 (b.toNat : Int)) := rfl
  have hzl : z16.length = 16 := rfl
  refine WL.sreg (by simp [hrep, htk]; rfl) (by simp; rfl) ?_
  have f4 : min b.length (16 - k) = b.length := by omega
  have hk16 : k ≤ 16 := by omega
  have hkb : k + b.length ≤ 16 := by omega
  refine WL.sreg (by simp [-isSc, isScU', isSc8, ek, f4, hk16, hkb, htk, hzl]; rfl) (by simp; rfl) ?_
  rw [← sU_over (b := z16) (o := k) (d := b) rfl hkb, hw]
  refine WL.sregC (RL.o (by simp; rfl) (RL.nilA 83 5 1 (by simp; rfl) rfl rfl (RL.doC (sw w 0 0) z3 0 ⟨5, 0, 0, 0, 0, []⟩ (by simp) ?_)))
  rw [rd_s4 w hwl]
  refine RL.o (by simp; rfl) (RL.nil ⟨_, by simp; rfl, ?_⟩)
  have z4 := (sw_ok hwl (.inr rfl : (-1 : Int) = 0 ∨ (-1 : Int) = -1) (.inl rfl : (0 : Int) = 0 ∨ (0 : Int) = -1)).sized
  refine WL.sregC (RL.o (by simp; rfl) (RL.nilA 89 5 1 (by simp; rfl) rfl rfl (RL.doC (sw w (-1) 0) z4 1 ⟨5, 0, 0, 0, 0, []⟩ (by simp) ?_)))
  rw [rd_s5 w hwl]
  refine RL.o (by simp; rfl) (RL.nil ⟨_, by simp; rfl, ?_⟩)
  have z5 := (sw_ok hwl (.inr rfl : (-1 : Int) = 0 ∨ (-1 : Int) = -1) (.inr rfl : (-1 : Int) = 0 ∨ (-1 : Int) = -1)).sized
  refine WL.sregC (RL.o (by simp; rfl) (RL.nilA 95 5 1 (by simp; rfl) rfl rfl (RL.doC (sw w (-1) (-1)) z5 0 ⟨8, 0, 0, 0, 0, []⟩ (by simp) ?_)))
  rw [rd_s6 w hwl]
  refine RL.o (by simp; rfl) (RL.nil ⟨_, by simp; rfl, ?_⟩)
  refine WL.sregC (RL.o (by simp; rfl) (RL.nilA 101 5 1 (by simp; rfl) rfl rfl (RL.doC (newSt 3 2) (newSt_sized 3 2) 0 ⟨1, 0, 0, 0, 0, []⟩ (by simp) ?_)))
  rw [rd_s1]
  refine RL.o (by simp; rfl) (RL.nil ⟨_, by simp; rfl, ?_⟩)
  refine WL.sregC (RL.o (by simp; rfl) (RL.nilA 107 5 1 (by simp; rfl) rfl rfl (RL.doC (sw z16 0 (-1)) z1 0 ⟨3, 0, 0, 0, 16, []⟩ (by simp) ?_)))
  rw [rd_z]
  refine RL.o (by simp; rfl) (RL.nil ⟨_, by simp; rfl, ?_⟩)
  refine WL.seq (WL.draw mixed (by simp [cleanL, noH]) (DL.call0 false told_fn (by simp) (by simp) ?_))
  refine DL.o (by simp; exact ⟨rfl, rfl⟩) (DL.g (by simp; exact ⟨rfl, rfl⟩) (DL.o (by simp; exact ⟨rfl, rfl⟩) (DL.g (by simp; exact ⟨rfl, rfl⟩) (DL.o (by simp; exact ⟨rfl, rfl⟩) ?_))))
  have hfc : IntKind.wrap .i64 ((f : Int) + (c : Int)) = (f : Int) + (c : Int) := wrap_small (by omega) (by omega)
  have hfc2 : ((f : Int) + (c : Int)).toNat = f + c := by omega
  have hfc3 : (0 : Int) ≤ (f : Int) + (c : Int) := by omega
  have hfc4 : f + c ≤ 16 := by omega
  refine DL.g (by simp [hfc, hfc2, hfc3, hfc4, hwl, u8L_td]; exact ⟨rfl, rfl⟩) ?_
  refine DL.o (by simp; exact ⟨rfl, rfl⟩) (DL.g (by simp; exact ⟨rfl, rfl⟩) (DL.o (by simp; exact ⟨rfl, rfl⟩) (DL.g (by simp; exact ⟨rfl, rfl⟩) (DL.o (by simp; exact ⟨rfl, rfl⟩) (DL.g (by simp; exact ⟨rfl, rfl⟩) (DL.o (by simp; exact ⟨rfl, rfl⟩) ?_))))))
  refine DL.g (by simp [hrep, htk, hzl]; exact ⟨rfl, rfl⟩) (DL.o (by simp; exact ⟨rfl, rfl⟩) (DL.nil ⟨by kernel_rfl, _, by simp; rfl, ?_⟩))
  refine WL.ret ⟨.inr rfl, ?_⟩
  simp [fi8]
end Go.OT
/-
  A register's content, whatever it owns, is moved on.
-/
set_option linter.unusedSimpArgs false
set_option linter.unusedVariables false
namespace Go.OT

theorem bind_some' {α β : Type} {x : Option α} {f : α → Option β} {y : β} (h : x.bind f = some y) : ∃ a, x = some a ∧ f a = some y := Option.bind_eq_some_iff.1 h
theorem map_some' {α β : Type} {x : Option α} {f : α → β} {y : β} (h : x.map f = some y) : ∃ a, x = some a ∧ f a = y := Option.map_eq_some_iff.1 h

theorem compCall_mov {P : Program} {nt : Nat} {o : Oper} {c : Call} {d n : Nat} (h : compCall P nt o c = some (.mov d (.t n))) : False := by
  unfold compCall at h
  obtain ⟨d', _, h⟩ := bind_some' h
  split at h
  · obtain ⟨c, _, h⟩ := bind_some' h
    split at h <;> cases h
  · obtain ⟨c, _, h⟩ := bind_some' h
    obtain ⟨b, _, h⟩ := map_some' h
    cases h
  · obtain ⟨c, _, h⟩ := bind_some' h
    obtain ⟨b, _, h⟩ := map_some' h
    cases h
  · obtain ⟨c, _, h⟩ := bind_some' h
    obtain ⟨b, _, h⟩ := bind_some' h
    split at h
    · split at h
      · obtain ⟨i, _, h⟩ := bind_some' h
        obtain ⟨z, _, h⟩ := bind_some' h
        split at h <;> cases h
      · cases h
    · cases h
  · obtain ⟨c, _, h⟩ := bind_some' h
    obtain ⟨b, _, h⟩ := bind_some' h
    split at h
    · obtain ⟨i, _, h⟩ := bind_some' h
      split at h <;> cases h
    · cases h
  · cases h

theorem compO_mov {P : Program} {nt : Nat} {here : List Nat} {o : Oper} {d n : Nat} (h : compO P nt here o = some (.mov d (.t n))) : opsIn nt o = true ∧ ∃ x, (o.op = .move x ∨ o.op = .assign x) ∧ ∃ sz, compOd nt sz x = some (.t n) := by
  unfold compO at h
  split at h
  · rename_i hc
    refine ⟨hc.1, ?_⟩
    split at h
    · rename_i x hop
      obtain ⟨d', _, h⟩ := bind_some' h
      obtain ⟨c, hx, h⟩ := map_some' h
      cases h
      exact ⟨x, .inl hop, _, hx⟩
    · rename_i x hop
      obtain ⟨d', _, h⟩ := bind_some' h
      obtain ⟨c, hx, h⟩ := map_some' h
      split at h
      · split at h
        · cases h
        · cases h; exact ⟨x, .inr hop, _, hx⟩
      · cases h
    · exfalso
      obtain ⟨_, _, h⟩ := bind_some' h
      obtain ⟨_, _, h⟩ := map_some' h
      cases h
    · exfalso
      obtain ⟨_, _, h⟩ := bind_some' h
      obtain ⟨_, _, h⟩ := bind_some' h
      obtain ⟨_, _, h⟩ := bind_some' h
      obtain ⟨_, _, h⟩ := map_some' h
      cases h
    · exfalso
      obtain ⟨_, _, h⟩ := bind_some' h
      obtain ⟨_, _, h⟩ := map_some' h
      cases h
    · exfalso
      obtain ⟨_, _, h⟩ := bind_some' h
      obtain ⟨_, _, h⟩ := bind_some' h
      split at h
      · cases h
      · obtain ⟨_, _, h⟩ := bind_some' h
        split at h
        · split at h
          · cases h
          · split at h <;> cases h
        · cases h
    · exfalso
      obtain ⟨_, _, h⟩ := bind_some' h
      obtain ⟨_, _, h⟩ := bind_some' h
      split at h
      · cases h
      · split at h <;> cases h
      · split at h
        · split at h <;> cases h
        · cases h
      · split at h <;> cases h
      · cases h
    · exfalso
      obtain ⟨_, _, h⟩ := bind_some' h
      obtain ⟨_, _, h⟩ := bind_some' h
      obtain ⟨_, _, h⟩ := bind_some' h
      obtain ⟨_, _, h⟩ := bind_some' h
      split at h <;> cases h
    · exfalso
      obtain ⟨_, _, h⟩ := bind_some' h
      obtain ⟨_, _, h⟩ := bind_some' h
      split at h
      · obtain ⟨_, _, h⟩ := bind_some' h
        obtain ⟨_, _, h⟩ := bind_some' h
        split at h <;> cases h
      · cases h
    · exfalso
      obtain ⟨_, _, h⟩ := bind_some' h
      obtain ⟨_, _, h⟩ := bind_some' h
      obtain ⟨_, _, h⟩ := bind_some' h
      split at h
      · obtain ⟨_, _, h⟩ := map_some' h
        cases h
      · cases h
    · exfalso
      obtain ⟨_, _, h⟩ := bind_some' h
      obtain ⟨_, _, h⟩ := bind_some' h
      obtain ⟨_, _, h⟩ := bind_some' h
      obtain ⟨_, _, h⟩ := bind_some' h
      split at h
      · obtain ⟨_, _, h⟩ := map_some' h
        cases h
      · cases h
      · cases h
    · exfalso
      obtain ⟨_, _, h⟩ := bind_some' h
      obtain ⟨_, _, h⟩ := bind_some' h
      obtain ⟨_, _, h⟩ := bind_some' h
      split at h <;> cases h
    · exfalso
      split at h
      · obtain ⟨_, _, h⟩ := bind_some' h
        obtain ⟨_, _, h⟩ := bind_some' h
        obtain ⟨_, _, h⟩ := map_some' h
        cases h
      · cases h
    · exfalso
      obtain ⟨_, _, h⟩ := map_some' h
      cases h
    · exfalso
      obtain ⟨_, _, h⟩ := bind_some' h
      obtain ⟨_, _, h⟩ := map_some' h
      cases h
    · exfalso
      obtain ⟨_, _, h⟩ := bind_some' h
      obtain ⟨_, _, h⟩ := bind_some' h
      split at h <;> cases h
    · exfalso
      obtain ⟨_, _, h⟩ := bind_some' h
      obtain ⟨_, _, h⟩ := bind_some' h
      obtain ⟨_, _, h⟩ := bind_some' h
      split at h <;> cases h
    · exfalso
      obtain ⟨_, _, h⟩ := bind_some' h
      obtain ⟨_, _, h⟩ := bind_some' h
      obtain ⟨_, _, h⟩ := bind_some' h
      split at h
      · obtain ⟨_, _, h⟩ := bind_some' h
        obtain ⟨_, _, h⟩ := bind_some' h
        split at h <;> cases h
      · cases h
    · exfalso
      obtain ⟨_, _, h⟩ := bind_some' h
      split at h
      · obtain ⟨_, _, h⟩ := bind_some' h
        split at h
        · obtain ⟨_, _, h⟩ := bind_some' h
          split at h <;> cases h
        · cases h
      · split at h
        · obtain ⟨_, _, h⟩ := map_some' h
          cases h
        · cases h
      · split at h
        · obtain ⟨_, _, h⟩ := bind_some' h
          obtain ⟨_, _, h⟩ := bind_some' h
          split at h <;> cases h
        · cases h
    · exfalso
      obtain ⟨_, _, h⟩ := bind_some' h
      split at h
      · obtain ⟨_, _, h⟩ := map_some' h
        cases h
      · cases h
    · exfalso
      obtain ⟨_, _, h⟩ := bind_some' h
      obtain ⟨_, _, h⟩ := bind_some' h
      split at h
      · obtain ⟨_, _, h⟩ := bind_some' h
        split at h <;> cases h
      · cases h
    · exfalso
      exact compCall_mov h
    · exfalso
      cases h
  · cases h

theorem ok_mvr {C : Ctx} {o : Oper} {X : XF Unit} {d n sz : Nat} {x : Operand} (ho : o.op = .move x ∨ o.op = .assign x) (hd : o.dst = some d) (hlt : d < C.nt) (hin : opsIn C.nt o = true) (hc : compOd C.nt sz x = some (.t n)) (hne : d ≠ n) :
    OpOk C o X ((X.set (100 * d) (X (100 * n)).2).set (100 * n) .non) :=
  OpOk.of_val hd hlt hin fun XL β I rg w he R => by
    subst he
    have hx : x = .tmp n := by
      cases x with
      | tmp t =>
        simp only [compOd] at hc
        split at hc
        · simp only [Option.some.injEq, COd.t.injEq] at hc; rw [hc]
        · cases hc
      | const v => simp only [compOd] at hc; split at hc <;> cases hc
      | func f => cases hc
      | global g => cases hc
    subst hx
    have R1 := R.moveR d n (by have := C.hnt; omega) hne
    refine ⟨rg n, w, _, β, I, _, ?_, ?_, R1, by simp, fun t h1 _ => by simp [h1]⟩
    · rcases ho with ho | ho <;> simp [execOp, ho, evR]
    · rw [erF_set, erF_set]; rfl

/-- What a register holds is moved on, whatever it owns. -/
theorem RL.mv {P : Program} {nt : Nat} {L : SL} {K : SL → Prop} {l : List COp} {rest : List Sg} {d n : Nat} (hne : d ≠ n) (h : RL P nt (.o l :: rest) (setL (setL L (100 * d) (fnL L (100 * n)).2) (100 * n) .non) K) : RL P nt (.o (.mov d (.t n) :: l) :: rest) L K :=
  RL.cons (it := .op none (.mov d (.t n))) (rest := .o l :: rest) (by simp [flatS]) (fun C ops i o hP hn hi hit => by
    obtain ⟨h1, h2, h3⟩ := itOf_op hit
    subst hP hn
    obtain ⟨hin, x, hop, sz, hx⟩ := compO_mov h2
    rcases h3 with ⟨_, _, _, e, _⟩ | ⟨h4, h5, _⟩
    · cases e
    · have := ok_mvr (X := fnL L) hop h4 h5 hin hx hne
      rw [fnL_set, fnL_set] at this
      exact SOk.op hi (compGd_none h1) this) h
end Go.OT
set_option linter.unusedSimpArgs false
set_option linter.unusedVariables false
namespace Go.OT
open Go.Proofs

theorem noImm_all {α : Type} (f : α → AU) (h : ∀ a, noImm (f a) = true) : ∀ l : List α, noImmL (l.map f) = true
  | [] => rfl
  | a :: l => by simp only [List.map_cons, noImmL, h a, noImm_all f h l, Bool.and_self]
theorem noImm_sU (l : List UInt8) : noImm (sU true l : AU) = true := by simp only [noImm, noImmU, Bool.and_self]
theorem noImm_sI (l : List Int) : noImm (sI true l : AU) = true := by simp only [noImm, noImm_all i64 (fun _ => rfl) l, Bool.and_self]
theorem noImm_sB (l : List Bool) : noImm (sB true l : AU) = true := by simp only [noImm, noImm_all bl (fun _ => rfl) l, Bool.and_self]
theorem noImm_encS (s : St) : noImm (encS true s) = true := by
  have h1 := noImm_sB s.There
  have h2 : noImm (sUU true s.Body) = true := by simp only [noImm, noImm_all (sU true) noImm_sU s.Body, Bool.and_self]
  have h3 : noImm (sII true s.Handles) = true := by simp only [noImm, noImm_all (sI true) noImm_sI s.Handles, Bool.and_self]
  show noImmL [sB true s.There, sUU true s.Body, sII true s.Handles] = true
  rw [noImmL, noImmL, noImmL, h1, h2, h3]; rfl
theorem noImm_encR (r : Rs) : noImm (encR true r) = true := by
  have h1 := noImm_sU r.Data
  show noImmL [i64 r.Code, i64 r.Page, i64 r.Handle, sU true r.Data] = true
  rw [noImmL, noImmL, noImmL, noImmL, h1]; rfl
theorem roots_encS (o : Bool) (s : St) : roots (encS o s) = [] := by simp [roots, rootsL]

/-- A call of Do on a state that is lent; what it gives back is its own. -/
theorem RL.doO {nt : Nat} {L : SL} {K : SL → Prop} {rest : List Sg} {d : Nat} {cs : List COd} (s : St) (hs : Sized s) (cl : Int) (q : Op) {s' : St} {r : Rs} (e : DoB s cl q = (true, s', r))
    (has : trArgs (fnL L) [] true cs = some [encS false s, i64 cl, encO false q])
    (h : RL Try.prog nt rest (setL L (100 * d) (.tuple [encS true s', encR true r])) K) : RL Try.prog nt (.call none d 19 cs :: rest) L K := by
  have hf := Do_fn s hs cl q
  rw [e] at hf
  refine RL.call0 true hf has ?_ h
  have e1 : noImm (.tuple [encS true s', encR true r] : AU) = true := by
    show noImmL [encS true s', encR true r] = true
    rw [noImmL, noImmL, noImm_encS, noImm_encR]; rfl
  have e2 : roots (.tuple [encS true s', encR true r] : AU) = [] := by simp [roots, rootsL]
  simp only [sideOk, e1, e2, ghsOk]; rfl

/-! ModelOwn -/
def so (w : List UInt8) : St := ⟨[true, false], [w, z16], [[0, -1, -1, -1, -1, -1]]⟩
theorem so_ok {w : List UInt8} (hw : w.length = 16) : OkSt (so w) := by
  refine ⟨by simp [so], by simp [so], by simp [so], by simp [so], by simp [so], fun b hb => ?_, fun i hi hf => ?_, fun l hl => ?_, fun l hl p hp => ?_⟩
  · simp [so] at hb; rcases hb with rfl | rfl
    · exact hw
    · simp [z16]
  · match i, hi with
    | 0, _ => simp [so] at hf
    | 1, _ => simp [so, z16]
    | i + 2, hi => simp [so] at hi; omega
  · simp [so] at hl; subst hl; rfl
  · have h0 : there (so w) 0 = true := by simp [there, so]
    simp [so] at hl
    subst hl
    simp at hp
    rcases hp with rfl | rfl
    · exact .inr h0
    · exact .inl rfl
theorem so_no {w : List UInt8} (hw : w.length = 16) : noCall (so w) 0 = false := by
  have := (May_iff _).2 (so_ok hw)
  simp only [noCall, this, Bool.not_true, Bool.false_or, Bool.or_eq_false_iff, decide_eq_false_iff_not]
  exact ⟨by omega, by show ¬ ((1 : Nat) : Int) ≤ 0; omega⟩
theorem ow_s1 : DoB (newSt 2 1) 0 ⟨1, 0, 0, 0, 0, []⟩ = (true, so z16, ⟨0, 0, 0, []⟩) := by kernel_rfl
theorem ow_t (b : List UInt8) (h : b.length ≤ 16) : DoB (so z16) 0 ⟨4, 0, 0, 0, 0, b⟩ = (true, so (over z16 0 b), ⟨0, 0, 0, []⟩) := by
  have hn : noCall (so z16) 0 = false := by kernel_rfl
  have hr : badRg ⟨4, 0, 0, 0, 0, b⟩ (b.length : Int) = false := by
    simp [badRg]; omega
  simp only [DoB, hn, Bool.false_eq_true, if_false]
  simp [codeOf, so, badHd, hr, Step]
theorem ow_x (w : List UInt8) (hw : w.length = 16) : DoB (so w) 0 ⟨3, 0, 0, 0, 16, []⟩ = (true, so w, ⟨0, 0, 0, w⟩) := by
  have hn := so_no hw
  simp only [DoB, hn, Bool.false_eq_true, if_false]
  have : w.take 16 = w := List.take_of_length_le (by omega)
  simp [codeOf, so, badHd, badRg, Step, this]

theorem isScU0 (l : List UInt8) (a : Nat) : (∀ x ∈ List.take a (l.map fun b => u8 (b.toNat : Int)), isSc x = true) ↔ True := ⟨fun _ => trivial, fun _ => isScU l a 0⟩
theorem rep16' : repL [.sc (.int .u8 0)] 16 = z16.map (fun b => u8 (b.toNat : Int)) := rfl
theorem tak16' : List.take 16 (z16.map (fun b => u8 (b.toNat : Int))) = z16.map (fun b => u8 (b.toNat : Int)) := rfl
abbrev str0 (w : List UInt8) : AU := .sc (.string (b2s (w.map fun b => (b.toNat : Int))))

set_option maxHeartbeats 4000000 in
set_option maxRecDepth 10000 in
theorem own_end (b : List UInt8) (hb : b.length ≤ 16) (w : List UInt8) (hw : over z16 0 b = w) (hwl : w.length = 16) (x : AU) (hx : x = .sc (.int .u8 1)) : WL Try.prog fi5.nt c5_11 [(0, 0, sU false b), (300, 0, AV.bptr 3 1 0), (301, 0, sB true [true, false]),
      (302, 0, AV.sl true () 1 2 [AV.sl true () 1 16 [u8 0, x, u8 0, u8 0, u8 0, u8 0, u8 0, u8 0, u8 0, u8 0, u8 0, u8 0, u8 0, u8 0, u8 0, u8 0], sU true [0, 0, 0, 0, 0, 0, 0, 0, 0, 0, 0, 0, 0, 0, 0, 0]]),
      (303, 0, sII true [[0, -1, -1, -1, -1, -1]]), (399, 1, AV.non), (400, 0, AV.bptr 4 1 0), (401, 0, sB true [true, false]), (402, 0, sUU true [w, z16]), (403, 0, sII true [[0, -1, -1, -1, -1, -1]]), (499, 1, AV.non), (800, 0, str0 w)]
      fun e L => (e = Ex.nrm ∨ e = Ex.ret) ∧ RetOk fi5.rs [] (bl true) L := by
  subst hx
  refine WL.sreg (by simp; rfl) (by simp; rfl) ?_
  refine WL.seq (WL.sreg (by simp [str0]; rfl) (by simp; rfl) ?_)
  refine WL.cond (t := false) (by simp) (by simp) fun _ => WL.skip ?_
  have z2 := (so_ok hwl).sized
  refine WL.sregC (RL.o (by simp; rfl) (RL.nilA 131 5 1 (by simp; rfl) rfl rfl (RL.doO (so w) z2 0 ⟨3, 0, 0, 0, 16, []⟩ (ow_x w hwl) (by simp [so]) (RL.mv (by decide) (RL.o (by simp; rfl) (RL.nil ⟨_, by simp; rfl, ?_⟩))))))
  refine WL.sreg (by simp [rep16', tak16']; rfl) (by simp; rfl) ?_
  have hzl : z16.length = 16 := rfl
  have hkb : 0 + b.length ≤ 16 := by omega
  have f4 : min b.length 16 = b.length := by omega
  refine WL.sreg (by simp [-isSc, isScU0, isSc8, f4, hb, hzl]; rfl) (by simp; rfl) ?_
  rw [← sU_over (b := z16) (o := 0) (d := b) rfl hkb, hw]
  refine WL.sregC (RL.call0 true told_fn (by simp) (by simp) (RL.o (by simp; rfl) (RL.g (by simp; rfl) (RL.o (by simp; rfl) (RL.nil ⟨_, by simp; rfl, ?_⟩)))))
  refine WL.ret ⟨.inr rfl, ?_⟩
  simp [fi5]

set_option maxHeartbeats 4000000 in
set_option maxRecDepth 10000 in
theorem own_law (b : List UInt8) (hbl : b.length ≤ 9223372036854775807) : FnC Try.prog 5 [] [sU false b] [] (bl true) := by
  refine FnC.go ok5 rfl ?_
  refine WL.sreg (by simp; rfl) (by simp; rfl) ?_
  refine WL.seq (WL.sreg (by simp; rfl) (by simp; rfl) ?_)
  by_cases hb : 16 < b.length
  · have hb' : (16 : Int) < b.length := by omega
    refine WL.cond (t := true) (by simp [hb']) (fun _ => ?_) (by simp)
    refine WL.sregC (RL.call0 false told_fn (by simp) (by simp) (RL.o (by simp; rfl) (RL.nil ⟨_, by simp; rfl, ?_⟩)))
    refine WL.ret ⟨.inr rfl, ?_⟩
    simp [fi5]
  have hb' : ¬ (16 : Int) < b.length := by omega
  refine WL.cond (t := false) (by simp [hb']) (by simp) fun _ => WL.skip ?_
  refine WL.sregC (RL.call0 false (new_fn 2 1) (by simp) (by simp) (RL.o (by simp; rfl) (RL.nil ⟨_, by simp; rfl, ?_⟩)))
  refine WL.sregC (RL.o (by simp; rfl) (RL.nilA 19 5 1 (by simp; rfl) rfl rfl (RL.doO (newSt 2 1) (newSt_sized 2 1) 0 ⟨1, 0, 0, 0, 0, []⟩ ow_s1 (by simp) (RL.mv (by decide) (RL.o (by simp; rfl) (RL.nil ⟨_, by simp; rfl, ?_⟩))))))
  have z1 := (so_ok (w := z16) (by rfl)).sized
  refine WL.sregC (RL.o (by simp; rfl) (RL.doO (so z16) z1 0 ⟨4, 0, 0, 0, 0, b⟩ (ow_t b (by omega)) (by simp) (RL.mv (by decide) (RL.o (by simp; rfl) (RL.nil ⟨_, by simp; rfl, ?_⟩)))))
  generalize hw : over z16 0 b = w
  have hwl : w.length = 16 := by rw [← hw, over_length (by simp [z16]; omega)]; simp [z16]
  have z2 := (so_ok hwl).sized
  refine WL.sregC (RL.o (by simp; rfl) (RL.nilA 32 5 1 (by simp; rfl) rfl rfl (RL.doO (so w) z2 0 ⟨3, 0, 0, 0, 16, []⟩ (ow_x w hwl) (by simp) (RL.mv (by decide) (RL.o (by simp; rfl) (RL.nil ⟨_, by simp; rfl, ?_⟩))))))
  obtain ⟨w0, w1, r, rfl, hr⟩ : ∃ w0 w1 r, w = w0 :: w1 :: r ∧ r.length = 14 := by
    match w, hwl with
    | w0 :: w1 :: r, hwl => exact ⟨w0, w1, r, rfl, by simpa using hwl⟩
  refine WL.seq (WL.sreg (by simp [so, hr]; rfl) (by simp; rfl) ?_)
  refine WL.cond (t := false) (by simp) (by simp) fun _ => WL.skip ?_
  refine WL.sreg (by simp; rfl) (by simp; rfl) ?_
  refine WL.seq (WL.draw mixed (by simp [cleanL, noH]) (DL.o (by simp [hr]; exact ⟨rfl, rfl⟩) (DL.nil ⟨by kernel_rfl, _, by simp; rfl, ?_⟩)))
  refine WL.seq (WL.draw mixed (by simp [cleanL, noH]) (DL.o (by simp [z16]; exact ⟨rfl, rfl⟩) (DL.nil ⟨by kernel_rfl, _, by simp; rfl, ?_⟩)))
  exact own_end b (by omega) (w0 :: w1 :: r) hw hwl _ rfl
end Go.OT
/-
  The arguments of a law as trees that are never written.
-/
set_option linter.unusedSimpArgs false
set_option linter.unusedVariables false
namespace Go.OT
open Go.ChangeShapes Go.WideShapes Go.ChangeAt Go.RowKit Go.Joins

/-- Whatever lies in memory. -/
def Wc (W : World) : ASet := fun b o => (W.at b o).isSome = true

theorem Wc_lt {W : World} {b o : Nat} (h : Wc W b o) : b < W.heap.size := by
  unfold Wc World.at World.cell? at h
  by_cases hb : b < W.heap.size
  · exact hb
  · simp [Array.getElem?_eq_none (Nat.le_of_not_lt hb)] at h

/-- A tree that owns nothing. -/
def plT (l : AL) : Prop := noOwn l = true ∧ roots l = [] ∧ ∀ b o, ¬ fp l b o

def CellT (W : World) (l : AL) (c : Value) : Prop := CR l c ∧ Mem W (Wc W) l ∧ plT l

/-- The values of a type that can be read are trees of the form 'enc'. -/
def Ty (P : Program) (t : TypeId) (α : Type) (enc : α → List AU) (ok : α → Prop) : Prop :=
  ∀ (T : Type) (en : TypeId × Value → T) (W : World) (fuel : Nat) (cs : List Value) (x : DataW T × List MemPlace), DataW.trod en P W 0 (fun _ => true) true fuel t cs = some x →
    ∃ (a : α) (ls : List AL), ls.map er = enc a ∧ ok a ∧ ls.length = cs.length ∧ ∀ (i : Nat) (l : AL) (c : Value), ls[i]? = some l → cs[i]? = some c → CellT W l c

section
variable {P : Program} {t : TypeId}

theorem Ty.one {α : Type} {enc : α → AU} {ok : α → Prop} (h : ∀ (T : Type) (en : TypeId × Value → T) (W : World) (fuel : Nat) (cs : List Value) (x : DataW T × List MemPlace), DataW.trod en P W 0 (fun _ => true) true fuel t cs = some x →
    ∃ (a : α) (l : AL) (c : Value), cs = [c] ∧ er l = enc a ∧ ok a ∧ CellT W l c) : Ty P t α (fun a => [enc a]) ok := by
  intro T en W fuel cs x hx
  obtain ⟨a, l, c, rfl, h1, h2, h3⟩ := h T en W fuel cs x hx
  refine ⟨a, [l], by simp [h1], h2, rfl, fun i l' c' hl hc => ?_⟩
  cases i with
  | zero => simp at hl hc; subst hl hc; exact h3
  | succ i => simp at hl

theorem cellT_sc (W : World) (v : Value) : CellT W (.sc v) v := ⟨by simp [CR], by simp [Mem], by simp [noOwn], by simp [roots], by simp [fp]⟩

theorem Ty.int {k : IntKind} (ht : P.underlying t = some (.int k)) : Ty P t Int (fun n => [.sc (.int k n)]) (fun n => (Lit.int k n).wf = true) :=
  Ty.one fun T en W fuel cs x hx => by
    obtain ⟨n, rfl, _, hw⟩ := DataW.trod_int ht hx
    exact ⟨n, .sc (.int k n), _, rfl, by simp [er], hw, cellT_sc W _⟩

theorem Ty.u8 (ht : P.underlying t = some (.int .u8)) : Ty P t UInt8 (fun b => [.sc (.int .u8 (b.toNat : Int))]) (fun _ => True) :=
  Ty.one fun T en W fuel cs x hx => by
    obtain ⟨n, rfl, _, hw⟩ := DataW.trod_int ht hx
    have hw' : 0 ≤ n ∧ n ≤ 255 := by simpa [Lit.wf, IntKind.min, IntKind.max, IntKind.signed, IntKind.bits] using hw
    refine ⟨UInt8.ofNat n.toNat, .sc (.int .u8 n), _, rfl, ?_, trivial, cellT_sc W _⟩
    simp [er]
    omega

theorem Ty.bool (ht : P.underlying t = some .bool) : Ty P t Bool (fun b => [.sc (.bool b)]) (fun _ => True) :=
  Ty.one fun T en W fuel cs x hx => by
    obtain ⟨b, rfl, _⟩ := DataW.trod_bool ht hx
    exact ⟨b, .sc (.bool b), _, rfl, by simp [er], trivial, cellT_sc W _⟩

theorem Ty.string (ht : P.underlying t = some .string) : Ty P t ByteArray (fun s => [.sc (.string s)]) (fun s => s.size ≤ maxLen) :=
  Ty.one fun T en W fuel cs x hx => by
    obtain ⟨s, rfl, _, hs⟩ := DataW.trod_string ht hx
    exact ⟨s, .sc (.string s), _, rfl, by simp [er], hs, cellT_sc W _⟩

theorem Ty.map {α β : Type} {enc : α → List AU} {ok : α → Prop} {enc' : β → List AU} {ok' : β → Prop} (h : Ty P t α enc ok) (g : α → β) (he : ∀ a, enc a = enc' (g a)) (hk : ∀ a, ok a → ok' (g a)) : Ty P t β enc' ok' := by
  intro T en W fuel cs x hx
  obtain ⟨a, ls, h1, h2, h3, h4⟩ := h T en W fuel cs x hx
  exact ⟨g a, ls, by rw [h1, he], hk a h2, h3, h4⟩

theorem spot_of_cell {W : World} {a : Addr} {v : Value} (h : W.cell? a = some v) : a.spot = none := by
  unfold World.cell? at h
  split at h
  · split at h
    · cases h
    · rename_i hs; simpa using hs
  · cases h

theorem addr_add {a : Addr} (h : a.spot = none) (j : Nat) : a.add j = ⟨a.block, a.off + j, none⟩ := by
  obtain ⟨b, o, s⟩ := a
  simp only at h
  subst h
  exact Addr.add_lit b o j

/-- A slice. -/
theorem Ty.slice {e : TypeId} {s : Nat} {α : Type} {enc : α → List AU} {ok : α → Prop} (ht : P.underlying t = some (.slice e)) (hs : P.cellsOf e = s) (h0 : 0 < s) (hl : ∀ a, (enc a).length = s) (h : Ty P e α enc ok) :
    Ty P t (List α) (fun l => [.sl false () s l.length (l.flatMap enc)]) (fun l => l.length ≤ 9223372036854775807 ∧ ∀ a ∈ l, ok a) :=
  Ty.one fun T en W fuel cs x hx => by
    rcases DataW.trod_slice ht hx with ⟨rfl, _⟩ | ⟨a, len, cap, elems, rest, n, _, rfl, _, _, hlc, hcm, hlen, hel, hsp, _⟩
    · exact ⟨[], .sl false none s 0 [], _, rfl, by simp [er, erL], by simp, by simp [CR], by simp [Mem], by simp [noOwn], by simp [roots], by simp [fp]⟩
    rw [hs] at hel hsp
    have hcm' : cap ≤ 9223372036854775807 := hcm
    -- each element, one by one
    have key : ∀ m, m ≤ len → ∃ (l : List α) (ls : List AL), l.length = m ∧ ls.map er = l.flatMap enc ∧ (∀ a ∈ l, ok a) ∧ ls.length = m * s ∧ ∀ (j : Nat) (u : AL), ls[j]? = some u → ∃ v, W.cell? (a.add j) = some v ∧ CellT W u v := by
      intro m
      induction m with
      | zero => intro _; exact ⟨[], [], rfl, rfl, by simp, by simp, fun j u hj => by simp at hj⟩
      | succ m ih =>
        intro hm
        obtain ⟨l, ls, k1, k2, k3, k4, k5⟩ := ih (by omega)
        have hE := hel m (by omega)
        have hlt : m < elems.length := by omega
        rw [List.getElem?_eq_getElem hlt] at hE
        simp only [Option.bind_eq_some_iff] at hE
        obtain ⟨c1, hc1, hy⟩ := hE
        obtain ⟨_, hc2, hc3⟩ := World.cells?_some hc1
        obtain ⟨b, us, u1, u2, u3, u4⟩ := h T en W n c1 _ hy
        refine ⟨l ++ [b], ls ++ us, by simp [k1], by simp [k2, u1], fun x hx => ?_, by rw [List.length_append, k4, u3, hc2, Nat.succ_mul], fun j u hj => ?_⟩
        · rcases List.mem_append.1 hx with hx | hx
          · exact k3 x hx
          · simp at hx; subst hx; exact u2
        · by_cases hjl : j < ls.length
          · rw [List.getElem?_append_left hjl] at hj
            exact k5 j u hj
          · rw [List.getElem?_append_right (by omega)] at hj
            have hju : j - ls.length < us.length := (List.getElem?_eq_some_iff.1 hj).1
            have hjc : j - ls.length < c1.length := by omega
            have hcv := hc3 (j - ls.length) (by omega)
            rw [List.getElem?_eq_getElem hjc] at hcv
            refine ⟨c1[j - ls.length], ?_, u4 _ u _ hj (List.getElem?_eq_getElem hjc)⟩
            rw [← hcv]
            congr 1
            rw [k4] at hjl
            by_cases hz : m * s = 0
            · have e1 : a.add (m * s) = a := by rw [hz]; simp [Addr.add]
              rw [e1, k4, hz]; rfl
            · have e1 : (a.add (m * s)).spot = none := by simp [Addr.add, hz]
              rw [addr_add e1]
              simp only [Addr.add, hz, if_false, show j ≠ 0 by omega, k4]
              congr 1; omega
    obtain ⟨l, ls, k1, k2, k3, k4, k5⟩ := key len (Nat.le_refl _)
    by_cases hc0 : cap = 0
    · have hl0 : len = 0 := by omega
      subst hc0 hl0
      have hnil : l = [] := List.length_eq_zero_iff.1 k1
      subst hnil
      exact ⟨[], .sl false none s 0 [], _, rfl, by simp [er, erL], by simp, by simp [CR], by simp [Mem], by simp [noOwn], by simp [roots], by simp [fp]⟩
    · have hspot : a.spot = none := by
        by_cases hl0 : len = 0
        · obtain ⟨hr1, hr2⟩ := hsp rfl
          have hr := hr2 0 (by omega)
          rw [List.getElem?_eq_getElem (by omega)] at hr
          simp only [Option.bind_eq_some_iff] at hr
          obtain ⟨c1, hc1, _⟩ := hr
          obtain ⟨_, hc2, hc3⟩ := World.cells?_some hc1
          have := hc3 0 h0
          rw [List.getElem?_eq_getElem (by omega)] at this
          simp only [hl0, Nat.zero_add, Nat.zero_mul] at this
          have e : (a.add 0).add 0 = a := by simp [Addr.add]
          rw [e] at this
          exact spot_of_cell this
        · have hpos : 0 < ls.length := by rw [k4]; exact Nat.mul_pos (by omega) h0
          obtain ⟨v, hv, _⟩ := k5 0 ls[0] (List.getElem?_eq_getElem hpos)
          have e : a.add 0 = a := by simp [Addr.add]
          rw [e] at hv
          exact spot_of_cell hv
      have hall : ∀ (j : Nat) (u : AL), ls[j]? = some u → ∃ v, W.at a.block (a.off + j) = some v ∧ CellT W u v := by
        intro j u hj
        obtain ⟨v, hv, hc⟩ := k5 j u hj
        rw [addr_add hspot] at hv
        exact ⟨v, hv, hc⟩
      refine ⟨l, .sl false (some ⟨a.block, a.off, cap⟩) s len ls, _, rfl, by simp [er, erL_eq, k1, k2], ⟨by omega, k3⟩, ?_, ?_, by simp [noOwn], by simp [roots], by simp [fp]⟩
      · obtain ⟨b, o, sp⟩ := a
        simp only at hspot
        subst hspot
        simp [CR]
      · simp only [Mem]
        refine ⟨k4, hlc, MemL_iff.2 fun i u hu => ?_⟩
        obtain ⟨v, hv, h1, h2, h3⟩ := hall i u hu
        exact ⟨⟨v, hv, h1⟩, h2, fun _ => ⟨by unfold Wc; rw [hv]; rfl, h3.2.2⟩⟩

/-- The fields of a struct, from an offset on. -/
def TyF (P : Program) (fs : List Field) (off : Nat) (α : Type) (enc : α → List AU) (ok : α → Prop) : Prop :=
  ∀ (T : Type) (en : TypeId × Value → T) (W : World) (fuel : Nat) (cs : List Value), (∀ (i : Nat) (f : Field), fs[i]? = some f → ∃ x, DataW.trod en P W 0 (fun _ => true) true fuel f.type ((cs.drop f.offset).take (P.cellsOf f.type)) = some x) → off + (fs.map fun f => P.cellsOf f.type).sum = cs.length →
    ∃ (a : α) (ls : List AL), ls.map er = enc a ∧ ok a ∧ off + ls.length = cs.length ∧ ∀ (i : Nat) (l : AL) (c : Value), ls[i]? = some l → cs[off + i]? = some c → CellT W l c

theorem TyF.nil {off : Nat} : TyF P [] off Unit (fun _ => []) (fun _ => True) := by
  intro T en W fuel cs _ h
  exact ⟨(), [], rfl, trivial, by simpa using h, fun i l c hl => by simp at hl⟩

theorem TyF.cons {f : Field} {fs : List Field} {off off' : Nat} {α β : Type} {enc : α → List AU} {ok : α → Prop} {enc' : β → List AU} {ok' : β → Prop} (ho : f.offset = off) (h' : off + P.cellsOf f.type = off') (h : Ty P f.type α enc ok) (hs : TyF P fs off' β enc' ok') :
    TyF P (f :: fs) off (α × β) (fun p => enc p.1 ++ enc' p.2) (fun p => ok p.1 ∧ ok' p.2) := by
  intro T en W fuel cs hx hl
  simp only [List.map_cons, List.sum_cons] at hl
  obtain ⟨x, hx0⟩ := hx 0 f rfl
  rw [ho] at hx0
  obtain ⟨a, ls, a1, a2, a3, a4⟩ := h T en W fuel _ _ hx0
  obtain ⟨b, us, b1, b2, b3, b4⟩ := hs T en W fuel cs (fun i g hg => hx (i + 1) g (by simpa using hg)) (by omega)
  have hlen : ls.length = P.cellsOf f.type := by rw [a3, List.length_take, List.length_drop]; omega
  refine ⟨(a, b), ls ++ us, by simp [a1, b1], ⟨a2, b2⟩, by rw [List.length_append]; omega, fun i l c hl' hc => ?_⟩
  by_cases hi : i < ls.length
  · rw [List.getElem?_append_left hi] at hl'
    refine a4 i l c hl' ?_
    rw [List.getElem?_take, if_pos (by omega), List.getElem?_drop]
    exact hc
  · rw [List.getElem?_append_right (by omega)] at hl'
    exact b4 _ l c hl' (by rw [← hc]; congr 1; omega)

theorem Ty.struct {fs : Array Field} {α : Type} {enc : α → List AU} {ok : α → Prop} (ht : P.underlying t = some (.struct fs)) (hsum : (fs.toList.map fun f => P.cellsOf f.type).sum = P.cellsOf t) (h : TyF P fs.toList 0 α enc ok) : Ty P t α enc ok := by
  intro T en W fuel cs x hx
  obtain ⟨xs, n, _, _, hl, hxl, hf⟩ := DataW.trod_struct ht hx
  obtain ⟨a, ls, a1, a2, a3, a4⟩ := h T en W n cs (fun i f hi => by
    have hi' : fs[i]? = some f := by simpa using hi
    have := hf i f hi'
    have hlt : i < xs.length := by
      rw [hxl]
      exact (Array.getElem?_eq_some_iff.1 hi').1
    exact ⟨_, by rw [this, List.getElem?_eq_getElem hlt]⟩) (by rw [hsum, hl]; omega)
  exact ⟨a, ls, a1, a2, by omega, fun i l c h1 h2 => a4 i l c h1 (by simpa using h2)⟩

/-! ### Arguments -/
def TyA (P : Program) (t : TypeId) (α : Type) (enc : α → AU) (ok : α → Prop) : Prop :=
  ∀ (T : Type) (en : TypeId × Value → T) (W : World) (r : Reach) (b0 : Nat) (v : Value) (d : DataW T) (p : List MemPlace), Value.okWide P W r b0 t v → DataW.Trod en P W 0 (fun _ => true) true t v d p →
    ∃ (a : α) (l : AL), er l = enc a ∧ ok a ∧ RR (fun _ => (0, .non)) (fun _ => (0, 0)) l v ∧ Mem W (Wc W) l ∧ noOwn l = true ∧ roots l = []

theorem TyA.one {α : Type} {enc : α → AU} {ok : α → Prop} (hv : ∀ (W : World) (r : Reach) (b0 : Nat) (v : Value), Value.okWide P W r b0 t v → v.cells.toList = [v]) (h : Ty P t α (fun a => [enc a]) ok) : TyA P t α enc ok := by
  intro T en W r b0 v d p hok ⟨fuel, hd⟩
  rw [hv W r b0 v hok] at hd
  obtain ⟨a, ls, h1, h2, h3, h4⟩ := h T en W fuel _ _ hd
  obtain ⟨l, rfl⟩ := List.length_eq_one_iff.1 h3
  obtain ⟨c1, c2, c3⟩ := h4 0 l v rfl rfl
  exact ⟨a, l, by simpa using h1, h2, RR_of_CR c1, c2, c3.1, c3.2.1⟩

theorem TyA.int {k : IntKind} {α : Type} {enc : α → AU} {ok : α → Prop} (ht : P.underlying t = some (.int k)) (h : Ty P t α (fun a => [enc a]) ok) : TyA P t α enc ok :=
  TyA.one (fun W r b0 v hv => by obtain ⟨n, rfl⟩ := okWide_int ht hv; rfl) h
theorem TyA.bool {α : Type} {enc : α → AU} {ok : α → Prop} (ht : P.underlying t = some .bool) (h : Ty P t α (fun a => [enc a]) ok) : TyA P t α enc ok :=
  TyA.one (fun W r b0 v hv => by cases v <;> simp [Value.okWide, ht, Cell.okWide, Cell.ok] at hv; rfl) h
theorem TyA.slice {e : TypeId} {α : Type} {enc : α → AU} {ok : α → Prop} (ht : P.underlying t = some (.slice e)) (h : Ty P t α (fun a => [enc a]) ok) : TyA P t α enc ok :=
  TyA.one (fun W r b0 v hv => by cases v <;> simp [Value.okWide, ht, Cell.okWide, Cell.ok] at hv; rfl) h

theorem rrl_of {X : XF LO} {β : Nat → Nat × Nat} : ∀ {ls : List AL} {cs : List Value}, ls.length = cs.length → (∀ (i : Nat) (l : AL) (c : Value), ls[i]? = some l → cs[i]? = some c → CR l c) → RRL X β ls cs := by
  intro ls cs hl h
  rw [RRL_iff]
  exact ⟨hl, fun j c y h1 h2 => RR_of_CR (h j c y h1 h2)⟩

theorem rootsL_nil : ∀ {ls : List AL}, (∀ l ∈ ls, roots l = []) → rootsL ls = []
  | [], _ => rfl
  | l :: ls, h => by
    have := rootsL_nil (ls := ls) fun x hx => h x (List.mem_cons_of_mem _ hx)
    simp only [rootsL, h l (List.mem_cons_self ..), this, List.append_nil]
theorem noOwnL_all : ∀ {ls : List AL}, (∀ l ∈ ls, noOwn l = true) → noOwnL ls = true
  | [], _ => rfl
  | l :: ls, h => by
    have := noOwnL_all (ls := ls) fun x hx => h x (List.mem_cons_of_mem _ hx)
    simp only [noOwnL, h l (List.mem_cons_self ..), this, Bool.and_self]

theorem TyA.struct {fs : Array Field} {α : Type} {enc : α → List AU} {ok : α → Prop} (ht : P.underlying t = some (.struct fs)) (h : Ty P t α enc ok) : TyA P t α (fun a => .agg (enc a)) ok := by
  intro T en W r b0 v d p hok ⟨fuel, hd⟩
  obtain ⟨cs, rfl, hsz⟩ := okWide_struct ht hok
  have hcs : (Value.agg cs).cells.toList = cs.toList := rfl
  rw [hcs] at hd
  obtain ⟨a, ls, h1, h2, h3, h4⟩ := h T en W fuel _ _ hd
  have hmem : ∀ l ∈ ls, ∃ c, CellT W l c := by
    intro l hl
    obtain ⟨i, hi⟩ := List.getElem?_of_mem hl
    have hlt : i < cs.toList.length := by rw [← h3]; exact (List.getElem?_eq_some_iff.1 hi).1
    exact ⟨_, h4 i l _ hi (List.getElem?_eq_getElem hlt)⟩
  refine ⟨a, .agg ls, by simp [er, erL_eq, h1], h2, ?_, ?_, ?_, ?_⟩
  · simp only [RR]
    exact ⟨cs.toList, by simp, rrl_of h3 fun i l c a b => (h4 i l c a b).1⟩
  · simp only [Mem]
    exact MemA_iff.2 fun l hl => by obtain ⟨c, hc⟩ := hmem l hl; exact hc.2.1
  · simp only [noOwn]
    exact noOwnL_all fun l hl => by obtain ⟨c, hc⟩ := hmem l hl; exact hc.2.2.1
  · simp only [roots]
    exact rootsL_nil fun l hl => by obtain ⟨c, hc⟩ := hmem l hl; exact hc.2.2.2.1

/-- All arguments read behind the call as they read before. -/
theorem below_all {T : Type} {en : TypeId × Value → T} {P : Program} (hl : laidOutB P = true) {W W' : World} (hb : Below W.heap.size W W') :
    ∀ {ts : List TypeId} {vs : List Value} {ds : List (DataW T)} {ps : List MemPlace}, (ts.all fun t => P.readableRec t && decide (t < P.types.size)) = true → DataW.TrodAll en P W 0 (fun _ => true) true ts vs ds ps →
      DataW.TrodAll en P W' 0 (fun b => decide (b < W.heap.size)) true ts vs ds ps
  | [], vs, ds, ps, _, h => by
    obtain ⟨rfl, rfl, rfl⟩ := trodAll_nil h
    exact trodAll_mk0
  | t :: ts, vs, ds, ps, hr, h => by
    simp only [List.all_cons, Bool.and_eq_true, decide_eq_true_eq] at hr
    obtain ⟨v, vs', d, ds', p, q, rfl, rfl, rfl, h1, h2⟩ := trodAll_cons h
    have lt : ∀ x ∈ p, x.block < W.heap.size := by obtain ⟨m, hm⟩ := h1; exact DataW.trod_lt m _ _ _ hm
    exact trodAll_cons_mk (Below.trod hl hr.1.1 hr.1.2 h1 hb lt) (below_all hl hb (ts := ts) (by simpa using hr.2) h2)

theorem flatMap_one {α β : Type} (f : α → β) : ∀ l : List α, (l.flatMap fun a => [f a]) = l.map f
  | [] => rfl
  | a :: l => by rw [List.flatMap_cons, flatMap_one f l]; rfl
end
end Go.OT
/-
  The arguments' types of the laws of the model.
-/
set_option linter.unusedSimpArgs false
set_option linter.unusedVariables false
namespace Go.OT
open Go.Proofs

theorem ta3 : TyA Try.prog 3 Int (fun n => i64 n) (fun n => (Lit.int .i64 n).wf = true) := TyA.int Try.underlying3 (Ty.int Try.underlying3)
theorem ty30 : Ty Try.prog 30 (List UInt8) (fun l => [sU false l]) (fun l => l.length ≤ 9223372036854775807) :=
  (Ty.slice (s := 1) Try.underlying30 (by kernel_rfl) (by decide) (fun _ => rfl) (Ty.u8 Try.underlying5)).map id (fun l => by rw [flatMap_one]; rfl) (fun l h => h.1)
theorem ta30 : TyA Try.prog 30 (List UInt8) (fun l => sU false l) (fun l => l.length ≤ 9223372036854775807) := TyA.slice Try.underlying30 ty30
end Go.OT
