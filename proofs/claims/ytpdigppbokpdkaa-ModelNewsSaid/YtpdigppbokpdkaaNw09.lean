/- Part 9 of the proof: see its last file. -/
import Derived.Orders
import Derived.Below
import Derived.Laws.Entries
import Derived.Laws.Cells
import Derived.Laws.IdiomCopy
import Derived.Scope
import Derived.Calls
import Derived.Laws.Tables
import Derived.Laws.MakeOwn
import Derived.Laws.BytesString
import Derived.ArgAppend
import Derived.WalkSpells
import Derived.Lib.SlBytesConst
import Derived.Lib.ConvBytes
import Derived.Test.YtpdigppbokpdkaaProg
import Derived.KernelRfl
import Derived.IntWalk
import Derived.Lib.Strings
import Derived.Test.YtpdigppbokpdkaaBs08
set_option linter.unusedSimpArgs false
set_option linter.unusedVariables false
set_option linter.unusedSimpArgs false
set_option linter.unusedVariables false
namespace Go.OT
open Go.Proofs

/-! ModelNews -/
/-- Pages 0 .. i - 1 of n are there. -/
def ns (n i : Nat) : St := ⟨List.replicate i true ++ List.replicate (n - i) false, List.replicate n (List.replicate 16 0), [[-1, -1, -1, -1, -1, -1]]⟩
/-- The same, with a handle of page i. -/
def nt (n i : Nat) : St := ⟨List.replicate (i + 1) true ++ List.replicate (n - i - 1) false, List.replicate n (List.replicate 16 0), [[(i : Nat), -1, -1, -1, -1, -1]]⟩
/-- All are there but page w. -/
def nd (n w : Nat) : St := ⟨(List.replicate n true).set w false, List.replicate n (List.replicate 16 0), [[-1, -1, -1, -1, -1, -1]]⟩
def nsOk (n i : Nat) : Bool := DoB (ns n i) 0 ⟨1, 0, 0, 0, 0, []⟩ == (true, nt n i, ⟨0, (i : Nat), 0, []⟩) && DoB (nt n i) 0 ⟨5, 0, 0, 0, 0, []⟩ == (true, ns n (i + 1), ⟨0, 0, 0, []⟩)
def ndOk (n w : Nat) : Bool := DoB (ns n n) 0 ⟨8, (w : Nat), 0, 0, 0, []⟩ == (true, nd n w, ⟨0, 0, 0, []⟩) && (DoB (nd n w) 0 ⟨1, 0, 0, 0, 0, []⟩).2.2.Code == 0 && (DoB (nd n w) 0 ⟨1, 0, 0, 0, 0, []⟩).2.2.Page == (w : Nat)
def nxOk (n : Nat) : Bool := newSt n 1 == ns n 0 && (DoB (ns n n) 0 ⟨1, 0, 0, 0, 0, []⟩).2.2.Code == 3
theorem news_ok : ((List.range 20).all fun k => nxOk (k + 1) && (List.range (k + 1)).all (nsOk (k + 1)) && (List.range (k + 1)).all (ndOk (k + 1))) = true := by kernel_rfl
end Go.OT
set_option linter.unusedSimpArgs false
set_option linter.unusedVariables false
namespace Go.OT
open Go.Proofs

/-! ModelPins -/
def pa : St := (DoB (newSt 2 2) 0 ⟨1, 0, 0, 0, 0, []⟩).2.1
def pb : St := (DoB pa 0 ⟨5, 0, 0, 0, 0, []⟩).2.1
def pf : Nat → St
  | 0 => pb
  | i + 1 => (DoB (pf i) (i % 2 : Nat) ⟨2, 0, 0, 0, 0, []⟩).2.1
def pu (k : Nat) : Nat → St
  | 0 => pf k
  | j + 1 => (DoB (pu k j) (j % 2 : Nat) ⟨5, 0, (j / 2 : Nat), 0, 0, []⟩).2.1
def pfOk (i : Nat) : Bool := (DoB (pf i) (i % 2 : Nat) ⟨2, 0, 0, 0, 0, []⟩).2.2.Code == 0 && (DoB (pf i) (i % 2 : Nat) ⟨2, 0, 0, 0, 0, []⟩).2.2.Handle == (i / 2 : Nat)
def puOk (k j : Nat) : Bool := (DoB (pu k j) (j % 2 : Nat) ⟨5, 0, (j / 2 : Nat), 0, 0, []⟩).2.2.Code == 0
def pdOk (k m : Nat) : Bool := Pins (pu k m) 0 == ((k - m : Nat) : Int) && (DoB (pu k m) 1 ⟨8, 0, 0, 0, 0, []⟩).2.2.Code == (if k = m then 0 else 7)
def pxOk (k : Nat) : Bool := ((DoB (pf k) 0 ⟨2, 0, 0, 0, 0, []⟩).2.2.Code == 4) == decide (10 < k)
theorem pf_ok : ((List.range 12).all pfOk && (List.range 13).all pxOk && (List.range 13).all fun k => (List.range k).all (puOk k) && (List.range (k + 1)).all (pdOk k)) = true := by kernel_rfl
theorem pf_sized (i : Nat) : Sized (pf i) := by
  induction i with
  | zero => exact ((newSt_sized 2 2).doB _ _).doB _ _
  | succ i ih => exact ih.doB _ _
theorem pu_sized (k j : Nat) : Sized (pu k j) := by
  induction j with
  | zero => exact pf_sized k
  | succ i ih => exact ih.doB _ _
end Go.OT
set_option linter.unusedSimpArgs false
set_option linter.unusedVariables false
namespace Go.OT
open Go.Proofs

theorem umod (n : Int) (m : Nat) (h0 : 0 < m) (h : m ≤ 1000000000) : ∃ k : Nat, k < m ∧ IntKind.wrap .i64 ((IntKind.wrap .u64 n).tmod (m : Int)) = (k : Int) := by
  have hw : 0 ≤ IntKind.wrap .u64 n := by rw [IntKind.wrap_u64]; omega
  have h1 := Int.tmod_nonneg (m : Int) hw
  have h2 := Int.tmod_lt_of_pos (IntKind.wrap .u64 n) (show (0 : Int) < (m : Int) by omega)
  refine ⟨((IntKind.wrap .u64 n).tmod (m : Int)).toNat, by omega, ?_⟩
  rw [wrap_small (by omega) (by omega)]
  omega

set_option maxHeartbeats 4000000 in
theorem pins_law (n back : Int) : FnC Try.prog 11 [] [i64 n, i64 back] [] (bl true) := by
  obtain ⟨k, hk, ek⟩ := umod n 13 (by decide) (by decide)
  obtain ⟨b, hb, eb⟩ := umod back 14 (by decide) (by decide)
  rw [show ((13 : Nat) : Int) = 13 from rfl] at ek
  rw [show ((14 : Nat) : Int) = 14 from rfl] at eb
  refine FnC.go ok11 rfl ?_
  refine WL.sreg (by simp; rfl) (by simp; rfl) ?_
  refine WL.sreg (by simp [ek]; rfl) (by simp; rfl) ?_
  refine WL.sregC (RL.newC 2 2 (by simp) (RL.o (by simp; rfl) (RL.nil ⟨_, by simp; rfl, ?_⟩)))
  refine WL.sregC (RL.o (by simp; rfl) (RL.nilA 25 5 1 (by simp; rfl) rfl rfl (RL.doC (newSt 2 2) (newSt_sized 2 2) 0 ⟨1, 0, 0, 0, 0, []⟩ (by simp) (RL.o (by simp; rfl) (RL.nil ⟨_, by simp; rfl, ?_⟩)))))
  rw [← pa]
  have za : Sized pa := (newSt_sized 2 2).doB _ _
  refine WL.sregC (RL.o (by simp; rfl) (RL.nilA 31 5 1 (by simp; rfl) rfl rfl (RL.doC pa za 0 ⟨5, 0, 0, 0, 0, []⟩ (by simp) (RL.o (by simp; rfl) (RL.nil ⟨_, by simp; rfl, ?_⟩)))))
  rw [← pb]
  refine WL.seq (WL.sreg (by simp; rfl) (by simp; rfl) ?_)
  refine WL.block (WL.count k (fun i => [(100, 0, i64 back), (500, 0, i64 k), (600, 0, .bptr 6 1 0), (601, 0, sB false (pf i).There), (602, 0, sUU false (pf i).Body), (603, 0, sII false (pf i).Handles), (699, 1, .non), (700, 0, i64 i)]) (fun _ => True) rfl trivial fun i hi _ => ?_)
  by_cases h : i < k
  · refine WL.seq (WL.sreg (by simp [h]; rfl) (by simp; rfl) ?_)
    refine WL.cond (t := true) (by simp) (fun _ => WL.skip ?_) (by simp)
    refine WL.seq ?_
    refine WL.block (WL.sregC ?_)
    have hw : (i : Int).tmod 2 = ((i % 2 : Nat) : Int) := rfl
    refine RL.o (by simp; rfl) (RL.nilA 44 5 1 (by simp; rfl) rfl rfl (RL.doC (pf i) (pf_sized i) (i % 2 : Nat) ⟨2, 0, 0, 0, 0, []⟩ (by simp [hw]) ?_))
    have f := pf_ok
    simp only [Bool.and_eq_true, List.all_eq_true, List.mem_range] at f
    have f1 := f.1.1 i (by omega)
    simp only [pfOk, Bool.and_eq_true, beq_iff_eq] at f1
    have hn : pf (i + 1) = (DoB (pf i) (i % 2 : Nat) ⟨2, 0, 0, 0, 0, []⟩).2.1 := rfl
    generalize DoB (pf i) (i % 2 : Nat) ⟨2, 0, 0, 0, 0, []⟩ = dd at f1 hn ⊢
    obtain ⟨o', s', r⟩ := dd
    simp only at f1 hn ⊢
    refine RL.o (by simp; rfl) (RL.nil ⟨_, by simp; rfl, ?_⟩)
    have hq : IntKind.wrap .i64 ((i : Int) / 2) = (i : Int) / 2 := wrap_small (by omega) (by omega)
    have hws : IntKind.wrap .i64 ((i : Int) + 1) = (i : Int) + 1 := wrap_small (by omega) (by omega)
    refine WL.seq (WL.sreg (by simp [f1, hq]; rfl) (by simp; rfl) ?_)
    refine WL.cond (t := false) (by simp) (by simp) fun _ => WL.skip ?_
    refine WL.reg (RL.run (by simp; rfl) ⟨_, by simp; rfl, ?_⟩)
    refine WL.reg (RL.run (by simp; rfl) ⟨_, by simp; rfl, h, ?_, trivial⟩)
    rw [hn]
    simp [hws]
  · refine WL.seq (WL.sreg (by simp [h]; rfl) (by simp; rfl) ?_)
    refine WL.cond (t := false) (by simp) (by simp) fun _ => WL.exit ?_
    obtain rfl : i = k := by omega
    refine WL.sregC (RL.o (by simp; rfl) (RL.nilA 61 5 1 (by simp; rfl) rfl rfl (RL.doC (pf i) (pf_sized i) 0 ⟨2, 0, 0, 0, 0, []⟩ (by simp) ?_)))
    have f := pf_ok
    simp only [Bool.and_eq_true, List.all_eq_true, List.mem_range] at f
    have f1 := f.1.2 i (by omega)
    have f2 := (f.2 i hk).1
    have f3 := (f.2 i hk).2
    clear f
    simp only [pxOk] at f1
    generalize DoB (pf i) 0 ⟨2, 0, 0, 0, 0, []⟩ = dd at f1 ⊢
    obtain ⟨o', s', rx⟩ := dd
    simp only at f1 ⊢
    refine RL.o (by simp; rfl) (RL.nil ⟨_, by simp; rfl, ?_⟩)
    have hm : ∃ m : Nat, m ≤ i ∧ (if b < i then (b : Int) else (i : Int)) = (m : Int) := ⟨min i b, Nat.min_le_left _ _, by split <;> omega⟩
    obtain ⟨m, hmi, hm⟩ := hm
    refine WL.sreg (by simp [eb, hm]; rfl) (by simp; rfl) ?_
    refine WL.seq (WL.sreg (by simp; rfl) (by simp; rfl) ?_)
    refine WL.block (WL.count m (fun j => [(500, 0, i64 i), (600, 0, .bptr 6 1 0), (601, 0, sB false (pu i j).There), (602, 0, sUU false (pu i j).Body), (603, 0, sII false (pu i j).Handles), (699, 1, .non), (1100, 0, .bptr 11 1 0), (1101, 0, i64 rx.Code), (1102, 0, i64 rx.Page), (1103, 0, i64 rx.Handle), (1104, 0, sU false rx.Data), (1199, 1, .non), (1200, 0, i64 m), (1300, 0, i64 j)]) (fun _ => True) rfl trivial fun j hj _ => ?_)
    by_cases h' : j < m
    · refine WL.seq (WL.sreg (by simp [h']; rfl) (by simp; rfl) ?_)
      refine WL.cond (t := true) (by simp) (fun _ => WL.skip ?_) (by simp)
      refine WL.seq ?_
      refine WL.block (WL.sregC ?_)
      have hw : (j : Int).tmod 2 = ((j % 2 : Nat) : Int) := rfl
      have hq : IntKind.wrap .i64 ((j : Int) / 2) = (j : Int) / 2 := wrap_small (by omega) (by omega)
      have hws : IntKind.wrap .i64 ((j : Int) + 1) = (j : Int) + 1 := wrap_small (by omega) (by omega)
      refine RL.o (by simp; rfl) (RL.nilA 82 5 1 (by simp; rfl) rfl rfl (RL.doC (pu i j) (pu_sized i j) (j % 2 : Nat) ⟨5, 0, (j / 2 : Nat), 0, 0, []⟩ (by simp [hw, hq]) ?_))
      have g1 := f2 j (by omega)
      simp only [puOk, Bool.and_eq_true, beq_iff_eq] at g1
      have hn : pu i (j + 1) = (DoB (pu i j) (j % 2 : Nat) ⟨5, 0, (j / 2 : Nat), 0, 0, []⟩).2.1 := rfl
      generalize DoB (pu i j) (j % 2 : Nat) ⟨5, 0, (j / 2 : Nat), 0, 0, []⟩ = dd at g1 hn ⊢
      obtain ⟨o2, s2, r⟩ := dd
      simp only at g1 hn ⊢
      refine RL.o (by simp; rfl) (RL.nil ⟨_, by simp; rfl, ?_⟩)
      refine WL.seq (WL.sreg (by simp [g1]; rfl) (by simp; rfl) ?_)
      refine WL.cond (t := false) (by simp) (by simp) fun _ => WL.skip ?_
      refine WL.reg (RL.run (by simp; rfl) ⟨_, by simp; rfl, ?_⟩)
      refine WL.reg (RL.run (by simp; rfl) ⟨_, by simp; rfl, h', ?_, trivial⟩)
      rw [hn]
      simp [hws]
    · refine WL.seq (WL.sreg (by simp [h']; rfl) (by simp; rfl) ?_)
      refine WL.cond (t := false) (by simp) (by simp) fun _ => WL.exit ?_
      obtain rfl : j = m := by omega
      have g3 := f3 j (by omega)
      simp only [pdOk, Bool.and_eq_true, beq_iff_eq] at g3
      obtain ⟨g3, g4⟩ := g3
      refine WL.sregC (RL.o (by simp; rfl) (RL.nilA 92 5 1 (by simp; rfl) rfl rfl (RL.doC (pu i j) (pu_sized i j) 1 ⟨8, 0, 0, 0, 0, []⟩ (by simp) ?_)))
      generalize DoB (pu i j) 1 ⟨8, 0, 0, 0, 0, []⟩ = dd at g4 ⊢
      obtain ⟨o2, s2, r⟩ := dd
      simp only at g4 ⊢
      refine RL.o (by simp; rfl) (RL.nil ⟨_, by simp; rfl, ?_⟩)
      refine WL.sregC (RL.call0 false told_fn (by simp) (by simp) ?_)
      have hb1 : (rx.Code == 4) = decide ((10 : Int) < i) := by
        have : (rx.Code == 4) = decide (10 < i) := by simpa using f1
        rw [this]; exact decide_eq_decide.2 (by omega)
      have hp := pins_fn (pu i j) (pu_sized i j) 0
      rw [g3] at hp
      have hsub : ((i - j : Nat) : Int) = (i : Int) - j := by omega
      have hws : IntKind.wrap .i64 ((i : Int) - j) = (i : Int) - j := wrap_small (by omega) (by omega)
      rw [hsub] at hp
      refine RL.o (by simp; rfl) (RL.g (by simp [hb1]; rfl) (RL.o (by simp; rfl) ?_))
      refine RL.g (by simp; rfl) (RL.callY0 false (by simp) hp (by simp) (by simp) (RL.g (by simp [hws]; rfl) (RL.o (by simp; rfl) ?_)))
      have hb2 : (r.Code == 0) = ((i : Int) == (j : Int)) := by
        rw [g4]
        by_cases e : i = j
        · simp [e]
        · simp [e]; omega
      refine RL.g (by simp [hb2]; rfl) (RL.o (by simp; rfl) ?_)
      have hb3 : i ≠ j → (r.Code == 7) = true := by
        intro e; rw [g4]; simp [e]
      by_cases e : i = j
      · refine RL.g (by simp [hb2, e]; rfl) (RL.g (by simp [hb2, e]; rfl) (RL.g (by simp [hb2, e]; rfl) (RL.o (by simp; rfl) (RL.nil ⟨_, by simp; rfl, ?_⟩))))
        refine WL.ret ⟨.inr rfl, ?_⟩
        simp [fi11]
      · have e' : ((i : Int) == (j : Int)) = false := by simp; omega
        refine RL.g (by simp [hb2, e']; rfl) (RL.g (by simp [hb3 e]; rfl) (RL.g (by simp; rfl) (RL.o (by simp; rfl) (RL.nil ⟨_, by simp; rfl, ?_⟩))))
        refine WL.ret ⟨.inr rfl, ?_⟩
        simp [fi11]
end Go.OT
set_option linter.unusedSimpArgs false
set_option linter.unusedVariables false
namespace Go.OT
open Go.Proofs

theorem OkSt_sized_of {s : St} (h : May s = true) : Sized s := ((May_iff s).1 h).sized

theorem ns_sized {n i : Nat} (hn : n ≤ 20) (hi : i ≤ n) : Sized (ns n i) := ⟨by simp [ns]; omega, by simp [ns]; omega, by simp [ns], fun b hb => by simp [ns] at hb; simp [hb.2], fun l hl => by simp [ns] at hl; simp [hl]⟩
theorem nt_sized {n i : Nat} (hn : n ≤ 20) (hi : i < n) : Sized (nt n i) := ⟨by simp [nt]; omega, by simp [nt]; omega, by simp [nt], fun b hb => by simp [nt] at hb; simp [hb.2], fun l hl => by simp [nt] at hl; simp [hl]⟩
theorem nd_sized {n i : Nat} (hn : n ≤ 20) : Sized (nd n i) := ⟨by simp [nd]; omega, by simp [nd]; omega, by simp [nd], fun b hb => by simp [nd] at hb; simp [hb.2], fun l hl => by simp [nd] at hl; simp [hl]⟩

set_option maxHeartbeats 4000000 in
theorem news_law (pages which : Int) : FnC Try.prog 10 [] [i64 pages, i64 which] [] (bl true) := by
  obtain ⟨k, hk, ek⟩ := umod pages 20 (by decide) (by decide)
  rw [show ((20 : Nat) : Int) = 20 from rfl] at ek
  have e1 : IntKind.wrap .i64 (1 + (k : Int)) = (k : Int) + 1 := by rw [wrap_small (by omega) (by omega)]; omega
  have f := news_ok
  simp only [List.all_eq_true, List.mem_range, Bool.and_eq_true] at f
  obtain ⟨⟨fx, fs⟩, fd⟩ := f k hk
  generalize hn : k + 1 = n at fx fs fd
  have hn20 : n ≤ 20 := by omega
  have en : (k : Int) + 1 = (n : Int) := by omega
  rw [en] at e1
  obtain ⟨b, hb, eb⟩ := umod which n (by omega) (by omega)
  simp only [nxOk, Bool.and_eq_true, beq_iff_eq] at fx
  refine FnC.go ok10 rfl ?_
  refine WL.sreg (by simp; rfl) (by simp; rfl) ?_
  refine WL.sreg (by simp [ek, e1]; rfl) (by simp; rfl) ?_
  refine WL.sregC (RL.o (by simp; rfl) (RL.newC (n : Int) 1 (by simp [ek, e1]) ?_))
  rw [fx.1]
  refine RL.o (by simp; rfl) (RL.nil ⟨_, by simp; rfl, ?_⟩)
  refine WL.seq (WL.sreg (by simp; rfl) (by simp; rfl) ?_)
  refine WL.block (WL.count n (fun i => [(100, 0, i64 which), (500, 0, i64 n), (600, 0, .bptr 6 1 0), (601, 0, sB false (ns n i).There), (602, 0, sUU false (ns n i).Body), (603, 0, sII false (ns n i).Handles), (699, 1, .non), (700, 0, i64 i)]) (fun _ => True) (by simp [ek, e1]) trivial fun i hi _ => ?_)
  by_cases h : i < n
  · have hws : IntKind.wrap .i64 ((i : Int) + 1) = (i : Int) + 1 := wrap_small (by omega) (by omega)
    have g := fs i (by omega)
    simp only [nsOk, Bool.and_eq_true, beq_iff_eq] at g
    refine WL.seq (WL.sreg (by simp [h]; rfl) (by simp; rfl) ?_)
    refine WL.cond (t := true) (by simp) (fun _ => WL.skip ?_) (by simp)
    refine WL.seq (WL.block (WL.sregC (RL.o (by simp; rfl) (RL.nilA 33 5 1 (by simp; rfl) rfl rfl (RL.doC (ns n i) (ns_sized hn20 hi) 0 ⟨1, 0, 0, 0, 0, []⟩ (by simp) ?_)))))
    rw [g.1]
    refine RL.o (by simp; rfl) (RL.nil ⟨_, by simp; rfl, ?_⟩)
    refine WL.seq (WL.sreg (by simp; rfl) (by simp; rfl) ?_)
    refine WL.cond (t := false) (by simp) (by simp) fun _ => WL.skip ?_
    refine WL.sregC (RL.o (by simp; rfl) (RL.nilA 53 5 1 (by simp; rfl) rfl rfl (RL.doC (nt n i) (nt_sized hn20 h) 0 ⟨5, 0, 0, 0, 0, []⟩ (by simp) ?_)))
    rw [g.2]
    refine RL.o (by simp; rfl) (RL.nil ⟨_, by simp; rfl, ?_⟩)
    refine WL.seq (WL.sreg (by simp; rfl) (by simp; rfl) ?_)
    refine WL.cond (t := false) (by simp) (by simp) fun _ => WL.skip ?_
    refine WL.reg (RL.run (by simp; rfl) ⟨_, by simp; rfl, ?_⟩)
    refine WL.reg (RL.run (by simp; rfl) ⟨_, by simp; rfl, h, ?_, trivial⟩)
    simp [hws]
  · refine WL.seq (WL.sreg (by simp [h]; rfl) (by simp; rfl) ?_)
    refine WL.cond (t := false) (by simp) (by simp) fun _ => WL.exit ?_
    obtain rfl : i = n := by omega
    clear hi
    refine WL.sregC (RL.o (by simp; rfl) (RL.nilA 63 5 1 (by simp; rfl) rfl rfl (RL.doC (ns i i) (ns_sized hn20 (Nat.le_refl _)) 0 ⟨1, 0, 0, 0, 0, []⟩ (by simp) ?_)))
    have fx2 := fx.2
    generalize DoB (ns i i) 0 ⟨1, 0, 0, 0, 0, []⟩ = dd at fx2 ⊢
    obtain ⟨o', s', rx⟩ := dd
    simp only at fx2 ⊢
    refine RL.o (by simp; rfl) (RL.nil ⟨_, by simp; rfl, ?_⟩)
    have hu : IntKind.wrap .u64 (i : Int) = (i : Int) := IntWalk.u64_in _ ⟨by omega, by omega⟩
    have hi0 : i ≠ 0 := by omega
    refine WL.sreg (by simp [hu, hi0, eb]; rfl) (by simp; rfl) ?_
    have g := fd b (by omega)
    simp only [ndOk, Bool.and_eq_true, beq_iff_eq] at g
    refine WL.sregC (RL.o (by simp; rfl) (RL.nilA 76 5 1 (by simp; rfl) rfl rfl (RL.doC (ns i i) (ns_sized hn20 (Nat.le_refl _)) 0 ⟨8, (b : Nat), 0, 0, 0, []⟩ (by simp [eb]) ?_)))
    rw [g.1.1]
    refine RL.o (by simp; rfl) (RL.nil ⟨_, by simp; rfl, ?_⟩)
    refine WL.sregC (RL.o (by simp; rfl) (RL.nilA 82 5 1 (by simp; rfl) rfl rfl (RL.doC (nd i b) (nd_sized hn20) 0 ⟨1, 0, 0, 0, 0, []⟩ (by simp) ?_)))
    have g2 := g.1.2
    have g3 := g.2
    generalize DoB (nd i b) 0 ⟨1, 0, 0, 0, 0, []⟩ = dd at g2 g3 ⊢
    obtain ⟨o2, s2, ry⟩ := dd
    simp only at g2 g3 ⊢
    refine RL.o (by simp; rfl) (RL.nil ⟨_, by simp; rfl, ?_⟩)
    refine WL.sregC (RL.call0 false told_fn (by simp) (by simp) ?_)
    refine RL.o (by simp; rfl) (RL.g (by simp [fx2]; rfl) (RL.o (by simp; rfl) (RL.g (by simp; rfl) (RL.o (by simp; rfl) (RL.g (by simp [g2]; rfl) (RL.o (by simp; rfl) (RL.g (by simp [g3]; rfl) (RL.o (by simp; rfl) (RL.nil ⟨_, by simp; rfl, ?_⟩))))))))) 
    refine WL.ret ⟨.inr rfl, ?_⟩
    simp [fi10]
end Go.OT
