/- Part 9 of the proof: see its last file. -/
import Derived.Orders
import Derived.Below
import Derived.Laws.Entries
import Derived.Laws.Cells
import Derived.Laws.IdiomCopy
import Derived.Scope
import Derived.Calls
import Derived.Laws.Tables
import Derived.Laws.MakeOwn
import Derived.Laws.BytesString
import Derived.ArgAppend
import Derived.WalkSpells
import Derived.Lib.SlBytesConst
import Derived.Lib.ConvBytes
import Derived.WalkKit
import Derived.ProofKit
import Derived.OpenShut
import Derived.ShutString
import Derived.ChangeOld
import Derived.Lib.SmallJoins
import Derived.Test.YtlcemfnjhdcmoaaProg
import Derived.KernelRfl
import Derived.IntWalk
import Derived.Lib.Strings
import Derived.Test.YtlcemfnjhdcmoaaHb08
set_option linter.unusedSimpArgs false
set_option linter.unusedVariables false
set_option linter.unusedSimpArgs false
set_option linter.unusedVariables false
namespace Go.OT
open Go.Proofs
structure Blk (key : Int → Int) (f h : Nat → Int) (x y : Nat) : Prop where
  perm : (seg h x (y - x)).Perm (seg f x (y - x))
  sorted : SortedF key h x y
section
variable {key : Int → Int} {f h h' : Nat → Int} {x m y : Nat}
theorem Blk.mem (b : Blk key f h x y) {k : Nat} (h1 : x ≤ k) (h2 : k < y) : ∃ u, x ≤ u ∧ u < y ∧ h k = f u := by
  have : h k ∈ seg h x (y - x) := mem_seg.2 ⟨k - x, by omega, by rw [show x + (k - x) = k by omega]⟩
  obtain ⟨u, hu, e⟩ := mem_seg.1 (b.perm.subset this)
  exact ⟨x + u, by omega, by omega, e.symm⟩
theorem Blk.congr (b : Blk key f h x y) (hc : ∀ k, x ≤ k → k < y → h' k = h k) : Blk key f h' x y := by
  refine ⟨?_, fun i j h1 h2 h3 => ?_⟩
  · rw [seg_congr (f := h') (g := h) (a := x) (b := x) (n := y - x) (fun k hk => hc _ (by omega) (by omega))]; exact b.perm
  · rw [hc i h1 (by omega), hc j (by omega) h3]; exact b.sorted i j h1 h2 h3
theorem Blk.two (b1 : Blk key f h x m) (b2 : Blk key f h m y) (hasc : ∀ i j, x ≤ i → i < j → j < y → f i < f j) : Two key h x m y := by
  refine ⟨b1.sorted, b2.sorted, fun i j h1 h2 h3 h4 => ?_⟩
  obtain ⟨u, u1, u2, e1⟩ := b1.mem h1 h2
  obtain ⟨v, v1, v2, e2⟩ := b2.mem h3 h4
  rw [e1, e2]
  exact hasc u v u1 (by omega) v2
theorem Blk.merge (b1 : Blk key f h x m) (b2 : Blk key f h m y) (h1 : x ≤ m) (h2 : m ≤ y) (hS : SM key h x y h') : Blk key f h' x y := by
  refine ⟨hS.perm.trans ?_, hS.sorted⟩
  have e : ∀ g : Nat → Int, seg g x (y - x) = seg g x (m - x) ++ seg g m (y - m) := fun g => by
    rw [show y - x = (m - x) + (y - m) by omega, seg_add, show x + (m - x) = m by omega]
  rw [e, e]
  exact b1.perm.append b2.perm
theorem Blk.ofSM (hc : ∀ k, x ≤ k → k < y → h k = f k) (hS : SM key h x y h') : Blk key f h' x y := by
  refine ⟨hS.perm.trans ?_, hS.sorted⟩
  rw [seg_congr (f := h) (g := f) (a := x) (b := x) (n := y - x) (fun k hk => hc _ (by omega) (by omega))]
theorem Blk.toSM (b : Blk key f h 0 y) (hout : ∀ k, y ≤ k → h k = f k) : SM key f 0 y h := ⟨fun k hk => hout k (by omega), b.perm, b.sorted⟩
end
def AllB (key : Int → Int) (f h : Nat → Int) (N bs : Nat) : Prop := (∀ t, bs * t < N → Blk key f h (bs * t) (min (bs * t + bs) N)) ∧ ∀ k, N ≤ k → h k = f k
def UpB (key : Int → Int) (f h0 h : Nat → Int) (N bs a : Nat) : Prop := (∃ t, a = bs * t) ∧ a ≤ N ∧ (∀ t, bs * t < a → Blk key f h (bs * t) (bs * t + bs)) ∧ ∀ k, a ≤ k → h k = h0 k
theorem mul_lt_step {bs t u : Nat} (h0 : 0 < bs) (h : bs * t < bs * u) : bs * t + bs ≤ bs * u := by
  have : t < u := Nat.lt_of_mul_lt_mul_left h
  have := Nat.mul_le_mul_left bs (Nat.succ_le_of_lt this)
  rw [Nat.mul_succ] at this; exact this
theorem UpB.next {key : Int → Int} {f h0 h h' : Nat → Int} {N bs a : Nat} (h0' : 0 < bs) (U : UpB key f h0 h N bs a) (hb : a + bs ≤ N) (hB : Blk key f h' a (a + bs)) (ho : ∀ k, k < a ∨ a + bs ≤ k → h' k = h k) : UpB key f h0 h' N bs (a + bs) := by
  obtain ⟨⟨t, ht⟩, u1, u2, u3⟩ := U
  refine ⟨⟨t + 1, by rw [ht, Nat.mul_succ]⟩, hb, fun u hu => ?_, fun k hk => by rw [ho k (.inr hk), u3 k (by omega)]⟩
  by_cases e : bs * u < a
  · have := mul_lt_step h0' (by rw [← ht]; exact e : bs * u < bs * t)
    exact (u2 u e).congr fun k g1 g2 => ho k (by omega)
  · have : bs * u = a := by
      rw [ht] at e hu ⊢
      have h1 : t ≤ u := Nat.le_of_mul_le_mul_left (by omega) h0'
      have h2 : bs * u < bs * (t + 1) := by rw [Nat.mul_succ]; exact hu
      have h3 : u < t + 1 := Nat.lt_of_mul_lt_mul_left h2
      rw [show u = t by omega]
    rw [this]; exact hB
theorem UpB.all {key : Int → Int} {f h0 h h' : Nat → Int} {N bs a : Nat} (h0' : 0 < bs) (U : UpB key f h0 h N bs a) (hb : N < a + bs) (hB : a < N → Blk key f h' a N) (ho : ∀ k, k < a ∨ N ≤ k → h' k = h k) (hf : ∀ k, N ≤ k → h0 k = f k) : AllB key f h' N bs := by
  obtain ⟨⟨t, ht⟩, u1, u2, u3⟩ := U
  refine ⟨fun u hu => ?_, fun k hk => by rw [ho k (.inr hk), u3 k (by omega), hf k hk]⟩
  by_cases e : bs * u < a
  · have := mul_lt_step h0' (by rw [← ht]; exact e : bs * u < bs * t)
    rw [Nat.min_eq_left (by omega)]
    exact (u2 u e).congr fun k g1 g2 => ho k (by omega)
  · have : bs * u = a := by
      rw [ht] at e hb ⊢
      have h1 : t ≤ u := Nat.le_of_mul_le_mul_left (by omega) h0'
      have h2 : bs * u < bs * (t + 1) := by rw [Nat.mul_succ]; omega
      have h3 : u < t + 1 := Nat.lt_of_mul_lt_mul_left h2
      rw [show u = t by omega]
    rw [this] at hu ⊢
    rw [Nat.min_eq_right (by omega)]
    exact hB hu
theorem asc_ne {f : Nat → Int} {N : Nat} (hasc : ∀ i j, i < j → j < N → f i < f j) {h : Nat → Int} {a b : Nat} (hb : b ≤ N) (hc : ∀ k, a ≤ k → h k = f k) : ∀ i j, a ≤ i → i < j → j < b → h i ≠ h j := fun i j h1 h2 h3 => by
  rw [hc i h1, hc j (by omega)]
  have := hasc i j h2 (by omega)
  omega
abbrev stS1 (h : Nat → Int) (N a q : Nat) (cl : AU) : SL := [(0, 0, .view 1000000 0 [] 0 N), (100, 0, i64 N), (200, 0, cl), (600, 0, i64 20), (700, 0, i64 a), (800, 0, i64 q), (1000000, 0, rF h N)]
abbrev stS2 (h : Nat → Int) (N bs : Nat) (cl : AU) : SL := [(0, 0, .view 1000000 0 [] 0 N), (100, 0, i64 N), (200, 0, cl), (600, 0, i64 bs), (1000000, 0, rF h N)]
abbrev stS3 (h : Nat → Int) (N bs a q : Nat) (cl : AU) : SL := [(0, 0, .view 1000000 0 [] 0 N), (100, 0, i64 N), (200, 0, cl), (600, 0, i64 bs), (700, 0, i64 a), (800, 0, i64 q), (1000000, 0, rF h N)]
abbrev stQ (f' : Nat → Int) (N : Nat) : Ex → SL → Prop := fun e L => (e = Ex.nrm ∨ e = Ex.ret) ∧ RetOk fi138.rs [.nod (rF f' N)] (.tuple []) L
set_option maxHeartbeats 16000000 in
theorem stable_grow {key : Int → Int} {In : Int → Prop} {g : Nat} {cs : List AU} (hcl : ClOk key In g cs) (f : Nat → Int) (N : Nat) (hN : N ≤ 100000000) (hIn : ∀ k, k < N → In (f k)) (hasc : ∀ i j, i < j → j < N → f i < f j)
    (f' : Nat → Int) (hf' : SM key f 0 N f') (h : Nat → Int) (hA : AllB key f h N 20) : WL Try.prog fi138.nt c138_19 (stS2 h N 20 (.clos g [.vptr () cs])) (stQ f' N) := by
  have hNs : Small N := by unfold Small; omega
  refine WL.block (WL.loop (ι := {x : (Nat → Int) × Nat // AllB key f x.1 N x.2 ∧ 0 < x.2 ∧ x.2 ≤ 200000020}) (fun x => stS2 x.1.1 N x.1.2 (.clos g [.vptr () cs])) (fun x => N - x.1.2) ⟨(h, 20), hA, by simp, by simp⟩ (by simp) fun x => ?_)
  obtain ⟨⟨h0, bs⟩, hA0, hbs, hbs2⟩ := x
  simp only at hA0 hbs hbs2 ⊢
  by_cases hlt : bs < N
  · refine WL.seq (WL.sreg (by simp [hlt]; rfl) (by simp; rfl) ?_)
    refine WL.cond (t := true) (by simp [hlt]) (fun _ => WL.skip ?_) (by simp)
    have w2 : IntKind.wrap .i64 (2 * (bs : Int)) = ((2 * bs : Nat) : Int) := by rw [wrap_small (by omega) (by omega)]; omega
    have w2' : IntKind.wrap .i64 ((bs : Int) * 2) = ((2 * bs : Nat) : Int) := by rw [wrap_small (by omega) (by omega)]; omega
    obtain ⟨d, hd⟩ : ∃ d, d = 2 * bs := ⟨_, rfl⟩
    rw [← hd] at w2 w2'
    refine WL.block (WL.sreg (by simp [w2]; rfl) (by simp; rfl) ?_)
    refine WL.seq (WL.block (WL.loop (ι := {x : (Nat → Int) × Nat // UpB key f h0 x.1 N d x.2}) (fun x => stS3 x.1.1 N bs x.1.2 (x.1.2 + 2 * bs) (.clos g [.vptr () cs])) (fun x => N - x.1.2)
      ⟨(h0, 0), ⟨0, by simp⟩, Nat.zero_le _, fun t ht => absurd ht (Nat.not_lt_zero _), fun k _ => rfl⟩ (by simp [hd]) fun x => ?_))
    obtain ⟨⟨h1, a⟩, U⟩ := x
    simp only at U ⊢
    obtain ⟨⟨t, ht⟩, haN, _, hrest⟩ := id U
    have hta : bs * (2 * t) = a := by rw [ht, hd]; rw [← Nat.mul_assoc, Nat.mul_comm bs 2]
    have hta2 : bs * (2 * t + 1) = a + bs := by rw [Nat.mul_succ, hta]
    have w3 : IntKind.wrap .i64 ((a : Int) + (bs : Int)) = ((a + bs : Nat) : Int) := by rw [wrap_small (by omega) (by omega)]; omega
    obtain ⟨p, hp⟩ : ∃ p, p = a + bs := ⟨_, rfl⟩
    rw [← hp] at w3
    obtain ⟨q, hq⟩ : ∃ q, q = a + 2 * bs := ⟨_, rfl⟩
    rw [← hq]
    have hIn1 : ∀ k, k < N → In (h1 k) := fun k hk => by
      obtain ⟨_, _, hbl, _⟩ := U
      by_cases hka : k < a
      · -- in a block that is done
        have hd0 : 0 < d := by omega
        have hk1 : d * (k / d) ≤ k := Nat.mul_div_le k d
        have hk2 : k < d * (k / d) + d := by have := Nat.lt_mul_div_succ k hd0; rwa [Nat.mul_succ] at this
        have hk3 : d * (k / d) + d ≤ a := by rw [ht]; exact mul_lt_step hd0 (by rw [← ht]; omega)
        obtain ⟨u, u1, u2, e⟩ := (hbl (k / d) (by omega)).mem hk1 hk2
        rw [e]; exact hIn u (by omega)
      · rw [hrest k (by omega)]
        have hk1 : bs * (k / bs) ≤ k := Nat.mul_div_le k bs
        have hk2 : k < bs * (k / bs) + bs := by have := Nat.lt_mul_div_succ k hbs; rwa [Nat.mul_succ] at this
        obtain ⟨u, u1, u2, e⟩ := (hA0.1 (k / bs) (by omega)).mem hk1 (by omega)
        rw [e]; exact hIn u (by omega)
    by_cases hqN : q ≤ N
    · have b1 : Blk key f h1 a p := by
        have := hA0.1 (2 * t) (by omega)
        rw [hta, Nat.min_eq_left (by omega), ← hp] at this
        exact this.congr fun k g1 _ => hrest k g1
      have b2 : Blk key f h1 p q := by
        have := hA0.1 (2 * t + 1) (by omega)
        rw [hta2, Nat.min_eq_left (by omega), ← hp, show p + bs = q by omega] at this
        exact this.congr fun k g1 _ => hrest k (by omega)
      have T := b1.two b2 (fun i j _ g2 g3 => hasc i j g2 (by omega))
      obtain ⟨h2, hS⟩ := T.ex (by omega)
      have hc := sym_fn hcl N hNs (q - a + 1) h1 a p q (by omega) (by omega) (by omega) hqN hIn1 T h2 hS
      refine WL.seq (WL.sreg (by simp [hqN]; rfl) (by simp; rfl) ?_)
      refine WL.cond (t := true) (by simp [hqN]) (fun _ => WL.skip ?_) (by simp)
      refine WL.block (WL.sregC (RL.o (by simp [w3]; rfl) (RL.callK false [(1000000, [])] hc (by simp) (by simp) (by simp [gkey]) (by simp) (by simp) (RL.nil ⟨_, by simp; rfl, ?_⟩))))
      have w4 : IntKind.wrap .i64 ((q : Int) + (d : Int)) = ((q + d : Nat) : Int) := by rw [wrap_small (by omega) (by omega)]; omega
      refine WL.sreg (by simp; rfl) (by simp; rfl) ?_
      refine WL.reg (RL.run (by simp [w2, w4]; rfl) ⟨_, by simp; rfl, ?_⟩)
      refine ⟨⟨(h2, q), ?_⟩, by simp [hd], by simp only; omega⟩
      have := U.next (h' := h2) (by omega) (by omega) (by rw [show a + d = q by omega]; exact b1.merge b2 (by omega) (by omega) hS) (fun k hk => hS.out k (by omega))
      rwa [show a + d = q by omega] at this
    · refine WL.seq (WL.sreg (by simp [hqN]; rfl) (by simp; rfl) ?_)
      refine WL.cond (t := false) (by simp [hqN]) (by simp) fun _ => WL.exit ?_
      refine WL.seq (WL.sreg (by simp [w3]; rfl) (by simp; rfl) ?_)
      by_cases hpN : p < N
      · have b1 : Blk key f h1 a p := by
          have := hA0.1 (2 * t) (by omega)
          rw [hta, Nat.min_eq_left (by omega), ← hp] at this
          exact this.congr fun k g1 _ => hrest k g1
        have b2 : Blk key f h1 p N := by
          have := hA0.1 (2 * t + 1) (by omega)
          rw [hta2, Nat.min_eq_right (by omega), ← hp] at this
          exact this.congr fun k g1 _ => hrest k (by omega)
        have T := b1.two b2 (fun i j _ g2 g3 => hasc i j g2 (by omega))
        obtain ⟨h2, hS⟩ := T.ex (by omega)
        have hc := sym_fn hcl N hNs (N - a + 1) h1 a p N (by omega) (by omega) hpN (Nat.le_refl _) hIn1 T h2 hS
        have hAll : AllB key f h2 N d := U.all (by omega) (by omega) (fun _ => b1.merge b2 (by omega) (by omega) hS) (fun k hk => hS.out k hk) hA0.2
        refine WL.sreg (by simp [hpN]; rfl) (by simp; rfl) ?_
        refine WL.cond (t := true) (by simp [hpN]) (fun _ => ?_) (by simp)
        refine WL.reg (RL.o (by simp; rfl) (RL.callK false [(1000000, [])] hc (by simp) (by simp) (by simp [gkey]) (by simp) (by simp) (RL.nil ⟨_, by simp; rfl, ?_⟩)))
        refine WL.reg (RL.run (by simp [w2']; rfl) ⟨_, by simp; rfl, ?_⟩)
        exact ⟨⟨(h2, d), hAll, by simp only; omega, by simp only; omega⟩, by simp, by simp only; omega⟩
      · have hAll : AllB key f h1 N d := U.all (by omega) (by omega) (fun haN' => by
          have := hA0.1 (2 * t) (by omega)
          rw [hta, Nat.min_eq_right (by omega)] at this
          exact this.congr fun k g1 _ => hrest k g1) (fun k _ => rfl) hA0.2
        refine WL.sreg (by simp [hpN]; rfl) (by simp; rfl) ?_
        refine WL.cond (t := false) (by simp [hpN]) (by simp) fun _ => WL.skip ?_
        refine WL.reg (RL.run (by simp [w2']; rfl) ⟨_, by simp; rfl, ?_⟩)
        exact ⟨⟨(h1, d), hAll, by simp only; omega, by simp only; omega⟩, by simp, by simp only; omega⟩
  · refine WL.seq (WL.sreg (by simp [hlt]; rfl) (by simp; rfl) ?_)
    refine WL.cond (t := false) (by simp [hlt]) (by simp) fun _ => WL.exit ?_
    have hS : SM key f 0 N h0 := by
      rcases Nat.eq_zero_or_pos N with e | e
      · subst e
        exact ⟨fun k hk => hA0.2 k (by omega), by simp [seg], fun i j _ _ hj => by omega⟩
      · have := hA0.1 0 (by simpa using e)
        rw [Nat.mul_zero, Nat.min_eq_right (by omega)] at this
        exact this.toSM hA0.2
    obtain rfl := SM_unique hS hf'
    refine ⟨.inl rfl, ?_⟩
    simp [fi138]
set_option maxHeartbeats 16000000 in
theorem stable_fn {key : Int → Int} {In : Int → Prop} {g : Nat} {cs : List AU} (hcl : ClOk key In g cs) (f : Nat → Int) (N : Nat) (hN : N ≤ 100000000) (hIn : ∀ k, k < N → In (f k)) (hasc : ∀ i j, i < j → j < N → f i < f j)
    (f' : Nat → Int) (hf' : SM key f 0 N f') : FnC Try.prog 138 [.nod (rF f N)] [.view 1000000 0 [] 0 N, i64 N, .clos g [.vptr () cs]] [.nod (rF f' N)] (.tuple []) := by
  have hNs : Small N := by unfold Small; omega
  refine FnC.go ok138 rfl ?_
  refine WL.sreg (by simp; rfl) (by simp; rfl) ?_
  refine WL.sreg (by simp; rfl) (by simp; rfl) ?_
  refine WL.seq (WL.block (WL.loop (ι := {x : (Nat → Int) × Nat // UpB key f f x.1 N 20 x.2}) (fun x => stS1 x.1.1 N x.1.2 (x.1.2 + 20) (.clos g [.vptr () cs])) (fun x => N - x.1.2)
    ⟨(f, 0), ⟨0, by simp⟩, Nat.zero_le _, fun t ht => absurd ht (Nat.not_lt_zero _), fun k _ => rfl⟩ (by simp) fun x => ?_))
  obtain ⟨⟨h, a⟩, U⟩ := x
  simp only at U ⊢
  obtain ⟨⟨t, ht⟩, haN, hbl, hrest⟩ := id U
  have hIn1 : ∀ k, k < N → In (h k) := fun k hk => by
    by_cases hka : k < a
    · have hk1 : 20 * (k / 20) ≤ k := Nat.mul_div_le k 20
      have hk2 : k < 20 * (k / 20) + 20 := by omega
      have hk3 : 20 * (k / 20) + 20 ≤ a := by omega
      obtain ⟨u, u1, u2, e⟩ := (hbl (k / 20) (by omega)).mem hk1 hk2
      rw [e]; exact hIn u (by omega)
    · rw [hrest k (by omega)]; exact hIn k hk
  obtain ⟨q, hq⟩ : ∃ q, q = a + 20 := ⟨_, rfl⟩
  rw [← hq]
  by_cases hqN : q ≤ N
  · obtain ⟨h2, hS⟩ := SM_exists key h (by omega : a ≤ q) (asc_ne hasc hqN hrest)
    have hc := ins_fn hcl h N a q hNs (by omega) hqN hIn1 (fun i j g1 g2 g3 => by rw [hrest i g1, hrest j (by omega)]; exact hasc i j g2 (by omega)) h2 hS
    refine WL.seq (WL.sreg (by simp [hqN]; rfl) (by simp; rfl) ?_)
    refine WL.cond (t := true) (by simp [hqN]) (fun _ => WL.skip ?_) (by simp)
    refine WL.block (WL.sregC (RL.o (by simp; rfl) (RL.callK false [(1000000, [])] hc (by simp) (by simp) (by simp [gkey]) (by simp) (by simp) (RL.nil ⟨_, by simp; rfl, ?_⟩))))
    have w4 : IntKind.wrap .i64 ((q : Int) + 20) = ((q + 20 : Nat) : Int) := by rw [wrap_small (by omega) (by omega)]; omega
    refine WL.sreg (by simp; rfl) (by simp; rfl) ?_
    refine WL.reg (RL.run (by simp [w4]; rfl) ⟨_, by simp; rfl, ?_⟩)
    refine ⟨⟨(h2, q), ?_⟩, by simp, by simp only; omega⟩
    have := U.next (h' := h2) (by decide) (by omega) (by rw [← hq]; exact Blk.ofSM (fun k g1 _ => hrest k g1) hS) (fun k hk => hS.out k (by omega))
    rwa [← hq] at this
  · refine WL.seq (WL.sreg (by simp [hqN]; rfl) (by simp; rfl) ?_)
    refine WL.cond (t := false) (by simp [hqN]) (by simp) fun _ => WL.exit ?_
    obtain ⟨h2, hS⟩ := SM_exists key h haN (asc_ne hasc (Nat.le_refl N) hrest)
    have hc := ins_fn hcl h N a N hNs haN (Nat.le_refl _) hIn1 (fun i j g1 g2 g3 => by rw [hrest i g1, hrest j (by omega)]; exact hasc i j g2 g3) h2 hS
    have hAll : AllB key f h2 N 20 := U.all (by decide) (by omega) (fun _ => Blk.ofSM (fun k g1 _ => hrest k g1) hS) (fun k hk => hS.out k hk) (fun k _ => rfl)
    refine WL.sregC (RL.o (by simp; rfl) (RL.callK false [(1000000, [])] hc (by simp) (by simp) (by simp [gkey]) (by simp) (by simp) (RL.nil ⟨_, by simp; rfl, ?_⟩)))
    exact stable_grow hcl f N hN hIn hasc f' hf' h2 hAll
end Go.OT
set_option linter.unusedSimpArgs false
set_option linter.unusedVariables false
namespace Go.OT
open Go.Proofs
end Go.OT
set_option linter.unusedSimpArgs false
set_option linter.unusedVariables false
namespace Go.OT
open Go.Proofs
end Go.OT
set_option linter.unusedSimpArgs false
set_option linter.unusedVariables false
namespace Go.OT
open Go.Proofs
end Go.OT
set_option linter.unusedSimpArgs false
set_option linter.unusedVariables false
namespace Go.OT
open Go.Proofs
theorem fm_drop {l : List Cl} {i : Nat} (h : i < l.length) : (l.flatMap (cellsCl false)).drop (i * 7) = cellsCl false l[i] ++ (l.drop (i + 1)).flatMap (cellsCl false) := by
  induction l generalizing i with
  | nil => simp at h
  | cons a l ih =>
    cases i with
    | zero => simp [List.flatMap_cons]
    | succ i =>
      rw [List.flatMap_cons, List.drop_append, List.drop_of_length_le (by simp; omega)]
      have : (i + 1) * 7 - (cellsCl false a).length = i * 7 := by simp; omega
      rw [this, ih (by simpa using h)]
      simp
end Go.OT
set_option linter.unusedSimpArgs false
set_option linter.unusedVariables false
namespace Go.OT
open Go.Proofs
abbrev sCl (l : List Cl) : AU := .sl false () 7 l.length (l.flatMap (cellsCl false))
end Go.OT
set_option linter.unusedSimpArgs false
set_option linter.unusedVariables false
namespace Go.OT
open Go.Proofs
end Go.OT
set_option linter.unusedSimpArgs false
set_option linter.unusedVariables false
namespace Go.OT
open Go.Proofs
theorem WL.up {P : Program} {nt : Nat} {cc : Cd} {L : SL} {R : SL → Prop} {Q : Ex → SL → Prop} (h : WL P nt cc L fun e L => e = Ex.ret ∧ R L) (hq : ∀ L, R L → Q .ret L) : WL P nt cc L Q :=
  h.mono fun e L ⟨h1, h2⟩ => by subst h1; exact hq L h2
end Go.OT
set_option linter.unusedSimpArgs false
set_option linter.unusedVariables false
namespace Go.OT
open Go.Proofs
end Go.OT
set_option linter.unusedSimpArgs false
set_option linter.unusedVariables false
namespace Go.OT
open Go.Proofs
theorem immI : ∀ l : List Int, noImmL (l.map i64) = true
  | [] => rfl
  | _ :: l => immI l
end Go.OT
set_option linter.unusedSimpArgs false
set_option linter.unusedVariables false
namespace Go.OT
open Go.Proofs
end Go.OT
set_option linter.unusedSimpArgs false
set_option linter.unusedVariables false
namespace Go.OT
open Go.Proofs
end Go.OT
set_option linter.unusedSimpArgs false
set_option linter.unusedVariables false
namespace Go.OT
open Go.Proofs
end Go.OT
set_option linter.unusedSimpArgs false
set_option linter.unusedVariables false
namespace Go.OT
open Go.Proofs
end Go.OT
set_option linter.unusedSimpArgs false
set_option linter.unusedVariables false
namespace Go.OT
open Go.Proofs
end Go.OT
set_option linter.unusedSimpArgs false
set_option linter.unusedVariables false
namespace Go.OT
open Go.Proofs
end Go.OT
set_option linter.unusedSimpArgs false
set_option linter.unusedVariables false
namespace Go.OT
open Go.Proofs
theorem set_self {α : Type} (l : List α) (i : Nat) (h : i < l.length) (v : α) (hv : l[i] = v) : l.set i v = l := by
  subst hv
  exact List.set_getElem_self h
end Go.OT
set_option linter.unusedSimpArgs false
set_option linter.unusedVariables false
namespace Go.OT
open Go.Proofs
end Go.OT
set_option linter.unusedSimpArgs false
set_option linter.unusedVariables false
namespace Go.OT
open Go.Proofs
theorem newSt_eq {n m : Nat} (hn : 1 ≤ n) (hn' : n ≤ 48) (hm : 1 ≤ m) (hm' : m ≤ 6) : newSt n m = ⟨List.replicate n false, List.replicate n (List.replicate 16 0), List.replicate m [-1, -1, -1, -1, -1, -1]⟩ := by
  unfold newSt
  rw [if_neg]
  · rfl
  · simp only [newBad, Bool.or_eq_true, decide_eq_true_eq]; omega
theorem newSt_ok {n m : Nat} (hn : 1 ≤ n) (hn' : n ≤ 48) (hm : 1 ≤ m) (hm' : m ≤ 6) : OkSt (newSt n m) := by
  rw [newSt_eq hn hn' hm hm']
  refine ⟨by simpa using hn, by simpa using hn', by simp, by simpa using hm, by simpa using hm', fun b hb => ?_, fun i hi _ => ?_, fun l hl => ?_, fun l hl p hp => ?_⟩
  · rw [List.eq_of_mem_replicate hb]; rfl
  · simp
  · rw [List.eq_of_mem_replicate hl]; rfl
  · rw [List.eq_of_mem_replicate hl] at hp
    left
    simpa using hp
end Go.OT
set_option linter.unusedSimpArgs false
set_option linter.unusedVariables false
namespace Go.OT
open Go.Proofs
structure Ev where
  Client : Int
  op : Op
  res : Rs
  Begin : Int
  Stamp : Int
  End : Int
  deriving DecidableEq
abbrev cellsEv (o r : Bool) (e : Ev) : List AU := [i64 e.Client, i64 e.op.Kind, i64 e.op.Page, i64 e.op.Handle, i64 e.op.Off, i64 e.op.N, sU o e.op.Data, i64 e.res.Code, i64 e.res.Page, i64 e.res.Handle, sU r e.res.Data, i64 e.Begin, i64 e.Stamp, i64 e.End]
abbrev sEv (l : List Ev) : AU := .sl false () 14 l.length (l.flatMap (cellsEv false false))
theorem fmE_drop {o r : Bool} {l : List Ev} {i : Nat} (h : i < l.length) : (l.flatMap (cellsEv o r)).drop (i * 14) = cellsEv o r l[i] ++ (l.drop (i + 1)).flatMap (cellsEv o r) := by
  induction l generalizing i with
  | nil => simp at h
  | cons a l ih =>
    cases i with
    | zero => simp [List.flatMap_cons]
    | succ i =>
      rw [List.flatMap_cons, List.drop_append, List.drop_of_length_le (by simp; omega)]
      have : (i + 1) * 14 - (cellsEv o r a).length = i * 14 := by simp; omega
      rw [this, ih (by simpa using h)]
      simp
theorem fmE_len (o r : Bool) (l : List Ev) : (l.flatMap (cellsEv o r)).length = l.length * 14 := by
  induction l with
  | nil => rfl
  | cons a l ih => rw [List.flatMap_cons, List.length_append, ih]; simp; omega
def keyE (l : List Ev) (x : Int) : Int := (l.map (·.Stamp)).getD x.toNat 0
def posN (l : List Ev) (n : Nat) : List Int := ((List.range n).filter fun i => decide (0 < (l.map (·.Stamp)).getD i 0)).map fun i => Int.ofNat i
def posL (l : List Ev) : List Int := posN l l.length
def ordF (l : List Ev) : List Int := ordL (keyE l) (posL l)
theorem posN_succ (l : List Ev) (n : Nat) : posN l (n + 1) = posN l n ++ (if 0 < (l.map (·.Stamp)).getD n 0 then [(n : Int)] else []) := by
  simp only [posN, List.range_succ, List.filter_append, List.map_append]
  congr 1
  by_cases h : 0 < (l.map (·.Stamp)).getD n 0
  · simp only [List.filter_cons, List.filter_nil, h, decide_true, if_true]; rfl
  · simp only [List.filter_cons, List.filter_nil, h, decide_false, if_false]; rfl
theorem posN_mem {l : List Ev} {n : Nat} {x : Int} (h : x ∈ posN l n) : ∃ i : Nat, i < n ∧ x = i ∧ 0 < (l.map (·.Stamp)).getD i 0 := by
  simp only [posN, List.mem_map, List.mem_filter, List.mem_range, decide_eq_true_eq] at h
  obtain ⟨i, ⟨h1, h2⟩, rfl⟩ := h
  exact ⟨i, h1, rfl, h2⟩
theorem posN_asc (l : List Ev) (n : Nat) : (posN l n).Pairwise (· < ·) := by
  unfold posN
  rw [List.pairwise_map]
  refine List.Pairwise.imp ?_ (List.Pairwise.filter _ List.pairwise_lt_range)
  intro a b h
  exact Int.ofNat_lt.2 h
theorem posN_len (l : List Ev) (n : Nat) : (posN l n).length ≤ n := by
  unfold posN
  rw [List.length_map]
  exact Nat.le_trans (List.length_filter_le _ _) (by simp)
theorem ordF_mem {l : List Ev} {x : Int} (h : x ∈ ordF l) : ∃ i : Nat, i < l.length ∧ x = i ∧ 0 < (l.map (·.Stamp)).getD i 0 :=
  posN_mem ((ordL_spec (keyE l) (posN_asc l _)).1.subset h)
theorem ordF_len (l : List Ev) : (ordF l).length ≤ l.length := by
  have := (ordL_spec (keyE l) (posN_asc l l.length)).1.length_eq
  unfold ordF posL
  rw [this]; exact posN_len l _
def toF (L : List Int) (k : Nat) : Int := L.getD k 0
theorem rF_toF (L : List Int) : (rF (toF L) L.length : AU) = sI true L := by
  show AV.sl true () 1 L.length (tF (toF L) L.length) = _
  congr 1
  apply List.ext_getElem
  · simp
  · intro i h1 h2
    have : i < L.length := by simpa using h2
    simp [toF, this]
theorem seg_toF (L : List Int) : seg (toF L) 0 L.length = L := by
  apply List.ext_getElem
  · simp [seg_len]
  · intro i h1 h2
    simp [seg, toF, h2]
theorem toF_SM (key : Int → Int) {L : List Int} (hL : L.Pairwise (· < ·)) : SM key (toF L) 0 L.length (toF (ordL key L)) := by
  obtain ⟨h1, h2⟩ := ordL_spec key hL
  have hl := h1.length_eq
  refine ⟨fun k hk => ?_, ?_, fun i j _ hij hj => ?_⟩
  · have e1 : L.length ≤ k := by omega
    simp [toF, List.getD_eq_getElem?_getD, List.getElem?_eq_none e1, List.getElem?_eq_none (by omega : (ordL key L).length ≤ k)]
  · rw [Nat.sub_zero, seg_toF]
    have := seg_toF (ordL key L)
    rw [hl] at this
    rw [this]; exact h1
  · have := List.pairwise_iff_getElem.1 h2 i j (by omega) (by omega) hij
    simpa [toF, List.getD_eq_getElem?_getD, show i < (ordL key L).length by omega, show j < (ordL key L).length by omega] using this
set_option maxHeartbeats 4000000 in
theorem sort_fn {key : Int → Int} {g : Nat} {cs : List AU} (L : List Int) (hL : L.Pairwise (· < ·)) (hn : L.length ≤ 100000000) (hcl : ClOk key (· ∈ L) g cs) :
    FnC Try.prog 91 [.nod (sI true L)] [.view 1000000 0 [] 0 L.length, .clos g [.vptr () cs]] [.nod (sI true (ordL key L))] (.tuple []) := by
  have hc := stable_fn hcl (toF L) L.length hn (fun k hk => by simp [toF, hk]) (fun i j hij hj => by
    have := List.pairwise_iff_getElem.1 hL i j (by omega) hj hij
    simpa [toF, List.getD_eq_getElem?_getD, show i < L.length by omega, hj] using this) _ (toF_SM key hL)
  have hlen := (ordL_spec key hL).1.length_eq
  have e2 := rF_toF (ordL key L)
  rw [hlen] at e2
  rw [rF_toF, e2] at hc
  refine FnC.go ok91 rfl ?_
  refine WL.reg (RL.o (by simp; rfl) (RL.callK false [(1000000, [])] hc (by simp) (by simp) (by simp [gkey]) (by simp) (by simp [hlen]) (RL.nil ⟨_, by simp; rfl, .inl rfl, ?_⟩)))
  simp [fi91]
end Go.OT
set_option linter.unusedSimpArgs false
set_option linter.unusedVariables false
namespace Go.OT
open Go.Proofs
theorem ty44 : Ty Try.prog 44 Rs (fun r => [i64 r.Code, i64 r.Page, i64 r.Handle, sU false r.Data]) (fun r => r.Data.length ≤ 9223372036854775807) :=
  (Ty.struct Try.underlying44 (by kernel_rfl) (TyF.cons rfl (by kernel_rfl) ty3 (TyF.cons rfl (by kernel_rfl) ty3 (TyF.cons rfl (by kernel_rfl) ty3 (TyF.cons rfl (by kernel_rfl) ty40 (TyF.nil (off := 4))))))).map
    (fun p => ⟨p.1, p.2.1, p.2.2.1, p.2.2.2.1⟩) (fun p => rfl) (fun p h => h.2.2.2.1)
theorem ty46 : Ty Try.prog 46 Ev (fun e => cellsEv false false e) (fun e => True) :=
  (Ty.struct Try.underlying46 (by kernel_rfl) (TyF.cons rfl (by kernel_rfl) ty3 (TyF.cons rfl (by kernel_rfl) ty42 (TyF.cons rfl (by kernel_rfl) ty44 (TyF.cons rfl (by kernel_rfl) ty3 (TyF.cons rfl (by kernel_rfl) ty3 (TyF.cons rfl (by kernel_rfl) ty3 (TyF.nil (off := 14))))))))).map
    (fun p => ⟨p.1, p.2.1, p.2.2.1, p.2.2.2.1, p.2.2.2.2.1, p.2.2.2.2.2.1⟩) (fun p => rfl) (fun p h => trivial)
theorem ta47 : TyA Try.prog 47 (List Ev) (fun l => sEv l) (fun l => l.length ≤ 9223372036854775807 ∧ ∀ c ∈ l, True) :=
  TyA.slice Try.underlying47 (Ty.slice (s := 14) Try.underlying47 (by kernel_rfl) (by decide) (fun _ => rfl) ty46)
end Go.OT
set_option linter.unusedSimpArgs false
set_option linter.unusedVariables false
namespace Go.OT
open Go.Proofs
theorem lendE (o r : Bool) (l : List Ev) : (lendL (l.flatMap (cellsEv o r)) : List AU) = l.flatMap (cellsEv false false) := by
  rw [lendL_eq]
  induction l with
  | nil => rfl
  | cons a l ih => rw [List.flatMap_cons, List.map_append, ih, List.flatMap_cons]; simp [lend, Function.comp_def]
theorem keyE_at {l : List Ev} {i : Nat} (h : i < l.length) : keyE l (i : Int) = l[i].Stamp := by
  simp [keyE, h]
set_option maxHeartbeats 4000000 in
theorem order1_fn (l : List Ev) (a b : Int) (ha : ∃ i : Nat, i < l.length ∧ a = i) (hb : ∃ i : Nat, i < l.length ∧ b = i) : FnC Try.prog 92 [] [i64 a, i64 b, .vptr () [sEv l]] [] (i64 (cmpI (keyE l a) (keyE l b))) := by
  obtain ⟨i, hi, rfl⟩ := ha
  obtain ⟨j, hj, rfl⟩ := hb
  rw [keyE_at hi, keyE_at hj]
  have f1 := fmE_drop (o := false) (r := false) hi
  have f2 := fmE_drop (o := false) (r := false) hj
  have g1 : 14 ≤ l.length * 14 - i * 14 := by omega
  have g2 : 14 ≤ l.length * 14 - j * 14 := by omega
  refine FnC.go ok92 rfl ?_
  refine WL.sreg (by simp; rfl) (by simp; rfl) ?_
  refine WL.seq (WL.draw mixed (by simp [cleanL, noH]) (DL.o (by simp [hi, hj, f1, f2, g1, g2]; exact ⟨rfl, rfl⟩) (DL.call0 false (cmp_fn l[i].Stamp l[j].Stamp) (by simp) (by simp) (DL.o (by simp; exact ⟨rfl, rfl⟩) (DL.nil ⟨by kernel_rfl, _, by simp; rfl, ?_⟩)))))
  refine WL.ret ⟨.inr rfl, ?_⟩
  simp [fi92]
abbrev orS (l : List Ev) (i : Nat) : SL := [(100, 0, .bptr 1 1 0), (101, 0, sEv l), (199, 1, .non), (300, 0, sI true (posN l i)), (600, 0, sEv l), (700, 0, i64 l.length), (800, 0, i64 i)]
set_option maxHeartbeats 8000000 in
theorem order_fn (l : List Ev) (hn : l.length ≤ 1000) : FnC Try.prog 33 [] [sEv l] [] (sI true (ordF l)) := by
  refine FnC.go ok33 rfl ?_
  refine WL.sreg (by simp; rfl) (by simp; rfl) ?_
  refine WL.sreg (by simp; rfl) (by simp; rfl) ?_
  refine WL.seq (WL.sreg (by simp; rfl) (by simp; rfl) ?_)
  refine WL.block (WL.count l.length (fun i => orS l i) (fun _ => True) (by simp [posN]) trivial fun i hi _ => ?_)
  by_cases hlt : i < l.length
  · have f1 := fmE_drop (o := false) (r := false) hlt
    have g1 : 14 ≤ l.length * 14 - i * 14 := by omega
    have w : IntKind.wrap .i64 ((i : Int) + 1) = ((i + 1 : Nat) : Int) := by rw [wrap_small (by omega) (by omega)]; omega
    have hst : (l.map (·.Stamp)).getD i 0 = l[i].Stamp := by simp [hlt]
    have hps := posN_succ l i
    rw [hst] at hps
    have hlen := posN_len l i
    refine WL.sreg (by simp [hlt]; rfl) (by simp; rfl) ?_
    refine WL.seq (WL.cond (t := true) (by simp [hlt]) (fun _ => WL.skip ?_) (by simp))
    refine WL.seq (WL.block (WL.sreg (by simp [hlt, f1, g1]; rfl) (by simp; rfl) ?_))
    by_cases hs : 0 < l[i].Stamp
    · rw [if_pos hs] at hps
      have m1 : ((posN l i).length + 1) * 8 ≤ 140737488355328 := by omega
      have m2 : (posN l i).length + 1 ≤ maxLen := by unfold maxLen; omega
      refine WL.sreg (by simp [hs]; rfl) (by simp; rfl) ?_
      refine WL.cond (t := true) (by simp) (fun _ => ?_) (by simp)
      refine WL.reg (RL.run (by simp [m1, m2]; rfl) ⟨_, by simp; rfl, ?_⟩)
      refine WL.reg (RL.run (by simp [w]; rfl) ⟨_, by simp; rfl, hlt, ?_, trivial⟩)
      simp [hps]
      exact List.take_of_length_le (by simp)
    · rw [if_neg hs] at hps
      refine WL.sreg (by simp [hs]; rfl) (by simp; rfl) ?_
      refine WL.cond (t := false) (by simp) (by simp) fun _ => WL.skip ?_
      refine WL.reg (RL.run (by simp [w]; rfl) ⟨_, by simp; rfl, hlt, ?_, trivial⟩)
      simp [hps]
  · obtain rfl : i = l.length := by omega
    refine WL.sreg (by simp; rfl) (by simp; rfl) ?_
    refine WL.seq (WL.cond (t := false) (by simp) (by simp) fun _ => WL.exit ?_)
    have hlen := posN_len l l.length
    have hc := sort_fn (key := keyE l) (g := 92) (cs := [sEv l]) (posN l l.length) (posN_asc l _) (by omega) (fun a b ha hb => by
      obtain ⟨i, h1, h2, _⟩ := posN_mem ha
      obtain ⟨j, h3, h4, _⟩ := posN_mem hb
      exact order1_fn l a b ⟨i, h1, h2⟩ ⟨j, h3, h4⟩)
    refine WL.sregC (RL.o (by simp; rfl) (RL.call true [(300, [])] hc (by simp) (by simp) (by simp [gkey, lendE]) (by simp [immI]) (RL.nil ⟨_, by simp; rfl, ?_⟩)))
    refine WL.sregC (RL.mv (by decide) (RL.o (by simp; rfl) (RL.nil ⟨_, by simp; rfl, WL.ret ⟨.inr rfl, ?_⟩⟩)))
    simp [fi33, ordF, posL]
end Go.OT
set_option linter.unusedSimpArgs false
set_option linter.unusedVariables false
namespace Go.OT
open Go.Proofs
def badF (k code : Int) : Bool := if code = 8 then decide (k = 1) || decide (k = 2) else if code = 9 then decide (k = 1) || (decide (k = 2) || (decide (k = 6) || decide (k = 7))) else if code = 10 then decide (k = 2) else false
set_option maxHeartbeats 8000000 in
theorem bad_fn (q : Op) (code : Int) : FnC Try.prog 37 [] [encO false q, i64 code] [] (bl (badF q.Kind code)) := by
  refine FnC.go ok37 rfl ?_
  refine WL.sreg (by simp; rfl) (by simp; rfl) ?_
  refine WL.seq (WL.sreg (by simp; rfl) (by simp; rfl) ?_)
  refine WL.block ?_
  by_cases c8 : code = 8
  · refine WL.sreg (by simp [c8]; rfl) (by simp; rfl) (WL.cond (t := true) (by simp) (fun _ => ?_) (by simp))
    by_cases k1 : q.Kind = 1
    · refine WL.sreg (by simp [k1]; rfl) (by simp; rfl) (WL.ret ⟨.inr rfl, ?_⟩)
      simp [fi37, badF, c8, k1]
    · refine WL.sreg (by simp [beq_false_of_ne k1]; rfl) (by simp; rfl) (WL.ret ⟨.inr rfl, ?_⟩)
      by_cases k2 : q.Kind = 2 <;> simp [fi37, badF, c8, k1, k2]
  refine WL.sreg (by simp [beq_false_of_ne c8]; rfl) (by simp; rfl) (WL.cond (t := false) (by simp [c8]) (by simp) fun _ => ?_)
  by_cases c9 : code = 9
  · refine WL.sreg (by simp [c9]; rfl) (by simp; rfl) (WL.cond (t := true) (by simp) (fun _ => ?_) (by simp))
    by_cases k1 : q.Kind = 1
    · refine WL.sreg (by simp [k1]; rfl) (by simp; rfl) (WL.ret ⟨.inr rfl, ?_⟩)
      simp [fi37, badF, c9, k1]
    · by_cases k2 : q.Kind = 2
      · refine WL.sreg (by simp [beq_false_of_ne k1, k2]; rfl) (by simp; rfl) (WL.ret ⟨.inr rfl, ?_⟩)
        simp [fi37, badF, c9, k1, k2]
      · by_cases k6 : q.Kind = 6
        · refine WL.sreg (by simp [beq_false_of_ne k1, beq_false_of_ne k2, k6]; rfl) (by simp; rfl) (WL.ret ⟨.inr rfl, ?_⟩)
          simp [fi37, badF, c9, k1, k2, k6]
        · refine WL.sreg (by simp [beq_false_of_ne k1, beq_false_of_ne k2, beq_false_of_ne k6]; rfl) (by simp; rfl) (WL.ret ⟨.inr rfl, ?_⟩)
          by_cases k7 : q.Kind = 7 <;> simp [fi37, badF, c9, k1, k2, k6, k7]
  refine WL.sreg (by simp [beq_false_of_ne c9]; rfl) (by simp; rfl) (WL.cond (t := false) (by simp [c9]) (by simp) fun _ => ?_)
  by_cases c10 : code = 10
  · refine WL.sreg (by simp [c10]; rfl) (by simp; rfl) (WL.cond (t := true) (by simp) (fun _ => ?_) (by simp))
    refine WL.sreg (by simp; rfl) (by simp; rfl) (WL.ret ⟨.inr rfl, ?_⟩)
    by_cases k2 : q.Kind = 2 <;> simp [fi37, badF, c10, k2]
  refine WL.sreg (by simp [beq_false_of_ne c10]; rfl) (by simp; rfl) (WL.cond (t := false) (by simp [c10]) (by simp) fun _ => WL.skip ?_)
  refine WL.sreg (by simp; rfl) (by simp; rfl) (WL.ret ⟨.inr rfl, ?_⟩)
  simp [fi37, badF, c8, c9, c10]
def tmPrev (l : List Ev) (i : Nat) (e : Ev) : Bool := decide (0 < i) && decide (e.Begin < (l.getD (i - 1) e).Begin)
def tmBad (l : List Ev) (i : Nat) (c : Int) (e : Ev) : Bool := decide (e.Client < 0) || (decide (c ≤ e.Client) || (decide (e.Begin < 1) || (tmPrev l i e || decide (e.End < 0))))
def tmStamp (e : Ev) : Bool := (decide (0 < e.End) && (decide (e.Stamp < e.Begin) || decide (e.End < e.Stamp))) || (decide (e.End = 0) && (decide (e.Stamp ≠ 0) && decide (e.Stamp < e.Begin)))
def tmOver (e o : Ev) : Bool := decide (o.Client = e.Client) && (decide (o.End < 1) || decide (e.Begin ≤ o.End))
def timesE (l : List Ev) (i : Nat) (c : Int) (e : Ev) : Bool := !tmBad l i c e && (!tmStamp e && !(l.take i).any (tmOver e))
def timesF (l : List Ev) (i : Nat) (c : Int) : Bool := match l[i]? with
  | some e => timesE l i c e
  | none => true
theorem timesF_at {l : List Ev} {i : Nat} (h : i < l.length) (c : Int) : timesF l i c = timesE l i c l[i] := by
  simp [timesF, h]
abbrev bxE (b : Nat) (e : Ev) : SL := [(100 * b, 0, .bptr b 1 0), (100 * b + 1, 0, i64 e.Client), (100 * b + 2, 0, i64 e.op.Kind), (100 * b + 3, 0, i64 e.op.Page), (100 * b + 4, 0, i64 e.op.Handle), (100 * b + 5, 0, i64 e.op.Off), (100 * b + 6, 0, i64 e.op.N), (100 * b + 7, 0, sU false e.op.Data), (100 * b + 8, 0, i64 e.res.Code), (100 * b + 9, 0, i64 e.res.Page), (100 * b + 10, 0, i64 e.res.Handle), (100 * b + 11, 0, sU false e.res.Data), (100 * b + 12, 0, i64 e.Begin), (100 * b + 13, 0, i64 e.Stamp), (100 * b + 14, 0, i64 e.End), (100 * b + 99, 1, .non)]
abbrev tmS (l : List Ev) (i : Nat) (r : SL) : SL := [(0, 0, sEv l), (100, 0, i64 i)] ++ r
abbrev tmQ (v : Bool) : Ex → SL → Prop := fun e L => e = Ex.ret ∧ RetOk fi135.rs [] (bl v) L
theorem fmE_take (o r : Bool) (l : List Ev) (i : Nat) : (l.flatMap (cellsEv o r)).take (i * 14) = (l.take i).flatMap (cellsEv o r) := by
  induction l generalizing i with
  | nil => simp
  | cons a l ih =>
    cases i with
    | zero => simp
    | succ i =>
      rw [List.flatMap_cons, List.take_append, List.take_of_length_le (by simp; omega), List.take_succ_cons, List.flatMap_cons]
      congr 1
      have : (i + 1) * 14 - (cellsEv o r a).length = i * 14 := by simp; omega
      rw [this, ih]
theorem any_take_succ {α : Type} {p : α → Bool} {l : List α} {k : Nat} (h : k < l.length) (hp : (l.take k).any p = false) (hk : p l[k] = false) : (l.take (k + 1)).any p = false := by
  rw [take_succ_snoc h, List.any_append, hp]
  simp [hk]
theorem any_of_at {α : Type} {p : α → Bool} {l : List α} {k : Nat} (h : k < l.length) (hk : p l[k] = true) : l.any p = true := List.any_eq_true.2 ⟨_, List.getElem_mem h, hk⟩
abbrev tmT (m : List Ev) (e : Ev) (k : Nat) : SL := bxE 7 e ++ [(8500, 0, sEv m), (8600, 0, i64 m.length), (8700, 0, i64 k)]
set_option maxHeartbeats 16000000 in
theorem times_loop (l : List Ev) (hn : l.length ≤ 1000) (i : Nat) (hi : i < l.length) (e : Ev) : WL Try.prog fi135.nt c135_20 (tmS l i (bxE 7 e ++ [(6700, 0, bl false)])) (tmQ (!(l.take i).any (tmOver e))) := by
  have hlen := fmE_len false false l
  have htk := fmE_take false false l i
  have hmi : min i l.length = i := by omega
  obtain ⟨m, hm⟩ : ∃ m, m = l.take i := ⟨_, rfl⟩
  have hml : m.length = i := by rw [hm, List.length_take]; omega
  refine WL.seq (WL.label ?_)
  refine WL.seq (WL.sreg (by simp [hi, Nat.le_of_lt hi, htk]; rfl) (by simp; rfl) ?_)
  rw [← hm]
  refine WL.block (WL.count m.length (fun k => tmT m e k) (fun k => (m.take k).any (tmOver e) = false) (by simp [hml]) (by simp) fun k hk hp => ?_)
  by_cases hlt : k < m.length
  · have f1 := fmE_drop (o := false) (r := false) hlt
    have g1 : 14 ≤ m.length * 14 - k * 14 := by omega
    have w : IntKind.wrap .i64 ((k : Int) + 1) = ((k + 1 : Nat) : Int) := by rw [wrap_small (by omega) (by omega)]; omega
    refine WL.sreg (by simp [hlt]; rfl) (by simp; rfl) ?_
    refine WL.seq (WL.cond (t := true) (by simp [hlt]) (fun _ => WL.skip ?_) (by simp))
    refine WL.seq (WL.block (WL.sreg (by simp [hlt, f1, g1]; rfl) (by simp; rfl) ?_))
    have next : ∀ (h : tmOver e m[k] = false), WL Try.prog fi135.nt c135_13 (tmT m e k) (Ex.thenL (fun L' => k < m.length ∧ L' = tmT m e (k + 1) ∧ (m.take (k + 1)).any (tmOver e) = false) (Ex.blkL 1 (Ex.thenL (fun L' => WL Try.prog fi135.nt c135_18 L' (tmQ (!m.any (tmOver e)))) (tmQ (!m.any (tmOver e)))))) := fun h => by
      refine WL.reg (RL.run (by simp [w]; rfl) ⟨_, by simp; rfl, hlt, ?_, any_take_succ hlt hp h⟩)
      simp
    have stop : ∀ (h : tmOver e m[k] = true) (L : SL), L = tmT m e k ++ [(10500, 0, bl true)] → WL Try.prog fi135.nt c135_9 (tmT m e k ++ [(10500, 0, bl true)]) (tmQ (!m.any (tmOver e))) := fun h L _ => by
      rw [any_of_at hlt h]
      refine WL.sreg (by simp; rfl) (by simp; rfl) (WL.ret ⟨rfl, ?_⟩)
      simp [fi135]
    generalize ho : m[k] = o at next stop ⊢
    by_cases c1 : o.Client = e.Client
    · have c1' : (o.Client != e.Client) = false := by simp [c1]
      refine WL.seq (WL.sreg (by simp [c1']; rfl) (by simp; rfl) ?_)
      refine WL.cond (t := false) (by simp) (by simp) fun _ => WL.skip ?_
      by_cases c2 : o.End < 1
      · refine WL.sreg (by simp [c2]; rfl) (by simp; rfl) ?_
        refine WL.cond (t := true) (by simp) (fun _ => ?_) (by simp)
        refine WL.mono (Q' := tmQ (!m.any (tmOver e))) ?_ fun x L h => ?_
        · exact stop (by simp [tmOver, c1, c2]) _ rfl
        · obtain ⟨rfl, h⟩ := h; exact ⟨rfl, h⟩
      · by_cases c3 : e.Begin ≤ o.End
        · refine WL.sreg (by simp [c2, c3]; rfl) (by simp; rfl) ?_
          refine WL.cond (t := true) (by simp) (fun _ => ?_) (by simp)
          refine WL.mono (Q' := tmQ (!m.any (tmOver e))) ?_ fun x L h => ?_
          · exact stop (by simp [tmOver, c1, c2, c3]) _ rfl
          · obtain ⟨rfl, h⟩ := h; exact ⟨rfl, h⟩
        · refine WL.sreg (by simp [c2, c3]; rfl) (by simp; rfl) ?_
          refine WL.cond (t := false) (by simp) (by simp) fun _ => WL.skip ?_
          have := next (by simp [tmOver, c1, c2, c3])
          refine WL.fin [105] (by simp; rfl) ?_
          exact this
    · have c1' : (o.Client != e.Client) = true := by simp [c1]
      refine WL.seq (WL.sreg (by simp [c1']; rfl) (by simp; rfl) ?_)
      refine WL.cond (t := true) (by simp) (fun _ => WL.exit ?_) (by simp)
      have := next (by simp [tmOver, c1])
      refine WL.fin [9, 95] (by simp; rfl) ?_
      exact this
  · obtain rfl : k = m.length := by omega
    rw [List.take_length] at hp
    refine WL.sreg (by simp; rfl) (by simp; rfl) ?_
    refine WL.seq (WL.cond (t := false) (by simp) (by simp) fun _ => WL.exit ?_)
    rw [hp]
    refine WL.sreg (by simp; rfl) (by simp; rfl) (WL.ret ⟨rfl, ?_⟩)
    simp [fi135]
end Go.OT
set_option linter.unusedSimpArgs false
set_option linter.unusedVariables false
namespace Go.OT
open Go.Proofs
def plainRes (r : Rs) : Bool := decide (r.Page = 0) && (decide (r.Handle = 0) && decide (r.Data = []))
def stepR (s : St) (e : Ev) : Bool × St :=
  if (decide (0 < e.End) && badF e.op.Kind e.res.Code) = true then (plainRes e.res, s) else (decide (e.End = 0) || SameRes (DoB s e.Client e.op).2.2 e.res, (DoB s e.Client e.op).2.1)
def stepW (s : St) (e : Ev) : Option St :=
  if (decide (e.End = 0) || SameRes (DoB s e.Client e.op).2.2 e.res) = true then some (DoB s e.Client e.op).2.1
  else if (!badF e.op.Kind e.res.Code || !SameRes e.res (rsE e.res.Code)) = true then none else some s
theorem step_code (s : St) (c : Nat) (q : Op) : (Step s c q).2.Code = 0 := by
  simp only [Step]
  repeat' split
  all_goals rfl
theorem codeOf_le (s : St) (l : List Int) (q : Op) : 0 ≤ codeOf s l q ∧ codeOf s l q ≤ 7 := by
  simp only [codeOf]
  repeat' split
  all_goals decide
theorem DoB_code (s : St) (cl : Int) (q : Op) : 0 ≤ (DoB s cl q).2.2.Code ∧ (DoB s cl q).2.2.Code ≤ 7 := by
  unfold DoB
  split
  · simp [rsE]
  · split
    · rw [step_code]; exact ⟨by decide, by decide⟩
    · exact codeOf_le _ _ _
theorem badF_code {k c : Int} (h : badF k c = true) : 8 ≤ c := by
  unfold badF at h
  split at h
  · omega
  · split at h
    · omega
    · split at h
      · omega
      · cases h
theorem stepW_eq (s : St) (e : Ev) (h0 : 0 ≤ e.End) : stepW s e = if (stepR s e).1 = true then some (stepR s e).2 else none := by
  have hc := DoB_code s e.Client e.op
  unfold stepW stepR
  by_cases p0 : e.End = 0
  · have p1 : ¬ (0 < e.End) := by omega
    simp [p0]
  · have p1 : 0 < e.End := by omega
    cases hb : badF e.op.Kind e.res.Code with
    | true =>
      have h8 := badF_code hb
      have hs : SameRes (DoB s e.Client e.op).2.2 e.res = false := by
        have : ((DoB s e.Client e.op).2.2.Code == e.res.Code) = false := beq_false_of_ne (by omega)
        simp [SameRes, this]
      have hp : SameRes e.res (rsE e.res.Code) = plainRes e.res := by
        simp [SameRes, plainRes, rsE]
        by_cases z1 : e.res.Page = 0 <;> by_cases z2 : e.res.Handle = 0 <;> by_cases z3 : e.res.Data = [] <;> simp [z1, z2, z3]
      simp only [hs, hp, p0, p1, decide_true, decide_false, Bool.or_false, Bool.not_true, Bool.false_or, Bool.true_and, if_true]
      cases plainRes e.res <;> simp
    | false =>
      simp only [p0, p1, decide_true, decide_false, Bool.and_false, Bool.not_false, Bool.true_or, Bool.false_or, if_true, Bool.false_eq_true, if_false]
def atE (l : List Ev) (x : Int) : Ev := (l[x.toNat]?).getD ⟨0, ⟨0, 0, 0, 0, 0, []⟩, ⟨0, 0, 0, []⟩, 0, 0, 0⟩
theorem atE_at {l : List Ev} {i : Nat} (h : i < l.length) : atE l (i : Int) = l[i] := by simp [atE, h]
def goW {σ : Type} (l : List Ev) (see : σ → Int → St → σ) : St → σ → List Int → Int × St × σ
  | s, a, [] => (0, s, a)
  | s, a, x :: r => if (stepR s (atE l x)).1 = true then goW l see (stepR s (atE l x)).2 (see a x (stepR s (atE l x)).2) r else (x + 1, s, a)
theorem goW_code {σ τ : Type} (l : List Ev) (f : σ → Int → St → σ) (g : τ → Int → St → τ) : ∀ (o : List Int) (s : St) (a : σ) (b : τ), (goW l f s a o).1 = (goW l g s b o).1 ∧ (goW l f s a o).2.1 = (goW l g s b o).2.1
  | [], s, a, b => ⟨rfl, rfl⟩
  | x :: r, s, a, b => by
    simp only [goW]
    split
    · exact goW_code l f g r _ _ _
    · exact ⟨rfl, rfl⟩
theorem goW_last (l : List Ev) : ∀ (o : List Int) (s : St), (goW l (fun _ _ t => t) s s o).2.2 = (goW l (fun _ _ t => t) s s o).2.1
  | [], s => rfl
  | x :: r, s => by
    simp only [goW]
    split
    · exact goW_last l r _
    · rfl
def firstBad (l : List Ev) (c : Int) : Option Nat := (List.range l.length).find? fun i => !timesF l i c
theorem firstBad_some {l : List Ev} {c : Int} {i : Nat} (hi : i < l.length) (h : ∀ j, j < i → timesF l j c = true) (hb : timesF l i c = false) : firstBad l c = some i := by
  unfold firstBad
  rw [List.find?_range_eq_some]
  exact ⟨by simp [hb], List.mem_range.2 hi, fun j hj => by simp [h j hj]⟩
theorem firstBad_none {l : List Ev} {c : Int} (h : ∀ j, j < l.length → timesF l j c = true) : firstBad l c = none := by
  unfold firstBad
  rw [List.find?_eq_none]
  intro j hj
  simp [h j (List.mem_range.1 hj)]
def walkF {σ : Type} (see : σ → Int → St → σ) (a : σ) (l : List Ev) (p c : Int) : Int × St × σ :=
  if newBad p c = true then (-1, newSt p c, a) else match firstBad l c with
    | some i => (i + 1, newSt p c, a)
    | none => goW l see (newSt p c) a (ordF l)
def noSee : Unit → Int → St → Unit := fun _ _ _ => ()
def chkF (l : List Ev) (p c : Int) : Int := (walkF noSee () l p c).1
def finF (l : List Ev) (p c : Int) : St × Bool := if chkF l p c = 0 then ((walkF noSee () l p c).2.1, true) else (⟨[], [], []⟩, false)
theorem walkF_code {σ : Type} (see : σ → Int → St → σ) (a : σ) (l : List Ev) (p c : Int) : (walkF see a l p c).1 = chkF l p c := by
  unfold chkF walkF
  split
  · rfl
  · split
    · rfl
    · exact (goW_code l see noSee _ _ a ()).1
theorem walkF_last (l : List Ev) (p c : Int) : (walkF (fun _ _ t => t) (newSt p c) l p c).2.2 = (walkF noSee () l p c).2.1 := by
  unfold walkF
  split
  · rfl
  · split
    · rfl
    · rw [goW_last]; exact (goW_code l _ noSee _ _ _ ()).2
theorem stepR_ok {s : St} (h : OkSt s) (e : Ev) : OkSt (stepR s e).2 := by
  unfold stepR
  split
  · exact h
  · exact h.doB _ _
structure EvOk (l : List Ev) : Prop where
  n : l.length ≤ 1000
  d : ∀ e ∈ l, e.op.Data.length ≤ 1000
end Go.OT
set_option linter.unusedSimpArgs false
set_option linter.unusedVariables false
namespace Go.OT
open Go.Proofs
end Go.OT
set_option linter.unusedSimpArgs false
set_option linter.unusedVariables false
namespace Go.OT
open Go.Proofs
@[simp] theorem extra_asg (L : SL) (d : Nat) (c : COd) : extra L (.asg d c) = true := rfl
end Go.OT
set_option linter.unusedSimpArgs false
set_option linter.unusedVariables false
namespace Go.OT
open Go.Proofs
end Go.OT
set_option linter.unusedSimpArgs false
set_option linter.unusedVariables false
namespace Go.OT
open Go.Proofs
theorem newSt_ok' {p c : Int} (h : newBad p c = false) : OkSt (newSt p c) := by
  have hb' := h
  simp only [newBad, Bool.or_eq_false_iff, decide_eq_false_iff_not] at hb'
  obtain ⟨n, rfl⟩ := Int.eq_ofNat_of_zero_le (a := p) (by omega)
  obtain ⟨m, rfl⟩ := Int.eq_ofNat_of_zero_le (a := c) (by omega)
  exact newSt_ok (by omega) (by omega) (by omega) (by omega)
theorem ordF_at {l : List Ev} {j : Nat} (h : j < (ordF l).length) : ∃ u : Nat, ∃ hu : u < l.length, (ordF l)[j] = (u : Int) := by
  obtain ⟨u, h1, h2, _⟩ := ordF_mem (List.getElem_mem h)
  exact ⟨u, h1, h2⟩
end Go.OT
set_option linter.unusedSimpArgs false
set_option linter.unusedVariables false
namespace Go.OT
open Go.Proofs
end Go.OT
set_option linter.unusedSimpArgs false
set_option linter.unusedVariables false
namespace Go.OT
open Go.Proofs
set_option maxHeartbeats 16000000 in
theorem times_rest (l : List Ev) (i : Nat) (e : Ev) (v : Bool) (hs : tmStamp e = true → v = false) (hl : tmStamp e = false → WL Try.prog fi135.nt c135_20 (tmS l i (bxE 7 e ++ [(6700, 0, bl false)])) (tmQ v)) :
    WL Try.prog fi135.nt c135_6 (tmS l i (bxE 7 e ++ [(1400, 0, bl false)])) (Ex.blkL 0 (Ex.thenL (fun L' => WL Try.prog fi135.nt c135_20 L' (tmQ v)) (tmQ v))) := by
  by_cases p1 : 0 < e.End
  · have z : (e.End == 0) = false := beq_false_of_ne (by omega)
    by_cases p2 : e.Stamp < e.Begin
    · have hv := hs (by simp [tmStamp, p1, p2])
      refine WL.sreg (by simp [p1, p2]; rfl) (by simp; rfl) ?_
      refine WL.cond (t := true) (by simp) (fun _ => ?_) (by simp)
      refine WL.sreg (by simp; rfl) (by simp; rfl) (WL.ret ⟨rfl, ?_⟩)
      simp [fi135, hv]
    · by_cases p3 : e.End < e.Stamp
      · have hv := hs (by simp [tmStamp, p1, p2, p3])
        refine WL.sreg (by simp [p1, p2, p3]; rfl) (by simp; rfl) ?_
        refine WL.cond (t := true) (by simp) (fun _ => ?_) (by simp)
        refine WL.sreg (by simp; rfl) (by simp; rfl) (WL.ret ⟨rfl, ?_⟩)
        simp [fi135, hv]
      · refine WL.sreg (by simp [p1, p2, p3]; rfl) (by simp; rfl) ?_
        refine WL.cond (t := false) (by simp) (by simp) fun _ => ?_
        refine WL.sreg (by simp [z]; rfl) (by simp; rfl) ?_
        refine WL.cond (t := false) (by simp) (by simp) fun _ => WL.skip ?_
        exact hl (by first | (simp [tmStamp, p1, p2, p3]; done) | (simp [tmStamp, p1, p2, p3]; omega))
  · by_cases p0 : e.End = 0
    · have z0 : (e.End == 0) = true := by simp [p0]
      by_cases p2 : e.Stamp = 0
      · have z2 : (e.Stamp != 0) = false := by simp [p2]
        refine WL.sreg (by simp [p1]; rfl) (by simp; rfl) ?_
        refine WL.cond (t := false) (by simp) (by simp) fun _ => ?_
        refine WL.sreg (by simp [z0, z2]; rfl) (by simp; rfl) ?_
        refine WL.cond (t := false) (by simp) (by simp) fun _ => WL.skip ?_
        exact hl (by simp [tmStamp, p1, p0, p2])
      · have z2 : (e.Stamp != 0) = true := by simp [p2]
        by_cases p3 : e.Stamp < e.Begin
        · have hv := hs (by simp [tmStamp, p0, p2, p3])
          refine WL.sreg (by simp [p1]; rfl) (by simp; rfl) ?_
          refine WL.cond (t := false) (by simp) (by simp) fun _ => ?_
          refine WL.sreg (by simp [z0, z2, p3]; rfl) (by simp; rfl) ?_
          refine WL.cond (t := true) (by simp) (fun _ => ?_) (by simp)
          refine WL.sreg (by simp; rfl) (by simp; rfl) (WL.ret ⟨rfl, ?_⟩)
          simp [fi135, hv]
        · refine WL.sreg (by simp [p1]; rfl) (by simp; rfl) ?_
          refine WL.cond (t := false) (by simp) (by simp) fun _ => ?_
          refine WL.sreg (by simp [z0, z2, p3]; rfl) (by simp; rfl) ?_
          refine WL.cond (t := false) (by simp) (by simp) fun _ => WL.skip ?_
          exact hl (by simp [tmStamp, p1, p0, p2, p3])
    · have z : (e.End == 0) = false := beq_false_of_ne p0
      refine WL.sreg (by simp [p1]; rfl) (by simp; rfl) ?_
      refine WL.cond (t := false) (by simp) (by simp) fun _ => ?_
      refine WL.sreg (by simp [z]; rfl) (by simp; rfl) ?_
      refine WL.cond (t := false) (by simp) (by simp) fun _ => WL.skip ?_
      exact hl (by simp [tmStamp, p1, p0])
set_option maxHeartbeats 16000000 in
theorem times_fn (l : List Ev) (hn : l.length ≤ 1000) (i : Nat) (hi : i < l.length) (c : Int) : FnC Try.prog 135 [] [sEv l, i64 i, i64 c] [] (bl (timesF l i c)) := by
  rw [timesF_at hi]
  have f1 := fmE_drop (o := false) (r := false) hi
  have g1 : 14 ≤ l.length * 14 - i * 14 := by omega
  refine FnC.go ok135 rfl ?_
  refine WL.mono (Q' := tmQ (timesE l i c l[i])) ?_ fun x L h => ⟨.inr h.1, h.2⟩
  refine WL.sreg (by simp; rfl) (by simp; rfl) ?_
  refine WL.scope (WL.sreg (by simp [hi, f1, g1]; rfl) (by simp; rfl) ?_)
  have loop := times_loop l hn i hi l[i]
  generalize l[i] = e at loop ⊢
  clear f1 g1
  have rest : tmBad l i c e = false → WL Try.prog fi135.nt c135_6 (tmS l i (bxE 7 e ++ [(1400, 0, bl false)])) (Ex.blkL 0 (Ex.thenL (fun L' => WL Try.prog fi135.nt c135_20 L' (tmQ (timesE l i c e))) (tmQ (timesE l i c e)))) := fun hb =>
    times_rest l i e _ (fun h => by simp [timesE, h]) (fun h => by simpa [timesE, hb, h] using loop)
  refine WL.seq (WL.block (WL.seq ?_))
  by_cases q1 : e.Client < 0
  · refine WL.draw mixed (by simp [cleanL, noH]) (DL.run (by simp [q1]; exact ⟨rfl, rfl⟩) ⟨by kernel_rfl, _, by simp; rfl, ?_⟩)
    refine WL.cond (t := true) (by simp) (fun _ => ?_) (by simp)
    refine WL.sreg (by simp; rfl) (by simp; rfl) (WL.ret ⟨rfl, ?_⟩)
    simp [fi135, timesE, tmBad, tmPrev, q1]
  by_cases q2 : c ≤ e.Client
  · refine WL.draw mixed (by simp [cleanL, noH]) (DL.run (by simp [q1, q2]; exact ⟨rfl, rfl⟩) ⟨by kernel_rfl, _, by simp; rfl, ?_⟩)
    refine WL.cond (t := true) (by simp) (fun _ => ?_) (by simp)
    refine WL.sreg (by simp; rfl) (by simp; rfl) (WL.ret ⟨rfl, ?_⟩)
    simp [fi135, timesE, tmBad, tmPrev, q1, q2]
  by_cases q3 : e.Begin < 1
  · refine WL.draw mixed (by simp [cleanL, noH]) (DL.run (by simp [q1, q2, q3]; exact ⟨rfl, rfl⟩) ⟨by kernel_rfl, _, by simp; rfl, ?_⟩)
    refine WL.cond (t := true) (by simp) (fun _ => ?_) (by simp)
    refine WL.sreg (by simp; rfl) (by simp; rfl) (WL.ret ⟨rfl, ?_⟩)
    simp [fi135, timesE, tmBad, tmPrev, q1, q2, q3]
  by_cases q4 : 0 < i
  · obtain ⟨j, hj⟩ : ∃ j, j = i - 1 := ⟨_, rfl⟩
    have w : IntKind.wrap .i64 ((i : Int) - 1) = (j : Int) := by rw [wrap_small (by omega) (by omega)]; omega
    have hjl : j < l.length := by omega
    have f2 := fmE_drop (o := false) (r := false) hjl
    have g2 : 14 ≤ l.length * 14 - j * 14 := by omega
    have hgd : l.getD j e = l[j] := by simp [hjl]
    by_cases q5 : e.Begin < l[j].Begin
    · refine WL.draw mixed (by simp [cleanL, noH]) (DL.run (by simp [q1, q2, q3, q4, q5, w, hjl, f2, g2, ← hj, hgd]; exact ⟨rfl, rfl⟩) ⟨by kernel_rfl, _, by simp; rfl, ?_⟩)
      refine WL.cond (t := true) (by simp) (fun _ => ?_) (by simp)
      refine WL.sreg (by simp; rfl) (by simp; rfl) (WL.ret ⟨rfl, ?_⟩)
      simp [fi135, timesE, tmBad, tmPrev, q1, q2, q3, q4, q5, w, hjl, f2, g2, ← hj, hgd]
    · by_cases q6 : e.End < 0
      · refine WL.draw mixed (by simp [cleanL, noH]) (DL.run (by simp [q1, q2, q3, q4, q5, q6, w, hjl, f2, g2, ← hj, hgd]; exact ⟨rfl, rfl⟩) ⟨by kernel_rfl, _, by simp; rfl, ?_⟩)
        refine WL.cond (t := true) (by simp) (fun _ => ?_) (by simp)
        refine WL.sreg (by simp; rfl) (by simp; rfl) (WL.ret ⟨rfl, ?_⟩)
        simp [fi135, timesE, tmBad, tmPrev, q1, q2, q3, q4, q5, q6, w, hjl, f2, g2, ← hj, hgd]
      · refine WL.draw mixed (by simp [cleanL, noH]) (DL.run (by simp [q1, q2, q3, q4, q5, q6, w, hjl, f2, g2, ← hj, hgd]; exact ⟨rfl, rfl⟩) ⟨by kernel_rfl, _, by simp; rfl, ?_⟩)
        refine WL.cond (t := false) (by simp) (by simp) fun _ => ?_
        exact rest (by simp [tmBad, tmPrev, q1, q2, q3, q4, q5, q6, w, hjl, f2, g2, ← hj, hgd])
  · obtain rfl : i = 0 := by omega
    by_cases q6 : e.End < 0
    · refine WL.draw mixed (by simp [cleanL, noH]) (DL.run (by simp [q1, q2, q3, q6]; exact ⟨rfl, rfl⟩) ⟨by kernel_rfl, _, by simp; rfl, ?_⟩)
      refine WL.cond (t := true) (by simp) (fun _ => ?_) (by simp)
      refine WL.sreg (by simp; rfl) (by simp; rfl) (WL.ret ⟨rfl, ?_⟩)
      simp [fi135, timesE, tmBad, tmPrev, q1, q2, q3, q6]
    · refine WL.draw mixed (by simp [cleanL, noH]) (DL.run (by simp [q1, q2, q3, q6]; exact ⟨rfl, rfl⟩) ⟨by kernel_rfl, _, by simp; rfl, ?_⟩)
      refine WL.cond (t := false) (by simp) (by simp) fun _ => ?_
      exact rest (by simp [tmBad, tmPrev, q1, q2, q3, q6])
end Go.OT
set_option linter.unusedSimpArgs false
set_option linter.unusedVariables false
namespace Go.OT
open Go.Proofs
inductive Sh | nil | one | two
@[simp] def Sh.fv : Sh → Nat → List AU → AU
  | .nil, _, _ => .sc .nilFunc
  | _, f, cps => .clos f cps
@[simp] def Sh.gh : Sh → List AU → List AU → SL
  | .nil, _, _ => []
  | .one, b, _ => [(1000000, 0, .bx true () b)]
  | .two, b, d => [(1000000, 0, .bx true () b), (1000100, 0, .bx true () d)]
@[simp] def Sh.gs : Sh → List AU → List AU → List (Gh Unit)
  | .nil, _, _ => []
  | .one, b, _ => [.nod (.bx true () b)]
  | .two, b, d => [.nod (.bx true () b), .nod (.bx true () d)]
@[simp] def Sh.ks : Sh → List (Nat × List Nat)
  | .nil => []
  | .one => [(1000000, [])]
  | .two => [(1000000, []), (1000100, [])]
theorem May_new (p c : Int) : May (newSt p c) = !newBad p c := by
  cases h : newBad p c with
  | false => exact (May_iff _).2 (newSt_ok' h)
  | true => unfold newSt; rw [h]; rfl
theorem times_end {l : List Ev} {u : Nat} {c : Int} (hu : u < l.length) (h : timesF l u c = true) : 0 ≤ l[u].End := by
  rw [timesF_at hu] at h
  simp only [timesE, tmBad, Bool.and_eq_true, Bool.not_eq_true', Bool.or_eq_false_iff, decide_eq_false_iff_not] at h
  omega
structure SeeOk {σ : Type} (l : List Ev) (sh : Sh) (f : Nat) (cps : List AU) (B D : σ → List AU) (see : σ → Int → St → σ) (Inv : σ → St → Prop) : Prop where
  no : noOwnL cps = true
  root : rootRL (sh.ks.map (·.1)) cps = true
  roots : rootsL cps = sh.ks.map (·.1)
  len : cps.length ≤ 1000
  tr : ∀ (X : XF Unit) (k : Nat), (∀ e ∈ sh.ks, (X e.1).1 = 0 ∧ ∃ b, (X e.1).2 = .bx true () b) → trL X sh.ks false k cps = some cps
  inv : ∀ a s (u : Nat) (hu : u < l.length), OkSt s → Inv a s → (stepR s l[u]).1 = true → Inv (see a u (stepR s l[u]).2) (stepR s l[u]).2
  fn : sh ≠ .nil → ∀ a s (u : Nat) (hu : u < l.length), OkSt s → Inv a s → (stepR s l[u]).1 = true →
    FnC Try.prog f (sh.gs (B a) (D a)) ([i64 u, encS false (stepR s l[u]).2] ++ cps) (sh.gs (B (see a u (stepR s l[u]).2)) (D (see a u (stepR s l[u]).2))) (.tuple [])
abbrev rcF (b : Nat) (s : St) : SL := [(100 * b, 0, .bptr b 1 0), (100 * b + 1, 0, sB false s.There), (100 * b + 2, 0, sUU false s.Body), (100 * b + 3, 0, sII false s.Handles), (100 * b + 99, 1, .non)]
abbrev wkS (l : List Ev) (c : Int) (fv : AU) (s : St) (r : SL) : SL := [(0, 0, sEv l), (200, 0, i64 c), (300, 0, fv)] ++ (rcF 9 s ++ r)
abbrev wkT (l : List Ev) (fv : AU) (s : St) (j : Nat) (r : SL) : SL := [(0, 0, sEv l), (300, 0, fv)] ++ (rcF 9 s ++ ([(3600, 0, sI true (ordF l)), (3700, 0, i64 (ordF l).length), (3800, 0, i64 j)] ++ r))
abbrev wkQ (gs : List (Gh Unit)) (v : Int) : Ex → SL → Prop := fun e L => e = Ex.ret ∧ RetOk fi88.rs gs (i64 v) L
section
variable {σ : Type} {l : List Ev} {sh : Sh} {f : Nat} {cps : List AU} {B D : σ → List AU} {see : σ → Int → St → σ} {Inv : σ → St → Prop}
theorem walk_see (hS : SeeOk l sh f cps B D see Inv) (s : St) (h : OkSt s) (a : σ) (hi : Inv a s) (u : Nat) (hu : u < l.length) (hr : (stepR s l[u]).1 = true) (j : Nat) (K : SL → Prop)
    (hK : K (wkT l (sh.fv f cps) (stepR s l[u]).2 j (sh.gh (B (see a u (stepR s l[u]).2)) (D (see a u (stepR s l[u]).2))))) :
    WL Try.prog fi88.nt c88_17 ([(0, 0, sEv l), (300, 0, sh.fv f cps)] ++ (rcF 9 (stepR s l[u]).2 ++ ([(1200, 0, i64 u), (3600, 0, sI true (ordF l)), (3700, 0, i64 (ordF l).length), (3800, 0, i64 j)] ++ sh.gh (B a) (D a)))) (fun e L => (e = .nrm ∨ e = .ext 3) ∧ K L) := by
  have e1 := hS.no
  have e2 := hS.root
  have e3 := hS.tr
  have e4 := hS.len
  have e5 := hS.roots
  have hf := fun h' => hS.fn h' a s u hu h hi hr
  generalize (stepR s l[u]).2 = t at *
  cases sh with
  | nil =>
    refine WL.seq (WL.sreg (by simp; rfl) (by simp; rfl) ?_)
    refine WL.cond (t := true) (by simp) (fun _ => ?_) (by simp)
    refine WL.fin [12, 87] (by simp; rfl) (WL.exit ⟨.inr rfl, ?_⟩)
    simpa using hK
  | one =>
    have hf := hf (by simp)
    simp at e2 e3 e5 hf
    refine WL.seq (WL.sreg (by simp [e1]; rfl) (by simp [e5]; rfl) ?_)
    refine WL.cond (t := false) (by simp) (by simp) fun _ => WL.skip ?_
    refine WL.reg (RL.o (by simp [e1]; rfl) (RL.cloK (f := f) (cps := cps) false [(1000000, [])] (by simp) hf (by simp) (by simp) ?_ (by simp; omega) ?_ ?_ (RL.nil ⟨_, by simp [e5]; rfl, ?_⟩)))
    · simp [e1]
      rw [e3 _ _ (by simp) _ (by simp; rfl)]
      simp
    · simp
    · simp [e2]
    · simpa using hK
  | two =>
    have hf := hf (by simp)
    simp at e2 e3 e5 hf
    refine WL.seq (WL.sreg (by simp [e1]; rfl) (by simp [e5]; rfl) ?_)
    refine WL.cond (t := false) (by simp) (by simp) fun _ => WL.skip ?_
    refine WL.reg (RL.o (by simp [e1]; rfl) (RL.cloK (f := f) (cps := cps) false [(1000000, []), (1000100, [])] (by simp) hf (by simp) (by simp) ?_ (by simp; omega) ?_ ?_ (RL.nil ⟨_, by simp [e5]; rfl, ?_⟩)))
    · simp [e1]
      rw [e3 _ _ (by simp) _ (by simp; rfl) (by simp) _ (by simp; rfl)]
      simp
    · simp
    · simp [e2]
    · simpa using hK
theorem stepW_some {s t : St} {e : Ev} (h0 : 0 ≤ e.End) (h : stepW s e = some t) : (stepR s e).1 = true ∧ (stepR s e).2 = t := by
  rw [stepW_eq s e h0] at h
  split at h
  · rename_i h1; exact ⟨h1, by simpa using h⟩
  · cases h
theorem stepW_none {s : St} {e : Ev} (h0 : 0 ≤ e.End) (h : stepW s e = none) : (stepR s e).1 = false := by
  rw [stepW_eq s e h0] at h
  split at h
  · cases h
  · rename_i h1; simpa using h1
set_option maxHeartbeats 16000000 in
theorem walk_stepsN (hE : EvOk l) (hS : SeeOk l Sh.nil f cps B D see Inv) (s0 : St) (h0 : OkSt s0) (a0 : σ) (i0 : Inv a0 s0) (c : Int) (hT : ∀ j, j < l.length → timesF l j c = true) (n : Nat) :
    WL Try.prog fi88.nt c88_27 (wkS l c (Sh.nil.fv f cps) s0 ([(2300, 0, i64 n), (2400, 0, i64 n), (2500, 0, bl false)] ++ Sh.nil.gh (B a0) (D a0))) (wkQ (Sh.nil.gs (B (goW l see s0 a0 (ordF l)).2.2) (D (goW l see s0 a0 (ordF l)).2.2)) (goW l see s0 a0 (ordF l)).1) := by
  have hn := hE.n
  have hOl := ordF_len l
  have hsee := fun s h a hi u hu hr j => walk_see hS s h a hi u hu hr j
  have hI := fun a s u hu h hi hr => hS.inv a s u hu h hi hr
  refine WL.seq (WL.sregC (RL.o (by simp; rfl) (RL.call0 false (order_fn l hn) (by simp) (by simp) (RL.o (by simp; rfl) (RL.nil ⟨_, by simp; rfl, ?_⟩)))))
  refine WL.block (WL.loop (ι := {x : Nat × St × σ // x.1 ≤ (ordF l).length ∧ OkSt x.2.1 ∧ Inv x.2.2 x.2.1 ∧ goW l see x.2.1 x.2.2 ((ordF l).drop x.1) = goW l see s0 a0 (ordF l)}) (fun x => wkT l (Sh.nil.fv f cps) x.1.2.1 x.1.1 (Sh.nil.gh (B x.1.2.2) (D x.1.2.2))) (fun x => (ordF l).length - x.1.1) ⟨(0, s0, a0), Nat.zero_le _, h0, i0, rfl⟩ (by simp) fun x => ?_)
  obtain ⟨⟨j, s, a⟩, hj, hs, hia, hg⟩ := x
  simp only at hj hs hg hia ⊢
  by_cases hlt : j < (ordF l).length
  · obtain ⟨u, hu, eu⟩ := ordF_at hlt
    have f1 := fmE_drop (o := false) (r := false) hu
    have g1 : 14 ≤ l.length * 14 - u * 14 := by omega
    have hlt' : j + 1 ≤ (ordF l).length := hlt
    have w : IntKind.wrap .i64 ((j : Int) + 1) = ((j + 1 : Nat) : Int) := by rw [wrap_small (by omega) (by omega)]; omega
    have w2 : IntKind.wrap .i64 ((u : Int) + 1) = (u : Int) + 1 := by rw [wrap_small (by omega) (by omega)]
    have hE0 := times_end hu (hT u hu)
    have hse := hsee s hs a hia u hu
    have hI' := hI a s u hu hs hia
    rw [List.drop_eq_getElem_cons hlt] at hg
    simp only [goW, eu, atE_at hu] at hg
    have hok := stepR_ok hs l[u]
    have tail : ∀ t, stepW s l[u] = some t → ∀ Q, (∀ e, (e = .nrm ∨ e = .ext 3) → Q e (wkT l (Sh.nil.fv f cps) t j (Sh.nil.gh (B (see a u t)) (D (see a u t))))) → WL Try.prog fi88.nt c88_17 ([(0, 0, sEv l), (300, 0, Sh.nil.fv f cps)] ++ (rcF 9 t ++ ([(1200, 0, i64 u), (3600, 0, sI true (ordF l)), (3700, 0, i64 (ordF l).length), (3800, 0, i64 j)] ++ Sh.nil.gh (B a) (D a)))) Q := by
      intro t ht Q hQ
      obtain ⟨q1, q2⟩ := stepW_some hE0 ht
      have := hse q1 j (fun L => L = wkT l (Sh.nil.fv f cps) t j (Sh.nil.gh (B (see a u t)) (D (see a u t)))) (by rw [q2])
      rw [q2] at this
      refine WL.mono this ?_
      rintro e L ⟨he, rfl⟩
      exact hQ e he
    refine WL.sreg (by simp [hlt]; rfl) (by simp; rfl) ?_
    refine WL.seq (WL.cond (t := true) (by simp [hlt]) (fun _ => WL.skip ?_) (by simp))
    refine WL.seq (WL.block (WL.sreg (by simp [hlt, hlt', eu]; rfl) (by simp; rfl) ?_))
    refine WL.sreg (by simp [hlt, hlt', eu, hu, f1, g1]; rfl) (by simp; rfl) ?_
    refine WL.sregC (RL.o (by simp; rfl) (RL.doC s hs.sized l[u].Client l[u].op (by simp) (RL.o (by simp; rfl) (RL.nil ⟨_, by simp; rfl, ?_⟩))))
    have adv : ∀ t, stepW s l[u] = some t → ∀ Q, (∀ L, (∃ y : {x : Nat × St × σ // x.1 ≤ (ordF l).length ∧ OkSt x.2.1 ∧ Inv x.2.2 x.2.1 ∧ goW l see x.2.1 x.2.2 ((ordF l).drop x.1) = goW l see s0 a0 (ordF l)}, L = wkT l (Sh.nil.fv f cps) y.1.2.1 y.1.1 (Sh.nil.gh (B y.1.2.2) (D y.1.2.2)) ∧ (ordF l).length - y.1.1 < (ordF l).length - j) → Q Ex.nrm L) → WL Try.prog fi88.nt c88_21 (wkT l (Sh.nil.fv f cps) t j (Sh.nil.gh (B (see a u t)) (D (see a u t)))) Q := by
      intro t ht Q hQ
      obtain ⟨q1, q2⟩ := stepW_some hE0 ht
      have hI2 := hI' q1
      rw [q1] at hg
      simp only [if_true] at hg
      rw [q2] at hg hI2 hok
      refine WL.reg (RL.run (by simp [w]; rfl) ⟨_, by simp; rfl, hQ _ ?_⟩)
      exact ⟨⟨(j + 1, t, see a u t), hlt, hok, hI2, hg⟩, by simp, by simp only; omega⟩
    refine WL.seq ?_
    by_cases p : l[u].End = 0
    · have z : (l[u].End == 0) = true := by simp [p]
      have ht : stepW s l[u] = some (DoB s l[u].Client l[u].op).2.1 := by simp [stepW, p]
      refine WL.block (WL.sregC (RL.o (by simp [z]; rfl) (RL.g (by simp; rfl) (RL.callN (by simp) (RL.o (by simp; rfl) (RL.nil ⟨_, by simp; rfl, ?_⟩))))))
      refine WL.cond (t := true) (by simp) (fun _ => ?_) (by simp)
      refine WL.reg (RL.run (by simp; rfl) ⟨_, by simp; rfl, ?_⟩)
      refine tail _ ht _ ?_
      intro e he
      rcases he with rfl | rfl
      · exact adv _ ht _ fun L h => h
      · exact adv _ ht _ fun L h => h
    · have z : (l[u].End == 0) = false := beq_false_of_ne p
      have hsr := sameres_fn (DoB s l[u].Client l[u].op).2.2 l[u].res
      cases hv : SameRes (DoB s l[u].Client l[u].op).2.2 l[u].res with
      | true =>
        rw [hv] at hsr
        have ht : stepW s l[u] = some (DoB s l[u].Client l[u].op).2.1 := by simp [stepW, hv]
        refine WL.block (WL.sregC (RL.o (by simp [z]; rfl) (RL.g (by simp; rfl) (RL.callY0 false (by simp) hsr (by simp) (by simp) (RL.o (by simp; rfl) (RL.nil ⟨_, by simp; rfl, ?_⟩))))))
        refine WL.cond (t := true) (by simp) (fun _ => ?_) (by simp)
        refine WL.reg (RL.run (by simp; rfl) ⟨_, by simp; rfl, ?_⟩)
        refine tail _ ht _ ?_
        intro e he
        rcases he with rfl | rfl
        · exact adv _ ht _ fun L h => h
        · exact adv _ ht _ fun L h => h
      | false =>
        rw [hv] at hsr
        refine WL.block (WL.sregC (RL.o (by simp [z]; rfl) (RL.g (by simp; rfl) (RL.callY0 false (by simp) hsr (by simp) (by simp) (RL.o (by simp; rfl) (RL.nil ⟨_, by simp; rfl, ?_⟩))))))
        refine WL.cond (t := false) (by simp) (by simp) fun _ => ?_
        have hb := bad_fn l[u].op l[u].res.Code
        have hp := sameres_fn l[u].res (rsE l[u].res.Code)
        cases hbad : badF l[u].op.Kind l[u].res.Code with
        | false =>
          rw [hbad] at hb
          have ht : stepW s l[u] = none := by simp [stepW, p, hv, hbad]
          have hr := stepW_none hE0 ht
          rw [hr] at hg
          simp only [Bool.false_eq_true, if_false] at hg
          refine WL.sregC (RL.o (by simp; rfl) (RL.call0 false hb (by simp) (by simp) (RL.o (by simp; rfl) (RL.g (by simp; rfl) (RL.callN (by simp) (RL.g (by simp; rfl) (RL.o (by simp; rfl) (RL.nil ⟨_, by simp; rfl, ?_⟩))))))))
          refine WL.cond (t := true) (by simp) (fun _ => ?_) (by simp)
          refine WL.sreg (by simp [w2]; rfl) (by simp; rfl) (WL.ret ⟨rfl, ?_⟩)
          simp [fi88, ← hg]
        | true =>
          rw [hbad] at hb
          cases hpl : SameRes l[u].res (rsE l[u].res.Code) with
          | false =>
            rw [hpl] at hp
            have ht : stepW s l[u] = none := by simp [stepW, p, hv, hbad, hpl]
            have hr := stepW_none hE0 ht
            rw [hr] at hg
            simp only [Bool.false_eq_true, if_false] at hg
            refine WL.sregC (RL.o (by simp; rfl) (RL.call0 false hb (by simp) (by simp) (RL.o (by simp; rfl) (RL.g (by simp; rfl) (RL.nilA 80 3 1 (by simp; rfl) rfl rfl (RL.callY0 false (by simp) hp (by simp [rsE]) (by simp) (RL.g (by simp; rfl) (RL.o (by simp; rfl) (RL.nil ⟨_, by simp; rfl, ?_⟩)))))))))
            refine WL.cond (t := true) (by simp) (fun _ => ?_) (by simp)
            refine WL.sreg (by simp [w2]; rfl) (by simp; rfl) (WL.ret ⟨rfl, ?_⟩)
            simp [fi88, ← hg]
          | true =>
            rw [hpl] at hp
            have ht : stepW s l[u] = some s := by simp [stepW, p, hv, hbad, hpl]
            refine WL.sregC (RL.o (by simp; rfl) (RL.call0 false hb (by simp) (by simp) (RL.o (by simp; rfl) (RL.g (by simp; rfl) (RL.nilA 80 3 1 (by simp; rfl) rfl rfl (RL.callY0 false (by simp) hp (by simp [rsE]) (by simp) (RL.g (by simp; rfl) (RL.o (by simp; rfl) (RL.nil ⟨_, by simp; rfl, ?_⟩)))))))))
            refine WL.cond (t := false) (by simp) (by simp) fun _ => WL.skip ?_
            refine WL.fin [66] (by simp) (tail _ ht _ ?_)
            intro e he
            rcases he with rfl | rfl
            · exact adv _ ht _ fun L h => h
            · exact adv _ ht _ fun L h => h
  · obtain rfl : j = (ordF l).length := by omega
    rw [List.drop_length] at hg
    simp only [goW] at hg
    refine WL.sreg (by simp; rfl) (by simp; rfl) ?_
    refine WL.seq (WL.cond (t := false) (by simp) (by simp) fun _ => WL.exit ?_)
    refine WL.sreg (by simp; rfl) (by simp; rfl) (WL.ret ⟨rfl, ?_⟩)
    simp [fi88, ← hg]
set_option maxHeartbeats 16000000 in
theorem walk_stepsO (hE : EvOk l) (hS : SeeOk l Sh.one f cps B D see Inv) (s0 : St) (h0 : OkSt s0) (a0 : σ) (i0 : Inv a0 s0) (c : Int) (hT : ∀ j, j < l.length → timesF l j c = true) (n : Nat) :
    WL Try.prog fi88.nt c88_27 (wkS l c (Sh.one.fv f cps) s0 ([(2300, 0, i64 n), (2400, 0, i64 n), (2500, 0, bl false)] ++ Sh.one.gh (B a0) (D a0))) (wkQ (Sh.one.gs (B (goW l see s0 a0 (ordF l)).2.2) (D (goW l see s0 a0 (ordF l)).2.2)) (goW l see s0 a0 (ordF l)).1) := by
  have hn := hE.n
  have hOl := ordF_len l
  have e1 := hS.no
  have e5 := hS.roots
  simp at e5
  have hsee := fun s h a hi u hu hr j => walk_see hS s h a hi u hu hr j
  have hI := fun a s u hu h hi hr => hS.inv a s u hu h hi hr
  refine WL.seq (WL.sregC (RL.o (by simp; rfl) (RL.call0 false (order_fn l hn) (by simp) (by simp) (RL.o (by simp; rfl) (RL.nil ⟨_, by simp [e5]; rfl, ?_⟩)))))
  refine WL.block (WL.loop (ι := {x : Nat × St × σ // x.1 ≤ (ordF l).length ∧ OkSt x.2.1 ∧ Inv x.2.2 x.2.1 ∧ goW l see x.2.1 x.2.2 ((ordF l).drop x.1) = goW l see s0 a0 (ordF l)}) (fun x => wkT l (Sh.one.fv f cps) x.1.2.1 x.1.1 (Sh.one.gh (B x.1.2.2) (D x.1.2.2))) (fun x => (ordF l).length - x.1.1) ⟨(0, s0, a0), Nat.zero_le _, h0, i0, rfl⟩ (by simp) fun x => ?_)
  obtain ⟨⟨j, s, a⟩, hj, hs, hia, hg⟩ := x
  simp only at hj hs hg hia ⊢
  by_cases hlt : j < (ordF l).length
  · obtain ⟨u, hu, eu⟩ := ordF_at hlt
    have f1 := fmE_drop (o := false) (r := false) hu
    have g1 : 14 ≤ l.length * 14 - u * 14 := by omega
    have hlt' : j + 1 ≤ (ordF l).length := hlt
    have w : IntKind.wrap .i64 ((j : Int) + 1) = ((j + 1 : Nat) : Int) := by rw [wrap_small (by omega) (by omega)]; omega
    have w2 : IntKind.wrap .i64 ((u : Int) + 1) = (u : Int) + 1 := by rw [wrap_small (by omega) (by omega)]
    have hE0 := times_end hu (hT u hu)
    have hse := hsee s hs a hia u hu
    have hI' := hI a s u hu hs hia
    rw [List.drop_eq_getElem_cons hlt] at hg
    simp only [goW, eu, atE_at hu] at hg
    have hok := stepR_ok hs l[u]
    have tail : ∀ t, stepW s l[u] = some t → ∀ Q, (∀ e, (e = .nrm ∨ e = .ext 3) → Q e (wkT l (Sh.one.fv f cps) t j (Sh.one.gh (B (see a u t)) (D (see a u t))))) → WL Try.prog fi88.nt c88_17 ([(0, 0, sEv l), (300, 0, Sh.one.fv f cps)] ++ (rcF 9 t ++ ([(1200, 0, i64 u), (3600, 0, sI true (ordF l)), (3700, 0, i64 (ordF l).length), (3800, 0, i64 j)] ++ Sh.one.gh (B a) (D a)))) Q := by
      intro t ht Q hQ
      obtain ⟨q1, q2⟩ := stepW_some hE0 ht
      have := hse q1 j (fun L => L = wkT l (Sh.one.fv f cps) t j (Sh.one.gh (B (see a u t)) (D (see a u t)))) (by rw [q2])
      rw [q2] at this
      refine WL.mono this ?_
      rintro e L ⟨he, rfl⟩
      exact hQ e he
    refine WL.sreg (by simp [hlt]; rfl) (by simp [e5]; rfl) ?_
    refine WL.seq (WL.cond (t := true) (by simp [hlt]) (fun _ => WL.skip ?_) (by simp))
    refine WL.seq (WL.block (WL.sreg (by simp [hlt, hlt', eu]; rfl) (by simp [e5]; rfl) ?_))
    refine WL.sreg (by simp [hlt, hlt', eu, hu, f1, g1]; rfl) (by simp [e5]; rfl) ?_
    refine WL.sregC (RL.o (by simp; rfl) (RL.doC s hs.sized l[u].Client l[u].op (by simp) (RL.o (by simp; rfl) (RL.nil ⟨_, by simp [e5]; rfl, ?_⟩))))
    have adv : ∀ t, stepW s l[u] = some t → ∀ Q, (∀ L, (∃ y : {x : Nat × St × σ // x.1 ≤ (ordF l).length ∧ OkSt x.2.1 ∧ Inv x.2.2 x.2.1 ∧ goW l see x.2.1 x.2.2 ((ordF l).drop x.1) = goW l see s0 a0 (ordF l)}, L = wkT l (Sh.one.fv f cps) y.1.2.1 y.1.1 (Sh.one.gh (B y.1.2.2) (D y.1.2.2)) ∧ (ordF l).length - y.1.1 < (ordF l).length - j) → Q Ex.nrm L) → WL Try.prog fi88.nt c88_21 (wkT l (Sh.one.fv f cps) t j (Sh.one.gh (B (see a u t)) (D (see a u t)))) Q := by
      intro t ht Q hQ
      obtain ⟨q1, q2⟩ := stepW_some hE0 ht
      have hI2 := hI' q1
      rw [q1] at hg
      simp only [if_true] at hg
      rw [q2] at hg hI2 hok
      refine WL.reg (RL.run (by simp [w]; rfl) ⟨_, by simp [e5]; rfl, hQ _ ?_⟩)
      exact ⟨⟨(j + 1, t, see a u t), hlt, hok, hI2, hg⟩, by simp, by simp only; omega⟩
    refine WL.seq ?_
    by_cases p : l[u].End = 0
    · have z : (l[u].End == 0) = true := by simp [p]
      have ht : stepW s l[u] = some (DoB s l[u].Client l[u].op).2.1 := by simp [stepW, p]
      refine WL.block (WL.sregC (RL.o (by simp [z]; rfl) (RL.g (by simp; rfl) (RL.callN (by simp) (RL.o (by simp; rfl) (RL.nil ⟨_, by simp [e5]; rfl, ?_⟩))))))
      refine WL.cond (t := true) (by simp) (fun _ => ?_) (by simp)
      refine WL.reg (RL.run (by simp; rfl) ⟨_, by simp [e5]; rfl, ?_⟩)
      refine tail _ ht _ ?_
      intro e he
      rcases he with rfl | rfl
      · exact adv _ ht _ fun L h => h
      · exact adv _ ht _ fun L h => h
    · have z : (l[u].End == 0) = false := beq_false_of_ne p
      have hsr := sameres_fn (DoB s l[u].Client l[u].op).2.2 l[u].res
      cases hv : SameRes (DoB s l[u].Client l[u].op).2.2 l[u].res with
      | true =>
        rw [hv] at hsr
        have ht : stepW s l[u] = some (DoB s l[u].Client l[u].op).2.1 := by simp [stepW, hv]
        refine WL.block (WL.sregC (RL.o (by simp [z]; rfl) (RL.g (by simp; rfl) (RL.callY0 false (by simp) hsr (by simp) (by simp) (RL.o (by simp; rfl) (RL.nil ⟨_, by simp [e5]; rfl, ?_⟩))))))
        refine WL.cond (t := true) (by simp) (fun _ => ?_) (by simp)
        refine WL.reg (RL.run (by simp; rfl) ⟨_, by simp [e5]; rfl, ?_⟩)
        refine tail _ ht _ ?_
        intro e he
        rcases he with rfl | rfl
        · exact adv _ ht _ fun L h => h
        · exact adv _ ht _ fun L h => h
      | false =>
        rw [hv] at hsr
        refine WL.block (WL.sregC (RL.o (by simp [z]; rfl) (RL.g (by simp; rfl) (RL.callY0 false (by simp) hsr (by simp) (by simp) (RL.o (by simp; rfl) (RL.nil ⟨_, by simp [e5]; rfl, ?_⟩))))))
        refine WL.cond (t := false) (by simp) (by simp) fun _ => ?_
        have hb := bad_fn l[u].op l[u].res.Code
        have hp := sameres_fn l[u].res (rsE l[u].res.Code)
        cases hbad : badF l[u].op.Kind l[u].res.Code with
        | false =>
          rw [hbad] at hb
          have ht : stepW s l[u] = none := by simp [stepW, p, hv, hbad]
          have hr := stepW_none hE0 ht
          rw [hr] at hg
          simp only [Bool.false_eq_true, if_false] at hg
          refine WL.sregC (RL.o (by simp; rfl) (RL.call0 false hb (by simp) (by simp) (RL.o (by simp; rfl) (RL.g (by simp; rfl) (RL.callN (by simp) (RL.g (by simp; rfl) (RL.o (by simp; rfl) (RL.nil ⟨_, by simp [e5]; rfl, ?_⟩))))))))
          refine WL.cond (t := true) (by simp) (fun _ => ?_) (by simp)
          refine WL.sreg (by simp [w2]; rfl) (by simp [e5]; rfl) (WL.ret ⟨rfl, ?_⟩)
          simp [fi88, ← hg]
        | true =>
          rw [hbad] at hb
          cases hpl : SameRes l[u].res (rsE l[u].res.Code) with
          | false =>
            rw [hpl] at hp
            have ht : stepW s l[u] = none := by simp [stepW, p, hv, hbad, hpl]
            have hr := stepW_none hE0 ht
            rw [hr] at hg
            simp only [Bool.false_eq_true, if_false] at hg
            refine WL.sregC (RL.o (by simp; rfl) (RL.call0 false hb (by simp) (by simp) (RL.o (by simp; rfl) (RL.g (by simp; rfl) (RL.nilA 80 3 1 (by simp; rfl) rfl rfl (RL.callY0 false (by simp) hp (by simp [rsE]) (by simp) (RL.g (by simp; rfl) (RL.o (by simp; rfl) (RL.nil ⟨_, by simp [e5]; rfl, ?_⟩)))))))))
            refine WL.cond (t := true) (by simp) (fun _ => ?_) (by simp)
            refine WL.sreg (by simp [w2]; rfl) (by simp [e5]; rfl) (WL.ret ⟨rfl, ?_⟩)
            simp [fi88, ← hg]
          | true =>
            rw [hpl] at hp
            have ht : stepW s l[u] = some s := by simp [stepW, p, hv, hbad, hpl]
            refine WL.sregC (RL.o (by simp; rfl) (RL.call0 false hb (by simp) (by simp) (RL.o (by simp; rfl) (RL.g (by simp; rfl) (RL.nilA 80 3 1 (by simp; rfl) rfl rfl (RL.callY0 false (by simp) hp (by simp [rsE]) (by simp) (RL.g (by simp; rfl) (RL.o (by simp; rfl) (RL.nil ⟨_, by simp [e5]; rfl, ?_⟩)))))))))
            refine WL.cond (t := false) (by simp) (by simp) fun _ => WL.skip ?_
            refine WL.fin [66] (by simp [e5]) (tail _ ht _ ?_)
            intro e he
            rcases he with rfl | rfl
            · exact adv _ ht _ fun L h => h
            · exact adv _ ht _ fun L h => h
  · obtain rfl : j = (ordF l).length := by omega
    rw [List.drop_length] at hg
    simp only [goW] at hg
    refine WL.sreg (by simp; rfl) (by simp [e5]; rfl) ?_
    refine WL.seq (WL.cond (t := false) (by simp) (by simp) fun _ => WL.exit ?_)
    refine WL.sreg (by simp; rfl) (by simp [e5]; rfl) (WL.ret ⟨rfl, ?_⟩)
    simp [fi88, ← hg]
set_option maxHeartbeats 16000000 in
theorem walk_fnN (hE : EvOk l) (hS : SeeOk l Sh.nil f cps B D see Inv) (p c : Int) (a : σ) (hI : newBad p c = false → Inv a (newSt p c)) :
    FnC Try.prog 88 (Sh.nil.gs (B a) (D a)) [sEv l, i64 p, i64 c, Sh.nil.fv f cps] (Sh.nil.gs (B (walkF see a l p c).2.2) (D (walkF see a l p c).2.2)) (i64 (walkF see a l p c).1) := by
  have hn := hE.n
  have hms := may_fn (newSt p c) (newSt_sized p c)
  rw [May_new] at hms
  refine FnC.go ok88 rfl ?_
  refine WL.mono (Q' := wkQ (Sh.nil.gs (B (walkF see a l p c).2.2) (D (walkF see a l p c).2.2)) (walkF see a l p c).1) ?_ fun x L h => ⟨.inr h.1, h.2⟩
  refine WL.sreg (by simp; rfl) (by simp; rfl) ?_
  refine WL.scope ?_
  refine WL.sregC (RL.o (by simp; rfl) (RL.newC p c (by simp) (RL.o (by simp; rfl) (RL.nil ⟨_, by simp; rfl, ?_⟩))))
  cases hb : newBad p c with
  | true =>
    rw [hb] at hms
    refine WL.seq (WL.sregC (RL.o (by simp; rfl) (RL.call0 false hms (by simp) (by simp) (RL.o (by simp; rfl) (RL.nil ⟨_, by simp; rfl, ?_⟩)))))
    refine WL.cond (t := true) (by simp) (fun _ => ?_) (by simp)
    refine WL.sreg (by simp; rfl) (by simp; rfl) (WL.ret ⟨rfl, ?_⟩)
    simp [fi88, walkF, hb]
  | false =>
    rw [hb] at hms
    have hok := newSt_ok' hb
    have i0 := hI hb
    refine WL.seq (WL.sregC (RL.o (by simp; rfl) (RL.call0 false hms (by simp) (by simp) (RL.o (by simp; rfl) (RL.nil ⟨_, by simp; rfl, ?_⟩)))))
    refine WL.cond (t := false) (by simp) (by simp) fun _ => WL.skip ?_
    refine WL.seq (WL.sreg (by simp; rfl) (by simp; rfl) ?_)
    unfold walkF
    rw [hb]
    simp only [Bool.false_eq_true, if_false]
    generalize newSt p c = s0 at hok i0 ⊢
    refine WL.block (WL.count l.length (fun i => wkS l c (Sh.nil.fv f cps) s0 ([(2300, 0, i64 l.length), (2400, 0, i64 i)] ++ Sh.nil.gh (B a) (D a))) (fun i => ∀ j, j < i → timesF l j c = true) rfl (fun j h => absurd h (Nat.not_lt_zero _)) fun i hi hp => ?_)
    by_cases hlt : i < l.length
    · have w : IntKind.wrap .i64 ((i : Int) + 1) = ((i + 1 : Nat) : Int) := by rw [wrap_small (by omega) (by omega)]; omega
      have ha := times_fn l hn i hlt c
      refine WL.sreg (by simp [hlt]; rfl) (by simp; rfl) ?_
      refine WL.seq (WL.cond (t := true) (by simp [hlt]) (fun _ => WL.skip ?_) (by simp))
      refine WL.seq (WL.block (WL.sreg (by simp [hlt]; rfl) (by simp; rfl) ?_))
      cases ht : timesF l i c with
      | true =>
        rw [ht] at ha
        refine WL.sregC (RL.o (by simp; rfl) (RL.call0 false ha (by simp) (by simp) (RL.o (by simp; rfl) (RL.nil ⟨_, by simp; rfl, ?_⟩))))
        refine WL.cond (t := false) (by simp) (by simp) fun _ => WL.skip ?_
        refine WL.reg (RL.run (by simp [w]; rfl) ⟨_, by simp; rfl, hlt, ?_, fun j hj => ?_⟩)
        · simp
        · by_cases e : j = i
          · subst e; exact ht
          · exact hp j (by omega)
      | false =>
        rw [ht] at ha
        have hf := firstBad_some hlt hp ht
        refine WL.sregC (RL.o (by simp; rfl) (RL.call0 false ha (by simp) (by simp) (RL.o (by simp; rfl) (RL.nil ⟨_, by simp; rfl, ?_⟩))))
        refine WL.cond (t := true) (by simp) (fun _ => ?_) (by simp)
        refine WL.sreg (by simp [w]; rfl) (by simp; rfl) (WL.ret ⟨rfl, ?_⟩)
        simp [fi88, hf]
    · obtain rfl : i = l.length := by omega
      have hf := firstBad_none hp
      rw [hf]
      refine WL.sreg (by simp; rfl) (by simp; rfl) ?_
      refine WL.seq (WL.cond (t := false) (by simp) (by simp) fun _ => WL.exit ?_)
      refine WL.seq (WL.label ?_)
      exact walk_stepsN hE hS s0 hok a i0 c hp l.length
set_option maxHeartbeats 16000000 in
theorem walk_fnO (hE : EvOk l) (hS : SeeOk l Sh.one f cps B D see Inv) (p c : Int) (a : σ) (hI : newBad p c = false → Inv a (newSt p c)) :
    FnC Try.prog 88 (Sh.one.gs (B a) (D a)) [sEv l, i64 p, i64 c, Sh.one.fv f cps] (Sh.one.gs (B (walkF see a l p c).2.2) (D (walkF see a l p c).2.2)) (i64 (walkF see a l p c).1) := by
  have hn := hE.n
  have e5 := hS.roots
  simp at e5
  have hms := may_fn (newSt p c) (newSt_sized p c)
  rw [May_new] at hms
  refine FnC.go ok88 rfl ?_
  refine WL.mono (Q' := wkQ (Sh.one.gs (B (walkF see a l p c).2.2) (D (walkF see a l p c).2.2)) (walkF see a l p c).1) ?_ fun x L h => ⟨.inr h.1, h.2⟩
  refine WL.sreg (by simp; rfl) (by simp [e5]; rfl) ?_
  refine WL.scope ?_
  refine WL.sregC (RL.o (by simp; rfl) (RL.newC p c (by simp) (RL.o (by simp; rfl) (RL.nil ⟨_, by simp [e5]; rfl, ?_⟩))))
  cases hb : newBad p c with
  | true =>
    rw [hb] at hms
    refine WL.seq (WL.sregC (RL.o (by simp; rfl) (RL.call0 false hms (by simp) (by simp) (RL.o (by simp; rfl) (RL.nil ⟨_, by simp [e5]; rfl, ?_⟩)))))
    refine WL.cond (t := true) (by simp) (fun _ => ?_) (by simp)
    refine WL.sreg (by simp; rfl) (by simp [e5]; rfl) (WL.ret ⟨rfl, ?_⟩)
    simp [fi88, walkF, hb]
  | false =>
    rw [hb] at hms
    have hok := newSt_ok' hb
    have i0 := hI hb
    refine WL.seq (WL.sregC (RL.o (by simp; rfl) (RL.call0 false hms (by simp) (by simp) (RL.o (by simp; rfl) (RL.nil ⟨_, by simp [e5]; rfl, ?_⟩)))))
    refine WL.cond (t := false) (by simp) (by simp) fun _ => WL.skip ?_
    refine WL.seq (WL.sreg (by simp; rfl) (by simp [e5]; rfl) ?_)
    unfold walkF
    rw [hb]
    simp only [Bool.false_eq_true, if_false]
    generalize newSt p c = s0 at hok i0 ⊢
    refine WL.block (WL.count l.length (fun i => wkS l c (Sh.one.fv f cps) s0 ([(2300, 0, i64 l.length), (2400, 0, i64 i)] ++ Sh.one.gh (B a) (D a))) (fun i => ∀ j, j < i → timesF l j c = true) rfl (fun j h => absurd h (Nat.not_lt_zero _)) fun i hi hp => ?_)
    by_cases hlt : i < l.length
    · have w : IntKind.wrap .i64 ((i : Int) + 1) = ((i + 1 : Nat) : Int) := by rw [wrap_small (by omega) (by omega)]; omega
      have ha := times_fn l hn i hlt c
      refine WL.sreg (by simp [hlt]; rfl) (by simp [e5]; rfl) ?_
      refine WL.seq (WL.cond (t := true) (by simp [hlt]) (fun _ => WL.skip ?_) (by simp))
      refine WL.seq (WL.block (WL.sreg (by simp [hlt]; rfl) (by simp [e5]; rfl) ?_))
      cases ht : timesF l i c with
      | true =>
        rw [ht] at ha
        refine WL.sregC (RL.o (by simp; rfl) (RL.call0 false ha (by simp) (by simp) (RL.o (by simp; rfl) (RL.nil ⟨_, by simp [e5]; rfl, ?_⟩))))
        refine WL.cond (t := false) (by simp) (by simp) fun _ => WL.skip ?_
        refine WL.reg (RL.run (by simp [w]; rfl) ⟨_, by simp [e5]; rfl, hlt, ?_, fun j hj => ?_⟩)
        · simp
        · by_cases e : j = i
          · subst e; exact ht
          · exact hp j (by omega)
      | false =>
        rw [ht] at ha
        have hf := firstBad_some hlt hp ht
        refine WL.sregC (RL.o (by simp; rfl) (RL.call0 false ha (by simp) (by simp) (RL.o (by simp; rfl) (RL.nil ⟨_, by simp [e5]; rfl, ?_⟩))))
        refine WL.cond (t := true) (by simp) (fun _ => ?_) (by simp)
        refine WL.sreg (by simp [w]; rfl) (by simp [e5]; rfl) (WL.ret ⟨rfl, ?_⟩)
        simp [fi88, hf]
    · obtain rfl : i = l.length := by omega
      have hf := firstBad_none hp
      rw [hf]
      refine WL.sreg (by simp; rfl) (by simp [e5]; rfl) ?_
      refine WL.seq (WL.cond (t := false) (by simp) (by simp) fun _ => WL.exit ?_)
      refine WL.seq (WL.label ?_)
      exact walk_stepsO hE hS s0 hok a i0 c hp l.length
end
end Go.OT
set_option linter.unusedSimpArgs false
set_option linter.unusedVariables false
namespace Go.OT
def deadL (n : Nat) : List AL := List.replicate n .dead
theorem fpL_dead (n b o : Nat) : ¬ fpL (deadL n) b o := by
  rw [fpL_iff]
  rintro ⟨c, hc, h⟩
  rw [List.eq_of_mem_replicate hc] at h
  simp [fp] at h
theorem SepL_dead : ∀ n, SepL (deadL n)
  | 0 => trivial
  | n + 1 => by
    show SepL (.dead :: deadL n)
    exact ⟨trivial, SepL_dead n, fun _ _ h => by simp [fp] at h⟩
theorem MemL_dead {w : World} {I : ASet} : ∀ {cs : List AL} {b o : Nat}, MemL w I true cs b o → MemL w I true (deadL cs.length) b o
  | [], _, _, _ => by show MemL w I true [] _ _; simp only [MemL]
  | c :: cs, b, o, h => by
    simp only [MemL] at h
    obtain ⟨⟨y, h1, _⟩, _, _, h4⟩ := h
    show MemL w I true (.dead :: deadL cs.length) b o
    have := MemL_dead h4
    simp only [MemL, CR, Mem]
    exact ⟨⟨y, h1, trivial⟩, trivial, (fun e => by cases e), this⟩
theorem RelL.wipeS {C : Ctx} {X : XF LO} {β : Nat → Nat × Nat} {I : ASet} {rg : Nat → Value} {w : World} (R : RelL C X β I rg w) (k : Nat) (hk : k % 100 = 0) {l : Loc} {cs : List AL} (hX : (X k).2 = .bx true (some l) cs) :
    RelL C (X.set k (.bx true (some l) (deadL cs.length))) β I rg w := by
  have hkp := keeps_set X β k (.bx true (some l) (deadL cs.length))
  have hf : ∀ k' b o, kfp β (X.set k (.bx true (some l) (deadL cs.length))) k' b o → kfp β X k' b o := by
    intro k' b o h
    by_cases e : k' = k
    · subst e
      simp only [kfp, XF.set_self] at h
      rcases h with h | ⟨h, _⟩
      · left; rw [hX]
        simp only [fp] at h ⊢
        rcases h with h | h
        · left; simpa [deadL] using h
        · exact absurd h (fpL_dead _ _ _)
      · unfold isCell at h; omega
    · simpa only [kfp, XF.set_ne _ _ e] using h
  refine ⟨fun t => ?_, fun k' => ?_, fun a b hne b' o h1 h2 => R.disj a b hne b' o (hf _ _ _ h1) (hf _ _ _ h2), fun b o h => ⟨(R.imm b o h).1, fun a ha => (R.imm b o h).2 a (hf _ _ _ ha)⟩, fun a b o h => R.frK a b o (hf _ _ _ h), R.frI, R.frI0, R.fr, R.gh, R.gr⟩
  · by_cases e : 100 * t = k
    · have := R.reg t
      rw [e] at this ⊢
      rw [hX] at this
      rw [XF.set_self]
      simp only [RR, CR] at this ⊢
      exact this
    · rw [XF.set_ne _ _ e]; exact RR_keep hkp _ _ (R.reg t)
  · by_cases e : k' = k
    · subst e
      have h := R.key k'
      have hm := h.mem
      rw [hX] at hm
      simp only [Mem] at hm
      refine ⟨by rw [XF.set_self]; simp only [Mem]; exact MemL_dead hm, by rw [XF.set_self]; simp only [Sep]; exact ⟨fun _ _ => fpL_dead _ _ _, SepL_dead _⟩, fun hc => by unfold isCell at hc; omega, fun b o hb => h.live b o (hf k' b o hb), fun h99 => by omega⟩
    · have h := R.key k'
      refine ⟨by rw [XF.set_ne _ _ e]; exact h.mem, by rw [XF.set_ne _ _ e]; exact h.sep, by rw [XF.set_ne _ _ e]; exact fun h1 h2 => ⟨(h.cell h1 h2).1.imp fun y hy => ⟨hy.1, hy.2.imp id fun h => ⟨h.1, RR_keep hkp _ _ h.2⟩⟩, (h.cell h1 h2).2⟩, fun b o hb => h.live b o (hf k' b o hb), by rw [XF.set_ne _ _ e]; exact h.last⟩
theorem RelT.wipe {C : Ctx} {X : XF Unit} {tm : Array Value} {w : World} (h : RelT C X tm w) (k : Nat) (hk : k % 100 = 0) (hkH : k ≠ 100 * H) (hH : roots (X (100 * H)).2 = []) {cs : List AU} (hX : (X k).2 = .bx true () cs)
    (h2 : ∀ t, rootR [k] (X (100 * t)).2 = true) (h3 : ∀ k', isCell k' → noR [k] (X k').2 = true) : RelT C (X.upd k (.bx true () (List.replicate cs.length .dead))) tm w := by
  obtain ⟨XL, β, I, rg, he, R, hs, ht⟩ := h
  subst he
  obtain ⟨l, lcs, hl, hlcs⟩ : ∃ l lcs, (XL k).2 = .bx true l lcs ∧ lcs.map er = cs := by
    have : er (XL k).2 = .bx true () cs := hX
    revert this
    generalize (XL k).2 = v
    intro this
    cases v <;> simp [er] at this
    rename_i o l lcs
    exact ⟨l, lcs, by rw [this.1], by rw [← erL_eq]; exact this.2⟩
  have hmem := (R.key k).mem
  rw [hl] at hmem
  cases l with
  | none => simp [Mem] at hmem
  | some l =>
    have R1 := R.wipeS k hk hl
    have e1 : (XL.set k (.bx true (some l) (deadL lcs.length)) k).2 = .bx true (some l) (deadL lcs.length) := by rw [XF.set_self]
    have hne : ∀ j, j ≠ k → (XL.set k (.bx true (some l) (deadL lcs.length))) j = XL j := fun j hj => XF.set_ne _ _ hj
    have hlen : lcs.length = cs.length := by rw [← hlcs]; simp
    have R2 := R.regen R1 [k] H (fun j hj => by simp at hj; subst hj; exact ⟨hk, hkH⟩) (fun _ _ => rfl) (by
        rw [hne _ (Ne.symm hkH)]
        have : roots (er (XL (100 * H)).2) = [] := hH
        rwa [er_roots] at this) (fun j hj _ => by
        rw [hne j (by intro e; subst e; simp at hj)]) (fun t => by
        by_cases e : 100 * t = k
        · rw [e, e1]; rfl
        · rw [hne _ e, ← er_rootR]; exact h2 t) (fun j hj => by
        have : j ≠ k := by intro e; subst e; unfold isCell at hj; omega
        rw [hne _ this, ← er_noR]; exact h3 j hj) (fun j hj => by
        simp at hj; subst hj; rw [hl, e1]; rfl)
    refine ⟨_, β, I, rg, ?_, R2, hs, ht⟩
    rw [erF_ungen]
    funext j
    by_cases e : j = k
    · subst e
      simp only [ungen, List.contains_cons, beq_self_eq_true, Bool.true_or, if_true, XF.upd_self, erF]
      rw [e1]
      simp only [er, erL_eq, deadL, List.map_replicate, hlen]
    · have hc : [k].contains j = false := by simp [e]
      simp only [ungen, hc, Bool.false_eq_true, if_false, XF.upd_ne _ _ e, erF, hne j e]
section
variable {P : Program} {nt : Nat} {L : SL} {Q : Ex → SL → Prop}
def wipeB (k : Nat) (L : SL) : Bool := decide (k % 100 = 0) && (!decide (k = 100 * H) && ((roots (fnL L (100 * H)).2).isEmpty && L.all fun e => rootR [k] e.2.2 && (decide (e.1 % 100 = 0) || noR [k] e.2.2)))
theorem RelT.wipeL {C : Ctx} {tm : Array Value} {w : World} (h : RelT C (fnL L) tm w) (k : Nat) {cs : List AU} (hX : (fnL L k).2 = .bx true () cs) (hB : wipeB k L = true) : RelT C (fnL (updL L k (.bx true () (List.replicate cs.length .dead)))) tm w := by
  simp only [wipeB, Bool.and_eq_true, decide_eq_true_eq, Bool.not_eq_true', decide_eq_false_iff_not, List.all_eq_true, Bool.or_eq_true, List.isEmpty_iff] at hB
  obtain ⟨a1, a2, a3, a4⟩ := hB
  have := h.wipe k a1 a2 a3 hX (fun t => ?_) (fun k' hc => ?_)
  · rwa [fnL_upd] at this
  · rcases fnL_mem L (100 * t) with h | ⟨e, he, _, h⟩
    · rw [h]; rfl
    · rw [h]; exact (a4 e he).1
  · rcases fnL_mem L k' with h | ⟨e, he, e1, h⟩
    · rw [h]; rfl
    · rw [h]
      rcases (a4 e he).2 with q | q
      · rw [e1] at q; exact absurd q hc.1
      · exact q
theorem WL.wipe {cc : Cd} (k : Nat) {cs : List AU} (hX : (fnL L k).2 = .bx true () cs) (hB : wipeB k L = true) (h : WL P nt cc (updL L k (.bx true () (List.replicate cs.length .dead))) Q) : WL P nt cc L Q := by
  intro C code hP hn hc a w hd hR
  exact h C code hP hn hc a w hd (hR.wipeL k hX hB)
theorem RL.wipe {K : SL → Prop} {segs : List Sg} (k : Nat) {cs : List AU} (hX : (fnL L k).2 = .bx true () cs) (hB : wipeB k L = true) (h : RL P nt segs (updL L k (.bx true () (List.replicate cs.length .dead))) K) : RL P nt segs L K := by
  intro C ops idx hP hnt hc a w Q hd hR hK
  exact h C ops idx hP hnt hc a w Q hd (hR.wipeL k hX hB) hK
end
attribute [simp] wipeB
end Go.OT
set_option linter.unusedSimpArgs false
set_option linter.unusedVariables false
namespace Go.OT
open Go.Proofs
theorem noSee_ok (l : List Ev) : SeeOk l .nil 0 [] (fun _ : Unit => []) (fun _ => []) noSee (fun _ _ => True) :=
  ⟨rfl, rfl, rfl, by simp, fun _ _ _ => rfl, fun _ _ _ _ _ _ _ => trivial, fun h => absurd rfl h⟩
set_option maxHeartbeats 8000000 in
theorem chk_fn (l : List Ev) (hE : EvOk l) (p c : Int) : FnC Try.prog 28 [] [sEv l, i64 p, i64 c] [] (i64 (chkF l p c)) := by
  have hw := walk_fnN hE (noSee_ok l) p c () (fun _ => trivial)
  rw [walkF_code] at hw
  simp only [Sh.gs, Sh.fv] at hw
  refine FnC.go ok28 rfl ?_
  refine WL.sreg (by simp; rfl) (by simp; rfl) ?_
  refine WL.sregC (RL.o (by simp; rfl) (RL.call0 false hw (by simp) (by simp) (RL.o (by simp; rfl) (RL.nil ⟨_, by simp; rfl, WL.ret ⟨.inr rfl, ?_⟩⟩))))
  simp [fi28]
set_option maxHeartbeats 8000000 in
theorem final1_fn (i : Int) (s t : St) : FnC Try.prog 89 [.nod (.bx true () (cellsS false s))] [i64 i, encS false t, .ptr 1000000 0 [] 0] [.nod (.bx true () (cellsS false t))] (.tuple []) := by
  refine FnC.go ok89 rfl ?_
  refine WL.sreg (by simp; rfl) (by simp; rfl) ?_
  refine WL.wipe 1000000 (by simp; rfl) (by simp) ?_
  refine WL.reg (RL.run (by simp; rfl) ⟨_, by simp; rfl, ?_⟩)
  refine ⟨.inl rfl, ?_⟩
  simp [fi89]
theorem lastSee_ok (l : List Ev) : SeeOk l .one 89 [.ptr 1000000 0 [] 0] (fun s : St => cellsS false s) (fun _ => []) (fun _ _ t => t) (fun _ _ => True) :=
  ⟨rfl, rfl, rfl, by simp, fun X k h => by
    obtain ⟨h1, b, h2⟩ := h (1000000, []) (by simp)
    simp at h1 h2
    simp [h1, h2, gkey], fun _ _ _ _ _ _ _ => trivial, fun _ a s u hu _ _ _ => final1_fn u a (stepR s l[u]).2⟩
set_option maxHeartbeats 16000000 in
theorem fin_fn (l : List Ev) (hE : EvOk l) (p c : Int) : FnC Try.prog 30 [] [sEv l, i64 p, i64 c] [] (.tuple [encS false (finF l p c).1, bl (finF l p c).2]) := by
  have hw := walk_fnO hE (lastSee_ok l) p c (newSt p c) (fun _ => trivial)
  rw [walkF_code] at hw
  simp only [Sh.gs, Sh.fv] at hw
  refine FnC.go ok30 rfl ?_
  refine WL.sreg (by simp; rfl) (by simp; rfl) ?_
  refine WL.sregC (RL.o (by simp; rfl) (RL.newC p c (by simp) (RL.o (by simp; rfl) (RL.nil ⟨_, by simp; rfl, ?_⟩))))
  rw [walkF_last] at hw
  refine WL.raise 8 3 (by simp) (by simp; rfl) (by simp) ?_
  by_cases h0 : chkF l p c = 0
  · have z : (chkF l p c != 0) = false := by simp [h0]
    have hfin : finF l p c = ((walkF noSee () l p c).2.1, true) := by unfold finF; rw [if_pos h0]
    rw [hfin]
    generalize (walkF noSee () l p c).2.1 = s at hw ⊢
    generalize newSt p c = s0 at hw ⊢
    refine WL.seq (WL.sregC (RL.o (by simp; rfl) (RL.callK false [(800, [])] hw (by simp) (by simp) (by simp [gkey]) (by simp) (by simp) (RL.o (by simp [z]; rfl) (RL.nil ⟨_, by simp; rfl, ?_⟩)))))
    refine WL.cond (t := false) (by simp) (by simp) fun _ => WL.skip ?_
    refine WL.sreg (by simp; rfl) (by simp; rfl) (WL.ret ⟨.inr rfl, ?_⟩)
    simp [fi30]
  · have z : (chkF l p c != 0) = true := by simp [h0]
    have hfin : finF l p c = (⟨[], [], []⟩, false) := by unfold finF; rw [if_neg h0]
    rw [hfin]
    generalize (walkF noSee () l p c).2.1 = s at hw ⊢
    generalize newSt p c = s0 at hw ⊢
    refine WL.seq (WL.sregC (RL.o (by simp; rfl) (RL.callK false [(800, [])] hw (by simp) (by simp) (by simp [gkey]) (by simp) (by simp) (RL.o (by simp [z]; rfl) (RL.nil ⟨_, by simp; rfl, ?_⟩)))))
    refine WL.cond (t := true) (by simp) (fun _ => ?_) (by simp)
    refine WL.sreg (by simp; rfl) (by simp; rfl) (WL.nil1 601 false 1 (by simp) (WL.nil1 602 false 1 (by simp) (WL.nil1 603 false 1 (by simp) (WL.ret ⟨.inr rfl, ?_⟩))))
    simp [fi30]
end Go.OT
set_option linter.unusedSimpArgs false
set_option linter.unusedVariables false
namespace Go.OT
open Go.Proofs
theorem RL.cut {P : Program} {nt : Nat} {L : SL} {K : SL → Prop} {segs segs' : List Sg} (e : flatS segs = flatS segs') (h : RL P nt segs' L K) : RL P nt segs L K := by
  intro C ops idx hP hn hc
  rw [e] at hc
  exact h C ops idx hP hn hc
@[simp] theorem rng14 : List.range 14 = [0, 1, 2, 3, 4, 5, 6, 7, 8, 9, 10, 11, 12, 13] := rfl
abbrev evA : Ev := ⟨0, ⟨1, 0, 0, 0, 0, []⟩, ⟨0, 0, 0, []⟩, 1, 2, 3⟩
abbrev evB : Ev := ⟨1, ⟨2, 0, 0, 0, 0, []⟩, ⟨0, 0, 0, []⟩, 1, 2, 2⟩
abbrev evC : Ev := ⟨1, ⟨2, 0, 0, 0, 0, []⟩, ⟨2, 0, 0, []⟩, 1, 1, 2⟩
abbrev evD : Ev := ⟨0, ⟨1, 0, 0, 0, 0, []⟩, ⟨0, 0, 0, []⟩, 1, 5, 3⟩
theorem told_v0 : chkF [] 2 2 = 0 := by kernel_rfl
theorem told_v1 : chkF [evA, evB] 2 2 = 0 := by kernel_rfl
theorem told_v2 : chkF [evA, evC] 2 2 = 0 := by kernel_rfl
theorem told_v3 : chkF [evA] 0 2 = -1 := by kernel_rfl
theorem told_v4 : chkF [evD] 2 2 = 1 := by kernel_rfl
theorem told_v5 : chkF [evB] 2 2 = 1 := by kernel_rfl
theorem told_v6 : ordF [evA, evC] = [1, 0] := by kernel_rfl
theorem told_v7 : (finF [evA] 2 2).2 = true := by kernel_rfl
theorem told_v8 : badF 1 8 = true ∧ badF 1 10 = false := ⟨by kernel_rfl, by kernel_rfl⟩
theorem evOk_of {l : List Ev} (hn : l.length ≤ 1000) (hd : ∀ e ∈ l, e.op.Data = []) : EvOk l := ⟨hn, fun e he => by rw [hd e he]; simp⟩
set_option maxRecDepth 20000 in
set_option maxHeartbeats 32000000 in
theorem histTold_fn : FnC Try.prog 27 [] [] [] (bl true) := by
  have h0 := chk_fn [] (evOk_of (by simp) (by simp)) 2 2
  have h1 := chk_fn [evA, evB] (evOk_of (by simp) (by simp)) 2 2
  have h2 := chk_fn [evA, evC] (evOk_of (by simp) (by simp)) 2 2
  have h3 := chk_fn [evA] (evOk_of (by simp) (by simp)) 0 2
  have h4 := chk_fn [evD] (evOk_of (by simp) (by simp)) 2 2
  have h5 := chk_fn [evB] (evOk_of (by simp) (by simp)) 2 2
  have h6 := order_fn [evA, evC] (by simp)
  have h7 := fin_fn [evA] (evOk_of (by simp) (by simp)) 2 2
  have h8 := bad_fn ⟨1, 0, 0, 0, 0, []⟩ 8
  have h9 := bad_fn ⟨1, 0, 0, 0, 0, []⟩ 10
  rw [told_v0] at h0; rw [told_v1] at h1; rw [told_v2] at h2; rw [told_v3] at h3; rw [told_v4] at h4; rw [told_v5] at h5; rw [told_v6] at h6; rw [told_v7] at h7; rw [told_v8.1] at h8; rw [told_v8.2] at h9
  generalize (finF [evA] 2 2).1 = s at h7
  refine FnC.go ok27 rfl ?_
  refine WL.sreg (by simp; rfl) (by simp; rfl) ?_
  refine WL.sreg (by simp; rfl) (by simp; rfl) (WL.nil1 107 false 1 (by simp) (WL.nil1 111 false 1 (by simp) ?_))
  refine WL.sreg (by simp; rfl) (by simp; rfl) (WL.nil1 207 false 1 (by simp) (WL.nil1 211 false 1 (by simp) ?_))
  refine WL.sreg (by simp; rfl) (by simp; rfl) (WL.nil1 307 false 1 (by simp) (WL.nil1 311 false 1 (by simp) ?_))
  refine WL.sregC (RL.o (by simp; rfl) (RL.freeze 1500 (RL.call0 false h7 (by simp) (by simp) (RL.o (by simp; rfl) (RL.nil ⟨_, by simp; rfl, ?_⟩)))))
  refine WL.sregC ?_
  refine RL.call0 false h0 (by simp) (by simp) (RL.o (by simp; rfl) ?_)
  refine RL.g (by simp; rfl) (RL.freeze 2400 (RL.callY0 false (by simp) h1 (by simp) (by simp) (RL.g (by simp; rfl) (RL.o (by simp; rfl) ?_))))
  refine RL.fin [19, 20, 21, 22, 23, 24, 25, 26, 27] (by simp; rfl) ?_
  refine RL.g (by simp; rfl) (RL.freeze 3100 (RL.callY0 false (by simp) h2 (by simp) (by simp) (RL.g (by simp; rfl) (RL.o (by simp; rfl) ?_))))
  refine RL.fin [28, 29, 30, 31, 32, 33, 34] (by simp; rfl) ?_
  refine RL.g (by simp; rfl) (RL.freeze 3700 (RL.callY0 false (by simp) h3 (by simp) (by simp) (RL.g (by simp; rfl) (RL.o (by simp; rfl) ?_))))
  refine RL.fin [35, 36, 37, 38, 39, 40] (by simp; rfl) ?_
  refine RL.cut (segs' := .g 41 true [.faddr 42 1 (.t 1), .ld 43 6 true (.t 42), .build 44 [(.sc (.int .i64 0)), (.sc (.int .i64 0)), (.sc (.int .i64 0)), (.sc (.int .i64 0)), (.sc (.int .i64 0)), (.sc (.int .i64 0)), (.sc (.slice none 0 0)), (.sc (.int .i64 0)), (.sc (.int .i64 0)), (.sc (.int .i64 0)), (.sc (.slice none 0 0)), (.sc (.int .i64 0)), (.sc (.int .i64 0)), (.sc (.int .i64 0))] [(1, 6, (.t 43)), (11, 1, (cI 1)), (12, 1, (cI 5)), (13, 1, (cI 3))]] :: .g 41 true [.bs1 45 14 (.t 44)] :: _) rfl ?_
  refine RL.g (by simp; rfl) (RL.nilA 44 10 1 (by simp; rfl) rfl rfl ?_)
  refine RL.g (by simp; rfl) (RL.freeze 4500 (RL.callY0 false (by simp) h4 (by simp) (by simp) (RL.g (by simp; rfl) (RL.o (by simp; rfl) ?_))))
  refine RL.fin [41, 42, 43, 44, 45, 46, 47, 48] (by simp; rfl) ?_
  refine RL.g (by simp; rfl) (RL.freeze 5100 (RL.callY0 false (by simp) h5 (by simp) (by simp) (RL.g (by simp; rfl) (RL.o (by simp; rfl) ?_))))
  refine RL.fin [49, 50, 51, 52, 53, 54] (by simp; rfl) ?_
  refine RL.g (by simp; rfl) (RL.freeze 5800 (RL.callY0 false (by simp) h6 (by simp) (by simp) (RL.g (by simp; rfl) (RL.o (by simp; rfl) ?_))))
  refine RL.fin [55, 56, 57, 58, 59, 60, 61, 62] (by simp; rfl) ?_
  refine RL.g (by simp; rfl) (RL.freeze 6600 (RL.callY0 false (by simp) h6 (by simp) (by simp) (RL.g (by simp; rfl) (RL.o (by simp; rfl) ?_))))
  refine RL.fin [63, 64, 65, 66, 67, 68, 69, 70, 71] (by simp; rfl) ?_
  refine RL.g (by simp; rfl) (RL.o (by simp; rfl) ?_)
  refine RL.g (by simp; rfl) (RL.callY0 false (by simp) h8 (by simp) (by simp) (RL.o (by simp; rfl) ?_))
  refine RL.g (by simp; rfl) (RL.callY0 false (by simp) h9 (by simp) (by simp) (RL.g (by simp; rfl) (RL.o (by simp; rfl) (RL.nil ⟨_, by simp; rfl, WL.ret ⟨.inr rfl, ?_⟩⟩))))
  simp [fi27]
end Go.OT
set_option linter.unusedSimpArgs false
set_option linter.unusedVariables false
namespace Go.OT
open Go.Proofs
def shortE (e : Ev) : Bool := decide (e.op.Data.length ≤ 40) && decide (e.res.Data.length ≤ 40)
def fewE (l : List Ev) : Bool := l.all shortE && decide (l.length ≤ 60)
set_option maxHeartbeats 8000000 in
theorem histFew_fn (l : List Ev) (hl : l.length ≤ 9223372036854775807) : FnC Try.prog 29 [] [sEv l] [] (bl (fewE l)) := by
  refine FnC.go ok29 rfl ?_
  refine WL.sreg (by simp; rfl) (by simp; rfl) ?_
  refine WL.seq (WL.sreg (by simp; rfl) (by simp; rfl) ?_)
  refine WL.block (WL.count l.length (fun i => [(0, 0, sEv l), (300, 0, i64 i)]) (fun i => ∀ j (hj : j < l.length), j < i → shortE l[j] = true) (by simp) (fun j _ h => absurd h (Nat.not_lt_zero _)) fun i hi hp => ?_)
  by_cases h : i < l.length
  · have w : IntKind.wrap .i64 ((i : Int) + 1) = ((i + 1 : Nat) : Int) := by rw [wrap_small (by omega) (by omega)]; omega
    have f1 := fmE_drop (o := false) (r := false) h
    have g1 : 14 ≤ l.length * 14 - i * 14 := by omega
    refine WL.seq (WL.sreg (by simp [h]; rfl) (by simp; rfl) ?_)
    refine WL.cond (t := true) (by simp [h]) (fun _ => WL.skip ?_) (by simp)
    have bad : shortE l[i] = false → fewE l = false := fun hs => by
      have : l.all shortE = false := List.all_eq_false.2 ⟨_, List.getElem_mem h, by simp [hs]⟩
      simp [fewE, this]
    by_cases k : 40 < l[i].op.Data.length
    · have k' : (40 : Int) < l[i].op.Data.length := by omega
      have hv := bad (by simp [shortE]; omega)
      refine WL.seq (WL.block (WL.sreg (by simp [h, f1, g1, k, k']; rfl) (by simp; rfl) ?_))
      refine WL.cond (t := true) (by simp) (fun _ => WL.sreg (by simp; rfl) (by simp; rfl) (WL.ret ⟨.inr rfl, ?_⟩)) (by simp)
      simp [fi29, hv]
    · have k' : ¬ (40 : Int) < l[i].op.Data.length := by omega
      by_cases k2 : 40 < l[i].res.Data.length
      · have k2' : (40 : Int) < l[i].res.Data.length := by omega
        have hv := bad (by simp [shortE]; omega)
        refine WL.seq (WL.block (WL.sreg (by simp [h, f1, g1, k, k', k2, k2']; rfl) (by simp; rfl) ?_))
        refine WL.cond (t := true) (by simp [k2, k2']) (fun _ => WL.sreg (by simp; rfl) (by simp; rfl) (WL.ret ⟨.inr rfl, ?_⟩)) (by simp)
        simp [fi29, hv]
      · have k2' : ¬ (40 : Int) < l[i].res.Data.length := by omega
        refine WL.seq (WL.block (WL.sreg (by simp [h, f1, g1, k, k', k2, k2']; rfl) (by simp; rfl) ?_))
        refine WL.cond (t := false) (by simp [k2, k2']) (by simp) fun _ => WL.skip ?_
        refine WL.reg (RL.run (by simp [w]; rfl) ⟨_, by simp; rfl, h, ?_, fun j hj hji => ?_⟩)
        · simp
        · by_cases e : j = i
          · subst e; simp [shortE]; omega
          · exact hp j hj (by omega)
  · obtain rfl : i = l.length := by omega
    have ha : l.all shortE = true := List.all_eq_true.2 fun e he => by
      obtain ⟨j, hj, rfl⟩ := List.mem_iff_getElem.1 he
      exact hp j hj hj
    refine WL.seq (WL.sreg (by simp; rfl) (by simp; rfl) ?_)
    refine WL.cond (t := false) (by simp) (by simp) fun _ => WL.exit ?_
    refine WL.sreg (by simp; rfl) (by simp; rfl) (WL.ret ⟨.inr rfl, ?_⟩)
    simp [fi29, fewE, ha]
    try omega
theorem fewE_ok {l : List Ev} (h : fewE l = true) : l.length ≤ 60 ∧ ∀ e ∈ l, e.op.Data.length ≤ 40 ∧ e.res.Data.length ≤ 40 := by
  simp only [fewE, Bool.and_eq_true, decide_eq_true_eq, List.all_eq_true, shortE] at h
  exact ⟨h.2, fun e he => h.1 e he⟩
end Go.OT
set_option linter.unusedSimpArgs false
set_option linter.unusedVariables false
namespace Go.OT
open Go.Proofs
theorem ordF_length (l : List Ev) : (ordF l).length = (posN l l.length).length := (ordL_spec (keyE l) (posN_asc l l.length)).1.length_eq
theorem ordF_next (l : List Ev) {j : Nat} (h : j + 1 < (ordF l).length) : lexLt (keyE l) (ordF l)[j] (ordF l)[j + 1] :=
  List.pairwise_iff_getElem.1 (ordL_spec (keyE l) (posN_asc l l.length)).2 j (j + 1) (Nat.lt_of_succ_lt h) h (Nat.lt_succ_self j)
abbrev hoQ : Ex → SL → Prop := fun e L => e = Ex.ret ∧ RetOk fi10.rs [] (bl true) L
abbrev hoS (l : List Ev) (n i : Nat) : SL := [(0, 0, sEv l), (300, 0, sI true (ordF l)), (400, 0, i64 n), (500, 0, i64 i)]
abbrev hoT (l : List Ev) (n j : Nat) : SL := [(0, 0, sEv l), (300, 0, sI true (ordF l)), (400, 0, i64 n), (600, 0, i64 j)]
set_option maxHeartbeats 32000000 in
theorem orders_rest (l : List Ev) (hn : l.length ≤ 1000) : WL Try.prog fi10.nt c10_20 (hoS l (ordF l).length l.length ++ [(1600, 0, bl false)]) hoQ := by
  have hO := ordF_len l
  refine WL.seq (WL.sreg (by simp; rfl) (by simp; rfl) ?_)
  refine WL.block (WL.count (ordF l).length (fun j => hoT l (ordF l).length j) (fun j => True) (by simp) trivial fun j hj _ => ?_)
  by_cases h : j < (ordF l).length
  · have w : IntKind.wrap .i64 ((j : Int) + 1) = ((j + 1 : Nat) : Int) := by rw [wrap_small (by omega) (by omega)]; omega
    obtain ⟨u, hu, eu⟩ := ordF_at h
    obtain ⟨u', hu', eu', hpos⟩ := ordF_mem (List.getElem_mem h)
    obtain rfl : u' = u := by rw [eu] at eu'; omega
    have hst : 0 < l[u'].Stamp := by simpa [hu'] using hpos
    have s1 : ¬ l[u'].Stamp ≤ 0 := by omega
    have f1 := fmE_drop (o := false) (r := false) hu'
    have g1 : 14 ≤ l.length * 14 - u' * 14 := by omega
    have p1 : ¬ (u' : Int) < 0 := by omega
    have p2 : ¬ (l.length : Int) ≤ u' := by omega
    have p3 : j + 1 ≤ (ordF l).length := h
    refine WL.seq (WL.sreg (by simp [h]; rfl) (by simp; rfl) ?_)
    refine WL.cond (t := true) (by simp [h]) (fun _ => WL.skip ?_) (by simp)
    refine WL.seq (WL.block (WL.seq (WL.sreg (by simp [h, p3, eu, hu', p1, p2, s1, f1, g1]; rfl) (by simp; rfl) ?_)))
    refine WL.cond (t := false) (by simp [s1]) (by simp) fun _ => WL.skip ?_
    by_cases hj0 : 0 < j
    · obtain ⟨k, hk⟩ : ∃ k, k + 1 = j := ⟨j - 1, by omega⟩
      have hk1 : k < (ordF l).length := by omega
      have hk2 : k + 1 ≤ (ordF l).length := by omega
      obtain ⟨v, hv, ev⟩ := ordF_at (l := l) hk1
      have hlex : lexLt (keyE l) (ordF l)[k] (ordF l)[j] := by
        subst hk; exact ordF_next l h
      rw [eu, ev] at hlex
      unfold lexLt at hlex
      rw [keyE_at hu', keyE_at hv] at hlex
      have f2 := fmE_drop (o := false) (r := false) hv
      have g2 : 14 ≤ l.length * 14 - v * 14 := by omega
      have wk : IntKind.wrap .i64 ((j : Int) - 1) = (k : Int) := by rw [wrap_small (by omega) (by omega)]; omega
      have n1 : ¬ l[u'].Stamp < l[v].Stamp := by omega
      by_cases q : l[u'].Stamp = l[v].Stamp
      · have n2 : ¬ (u' : Int) ≤ v := by omega
        have n2' : ¬ u' ≤ v := by omega
        have b1 : (l[u'].Stamp == l[v].Stamp) = true := by simp [q]
        refine WL.seq (WL.draw mixed (by simp [cleanL, noH]) (DL.run (by simp [h, hj0, p3, eu, ev, hu', hv, hk1, hk2, f1, g1, f2, g2, wk, n1, b1, n2, n2']; exact ⟨rfl, rfl⟩) ⟨by kernel_rfl, _, by simp; rfl, ?_⟩))
        refine WL.cond (t := false) (by simp [n2, n2']) (by simp) fun _ => WL.skip ?_
        refine WL.reg (RL.run (by simp [w]; rfl) ⟨_, by simp; rfl, h, ?_, trivial⟩)
        simp
      · have b1 : (l[u'].Stamp == l[v].Stamp) = false := beq_false_of_ne q
        refine WL.seq (WL.draw mixed (by simp [cleanL, noH]) (DL.run (by simp [h, hj0, p3, eu, ev, hu', hv, hk1, hk2, f1, g1, f2, g2, wk, n1, b1]; exact ⟨rfl, rfl⟩) ⟨by kernel_rfl, _, by simp; rfl, ?_⟩))
        refine WL.cond (t := false) (by simp) (by simp) fun _ => WL.skip ?_
        refine WL.reg (RL.run (by simp [w]; rfl) ⟨_, by simp; rfl, h, ?_, trivial⟩)
        simp
    · obtain rfl : j = 0 := by omega
      have w0 : IntKind.wrap .i64 1 = 1 := by decide
      refine WL.seq (WL.draw mixed (by simp [cleanL, noH]) (DL.run (by simp [h]; exact ⟨rfl, rfl⟩) ⟨by kernel_rfl, _, by simp; rfl, ?_⟩))
      refine WL.cond (t := false) (by simp) (by simp) fun _ => WL.skip ?_
      refine WL.reg (RL.run (by simp [w0]; rfl) ⟨_, by simp; rfl, h, ?_, trivial⟩)
      simp
  · obtain rfl : j = (ordF l).length := by omega
    refine WL.seq (WL.sreg (by simp; rfl) (by simp; rfl) ?_)
    refine WL.cond (t := false) (by simp) (by simp) fun _ => WL.exit ?_
    refine WL.sregC (RL.call0 false histTold_fn (by simp) (by simp) (RL.o (by simp; rfl) (RL.g (by simp; rfl) (RL.o (by simp; rfl) (RL.nil ⟨_, by simp; rfl, WL.ret ⟨rfl, ?_⟩⟩)))))
    simp [fi10]
set_option maxHeartbeats 32000000 in
theorem histOrders_law (l : List Ev) (hl : l.length ≤ 9223372036854775807) : FnC Try.prog 10 [] [sEv l] [] (bl true) := by
  refine FnC.go ok10 rfl ?_
  refine WL.mono (Q' := hoQ) ?_ fun e L h => ⟨.inr h.1, h.2⟩
  refine WL.sreg (by simp; rfl) (by simp; rfl) ?_
  refine WL.seq (WL.sregC (RL.o (by simp; rfl) (RL.call0 false (histFew_fn l hl) (by simp) (by simp) (RL.o (by simp; rfl) (RL.nil ⟨_, by simp; rfl, ?_⟩)))))
  cases hf : fewE l with
  | false =>
    refine WL.cond (t := true) (by simp) (fun _ => ?_) (by simp)
    refine WL.sregC (RL.call0 false histTold_fn rfl rfl (RL.o (by simp; rfl) (RL.nil ⟨_, by simp; rfl, ?_⟩)))
    refine WL.ret ⟨rfl, ?_⟩
    simp [fi10]
  | true =>
  have hn : l.length ≤ 1000 := by have := (fewE_ok hf).1; omega
  refine WL.cond (t := false) (by simp) (by simp) fun _ => WL.skip ?_
  refine WL.sregC (RL.o (by simp; rfl) (RL.call0 false (order_fn l hn) (by simp) (by simp) (RL.o (by simp; rfl) (RL.nil ⟨_, by simp; rfl, ?_⟩))))
  refine WL.sreg (by simp; rfl) (by simp; rfl) ?_
  refine WL.seq (WL.sreg (by simp; rfl) (by simp; rfl) ?_)
  refine WL.block (WL.count l.length (fun i => hoS l (posN l i).length i) (fun i => True) (by simp [posN]) trivial fun i hi _ => ?_)
  have hP := posN_len l i
  by_cases h : i < l.length
  · have w : IntKind.wrap .i64 ((i : Int) + 1) = ((i + 1 : Nat) : Int) := by rw [wrap_small (by omega) (by omega)]; omega
    have w2 : IntKind.wrap .i64 (((posN l i).length : Int) + 1) = (((posN l i).length + 1 : Nat) : Int) := by rw [wrap_small (by omega) (by omega)]; omega
    have f1 := fmE_drop (o := false) (r := false) h
    have g1 : 14 ≤ l.length * 14 - i * 14 := by omega
    have hg : (l.map (·.Stamp)).getD i 0 = l[i].Stamp := by simp [h]
    have hs := posN_succ l i
    rw [hg] at hs
    refine WL.seq (WL.sreg (by simp [h]; rfl) (by simp; rfl) ?_)
    refine WL.cond (t := true) (by simp [h]) (fun _ => WL.skip ?_) (by simp)
    refine WL.seq (WL.block ?_)
    by_cases k : 0 < l[i].Stamp
    · rw [if_pos k] at hs
      refine WL.sreg (by simp [h, f1, g1, k]; rfl) (by simp; rfl) ?_
      refine WL.cond (t := true) (by simp [k]) (fun _ => ?_) (by simp)
      refine WL.reg (RL.run (by simp [w2]; rfl) ⟨_, by simp; rfl, ?_⟩)
      refine WL.reg (RL.run (by simp [w]; rfl) ⟨_, by simp; rfl, h, ?_, trivial⟩)
      simp [hs]
    · rw [if_neg k] at hs
      refine WL.sreg (by simp [h, f1, g1, k]; rfl) (by simp; rfl) ?_
      refine WL.cond (t := false) (by simp [k]) (by simp) fun _ => WL.skip ?_
      refine WL.reg (RL.run (by simp [w]; rfl) ⟨_, by simp; rfl, h, ?_, trivial⟩)
      simp [hs]
  · obtain rfl : i = l.length := by omega
    refine WL.seq (WL.sreg (by simp; rfl) (by simp; rfl) ?_)
    refine WL.cond (t := false) (by simp) (by simp) fun _ => WL.exit ?_
    rw [← ordF_length]
    exact orders_rest l hn
end Go.OT
set_option linter.unusedSimpArgs false
set_option linter.unusedVariables false
namespace Go.OT
open Go.Proofs
def clE (c d g : Nat) : List Ev := [⟨c, ⟨7, 0, 0, 0, 0, []⟩, ⟨0, 0, 0, []⟩, 2, 3, 5⟩, ⟨d, ⟨7, 0, 0, 0, 0, []⟩, ⟨0, 0, 0, []⟩, g, (g : Int) + 1, (g : Int) + 2⟩]
def clW (c d g : Nat) : Bool := decide (g < 2) || (decide (c = d) && decide (g ≤ 5))
theorem cl_all : ((List.range 3).all fun c => (List.range 3).all fun d => (List.range 8).all fun g => chkF (clE c d g) 1 3 == (if clW c d g = true then 2 else 0)) = true := by kernel_rfl
theorem cl_at {c d g : Nat} (hc : c < 3) (hd : d < 3) (hg : g < 8) : chkF (clE c d g) 1 3 = if clW c d g = true then 2 else 0 := by
  have h := cl_all
  simp only [List.all_eq_true, List.mem_range, beq_iff_eq] at h
  exact h c hc d hd g hg
abbrev zE14 : List AU := [(.sc (.int .i64 0)), (.sc (.int .i64 0)), (.sc (.int .i64 0)), (.sc (.int .i64 0)), (.sc (.int .i64 0)), (.sc (.int .i64 0)), (.sc (.slice none 0 0)), (.sc (.int .i64 0)), (.sc (.int .i64 0)), (.sc (.int .i64 0)), (.sc (.slice none 0 0)), (.sc (.int .i64 0)), (.sc (.int .i64 0)), (.sc (.int .i64 0))]
abbrev zO6 : List AU := [(.sc (.int .i64 0)), (.sc (.int .i64 0)), (.sc (.int .i64 0)), (.sc (.int .i64 0)), (.sc (.int .i64 0)), (.sc (.slice none 0 0))]
abbrev hcQ : Ex → SL → Prop := fun e L => e = Ex.ret ∧ RetOk fi5.rs [] (bl true) L
set_option maxRecDepth 20000 in
set_option maxHeartbeats 32000000 in
theorem histClients_law (a b gap : Int) : FnC Try.prog 5 [] [i64 a, i64 b, i64 gap] [] (bl true) := by
  obtain ⟨hc, ec⟩ := um_spec a 3 (by decide) (by decide)
  obtain ⟨hd, ed⟩ := um_spec b 3 (by decide) (by decide)
  obtain ⟨hg, eg⟩ := um_spec gap 8 (by decide) (by decide)
  generalize um a 3 = c at *
  generalize um b 3 = d at *
  generalize um gap 8 = g at *
  have hat := cl_at hc hd hg
  have hchk := chk_fn (clE c d g) (evOk_of (by simp [clE]) (by simp [clE])) 1 3
  rw [hat] at hchk
  have w1 : IntKind.wrap .i64 ((g : Int) + 1) = (g : Int) + 1 := by rw [wrap_small (by omega) (by omega)]
  have w2 : IntKind.wrap .i64 ((g : Int) + 2) = (g : Int) + 2 := by rw [wrap_small (by omega) (by omega)]
  refine FnC.go ok5 rfl ?_
  refine WL.mono (Q' := hcQ) ?_ fun e L h => ⟨.inr h.1, h.2⟩
  refine WL.sreg (by simp; rfl) (by simp; rfl) ?_
  have ec' : IntKind.wrap .i64 ((IntKind.wrap .u64 a).tmod 3) = (c : Int) := ec
  have ed' : IntKind.wrap .i64 ((IntKind.wrap .u64 b).tmod 3) = (d : Int) := ed
  have eg' : IntKind.wrap .i64 ((IntKind.wrap .u64 gap).tmod 8) = (g : Int) := eg
  refine WL.sreg (by simp; rfl) (by simp; rfl) ?_
  rw [ec', ed', eg']
  refine WL.sregC ?_
  refine RL.cut (segs' := .o [.mov 24 (.t 7), .build 25 zO6 [(0, 1, (cI 7))]] :: .o [.build 26 zE14 [(0, 1, (.t 24)), (1, 6, (.t 25)), (11, 1, (cI 2)), (12, 1, (cI 3)), (13, 1, (cI 5))], .mov 27 (.t 8), .build 28 zO6 [(0, 1, (cI 7))]] :: .o [.mov 29 (.t 9), .mov 30 (.t 9), .bin 31 .add (.t 30) (cI 1), .mov 32 (.t 9), .bin 33 .add (.t 32) (cI 2), .build 34 zE14 [(0, 1, (.t 27)), (1, 6, (.t 28)), (11, 1, (.t 29)), (12, 1, (.t 31)), (13, 1, (.t 33))]] :: .o [.bsa 35 14 [(.t 26), (.t 34)], .asg 10 (.t 35)] :: []) rfl ?_
  refine RL.o (by simp; rfl) (RL.nilA 25 5 1 (by simp; rfl) rfl rfl ?_)
  refine RL.o (by simp; rfl) (RL.nilA 26 10 1 (by simp; rfl) rfl rfl (RL.nilA 28 5 1 (by simp; rfl) rfl rfl ?_))
  refine RL.o (by simp [w1, w2]; rfl) (RL.nilA 34 10 1 (by simp; rfl) rfl rfl ?_)
  refine RL.o (by simp; rfl) (RL.freeze 1000 (RL.nil ⟨_, by simp; rfl, ?_⟩))
  refine WL.sreg (by simp; rfl) (by simp; rfl) ?_
  have tailT : clW c d g = true → WL Try.prog fi5.nt c5_2 ([(1000, 0, sEv (clE c d g)), (1100, 0, i64 2)]) hcQ := by
    intro hv
    rw [hv] at hchk
    refine WL.sregC (RL.call0 false histTold_fn (by simp) (by simp) (RL.o (by simp; rfl) (RL.g (by simp; rfl) (RL.callY0 false (by simp) hchk (by simp) (by simp) (RL.g (by simp; rfl) (RL.o (by simp; rfl) (RL.nil ⟨_, by simp; rfl, WL.ret ⟨rfl, ?_⟩⟩)))))))
    simp [fi5]
  have tailF : clW c d g = false → WL Try.prog fi5.nt c5_2 ([(1000, 0, sEv (clE c d g)), (1100, 0, i64 0), (4600, 0, bl false)]) hcQ := by
    intro hv
    rw [hv] at hchk
    refine WL.sregC (RL.call0 false histTold_fn (by simp) (by simp) (RL.o (by simp; rfl) (RL.g (by simp; rfl) (RL.callY0 false (by simp) hchk (by simp) (by simp) (RL.g (by simp; rfl) (RL.o (by simp; rfl) (RL.nil ⟨_, by simp; rfl, WL.ret ⟨rfl, ?_⟩⟩)))))))
    simp [fi5]
  clear hchk hat
  by_cases q1 : g < 2
  · have q1' : (g : Int) < 2 := by omega
    have hv : clW c d g = true := by simp [clW, q1]
    refine WL.seq (WL.sreg (by simp [q1, q1']; rfl) (by simp; rfl) ?_)
    refine WL.cond (t := true) (by simp) (fun _ => ?_) (by simp)
    refine WL.reg (RL.run (by simp; rfl) ⟨_, by simp; rfl, ?_⟩); exact tailT hv
  · have q1' : ¬ (g : Int) < 2 := by omega
    by_cases q2 : c = d
    · have q2' : ((c : Int) == (d : Int)) = true := by simp [q2]
      by_cases q3 : g ≤ 5
      · have q3' : (g : Int) ≤ 5 := by omega
        have hv : clW c d g = true := by simp [clW, q2, q3]
        refine WL.seq (WL.sreg (by simp [q1, q1', q2', q3, q3']; rfl) (by simp; rfl) ?_)
        refine WL.cond (t := true) (by simp) (fun _ => ?_) (by simp)
        refine WL.reg (RL.run (by simp; rfl) ⟨_, by simp; rfl, ?_⟩); exact tailT hv
      · have q3' : ¬ (g : Int) ≤ 5 := by omega
        have hv : clW c d g = false := by simp [clW, q1, q3]
        refine WL.seq (WL.sreg (by simp [q1, q1', q2', q3, q3']; rfl) (by simp; rfl) ?_)
        refine WL.cond (t := false) (by simp) (by simp) fun _ => WL.skip ?_
        exact tailF hv
    · have q2' : ((c : Int) == (d : Int)) = false := beq_false_of_ne (by omega)
      have hv : clW c d g = false := by simp [clW, q1, q2]
      refine WL.seq (WL.sreg (by simp [q1, q1', q2']; rfl) (by simp; rfl) ?_)
      refine WL.cond (t := false) (by simp) (by simp) fun _ => WL.skip ?_
      exact tailF hv
end Go.OT
set_option linter.unusedSimpArgs false
set_option linter.unusedVariables false
namespace Go.OT
open Go.Proofs
end Go.OT
set_option linter.unusedSimpArgs false
set_option linter.unusedVariables false
namespace Go.OT
open Go.Proofs
def serC (l : List Cl) (i : Nat) : Cl := nearC (l.getD i ⟨0, ⟨0, 0, 0, 0, 0, []⟩⟩) 5 3
def serS (l : List Cl) : Nat → St
  | 0 => newSt 5 3
  | i + 1 => (DoB (serS l i) (serC l i).Client (serC l i).op).2.1
def serE (l : List Cl) (i : Nat) : Ev := ⟨(serC l i).Client, (serC l i).op, (DoB (serS l i) (serC l i).Client (serC l i).op).2.2, 3 * (i : Int) + 1, 3 * (i : Int) + 2, 3 * (i : Int) + 3⟩
def serH (l : List Cl) (n : Nat) : List Ev := (List.range n).map (serE l)
theorem serS_ok (l : List Cl) : ∀ n, OkSt (serS l n)
  | 0 => newSt_ok' (by kernel_rfl)
  | n + 1 => (serS_ok l n).doB _ _
theorem serH_len (l : List Cl) (n : Nat) : (serH l n).length = n := by simp [serH]
theorem serH_at (l : List Cl) (n : Nat) {i : Nat} (h : i < n) : (serH l n)[i]'(by rw [serH_len]; exact h) = serE l i := by simp [serH]
theorem serH_succ (l : List Cl) (n : Nat) : serH l (n + 1) = serH l n ++ [serE l n] := by simp [serH, List.range_succ]
theorem serC_cl (l : List Cl) (i : Nat) : 0 ≤ (serC l i).Client ∧ (serC l i).Client < 3 := by
  have := (um_spec (l.getD i ⟨0, ⟨0, 0, 0, 0, 0, []⟩⟩).Client 3 (by decide) (by decide)).1
  simp only [serC, nearC]
  exact ⟨by omega, by omega⟩
theorem serC_dl (l : List Cl) (i : Nat) : (serC l i).op.Data.length ≤ 8 := by
  simp only [serC, nearC, List.length_take]; omega
theorem serH_times (l : List Cl) (n j : Nat) (h : j < n) : timesF (serH l n) j 3 = true := by
  have hj : j < (serH l n).length := by rw [serH_len]; exact h
  rw [timesF_at hj, serH_at l n h]
  have hc := serC_cl l j
  have h1 : tmBad (serH l n) j 3 (serE l j) = false := by
    have hp : tmPrev (serH l n) j (serE l j) = false := by
      unfold tmPrev
      by_cases h0 : 0 < j
      · have hl : j - 1 < (serH l n).length := by rw [serH_len]; omega
        have : (serH l n).getD (j - 1) (serE l j) = serE l (j - 1) := by
          rw [List.getD_eq_getElem?_getD, List.getElem?_eq_getElem hl]
          simp only [Option.getD_some]
          exact serH_at l n (by omega)
        rw [this]
        simp [serE]
        try omega
      · simp [h0]
    have b1 : ¬ (serE l j).Client < 0 := by show ¬ (serC l j).Client < 0; omega
    have b2 : ¬ 3 ≤ (serE l j).Client := by show ¬ 3 ≤ (serC l j).Client; omega
    have b3 : ¬ (serE l j).Begin < 1 := by show ¬ 3 * (j : Int) + 1 < 1; omega
    have b4 : ¬ (serE l j).End < 0 := by show ¬ 3 * (j : Int) + 3 < 0; omega
    simp only [tmBad, hp, b1, b2, b3, b4, decide_false, Bool.or_self]
  have h2 : tmStamp (serE l j) = false := by simp [tmStamp, serE]

  have h3 : (((serH l n).take j).any (tmOver (serE l j))) = false := by
    rw [List.any_eq_false]
    intro e he
    obtain ⟨k, hk, rfl⟩ := List.mem_iff_getElem.1 he
    have hkj : k < j := by simp at hk; omega
    rw [List.getElem_take, serH_at l n (by omega)]
    have a1 : ¬ (serE l k).End < 1 := by simp only [serE]; omega
    have a2 : ¬ (serE l j).Begin ≤ (serE l k).End := by simp only [serE]; omega
    simp [tmOver, a1, a2]
  simp [timesE, h1, h2, h3]
theorem serH_stamp (l : List Cl) (n : Nat) {i : Nat} (h : i < n) : ((serH l n).map (·.Stamp)).getD i 0 = 3 * (i : Int) + 2 := by
  rw [List.getD_eq_getElem?_getD, List.getElem?_map, List.getElem?_eq_getElem (by rw [serH_len]; exact h), serH_at l n h]
  rfl
theorem serH_ord (l : List Cl) (n : Nat) : ordF (serH l n) = (List.range n).map fun i => (Int.ofNat i) := by
  have hp : posL (serH l n) = (List.range n).map fun i => (Int.ofNat i) := by
    unfold posL posN
    rw [serH_len]
    congr 1
    rw [List.filter_eq_self]
    intro i hi
    rw [serH_stamp l n (List.mem_range.1 hi)]
    simp; omega
  unfold ordF
  rw [← hp]
  symm
  refine ordL_unique (keyE (serH l n)) (posN_asc _ _) (List.Perm.refl _) ?_
  rw [hp, List.pairwise_map]
  refine List.pairwise_lt_range.imp_of_mem ?_
  intro a b ha hb hab
  left
  have e : ∀ {i}, i < n → keyE (serH l n) (Int.ofNat i) = 3 * (i : Int) + 2 := fun {i} h => by
    have := serH_stamp l n h
    simpa [keyE] using this
  rw [e (List.mem_range.1 ha), e (List.mem_range.1 hb)]
  omega
theorem serH_step (l : List Cl) (i : Nat) : stepR (serS l i) (serE l i) = (true, serS l (i + 1)) := by
  have hb : badF (serE l i).op.Kind (serE l i).res.Code = false := by
    cases h : badF (serE l i).op.Kind (serE l i).res.Code with
    | false => rfl
    | true =>
      have := badF_code h
      have := (DoB_code (serS l i) (serC l i).Client (serC l i).op).2
      simp only [serE] at *
      omega
  unfold stepR
  rw [hb]
  simp [serE, serS, SameRes]
theorem serH_go (l : List Cl) (n : Nat) : ∀ k j : Nat, j + k = n → goW (serH l n) noSee (serS l j) () (((List.range n).map fun i => (Int.ofNat i)).drop j) = (0, serS l n, ())
  | 0, j, h => by
    obtain rfl : j = n := by omega
    rw [List.drop_of_length_le (by simp)]
    rfl
  | k + 1, j, h => by
    have hj : j < ((List.range n).map fun i => (Int.ofNat i)).length := by simp; omega
    rw [List.drop_eq_getElem_cons hj]
    have e1 : ((List.range n).map fun i => (Int.ofNat i))[j] = (j : Int) := by simp
    have e2 : atE (serH l n) (j : Int) = serE l j := by
      rw [atE_at (by rw [serH_len]; omega), serH_at l n (by omega)]
    simp only [e1, goW, e2, serH_step, if_true]
    exact serH_go l n k (j + 1) (by omega)
theorem serH_walk (l : List Cl) (n : Nat) : walkF noSee () (serH l n) 5 3 = (0, serS l n, ()) := by
  have hb : newBad 5 3 = false := by kernel_rfl
  unfold walkF
  rw [hb, firstBad_none (fun j hj => serH_times l n j (by rw [serH_len] at hj; exact hj)), serH_ord]
  simp only [Bool.false_eq_true, if_false]
  have := serH_go l n n 0 (by omega)
  rw [List.drop_zero] at this
  exact this
theorem serH_chk (l : List Cl) (n : Nat) : chkF (serH l n) 5 3 = 0 := by unfold chkF; rw [serH_walk]
theorem serH_fin (l : List Cl) (n : Nat) : finF (serH l n) 5 3 = (serS l n, true) := by unfold finF; rw [serH_chk, serH_walk]; simp
theorem serH_ev (l : List Cl) (n : Nat) (hn : n ≤ 1000) : EvOk (serH l n) := ⟨by rw [serH_len]; exact hn, fun e he => by
  obtain ⟨k, hk, rfl⟩ := List.mem_iff_getElem.1 he
  rw [serH_at l n (by rw [serH_len] at hk; exact hk)]
  have := serC_dl l k
  simp only [serE]; omega⟩
@[simp] theorem lendL_ev (l : List Ev) : lendL (l.flatMap (cellsEv false false)) = l.flatMap (cellsEv false false) := by
  induction l with
  | nil => rfl
  | cons e l ih =>
    rw [List.flatMap_cons, lendL_eq, List.map_append, ← lendL_eq (l.flatMap _), ih]
    simp
theorem Same_rfl (s : St) : Same s s = true := by simp [Same]
abbrev hsQ : Ex → SL → Prop := fun e L => e = Ex.ret ∧ RetOk fi11.rs [] (bl true) L
abbrev hEv (l : List Ev) : AU := .sl true () 14 l.length (l.flatMap (cellsEv false false))
abbrev hsS (l : List Cl) (i : Nat) : SL := [(0, 0, sCl l)] ++ (rcF 3 (serS l i) ++ [(400, 0, hEv (serH l i)), (500, 0, i64 i)])
set_option maxHeartbeats 32000000 in
theorem serial_end (l : List Cl) (n : Nat) (hn : n ≤ 1000) : WL Try.prog fi11.nt c11_12 (hsS l n ++ [(1900, 0, bl false)]) hsQ := by
  have hE := serH_ev l n hn
  have hf := fin_fn (serH l n) hE 5 3
  have hc := chk_fn (serH l n) hE 5 3
  rw [serH_fin] at hf
  rw [serH_chk] at hc
  simp only at hf
  have hok := serS_ok l n
  have hsame := same_fn (serS l n) (serS l n) hok.sized
  rw [Same_rfl] at hsame
  unfold hsS
  generalize serS l n = s at hf hc hsame hok ⊢
  generalize serH l n = h at hf hc hE ⊢
  refine WL.freeze 400 ?_
  refine WL.sregC (RL.o (by simp; rfl) (RL.call0 false hf (by simp) (by simp) (RL.o (by simp; rfl) (RL.nil ⟨_, by simp; rfl, ?_⟩))))
  refine WL.sregC (RL.call0 false histTold_fn (by simp) (by simp) (RL.o (by simp; rfl) (RL.g (by simp; rfl) ?_)))
  refine RL.callY0 false (by simp) hc (by simp) (by simp) (RL.g (by simp; rfl) (RL.o (by simp; rfl) (RL.g (by simp; rfl) (RL.o (by simp; rfl) (RL.g (by simp; rfl) ?_)))))
  refine RL.callY0 false (by simp) hsame (by simp) (by simp) (RL.o (by simp; rfl) (RL.nil ⟨_, by simp; rfl, WL.ret ⟨rfl, ?_⟩⟩))
  simp [fi11]
set_option maxHeartbeats 32000000 in
theorem histSerial_law (l : List Cl) (hl : l.length ≤ 9223372036854775807) : FnC Try.prog 11 [] [sCl l] [] (bl true) := by
  refine FnC.go ok11 rfl ?_
  refine WL.mono (Q' := hsQ) ?_ fun e L h => ⟨.inr h.1, h.2⟩
  refine WL.sreg (by simp; rfl) (by simp; rfl) ?_
  refine WL.sregC (RL.newC 5 3 (by simp) (RL.o (by simp; rfl) (RL.nil ⟨_, by simp; rfl, ?_⟩)))
  refine WL.sreg (by simp; rfl) (by simp; rfl) ?_
  refine WL.seq (WL.sreg (by simp; rfl) (by simp; rfl) ?_)
  refine WL.block (WL.count l.length (fun i => hsS l i) (fun i => i ≤ 50) (by simp [serH, serS]) (by omega) fun i hi h50 => ?_)
  by_cases h : i < l.length
  · have w : IntKind.wrap .i64 ((i : Int) + 1) = ((i + 1 : Nat) : Int) := by rw [wrap_small (by omega) (by omega)]; omega
    by_cases k : i < 50
    · have k' : (i : Int) < 50 := by omega
      have f1 := fm_drop h
      have g1 : 7 ≤ l.length * 7 - i * 7 := by omega
      refine WL.seq (WL.sreg (by simp [h, k, k']; rfl) (by simp; rfl) ?_)
      refine WL.cond (t := true) (by simp [h, k, k']) (fun _ => WL.skip ?_) (by simp)
      refine WL.seq (WL.block (WL.seq ?_))
      by_cases q : 40 < l[i].op.Data.length
      · have q' : (40 : Int) < l[i].op.Data.length := by omega
        refine WL.sreg (by simp [h, f1, g1, q, q']; rfl) (by simp; rfl) ?_
        refine WL.cond (t := true) (by simp [q, q']) (fun _ => ?_) (by simp)
        refine WL.sregC (RL.call0 false histTold_fn (by simp) (by simp) (RL.o (by simp; rfl) (RL.nil ⟨_, by simp; rfl, WL.ret ⟨rfl, ?_⟩⟩)))
        simp [fi11]
      · have q' : ¬ (40 : Int) < l[i].op.Data.length := by omega
        refine WL.sreg (by simp [h, f1, g1, q, q']; rfl) (by simp; rfl) ?_
        refine WL.cond (t := false) (by simp [q, q']) (by simp) fun _ => WL.skip ?_
        have hnear := near_fn l[i] 5 3 (by decide) (by decide) (by decide) (by decide) (by omega)
        have eC : nearC l[i] 5 3 = serC l i := by simp [serC, h]
        have eE := serH_succ l i
        have eS : serS l (i + 1) = (DoB (serS l i) (serC l i).Client (serC l i).op).2.1 := rfl
        have hL := serH_len l i
        have hok := serS_ok l i
        rw [eC] at hnear
        rw [show serE l i = ⟨(serC l i).Client, (serC l i).op, (DoB (serS l i) (serC l i).Client (serC l i).op).2.2, 3 * (i : Int) + 1, 3 * (i : Int) + 2, 3 * (i : Int) + 3⟩ from rfl] at eE
        unfold hsS
        generalize serH l i = hh at hL eE ⊢
        generalize serC l i = c at hnear eE eS ⊢
        generalize serS l i = s at hok eE eS ⊢
        have w1 : IntKind.wrap .i64 (3 * (i : Int)) = 3 * (i : Int) := by rw [wrap_small (by omega) (by omega)]
        have w2 : IntKind.wrap .i64 (3 * (i : Int) + 1) = 3 * (i : Int) + 1 := by rw [wrap_small (by omega) (by omega)]
        have w3 : IntKind.wrap .i64 (3 * (i : Int) + 2) = 3 * (i : Int) + 2 := by rw [wrap_small (by omega) (by omega)]
        have w4 : IntKind.wrap .i64 (3 * (i : Int) + 3) = 3 * (i : Int) + 3 := by rw [wrap_small (by omega) (by omega)]
        refine WL.sregC (RL.o (by simp [h, f1, g1]; rfl) (RL.call0 false hnear (by simp) (by simp) (RL.o (by simp; rfl) (RL.nil ⟨_, by simp; rfl, ?_⟩))))
        refine WL.sregC (RL.o (by simp; rfl) (RL.doC s hok.sized c.Client c.op (by simp) (RL.o (by simp; rfl) (RL.nil ⟨_, by simp; rfl, ?_⟩))))
        generalize DoB s c.Client c.op = dd at eE eS ⊢
        obtain ⟨o', t, r⟩ := dd
        simp only at eE eS ⊢
        have m1 : (hh.length + 1) * 144 ≤ 140737488355328 := by omega
        have m2 : hh.length + 1 ≤ maxLen := by unfold maxLen; omega
        refine WL.sreg (by simp [w1, w2, w3, w4, m1, m2]; rfl) (by simp; rfl) ?_
        refine WL.reg (RL.run (by simp; rfl) ⟨_, by simp; rfl, ?_⟩)
        refine WL.reg (RL.run (by simp [w]; rfl) ⟨_, by simp; rfl, h, ?_, k⟩)
        simp [eE, eS]
        rw [List.take_of_length_le (l := List.flatMap (cellsEv false false) hh) (by rw [fmE_len]; exact Nat.le_refl _), List.take_of_length_le (by rw [List.length_append, fmE_len]; simp; omega)]
    · have k' : ¬ (i : Int) < 50 := by omega
      refine WL.seq (WL.sreg (by simp [h, k, k']; rfl) (by simp; rfl) ?_)
      refine WL.cond (t := false) (by simp [h, k, k']) (by simp) fun _ => WL.exit ?_
      exact serial_end l i (by omega)
  · obtain rfl : i = l.length := by omega
    refine WL.seq (WL.sreg (by simp; rfl) (by simp; rfl) ?_)
    refine WL.cond (t := false) (by simp) (by simp) fun _ => WL.exit ?_
    exact serial_end l _ (by omega)
end Go.OT

