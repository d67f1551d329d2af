/- Part 10 of the proof: see its last file. -/
import Derived.Orders
import Derived.Below
import Derived.Laws.Entries
import Derived.Laws.Cells
import Derived.Laws.IdiomCopy
import Derived.Scope
import Derived.Calls
import Derived.Laws.Tables
import Derived.Laws.MakeOwn
import Derived.Laws.BytesString
import Derived.ArgAppend
import Derived.WalkSpells
import Derived.Lib.SlBytesConst
import Derived.Lib.ConvBytes
import Derived.WalkKit
import Derived.ProofKit
import Derived.OpenShut
import Derived.ShutString
import Derived.ChangeOld
import Derived.Lib.SmallJoins
import Derived.Test.YtlcemfnjhdcmoaaProg
import Derived.KernelRfl
import Derived.IntWalk
import Derived.Lib.Strings
import Derived.Test.YtlcemfnjhdcmoaaHa09
set_option linter.unusedSimpArgs false
set_option linter.unusedVariables false
set_option linter.unusedSimpArgs false
set_option linter.unusedVariables false
namespace Go.OT
open Go.Proofs
inductive Sh | nil | one | two
@[simp] def Sh.fv : Sh → Nat → List AU → AU
  | .nil, _, _ => .sc .nilFunc
  | _, f, cps => .clos f cps
@[simp] def Sh.gh : Sh → List AU → List AU → SL
  | .nil, _, _ => []
  | .one, b, _ => [(1000000, 0, .bx true () b)]
  | .two, b, d => [(1000000, 0, .bx true () b), (1000100, 0, .bx true () d)]
@[simp] def Sh.gs : Sh → List AU → List AU → List (Gh Unit)
  | .nil, _, _ => []
  | .one, b, _ => [.nod (.bx true () b)]
  | .two, b, d => [.nod (.bx true () b), .nod (.bx true () d)]
@[simp] def Sh.ks : Sh → List (Nat × List Nat)
  | .nil => []
  | .one => [(1000000, [])]
  | .two => [(1000000, []), (1000100, [])]
theorem May_new (p c : Int) : May (newSt p c) = !newBad p c := by
  cases h : newBad p c with
  | false => exact (May_iff _).2 (newSt_ok' h)
  | true => unfold newSt; rw [h]; rfl
theorem times_end {l : List Ev} {u : Nat} {c : Int} (hu : u < l.length) (h : timesF l u c = true) : 0 ≤ l[u].End := by
  rw [timesF_at hu] at h
  simp only [timesE, tmBad, Bool.and_eq_true, Bool.not_eq_true', Bool.or_eq_false_iff, decide_eq_false_iff_not] at h
  omega
structure SeeOk {σ : Type} (l : List Ev) (sh : Sh) (f : Nat) (cps : List AU) (B D : σ → List AU) (see : σ → Int → St → σ) (Inv : σ → St → Prop) : Prop where
  no : noOwnL cps = true
  root : rootRL (sh.ks.map (·.1)) cps = true
  roots : rootsL cps = sh.ks.map (·.1)
  len : cps.length ≤ 1000
  tr : ∀ (X : XF Unit) (k : Nat), (∀ e ∈ sh.ks, (X e.1).1 = 0 ∧ ∃ b, (X e.1).2 = .bx true () b) → trL X sh.ks false k cps = some cps
  inv : ∀ a s (u : Nat) (hu : u < l.length), OkSt s → Inv a s → (stepR s l[u]).1 = true → Inv (see a u (stepR s l[u]).2) (stepR s l[u]).2
  fn : sh ≠ .nil → ∀ a s (u : Nat) (hu : u < l.length), OkSt s → Inv a s → (stepR s l[u]).1 = true →
    FnC Try.prog f (sh.gs (B a) (D a)) ([i64 u, encS false (stepR s l[u]).2] ++ cps) (sh.gs (B (see a u (stepR s l[u]).2)) (D (see a u (stepR s l[u]).2))) (.tuple [])
abbrev rcF (b : Nat) (s : St) : SL := [(100 * b, 0, .bptr b 1 0), (100 * b + 1, 0, sB false s.There), (100 * b + 2, 0, sUU false s.Body), (100 * b + 3, 0, sII false s.Handles), (100 * b + 99, 1, .non)]
abbrev wkS (l : List Ev) (c : Int) (fv : AU) (s : St) (r : SL) : SL := [(0, 0, sEv l), (200, 0, i64 c), (300, 0, fv)] ++ (rcF 9 s ++ r)
abbrev wkT (l : List Ev) (fv : AU) (s : St) (j : Nat) (r : SL) : SL := [(0, 0, sEv l), (300, 0, fv)] ++ (rcF 9 s ++ ([(3600, 0, sI true (ordF l)), (3700, 0, i64 (ordF l).length), (3800, 0, i64 j)] ++ r))
abbrev wkQ (gs : List (Gh Unit)) (v : Int) : Ex → SL → Prop := fun e L => e = Ex.ret ∧ RetOk fi88.rs gs (i64 v) L
section
variable {σ : Type} {l : List Ev} {sh : Sh} {f : Nat} {cps : List AU} {B D : σ → List AU} {see : σ → Int → St → σ} {Inv : σ → St → Prop}
theorem walk_see (hS : SeeOk l sh f cps B D see Inv) (s : St) (h : OkSt s) (a : σ) (hi : Inv a s) (u : Nat) (hu : u < l.length) (hr : (stepR s l[u]).1 = true) (j : Nat) (K : SL → Prop)
    (hK : K (wkT l (sh.fv f cps) (stepR s l[u]).2 j (sh.gh (B (see a u (stepR s l[u]).2)) (D (see a u (stepR s l[u]).2))))) :
    WL Try.prog fi88.nt c88_17 ([(0, 0, sEv l), (300, 0, sh.fv f cps)] ++ (rcF 9 (stepR s l[u]).2 ++ ([(1200, 0, i64 u), (3600, 0, sI true (ordF l)), (3700, 0, i64 (ordF l).length), (3800, 0, i64 j)] ++ sh.gh (B a) (D a)))) (fun e L => (e = .nrm ∨ e = .ext 3) ∧ K L) := by
  have e1 := hS.no
  have e2 := hS.root
  have e3 := hS.tr
  have e4 := hS.len
  have e5 := hS.roots
  have hf := fun h' => hS.fn h' a s u hu h hi hr
  generalize (stepR s l[u]).2 = t at *
  cases sh with
  | nil =>
    refine WL.seq (WL.sreg (by simp; rfl) (by simp; rfl) ?_)
    refine WL.cond (t := true) (by simp) (fun _ => ?_) (by simp)
    refine WL.fin [12, 87] (by simp; rfl) (WL.exit ⟨.inr rfl, ?_⟩)
    simpa using hK
  | one =>
    have hf := hf (by simp)
    simp at e2 e3 e5 hf
    refine WL.seq (WL.sreg (by simp [e1]; rfl) (by simp [e5]; rfl) ?_)
    refine WL.cond (t := false) (by simp) (by simp) fun _ => WL.skip ?_
    refine WL.reg (RL.o (by simp [e1]; rfl) (RL.cloK (f := f) (cps := cps) false [(1000000, [])] (by simp) hf (by simp) (by simp) ?_ (by simp; omega) ?_ ?_ (RL.nil ⟨_, by simp [e5]; rfl, ?_⟩)))
    · simp [e1]
      rw [e3 _ _ (by simp) _ (by simp; rfl)]
      simp
    · simp
    · simp [e2]
    · simpa using hK
  | two =>
    have hf := hf (by simp)
    simp at e2 e3 e5 hf
    refine WL.seq (WL.sreg (by simp [e1]; rfl) (by simp [e5]; rfl) ?_)
    refine WL.cond (t := false) (by simp) (by simp) fun _ => WL.skip ?_
    refine WL.reg (RL.o (by simp [e1]; rfl) (RL.cloK (f := f) (cps := cps) false [(1000000, []), (1000100, [])] (by simp) hf (by simp) (by simp) ?_ (by simp; omega) ?_ ?_ (RL.nil ⟨_, by simp [e5]; rfl, ?_⟩)))
    · simp [e1]
      rw [e3 _ _ (by simp) _ (by simp; rfl) (by simp) _ (by simp; rfl)]
      simp
    · simp
    · simp [e2]
    · simpa using hK
theorem stepW_some {s t : St} {e : Ev} (h0 : 0 ≤ e.End) (h : stepW s e = some t) : (stepR s e).1 = true ∧ (stepR s e).2 = t := by
  rw [stepW_eq s e h0] at h
  split at h
  · rename_i h1; exact ⟨h1, by simpa using h⟩
  · cases h
theorem stepW_none {s : St} {e : Ev} (h0 : 0 ≤ e.End) (h : stepW s e = none) : (stepR s e).1 = false := by
  rw [stepW_eq s e h0] at h
  split at h
  · cases h
  · rename_i h1; simpa using h1
set_option maxHeartbeats 16000000 in
theorem walk_stepsN (hE : EvOk l) (hS : SeeOk l Sh.nil f cps B D see Inv) (s0 : St) (h0 : OkSt s0) (a0 : σ) (i0 : Inv a0 s0) (c : Int) (hT : ∀ j, j < l.length → timesF l j c = true) (n : Nat) :
    WL Try.prog fi88.nt c88_27 (wkS l c (Sh.nil.fv f cps) s0 ([(2300, 0, i64 n), (2400, 0, i64 n), (2500, 0, bl false)] ++ Sh.nil.gh (B a0) (D a0))) (wkQ (Sh.nil.gs (B (goW l see s0 a0 (ordF l)).2.2) (D (goW l see s0 a0 (ordF l)).2.2)) (goW l see s0 a0 (ordF l)).1) := by
  have hn := hE.n
  have hOl := ordF_len l
  have hsee := fun s h a hi u hu hr j => walk_see hS s h a hi u hu hr j
  have hI := fun a s u hu h hi hr => hS.inv a s u hu h hi hr
  refine WL.seq (WL.sregC (RL.o (by simp; rfl) (RL.call0 false (order_fn l hn) (by simp) (by simp) (RL.o (by simp; rfl) (RL.nil ⟨_, by simp; rfl, ?_⟩)))))
  refine WL.block (WL.loop (ι := {x : Nat × St × σ // x.1 ≤ (ordF l).length ∧ OkSt x.2.1 ∧ Inv x.2.2 x.2.1 ∧ goW l see x.2.1 x.2.2 ((ordF l).drop x.1) = goW l see s0 a0 (ordF l)}) (fun x => wkT l (Sh.nil.fv f cps) x.1.2.1 x.1.1 (Sh.nil.gh (B x.1.2.2) (D x.1.2.2))) (fun x => (ordF l).length - x.1.1) ⟨(0, s0, a0), Nat.zero_le _, h0, i0, rfl⟩ (by simp) fun x => ?_)
  obtain ⟨⟨j, s, a⟩, hj, hs, hia, hg⟩ := x
  simp only at hj hs hg hia ⊢
  by_cases hlt : j < (ordF l).length
  · obtain ⟨u, hu, eu⟩ := ordF_at hlt
    have f1 := fmE_drop (o := false) (r := false) hu
    have g1 : 14 ≤ l.length * 14 - u * 14 := by omega
    have hlt' : j + 1 ≤ (ordF l).length := hlt
    have w : IntKind.wrap .i64 ((j : Int) + 1) = ((j + 1 : Nat) : Int) := by rw [wrap_small (by omega) (by omega)]; omega
    have w2 : IntKind.wrap .i64 ((u : Int) + 1) = (u : Int) + 1 := by rw [wrap_small (by omega) (by omega)]
    have hE0 := times_end hu (hT u hu)
    have hse := hsee s hs a hia u hu
    have hI' := hI a s u hu hs hia
    rw [List.drop_eq_getElem_cons hlt] at hg
    simp only [goW, eu, atE_at hu] at hg
    have hok := stepR_ok hs l[u]
    have tail : ∀ t, stepW s l[u] = some t → ∀ Q, (∀ e, (e = .nrm ∨ e = .ext 3) → Q e (wkT l (Sh.nil.fv f cps) t j (Sh.nil.gh (B (see a u t)) (D (see a u t))))) → WL Try.prog fi88.nt c88_17 ([(0, 0, sEv l), (300, 0, Sh.nil.fv f cps)] ++ (rcF 9 t ++ ([(1200, 0, i64 u), (3600, 0, sI true (ordF l)), (3700, 0, i64 (ordF l).length), (3800, 0, i64 j)] ++ Sh.nil.gh (B a) (D a)))) Q := by
      intro t ht Q hQ
      obtain ⟨q1, q2⟩ := stepW_some hE0 ht
      have := hse q1 j (fun L => L = wkT l (Sh.nil.fv f cps) t j (Sh.nil.gh (B (see a u t)) (D (see a u t)))) (by rw [q2])
      rw [q2] at this
      refine WL.mono this ?_
      rintro e L ⟨he, rfl⟩
      exact hQ e he
    refine WL.sreg (by simp [hlt]; rfl) (by simp; rfl) ?_
    refine WL.seq (WL.cond (t := true) (by simp [hlt]) (fun _ => WL.skip ?_) (by simp))
    refine WL.seq (WL.block (WL.sreg (by simp [hlt, hlt', eu]; rfl) (by simp; rfl) ?_))
    refine WL.sreg (by simp [hlt, hlt', eu, hu, f1, g1]; rfl) (by simp; rfl) ?_
    refine WL.sregC (RL.o (by simp; rfl) (RL.doC s hs.sized l[u].Client l[u].op (by simp) (RL.o (by simp; rfl) (RL.nil ⟨_, by simp; rfl, ?_⟩))))
    have adv : ∀ t, stepW s l[u] = some t → ∀ Q, (∀ L, (∃ y : {x : Nat × St × σ // x.1 ≤ (ordF l).length ∧ OkSt x.2.1 ∧ Inv x.2.2 x.2.1 ∧ goW l see x.2.1 x.2.2 ((ordF l).drop x.1) = goW l see s0 a0 (ordF l)}, L = wkT l (Sh.nil.fv f cps) y.1.2.1 y.1.1 (Sh.nil.gh (B y.1.2.2) (D y.1.2.2)) ∧ (ordF l).length - y.1.1 < (ordF l).length - j) → Q Ex.nrm L) → WL Try.prog fi88.nt c88_21 (wkT l (Sh.nil.fv f cps) t j (Sh.nil.gh (B (see a u t)) (D (see a u t)))) Q := by
      intro t ht Q hQ
      obtain ⟨q1, q2⟩ := stepW_some hE0 ht
      have hI2 := hI' q1
      rw [q1] at hg
      simp only [if_true] at hg
      rw [q2] at hg hI2 hok
      refine WL.reg (RL.run (by simp [w]; rfl) ⟨_, by simp; rfl, hQ _ ?_⟩)
      exact ⟨⟨(j + 1, t, see a u t), hlt, hok, hI2, hg⟩, by simp, by simp only; omega⟩
    refine WL.seq ?_
    by_cases p : l[u].End = 0
    · have z : (l[u].End == 0) = true := by simp [p]
      have ht : stepW s l[u] = some (DoB s l[u].Client l[u].op).2.1 := by simp [stepW, p]
      refine WL.block (WL.sregC (RL.o (by simp [z]; rfl) (RL.g (by simp; rfl) (RL.callN (by simp) (RL.o (by simp; rfl) (RL.nil ⟨_, by simp; rfl, ?_⟩))))))
      refine WL.cond (t := true) (by simp) (fun _ => ?_) (by simp)
      refine WL.reg (RL.run (by simp; rfl) ⟨_, by simp; rfl, ?_⟩)
      refine tail _ ht _ ?_
      intro e he
      rcases he with rfl | rfl
      · exact adv _ ht _ fun L h => h
      · exact adv _ ht _ fun L h => h
    · have z : (l[u].End == 0) = false := beq_false_of_ne p
      have hsr := sameres_fn (DoB s l[u].Client l[u].op).2.2 l[u].res
      cases hv : SameRes (DoB s l[u].Client l[u].op).2.2 l[u].res with
      | true =>
        rw [hv] at hsr
        have ht : stepW s l[u] = some (DoB s l[u].Client l[u].op).2.1 := by simp [stepW, hv]
        refine WL.block (WL.sregC (RL.o (by simp [z]; rfl) (RL.g (by simp; rfl) (RL.callY0 false (by simp) hsr (by simp) (by simp) (RL.o (by simp; rfl) (RL.nil ⟨_, by simp; rfl, ?_⟩))))))
        refine WL.cond (t := true) (by simp) (fun _ => ?_) (by simp)
        refine WL.reg (RL.run (by simp; rfl) ⟨_, by simp; rfl, ?_⟩)
        refine tail _ ht _ ?_
        intro e he
        rcases he with rfl | rfl
        · exact adv _ ht _ fun L h => h
        · exact adv _ ht _ fun L h => h
      | false =>
        rw [hv] at hsr
        refine WL.block (WL.sregC (RL.o (by simp [z]; rfl) (RL.g (by simp; rfl) (RL.callY0 false (by simp) hsr (by simp) (by simp) (RL.o (by simp; rfl) (RL.nil ⟨_, by simp; rfl, ?_⟩))))))
        refine WL.cond (t := false) (by simp) (by simp) fun _ => ?_
        have hb := bad_fn l[u].op l[u].res.Code
        have hp := sameres_fn l[u].res (rsE l[u].res.Code)
        cases hbad : badF l[u].op.Kind l[u].res.Code with
        | false =>
          rw [hbad] at hb
          have ht : stepW s l[u] = none := by simp [stepW, p, hv, hbad]
          have hr := stepW_none hE0 ht
          rw [hr] at hg
          simp only [Bool.false_eq_true, if_false] at hg
          refine WL.sregC (RL.o (by simp; rfl) (RL.call0 false hb (by simp) (by simp) (RL.o (by simp; rfl) (RL.g (by simp; rfl) (RL.callN (by simp) (RL.g (by simp; rfl) (RL.o (by simp; rfl) (RL.nil ⟨_, by simp; rfl, ?_⟩))))))))
          refine WL.cond (t := true) (by simp) (fun _ => ?_) (by simp)
          refine WL.sreg (by simp [w2]; rfl) (by simp; rfl) (WL.ret ⟨rfl, ?_⟩)
          simp [fi88, ← hg]
        | true =>
          rw [hbad] at hb
          cases hpl : SameRes l[u].res (rsE l[u].res.Code) with
          | false =>
            rw [hpl] at hp
            have ht : stepW s l[u] = none := by simp [stepW, p, hv, hbad, hpl]
            have hr := stepW_none hE0 ht
            rw [hr] at hg
            simp only [Bool.false_eq_true, if_false] at hg
            refine WL.sregC (RL.o (by simp; rfl) (RL.call0 false hb (by simp) (by simp) (RL.o (by simp; rfl) (RL.g (by simp; rfl) (RL.nilA 80 3 1 (by simp; rfl) rfl rfl (RL.callY0 false (by simp) hp (by simp [rsE]) (by simp) (RL.g (by simp; rfl) (RL.o (by simp; rfl) (RL.nil ⟨_, by simp; rfl, ?_⟩)))))))))
            refine WL.cond (t := true) (by simp) (fun _ => ?_) (by simp)
            refine WL.sreg (by simp [w2]; rfl) (by simp; rfl) (WL.ret ⟨rfl, ?_⟩)
            simp [fi88, ← hg]
          | true =>
            rw [hpl] at hp
            have ht : stepW s l[u] = some s := by simp [stepW, p, hv, hbad, hpl]
            refine WL.sregC (RL.o (by simp; rfl) (RL.call0 false hb (by simp) (by simp) (RL.o (by simp; rfl) (RL.g (by simp; rfl) (RL.nilA 80 3 1 (by simp; rfl) rfl rfl (RL.callY0 false (by simp) hp (by simp [rsE]) (by simp) (RL.g (by simp; rfl) (RL.o (by simp; rfl) (RL.nil ⟨_, by simp; rfl, ?_⟩)))))))))
            refine WL.cond (t := false) (by simp) (by simp) fun _ => WL.skip ?_
            refine WL.fin [66] (by simp) (tail _ ht _ ?_)
            intro e he
            rcases he with rfl | rfl
            · exact adv _ ht _ fun L h => h
            · exact adv _ ht _ fun L h => h
  · obtain rfl : j = (ordF l).length := by omega
    rw [List.drop_length] at hg
    simp only [goW] at hg
    refine WL.sreg (by simp; rfl) (by simp; rfl) ?_
    refine WL.seq (WL.cond (t := false) (by simp) (by simp) fun _ => WL.exit ?_)
    refine WL.sreg (by simp; rfl) (by simp; rfl) (WL.ret ⟨rfl, ?_⟩)
    simp [fi88, ← hg]
set_option maxHeartbeats 16000000 in
theorem walk_stepsO (hE : EvOk l) (hS : SeeOk l Sh.one f cps B D see Inv) (s0 : St) (h0 : OkSt s0) (a0 : σ) (i0 : Inv a0 s0) (c : Int) (hT : ∀ j, j < l.length → timesF l j c = true) (n : Nat) :
    WL Try.prog fi88.nt c88_27 (wkS l c (Sh.one.fv f cps) s0 ([(2300, 0, i64 n), (2400, 0, i64 n), (2500, 0, bl false)] ++ Sh.one.gh (B a0) (D a0))) (wkQ (Sh.one.gs (B (goW l see s0 a0 (ordF l)).2.2) (D (goW l see s0 a0 (ordF l)).2.2)) (goW l see s0 a0 (ordF l)).1) := by
  have hn := hE.n
  have hOl := ordF_len l
  have e1 := hS.no
  have e5 := hS.roots
  simp at e5
  have hsee := fun s h a hi u hu hr j => walk_see hS s h a hi u hu hr j
  have hI := fun a s u hu h hi hr => hS.inv a s u hu h hi hr
  refine WL.seq (WL.sregC (RL.o (by simp; rfl) (RL.call0 false (order_fn l hn) (by simp) (by simp) (RL.o (by simp; rfl) (RL.nil ⟨_, by simp [e5]; rfl, ?_⟩)))))
  refine WL.block (WL.loop (ι := {x : Nat × St × σ // x.1 ≤ (ordF l).length ∧ OkSt x.2.1 ∧ Inv x.2.2 x.2.1 ∧ goW l see x.2.1 x.2.2 ((ordF l).drop x.1) = goW l see s0 a0 (ordF l)}) (fun x => wkT l (Sh.one.fv f cps) x.1.2.1 x.1.1 (Sh.one.gh (B x.1.2.2) (D x.1.2.2))) (fun x => (ordF l).length - x.1.1) ⟨(0, s0, a0), Nat.zero_le _, h0, i0, rfl⟩ (by simp) fun x => ?_)
  obtain ⟨⟨j, s, a⟩, hj, hs, hia, hg⟩ := x
  simp only at hj hs hg hia ⊢
  by_cases hlt : j < (ordF l).length
  · obtain ⟨u, hu, eu⟩ := ordF_at hlt
    have f1 := fmE_drop (o := false) (r := false) hu
    have g1 : 14 ≤ l.length * 14 - u * 14 := by omega
    have hlt' : j + 1 ≤ (ordF l).length := hlt
    have w : IntKind.wrap .i64 ((j : Int) + 1) = ((j + 1 : Nat) : Int) := by rw [wrap_small (by omega) (by omega)]; omega
    have w2 : IntKind.wrap .i64 ((u : Int) + 1) = (u : Int) + 1 := by rw [wrap_small (by omega) (by omega)]
    have hE0 := times_end hu (hT u hu)
    have hse := hsee s hs a hia u hu
    have hI' := hI a s u hu hs hia
    rw [List.drop_eq_getElem_cons hlt] at hg
    simp only [goW, eu, atE_at hu] at hg
    have hok := stepR_ok hs l[u]
    have tail : ∀ t, stepW s l[u] = some t → ∀ Q, (∀ e, (e = .nrm ∨ e = .ext 3) → Q e (wkT l (Sh.one.fv f cps) t j (Sh.one.gh (B (see a u t)) (D (see a u t))))) → WL Try.prog fi88.nt c88_17 ([(0, 0, sEv l), (300, 0, Sh.one.fv f cps)] ++ (rcF 9 t ++ ([(1200, 0, i64 u), (3600, 0, sI true (ordF l)), (3700, 0, i64 (ordF l).length), (3800, 0, i64 j)] ++ Sh.one.gh (B a) (D a)))) Q := by
      intro t ht Q hQ
      obtain ⟨q1, q2⟩ := stepW_some hE0 ht
      have := hse q1 j (fun L => L = wkT l (Sh.one.fv f cps) t j (Sh.one.gh (B (see a u t)) (D (see a u t)))) (by rw [q2])
      rw [q2] at this
      refine WL.mono this ?_
      rintro e L ⟨he, rfl⟩
      exact hQ e he
    refine WL.sreg (by simp [hlt]; rfl) (by simp [e5]; rfl) ?_
    refine WL.seq (WL.cond (t := true) (by simp [hlt]) (fun _ => WL.skip ?_) (by simp))
    refine WL.seq (WL.block (WL.sreg (by simp [hlt, hlt', eu]; rfl) (by simp [e5]; rfl) ?_))
    refine WL.sreg (by simp [hlt, hlt', eu, hu, f1, g1]; rfl) (by simp [e5]; rfl) ?_
    refine WL.sregC (RL.o (by simp; rfl) (RL.doC s hs.sized l[u].Client l[u].op (by simp) (RL.o (by simp; rfl) (RL.nil ⟨_, by simp [e5]; rfl, ?_⟩))))
    have adv : ∀ t, stepW s l[u] = some t → ∀ Q, (∀ L, (∃ y : {x : Nat × St × σ // x.1 ≤ (ordF l).length ∧ OkSt x.2.1 ∧ Inv x.2.2 x.2.1 ∧ goW l see x.2.1 x.2.2 ((ordF l).drop x.1) = goW l see s0 a0 (ordF l)}, L = wkT l (Sh.one.fv f cps) y.1.2.1 y.1.1 (Sh.one.gh (B y.1.2.2) (D y.1.2.2)) ∧ (ordF l).length - y.1.1 < (ordF l).length - j) → Q Ex.nrm L) → WL Try.prog fi88.nt c88_21 (wkT l (Sh.one.fv f cps) t j (Sh.one.gh (B (see a u t)) (D (see a u t)))) Q := by
      intro t ht Q hQ
      obtain ⟨q1, q2⟩ := stepW_some hE0 ht
      have hI2 := hI' q1
      rw [q1] at hg
      simp only [if_true] at hg
      rw [q2] at hg hI2 hok
      refine WL.reg (RL.run (by simp [w]; rfl) ⟨_, by simp [e5]; rfl, hQ _ ?_⟩)
      exact ⟨⟨(j + 1, t, see a u t), hlt, hok, hI2, hg⟩, by simp, by simp only; omega⟩
    refine WL.seq ?_
    by_cases p : l[u].End = 0
    · have z : (l[u].End == 0) = true := by simp [p]
      have ht : stepW s l[u] = some (DoB s l[u].Client l[u].op).2.1 := by simp [stepW, p]
      refine WL.block (WL.sregC (RL.o (by simp [z]; rfl) (RL.g (by simp; rfl) (RL.callN (by simp) (RL.o (by simp; rfl) (RL.nil ⟨_, by simp [e5]; rfl, ?_⟩))))))
      refine WL.cond (t := true) (by simp) (fun _ => ?_) (by simp)
      refine WL.reg (RL.run (by simp; rfl) ⟨_, by simp [e5]; rfl, ?_⟩)
      refine tail _ ht _ ?_
      intro e he
      rcases he with rfl | rfl
      · exact adv _ ht _ fun L h => h
      · exact adv _ ht _ fun L h => h
    · have z : (l[u].End == 0) = false := beq_false_of_ne p
      have hsr := sameres_fn (DoB s l[u].Client l[u].op).2.2 l[u].res
      cases hv : SameRes (DoB s l[u].Client l[u].op).2.2 l[u].res with
      | true =>
        rw [hv] at hsr
        have ht : stepW s l[u] = some (DoB s l[u].Client l[u].op).2.1 := by simp [stepW, hv]
        refine WL.block (WL.sregC (RL.o (by simp [z]; rfl) (RL.g (by simp; rfl) (RL.callY0 false (by simp) hsr (by simp) (by simp) (RL.o (by simp; rfl) (RL.nil ⟨_, by simp [e5]; rfl, ?_⟩))))))
        refine WL.cond (t := true) (by simp) (fun _ => ?_) (by simp)
        refine WL.reg (RL.run (by simp; rfl) ⟨_, by simp [e5]; rfl, ?_⟩)
        refine tail _ ht _ ?_
        intro e he
        rcases he with rfl | rfl
        · exact adv _ ht _ fun L h => h
        · exact adv _ ht _ fun L h => h
      | false =>
        rw [hv] at hsr
        refine WL.block (WL.sregC (RL.o (by simp [z]; rfl) (RL.g (by simp; rfl) (RL.callY0 false (by simp) hsr (by simp) (by simp) (RL.o (by simp; rfl) (RL.nil ⟨_, by simp [e5]; rfl, ?_⟩))))))
        refine WL.cond (t := false) (by simp) (by simp) fun _ => ?_
        have hb := bad_fn l[u].op l[u].res.Code
        have hp := sameres_fn l[u].res (rsE l[u].res.Code)
        cases hbad : badF l[u].op.Kind l[u].res.Code with
        | false =>
          rw [hbad] at hb
          have ht : stepW s l[u] = none := by simp [stepW, p, hv, hbad]
          have hr := stepW_none hE0 ht
          rw [hr] at hg
          simp only [Bool.false_eq_true, if_false] at hg
          refine WL.sregC (RL.o (by simp; rfl) (RL.call0 false hb (by simp) (by simp) (RL.o (by simp; rfl) (RL.g (by simp; rfl) (RL.callN (by simp) (RL.g (by simp; rfl) (RL.o (by simp; rfl) (RL.nil ⟨_, by simp [e5]; rfl, ?_⟩))))))))
          refine WL.cond (t := true) (by simp) (fun _ => ?_) (by simp)
          refine WL.sreg (by simp [w2]; rfl) (by simp [e5]; rfl) (WL.ret ⟨rfl, ?_⟩)
          simp [fi88, ← hg]
        | true =>
          rw [hbad] at hb
          cases hpl : SameRes l[u].res (rsE l[u].res.Code) with
          | false =>
            rw [hpl] at hp
            have ht : stepW s l[u] = none := by simp [stepW, p, hv, hbad, hpl]
            have hr := stepW_none hE0 ht
            rw [hr] at hg
            simp only [Bool.false_eq_true, if_false] at hg
            refine WL.sregC (RL.o (by simp; rfl) (RL.call0 false hb (by simp) (by simp) (RL.o (by simp; rfl) (RL.g (by simp; rfl) (RL.nilA 80 3 1 (by simp; rfl) rfl rfl (RL.callY0 false (by simp) hp (by simp [rsE]) (by simp) (RL.g (by simp; rfl) (RL.o (by simp; rfl) (RL.nil ⟨_, by simp [e5]; rfl, ?_⟩)))))))))
            refine WL.cond (t := true) (by simp) (fun _ => ?_) (by simp)
            refine WL.sreg (by simp [w2]; rfl) (by simp [e5]; rfl) (WL.ret ⟨rfl, ?_⟩)
            simp [fi88, ← hg]
          | true =>
            rw [hpl] at hp
            have ht : stepW s l[u] = some s := by simp [stepW, p, hv, hbad, hpl]
            refine WL.sregC (RL.o (by simp; rfl) (RL.call0 false hb (by simp) (by simp) (RL.o (by simp; rfl) (RL.g (by simp; rfl) (RL.nilA 80 3 1 (by simp; rfl) rfl rfl (RL.callY0 false (by simp) hp (by simp [rsE]) (by simp) (RL.g (by simp; rfl) (RL.o (by simp; rfl) (RL.nil ⟨_, by simp [e5]; rfl, ?_⟩)))))))))
            refine WL.cond (t := false) (by simp) (by simp) fun _ => WL.skip ?_
            refine WL.fin [66] (by simp [e5]) (tail _ ht _ ?_)
            intro e he
            rcases he with rfl | rfl
            · exact adv _ ht _ fun L h => h
            · exact adv _ ht _ fun L h => h
  · obtain rfl : j = (ordF l).length := by omega
    rw [List.drop_length] at hg
    simp only [goW] at hg
    refine WL.sreg (by simp; rfl) (by simp [e5]; rfl) ?_
    refine WL.seq (WL.cond (t := false) (by simp) (by simp) fun _ => WL.exit ?_)
    refine WL.sreg (by simp; rfl) (by simp [e5]; rfl) (WL.ret ⟨rfl, ?_⟩)
    simp [fi88, ← hg]
set_option maxHeartbeats 16000000 in
theorem walk_fnN (hE : EvOk l) (hS : SeeOk l Sh.nil f cps B D see Inv) (p c : Int) (a : σ) (hI : newBad p c = false → Inv a (newSt p c)) :
    FnC Try.prog 88 (Sh.nil.gs (B a) (D a)) [sEv l, i64 p, i64 c, Sh.nil.fv f cps] (Sh.nil.gs (B (walkF see a l p c).2.2) (D (walkF see a l p c).2.2)) (i64 (walkF see a l p c).1) := by
  have hn := hE.n
  have hms := may_fn (newSt p c) (newSt_sized p c)
  rw [May_new] at hms
  refine FnC.go ok88 rfl ?_
  refine WL.mono (Q' := wkQ (Sh.nil.gs (B (walkF see a l p c).2.2) (D (walkF see a l p c).2.2)) (walkF see a l p c).1) ?_ fun x L h => ⟨.inr h.1, h.2⟩
  refine WL.sreg (by simp; rfl) (by simp; rfl) ?_
  refine WL.scope ?_
  refine WL.sregC (RL.o (by simp; rfl) (RL.newC p c (by simp) (RL.o (by simp; rfl) (RL.nil ⟨_, by simp; rfl, ?_⟩))))
  cases hb : newBad p c with
  | true =>
    rw [hb] at hms
    refine WL.seq (WL.sregC (RL.o (by simp; rfl) (RL.call0 false hms (by simp) (by simp) (RL.o (by simp; rfl) (RL.nil ⟨_, by simp; rfl, ?_⟩)))))
    refine WL.cond (t := true) (by simp) (fun _ => ?_) (by simp)
    refine WL.sreg (by simp; rfl) (by simp; rfl) (WL.ret ⟨rfl, ?_⟩)
    simp [fi88, walkF, hb]
  | false =>
    rw [hb] at hms
    have hok := newSt_ok' hb
    have i0 := hI hb
    refine WL.seq (WL.sregC (RL.o (by simp; rfl) (RL.call0 false hms (by simp) (by simp) (RL.o (by simp; rfl) (RL.nil ⟨_, by simp; rfl, ?_⟩)))))
    refine WL.cond (t := false) (by simp) (by simp) fun _ => WL.skip ?_
    refine WL.seq (WL.sreg (by simp; rfl) (by simp; rfl) ?_)
    unfold walkF
    rw [hb]
    simp only [Bool.false_eq_true, if_false]
    generalize newSt p c = s0 at hok i0 ⊢
    refine WL.block (WL.count l.length (fun i => wkS l c (Sh.nil.fv f cps) s0 ([(2300, 0, i64 l.length), (2400, 0, i64 i)] ++ Sh.nil.gh (B a) (D a))) (fun i => ∀ j, j < i → timesF l j c = true) rfl (fun j h => absurd h (Nat.not_lt_zero _)) fun i hi hp => ?_)
    by_cases hlt : i < l.length
    · have w : IntKind.wrap .i64 ((i : Int) + 1) = ((i + 1 : Nat) : Int) := by rw [wrap_small (by omega) (by omega)]; omega
      have ha := times_fn l hn i hlt c
      refine WL.sreg (by simp [hlt]; rfl) (by simp; rfl) ?_
      refine WL.seq (WL.cond (t := true) (by simp [hlt]) (fun _ => WL.skip ?_) (by simp))
      refine WL.seq (WL.block (WL.sreg (by simp [hlt]; rfl) (by simp; rfl) ?_))
      cases ht : timesF l i c with
      | true =>
        rw [ht] at ha
        refine WL.sregC (RL.o (by simp; rfl) (RL.call0 false ha (by simp) (by simp) (RL.o (by simp; rfl) (RL.nil ⟨_, by simp; rfl, ?_⟩))))
        refine WL.cond (t := false) (by simp) (by simp) fun _ => WL.skip ?_
        refine WL.reg (RL.run (by simp [w]; rfl) ⟨_, by simp; rfl, hlt, ?_, fun j hj => ?_⟩)
        · simp
        · by_cases e : j = i
          · subst e; exact ht
          · exact hp j (by omega)
      | false =>
        rw [ht] at ha
        have hf := firstBad_some hlt hp ht
        refine WL.sregC (RL.o (by simp; rfl) (RL.call0 false ha (by simp) (by simp) (RL.o (by simp; rfl) (RL.nil ⟨_, by simp; rfl, ?_⟩))))
        refine WL.cond (t := true) (by simp) (fun _ => ?_) (by simp)
        refine WL.sreg (by simp [w]; rfl) (by simp; rfl) (WL.ret ⟨rfl, ?_⟩)
        simp [fi88, hf]
    · obtain rfl : i = l.length := by omega
      have hf := firstBad_none hp
      rw [hf]
      refine WL.sreg (by simp; rfl) (by simp; rfl) ?_
      refine WL.seq (WL.cond (t := false) (by simp) (by simp) fun _ => WL.exit ?_)
      refine WL.seq (WL.label ?_)
      exact walk_stepsN hE hS s0 hok a i0 c hp l.length
set_option maxHeartbeats 16000000 in
theorem walk_fnO (hE : EvOk l) (hS : SeeOk l Sh.one f cps B D see Inv) (p c : Int) (a : σ) (hI : newBad p c = false → Inv a (newSt p c)) :
    FnC Try.prog 88 (Sh.one.gs (B a) (D a)) [sEv l, i64 p, i64 c, Sh.one.fv f cps] (Sh.one.gs (B (walkF see a l p c).2.2) (D (walkF see a l p c).2.2)) (i64 (walkF see a l p c).1) := by
  have hn := hE.n
  have e5 := hS.roots
  simp at e5
  have hms := may_fn (newSt p c) (newSt_sized p c)
  rw [May_new] at hms
  refine FnC.go ok88 rfl ?_
  refine WL.mono (Q' := wkQ (Sh.one.gs (B (walkF see a l p c).2.2) (D (walkF see a l p c).2.2)) (walkF see a l p c).1) ?_ fun x L h => ⟨.inr h.1, h.2⟩
  refine WL.sreg (by simp; rfl) (by simp [e5]; rfl) ?_
  refine WL.scope ?_
  refine WL.sregC (RL.o (by simp; rfl) (RL.newC p c (by simp) (RL.o (by simp; rfl) (RL.nil ⟨_, by simp [e5]; rfl, ?_⟩))))
  cases hb : newBad p c with
  | true =>
    rw [hb] at hms
    refine WL.seq (WL.sregC (RL.o (by simp; rfl) (RL.call0 false hms (by simp) (by simp) (RL.o (by simp; rfl) (RL.nil ⟨_, by simp [e5]; rfl, ?_⟩)))))
    refine WL.cond (t := true) (by simp) (fun _ => ?_) (by simp)
    refine WL.sreg (by simp; rfl) (by simp [e5]; rfl) (WL.ret ⟨rfl, ?_⟩)
    simp [fi88, walkF, hb]
  | false =>
    rw [hb] at hms
    have hok := newSt_ok' hb
    have i0 := hI hb
    refine WL.seq (WL.sregC (RL.o (by simp; rfl) (RL.call0 false hms (by simp) (by simp) (RL.o (by simp; rfl) (RL.nil ⟨_, by simp [e5]; rfl, ?_⟩)))))
    refine WL.cond (t := false) (by simp) (by simp) fun _ => WL.skip ?_
    refine WL.seq (WL.sreg (by simp; rfl) (by simp [e5]; rfl) ?_)
    unfold walkF
    rw [hb]
    simp only [Bool.false_eq_true, if_false]
    generalize newSt p c = s0 at hok i0 ⊢
    refine WL.block (WL.count l.length (fun i => wkS l c (Sh.one.fv f cps) s0 ([(2300, 0, i64 l.length), (2400, 0, i64 i)] ++ Sh.one.gh (B a) (D a))) (fun i => ∀ j, j < i → timesF l j c = true) rfl (fun j h => absurd h (Nat.not_lt_zero _)) fun i hi hp => ?_)
    by_cases hlt : i < l.length
    · have w : IntKind.wrap .i64 ((i : Int) + 1) = ((i + 1 : Nat) : Int) := by rw [wrap_small (by omega) (by omega)]; omega
      have ha := times_fn l hn i hlt c
      refine WL.sreg (by simp [hlt]; rfl) (by simp [e5]; rfl) ?_
      refine WL.seq (WL.cond (t := true) (by simp [hlt]) (fun _ => WL.skip ?_) (by simp))
      refine WL.seq (WL.block (WL.sreg (by simp [hlt]; rfl) (by simp [e5]; rfl) ?_))
      cases ht : timesF l i c with
      | true =>
        rw [ht] at ha
        refine WL.sregC (RL.o (by simp; rfl) (RL.call0 false ha (by simp) (by simp) (RL.o (by simp; rfl) (RL.nil ⟨_, by simp [e5]; rfl, ?_⟩))))
        refine WL.cond (t := false) (by simp) (by simp) fun _ => WL.skip ?_
        refine WL.reg (RL.run (by simp [w]; rfl) ⟨_, by simp [e5]; rfl, hlt, ?_, fun j hj => ?_⟩)
        · simp
        · by_cases e : j = i
          · subst e; exact ht
          · exact hp j (by omega)
      | false =>
        rw [ht] at ha
        have hf := firstBad_some hlt hp ht
        refine WL.sregC (RL.o (by simp; rfl) (RL.call0 false ha (by simp) (by simp) (RL.o (by simp; rfl) (RL.nil ⟨_, by simp [e5]; rfl, ?_⟩))))
        refine WL.cond (t := true) (by simp) (fun _ => ?_) (by simp)
        refine WL.sreg (by simp [w]; rfl) (by simp [e5]; rfl) (WL.ret ⟨rfl, ?_⟩)
        simp [fi88, hf]
    · obtain rfl : i = l.length := by omega
      have hf := firstBad_none hp
      rw [hf]
      refine WL.sreg (by simp; rfl) (by simp [e5]; rfl) ?_
      refine WL.seq (WL.cond (t := false) (by simp) (by simp) fun _ => WL.exit ?_)
      refine WL.seq (WL.label ?_)
      exact walk_stepsO hE hS s0 hok a i0 c hp l.length
end
end Go.OT
set_option linter.unusedSimpArgs false
set_option linter.unusedVariables false
namespace Go.OT
def deadL (n : Nat) : List AL := List.replicate n .dead
theorem fpL_dead (n b o : Nat) : ¬ fpL (deadL n) b o := by
  rw [fpL_iff]
  rintro ⟨c, hc, h⟩
  rw [List.eq_of_mem_replicate hc] at h
  simp [fp] at h
theorem SepL_dead : ∀ n, SepL (deadL n)
  | 0 => trivial
  | n + 1 => by
    show SepL (.dead :: deadL n)
    exact ⟨trivial, SepL_dead n, fun _ _ h => by simp [fp] at h⟩
theorem MemL_dead {w : World} {I : ASet} : ∀ {cs : List AL} {b o : Nat}, MemL w I true cs b o → MemL w I true (deadL cs.length) b o
  | [], _, _, _ => by show MemL w I true [] _ _; simp only [MemL]
  | c :: cs, b, o, h => by
    simp only [MemL] at h
    obtain ⟨⟨y, h1, _⟩, _, _, h4⟩ := h
    show MemL w I true (.dead :: deadL cs.length) b o
    have := MemL_dead h4
    simp only [MemL, CR, Mem]
    exact ⟨⟨y, h1, trivial⟩, trivial, (fun e => by cases e), this⟩
theorem RelL.wipeS {C : Ctx} {X : XF LO} {β : Nat → Nat × Nat} {I : ASet} {rg : Nat → Value} {w : World} (R : RelL C X β I rg w) (k : Nat) (hk : k % 100 = 0) {l : Loc} {cs : List AL} (hX : (X k).2 = .bx true (some l) cs) :
    RelL C (X.set k (.bx true (some l) (deadL cs.length))) β I rg w := by
  have hkp := keeps_set X β k (.bx true (some l) (deadL cs.length))
  have hf : ∀ k' b o, kfp β (X.set k (.bx true (some l) (deadL cs.length))) k' b o → kfp β X k' b o := by
    intro k' b o h
    by_cases e : k' = k
    · subst e
      simp only [kfp, XF.set_self] at h
      rcases h with h | ⟨h, _⟩
      · left; rw [hX]
        simp only [fp] at h ⊢
        rcases h with h | h
        · left; simpa [deadL] using h
        · exact absurd h (fpL_dead _ _ _)
      · unfold isCell at h; omega
    · simpa only [kfp, XF.set_ne _ _ e] using h
  refine ⟨fun t => ?_, fun k' => ?_, fun a b hne b' o h1 h2 => R.disj a b hne b' o (hf _ _ _ h1) (hf _ _ _ h2), fun b o h => ⟨(R.imm b o h).1, fun a ha => (R.imm b o h).2 a (hf _ _ _ ha)⟩, fun a b o h => R.frK a b o (hf _ _ _ h), R.frI, R.frI0, R.fr, R.gh, R.gr⟩
  · by_cases e : 100 * t = k
    · have := R.reg t
      rw [e] at this ⊢
      rw [hX] at this
      rw [XF.set_self]
      simp only [RR, CR] at this ⊢
      exact this
    · rw [XF.set_ne _ _ e]; exact RR_keep hkp _ _ (R.reg t)
  · by_cases e : k' = k
    · subst e
      have h := R.key k'
      have hm := h.mem
      rw [hX] at hm
      simp only [Mem] at hm
      refine ⟨by rw [XF.set_self]; simp only [Mem]; exact MemL_dead hm, by rw [XF.set_self]; simp only [Sep]; exact ⟨fun _ _ => fpL_dead _ _ _, SepL_dead _⟩, fun hc => by unfold isCell at hc; omega, fun b o hb => h.live b o (hf k' b o hb), fun h99 => by omega⟩
    · have h := R.key k'
      refine ⟨by rw [XF.set_ne _ _ e]; exact h.mem, by rw [XF.set_ne _ _ e]; exact h.sep, by rw [XF.set_ne _ _ e]; exact fun h1 h2 => ⟨(h.cell h1 h2).1.imp fun y hy => ⟨hy.1, hy.2.imp id fun h => ⟨h.1, RR_keep hkp _ _ h.2⟩⟩, (h.cell h1 h2).2⟩, fun b o hb => h.live b o (hf k' b o hb), by rw [XF.set_ne _ _ e]; exact h.last⟩
theorem RelT.wipe {C : Ctx} {X : XF Unit} {tm : Array Value} {w : World} (h : RelT C X tm w) (k : Nat) (hk : k % 100 = 0) (hkH : k ≠ 100 * H) (hH : roots (X (100 * H)).2 = []) {cs : List AU} (hX : (X k).2 = .bx true () cs)
    (h2 : ∀ t, rootR [k] (X (100 * t)).2 = true) (h3 : ∀ k', isCell k' → noR [k] (X k').2 = true) : RelT C (X.upd k (.bx true () (List.replicate cs.length .dead))) tm w := by
  obtain ⟨XL, β, I, rg, he, R, hs, ht⟩ := h
  subst he
  obtain ⟨l, lcs, hl, hlcs⟩ : ∃ l lcs, (XL k).2 = .bx true l lcs ∧ lcs.map er = cs := by
    have : er (XL k).2 = .bx true () cs := hX
    revert this
    generalize (XL k).2 = v
    intro this
    cases v <;> simp [er] at this
    rename_i o l lcs
    exact ⟨l, lcs, by rw [this.1], by rw [← erL_eq]; exact this.2⟩
  have hmem := (R.key k).mem
  rw [hl] at hmem
  cases l with
  | none => simp [Mem] at hmem
  | some l =>
    have R1 := R.wipeS k hk hl
    have e1 : (XL.set k (.bx true (some l) (deadL lcs.length)) k).2 = .bx true (some l) (deadL lcs.length) := by rw [XF.set_self]
    have hne : ∀ j, j ≠ k → (XL.set k (.bx true (some l) (deadL lcs.length))) j = XL j := fun j hj => XF.set_ne _ _ hj
    have hlen : lcs.length = cs.length := by rw [← hlcs]; simp
    have R2 := R.regen R1 [k] H (fun j hj => by simp at hj; subst hj; exact ⟨hk, hkH⟩) (fun _ _ => rfl) (by
        rw [hne _ (Ne.symm hkH)]
        have : roots (er (XL (100 * H)).2) = [] := hH
        rwa [er_roots] at this) (fun j hj _ => by
        rw [hne j (by intro e; subst e; simp at hj)]) (fun t => by
        by_cases e : 100 * t = k
        · rw [e, e1]; rfl
        · rw [hne _ e, ← er_rootR]; exact h2 t) (fun j hj => by
        have : j ≠ k := by intro e; subst e; unfold isCell at hj; omega
        rw [hne _ this, ← er_noR]; exact h3 j hj) (fun j hj => by
        simp at hj; subst hj; rw [hl, e1]; rfl)
    refine ⟨_, β, I, rg, ?_, R2, hs, ht⟩
    rw [erF_ungen]
    funext j
    by_cases e : j = k
    · subst e
      simp only [ungen, List.contains_cons, beq_self_eq_true, Bool.true_or, if_true, XF.upd_self, erF]
      rw [e1]
      simp only [er, erL_eq, deadL, List.map_replicate, hlen]
    · have hc : [k].contains j = false := by simp [e]
      simp only [ungen, hc, Bool.false_eq_true, if_false, XF.upd_ne _ _ e, erF, hne j e]
section
variable {P : Program} {nt : Nat} {L : SL} {Q : Ex → SL → Prop}
def wipeB (k : Nat) (L : SL) : Bool := decide (k % 100 = 0) && (!decide (k = 100 * H) && ((roots (fnL L (100 * H)).2).isEmpty && L.all fun e => rootR [k] e.2.2 && (decide (e.1 % 100 = 0) || noR [k] e.2.2)))
theorem RelT.wipeL {C : Ctx} {tm : Array Value} {w : World} (h : RelT C (fnL L) tm w) (k : Nat) {cs : List AU} (hX : (fnL L k).2 = .bx true () cs) (hB : wipeB k L = true) : RelT C (fnL (updL L k (.bx true () (List.replicate cs.length .dead)))) tm w := by
  simp only [wipeB, Bool.and_eq_true, decide_eq_true_eq, Bool.not_eq_true', decide_eq_false_iff_not, List.all_eq_true, Bool.or_eq_true, List.isEmpty_iff] at hB
  obtain ⟨a1, a2, a3, a4⟩ := hB
  have := h.wipe k a1 a2 a3 hX (fun t => ?_) (fun k' hc => ?_)
  · rwa [fnL_upd] at this
  · rcases fnL_mem L (100 * t) with h | ⟨e, he, _, h⟩
    · rw [h]; rfl
    · rw [h]; exact (a4 e he).1
  · rcases fnL_mem L k' with h | ⟨e, he, e1, h⟩
    · rw [h]; rfl
    · rw [h]
      rcases (a4 e he).2 with q | q
      · rw [e1] at q; exact absurd q hc.1
      · exact q
theorem WL.wipe {cc : Cd} (k : Nat) {cs : List AU} (hX : (fnL L k).2 = .bx true () cs) (hB : wipeB k L = true) (h : WL P nt cc (updL L k (.bx true () (List.replicate cs.length .dead))) Q) : WL P nt cc L Q := by
  intro C code hP hn hc a w hd hR
  exact h C code hP hn hc a w hd (hR.wipeL k hX hB)
theorem RL.wipe {K : SL → Prop} {segs : List Sg} (k : Nat) {cs : List AU} (hX : (fnL L k).2 = .bx true () cs) (hB : wipeB k L = true) (h : RL P nt segs (updL L k (.bx true () (List.replicate cs.length .dead))) K) : RL P nt segs L K := by
  intro C ops idx hP hnt hc a w Q hd hR hK
  exact h C ops idx hP hnt hc a w Q hd (hR.wipeL k hX hB) hK
end
attribute [simp] wipeB
end Go.OT
set_option linter.unusedSimpArgs false
set_option linter.unusedVariables false
namespace Go.OT
open Go.Proofs
theorem noSee_ok (l : List Ev) : SeeOk l .nil 0 [] (fun _ : Unit => []) (fun _ => []) noSee (fun _ _ => True) :=
  ⟨rfl, rfl, rfl, by simp, fun _ _ _ => rfl, fun _ _ _ _ _ _ _ => trivial, fun h => absurd rfl h⟩
set_option maxHeartbeats 8000000 in
theorem chk_fn (l : List Ev) (hE : EvOk l) (p c : Int) : FnC Try.prog 28 [] [sEv l, i64 p, i64 c] [] (i64 (chkF l p c)) := by
  have hw := walk_fnN hE (noSee_ok l) p c () (fun _ => trivial)
  rw [walkF_code] at hw
  simp only [Sh.gs, Sh.fv] at hw
  refine FnC.go ok28 rfl ?_
  refine WL.sreg (by simp; rfl) (by simp; rfl) ?_
  refine WL.sregC (RL.o (by simp; rfl) (RL.call0 false hw (by simp) (by simp) (RL.o (by simp; rfl) (RL.nil ⟨_, by simp; rfl, WL.ret ⟨.inr rfl, ?_⟩⟩))))
  simp [fi28]
set_option maxHeartbeats 8000000 in
theorem final1_fn (i : Int) (s t : St) : FnC Try.prog 89 [.nod (.bx true () (cellsS false s))] [i64 i, encS false t, .ptr 1000000 0 [] 0] [.nod (.bx true () (cellsS false t))] (.tuple []) := by
  refine FnC.go ok89 rfl ?_
  refine WL.sreg (by simp; rfl) (by simp; rfl) ?_
  refine WL.wipe 1000000 (by simp; rfl) (by simp) ?_
  refine WL.reg (RL.run (by simp; rfl) ⟨_, by simp; rfl, ?_⟩)
  refine ⟨.inl rfl, ?_⟩
  simp [fi89]
theorem lastSee_ok (l : List Ev) : SeeOk l .one 89 [.ptr 1000000 0 [] 0] (fun s : St => cellsS false s) (fun _ => []) (fun _ _ t => t) (fun _ _ => True) :=
  ⟨rfl, rfl, rfl, by simp, fun X k h => by
    obtain ⟨h1, b, h2⟩ := h (1000000, []) (by simp)
    simp at h1 h2
    simp [h1, h2, gkey], fun _ _ _ _ _ _ _ => trivial, fun _ a s u hu _ _ _ => final1_fn u a (stepR s l[u]).2⟩
set_option maxHeartbeats 16000000 in
theorem fin_fn (l : List Ev) (hE : EvOk l) (p c : Int) : FnC Try.prog 30 [] [sEv l, i64 p, i64 c] [] (.tuple [encS false (finF l p c).1, bl (finF l p c).2]) := by
  have hw := walk_fnO hE (lastSee_ok l) p c (newSt p c) (fun _ => trivial)
  rw [walkF_code] at hw
  simp only [Sh.gs, Sh.fv] at hw
  refine FnC.go ok30 rfl ?_
  refine WL.sreg (by simp; rfl) (by simp; rfl) ?_
  refine WL.sregC (RL.o (by simp; rfl) (RL.newC p c (by simp) (RL.o (by simp; rfl) (RL.nil ⟨_, by simp; rfl, ?_⟩))))
  rw [walkF_last] at hw
  refine WL.raise 8 3 (by simp) (by simp; rfl) (by simp) ?_
  by_cases h0 : chkF l p c = 0
  · have z : (chkF l p c != 0) = false := by simp [h0]
    have hfin : finF l p c = ((walkF noSee () l p c).2.1, true) := by unfold finF; rw [if_pos h0]
    rw [hfin]
    generalize (walkF noSee () l p c).2.1 = s at hw ⊢
    generalize newSt p c = s0 at hw ⊢
    refine WL.seq (WL.sregC (RL.o (by simp; rfl) (RL.callK false [(800, [])] hw (by simp) (by simp) (by simp [gkey]) (by simp) (by simp) (RL.o (by simp [z]; rfl) (RL.nil ⟨_, by simp; rfl, ?_⟩)))))
    refine WL.cond (t := false) (by simp) (by simp) fun _ => WL.skip ?_
    refine WL.sreg (by simp; rfl) (by simp; rfl) (WL.ret ⟨.inr rfl, ?_⟩)
    simp [fi30]
  · have z : (chkF l p c != 0) = true := by simp [h0]
    have hfin : finF l p c = (⟨[], [], []⟩, false) := by unfold finF; rw [if_neg h0]
    rw [hfin]
    generalize (walkF noSee () l p c).2.1 = s at hw ⊢
    generalize newSt p c = s0 at hw ⊢
    refine WL.seq (WL.sregC (RL.o (by simp; rfl) (RL.callK false [(800, [])] hw (by simp) (by simp) (by simp [gkey]) (by simp) (by simp) (RL.o (by simp [z]; rfl) (RL.nil ⟨_, by simp; rfl, ?_⟩)))))
    refine WL.cond (t := true) (by simp) (fun _ => ?_) (by simp)
    refine WL.sreg (by simp; rfl) (by simp; rfl) (WL.nil1 601 false 1 (by simp) (WL.nil1 602 false 1 (by simp) (WL.nil1 603 false 1 (by simp) (WL.ret ⟨.inr rfl, ?_⟩))))
    simp [fi30]
end Go.OT
set_option linter.unusedSimpArgs false
set_option linter.unusedVariables false
namespace Go.OT
open Go.Proofs
theorem RL.cut {P : Program} {nt : Nat} {L : SL} {K : SL → Prop} {segs segs' : List Sg} (e : flatS segs = flatS segs') (h : RL P nt segs' L K) : RL P nt segs L K := by
  intro C ops idx hP hn hc
  rw [e] at hc
  exact h C ops idx hP hn hc
@[simp] theorem rng14 : List.range 14 = [0, 1, 2, 3, 4, 5, 6, 7, 8, 9, 10, 11, 12, 13] := rfl
abbrev evA : Ev := ⟨0, ⟨1, 0, 0, 0, 0, []⟩, ⟨0, 0, 0, []⟩, 1, 2, 3⟩
abbrev evB : Ev := ⟨1, ⟨2, 0, 0, 0, 0, []⟩, ⟨0, 0, 0, []⟩, 1, 2, 2⟩
abbrev evC : Ev := ⟨1, ⟨2, 0, 0, 0, 0, []⟩, ⟨2, 0, 0, []⟩, 1, 1, 2⟩
abbrev evD : Ev := ⟨0, ⟨1, 0, 0, 0, 0, []⟩, ⟨0, 0, 0, []⟩, 1, 5, 3⟩
theorem told_v0 : chkF [] 2 2 = 0 := by kernel_rfl
theorem told_v1 : chkF [evA, evB] 2 2 = 0 := by kernel_rfl
theorem told_v2 : chkF [evA, evC] 2 2 = 0 := by kernel_rfl
theorem told_v3 : chkF [evA] 0 2 = -1 := by kernel_rfl
theorem told_v4 : chkF [evD] 2 2 = 1 := by kernel_rfl
theorem told_v5 : chkF [evB] 2 2 = 1 := by kernel_rfl
theorem told_v6 : ordF [evA, evC] = [1, 0] := by kernel_rfl
theorem told_v7 : (finF [evA] 2 2).2 = true := by kernel_rfl
theorem told_v8 : badF 1 8 = true ∧ badF 1 10 = false := ⟨by kernel_rfl, by kernel_rfl⟩
theorem evOk_of {l : List Ev} (hn : l.length ≤ 1000) (hd : ∀ e ∈ l, e.op.Data = []) : EvOk l := ⟨hn, fun e he => by rw [hd e he]; simp⟩
set_option maxRecDepth 20000 in
set_option maxHeartbeats 32000000 in
theorem histTold_fn : FnC Try.prog 27 [] [] [] (bl true) := by
  have h0 := chk_fn [] (evOk_of (by simp) (by simp)) 2 2
  have h1 := chk_fn [evA, evB] (evOk_of (by simp) (by simp)) 2 2
  have h2 := chk_fn [evA, evC] (evOk_of (by simp) (by simp)) 2 2
  have h3 := chk_fn [evA] (evOk_of (by simp) (by simp)) 0 2
  have h4 := chk_fn [evD] (evOk_of (by simp) (by simp)) 2 2
  have h5 := chk_fn [evB] (evOk_of (by simp) (by simp)) 2 2
  have h6 := order_fn [evA, evC] (by simp)
  have h7 := fin_fn [evA] (evOk_of (by simp) (by simp)) 2 2
  have h8 := bad_fn ⟨1, 0, 0, 0, 0, []⟩ 8
  have h9 := bad_fn ⟨1, 0, 0, 0, 0, []⟩ 10
  rw [told_v0] at h0; rw [told_v1] at h1; rw [told_v2] at h2; rw [told_v3] at h3; rw [told_v4] at h4; rw [told_v5] at h5; rw [told_v6] at h6; rw [told_v7] at h7; rw [told_v8.1] at h8; rw [told_v8.2] at h9
  generalize (finF [evA] 2 2).1 = s at h7
  refine FnC.go ok27 rfl ?_
  refine WL.sreg (by simp; rfl) (by simp; rfl) ?_
  refine WL.sreg (by simp; rfl) (by simp; rfl) (WL.nil1 107 false 1 (by simp) (WL.nil1 111 false 1 (by simp) ?_))
  refine WL.sreg (by simp; rfl) (by simp; rfl) (WL.nil1 207 false 1 (by simp) (WL.nil1 211 false 1 (by simp) ?_))
  refine WL.sreg (by simp; rfl) (by simp; rfl) (WL.nil1 307 false 1 (by simp) (WL.nil1 311 false 1 (by simp) ?_))
  refine WL.sregC (RL.o (by simp; rfl) (RL.freeze 1500 (RL.call0 false h7 (by simp) (by simp) (RL.o (by simp; rfl) (RL.nil ⟨_, by simp; rfl, ?_⟩)))))
  refine WL.sregC ?_
  refine RL.call0 false h0 (by simp) (by simp) (RL.o (by simp; rfl) ?_)
  refine RL.g (by simp; rfl) (RL.freeze 2400 (RL.callY0 false (by simp) h1 (by simp) (by simp) (RL.g (by simp; rfl) (RL.o (by simp; rfl) ?_))))
  refine RL.fin [19, 20, 21, 22, 23, 24, 25, 26, 27] (by simp; rfl) ?_
  refine RL.g (by simp; rfl) (RL.freeze 3100 (RL.callY0 false (by simp) h2 (by simp) (by simp) (RL.g (by simp; rfl) (RL.o (by simp; rfl) ?_))))
  refine RL.fin [28, 29, 30, 31, 32, 33, 34] (by simp; rfl) ?_
  refine RL.g (by simp; rfl) (RL.freeze 3700 (RL.callY0 false (by simp) h3 (by simp) (by simp) (RL.g (by simp; rfl) (RL.o (by simp; rfl) ?_))))
  refine RL.fin [35, 36, 37, 38, 39, 40] (by simp; rfl) ?_
  refine RL.cut (segs' := .g 41 true [.faddr 42 1 (.t 1), .ld 43 6 true (.t 42), .build 44 [(.sc (.int .i64 0)), (.sc (.int .i64 0)), (.sc (.int .i64 0)), (.sc (.int .i64 0)), (.sc (.int .i64 0)), (.sc (.int .i64 0)), (.sc (.slice none 0 0)), (.sc (.int .i64 0)), (.sc (.int .i64 0)), (.sc (.int .i64 0)), (.sc (.slice none 0 0)), (.sc (.int .i64 0)), (.sc (.int .i64 0)), (.sc (.int .i64 0))] [(1, 6, (.t 43)), (11, 1, (cI 1)), (12, 1, (cI 5)), (13, 1, (cI 3))]] :: .g 41 true [.bs1 45 14 (.t 44)] :: _) rfl ?_
  refine RL.g (by simp; rfl) (RL.nilA 44 10 1 (by simp; rfl) rfl rfl ?_)
  refine RL.g (by simp; rfl) (RL.freeze 4500 (RL.callY0 false (by simp) h4 (by simp) (by simp) (RL.g (by simp; rfl) (RL.o (by simp; rfl) ?_))))
  refine RL.fin [41, 42, 43, 44, 45, 46, 47, 48] (by simp; rfl) ?_
  refine RL.g (by simp; rfl) (RL.freeze 5100 (RL.callY0 false (by simp) h5 (by simp) (by simp) (RL.g (by simp; rfl) (RL.o (by simp; rfl) ?_))))
  refine RL.fin [49, 50, 51, 52, 53, 54] (by simp; rfl) ?_
  refine RL.g (by simp; rfl) (RL.freeze 5800 (RL.callY0 false (by simp) h6 (by simp) (by simp) (RL.g (by simp; rfl) (RL.o (by simp; rfl) ?_))))
  refine RL.fin [55, 56, 57, 58, 59, 60, 61, 62] (by simp; rfl) ?_
  refine RL.g (by simp; rfl) (RL.freeze 6600 (RL.callY0 false (by simp) h6 (by simp) (by simp) (RL.g (by simp; rfl) (RL.o (by simp; rfl) ?_))))
  refine RL.fin [63, 64, 65, 66, 67, 68, 69, 70, 71] (by simp; rfl) ?_
  refine RL.g (by simp; rfl) (RL.o (by simp; rfl) ?_)
  refine RL.g (by simp; rfl) (RL.callY0 false (by simp) h8 (by simp) (by simp) (RL.o (by simp; rfl) ?_))
  refine RL.g (by simp; rfl) (RL.callY0 false (by simp) h9 (by simp) (by simp) (RL.g (by simp; rfl) (RL.o (by simp; rfl) (RL.nil ⟨_, by simp; rfl, WL.ret ⟨.inr rfl, ?_⟩⟩))))
  simp [fi27]
end Go.OT
set_option linter.unusedSimpArgs false
set_option linter.unusedVariables false
namespace Go.OT
open Go.Proofs
set_option maxHeartbeats 8000000 in
theorem ints_fn (a b : List Int) (ha : Small a.length) : FnC Try.prog 32 [] [sI false a, sI false b] [] (bl (a == b)) := by
  refine FnC.go ok32 rfl ?_
  refine WL.sreg (by simp; rfl) (by simp; rfl) ?_
  refine WL.seq (WL.sreg (by simp; rfl) (by simp; rfl) ?_)
  refine WL.cond (t := ((a.length : Int) != (b.length : Int))) (by simp) (fun hl => ?_) (fun hl => WL.skip ?_)
  · refine WL.sreg (by simp; rfl) (by simp; rfl) (WL.ret ⟨.inr rfl, ?_⟩)
    have h1 : ¬ (a.length : Int) = b.length := by simpa using hl
    have : (a == b) = false := by rw [beq_eq_false_iff_ne]; intro e; exact h1 (by rw [e])
    simp [fi32, this]
  have hab' : (a.length : Int) = b.length := by simpa using hl
  have hab : a.length = b.length := by omega
  refine WL.seq (WL.sreg (by simp; rfl) (by simp; rfl) ?_)
  refine WL.block (WL.count a.length (fun i => [(0, 0, sI false a), (100, 0, sI false b), (500, 0, i64 i)]) (fun i => a.take i = b.take i) (by simp) rfl fun i hi hinv => ?_)
  by_cases h : i < a.length
  · have h' : i < b.length := by omega
    refine WL.seq (WL.sreg (by simp [h]; rfl) (by simp; rfl) ?_)
    refine WL.cond (t := true) (by simp [h]) (fun _ => WL.skip ?_) (by simp)
    refine WL.seq (WL.block (WL.seq ?_))
    refine WL.draw mixed (by simp [cleanL, noH]) (DL.run (by simp [h, h']; exact ⟨rfl, rfl⟩) ⟨by kernel_rfl, _, by simp; rfl, ?_⟩)
    refine WL.cond (t := a[i] != b[i]) (by simp) (fun hv => ?_) (fun hv => WL.skip ?_)
    · refine WL.sreg (by simp; rfl) (by simp; rfl) (WL.ret ⟨.inr rfl, ?_⟩)
      simp [fi32, list_ne_at h h' (by simpa using hv)]
    · refine WL.reg (RL.run (by simp [wrap_succ ha h]; rfl) ⟨_, by simp; rfl, ?_⟩)
      exact ⟨h, by simp, take_succ_eq h h' hinv (by simpa using hv)⟩
  · refine WL.seq (WL.sreg (by simp [h]; rfl) (by simp; rfl) ?_)
    refine WL.cond (t := false) (by simp [h]) (by simp) (fun _ => WL.exit ?_)
    refine WL.sreg (by simp; rfl) (by simp; rfl) (WL.ret ⟨.inr rfl, ?_⟩)
    have : i = a.length := by omega
    subst this
    simp [fi32, list_eq_of hab hinv]
def shortE (e : Ev) : Bool := decide (e.op.Data.length ≤ 40) && decide (e.res.Data.length ≤ 40)
def fewE (l : List Ev) : Bool := l.all shortE && decide (l.length ≤ 60)
set_option maxHeartbeats 8000000 in
theorem histFew_fn (l : List Ev) (hl : l.length ≤ 9223372036854775807) : FnC Try.prog 29 [] [sEv l] [] (bl (fewE l)) := by
  refine FnC.go ok29 rfl ?_
  refine WL.sreg (by simp; rfl) (by simp; rfl) ?_
  refine WL.seq (WL.sreg (by simp; rfl) (by simp; rfl) ?_)
  refine WL.block (WL.count l.length (fun i => [(0, 0, sEv l), (300, 0, i64 i)]) (fun i => ∀ j (hj : j < l.length), j < i → shortE l[j] = true) (by simp) (fun j _ h => absurd h (Nat.not_lt_zero _)) fun i hi hp => ?_)
  by_cases h : i < l.length
  · have w : IntKind.wrap .i64 ((i : Int) + 1) = ((i + 1 : Nat) : Int) := by rw [wrap_small (by omega) (by omega)]; omega
    have f1 := fmE_drop (o := false) (r := false) h
    have g1 : 14 ≤ l.length * 14 - i * 14 := by omega
    refine WL.seq (WL.sreg (by simp [h]; rfl) (by simp; rfl) ?_)
    refine WL.cond (t := true) (by simp [h]) (fun _ => WL.skip ?_) (by simp)
    have bad : shortE l[i] = false → fewE l = false := fun hs => by
      have : l.all shortE = false := List.all_eq_false.2 ⟨_, List.getElem_mem h, by simp [hs]⟩
      simp [fewE, this]
    by_cases k : 40 < l[i].op.Data.length
    · have k' : (40 : Int) < l[i].op.Data.length := by omega
      have hv := bad (by simp [shortE]; omega)
      refine WL.seq (WL.block (WL.sreg (by simp [h, f1, g1, k, k']; rfl) (by simp; rfl) ?_))
      refine WL.cond (t := true) (by simp) (fun _ => WL.sreg (by simp; rfl) (by simp; rfl) (WL.ret ⟨.inr rfl, ?_⟩)) (by simp)
      simp [fi29, hv]
    · have k' : ¬ (40 : Int) < l[i].op.Data.length := by omega
      by_cases k2 : 40 < l[i].res.Data.length
      · have k2' : (40 : Int) < l[i].res.Data.length := by omega
        have hv := bad (by simp [shortE]; omega)
        refine WL.seq (WL.block (WL.sreg (by simp [h, f1, g1, k, k', k2, k2']; rfl) (by simp; rfl) ?_))
        refine WL.cond (t := true) (by simp [k2, k2']) (fun _ => WL.sreg (by simp; rfl) (by simp; rfl) (WL.ret ⟨.inr rfl, ?_⟩)) (by simp)
        simp [fi29, hv]
      · have k2' : ¬ (40 : Int) < l[i].res.Data.length := by omega
        refine WL.seq (WL.block (WL.sreg (by simp [h, f1, g1, k, k', k2, k2']; rfl) (by simp; rfl) ?_))
        refine WL.cond (t := false) (by simp [k2, k2']) (by simp) fun _ => WL.skip ?_
        refine WL.reg (RL.run (by simp [w]; rfl) ⟨_, by simp; rfl, h, ?_, fun j hj hji => ?_⟩)
        · simp
        · by_cases e : j = i
          · subst e; simp [shortE]; omega
          · exact hp j hj (by omega)
  · obtain rfl : i = l.length := by omega
    have ha : l.all shortE = true := List.all_eq_true.2 fun e he => by
      obtain ⟨j, hj, rfl⟩ := List.mem_iff_getElem.1 he
      exact hp j hj hj
    refine WL.seq (WL.sreg (by simp; rfl) (by simp; rfl) ?_)
    refine WL.cond (t := false) (by simp) (by simp) fun _ => WL.exit ?_
    refine WL.sreg (by simp; rfl) (by simp; rfl) (WL.ret ⟨.inr rfl, ?_⟩)
    simp [fi29, fewE, ha]
    try omega
theorem fewE_ok {l : List Ev} (h : fewE l = true) : l.length ≤ 60 ∧ ∀ e ∈ l, e.op.Data.length ≤ 40 ∧ e.res.Data.length ≤ 40 := by
  simp only [fewE, Bool.and_eq_true, decide_eq_true_eq, List.all_eq_true, shortE] at h
  exact ⟨h.2, fun e he => h.1 e he⟩
end Go.OT
set_option linter.unusedSimpArgs false
set_option linter.unusedVariables false
namespace Go.OT
open Go.Proofs
theorem goW_ok {σ : Type} (l : List Ev) (see : σ → Int → St → σ) : ∀ (o : List Int) (s : St) (a : σ), OkSt s → OkSt (goW l see s a o).2.1
  | [], s, a, h => h
  | x :: r, s, a, h => by
    simp only [goW]
    split
    · exact goW_ok l see r _ _ (stepR_ok h _)
    · exact h
theorem finF_ok {l : List Ev} {p c : Int} (h : (finF l p c).2 = true) : OkSt (finF l p c).1 := by
  unfold finF at h ⊢
  split at h
  · rename_i h0
    rw [if_pos h0]
    cases hb : newBad p c with
    | true => unfold chkF walkF at h0; rw [hb] at h0; simp at h0
    | false =>
      have hok := newSt_ok' hb
      unfold walkF
      rw [hb]
      simp only [Bool.false_eq_true, if_false]
      split
      · exact hok
      · exact goW_ok _ _ _ _ _ hok
  · cases h
theorem EvOk.of_few {l : List Ev} (h : fewE l = true) : EvOk l := by
  obtain ⟨h1, h2⟩ := fewE_ok h
  exact ⟨by omega, fun e he => by have := (h2 e he).1; omega⟩
abbrev haQ : Ex → SL → Prop := fun e L => e = Ex.ret ∧ RetOk fi6.rs [] (bl true) L
abbrev bxO8 (q : Op) : SL := [(800, 0, .bptr 8 1 0), (801, 0, i64 q.Kind), (802, 0, i64 q.Page), (803, 0, i64 q.Handle), (804, 0, i64 q.Off), (805, 0, i64 q.N), (806, 0, sU false q.Data), (899, 1, .non)]
abbrev haS (l : List Ev) (p c : Int) (q : Op) (code : Int) (r : SL) : SL := [(0, 0, sEv l), (100, 0, i64 p), (200, 0, i64 c), (400, 0, i64 code)] ++ (bxO8 q ++ r)
set_option maxHeartbeats 32000000 in
theorem histAsks_ok (l : List Ev) (hE : EvOk l) (p c : Int) (q : Op) (code : Int) : WL Try.prog fi6.nt c6_4 (haS l p c q code [(2300, 0, bl false)]) haQ := by
  have hf := fin_fn l hE p c
  have hr := reffin_fn l hE p c
  have hchk := chk_fn l hE p c
  have hrchk := refchk_fn l hE p c
  have hbad := bad_fn q code
  have hrbad := refbad_fn q code
  have hord := order_fn l hE.n
  have hrord := reforder_fn l hE.n
  have hints := ints_fn (ordF l) (ordF l) (by have := ordF_len l; have := hE.n; unfold Small; omega)
  simp only [beq_self_eq_true] at hints
  have hok := fun h => finF_ok (l := l) (p := p) (c := c) h
  generalize finF l p c = x at hf hr hok
  obtain ⟨s, b⟩ := x
  simp only at hf hr hok
  refine WL.sregC (RL.o (by simp; rfl) (RL.call0 false hf (by simp) (by simp) (RL.o (by simp; rfl) (RL.nil ⟨_, by simp; rfl, ?_⟩))))
  refine WL.sregC (RL.o (by simp; rfl) (RL.call0 false hr (by simp) (by simp) (RL.mv (by decide) (RL.o (by simp; rfl) (RL.nil ⟨_, by simp; rfl, ?_⟩)))))
  refine WL.seq ?_
  cases b with
  | true =>
    have h := hok rfl
    have his := is_fn s h.sized h.bn
    refine WL.draw mixed (by simp [cleanL, noH]) ?_
    refine DL.call0 false histTold_fn (by simp) (by simp) (DL.o (by simp; exact ⟨rfl, rfl⟩) (DL.g (by simp; exact ⟨rfl, rfl⟩) ?_))
    refine DL.callY0 false (by simp) hord (by simp) (by simp) (DL.g (by simp; exact ⟨rfl, rfl⟩) ?_)
    refine DL.callY0 false (by simp) hrord (by simp) (by simp) ?_
    refine DL.callY0 true (by simp) hints (by simp) (by simp) (DL.o (by simp; exact ⟨rfl, rfl⟩) (DL.g (by simp; exact ⟨rfl, rfl⟩) ?_))
    refine DL.callY0 false (by simp) hchk (by simp) (by simp) (DL.g (by simp; exact ⟨rfl, rfl⟩) ?_)
    refine DL.callY0 false (by simp) hrchk (by simp) (by simp) (DL.g (by simp; exact ⟨rfl, rfl⟩) (DL.o (by simp; exact ⟨rfl, rfl⟩) ?_))
    refine DL.g (by simp; exact ⟨rfl, rfl⟩) (DL.o (by simp; exact ⟨rfl, rfl⟩) (DL.g (by simp; exact ⟨rfl, rfl⟩) (DL.g (by simp; exact ⟨rfl, rfl⟩) ?_)))
    refine DL.callY0 true (by simp) his (by simp) (by simp) ?_
    refine DL.g (by simp; exact ⟨rfl, rfl⟩) (DL.o (by simp; exact ⟨rfl, rfl⟩) (DL.g (by simp; exact ⟨rfl, rfl⟩) ?_))
    refine DL.callY0 false (by simp) hbad (by simp) (by simp) (DL.g (by simp; exact ⟨rfl, rfl⟩) ?_)
    refine DL.callY0 false (by simp) hrbad (by simp) (by simp) (DL.g (by simp; exact ⟨rfl, rfl⟩) (DL.o (by simp; exact ⟨rfl, rfl⟩) (DL.nil ⟨by kernel_rfl, _, by simp; rfl, ?_⟩)))
    refine WL.ret ⟨rfl, ?_⟩
    simp [fi6]
  | false =>
    refine WL.draw mixed (by simp [cleanL, noH]) ?_
    refine DL.call0 false histTold_fn (by simp) (by simp) (DL.o (by simp; exact ⟨rfl, rfl⟩) (DL.g (by simp; exact ⟨rfl, rfl⟩) ?_))
    refine DL.callY0 false (by simp) hord (by simp) (by simp) (DL.g (by simp; exact ⟨rfl, rfl⟩) ?_)
    refine DL.callY0 false (by simp) hrord (by simp) (by simp) ?_
    refine DL.callY0 true (by simp) hints (by simp) (by simp) (DL.o (by simp; exact ⟨rfl, rfl⟩) (DL.g (by simp; exact ⟨rfl, rfl⟩) ?_))
    refine DL.callY0 false (by simp) hchk (by simp) (by simp) (DL.g (by simp; exact ⟨rfl, rfl⟩) ?_)
    refine DL.callY0 false (by simp) hrchk (by simp) (by simp) (DL.g (by simp; exact ⟨rfl, rfl⟩) (DL.o (by simp; exact ⟨rfl, rfl⟩) ?_))
    refine DL.g (by simp; exact ⟨rfl, rfl⟩) (DL.o (by simp; exact ⟨rfl, rfl⟩) (DL.g (by simp; exact ⟨rfl, rfl⟩) (DL.g (by simp; exact ⟨rfl, rfl⟩) ?_)))
    refine DL.callN (by simp) ?_
    refine DL.g (by simp; exact ⟨rfl, rfl⟩) (DL.o (by simp; exact ⟨rfl, rfl⟩) (DL.g (by simp; exact ⟨rfl, rfl⟩) ?_))
    refine DL.callY0 false (by simp) hbad (by simp) (by simp) (DL.g (by simp; exact ⟨rfl, rfl⟩) ?_)
    refine DL.callY0 false (by simp) hrbad (by simp) (by simp) (DL.g (by simp; exact ⟨rfl, rfl⟩) (DL.o (by simp; exact ⟨rfl, rfl⟩) (DL.nil ⟨by kernel_rfl, _, by simp; rfl, ?_⟩)))
    refine WL.ret ⟨rfl, ?_⟩
    simp [fi6]
set_option maxHeartbeats 32000000 in
theorem histAsks_law (l : List Ev) (hl : l.length ≤ 9223372036854775807) (p c : Int) (q : Op) (code : Int) : FnC Try.prog 6 [] [sEv l, i64 p, i64 c, encO false q, i64 code] [] (bl true) := by
  refine FnC.go ok6 rfl ?_
  refine WL.mono (Q' := haQ) ?_ fun e L h => ⟨.inr h.1, h.2⟩
  refine WL.sreg (by simp; rfl) (by simp; rfl) ?_
  have tl : WL Try.prog fi6.nt c6_0 (haS l p c q code [(2300, 0, bl true)]) haQ := by
    refine WL.sregC (RL.call0 false histTold_fn rfl rfl (RL.o (by simp; rfl) (RL.nil ⟨_, by simp; rfl, ?_⟩)))
    refine WL.ret ⟨rfl, ?_⟩
    simp [fi6]
  refine WL.seq (WL.sregC (RL.o (by simp; rfl) (RL.call0 false (histFew_fn l hl) (by simp) (by simp) ?_)))
  cases hf : fewE l with
  | false =>
    refine RL.o (by simp; rfl) (RL.g (by simp; rfl) (RL.o (by simp; rfl) (RL.nil ⟨_, by simp; rfl, ?_⟩)))
    refine WL.cond (t := true) (by simp) (fun _ => ?_) (by simp)
    exact WL.mono tl fun e L h => h.1 ▸ ⟨rfl, h.2⟩
  | true =>
  by_cases hd : (40 : Int) < q.Data.length
  · refine RL.o (by simp; rfl) (RL.g (by simp [hd]; rfl) (RL.o (by simp; rfl) (RL.nil ⟨_, by simp; rfl, ?_⟩)))
    refine WL.cond (t := true) (by simp [hd]) (fun _ => ?_) (by simp)
    exact WL.mono tl fun e L h => h.1 ▸ ⟨rfl, h.2⟩
  refine RL.o (by simp; rfl) (RL.g (by simp [hd]; rfl) (RL.o (by simp; rfl) (RL.nil ⟨_, by simp; rfl, ?_⟩)))
  refine WL.cond (t := false) (by simp [hd]) (by simp) fun _ => WL.skip ?_
  exact histAsks_ok l (EvOk.of_few hf) p c q code
end Go.OT
