/-
  Code over abstract states.
-/
import Derived.Test.YtpdigppbokpdkaaOtN
import Derived.Scope
set_option linter.unusedSimpArgs false
set_option linter.unusedVariables false
namespace Go.OT

inductive Ex where
  | nrm
  | ext (id : Nat)
  | ret

/-- What holds at the end of a piece of code. -/
def CQ (C : Ctx) (Q : Ex → XF Unit → Prop) : Exit → Act → World → Prop
  | .normal, a, w => a.defers = [] ∧ ∃ X, RelT C X a.tmps w ∧ Q .nrm X
  | .exit id, a, w => a.defers = [] ∧ ∃ X, RelT C X a.tmps w ∧ Q (.ext id) X
  | .ret, a, w => a.defers = [] ∧ ∃ X, RelT C X a.tmps w ∧ Q .ret X
  | _, _, _ => False

def AWp (C : Ctx) (c : Code) (X : XF Unit) (Q : Ex → XF Unit → Prop) : Prop :=
  ∀ a w, a.defers = [] → RelT C X a.tmps w → c.wp C.P (CQ C Q) a w

section
variable {C : Ctx} {X : XF Unit} {Q : Ex → XF Unit → Prop}

theorem AWp.skip (h : Q .nrm X) : AWp C .skip X Q := fun a w hd hr => wp_skip ⟨hd, X, hr, h⟩
theorem AWp.label {l : Nat} (h : Q .nrm X) : AWp C (.label l) X Q := fun a w hd hr => wp_label ⟨hd, X, hr, h⟩
theorem AWp.exit {id : Nat} (h : Q (.ext id) X) : AWp C (.exit id) X Q := fun a w hd hr => wp_exit ⟨hd, X, hr, h⟩
theorem AWp.ret (h : Q .ret X) : AWp C .ret X Q := fun a w hd hr => wp_ret ⟨hd, X, hr, h⟩

/-- On the normal way on to 'next'. -/
def Ex.then (next : XF Unit → Prop) (Q : Ex → XF Unit → Prop) : Ex → XF Unit → Prop
  | .nrm, X => next X
  | e, X => Q e X

theorem AWp.seq {x y : Code} (h : AWp C x X (Ex.then (fun X' => AWp C y X' Q) Q)) : AWp C (.seq x y) X Q := by
  intro a w hd hr
  refine wp_seq (wp_mono (h a w hd hr) fun e a w hq => ?_)
  cases e with
  | normal =>
    obtain ⟨h1, X', h2, h3⟩ := hq
    exact h3 a w h1 h2
  | exit id => exact hq
  | ret => exact hq
  | goto l => exact hq
  | panic c => exact hq
  | outgrown => exact hq

theorem AWp.cond {c : Operand} {sz : Nat} {co : COd} {x y : Code} {b : Bool} (hc : compOd C.nt sz c = some co) (hb : rd X co = .sc (.bool b)) (ht : b = true → AWp C x X Q) (hf : b = false → AWp C y X Q) : AWp C (.cond c x y) X Q := by
  intro a w hd hr
  have hev : a.eval c = .bool b := by
    obtain ⟨XL, β, I, rg, he, R, hs, hrg⟩ := hr
    have h := opd R hc
    rw [he, hb] at h
    have := h.sc
    cases c with
    | tmp t =>
      by_cases hlt : t < C.nt
      · show a.tmps.getD t undef = _
        rw [hrg t hlt]; exact this
      · simp [compOd, hlt] at hc
    | const v => exact this
    | func f => exact this
    | global g => exact this
  exact wp_cond_split hev (fun h => ht h a w hd hr) (fun h => hf h a w hd hr)

/-- At the end of a block. -/
def Ex.blk (id : Nat) (Q : Ex → XF Unit → Prop) : Ex → XF Unit → Prop
  | .ext id', X => if id' = id then Q .nrm X else Q (.ext id') X
  | e, X => Q e X

theorem AWp.block {id : Nat} {x : Code} (h : AWp C x X (Ex.blk id Q)) : AWp C (.block id x) X Q := by
  intro a w hd hr
  refine wp_block (wp_mono (h a w hd hr) fun e a w hq => ?_)
  cases e with
  | exit id' =>
    obtain ⟨h1, X', h2, h3⟩ := hq
    simp only [Ex.blk] at h3
    simp only [Exit.inBlock]
    split <;> rename_i e
    · rw [if_pos e] at h3; exact ⟨h1, X', h2, h3⟩
    · rw [if_neg e] at h3; exact ⟨h1, X', h2, h3⟩
  | normal => exact hq
  | ret => exact hq
  | goto l => exact hq
  | panic c => exact hq
  | outgrown => exact hq

theorem AWp.scope {x : Code} (h : AWp C x X Q) : AWp C (.scope x) X Q := by
  intro a w hd hr
  refine wp_scope_straight (wp_mono (h a w hd hr) fun e a w hq => ?_)
  cases e <;> first | exact hq | exact hq.elim

/-- A loop: a family of states, a measure that each round lowers. -/
theorem AWp.loop {ι : Type} {body : Code} (S : ι → XF Unit) (μ : ι → Nat) (i : ι) (h : ∀ i, AWp C body (S i) (Ex.then (fun X' => ∃ j, X' = S j ∧ μ j < μ i) Q)) : AWp C (.loop body) (S i) Q := by
  intro a0 w0 hd0 hr0 b k cs
  have key : ∀ n i, μ i = n → ∀ a w, a.defers = [] → RelT C (S i) a.tmps w →
      ∃ e a' w', CQ C Q e a' w' ∧ Arrives C.P (lone (b.at a (.code body :: .inLoop body :: k)) cs w) b k cs e a' w' := by
    intro n
    induction n using Nat.strongRecOn with
    | _ n ih =>
      intro i hn a w hd hr
      obtain ⟨e, a₁, w₁, hq, harr⟩ := h i a w hd hr b (.inLoop body :: k) cs
      cases e with
      | normal =>
        obtain ⟨h1, X', h2, j, rfl, hlt⟩ := hq
        obtain ⟨e₂, a₂, w₂, hq₂, harr₂⟩ := ih (μ j) (hn ▸ hlt) j rfl a₁ w₁ h1 h2
        exact ⟨e₂, a₂, w₂, hq₂, .of_steps (Steps.trans harr (.one step_inLoop)) harr₂⟩
      | exit id => exact ⟨.exit id, a₁, w₁, hq, .pass (x := .inLoop body) rfl (fun _ _ => .inl (by simp)) harr⟩
      | ret => exact ⟨.ret, a₁, w₁, hq, .pass (x := .inLoop body) rfl (fun _ _ => .inl (by simp)) harr⟩
      | goto l => exact hq.elim
      | panic ch => exact hq.elim
      | outgrown => exact hq.elim
  obtain ⟨e, a', w', hq, harr⟩ := key _ i rfl a0 w0 hd0 hr0
  exact ⟨e, a', w', hq, .of_steps (.one step_loop) harr⟩
end

/-! ### What is forgotten -/
mutual
def roots {L : Type} : AV L → List Nat
  | .view k _ _ _ _ => [k]
  | .ptr k _ _ _ => [k]
  | .bptr b _ _ => [100 * b + 99]
  | .agg cs => rootsL cs
  | .tuple cs => rootsL cs
  | .clos _ cs => rootsL cs
  | _ => []
def rootsL {L : Type} : List (AV L) → List Nat
  | [] => []
  | c :: cs => roots c ++ rootsL cs
end

mutual
theorem er_roots : ∀ v : AL, roots (er v) = roots v
  | .agg cs => by simp only [er, roots]; exact er_rootsL cs
  | .tuple cs => by simp only [er, roots]; exact er_rootsL cs
  | .clos _ cs => by simp only [er, roots]; exact er_rootsL cs
  | .sl _ _ _ _ _ | .bx _ _ _ | .sc _ | .view _ _ _ _ _ | .ptr _ _ _ _ | .bptr _ _ _ | .vptr _ _ | .dead | .non => by simp [er, roots]
theorem er_rootsL : ∀ vs : List AL, rootsL (erL vs) = rootsL vs
  | [] => rfl
  | v :: vs => by simp only [erL, rootsL, er_roots v, er_rootsL vs]
end

mutual
theorem RR_roots {X X' : XF LO} {β : Nat → Nat × Nat} : ∀ (v : AL) (x : Value), (∀ k ∈ roots v, X' k = X k) → RR X β v x → RR X' β v x
  | .view k g p off len, x, hk, h => by
    have := hk k (by simp [roots])
    simp only [RR, this] at h ⊢; exact h
  | .ptr k g p i, x, hk, h => by
    have := hk k (by simp [roots])
    simp only [RR, this] at h ⊢; exact h
  | .bptr b g i, x, hk, h => by
    have := hk (100 * b + 99) (by simp [roots])
    simp only [RR, this] at h ⊢; exact h
  | .agg cs, x, hk, h => by
    simp only [RR] at h ⊢
    obtain ⟨xs, h1, h2⟩ := h
    exact ⟨xs, h1, RRL_roots cs xs (by simpa [roots] using hk) h2⟩
  | .tuple cs, x, hk, h => by
    simp only [RR] at h ⊢
    obtain ⟨xs, h1, h2⟩ := h
    exact ⟨xs, h1, RRL_roots cs xs (by simpa [roots] using hk) h2⟩
  | .clos f cs, x, hk, h => by
    simp only [RR] at h ⊢
    obtain ⟨xs, h1, h2⟩ := h
    exact ⟨xs, h1, RRL_roots cs xs (by simpa [roots] using hk) h2⟩
  | .vptr l cs, x, _, h => by simpa [RR] using h
  | .non, _, _, _ => by simp [RR]
  | .dead, _, _, _ => by simp [RR]
  | .sc v, x, _, h => by simpa [RR] using h
  | .sl o l s n cs, x, _, h => by simpa [RR] using h
  | .bx o l cs, x, _, h => by simpa [RR] using h
theorem RRL_roots {X X' : XF LO} {β : Nat → Nat × Nat} : ∀ (vs : List AL) (xs : List Value), (∀ k ∈ rootsL vs, X' k = X k) → RRL X β vs xs → RRL X' β vs xs
  | [], _, _, h => by simpa [RRL] using h
  | v :: vs, xs, hk, h => by
    simp only [RRL] at h ⊢
    obtain ⟨y, ys, h1, h2, h3⟩ := h
    exact ⟨y, ys, h1, RR_roots v y (fun k hm => hk k (by simp [rootsL, hm])) h2, RRL_roots vs ys (fun k hm => hk k (by simp [rootsL, hm])) h3⟩
end

/-- Only the keys of a list are kept. -/
def onlyK {L : Type} (l : List Nat) (X : XF L) : XF L := fun k => if k ∈ l then X k else (0, .non)

theorem RelL.kp {C : Ctx} {X : XF LO} {β : Nat → Nat × Nat} {I : ASet} {rg : Nat → Value} {w : World} (R : RelL C X β I rg w) (l : List Nat) (hl : ∀ k ∈ l, ∀ r ∈ roots (X k).2, r ∈ l) :
    RelL C (onlyK l X) β I rg w := by
  have hin : ∀ k, k ∈ l → onlyK l X k = X k := fun k h => by simp [onlyK, h]
  have hout : ∀ k, k ∉ l → onlyK l X k = (0, .non) := fun k h => by simp [onlyK, h]
  have hk : ∀ k b o, kfp β (onlyK l X) k b o → kfp β X k b o := by
    intro k b o h
    by_cases hkl : k ∈ l
    · rwa [kfp, hin k hkl] at h
    · rw [kfp, hout k hkl] at h
      rcases h with h | ⟨_, h, _⟩
      · simp [fp] at h
      · exact absurd rfl h
  refine ⟨fun t => ?_, fun k => ?_, fun k k' hne b o h1 h2 => R.disj k k' hne b o (hk k b o h1) (hk k' b o h2), fun b o h => ⟨(R.imm b o h).1, fun k h' => (R.imm b o h).2 k (hk k b o h')⟩,
    fun k b o h => R.frK k b o (hk k b o h), R.frI, R.frI0, R.fr, R.gh, R.gr⟩
  · by_cases hkl : 100 * t ∈ l
    · rw [hin _ hkl]
      exact RR_roots _ _ (fun r hr => hin r (hl _ hkl r hr)) (R.reg t)
    · rw [hout _ hkl]; simp [RR]
  · by_cases hkl : k ∈ l
    · have h := R.key k
      refine ⟨by rw [hin k hkl]; exact h.mem, by rw [hin k hkl]; exact h.sep, by rw [hin k hkl]; exact h.cell, fun b o hb => h.live b o (hk k b o hb), by rw [hin k hkl]; exact h.last⟩
    · refine ⟨by rw [hout k hkl]; simp [Mem], by rw [hout k hkl]; simp [Sep], by rw [hout k hkl]; intro _ h; exact absurd rfl h, fun b o hb => (R.key k).live b o (hk k b o hb), fun _ => by rw [hout k hkl]⟩

theorem RelT.kp {C : Ctx} {X : XF Unit} {tm : Array Value} {w : World} (h : RelT C X tm w) (l : List Nat) (hl : ∀ k ∈ l, ∀ r ∈ roots (X k).2, r ∈ l) : RelT C (onlyK l X) tm w := by
  obtain ⟨XL, β, I, rg, he, R, hs, ht⟩ := h
  subst he
  refine ⟨onlyK l XL, β, I, rg, ?_, R.kp l (fun k hk r hr => hl k hk r (by simpa [erF, er_roots] using hr)), hs, ht⟩
  funext k
  simp only [erF, onlyK]
  split <;> simp [er]

theorem AWp.kp {C : Ctx} {c : Code} {X : XF Unit} {Q : Ex → XF Unit → Prop} (l : List Nat) (hl : ∀ k ∈ l, ∀ r ∈ roots (X k).2, r ∈ l) (h : AWp C c (onlyK l X) Q) : AWp C c X Q :=
  fun a w hd hr => h a w hd (hr.kp l hl)

/-- States written out. -/
def fnL : List (Nat × Nat × AU) → XF Unit
  | [], _ => (0, .non)
  | (k, e) :: l, j => if j = k then e else fnL l j

theorem kp_fnL (l : List Nat) (X : XF Unit) : onlyK l X = fnL (l.map fun k => (k, X k)) := by
  funext j
  induction l with
  | nil => simp [onlyK, fnL]
  | cons a l ih =>
    simp only [List.map_cons, fnL, ← ih]
    simp only [onlyK, List.mem_cons]
    by_cases h : j = a
    · subst h; simp
    · simp [h]

/-! ### Regions in the text's order -/
/-- A guarded step. -/
def GStep (C : Ctx) (ops : Array Oper) (o : Oper) (X X' : XF Unit) : Prop :=
  match o.guard with
  | none => OpOk C o X X'
  | some (j, want) => ∃ t b, (ops[j]?).bind (·.dst) = some t ∧ t < C.nt ∧ (X (100 * t)).2 = .sc (.bool b) ∧
      if b = want then OpOk C o X X' else ∃ d, o.dst = some d ∧ d < C.nt ∧ X' = X.set (100 * d) .non

theorem RelT.bool {C : Ctx} {X : XF Unit} {a : Act} {w : World} (h : RelT C X a.tmps w) {t : Nat} {b : Bool} (ht : t < C.nt) (hb : (X (100 * t)).2 = .sc (.bool b)) : a.tmps[t]? = some (.bool b) := by
  obtain ⟨XL, β, I, rg, he, R, hs, hrg⟩ := h
  subst he
  have hr := R.reg t
  rw [er_sc (lv := (XL (100 * t)).2) hb] at hr
  simp only [RR] at hr
  have := hrg t ht
  rw [hr] at this
  simp only [Array.getD_eq_getD_getElem?] at this
  cases hq : a.tmps[t]? with
  | none => rw [Array.getElem?_eq_none_iff] at hq; omega
  | some v => simp [hq] at this; rw [this]

theorem RelT.skipped {C : Ctx} {X : XF Unit} {a : Act} {w : World} (h : RelT C X a.tmps w) {d : Nat} (hd : d < C.nt) : RelT C (X.set (100 * d) .non) (a.put (some d) undef).tmps w := by
  obtain ⟨XL, β, I, rg, he, R, hs, hrg⟩ := h
  subst he
  refine ⟨_, β, I, _, by rw [erF_set]; rfl, R.setR d (by have := C.hnt; omega) (v := .non) (x := undef) rfl (by simp [Mem]) (by simp [RR]), by simp [Act.put, hs], fun t ht => ?_⟩
  simp only [Act.put]
  by_cases e : t = d
  · subst e; simp [Array.getD_eq_getD_getElem?, hs, ht]
  · simp only [e, if_false]
    rw [← hrg t ht]
    simp [Array.getD_eq_getD_getElem?, Array.getElem?_setIfInBounds_ne (Ne.symm e)]

theorem GStep.wpOp {C : Ctx} {ops : Array Oper} {i : Nat} {o : Oper} {X X' : XF Unit} (hi : ops[i]? = some o) (h : GStep C ops o X X') {a : Act} {w : World} (hd : a.defers = []) (hr : RelT C X a.tmps w)
    {K : Act → World → Prop} {Q : Exit → Act → World → Prop} (hK : ∀ a' w', a'.defers = [] → RelT C X' a'.tmps w' → K a' w') : wpOp C.P ops Q i K a w := by
  unfold Go.wpOp
  simp only [hi]
  unfold GStep at h
  cases hg : o.guard with
  | none =>
    simp only [hg] at h
    simp only [Region.wanted, hg, if_true]
    exact .inl (h a w hd hr K Q hK)
  | some jw =>
    obtain ⟨j, want⟩ := jw
    simp only [hg] at h
    obtain ⟨t, b, h1, h2, h3, h4⟩ := h
    have hb := hr.bool h2 h3
    have hy : yielded ops a.tmps j = some b := by simp [yielded, h1, hb]
    simp only [Region.wanted, hg, hy]
    by_cases e : b = want
    · subst e
      simp only [if_true] at h4
      simp only [beq_self_eq_true, if_true]
      exact .inl (h4 a w hd hr K Q hK)
    · rw [if_neg e] at h4
      obtain ⟨d, hd1, hd2, rfl⟩ := h4
      have : (some b == some want) = false := by simp [e]
      simp only [this, Bool.false_eq_true, if_false, hd1]
      exact hK _ _ (by simp [Act.put, hd]) (hr.skipped hd2)

/-- A run through a list of operations. -/
inductive Run (C : Ctx) (ops : Array Oper) : List Nat → XF Unit → XF Unit → Prop
  | nil {X : XF Unit} : Run C ops [] X X
  | cons {i : Nat} {o : Oper} {l : List Nat} {X X1 X' : XF Unit} (hi : ops[i]? = some o) (h : GStep C ops o X X1) (r : Run C ops l X1 X') : Run C ops (i :: l) X X'

theorem Run.wpOps {C : Ctx} {ops : Array Oper} {l : List Nat} {X X' : XF Unit} (h : Run C ops l X X') : ∀ {a : Act} {w : World} (hd : a.defers = []) (hr : RelT C X a.tmps w) {Q : Exit → Act → World → Prop},
    (∀ a' w', a'.defers = [] → RelT C X' a'.tmps w' → Q .normal a' w') → wpOps C.P ops Q l a w := by
  induction h with
  | nil => intro a w hd hr Q hK; simp only [Go.wpOps]; exact hK a w hd hr
  | cons hi h _ ih =>
    intro a w hd hr Q hK
    rw [wpOps_cons]
    exact h.wpOp hi hd hr (fun a' w' hd' hr' => ih hd' hr' hK)

theorem AWp.region {C : Ctx} {id : Nat} {ops : Array Oper} {X X' : XF Unit} {Q : Ex → XF Unit → Prop} (h : Run C ops (List.range ops.size) X X') (hq : Q .nrm X') : AWp C (.region id ops false) X Q :=
  fun a w hd hr => wp_region (h.wpOps hd hr fun a' w' hd' hr' => ⟨hd', X', hr', hq⟩)
end Go.OT
