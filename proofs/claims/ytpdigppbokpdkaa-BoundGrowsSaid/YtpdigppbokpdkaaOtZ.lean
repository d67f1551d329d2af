/-
  Regions: runs of compiled operations, and calls between them.
-/
import Derived.Test.YtpdigppbokpdkaaOtY
set_option linter.unusedSimpArgs false
set_option linter.unusedVariables false
namespace Go.OT

/-- A compiled operation: its guard, its register, itself. -/
structure CG where
  g : Option (Nat × Bool)
  d : Option Nat
  c : COp

def stG (X : XF Unit) (o : CG) : Option (XF Unit) :=
  match o.g with
  | none => stp X o.c
  | some (t, want) => match (X (100 * t)).2 with
    | .sc (.bool b) => if b = want then stp X o.c else o.d.map fun d => X.set (100 * d) .non
    | _ => none

def runC (X : XF Unit) : List CG → Option (XF Unit)
  | [] => some X
  | o :: l => (stG X o).bind fun X1 => runC X1 l

/-- A guard's register. -/
def compGd (nt : Nat) (ops : Array Oper) : Option (Nat × Bool) → Option (Option (Nat × Bool))
  | none => some none
  | some (j, want) => ((ops[j]?).bind (·.dst)).bind fun t => if t < nt then some (some (t, want)) else none

def compG (P : Program) (nt : Nat) (ops : Array Oper) (here : List Nat) (o : Oper) : Option CG :=
  (compGd nt ops o.guard).bind fun g => (compO P nt here o).map fun c => ⟨g, dstIn nt o, c⟩

def compL (P : Program) (nt : Nat) (ops : Array Oper) (here : List Nat) : List Nat → Option (List CG)
  | [] => some []
  | i :: l => (ops[i]?).bind fun o => (compG P nt ops here o).bind fun c => (compL P nt ops here l).map fun r => c :: r

def hereOf (ops : Array Oper) : List Nat := ops.toList.filterMap (·.dst)

def compS (P : Program) (nt : Nat) (ops : Array Oper) (idx : List Nat) : Option (List CG) := compL P nt ops (hereOf ops) idx

theorem compG_ok {C : Ctx} {ops : Array Oper} {here : List Nat} {o : Oper} {c : CG} {X X' : XF Unit} (h : compG C.P C.nt ops here o = some c) (hs : stG X c = some X') : GStep C ops o X X' := by
  simp only [compG, Option.bind_eq_some_iff, Option.map_eq_some_iff] at h
  obtain ⟨g, hg, co, hco, rfl⟩ := h
  unfold GStep
  cases hgd : o.guard with
  | none =>
    simp only [hgd, compGd, Option.some.injEq] at hg
    subst hg
    exact compO_ok hco (by simpa only [stG] using hs)
  | some jw =>
    obtain ⟨j, want⟩ := jw
    simp only [hgd, compGd, Option.bind_eq_some_iff] at hg
    obtain ⟨t, ht, hg⟩ := hg
    split at hg
    · rename_i hlt
      cases hg
      simp only [stG] at hs
      split at hs
      · rename_i b hb
        refine ⟨t, b, by simpa [Option.bind_eq_some_iff] using ht, hlt, hb, ?_⟩
        split at hs
        · rename_i e; rw [if_pos e]; exact compO_ok hco hs
        · rename_i e
          rw [if_neg e]
          simp only [Option.map_eq_some_iff] at hs
          obtain ⟨d, hd, rfl⟩ := hs
          obtain ⟨h1, h2⟩ := dstIn_some hd
          exact ⟨d, h1, h2, rfl⟩
      · cases hs
    · cases hg

/-- What holds when a run is over. -/
def RunQ (C : Ctx) (ops : Array Oper) (l : List Nat) (X : XF Unit) (Q : XF Unit → Prop) : Prop := ∃ X', Run C ops l X X' ∧ Q X'

section
variable {C : Ctx} {ops : Array Oper} {X X1 : XF Unit} {Q : XF Unit → Prop}

theorem RunQ.nil (h : Q X) : RunQ C ops [] X Q := ⟨X, .nil, h⟩

theorem RunQ.seg {here : List Nat} : ∀ {idx rest : List Nat} {cl : List CG} {X : XF Unit}, compL C.P C.nt ops here idx = some cl → runC X cl = some X1 → RunQ C ops rest X1 Q → RunQ C ops (idx ++ rest) X Q
  | [], rest, cl, X, hc, hr, h => by
    simp only [compL, Option.some.injEq] at hc
    subst hc
    simp only [runC, Option.some.injEq] at hr
    subst hr
    exact h
  | i :: l, rest, cl, X, hc, hr, h => by
    simp only [compL, Option.bind_eq_some_iff, Option.map_eq_some_iff] at hc
    obtain ⟨o, ho, c, hco, r, hr', rfl⟩ := hc
    simp only [runC, Option.bind_eq_some_iff] at hr
    obtain ⟨X2, h1, h2⟩ := hr
    obtain ⟨X', h3, h4⟩ := RunQ.seg hr' h2 h
    exact ⟨X', .cons ho (compG_ok hco h1) h3, h4⟩

/-- The whole region in one. -/
theorem AWp.reg {id : Nat} {Q : Ex → XF Unit → Prop} {cl : List CG} (hc : compS C.P C.nt ops (List.range ops.size) = some cl) (hr : runC X cl = some X1) (hq : Q .nrm X1) : AWp C (.region id ops false) X Q := by
  obtain ⟨X', h1, h2⟩ := RunQ.seg (Q := fun X => Q .nrm X) (rest := []) hc hr (RunQ.nil hq)
  rw [List.append_nil] at h1
  exact AWp.region h1 h2

theorem AWp.regQ {id : Nat} {Q : Ex → XF Unit → Prop} (h : RunQ C ops (List.range ops.size) X (Q .nrm)) : AWp C (.region id ops false) X Q := by
  obtain ⟨X', h1, h2⟩ := h
  exact AWp.region h1 h2

/-- An operation by a law of its own, without a guard or with one that holds. -/
theorem RunQ.op {i : Nat} {l : List Nat} {o : Oper} (hi : ops[i]? = some o) (hg : o.guard = none) (h : OpOk C o X X1) (r : RunQ C ops l X1 Q) : RunQ C ops (i :: l) X Q := by
  obtain ⟨X', h1, h2⟩ := r
  exact ⟨X', .cons hi (by unfold GStep; rw [hg]; exact h) h1, h2⟩

theorem RunQ.opG {i j t : Nat} {want : Bool} {l : List Nat} {o : Oper} (hi : ops[i]? = some o) (hg : o.guard = some (j, want)) (ht : (ops[j]?).bind (·.dst) = some t) (hlt : t < C.nt) (hb : (X (100 * t)).2 = .sc (.bool want)) (h : OpOk C o X X1) (r : RunQ C ops l X1 Q) : RunQ C ops (i :: l) X Q := by
  obtain ⟨X', h1, h2⟩ := r
  exact ⟨X', .cons hi (by unfold GStep; rw [hg]; exact ⟨t, want, ht, hlt, hb, by rw [if_pos rfl]; exact h⟩) h1, h2⟩

theorem RunQ.skip {i j t d : Nat} {want b : Bool} {l : List Nat} {o : Oper} (hi : ops[i]? = some o) (hg : o.guard = some (j, want)) (ht : (ops[j]?).bind (·.dst) = some t) (hlt : t < C.nt) (hb : (X (100 * t)).2 = .sc (.bool b)) (hbw : b ≠ want) (hd : o.dst = some d) (hdl : d < C.nt)
    (r : RunQ C ops l (X.set (100 * d) .non) Q) : RunQ C ops (i :: l) X Q := by
  obtain ⟨X', h1, h2⟩ := r
  exact ⟨X', .cons hi (by unfold GStep; rw [hg]; exact ⟨t, b, ht, hlt, hb, by rw [if_neg hbw]; exact ⟨d, hd, hdl, rfl⟩⟩) h1, h2⟩
end

/-! ### Lists of keys -/
def setL (l : List (Nat × Nat × AU)) (k : Nat) (v : AU) : List (Nat × Nat × AU) :=
  match l with
  | [] => [(k, 0, v)]
  | (k', e) :: l => if k = k' then (k, nx e, v) :: l else (k', e) :: setL l k v

theorem fnL_set (k : Nat) (v : AU) : ∀ l : List (Nat × Nat × AU), (fnL l).set k v = fnL (setL l k v)
  | [] => by
    funext j
    simp only [XF.set, fnL, setL, nx, AV.isNode]
    by_cases h : j = k <;> simp [h]
  | (k', e) :: l => by
    have ih := fnL_set k v l
    funext j
    have ihj := congrFun ih j
    simp only [setL]
    by_cases hk : k = k'
    · subst hk
      simp only [if_true, fnL, XF.set]
      by_cases h : j = k <;> simp [h]
    · simp only [hk, if_false, fnL, XF.set] at ihj ⊢
      rw [← ihj]
      by_cases h : j = k
      · subst h; simp [hk]
      · simp [h]

theorem fnL_cons_eq (k : Nat) (e : Nat × AU) (l : List (Nat × Nat × AU)) : fnL ((k, e) :: l) k = e := by simp [fnL]
theorem fnL_cons_ne {k j : Nat} (e : Nat × AU) (l : List (Nat × Nat × AU)) (h : j ≠ k) : fnL ((k, e) :: l) j = fnL l j := by simp [fnL, h]
end Go.OT
namespace Go.OT
section
variable {C : Ctx} {P : Program} {nt id : Nat} {ops : Array Oper} {X X1 : XF Unit} {Q : Ex → XF Unit → Prop} {cl : List CG} {y : Code}

theorem AWp.reg' (hP : C.P = P) (hn : C.nt = nt) (hc : compS P nt ops (List.range ops.size) = some cl) (hr : runC X cl = some X1) (hq : Q .nrm X1) : AWp C (.region id ops false) X Q := by
  subst hP hn; exact AWp.reg hc hr hq

theorem AWp.sreg (hP : C.P = P) (hn : C.nt = nt) (hc : compS P nt ops (List.range ops.size) = some cl) (hr : runC X cl = some X1) (hq : AWp C y X1 Q) : AWp C (.seq (.region id ops false) y) X Q :=
  AWp.seq (AWp.reg' hP hn hc hr hq)

theorem AWp.sregQ (h : RunQ C ops (List.range ops.size) X (fun X1 => AWp C y X1 Q)) : AWp C (.seq (.region id ops false) y) X Q :=
  AWp.seq (AWp.regQ h)

theorem RunQ.seg' {Q : XF Unit → Prop} {idx rest : List Nat} (hP : C.P = P) (hn : C.nt = nt) (hc : compS P nt ops idx = some cl) (hr : runC X cl = some X1) (h : RunQ C ops rest X1 Q) : RunQ C ops (idx ++ rest) X Q := by
  subst hP hn; exact RunQ.seg hc hr h

theorem RunQ.all' {Q : XF Unit → Prop} {idx : List Nat} (hP : C.P = P) (hn : C.nt = nt) (hc : compS P nt ops idx = some cl) (hr : runC X cl = some X1) (h : Q X1) : RunQ C ops idx X Q := by
  have := RunQ.seg' (rest := []) hP hn hc hr (RunQ.nil h)
  rwa [List.append_nil] at this

theorem AWp.cons {Q' : Ex → XF Unit → Prop} {c : Code} (h : AWp C c X Q') (hq : ∀ e X, Q' e X → Q e X) : AWp C c X Q := by
  intro a w hd hr
  refine wp_mono (h a w hd hr) fun e a w hq' => ?_
  cases e with
  | normal => obtain ⟨h1, X', h2, h3⟩ := hq'; exact ⟨h1, X', h2, hq _ _ h3⟩
  | exit id => obtain ⟨h1, X', h2, h3⟩ := hq'; exact ⟨h1, X', h2, hq _ _ h3⟩
  | ret => obtain ⟨h1, X', h2, h3⟩ := hq'; exact ⟨h1, X', h2, hq _ _ h3⟩
  | goto l => exact hq'
  | panic c => exact hq'
  | outgrown => exact hq'
end

/-- A box in a list of keys. -/
def boxL (l : List (Nat × Nat × AU)) (b : Nat) (cs : List AU) : List (Nat × Nat × AU) :=
  l.map (fun p => (p.1, if p.1 / 100 = b ∧ p.1 % 100 ≠ 0 then (if p.1 % 100 = 99 then (p.2.1 + 1, .non) else (nx p.2, cs.getD (p.1 % 100 - 1) .non)) else p.2)) ++
    (100 * b + 99, 1, .non) :: cs.zipIdx.map fun p => (100 * b + 1 + p.2, 0, p.1)

theorem fnL_app (l l' : List (Nat × Nat × AU)) (j : Nat) : fnL (l ++ l') j = if l.any (fun p => p.1 == j) then fnL l j else fnL l' j := by
  induction l with
  | nil => simp
  | cons p l ih =>
    obtain ⟨k, e⟩ := p
    simp only [List.cons_append, fnL, ih, List.any_cons, Bool.or_eq_true, beq_iff_eq]
    by_cases h : j = k
    · simp [h]
    · have h' : k ≠ j := fun e => h e.symm
      rw [if_neg h]
      by_cases ha : (l.any fun p => p.1 == j) = true
      · rw [if_pos ha, if_pos (.inr ha), if_neg h]
      · rw [if_neg ha, if_neg (fun hh => hh.elim h' ha)]

theorem fnL_cells (b j : Nat) : ∀ (cs : List AU) (n : Nat), fnL ((cs.zipIdx n).map fun p => (100 * b + 1 + p.2, 0, p.1)) j = if 100 * b + 1 + n ≤ j ∧ j < 100 * b + 1 + n + cs.length then (0, cs.getD (j - (100 * b + 1 + n)) .non) else (0, .non)
  | [], n => by simp [fnL]
  | c :: cs, n => by
    simp only [List.zipIdx_cons, List.map_cons, fnL, fnL_cells b j cs (n + 1)]
    by_cases h : j = 100 * b + 1 + n
    · subst h; simp
    · by_cases h2 : 100 * b + 1 + (n + 1) ≤ j ∧ j < 100 * b + 1 + (n + 1) + cs.length
      · rw [if_neg h, if_pos h2, if_pos (by simp; omega)]
        rw [show j - (100 * b + 1 + n) = (j - (100 * b + 1 + (n + 1))) + 1 by omega]
        simp
      · rw [if_neg h, if_neg h2, if_neg (by simp; omega)]

theorem fnL_box (b : Nat) (cs : List AU) (hlen : cs.length ≤ 98) (l : List (Nat × Nat × AU)) : (fnL l).box b cs = fnL (boxL l b cs) := by
  funext j
  simp only [boxL, fnL_app, XF.box]
  have hmap : ∀ (f : Nat → Nat × AU → Nat × AU) (l : List (Nat × Nat × AU)), l.any (fun p => p.1 == j) = true → fnL (l.map fun p => (p.1, f p.1 p.2)) j = f j (fnL l j) := by
    intro f l h
    induction l with
    | nil => simp at h
    | cons p l ih =>
      obtain ⟨k, e⟩ := p
      simp only [List.map_cons, fnL]
      by_cases hk : j = k
      · subst hk; simp
      · rw [if_neg hk, if_neg hk]
        exact ih (by simpa [Ne.symm hk] using h)
  have hany : (l.map (fun p => (p.1, if p.1 / 100 = b ∧ p.1 % 100 ≠ 0 then (if p.1 % 100 = 99 then (p.2.1 + 1, AV.non) else (nx p.2, cs.getD (p.1 % 100 - 1) .non)) else p.2))).any (fun p => p.1 == j) = l.any (fun p => p.1 == j) := by
    rw [List.any_map]; rfl
  rw [hany]
  by_cases h : l.any (fun p => p.1 == j) = true
  · rw [if_pos h, hmap (fun k e => if k / 100 = b ∧ k % 100 ≠ 0 then (if k % 100 = 99 then (e.1 + 1, .non) else (nx e, cs.getD (k % 100 - 1) .non)) else e) l h]
  · rw [if_neg h]
    have hz : fnL l j = (0, .non) := by
      clear hany hmap
      induction l with
      | nil => rfl
      | cons p l ih =>
        obtain ⟨k, e⟩ := p
        simp only [List.any_cons, Bool.or_eq_true, beq_iff_eq, not_or] at h
        simp only [fnL, if_neg (Ne.symm h.1)]
        exact ih h.2
    rw [hz]
    simp only [fnL]
    have hc := fnL_cells b j cs 0
    simp only [Nat.add_zero] at hc
    rw [hc]
    by_cases h9 : j = 100 * b + 99
    · subst h9
      rw [if_pos ⟨by omega, by omega⟩, if_pos (by omega), if_pos rfl]
    · rw [if_neg h9]
      by_cases hin : j / 100 = b ∧ j % 100 ≠ 0
      · rw [if_pos hin, if_neg (by omega)]
        by_cases hl : 100 * b + 1 ≤ j ∧ j < 100 * b + 1 + cs.length
        · rw [if_pos hl]
          congr 2
          omega
        · rw [if_neg hl, List.getD_eq_getElem?_getD, List.getElem?_eq_none (by omega)]
          rfl
      · rw [if_neg hin, if_neg (by omega)]
end Go.OT
namespace Go.OT
/-- A region, and what is kept of its end. -/
theorem AWp.sregP {C : Ctx} {P : Program} {nt id : Nat} {ops : Array Oper} {X Y : XF Unit} {Q : Ex → XF Unit → Prop} {cl : List CG} {y : Code} (keys : List Nat) (hP : C.P = P) (hn : C.nt = nt) (hc : compS P nt ops (List.range ops.size) = some cl)
    (hr : ∃ X1, runC X cl = some X1 ∧ onlyK keys X1 = Y) (hl : ∀ k ∈ keys, ∀ r ∈ roots (Y k).2, r ∈ keys) (hq : AWp C y Y Q) : AWp C (.seq (.region id ops false) y) X Q := by
  obtain ⟨X1, h1, rfl⟩ := hr
  refine AWp.sreg hP hn hc h1 (AWp.kp keys (fun k hk r hr => hl k hk r ?_) hq)
  simpa [onlyK, hk] using hr
end Go.OT
namespace Go.OT
theorem fnL_nil_app (j : Nat) : fnL [] j = (0, .non) := rfl
theorem fnL_cons_app (k j : Nat) (e : Nat × AU) (l : List (Nat × Nat × AU)) : fnL ((k, e) :: l) j = if j = k then e else fnL l j := rfl
theorem gather_zero {L : Type} (X : XF L) (h : Nat) : gather X h 0 = [] := rfl
theorem gather_succ {L : Type} (X : XF L) (h n : Nat) : gather X h (n + 1) = gather X h n ++ [(X (100 * (h + n))).2] := by
  simp [gather, List.range_succ]
theorem clr_zero {L : Type} (X : XF L) (h : Nat) : clr X h 0 = X := rfl
theorem clr_succ {L : Type} (X : XF L) (h n : Nat) : clr X h (n + 1) = (clr X h n).set (100 * (h + n)) .non := by
  simp [clr, List.range_succ]
end Go.OT

namespace Go.OT
def boxE (b : Nat) (cs : List AU) (k : Nat) (e : Nat × AU) : Nat × AU := if k / 100 = b ∧ k % 100 ≠ 0 then (if k % 100 = 99 then (e.1 + 1, .non) else (nx e, cs.getD (k % 100 - 1) .non)) else e
theorem boxE_eq (b : Nat) (cs : List AU) (k : Nat) (e : Nat × AU) : boxE b cs k e = if k / 100 = b ∧ k % 100 ≠ 0 then (if k % 100 = 99 then (e.1 + 1, .non) else (nx e, cs.getD (k % 100 - 1) .non)) else e := rfl
def boxM (b : Nat) (cs : List AU) : List (Nat × Nat × AU) → List (Nat × Nat × AU)
  | [] => (100 * b + 99, 1, .non) :: boxN b 1 cs
  | (k, e) :: l => (k, boxE b cs k e) :: boxM b cs l
where boxN (b n : Nat) : List AU → List (Nat × Nat × AU)
  | [] => []
  | c :: cs => (100 * b + n, 0, c) :: boxN b (n + 1) cs
theorem boxN_eq (b : Nat) : ∀ (cs : List AU) (n : Nat), boxM.boxN b (n + 1) cs = (cs.zipIdx n).map fun p => (100 * b + 1 + p.2, 0, p.1)
  | [], n => rfl
  | c :: cs, n => by
    simp only [boxM.boxN, List.zipIdx_cons, List.map_cons, boxN_eq b cs (n + 1)]
    rw [show 100 * b + (n + 1) = 100 * b + 1 + n by omega]
theorem boxM_eq (b : Nat) (cs : List AU) : ∀ l : List (Nat × Nat × AU), boxM b cs l = boxL l b cs
  | [] => by
    have := boxN_eq b cs 0
    simp only [boxM, boxL, List.map_nil, List.nil_append]
    rw [show (0 : Nat) + 1 = 1 from rfl] at this
    rw [this]
  | (k, e) :: l => by
    have ih := boxM_eq b cs l
    simp only [boxL] at ih
    simp only [boxM, boxL, List.map_cons, List.cons_append, ih, boxE]
theorem fnL_boxM (b : Nat) (cs : List AU) (l : List (Nat × Nat × AU)) (hlen : cs.length ≤ 98) : (fnL l).box b cs = fnL (boxM b cs l) := by
  rw [fnL_box b cs hlen, boxM_eq]
end Go.OT
namespace Go.OT
def crvB (P : Program) (nt : Nat) : ResultVar → CRV → Bool
  | .tmp t, .t n => t == n && decide (t < nt)
  | .cell a ty, .cell a' n ag => a == a' && decide (a < nt) && (isAggT P ty == some ag) && (sizeT P ty == some n) && (ag || n == 1)
  | _, _ => false
def crvsB (P : Program) (nt : Nat) : List ResultVar → List CRV → Bool
  | [], [] => true
  | r :: l, c :: m => crvB P nt r c && crvsB P nt l m
  | _, _ => false
theorem crvB_ok {P : Program} {nt : Nat} {r : ResultVar} {c : CRV} (h : crvB P nt r c = true) : crvOk P nt r c := by
  cases r <;> cases c <;> simp only [crvB, Bool.and_eq_true, beq_iff_eq, decide_eq_true_eq, Bool.or_eq_true, reduceCtorEq, Bool.false_eq_true] at h
  · exact h
  · obtain ⟨⟨⟨⟨h1, h2⟩, h3⟩, h4⟩, h5⟩ := h
    exact ⟨h1, h2, h3, h4, fun e => by rcases h5 with h5 | h5; · rw [e] at h5; cases h5
                                       · exact h5⟩
theorem crvsB_ok {P : Program} {nt : Nat} : ∀ {l : List ResultVar} {m : List CRV}, crvsB P nt l m = true → l.length = m.length ∧ ∀ (j : Nat) (rv : ResultVar) (r : CRV), l[j]? = some rv → m[j]? = some r → crvOk P nt rv r
  | [], [], _ => by simp
  | [], _ :: _, h => by simp [crvsB] at h
  | _ :: _, [], h => by simp [crvsB] at h
  | a :: l, b :: m, h => by
    simp only [crvsB, Bool.and_eq_true] at h
    have ih := crvsB_ok h.2
    refine ⟨by simp [ih.1], fun j rv r h1 h2 => ?_⟩
    cases j with
    | zero => simp at h1 h2; subst h1 h2; exact crvB_ok h.1
    | succ j => exact ih.2 j rv r (by simpa using h1) (by simpa using h2)

/-- A body meets a contract: what a closed check says in one. -/
theorem Fn.of_body' {P : Program} {f : FuncId} {fn : Func} {c : Code} {gs gs' : List (Gh Unit)} {as : List AU} {r : AU} (nt k : Nat) (rs : List CRV) (hf : P.funcs[f]? = some fn) (hb : fn.body = some c)
    (hchk : (fn.ntmps == nt && decide (nt ≤ 9000) && decide (k ≤ nt) && decide (rs.length ≤ 400) && crvsB P nt fn.results.toList rs) = true) (ha : as.length = k)
    (h : ∀ C : Ctx, C.P = P → C.nt = nt → AWp C c (initX gs as) fun e X => (e = .nrm ∨ e = .ret) ∧ ∃ X', resX X rs = some X' ∧ Fin X' gs' r) : Fn P f gs as gs' r := by
  simp only [Bool.and_eq_true, beq_iff_eq, decide_eq_true_eq] at hchk
  obtain ⟨⟨⟨⟨h1, h2⟩, h3⟩, h4⟩, h5⟩ := hchk
  have h6 := crvsB_ok h5
  subst h1
  exact Fn.of_body hf hb h2 (by omega) h6.1 h4 h6.2 h

theorem AWp.post_kp {C : Ctx} {X : XF Unit} {Q : Ex → XF Unit → Prop} {c : Code} (keys : List Nat) (h : AWp C c X (fun e X1 => (∀ k ∈ keys, ∀ r ∈ roots (X1 k).2, r ∈ keys) ∧ Q e (onlyK keys X1))) : AWp C c X Q := by
  intro a w hd hr
  refine wp_mono (h a w hd hr) fun e a w hq' => ?_
  cases e with
  | normal => obtain ⟨h1, X', h2, h3, h4⟩ := hq'; exact ⟨h1, _, h2.kp keys h3, h4⟩
  | exit id => obtain ⟨h1, X', h2, h3, h4⟩ := hq'; exact ⟨h1, _, h2.kp keys h3, h4⟩
  | ret => obtain ⟨h1, X', h2, h3, h4⟩ := hq'; exact ⟨h1, _, h2.kp keys h3, h4⟩
  | goto l => exact hq'
  | panic c => exact hq'
  | outgrown => exact hq'

def closedL (l : List (Nat × Nat × AU)) : Bool := l.all fun p => (roots p.2.2).all fun r => (l.map (·.1)).contains r

theorem closedL_ok {l : List (Nat × Nat × AU)} {X1 : XF Unit} (h : closedL l = true) (he : onlyK (l.map (·.1)) X1 = fnL l) : ∀ k ∈ l.map (·.1), ∀ r ∈ roots (X1 k).2, r ∈ l.map (·.1) := by
  intro k hk r hr
  have hx : X1 k = fnL l k := by rw [← he]; simp only [onlyK, if_pos hk]
  have hex : ∀ (m : List (Nat × Nat × AU)), k ∈ m.map (·.1) → ∃ p ∈ m, fnL m k = p.2 := by
    intro m
    induction m with
    | nil => intro h; cases h
    | cons p m ih =>
      obtain ⟨k', e⟩ := p
      intro h
      by_cases hk : k = k'
      · subst hk; exact ⟨(k, e), by simp, by simp [fnL]⟩
      · obtain ⟨q, h1, h2⟩ := ih (by simpa [hk] using h)
        exact ⟨q, by simp [h1], by simp only [fnL, if_neg hk]; exact h2⟩
  obtain ⟨p, hp, hpe⟩ := hex l hk
  rw [hx, hpe] at hr
  have := List.all_eq_true.1 (List.all_eq_true.1 h p hp) r hr
  simpa using this

/-- A region, with what is kept of its end written out. -/
theorem AWp.regL {C : Ctx} {P : Program} {nt id : Nat} {ops : Array Oper} {X : XF Unit} {Q : Ex → XF Unit → Prop} {cl : List CG} (l : List (Nat × Nat × AU)) (hP : C.P = P) (hn : C.nt = nt) (hc : compS P nt ops (List.range ops.size) = some cl)
    (hr : ∃ X1, runC X cl = some X1 ∧ onlyK (l.map (·.1)) X1 = fnL l) (hl : closedL l = true) (hq : Q .nrm (fnL l)) : AWp C (.region id ops false) X Q := by
  obtain ⟨X1, h1, h2⟩ := hr
  exact AWp.post_kp (l.map (·.1)) (AWp.reg' hP hn hc h1 ⟨closedL_ok hl h2, by rw [h2]; exact hq⟩)

theorem AWp.sregL {C : Ctx} {P : Program} {nt id : Nat} {ops : Array Oper} {X : XF Unit} {Q : Ex → XF Unit → Prop} {cl : List CG} {y : Code} (l : List (Nat × Nat × AU)) (hP : C.P = P) (hn : C.nt = nt) (hc : compS P nt ops (List.range ops.size) = some cl)
    (hr : ∃ X1, runC X cl = some X1 ∧ onlyK (l.map (·.1)) X1 = fnL l) (hl : closedL l = true) (hq : AWp C y (fnL l) Q) : AWp C (.seq (.region id ops false) y) X Q :=
  AWp.seq (AWp.regL l hP hn hc hr hl hq)

/-- A part of a region, with what is kept of its end. -/
theorem RunQ.segL {C : Ctx} {P : Program} {nt : Nat} {ops : Array Oper} {X X1 : XF Unit} {Q : XF Unit → Prop} {idx rest : List Nat} {cl : List CG} (hP : C.P = P) (hn : C.nt = nt) (hc : compS P nt ops idx = some cl)
    (hr : runC X cl = some X1) (h : RunQ C ops rest X1 Q) : RunQ C ops (idx ++ rest) X Q := RunQ.seg' hP hn hc hr h
end Go.OT
namespace Go.OT
/-! ### The run, in a form that is quick to work out -/
def stO : Option (XF Unit) → CG → Option (XF Unit)
  | none, _ => none
  | some X, o => stG X o
def runO : List CG → Option (XF Unit) → Option (XF Unit)
  | [], r => r
  | o :: l, r => runO l (stO r o)
theorem runO_none : ∀ l : List CG, runO l none = none
  | [] => rfl
  | _ :: l => by simp only [runO, stO]; exact runO_none l
theorem runC_eq : ∀ (l : List CG) (X : XF Unit), runC X l = runO l (some X)
  | [], X => rfl
  | o :: l, X => by
    simp only [runC, runO, stO]
    cases stG X o with
    | none => simp [runO_none]
    | some X1 => simpa using runC_eq l X1
theorem runO_nil (r : Option (XF Unit)) : runO [] r = r := rfl
theorem runO_cons (o : CG) (l : List CG) (r : Option (XF Unit)) : runO (o :: l) r = runO l (stO r o) := rfl
def stW (X : XF Unit) (w : Bool) (d : Option Nat) (c : COp) : AU → Option (XF Unit)
  | .sc (.bool b) => if b = w then stp X c else d.map fun d => X.set (100 * d) .non
  | _ => none
theorem stO_none (X : XF Unit) (d : Option Nat) (c : COp) : stO (some X) ⟨none, d, c⟩ = stp X c := rfl
theorem stO_some (X : XF Unit) (t : Nat) (w : Bool) (d : Option Nat) (c : COp) : stO (some X) ⟨some (t, w), d, c⟩ = stW X w d c (X (100 * t)).2 := rfl
theorem stW_bool (X : XF Unit) (w b : Bool) (d : Nat) (c : COp) : stW X w (some d) c (.sc (.bool b)) = if b = w then stp X c else some (X.set (100 * d) .non) := rfl
theorem stW_bool' (X : XF Unit) (w b : Bool) (c : COp) : stW X w none c (.sc (.bool b)) = if b = w then stp X c else none := rfl
end Go.OT
namespace Go.OT
/-! ### Calls in a run -/
structure CallOp (nt : Nat) (o : Oper) (d f : Nat) (ss : List Nat) (cs : List COd) : Prop where
  dst : o.dst = some d
  lt : d < nt
  ops : opsIn nt o = true
  op : ∃ xs tys, o.op = .call ⟨.value (.func f), xs, tys⟩ ∧ argsOd nt ss xs.toList = some cs ∧ xs.size ≤ 9000

theorem CallOp.ok {C : Ctx} {P : Program} {nt : Nat} {o : Oper} {X : XF Unit} {ls : List (Nat × List Nat)} {gs gs' : List (Gh Unit)} {as : List AU} {r : AU} {own : Bool} {d f : Nat} {ss : List Nat} {cs : List COd} (hP : C.P = P) (hn : C.nt = nt)
    (h : CallOp nt o d f ss cs) (hgs : ls.mapM (ghAt X) = some gs) (hnd : (ls.map (·.1)).Nodup) (has : trArgs X ls own cs = some as)
    (hrun : ∀ args w, (callFunc f args).run P w = .ok (.enter f args) w) (hfn : Fn P f gs as gs' r) (hok : ghsOk gs gs' = true) (himm : own = true → gs'.all ghImm = true ∧ noImm r = true) (hroot : roots r = []) :
    OpOk C o X ((backU X (ls.zip gs')).set (100 * d) r) := by
  subst hP hn
  obtain ⟨h1, h2, h3, xs, tys, h4, h5, h6⟩ := h
  exact ok_call h1 h2 h3 h4 h5 hgs hnd has h6 hrun hfn hok himm hroot

section
variable {C : Ctx} {P : Program} {nt : Nat} {ops : Array Oper} {X : XF Unit} {Q : XF Unit → Prop} {i d f : Nat} {l : List Nat} {o : Oper} {ss : List Nat} {cs : List COd} {as : List AU} {r : AU}

/-- A call that is lent nothing to write. -/
theorem RunQ.call0 (own : Bool) (hP : C.P = P) (hn : C.nt = nt) (hi : ops[i]? = some o) (hg : o.guard = none) (h : CallOp nt o d f ss cs) (has : trArgs X [] own cs = some as) (hrun : ∀ args w, (callFunc f args).run P w = .ok (.enter f args) w)
    (hfn : Fn P f [] as [] r) (himm : own = true → noImm r = true) (hroot : roots r = []) (q : RunQ C ops l (X.set (100 * d) r) Q) : RunQ C ops (i :: l) X Q :=
  RunQ.op hi hg (CallOp.ok (ls := []) (gs := []) (gs' := []) hP hn h rfl (by simp) has hrun hfn rfl (fun h => ⟨rfl, himm h⟩) hroot) q

theorem RunQ.call0G (own : Bool) {j t : Nat} {want : Bool} (hP : C.P = P) (hn : C.nt = nt) (hi : ops[i]? = some o) (hg : o.guard = some (j, want)) (ht : (ops[j]?).bind (·.dst) = some t) (hlt : t < nt) (hb : (X (100 * t)).2 = .sc (.bool want)) (h : CallOp nt o d f ss cs) (has : trArgs X [] own cs = some as) (hrun : ∀ args w, (callFunc f args).run P w = .ok (.enter f args) w)
    (hfn : Fn P f [] as [] r) (himm : own = true → noImm r = true) (hroot : roots r = []) (q : RunQ C ops l (X.set (100 * d) r) Q) : RunQ C ops (i :: l) X Q :=
  RunQ.opG hi hg ht (by rw [hn]; exact hlt) hb (CallOp.ok (ls := []) (gs := []) (gs' := []) hP hn h rfl (by simp) has hrun hfn rfl (fun h => ⟨rfl, himm h⟩) hroot) q
end

def argsL : Nat → List AU → List (Nat × Nat × AU)
  | _, [] => []
  | n, a :: as => (100 * n, 0, a) :: argsL (n + 1) as

theorem fnL_argsL (k : Nat) : ∀ (as : List AU) (n : Nat), fnL (argsL n as) k = (0, if k % 100 = 0 ∧ n ≤ k / 100 then as.getD (k / 100 - n) .non else .non)
  | [], n => by simp [argsL, fnL]
  | a :: as, n => by
    simp only [argsL, fnL, fnL_argsL k as (n + 1)]
    by_cases h : k = 100 * n
    · subst h
      rw [if_pos rfl, if_pos ⟨by omega, by omega⟩, show 100 * n / 100 - n = 0 by omega]
      rfl
    · rw [if_neg h]
      by_cases h2 : k % 100 = 0 ∧ n ≤ k / 100
      · rw [if_pos h2, if_pos ⟨h2.1, by omega⟩, show k / 100 - n = (k / 100 - (n + 1)) + 1 by omega]
        simp
      · rw [if_neg h2, if_neg (by omega)]

theorem init_args (as : List AU) (hlen : as.length ≤ 10000) : initX [] as = fnL (argsL 0 as) := by
  funext k
  rw [fnL_argsL]
  simp only [initX, initV]
  by_cases h : k / 100 < 10000
  · rw [if_pos h]
    by_cases h0 : k % 100 = 0
    · rw [if_pos h0, if_pos ⟨h0, by omega⟩]; rfl
    · rw [if_neg h0, if_neg (fun hh => h0 hh.1)]
  · rw [if_neg h]
    simp only [List.getElem?_nil]
    split
    · rw [List.getD_eq_getElem?_getD, List.getElem?_eq_none (by omega)]; rfl
    · rfl
end Go.OT
