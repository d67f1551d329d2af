/-
  Taking a value out of its place, into the hand.
-/
import Derived.Test.YtpdigppbokpdkaaOtJ
set_option linter.unusedSimpArgs false
set_option linter.unusedVariables false
namespace Go.OT

/-- The hand: registers that no function has. -/
def H : Nat := 9000
/-- The register of results. -/
def RS : Nat := 9500

/-- A value (no aggregate) is taken into hand h. -/
def tk (X : XF Unit) (v : AU) (h : Nat) : Option (XF Unit) :=
  match v with
  | .view k g p off len =>
    if (X k).1 = g ∧ k ≠ 100 * h then
      match getN (X k).2 p with
      | some (.sl true _ sz _ cs) => if ownQ (X k).2 p = true then some ((X.set k (setN (X k).2 p .dead)).set (100 * h) (.sl true () sz len ((cs.drop off).take (len * sz)))) else none
      | some (.sl false _ sz _ cs) => some (X.set (100 * h) (.sl false () sz len ((cs.drop off).take (len * sz))))
      | _ => none
    else none
  | .ptr k g p i =>
    if (X k).1 = g ∧ i = 0 ∧ k ≠ 100 * h then
      match getN (X k).2 p with
      | some (.bx true _ cs) => if ownQ (X k).2 p = true then some ((X.set k (setN (X k).2 p .dead)).set (100 * h) (.bx true () cs)) else none
      | _ => none
    else none
  | .sl true _ sz 0 [] => some (X.set (100 * h) (.sl true () sz 0 []))
  | .agg _ => none
  | .tuple _ => none
  | .non => none
  | .dead => none
  | v => if noOwn v then some (X.set (100 * h) v) else none

section
variable {C : Ctx} {X : XF LO} {β : Nat → Nat × Nat} {I : ASet} {rg : Nat → Value} {w : World}

/-- A part of an owned slice. -/
theorem sub_node {l : Loc} {sz n off len o' cap : Nat} {cs : List AL} (hm : Mem w I (.sl true (some l) sz n cs)) (hs : Sep (.sl true (some l) sz n cs))
    (h4 : off + len * sz ≤ n * sz) (h5 : len ≤ cap) (h6 : off + cap * sz ≤ l.cap * sz) (h8 : cap ≠ 0 → o' = l.o + off) :
    Mem w I (.sl true (some ⟨l.b, o', cap⟩) sz len ((cs.drop off).take (len * sz))) ∧ Sep (.sl true (some ⟨l.b, o', cap⟩) sz len ((cs.drop off).take (len * sz))) ∧
    ∀ b o, fp (.sl true (some ⟨l.b, o', cap⟩) sz len ((cs.drop off).take (len * sz))) b o → fp (.sl true (some l) sz n cs) b o := by
  simp only [Mem] at hm
  simp only [Sep] at hs
  have hsub : ∀ i c, ((cs.drop off).take (len * sz))[i]? = some c → cs[off + i]? = some c ∧ i < len * sz := by
    intro i c hc
    rw [List.getElem?_take] at hc
    split at hc
    · rw [List.getElem?_drop] at hc; exact ⟨hc, by assumption⟩
    · cases hc
  have hfpL : ∀ b o, fpL ((cs.drop off).take (len * sz)) b o → fpL cs b o := by
    intro b o hb
    obtain ⟨c, hc, hcb⟩ := fpL_iff.1 hb
    obtain ⟨i, hi⟩ := List.getElem?_of_mem hc
    exact fpL_iff.2 ⟨c, List.mem_of_getElem? (hsub i c hi).1, hcb⟩
  have hsep : SepL ((cs.drop off).take (len * sz)) := by
    refine SepL_iff.2 ⟨fun c hc => ?_, fun i j u v hij hu hv => ?_⟩
    · obtain ⟨i, hi⟩ := List.getElem?_of_mem hc
      exact (SepL_iff.1 hs.2).1 c (List.mem_of_getElem? (hsub i c hi).1)
    · exact (SepL_iff.1 hs.2).2 (off + i) (off + j) u v (by omega) (hsub i u hu).1 (hsub j v hv).1
  by_cases hc0 : cap = 0
  · subst hc0
    have hl0 : len = 0 := by omega
    subst hl0
    refine ⟨by simp [Mem, MemL], by simp [Sep, SepL], fun b o hb => ?_⟩
    simp [fp, fpL] at hb
    omega
  · have ho := h8 hc0
    subst ho
    refine ⟨?_, ?_, ?_⟩
    · simp only [Mem]
      exact ⟨by simp [hm.1]; omega, h5, MemL_take (MemL_drop hm.2.2 off) _⟩
    · simp only [Sep]
      refine ⟨fun j hj hb => ?_, hsep⟩
      have := hs.1 (off + j) (by omega)
      rw [← Nat.add_assoc] at this
      exact this (hfpL _ _ hb)
    · intro b o hb
      simp only [fp] at hb ⊢
      rcases hb with ⟨h1, h2, h3⟩ | hb
      · exact .inl ⟨h1, by omega, by omega⟩
      · exact .inr (hfpL b o hb)

theorem tk_ok (R : RelL C X β I rg w) {v : AU} {x : Value} {h : Nat} (hhl : h < 10000) {X' : XF Unit} (hv : ∃ lv, er lv = v ∧ RR X β lv x ∧ Mem w I lv ∧ (lv.parts? = none → ∀ b o, ¬ fp lv b o)) (ht : tk (erF X) v h = some X') :
    ∃ XL rg', erF XL = X' ∧ RelL C XL β I rg' w ∧ Keeps X XL β β ∧ rg' h = x ∧ (∀ t, t ≠ h → rg' t = rg t) := by
  obtain ⟨lv, h1, h2, h3, h3'⟩ := hv
  have plain : noOwn v = true → X' = (erF X).set (100 * h) v → ∃ XL rg', erF XL = X' ∧ RelL C XL β I rg' w ∧ Keeps X XL β β ∧ rg' h = x ∧ (∀ t, t ≠ h → rg' t = rg t) := by
    intro hn he
    exact ⟨_, _, by rw [erF_set, h1, he], R.setR h hhl (by rw [← er_noOwn, h1]; exact hn) h3 h2, keeps_set X β _ _, by simp, fun t ht => by simp [ht]⟩
  cases v with
  | view k g p off len =>
    simp only [tk] at ht
    split at ht
    · rename_i hc
      obtain ⟨hg, hkh⟩ := hc
      have hg' : (X k).1 = g := hg
      have hop : Opd X β I w (.view k g p off len) x := ⟨lv, h1, h2, h3⟩
      obtain ⟨l, s, m, hh, hsv⟩ := hop.view hg
      split at ht
      · rename_i sz m' cs hN
        split at ht
        · rename_i hq
          simp only [Option.some.injEq] at ht
          obtain ⟨l', lcs, hN', hlcs⟩ := node_sl hN
          simp only [hN', Option.bind_some, hd, Option.some.injEq, Prod.mk.injEq, true_and] at hh
          obtain ⟨rfl, rfl, rfl⟩ := hh
          have hq' : ownQ (X k).2 p = true := by rw [← er_ownQ]; exact hq
          have r := repl p (X k).2 (R.key k).mem (R.key k).sep hq' hN'
          have key : ∀ (v' : AL), er v' = .sl true () sz len ((cs.drop off).take (len * sz)) → Mem w I v' → Sep v' → (∀ b o, fp v' b o → fp (.sl true l' sz m' lcs) b o) → RR X β v' x →
              ∃ XL rg', erF XL = X' ∧ RelL C XL β I rg' w ∧ Keeps X XL β β ∧ rg' h = x ∧ (∀ t, t ≠ h → rg' t = rg t) := by
            intro v' e1 e2 e3 e4 e5
            refine ⟨_, _, ?_, R.takeP k h hhl p hkh hN' rfl hq' e2 e3 e4 e5, (keeps_set X β k _).trans (keeps_set _ β _ _), by simp, fun t ht => by simp [ht]⟩
            rw [erF_set, erF_set, er_setN, e1, ← ht]
            rfl
          obtain ⟨xa, cap, e1, e2⟩ := hsv
          cases l' with
          | none =>
            simp only at e2
            obtain ⟨rfl, rfl, rfl⟩ := e2
            have hm0 := r.mem
            simp only [Mem] at hm0
            refine key (.sl true none sz 0 []) ?_ (by simp [Mem]) (by simp [Sep]) (by simp [fp]) (by simp [RR, CR, e1])
            simp [er, erL]
          | some l =>
            simp only at e2
            obtain ⟨h4, h5, h6, o', rfl, h8⟩ := e2
            obtain ⟨f1, f2, f3⟩ := sub_node r.mem r.sep h4 h5 h6 h8
            refine key _ ?_ f1 f2 f3 (by simp [RR, CR, e1])
            simp [er, erL_eq, ← hlcs, List.map_take, List.map_drop]
        · cases ht
      · rename_i sz m' cs hN
        simp only [Option.some.injEq] at ht
        obtain ⟨l', lcs, hN', hlcs⟩ := node_sl hN
        simp only [hN', Option.bind_some, hd, Option.some.injEq, Prod.mk.injEq, true_and] at hh
        obtain ⟨rfl, rfl, rfl⟩ := hh
        have hm := Mem_getN (R.key k).mem hN'
        have key : ∀ (v' : AL), er v' = .sl false () sz len ((cs.drop off).take (len * sz)) → Mem w I v' → RR X β v' x →
            ∃ XL rg', erF XL = X' ∧ RelL C XL β I rg' w ∧ Keeps X XL β β ∧ rg' h = x ∧ (∀ t, t ≠ h → rg' t = rg t) := by
          intro v' e1 e2 e3
          refine ⟨_, _, ?_, R.setR h hhl (by rw [← er_noOwn, e1]; rfl) e2 e3, keeps_set X β _ _, by simp, fun t ht => by simp [ht]⟩
          rw [erF_set, e1, ← ht]
        obtain ⟨xa, cap, e1, e2⟩ := hsv
        cases l' with
        | none =>
          simp only at e2
          obtain ⟨rfl, rfl, rfl⟩ := e2
          exact key (.sl false none sz 0 []) (by simp [er, erL]) (by simp [Mem]) (by simp [RR, CR, e1])
        | some l =>
          simp only at e2
          obtain ⟨h4, h5, h6, o', rfl, h8⟩ := e2
          simp only [Mem] at hm
          refine key (.sl false (some ⟨l.b, o', cap⟩) sz len ((lcs.drop off).take (len * sz))) (by simp [er, erL_eq, ← hlcs, List.map_take, List.map_drop]) ?_ (by simp [RR, CR, e1])
          by_cases hc0 : cap = 0
          · have hl0 : len = 0 := by omega
            subst hc0 hl0
            simp [Mem, MemL]
          · have := h8 hc0; subst this
            simp only [Mem]
            exact ⟨by simp [hm.1]; omega, h5, MemL_take (MemL_drop hm.2.2 off) _⟩
      · cases ht
    · cases ht
  | ptr k g p i =>
    simp only [tk] at ht
    split at ht
    · rename_i hc
      obtain ⟨hg, rfl, hkh⟩ := hc
      have hg' : (X k).1 = g := hg
      have hop : Opd X β I w (.ptr k g p 0) x := ⟨lv, h1, h2, h3⟩
      obtain ⟨s, l, sz, n, hh, hx⟩ := hop.ptr hg
      split at ht
      · rename_i cs hN
        split at ht
        · rename_i hq
          simp only [Option.some.injEq] at ht
          obtain ⟨l', lcs, hN', hlcs⟩ := node_bx hN
          simp only [hN', Option.bind_some, hd, Option.some.injEq, Prod.mk.injEq] at hh
          obtain ⟨rfl, rfl, rfl, rfl⟩ := hh
          have hq' : ownQ (X k).2 p = true := by rw [← er_ownQ]; exact hq
          have r := repl p (X k).2 (R.key k).mem (R.key k).sep hq' hN'
          refine ⟨_, _, ?_, R.takeP k h hhl p hkh hN' rfl hq' r.mem r.sep (fun _ _ h => h) (by simp [RR, CR, hx] : RR X β (.bx true (some l) lcs) x), (keeps_set X β k _).trans (keeps_set _ β _ _), by simp, fun t ht => by simp [ht]⟩
          rw [erF_set, erF_set, er_setN, ← ht]
          simp [er, erL_eq, hlcs, erF]
        · cases ht
      · cases ht
    · cases ht
  | sl o u sz n cs =>
    cases o with
    | true =>
      cases n with
      | zero =>
        cases cs with
        | nil =>
          simp only [tk, Option.some.injEq] at ht
          obtain ⟨l, lcs, rfl, h5⟩ := er_sl h1
          have hl : lcs = [] := by simpa using h5
          subst hl
          have hnf := h3' rfl
          exact ⟨_, _, by rw [List.foldl_nil, erF_set, h1, ht], R.fresh h hhl [] (by simp) (Frame.refl _ w) h3 (by cases l <;> simp [Sep, SepL, fpL]) h2 (fun b o hb => absurd hb (hnf b o)), keeps_set X β _ _, by simp, fun t ht => by simp [ht]⟩
        | cons c cs => simp [tk, noOwn] at ht
      | succ n => simp [tk, noOwn] at ht
    | false => simp only [tk, noOwn] at ht; exact plain rfl (by simpa using ht.symm)
  | bx o u cs =>
    cases o with
    | true => simp [tk, noOwn] at ht
    | false => simp only [tk, noOwn] at ht; exact plain rfl (by simpa using ht.symm)
  | agg _ => simp [tk] at ht
  | tuple _ => simp [tk] at ht
  | non => simp [tk] at ht
  | dead => simp [tk] at ht
  | sc _ => simp only [tk, noOwn] at ht; exact plain rfl (by simpa using ht.symm)
  | bptr _ _ _ => simp only [tk, noOwn] at ht; exact plain rfl (by simpa using ht.symm)
  | vptr _ _ => simp only [tk, noOwn] at ht; exact plain rfl (by simpa using ht.symm)
  | clos _ _ => simp only [tk, noOwn] at ht; exact plain rfl (by simpa using ht.symm)

end

def tkL (X : XF Unit) (h : Nat) : List AU → Option (XF Unit)
  | [] => some X
  | v :: vs => (tk X v h).bind fun X1 => tkL X1 (h + 1) vs

def gather {L : Type} (X : XF L) (h n : Nat) : List (AV L) := (List.range n).map fun j => (X (100 * (h + j))).2

def clr {L : Type} (X : XF L) (h n : Nat) : XF L := ((List.range n).map (h + ·)).foldl (fun Y h => Y.set (100 * h) .non) X

def takeV (X : XF Unit) (v : AU) : Option (XF Unit) :=
  match v with
  | .agg vs => (if vs.length ≤ 400 then tkL X (H + 1) vs else none).map fun X1 => clr (X1.set (100 * H) (.agg (gather X1 (H + 1) vs.length))) (H + 1) vs.length
  | v => tk X v H

/-- An operand is taken into the hand. -/
def takeO (X : XF Unit) : COd → Option (XF Unit)
  | .t n => match (X (100 * n)).2 with
    | .agg vs => if noOwnL vs then takeV X (.agg vs) else some ((X.set (100 * H) (.agg vs)).set (100 * n) .non)
    | .tuple _ => none
    | _ => takeV X (rd X (.t n))
  | .c v => takeV X v

theorem erF_clr (X : XF LO) (h n : Nat) : erF (clr X h n) = clr (erF X) h n := by
  unfold clr
  generalize (List.range n).map (h + ·) = l
  induction l generalizing X with
  | nil => rfl
  | cons a l ih => simp only [List.foldl_cons]; rw [ih, erF_set]; rfl

section
variable {C : Ctx} {X : XF LO} {β : Nat → Nat × Nat} {I : ASet} {rg : Nat → Value} {w : World}

theorem tkL_ok : ∀ (vs : List AU) (X : XF LO) (rg : Nat → Value) (h : Nat) (X' : XF Unit) (lvs : List AL) (xs : List Value), h + vs.length ≤ 10000 → RelL C X β I rg w → lvs.map er = vs → RRL X β lvs xs → MemA w I lvs → noOwnL lvs = true → (∀ l ∈ lvs, l.parts? = none) →
    tkL (erF X) h vs = some X' → ∃ XL rg', erF XL = X' ∧ RelL C XL β I rg' w ∧ Keeps X XL β β ∧ (∀ j y, xs[j]? = some y → rg' (h + j) = y) ∧ (∀ t, t < h ∨ h + vs.length ≤ t → rg' t = rg t)
  | [], X, rg, h, X', lvs, xs, hhl, R, he, hr, _, _, _, ht => by
    have : lvs = [] := by simpa using he
    subst this
    simp only [RRL] at hr
    subst hr
    simp only [tkL, Option.some.injEq] at ht
    exact ⟨X, rg, ht, R, Keeps.refl X β, by simp, fun _ _ => rfl⟩
  | v :: vs, X, rg, h, X', lvs, xs, hhl, R, he, hr, hm, hn, hp, ht => by
    cases lvs with
    | nil => simp at he
    | cons lv lvs =>
      simp only [List.map_cons, List.cons.injEq] at he
      simp only [RRL] at hr
      obtain ⟨y, ys, rfl, hr1, hr2⟩ := hr
      simp only [MemA] at hm
      simp only [noOwnL, Bool.and_eq_true] at hn
      simp only [tkL] at ht
      cases h1 : tk (erF X) v h with
      | none => simp [h1] at ht
      | some X1 =>
        simp only [h1, Option.bind_some] at ht
        obtain ⟨XL, rg1, e1, R1, K1, e2, e3⟩ := tk_ok R (by simp at hhl; omega) ⟨lv, he.1, hr1, hm.1, fun _ => (noOwn_spec lv hn.1).1⟩ h1
        rw [← e1] at ht
        obtain ⟨XL2, rg2, f1, R2, K2, f2, f3⟩ := tkL_ok vs XL rg1 (h + 1) X' lvs ys (by simp at hhl; omega) R1 he.2 (RRL_keep K1 _ _ hr2) hm.2 hn.2 (fun l hl => hp l (by simp [hl])) ht
        refine ⟨XL2, rg2, f1, R2, K1.trans K2, fun j z hz => ?_, fun t ht => by simp at ht; rw [f3 t (by omega), e3 t (by omega)]⟩
        cases j with
        | zero => simp at hz; subst hz; rw [Nat.add_zero, f3 h (.inl (by omega))]; exact e2
        | succ j => simp at hz; have := f2 j z hz; rwa [Nat.add_assoc, Nat.add_comm 1 j] at this

/-- The hands' values as an aggregate. -/
theorem gather_ok (R : RelL C X β I rg w) (t h n : Nat) (htl : t < 10000) (ht : ∀ j, j < n → t ≠ h + j) :
    RelL C (clr (X.set (100 * t) (.agg (gather X h n))) h n) β I (fun s => if s = t then .agg ((List.range n).map fun j => rg (h + j)).toArray else rg s) w := by
  have hget : ∀ j c, (gather X h n)[j]? = some c → j < n ∧ c = (X (100 * (h + j))).2 := by
    intro j c hc
    simp only [gather, List.getElem?_map] at hc
    by_cases hj : j < n
    · simp [hj] at hc; exact ⟨hj, hc.symm⟩
    · simp [range_none hj] at hc
  refine R.fresh t htl ((List.range n).map (h + ·)) (by simp; intro x hx e; exact ht x hx (by omega)) (Frame.refl _ w) ?_ ?_ ?_ ?_
  · simp only [Mem]
    refine MemA_iff.2 fun c hc => ?_
    obtain ⟨j, hj⟩ := List.getElem?_of_mem hc
    obtain ⟨_, rfl⟩ := hget j c hj
    exact (R.key _).mem
  · simp only [Sep]
    refine SepL_iff.2 ⟨fun c hc => ?_, fun i j u v hij hu hv b o h1 h2 => ?_⟩
    · obtain ⟨j, hj⟩ := List.getElem?_of_mem hc
      obtain ⟨_, rfl⟩ := hget j c hj
      exact (R.key _).sep
    · obtain ⟨_, rfl⟩ := hget i u hu
      obtain ⟨_, rfl⟩ := hget j v hv
      exact R.disj (100 * (h + i)) (100 * (h + j)) (by omega) b o (.inl h1) (.inl h2)
  · simp only [RR]
    refine ⟨_, rfl, RRL_iff.2 ⟨by simp [gather], fun j c y hc hy => ?_⟩⟩
    obtain ⟨hj, rfl⟩ := hget j c hc
    simp [hj] at hy
    rw [← hy]
    exact R.reg _
  · intro b o hb
    simp only [fp] at hb
    obtain ⟨c, hc, hcb⟩ := fpL_iff.1 hb
    obtain ⟨j, hj⟩ := List.getElem?_of_mem hc
    obtain ⟨hj', rfl⟩ := hget j c hj
    exact .inr ⟨h + j, by simp; exact hj', hcb⟩

/-- The hands' values as a tuple. -/
theorem gatherT_ok (R : RelL C X β I rg w) (t h n : Nat) (htl : t < 10000) (ht : ∀ j, j < n → t ≠ h + j) :
    RelL C (clr (X.set (100 * t) (.tuple (gather X h n))) h n) β I (fun s => if s = t then .tuple ((List.range n).map fun j => rg (h + j)).toArray else rg s) w := by
  have hget : ∀ j c, (gather X h n)[j]? = some c → j < n ∧ c = (X (100 * (h + j))).2 := by
    intro j c hc
    simp only [gather, List.getElem?_map] at hc
    by_cases hj : j < n
    · simp [hj] at hc; exact ⟨hj, hc.symm⟩
    · simp [range_none hj] at hc
  refine R.fresh t htl ((List.range n).map (h + ·)) (by simp; intro x hx e; exact ht x hx (by omega)) (Frame.refl _ w) ?_ ?_ ?_ ?_
  · simp only [Mem]
    refine MemA_iff.2 fun c hc => ?_
    obtain ⟨j, hj⟩ := List.getElem?_of_mem hc
    obtain ⟨_, rfl⟩ := hget j c hj
    exact (R.key _).mem
  · simp only [Sep]
    refine SepL_iff.2 ⟨fun c hc => ?_, fun i j u v hij hu hv b o h1 h2 => ?_⟩
    · obtain ⟨j, hj⟩ := List.getElem?_of_mem hc
      obtain ⟨_, rfl⟩ := hget j c hj
      exact (R.key _).sep
    · obtain ⟨_, rfl⟩ := hget i u hu
      obtain ⟨_, rfl⟩ := hget j v hv
      exact R.disj (100 * (h + i)) (100 * (h + j)) (by omega) b o (.inl h1) (.inl h2)
  · simp only [RR]
    refine ⟨_, rfl, RRL_iff.2 ⟨by simp [gather], fun j c y hc hy => ?_⟩⟩
    obtain ⟨hj, rfl⟩ := hget j c hc
    simp [hj] at hy
    rw [← hy]
    exact R.reg _
  · intro b o hb
    simp only [fp] at hb
    obtain ⟨c, hc, hcb⟩ := fpL_iff.1 hb
    obtain ⟨j, hj⟩ := List.getElem?_of_mem hc
    obtain ⟨hj', rfl⟩ := hget j c hj
    exact .inr ⟨h + j, by simp; exact hj', hcb⟩

theorem takeV_ok (R : RelL C X β I rg w) {v : AU} {x : Value} {X' : XF Unit} (hv : ∃ lv, er lv = v ∧ RR X β lv x ∧ Mem w I lv ∧ (lv.parts? = none → ∀ b o, ¬ fp lv b o) ∧ (∀ vs, lv = .agg vs → noOwnL vs = true))
    (hpp : ∀ vs, v = .agg vs → vs.all (fun u => u.parts?.isNone) = true) (ht : takeV (erF X) v = some X') :
    ∃ XL rg', erF XL = X' ∧ RelL C XL β I rg' w ∧ Keeps X XL β β ∧ rg' H = x ∧ (∀ t, t < H ∨ RS ≤ t → rg' t = rg t) := by
  obtain ⟨lv, h1, h2, h3, h4, h5⟩ := hv
  have single : tk (erF X) v H = some X' → ∃ XL rg', erF XL = X' ∧ RelL C XL β I rg' w ∧ Keeps X XL β β ∧ rg' H = x ∧ (∀ t, t < H ∨ RS ≤ t → rg' t = rg t) := by
    intro h
    obtain ⟨XL, rg1, e1, R1, K1, e2, e3⟩ := tk_ok R (by decide) ⟨lv, h1, h2, h3, h4⟩ h
    exact ⟨XL, rg1, e1, R1, K1, e2, fun t ht => e3 t (by unfold H RS at *; omega)⟩
  cases v with
  | agg vs =>
    obtain ⟨lvs, rfl, e⟩ := er_agg h1
    simp only [takeV, Option.map_eq_some_iff] at ht
    obtain ⟨X1, g1, g2⟩ := ht
    split at g1
    case isFalse => cases g1
    rename_i hle
    simp only [RR] at h2
    obtain ⟨xs, hx, h2⟩ := h2
    simp only [Mem] at h3
    obtain ⟨XL, rg1, e1, R1, K1, e2, e3⟩ := tkL_ok vs X rg (H + 1) X1 lvs xs (by unfold H; omega) R e h2 h3 (h5 lvs rfl) (fun l hl => by
      have := hpp vs rfl
      rw [List.all_eq_true] at this
      have := this (er l) (by rw [← e]; exact List.mem_map_of_mem hl)
      rw [er_parts] at this
      cases hq : l.parts? <;> simp [hq] at this ⊢) g1
    have hlen : vs.length = xs.length := by rw [← e]; simpa using (RRL_iff.1 h2).1
    refine ⟨_, _, ?_, gather_ok R1 H (H + 1) vs.length (by decide) (fun j _ => by omega), ?_, ?_, fun t ht => ?_⟩
    · rw [erF_clr, erF_set, e1, ← g2]
      congr 2
      simp only [er, erL_eq, gather, List.map_map]
      congr 1
      refine List.map_congr_left fun j _ => ?_
      simp only [Function.comp, ← e1, erF]
    · refine K1.trans ((keeps_set XL β (100 * H) (.agg (gather XL (H + 1) vs.length))).trans ?_)
      have hk : ∀ (l : List Nat) (Y : XF LO), Keeps Y (l.foldl (fun Y h => Y.set (100 * h) .non) Y) β β := by
        intro l
        induction l with
        | nil => intro Y; exact Keeps.refl Y β
        | cons a l ih => intro Y; exact (keeps_set Y β _ _).trans (ih _)
      exact hk _ _
    · simp only [if_true, hx]
      congr 2
      apply List.ext_getElem?
      intro j
      by_cases hj : j < vs.length
      · have hj' : xs[j]? = some xs[j] := List.getElem?_eq_getElem (by omega)
        simp [List.getElem?_map, hj, hj', e2 j _ hj']
      · simp [range_none hj, List.getElem?_eq_none (Nat.le_of_not_lt (hlen ▸ hj))]
    · show (if t = H then _ else rg1 t) = rg t
      rw [if_neg (by unfold H RS at *; omega)]
      exact e3 t (by unfold H RS at *; omega)
  | _ => exact single ht

/-- Only flat aggregates are taken. -/
def flat : AU → Bool
  | .agg vs => vs.all fun u => u.parts?.isNone
  | _ => true

def takeC (X : XF Unit) (c : COd) : Option (XF Unit) := if flat (rd X c) then takeO X c else none

theorem takeO_ok (R : RelL C X β I rg w) {sz : Nat} {x : Operand} {c : COd} (hnt : C.nt ≤ H) (hc : compOd C.nt sz x = some c) {X' : XF Unit} (ht : takeC (erF X) c = some X') :
    ∃ XL rg', erF XL = X' ∧ RelL C XL β I rg' w ∧ Keeps X XL β β ∧ rg' H = evR rg x ∧ (∀ t, t < H ∨ RS ≤ t → rg' t = rg t) := by
  unfold takeC at ht
  split at ht
  case isFalse => cases ht
  rename_i hfl
  obtain ⟨lv, h1, h2, h3, h4⟩ := rd_ok R hc
  cases c with
  | c v =>
    simp only [takeO, rd] at ht h1 hfl
    refine takeV_ok R ⟨lv, h1, h2, h3, h4, fun vs e => ?_⟩ (fun vs e => by subst e; simpa [flat] using hfl) ht
    -- a constant is no aggregate
    exfalso
    subst e
    cases x with
    | tmp t => simp only [compOd] at hc; split at hc <;> cases hc
    | const u =>
      simp only [compOd] at hc
      split at hc <;> cases hc
      unfold cst at h1
      split at h1 <;> simp [er] at h1
    | func f => simp only [compOd, Option.some.injEq] at hc; cases hc; simp [er] at h1
    | global g => simp [compOd] at hc
  | t n =>
    have hx : x = .tmp n ∧ n < C.nt := by
      cases x with
      | tmp t => simp only [compOd] at hc; split at hc <;> cases hc; exact ⟨rfl, by assumption⟩
      | const u => simp only [compOd] at hc; split at hc <;> cases hc
      | func f => simp [compOd] at hc
      | global g => simp [compOd] at hc
    obtain ⟨rfl, hn⟩ := hx
    simp only [takeO] at ht
    have hrd : rd (erF X) (.t n) = ldV (100 * n) (X (100 * n)).1 [] (er (X (100 * n)).2) := rfl
    split at ht
    · rename_i vs hraw
      have hraw' : er (X (100 * n)).2 = .agg vs := hraw
      split at ht
      · rename_i hno
        rw [hrd, hraw'] at h1
        refine takeV_ok R ⟨lv, h1, h2, h3, h4, fun ws e => ?_⟩ (fun ws e => ?_) ht
        · subst e
          simp only [ldV, er, AV.agg.injEq] at h1
          rw [← er_noOwnL, h1]; exact hno
        · cases e
          rw [hrd, hraw'] at hfl
          simpa [ldV, flat] using hfl
      · simp only [Option.some.injEq] at ht
        have hRn := R.reg n
        have hKn := R.key (100 * n)
        refine ⟨_, _, ?_, R.fresh H (by decide) [n] (by simp; omega) (Frame.refl _ w) hKn.mem hKn.sep hRn (fun b o hb => .inr ⟨n, by simp, hb⟩), (keeps_set X β _ _).trans (keeps_set _ β _ _), by simp [evR], fun t ht => by simp [show t ≠ H by unfold H RS at *; omega]⟩
        simp only [List.foldl_cons, List.foldl_nil]
        rw [erF_set, erF_set, hraw', ← ht]; rfl
    · cases ht
    · rename_i hna _
      refine takeV_ok R ⟨lv, h1, h2, h3, h4, fun ws e => ?_⟩ (fun ws e => ?_) ht
      · exfalso
        subst e
        rw [hrd] at h1
        have hna' : ∀ vs, er (X (100 * n)).2 ≠ .agg vs := hna
        cases hq : er (X (100 * n)).2 with
        | agg vs => exact hna' vs hq
        | sl o u s m cs => cases o <;> simp [hq, ldV, er] at h1
        | bx o u cs => cases o <;> simp [hq, ldV, er] at h1
        | _ => simp [hq, ldV, er] at h1
      · exfalso
        rw [hrd] at e
        have hna' : ∀ vs, er (X (100 * n)).2 ≠ .agg vs := hna
        cases hq : er (X (100 * n)).2 with
        | agg vs => exact hna' vs hq
        | sl o u s m cs => cases o <;> simp [hq, ldV] at e
        | bx o u cs => cases o <;> simp [hq, ldV] at e
        | _ => simp [hq, ldV] at e
end
end Go.OT
