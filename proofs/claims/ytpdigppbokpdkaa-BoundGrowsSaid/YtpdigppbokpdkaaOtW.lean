/-
  Regions whose order is drawn, by what each operation reads and writes.
-/
import Derived.Test.YtpdigppbokpdkaaOtV
set_option linter.unusedSimpArgs false
set_option linter.unusedVariables false
namespace Go.OT

/-- A register's key alone; all keys of a box together. -/
def unitK (k : Nat) : Nat := if k % 100 = 0 then 2 * (k / 100) else 2 * (k / 100) + 1

def mix (D : List Nat) (Y X : XF Unit) : XF Unit := fun k => if unitK k ∈ D then Y k else X k

/-- A step that reads R and writes D. -/
structure LStep (C : Ctx) (ops : Array Oper) (o : Oper) (R D : List Nat) (Y Y' : XF Unit) : Prop where
  sub : ∀ u ∈ D, u ∈ R
  out : ∀ k, unitK k ∉ D → Y' k = Y k
  step : ∀ X, (∀ k, unitK k ∈ R → X k = Y k) → GStep C ops o X (mix D Y' X)

theorem mix_set {X Y : XF Unit} {d : Nat} {v : AU} (h : X (100 * d) = Y (100 * d)) : mix [2 * d] (Y.set (100 * d) v) X = X.set (100 * d) v := by
  funext k
  simp only [mix, XF.set, List.mem_singleton]
  by_cases hk : k = 100 * d
  · subst hk
    have : unitK (100 * d) = 2 * d := by unfold unitK; rw [if_pos (by omega)]; omega
    simp [this, h]
  · have : unitK k ≠ 2 * d := by unfold unitK; split <;> omega
    simp [this, hk]

def predsOf (o : Oper) : List Nat := o.after.toList.filterMap fun e => if Region.binds .any e then some e.on else none

/-- Whom an operation waits for, directly or through others. -/
def clos : List (List Nat) → List (List Nat) → List (List Nat)
  | acc, [] => acc
  | acc, ds :: l => clos (acc ++ [(ds ++ ds.flatMap fun j => acc.getD j []).eraseDups]) l

def predsLt : Nat → List (List Nat) → Bool
  | _, [] => true
  | i, ds :: l => ds.all (fun j => j < i) && predsLt (i + 1) l

def disjL (a b : List Nat) : Bool := a.all fun x => !b.contains x

def pairsOk (cl : List (List Nat)) (l : List (List Nat × List Nat)) : Bool :=
  (List.range l.length).all fun i => (List.range i).all fun j =>
    (cl.getD i []).contains j || (disjL (l.getD j ([], [])).2 (l.getD i ([], [])).1 && disjL (l.getD i ([], [])).2 (l.getD j ([], [])).1)

def drawOk (pl : List (List Nat)) (l : List (List Nat × List Nat)) : Bool := predsLt 0 pl && pairsOk (clos [] pl) l

theorem predsLt_at : ∀ {l : List (List Nat)} {i m : Nat} {ds : List Nat}, predsLt i l = true → l[m]? = some ds → ∀ j ∈ ds, j < i + m
  | [], i, m, ds, _, h => by simp at h
  | a :: l, i, m, ds, hp, h => by
    simp only [predsLt, Bool.and_eq_true, List.all_eq_true, decide_eq_true_eq] at hp
    cases m with
    | zero => simp at h; subst h; exact hp.1
    | succ m =>
      have := predsLt_at hp.2 (by simpa using h)
      intro j hj
      have := this j hj
      omega

theorem clos_ok {pl : List (List Nat)} (L : Nat → Bool) : ∀ (l acc : List (List Nat)) (n : Nat), acc.length = n → (∀ m, l[m]? = pl[n + m]?) → (∀ i ds, i < n → pl[i]? = some ds → (∀ d ∈ ds, L d = true) → ∀ j ∈ acc.getD i [], L j = true) →
    (∀ i ds, L i = true → pl[i]? = some ds → ∀ d ∈ ds, L d = true) → ∀ i ds, pl[i]? = some ds → (∀ d ∈ ds, L d = true) → ∀ j ∈ (clos acc l).getD i [], L j = true
  | [], acc, n, hn, hl, ha, hc, i, ds, hi, hd, j, hj => by
    simp only [clos] at hj
    by_cases hlt : i < n
    · exact ha i ds hlt hi hd j hj
    · rw [List.getD_eq_getElem?_getD, List.getElem?_eq_none (by omega)] at hj; simp at hj
  | a :: l, acc, n, hn, hl, ha, hc, i, ds, hi, hd, j, hj => by
    simp only [clos] at hj
    refine clos_ok L l _ (n + 1) (by simp [hn]) (fun m => by have := hl (m + 1); simp at this; rw [this]; congr 1; omega) (fun i ds hlt hi hd j hj => ?_) hc i ds hi hd j hj
    by_cases h : i < n
    · rw [List.getD_eq_getElem?_getD, List.getElem?_append_left (by omega)] at hj
      exact ha i ds h hi hd j (by rwa [List.getD_eq_getElem?_getD])
    · have hin : i = n := by omega
      subst hin
      rw [List.getD_eq_getElem?_getD, List.getElem?_append_right (by omega), hn] at hj
      simp only [Nat.sub_self, List.getElem?_cons_zero, Option.getD_some, List.mem_eraseDups, List.mem_append, List.mem_flatMap] at hj
      have h0 := hl 0
      simp at h0
      rw [hi] at h0
      cases h0
      rcases hj with hj | ⟨m, hm, hj⟩
      · exact hd j hj
      · have hLm := hd m hm
        by_cases hmn : m < i
        · cases hpm : pl[m]? with
          | none =>
            rw [List.getElem?_eq_none_iff] at hpm
            have := (List.getElem?_eq_some_iff.1 hi).1
            omega
          | some dm => exact ha m dm hmn hpm (hc m dm hLm hpm) j hj
        · rw [List.getD_eq_getElem?_getD, List.getElem?_eq_none (by omega)] at hj; simp at hj

theorem filter_lt {p q : Nat → Bool} (hpq : ∀ x, q x = true → p x = true) {i : Nat} (hp : p i = true) (hq : q i = false) : ∀ {l : List Nat}, i ∈ l → (l.filter q).length < (l.filter p).length
  | a :: l, h => by
    have hle : ∀ l : List Nat, (l.filter q).length ≤ (l.filter p).length := by
      intro l
      induction l with
      | nil => simp
      | cons b l ih =>
        simp only [List.filter_cons]
        cases hb : q b with
        | true => simp [hpq b hb]; exact ih
        | false => cases p b <;> simp <;> omega
    simp only [List.filter_cons]
    rcases List.mem_cons.1 h with rfl | h
    · simp [hp, hq]; have := hle l; omega
    · have ih := filter_lt hpq hp hq h
      cases hb : q a with
      | true => simp [hpq a hb]; exact ih
      | false => cases p a <;> simp <;> omega

/-- The state when the operations of L below m are done. -/
def stV' (Y : Nat → XF Unit) (D : Nat → List Nat) (L : Nat → Bool) : Nat → XF Unit
  | 0 => Y 0
  | m + 1 => if L m = true then mix (D m) (Y (m + 1)) (stV' Y D L m) else stV' Y D L m

theorem AWp.draw' {C : Ctx} {id : Nat} {ops : Array Oper} {Q : Ex → XF Unit → Prop} (hm : C.P.follows .mixedOrders = true) (Y : Nat → XF Unit) (R D : Nat → List Nat) (pl : List (List Nat)) (l : List (List Nat × List Nat))
    (hl : l.length = ops.size) (hRD : ∀ i, i < ops.size → l.getD i ([], []) = (R i, D i)) (hpl : ops.toList.map predsOf = pl)
    (hs : ∀ i, i < ops.size → ∃ o, ops[i]? = some o ∧ LStep C ops o (R i) (D i) (Y i) (Y (i + 1))) (hok : drawOk pl l = true) (hq : Q .nrm (Y ops.size)) : AWp C (.region id ops true) (Y 0) Q := by
  simp only [drawOk, Bool.and_eq_true] at hok
  obtain ⟨hlt, hpairs⟩ := hok
  have hpa : ∀ (i : Nat) (o : Oper), ops[i]? = some o → pl[i]? = some (predsOf o) := by
    intro i o h
    rw [← hpl]
    simp [h]
  have hpair : ∀ i j, i < ops.size → j < i → j ∈ (clos [] pl).getD i [] ∨ ((∀ u ∈ D j, u ∉ R i) ∧ (∀ u ∈ D i, u ∉ R j)) := by
    intro i j hi hj
    simp only [pairsOk, List.all_eq_true, List.mem_range, hl] at hpairs
    have := hpairs i hi j hj
    simp only [Bool.or_eq_true, Bool.and_eq_true, List.contains_iff_mem, hRD i hi, hRD j (by omega)] at this
    rcases this with h | h
    · exact .inl h
    · refine .inr ⟨fun u hu => ?_, fun u hu => ?_⟩
      · have := List.all_eq_true.1 h.1 u hu; simpa using this
      · have := List.all_eq_true.1 h.2 u hu; simpa using this
  -- one listed set after the other
  have key : ∀ (fuel : Nat) (listed : Array Bool) (a : Act) (w : World), listed.size = ops.size →
      (∀ i o, listed.getD i false = true → ops[i]? = some o → ∀ d ∈ predsOf o, listed.getD d false = true) →
      ((List.range ops.size).filter fun i => !listed.getD i true).length ≤ fuel → a.defers = [] → RelT C (stV' Y D (fun i => listed.getD i false) ops.size) a.tmps w →
      wpAny C.P .any ops (CQ C Q) fuel listed a w := by
    intro fuel
    induction fuel with
    | zero =>
      intro listed a w hsz hcl hcnt hd hr
      have hall : ∀ i, i < ops.size → listed.getD i true = true := by
        intro i hi
        cases h : listed.getD i true with
        | true => rfl
        | false =>
          exfalso
          have : i ∈ (List.range ops.size).filter fun i => !listed.getD i true := by simp only [List.mem_filter, List.mem_range, hi, h, Bool.not_false, and_self]
          have h0 := List.eq_nil_of_length_eq_zero (Nat.le_zero.1 hcnt)
          rw [h0] at this
          cases this
      have hempty : Region.ready .any ops listed = [] := by
        rw [List.eq_nil_iff_forall_not_mem]
        intro i hi
        rw [mem_ready] at hi
        obtain ⟨h0, o, ho, _⟩ := hi
        have := hall i (Array.getElem?_eq_some_iff.1 ho).1
        rw [h0] at this
        cases this
      refine ⟨hempty, hd, _, hr, ?_⟩
      have : ∀ m, m ≤ ops.size → stV' Y D (fun i => listed.getD i false) m = Y m := by
        intro m
        induction m with
        | zero => intro _; rfl
        | succ m ih =>
          intro hm
          obtain ⟨o, _, hst⟩ := hs m (by omega)
          have hL : listed.getD m false = true := by
            have := hall m (by omega)
            simp only [Array.getD_eq_getD_getElem?, Array.getElem?_eq_getElem (show m < listed.size by omega), Option.getD_some] at this ⊢
            exact this
          simp only [stV', hL, if_true, ih (by omega)]
          funext k
          simp only [mix]
          split
          · rfl
          · rename_i hk; exact (hst.out k hk).symm
      rw [this _ (Nat.le_refl _)]
      exact hq
    | succ fuel ih =>
      intro listed a w hsz hcl hcnt hd hr
      refine ⟨fun hempty => ?_, fun i hi => ?_⟩
      · -- nothing is ready: all is done
        have hall : ∀ i, i < ops.size → listed.getD i false = true := by
          intro i
          induction i using Nat.strongRecOn with
          | _ i ihi =>
            intro hi
            cases h : listed.getD i false with
            | true => rfl
            | false =>
              exfalso
              obtain ⟨o, ho, _⟩ := hs i hi
              have hin : i ∈ Region.ready .any ops listed := by
                rw [mem_ready]
                refine ⟨by
                  simp only [Array.getD_eq_getD_getElem?, Array.getElem?_eq_getElem (show i < listed.size by omega), Option.getD_some] at h ⊢
                  exact h, o, ho, fun e he hb => ?_⟩
                have hdp : e.on ∈ predsOf o := by
                  simp only [predsOf, List.mem_filterMap]
                  exact ⟨e, by simpa using he, by rw [if_pos hb]⟩
                have hlt' := predsLt_at hlt (hpa i o ho) e.on hdp
                exact ihi e.on (by omega) (by omega)
              rw [hempty] at hin
              cases hin
        refine ⟨hd, _, hr, ?_⟩
        have : ∀ m, m ≤ ops.size → stV' Y D (fun i => listed.getD i false) m = Y m := by
          intro m
          induction m with
          | zero => intro _; rfl
          | succ m ih =>
            intro hm
            obtain ⟨o, _, hst⟩ := hs m (by omega)
            simp only [stV', hall m (by omega), if_true, ih (by omega)]
            funext k
            simp only [mix]
            split
            · rfl
            · rename_i hk; exact (hst.out k hk).symm
        rw [this _ (Nat.le_refl _)]
        exact hq
      · -- one that is ready
        rw [mem_ready] at hi
        obtain ⟨h0, o, ho, hpre⟩ := hi
        have hisz : i < ops.size := (Array.getElem?_eq_some_iff.1 ho).1
        have hi0 : listed.getD i false = false := by
          simp only [Array.getD_eq_getD_getElem?, Array.getElem?_eq_getElem (show i < listed.size by omega), Option.getD_some] at h0 ⊢
          exact h0
        obtain ⟨o', ho', hst⟩ := hs i hisz
        rw [ho] at ho'
        cases ho'
        have hpre' : ∀ d ∈ predsOf o, listed.getD d false = true := by
          intro d hdm
          simp only [predsOf, List.mem_filterMap] at hdm
          obtain ⟨e, he, hde⟩ := hdm
          split at hde
          · rename_i hb
            cases hde
            exact hpre e (by simpa using he) hb
          · cases hde
        have hclo : ∀ m o', ops[m]? = some o' → (∀ d ∈ predsOf o', listed.getD d false = true) → ∀ j ∈ (clos [] pl).getD m [], listed.getD j false = true := by
          intro m o' hm' hd' j hj
          refine clos_ok (pl := pl) (fun i => listed.getD i false) pl [] 0 rfl (by simp) (by simp) (fun i ds hL hds d hdd => ?_) m _ (hpa m o' hm') hd' j hj
          have hi' : i < ops.size := by
            have := (List.getElem?_eq_some_iff.1 hds).1
            rw [← hpl] at this
            simpa using this
          have hoi : ops[i]? = some ops[i] := Array.getElem?_eq_getElem hi'
          rw [hpa i _ hoi] at hds
          cases hds
          exact hcl i _ hL hoi d hdd
        -- apart from what is not done below i, and what is done above it
        have hbelow : ∀ m, m < i → listed.getD m false = false → ∀ u ∈ D m, u ∉ R i := by
          intro m hmi hmL
          rcases hpair i m hisz hmi with h | h
          · have := hclo i o ho hpre' m h
            rw [hmL] at this
            cases this
          · exact h.1
        have habove : ∀ m, i < m → m < ops.size → listed.getD m false = true → (∀ u ∈ D m, u ∉ R i) ∧ (∀ u ∈ D i, u ∉ R m) := by
          intro m hmi hms hmL
          rcases hpair m i hms hmi with h | h
          · have hom : ops[m]? = some ops[m] := Array.getElem?_eq_getElem hms
            have := hclo m _ hom (hcl m _ hmL hom) i h
            rw [hi0] at this
            cases this
          · exact ⟨h.2, h.1⟩
        have hA : ∀ m, m ≤ i → ∀ k, unitK k ∈ R i → stV' Y D (fun i => listed.getD i false) m k = Y m k := by
          intro m
          induction m with
          | zero => intro _ k _; rfl
          | succ m ihm =>
            intro hmi k hk
            obtain ⟨om, _, hstm⟩ := hs m (by omega)
            simp only [stV']
            by_cases hL : listed.getD m false = true
            · rw [if_pos hL]
              simp only [mix]
              split
              · rfl
              · rename_i hkd; rw [ihm (by omega) k hk, hstm.out k hkd]
            · rw [if_neg hL, ihm (by omega) k hk]
              exact (hstm.out k (fun hu => hbelow m (by omega) (by simpa using hL) _ hu hk)).symm
        have hB : ∀ n, ∀ k, unitK k ∈ R i → i + n ≤ ops.size → stV' Y D (fun i => listed.getD i false) (i + n) k = Y i k := by
          intro n
          induction n with
          | zero => intro k hk _; exact hA i (Nat.le_refl _) k hk
          | succ n ihn =>
            intro k hk hle
            rw [← Nat.add_assoc]
            simp only [stV']
            by_cases hL : listed.getD (i + n) false = true
            · rw [if_pos hL]
              simp only [mix]
              have hne : 0 < n := by
                rcases Nat.eq_zero_or_pos n with h | h
                · subst h; simp only [Nat.add_zero] at hL; rw [hi0] at hL; cases hL
                · exact h
              rw [if_neg (fun hu => (habove (i + n) (by omega) (by omega) hL).1 _ hu hk)]
              exact ihn k hk (by omega)
            · rw [if_neg hL]
              exact ihn k hk (by omega)
        have hag : ∀ k, unitK k ∈ R i → stV' Y D (fun i => listed.getD i false) ops.size k = Y i k := by
          intro k hk
          have := hB (ops.size - i) k hk (by omega)
          rwa [show i + (ops.size - i) = ops.size by omega] at this
        have hset : ∀ m, (listed.setIfInBounds i true).getD m false = if m = i then true else listed.getD m false := by
          intro m
          by_cases e : m = i
          · subst e
            simp [Array.getD_eq_getD_getElem?, hsz, hisz]
          · simp only [Array.getD_eq_getD_getElem?, Array.getElem?_setIfInBounds_ne (Ne.symm e), e, if_false]
        obtain ⟨L', hL'⟩ : ∃ L' : Nat → Bool, L' = fun j => (listed.setIfInBounds i true).getD j false := ⟨_, rfl⟩
        have hset' : ∀ m, L' m = if m = i then true else listed.getD m false := by rw [hL']; exact hset
        have hC0 : ∀ m, m ≤ i → stV' Y D L' m = stV' Y D (fun i => listed.getD i false) m := by
          intro m
          induction m with
          | zero => intro _; rfl
          | succ m ihm =>
            intro hmi
            simp only [stV', hset', show m ≠ i by omega, if_false, ihm (by omega)]
        have hC : ∀ n, i + 1 + n ≤ ops.size → stV' Y D L' (i + 1 + n) = mix (D i) (Y (i + 1)) (stV' Y D (fun i => listed.getD i false) (i + 1 + n)) := by
          intro n
          induction n with
          | zero =>
            intro _
            simp only [Nat.add_zero, stV', hset', if_true, hC0 i (Nat.le_refl _), hi0, Bool.false_eq_true, if_false]
          | succ n ihn =>
            intro hle
            rw [← Nat.add_assoc]
            simp only [stV', hset', show i + 1 + n ≠ i by omega, if_false, ihn (by omega)]
            by_cases hL : listed.getD (i + 1 + n) false = true
            · rw [if_pos hL, if_pos hL]
              have hap := habove (i + 1 + n) (by omega) (by omega) hL
              obtain ⟨_, _, hstm⟩ := hs (i + 1 + n) (by omega)
              funext k
              simp only [mix]
              by_cases hu : unitK k ∈ D (i + 1 + n)
              · by_cases hu' : unitK k ∈ D i
                · exact absurd (hst.sub _ hu') (hap.1 _ hu)
                · simp [hu, hu']
              · simp [hu]
            · rw [if_neg hL, if_neg hL]
        have hnew : stV' Y D L' ops.size = mix (D i) (Y (i + 1)) (stV' Y D (fun i => listed.getD i false) ops.size) := by
          have := hC (ops.size - (i + 1)) (by omega)
          rwa [show i + 1 + (ops.size - (i + 1)) = ops.size by omega] at this
        refine (hst.step _ hag).wpOp ho hd hr fun a' w' hd' hr' => ?_
        refine ih _ a' w' (by simp [hsz]) (fun m om hL hom d hdd => ?_) ?_ hd' (by rw [hL'] at hnew; rw [hnew]; exact hr')
        · rw [hset] at hL ⊢
          by_cases ed : d = i
          · rw [if_pos ed]
          · rw [if_neg ed]
            by_cases em : m = i
            · rw [em, ho] at hom
              cases hom
              exact hpre' d hdd
            · rw [if_neg em] at hL
              exact hcl m om hL hom d hdd
        · have := filter_lt (p := fun i => !listed.getD i true) (q := fun j => !(listed.setIfInBounds i true).getD j true) (fun x hx => by
              by_cases e : x = i
              · subst e; simp [h0]
              · rwa [getD_set_ne true (Ne.symm e)] at hx) (i := i) (by simp [h0]) (by simp [Array.getD_eq_getD_getElem?, hsz, hisz]) (List.mem_range.2 hisz)
          omega
  intro a w hd hr
  refine wp_region_any hm (key ops.size _ a _ (by simp) (fun i o h => ?_) ?_ hd ?_)
  · simp only [Array.getD_eq_getD_getElem?, Array.getElem?_replicate] at h
    split at h <;> simp at h
  · exact Nat.le_trans (List.length_filter_le _ _) (by simp)
  · have hz : ∀ m, stV' Y D (fun i => (Array.replicate ops.size false).getD i false) m = Y 0 := by
      intro m
      induction m with
      | zero => rfl
      | succ m ih =>
        have : (Array.replicate ops.size false).getD m false = false := by
          simp only [Array.getD_eq_getD_getElem?, Array.getElem?_replicate]
          split <;> rfl
        simp only [stV', this, Bool.false_eq_true, if_false, ih]
    rw [hz]
    obtain ⟨XL, β, I, rg, he, Rr, h1, h2⟩ := hr
    exact ⟨XL, β, I, rg, he, Rr.world (frame_drew _ w), h1, h2⟩

/-- A run in the text's order, with what each step reads and writes. -/
inductive LRun (C : Ctx) (ops : Array Oper) : Nat → XF Unit → XF Unit → List (List Nat × List Nat) → Prop
  | nil {i : Nat} {X : XF Unit} (h : i = ops.size) : LRun C ops i X X []
  | cons {i : Nat} {o : Oper} {R D : List Nat} {X X1 X' : XF Unit} {l : List (List Nat × List Nat)} (hi : ops[i]? = some o) (h : LStep C ops o R D X X1) (r : LRun C ops (i + 1) X1 X' l) : LRun C ops i X X' ((R, D) :: l)

theorem LRun.states {C : Ctx} {ops : Array Oper} {i : Nat} {X X' : XF Unit} {l : List (List Nat × List Nat)} (h : LRun C ops i X X' l) :
    i + l.length = ops.size ∧ ∃ Y : Nat → XF Unit, Y i = X ∧ Y ops.size = X' ∧ ∀ m, i ≤ m → m < ops.size → ∃ o, ops[m]? = some o ∧ LStep C ops o (l.getD (m - i) ([], [])).1 (l.getD (m - i) ([], [])).2 (Y m) (Y (m + 1)) := by
  induction h with
  | nil h => exact ⟨by simp [h], fun _ => _, rfl, rfl, fun m h1 h2 => by omega⟩
  | @cons i o R D X X1 X' l hi h r ih =>
    obtain ⟨hlen, Y, h1, h2, h3⟩ := ih
    refine ⟨by simp; omega, fun m => if m ≤ i then X else Y m, by simp, ?_, fun m hm1 hm2 => ?_⟩
    · have : i < ops.size := (Array.getElem?_eq_some_iff.1 hi).1
      simp [show ¬ ops.size ≤ i by omega, h2]
    · by_cases e : m = i
      · subst e
        refine ⟨o, hi, ?_⟩
        simpa [h1, show ¬ m + 1 ≤ m by omega] using h
      · obtain ⟨o', ho', hst⟩ := h3 m (by omega) hm2
        refine ⟨o', ho', ?_⟩
        simp only [show ¬ m ≤ i by omega, show ¬ m + 1 ≤ i by omega, if_false]
        rw [show m - i = (m - (i + 1)) + 1 by omega]
        simpa using hst

theorem AWp.draw {C : Ctx} {id : Nat} {ops : Array Oper} {X X' : XF Unit} {Q : Ex → XF Unit → Prop} {l : List (List Nat × List Nat)} {pl : List (List Nat)} (hm : C.P.follows .mixedOrders = true) (h : LRun C ops 0 X X' l)
    (hpl : ops.toList.map predsOf = pl) (hok : drawOk pl l = true) (hq : Q .nrm X') : AWp C (.region id ops true) X Q := by
  obtain ⟨hlen, Y, rfl, rfl, h3⟩ := h.states
  exact AWp.draw' hm Y (fun i => (l.getD i ([], [])).1) (fun i => (l.getD i ([], [])).2) pl l (by omega) (fun i _ => rfl) hpl (fun i hi => by
    obtain ⟨o, ho, hst⟩ := h3 i (Nat.zero_le _) hi
    exact ⟨o, ho, by simpa using hst⟩) hok hq
end Go.OT
