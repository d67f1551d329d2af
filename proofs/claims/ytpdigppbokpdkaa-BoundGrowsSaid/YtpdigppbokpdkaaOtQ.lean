/-
  The contract of a function, and how a body meets it.
-/
import Derived.Test.YtpdigppbokpdkaaOtP
import Derived.Calls
set_option linter.unusedSimpArgs false
set_option linter.unusedVariables false
namespace Go.OT

/-- What is lent to be written: a box's cells, or a slice. -/
inductive Gh (L : Type) where
  | box (cells : List (AV L))
  | nod (v : AV L)
  deriving Inhabited

def initV {L : Type} (gs : List (Gh L)) (as : List (AV L)) (k : Nat) : AV L :=
  if k / 100 < 10000 then (if k % 100 = 0 then as.getD (k / 100) .non else .non)
  else match gs[k / 100 - 10000]? with
    | some (.box cs) => if k % 100 = 0 ∨ k % 100 = 99 then .non else cs.getD (k % 100 - 1) .non
    | some (.nod v) => if k % 100 = 0 then v else .non
    | none => .non

def initX {L : Type} (gs : List (Gh L)) (as : List (AV L)) : XF L := fun k => (0, initV gs as k)


def Fin (X : XF Unit) (gs : List (Gh Unit)) (r : AU) : Prop :=
  (X (100 * RS)).2 = r ∧ ∀ (j : Nat) (g : Gh Unit), gs[j]? = some g → match g with
    | .box cs => ∀ (i : Nat) (c : AU), cs[i]? = some c → i < 98 → (X (100 * (10000 + j) + 1 + i)).2 = c
    | .nod v => (X (100 * (10000 + j))).2 = v

/-- THE CONTRACT: called over what 'gs' lends and with 'as', f returns r, and leaves gs'. -/
def Fn (P : Program) (f : FuncId) (gs : List (Gh Unit)) (as : List AU) (gs' : List (Gh Unit)) (r : AU) : Prop :=
  ∀ (C : Ctx) (XL : XF LO) (β : Nat → Nat × Nat) (I : ASet) (rg : Nat → Value) (w : World) (args : Array Value), C.P = P → erF XL = initX gs as → RelL C XL β I rg w →
    args.size = as.length → (∀ t, t < as.length → args.getD t undef = rg t) →
    Calls P f args w fun e w' => ∃ x XL' β' I' rg', e = .returned x ∧ RelL C XL' β' I' rg' w' ∧ rg' RS = x ∧ Fin (erF XL') gs' r

/-- A result, with what its type says. -/
inductive CRV where
  | t (n : Nat)
  | cell (a n : Nat) (ag : Bool)

def resV1 (X : XF Unit) : CRV → Option (XF Unit)
  | .t n => takeC X (.t n)
  | .cell a n ag => (ldCells X (rd X (.t a)) n).bind fun cs =>
      let v := if ag then AV.agg cs else cs.getD 0 .non
      if flat v = true ∧ noOwn v = true then takeV X v else none

def resAll (X : XF Unit) : Nat → List CRV → Option (XF Unit)
  | _, [] => some X
  | i, r :: rs => (resV1 X r).bind fun X1 => resAll ((X1.set (100 * (RS + 1 + i)) (X1 (100 * H)).2).set (100 * H) .non) (i + 1) rs

def gatherT {L : Type} (X : XF L) (n : Nat) : XF L :=
  if n = 1 then (X.set (100 * RS) (X (100 * (RS + 1))).2).set (100 * (RS + 1)) .non
  else clr (X.set (100 * RS) (.tuple (gather X (RS + 1) n))) (RS + 1) n

def resX (X : XF Unit) (rs : List CRV) : Option (XF Unit) := (resAll X 0 rs).map fun X1 => gatherT X1 rs.length

def resSem (tm : Array Value) : ResultVar → Sem Value
  | .tmp t => Pure.pure (tm.getD t undef)
  | .cell a t => do loadVar t (← asAddr (tm.getD a undef))

theorem results_eq (fn : Func) (tm : Array Value) : results fn tm = (do
    let vs ← fn.results.mapM (resSem tm)
    Pure.pure (if h : vs.size = 1 then vs[0] else .tuple vs)) := by
  unfold results
  congr 1

def crvOk (P : Program) (nt : Nat) : ResultVar → CRV → Prop
  | .tmp t, .t n => t = n ∧ t < nt
  | .cell a ty, .cell a' n ag => a = a' ∧ a < nt ∧ isAggT P ty = some ag ∧ sizeT P ty = some n ∧ (ag = false → n = 1)
  | _, _ => False

section
variable {C : Ctx} {X : XF LO} {β : Nat → Nat × Nat} {I : ASet} {rg : Nat → Value} {w : World}

theorem resV1_ok (R : RelL C X β I rg w) {rv : ResultVar} {r : CRV} (hr : crvOk C.P C.nt rv r) {X' : XF Unit} (h : resV1 (erF X) r = some X') (tm : Array Value) (htm : ∀ t, t < C.nt → tm.getD t undef = rg t) :
    ∃ XL rg' x, erF XL = X' ∧ RelL C XL β I rg' w ∧ rg' H = x ∧ (∀ t, t < H ∨ RS ≤ t → rg' t = rg t) ∧
      (resSem tm rv).run C.P w = .ok x w := by
  cases rv with
  | tmp t =>
    cases r with
    | cell a n ag => simp [crvOk] at hr
    | t n =>
      simp only [crvOk] at hr
      obtain ⟨rfl, hlt⟩ := hr
      simp only [resV1] at h
      obtain ⟨XL, rg', e1, R1, _, e2, e3⟩ := takeO_ok (x := .tmp t) (sz := 0) R (by have := C.hnt; unfold H; omega) (by simp [compOd, hlt]) h
      exact ⟨XL, rg', _, e1, R1, e2, e3, by simp [resSem, evR, htm t hlt]⟩
  | cell a ty =>
    cases r with
    | t n => simp [crvOk] at hr
    | cell a' n ag =>
      simp only [crvOk] at hr
      obtain ⟨rfl, hlt, hag, hn, h1⟩ := hr
      simp only [resV1] at h
      have hop := opd (x := .tmp a) (sz := 0) (nt := C.nt) (c := .t a) R (by simp [compOd, hlt])
      cases hl : ldCells (erF X) (rd (erF X) (.t a)) n with
      | none => simp [hl] at h
      | some cs =>
        simp only [hl, Option.bind_some] at h
        generalize hv0 : (if ag then AV.agg cs else cs.getD 0 .non) = v0 at h
        split at h
        · rename_i hfl
          obtain ⟨b, off, xs, lcs, hx, h2, h3, h4, h5, h6⟩ := ldCells_ok R hop hl
          have hrun := run_loadVar (P := C.P) hag hn h1 h2 h3
          have hv : ∃ lv, er lv = (if ag then AV.agg cs else cs.getD 0 .non) ∧ RR X β lv (if ag then .agg xs.toArray else xs.getD 0 undef) ∧ Mem w I lv := by
            refine ⟨if ag then .agg lcs else lcs.getD 0 .non, ?_, ?_, ?_⟩
            · cases ag with
              | true => simp [er, erL_eq, h4]
              | false =>
                simp only [Bool.false_eq_true, if_false, ← h4, List.getD_eq_getElem?_getD, List.getElem?_map]
                cases lcs[0]? <;> simp [er]
            · cases ag with
              | true => simp only [if_true, RR]; exact ⟨xs, rfl, h5⟩
              | false =>
                simp only [Bool.false_eq_true, if_false, List.getD_eq_getElem?_getD]
                rw [RRL_iff] at h5
                cases hh : lcs[0]? with
                | none => simp [RR]
                | some c0 =>
                  have hlt0 : 0 < xs.length := by rw [← h5.1]; exact (List.getElem?_eq_some_iff.1 hh).1
                  have hx0 : xs[0]? = some xs[0] := List.getElem?_eq_getElem hlt0
                  rw [hx0]
                  exact h5.2 0 c0 _ hh hx0
            · cases ag with
              | true => simpa [Mem] using h6
              | false =>
                simp only [Bool.false_eq_true, if_false, List.getD_eq_getElem?_getD]
                cases hh : lcs[0]? with
                | none => simp [Mem]
                | some c0 => exact MemA_iff.1 h6 c0 (List.mem_of_getElem? hh)
          obtain ⟨lv, g1, g2, g3⟩ := hv
          have hno : noOwn lv = true := by rw [← er_noOwn, g1, hv0]; exact hfl.2
          obtain ⟨XL, rg', e1, R1, _, e2, e3⟩ := takeV_ok R ⟨lv, g1.trans hv0, g2, g3, fun _ => (noOwn_spec lv hno).1, fun vs e => by subst e; simpa [noOwn] using hno⟩
            (fun vs e => by subst e; simpa [flat] using hfl.1) h
          refine ⟨XL, rg', _, e1, R1, e2, e3, ?_⟩
          have hx' : tm.getD a undef = .pointer (some ⟨b, off, none⟩) := by rw [htm a hlt]; exact hx
          simp only [resSem, hx', asAddr, Sem.run_bind, Sem.run_pure, Result.andThen_ok, hrun]
        · cases h

theorem mapM_results {P : Program} {w : World} (f : ResultVar → Sem Value) : ∀ (l : List ResultVar) (xs : List Value), l.length = xs.length → (∀ (i : Nat) (r : ResultVar) (x : Value), l[i]? = some r → xs[i]? = some x → (f r).run P w = .ok x w) → (l.mapM f).run P w = .ok xs w
  | [], xs, h, _ => by
    have : xs = [] := by simpa using h.symm
    subst this; simp
  | r :: l, xs, h, hf => by
    cases xs with
    | nil => simp at h
    | cons x xs =>
      have ih := mapM_results f l xs (by simpa using h) (fun i r x h1 h2 => hf (i + 1) r x (by simpa using h1) (by simpa using h2))
      have h0 := hf 0 r x rfl rfl
      simp only [List.mapM_cons, Sem.run_bind, h0, Result.andThen_ok, ih, Sem.run_pure]

theorem resAll_ok : ∀ (rvs : List ResultVar) (rs : List CRV) (i : Nat) (X : XF LO) (rg : Nat → Value) (X' : XF Unit) (tm : Array Value), RelL C X β I rg w → rvs.length = rs.length → i + rs.length ≤ 400 →
    (∀ (j : Nat) (rv : ResultVar) (r : CRV), rvs[j]? = some rv → rs[j]? = some r → crvOk C.P C.nt rv r) → (∀ t, t < C.nt → tm.getD t undef = rg t) → resAll (erF X) i rs = some X' →
    ∃ (XL : XF LO) (rg' : Nat → Value) (xs : List Value), erF XL = X' ∧ RelL C XL β I rg' w ∧ xs.length = rs.length ∧ (∀ (j : Nat) (x : Value), xs[j]? = some x → rg' (RS + 1 + i + j) = x) ∧ (∀ t, RS + 1 ≤ t → t < RS + 1 + i → rg' t = rg t) ∧
      (∀ (j : Nat) (rv : ResultVar) (x : Value), rvs[j]? = some rv → xs[j]? = some x → (resSem tm rv).run C.P w = .ok x w)
  | [], rs, i, X, rg, X', tm, R, hlen, _, _, _, h => by
    have : rs = [] := by simpa using hlen.symm
    subst this
    simp only [resAll, Option.some.injEq] at h
    exact ⟨X, rg, [], h, R, rfl, by simp, fun _ _ _ => rfl, by simp⟩
  | rv :: rvs, rs, i, X, rg, X', tm, R, hlen, hi, hcr, htm, h => by
    cases rs with
    | nil => simp at hlen
    | cons r rs =>
      simp only [resAll] at h
      cases h1 : resV1 (erF X) r with
      | none => simp [h1] at h
      | some X1 =>
        simp only [h1, Option.bind_some] at h
        obtain ⟨XL1, rg1, x, e1, R1, e2, e3, e4⟩ := resV1_ok R (hcr 0 rv r rfl rfl) h1 tm htm
        have hlim : i + 1 ≤ 400 := by simp at hi; omega
        have R2 := R1.moveR (RS + 1 + i) H (by unfold RS; omega) (by unfold RS H; omega)
        subst e1
        have hE : ((erF XL1).set (100 * (RS + 1 + i)) (erF XL1 (100 * H)).2).set (100 * H) .non = erF ((XL1.set (100 * (RS + 1 + i)) (XL1 (100 * H)).2).set (100 * H) .non) := by rw [erF_set, erF_set]; rfl
        rw [hE] at h
        obtain ⟨XL, rg', xs, f1, f2, f3, f4, f5, f6⟩ := resAll_ok rvs rs (i + 1) _ _ X' tm R2 (by simpa using hlen) (by simp at hi; omega) (fun j rv r h1 h2 => hcr (j + 1) rv r (by simpa using h1) (by simpa using h2))
          (fun t ht => by
            have h9 := C.hnt
            simp only [show t ≠ RS + 1 + i from by unfold RS; omega, if_false]
            rw [e3 t (.inl (by unfold H; omega))]; exact htm t ht) h
        refine ⟨XL, rg', x :: xs, f1, f2, by simp [f3], fun j y hy => ?_, fun t ht1 ht2 => ?_, fun j rv' y h1 h2 => ?_⟩
        · cases j with
          | zero =>
            simp at hy; subst hy
            rw [Nat.add_zero, f5 _ (by omega) (by omega)]
            simp [e2]
          | succ j =>
            simp at hy
            have := f4 j y hy
            rwa [show RS + 1 + i + (j + 1) = RS + 1 + (i + 1) + j by omega]
        · rw [f5 t ht1 (by omega)]
          simp only [show t ≠ RS + 1 + i from by omega, if_false]
          exact e3 t (.inr (by omega))
        · cases j with
          | zero => simp at h1 h2; subst h1 h2; exact e4
          | succ j => exact f6 j rv' y (by simpa using h1) (by simpa using h2)

theorem resX_ok (R : RelL C X β I rg w) {fn : Func} {rs : List CRV} {X' : XF Unit} {tm : Array Value} (hlen : fn.results.toList.length = rs.length) (h400 : rs.length ≤ 400)
    (hcr : ∀ (j : Nat) (rv : ResultVar) (r : CRV), fn.results.toList[j]? = some rv → rs[j]? = some r → crvOk C.P C.nt rv r) (htm : ∀ t, t < C.nt → tm.getD t undef = rg t) (h : resX (erF X) rs = some X') :
    ∃ XL rg' x, erF XL = X' ∧ RelL C XL β I rg' w ∧ rg' RS = x ∧ (results fn tm).run C.P w = .ok x w := by
  simp only [resX, Option.map_eq_some_iff] at h
  obtain ⟨X1, h1, h2⟩ := h
  obtain ⟨XL, rg1, xs, e1, R1, e2, e3, _, e5⟩ := resAll_ok fn.results.toList rs 0 X rg X1 tm R hlen (by omega) hcr htm h1
  have hrun : (results fn tm).run C.P w = .ok (if h : xs.toArray.size = 1 then xs.toArray[0] else .tuple xs.toArray) w := by
    rw [results_eq, ← Array.toArray_toList (xs := fn.results), List.mapM_toArray]
    have := mapM_results (P := C.P) (w := w) (resSem tm) fn.results.toList xs (by omega) (fun i r x h1 h2 => e5 i r x h1 h2)
    simp only [Sem.run_bind, Sem.run_map, this, Result.andThen_ok, Sem.run_pure]
  by_cases h1' : rs.length = 1
  · have R2 := R1.moveR RS (RS + 1) (by decide) (by decide)
    refine ⟨_, _, _, ?_, R2, rfl, ?_⟩
    · rw [erF_set, erF_set, ← h2, gatherT, if_pos h1', ← e1]; rfl
    · have hx1 : xs.length = 1 := by omega
      rw [hrun]
      obtain ⟨y, rfl⟩ : ∃ y, xs = [y] := by
        match xs, hx1 with
        | [y], _ => exact ⟨y, rfl⟩
      have := e3 0 y rfl
      simp only [Nat.add_zero] at this
      simp [this]
  · refine ⟨clr (XL.set (100 * RS) (.tuple (gather XL (RS + 1) rs.length))) (RS + 1) rs.length, _, _, ?_, gatherT_ok R1 RS (RS + 1) rs.length (by decide) (fun j _ => by omega), rfl, ?_⟩
    · rw [erF_clr, erF_set, ← h2, gatherT, if_neg h1', ← e1]
      congr 2
      simp only [er, erL_eq, gather, List.map_map]
      congr 1
    · rw [hrun]
      have hne : xs.length ≠ 1 := by omega
      simp only [List.size_toArray, hne, dif_neg, not_false_eq_true, if_true]
      congr 3
      apply List.ext_getElem?
      intro j
      by_cases hj : j < rs.length
      · have hj' : xs[j]? = some xs[j] := List.getElem?_eq_getElem (by omega)
        have := e3 j _ hj'
        simp only [Nat.add_zero] at this
        simp [hj, hj', this]
      · simp [range_none hj, List.getElem?_eq_none (by omega : xs.length ≤ j)]

theorem RelL.nt {C' : Ctx} (R : RelL C X β I rg w) (h1 : C'.w0 = C.w0) (h2 : C'.K = C.K) (h3 : C'.I0 = C.I0) (h4 : C'.β0 = C.β0) (h5 : C'.rg0 = C.rg0) : RelL C' X β I rg w :=
  ⟨R.reg, R.key, R.disj, R.imm, by rw [h1, h2]; exact R.frK, by rw [h1, h2, h3]; exact R.frI, by rw [h3]; exact R.frI0, by rw [h1, h2]; exact R.fr, by rw [h4]; exact R.gh, by rw [h5]; exact R.gr⟩
end

/-- A body meets a contract. -/
theorem Fn.of_body {P : Program} {f : FuncId} {fn : Func} {c : Code} {gs gs' : List (Gh Unit)} {as : List AU} {r : AU} {rs : List CRV} (hf : P.funcs[f]? = some fn) (hb : fn.body = some c) (hn : fn.ntmps ≤ 9000)
    (ha : as.length ≤ fn.ntmps) (hlen : fn.results.toList.length = rs.length) (h400 : rs.length ≤ 400)
    (hcr : ∀ (j : Nat) (rv : ResultVar) (r : CRV), fn.results.toList[j]? = some rv → rs[j]? = some r → crvOk P fn.ntmps rv r)
    (h : ∀ C : Ctx, C.P = P → C.nt = fn.ntmps → AWp C c (initX gs as) fun e X => (e = .nrm ∨ e = .ret) ∧ ∃ X', resX X rs = some X' ∧ Fin X' gs' r) : Fn P f gs as gs' r := by
  intro C XL β I rg w args hP he R hsz hargs
  subst hP
  let C' : Ctx := { C with nt := fn.ntmps, hnt := hn }
  have R' : RelL C' XL β I rg w := R.nt rfl rfl rfl rfl rfl
  refine calls_of_wp hf hb ?_
  refine wp_mono (h C' rfl rfl { tmps := args ++ Array.replicate (fn.ntmps - args.size) undef, defers := [] } w rfl ?_) fun e a w' hq => ?_
  · -- the registers behind the arguments hold nothing that is known
    let rg1 : Nat → Value := fun t => if t < as.length then rg t else if t < fn.ntmps then undef else rg t
    refine ⟨XL, β, I, rg1, he, ⟨fun t => ?_, R'.key, R'.disj, R'.imm, R'.frK, R'.frI, R'.frI0, R'.fr, R'.gh, fun t ht => ?_⟩, by show (args ++ Array.replicate (fn.ntmps - args.size) undef).size = fn.ntmps; simp; omega, fun t ht => ?_⟩
    · have hr := R'.reg t
      by_cases h1 : t < as.length
      · simpa only [rg1, h1, if_true] using hr
      · by_cases h2 : t < fn.ntmps
        · have hnon : (XL (100 * t)).2 = .non := by
            have hk := congrFun he (100 * t)
            have hk2 := congrArg Prod.snd hk
            simp only [erF, initX, initV] at hk2
            rw [if_pos (by omega), if_pos (by omega), show 100 * t / 100 = t by omega, List.getD_eq_getElem?_getD, List.getElem?_eq_none (show as.length ≤ t by omega)] at hk2
            simp only [Option.getD_none] at hk2
            cases hx : (XL (100 * t)).2 <;> simp [hx, er] at hk2 <;> rfl
          rw [hnon]; simp [RR]
        · simpa only [rg1, h1, h2, if_false] using hr
    · have h1 : ¬ t < as.length := by omega
      have h2 : ¬ t < fn.ntmps := by omega
      simp only [rg1, h1, h2, if_false]
      exact R'.gr t ht
    · have ht' : t < fn.ntmps := ht
      by_cases h1 : t < as.length
      · simp only [rg1, h1, if_true]
        rw [← hargs t h1]
        simp [Array.getD_eq_getD_getElem?, Array.getElem?_append_left (show t < args.size by omega)]
      · simp only [rg1, h1, ht', if_false, if_true]
        rw [Array.getD_eq_getD_getElem?, Array.getElem?_append_right (by omega), Array.getElem?_replicate]
        split <;> rfl
  · have key : ∀ X, a.defers = [] → RelT C' X a.tmps w' → (∃ X', resX X rs = some X' ∧ Fin X' gs' r) → a.defers = [] ∧ ∃ v, (results fn a.tmps).run C.P w' = .ok v w' ∧
        ∃ x XL' β' I' rg', Ending.returned v = .returned x ∧ RelL C XL' β' I' rg' w' ∧ rg' RS = x ∧ Fin (erF XL') gs' r := by
      rintro X hd ⟨XL1, β1, I1, rg1, e1, R1, hs1, ht1⟩ ⟨X', g1, g2⟩
      subst e1
      obtain ⟨XL2, rg2, x, f1, f2, f3, f4⟩ := resX_ok (fn := fn) R1 hlen h400 hcr ht1 g1
      exact ⟨hd, x, f4, x, XL2, β1, I1, rg2, rfl, f2.nt rfl rfl rfl rfl rfl, f3, by rw [f1]; exact g2⟩
    cases e with
    | normal => obtain ⟨hd, X, hr, _, hx⟩ := hq; exact key X hd hr hx
    | ret => obtain ⟨hd, X, hr, _, hx⟩ := hq; exact key X hd hr hx
    | exit id => obtain ⟨_, X, _, hx, _⟩ := hq; rcases hx with hx | hx <;> cases hx
    | goto l => exact hq.elim
    | panic ch => exact hq.elim
    | outgrown => exact hq.elim
end Go.OT
