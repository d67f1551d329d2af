/-
  Loads; addresses of fields and elements; lengths; parts of slices and strings.
-/
import Derived.Test.YtpdigppbokpdkaaOtH
namespace Go.OT

def isAggT (P : Program) (t : TypeId) : Option Bool :=
  (P.underlying t).map fun d => match d with
    | .struct _ | .array _ _ => true
    | _ => false

theorem run_isAgg {P : Program} {t : TypeId} {b : Bool} (h : isAggT P t = some b) (w : World) : (isAgg t).run P w = .ok b w := by
  unfold isAggT at h
  cases hd : P.underlying t with
  | none => simp [hd] at h
  | some d =>
    simp only [hd, Option.map_some, Option.some.injEq] at h
    unfold isAgg
    simp only [Sem.run_bind, run_underlying hd, Result.andThen_ok]
    subst h
    cases d <;> rfl

def AV.isNon {L : Type} : AV L → Bool
  | .non => true
  | _ => false

theorem range_none {n j : Nat} (h : ¬ j < n) : (List.range n)[j]? = none := by simp; omega

def ldCells (X : XF Unit) (x : AU) (n : Nat) : Option (List AU) :=
  match x with
  | .bptr b g i => if (X (100 * b + 99)).1 = g ∧ i + n ≤ 98 ∧ (List.range n).all (fun j => !(X (100 * b + 1 + (i + j))).2.isNon) = true then
      some ((List.range n).map fun j => rdK (100 * b + 1 + (i + j)) (X (100 * b + 1 + (i + j)))) else none
  | .ptr k g p i => if (X k).1 = g then match (getN (X k).2 p).bind AV.cells? with
      | some cs => if i + n ≤ cs.length then some ((List.range n).map fun j => ldV k g (p ++ [i + j]) (cs.getD (i + j) .non)) else none
      | none => none
    else none
  | .vptr _ cs => if n ≤ cs.length then some (cs.take n) else none
  | _ => none

section
variable {C : Ctx} {X : XF LO} {β : Nat → Nat × Nat} {I : ASet} {rg : Nat → Value} {w : World}

theorem ldV_RR {k : Nat} {p : List Nat} {c : AL} {y : Value} (hg : getN (X k).2 p = some c) (hm : Mem w I c) (hc : CR c y) : RR X β (ldV k (X k).1 p c) y := by
  cases c with
  | sl o l s n cs =>
    cases o with
    | false => exact RR_of_CR hc
    | true =>
      simp only [ldV, RR, Nat.le_refl, true_and]
      intro _
      refine ⟨l, s, n, by simp [hg, hd], ?_⟩
      cases l with
      | none => simp only [CR] at hc; exact ⟨none, 0, by rw [hc.1, hc.2], rfl, rfl, hc.2⟩
      | some l =>
        simp only [CR] at hc
        simp only [Mem] at hm
        exact ⟨_, _, hc, by omega, hm.2.1, by omega, l.o, rfl, fun _ => by omega⟩
  | bx o l cs =>
    cases o with
    | false => exact RR_of_CR hc
    | true =>
      cases l with
      | none => simp [Mem] at hm
      | some l =>
        simp only [ldV, RR, Nat.le_refl, true_and]
        intro _
        simp only [CR] at hc
        exact ⟨false, l, 0, 0, by simp [hg, hd], by simpa using hc⟩
  | dead => simp [ldV, RR]
  | non => simp [CR] at hc
  | _ => simp only [ldV]; exact RR_of_CR hc

theorem ldV_Mem {k g : Nat} {p : List Nat} {c : AL} (hm : Mem w I c) : Mem w I (ldV k g p c) := by
  cases c with
  | sl o l s n cs => cases o <;> simp only [ldV] <;> first | exact hm | simp [Mem]
  | bx o l cs => cases o <;> simp only [ldV] <;> first | exact hm | simp [Mem]
  | _ => simpa only [ldV] using hm

theorem getN_append (p : List Nat) (i : Nat) : ∀ (v N : AL) (cs : List AL) (c : AL), getN v p = some N → N.cells? = some cs → cs[i]? = some c → getN v (p ++ [i]) = some c := by
  induction p with
  | nil => intro v N cs c hg hc hi; simp only [getN, Option.some.injEq] at hg; subst hg; simp [getN, hc, hi]
  | cons j p ih =>
    intro v N cs c hg hc hi
    simp only [getN, List.cons_append] at hg ⊢
    cases hv : v.cells? with
    | none => simp [hv] at hg
    | some ds =>
      simp only [hv] at hg ⊢
      cases hj : ds[j]? with
      | none => simp [hj] at hg
      | some d => simp only [hj] at hg ⊢; exact ih d N cs c hg hc hi

theorem cells_at {N : AL} {cs : List AL} {l : Loc} (hm : Mem w I N) (hc : N.cells? = some cs) (hl : N.loc? = some l) (i : Nat) (c : AL) (hi : cs[i]? = some c) : (∃ y, w.at l.b (l.o + i) = some y ∧ CR c y) ∧ Mem w I c := by
  cases N with
  | sl o l' s n k =>
    simp only [AV.cells?, Option.some.injEq] at hc; subst hc
    simp only [AV.loc?] at hl; subst hl
    simp only [Mem] at hm
    have := (MemL_iff.1 hm.2.2) i c hi
    exact ⟨this.1, this.2.1⟩
  | bx o l' k =>
    simp only [AV.cells?, Option.some.injEq] at hc; subst hc
    simp only [AV.loc?] at hl; subst hl
    simp only [Mem] at hm
    have := (MemL_iff.1 hm) i c hi
    exact ⟨this.1, this.2.1⟩
  | _ => simp [AV.cells?] at hc

theorem hd_loc {N : AL} {s : Bool} {l : LO} {sz n : Nat} (h : hd N = some (s, l, sz, n)) : N.loc? = l := by
  cases N <;> simp [hd] at h <;> simp [AV.loc?, h]

/-- The cells that a load reads. -/
theorem ldCells_ok (R : RelL C X β I rg w) {v : AU} {x : Value} {n : Nat} {cs : List AU} (h : Opd X β I w v x) (hl : ldCells (erF X) v n = some cs) :
    ∃ (b o : Nat) (xs : List Value) (lcs : List AL), x = .pointer (some ⟨b, o, none⟩) ∧ xs.length = n ∧ (∀ j y, xs[j]? = some y → w.at b (o + j) = some y) ∧ lcs.map er = cs ∧ RRL X β lcs xs ∧ MemA w I lcs := by
  -- from a function that tells each cell
  have build : ∀ (b o : Nat) (f : Nat → AL), (∀ j, j < n → ∃ y, w.at b (o + j) = some y ∧ RR X β (f j) y ∧ Mem w I (f j)) →
      ∃ (xs : List Value), xs.length = n ∧ (∀ j y, xs[j]? = some y → w.at b (o + j) = some y) ∧ RRL X β ((List.range n).map f) xs ∧ MemA w I ((List.range n).map f) := by
    intro b o f hf
    refine ⟨(List.range n).map fun j => (w.at b (o + j)).getD undef, by simp, ?_, ?_, ?_⟩
    · intro j y hy
      simp only [List.getElem?_map, List.getElem?_range] at hy
      by_cases hj : j < n
      · obtain ⟨z, hz, _⟩ := hf j hj
        simp [List.getElem?_range, hj, hz] at hy
        rw [hz, hy]
      · simp [range_none hj] at hy
    · rw [RRL_iff]
      refine ⟨by simp, fun j c y hc hy => ?_⟩
      by_cases hj : j < n
      · obtain ⟨z, hz, hr, _⟩ := hf j hj
        simp [List.getElem?_range, hj, hz] at hc hy
        rw [← hc, ← hy]; exact hr
      · simp [range_none hj] at hc
    · rw [MemA_iff]
      intro c hc
      obtain ⟨j, hj, rfl⟩ := List.mem_map.1 hc
      exact (hf j (by simpa using hj)).choose_spec.2.2
  cases v with
  | bptr b g i =>
    simp only [ldCells] at hl
    split at hl
    · rename_i hcond
      obtain ⟨hg, hi, hall⟩ := hcond
      simp only [Option.some.injEq] at hl
      have hx := h.bptr hg
      obtain ⟨xs, h1, h2, h3, h4⟩ := build (β b).1 ((β b).2 + i) (fun j => rdK (100 * b + 1 + (i + j)) (X (100 * b + 1 + (i + j)))) (by
        intro j hj
        have hnn := (List.all_eq_true.1 hall) j (by simpa using hj)
        have hne : (X (100 * b + 1 + (i + j))).2 ≠ .non := by
          intro e; simp [erF, e, er, AV.isNon] at hnn
        have hK := R.key (100 * b + 1 + (i + j))
        obtain ⟨⟨y, hy, hcr⟩, _⟩ := hK.cell (by unfold isCell; omega) hne
        rw [show (100 * b + 1 + (i + j)) / 100 = b by omega, show (100 * b + 1 + (i + j)) % 100 - 1 = i + j by omega] at hy
        exact ⟨y, by rw [Nat.add_assoc]; exact hy, ldV_RR (by simp [getN]) hK.mem hcr, ldV_Mem hK.mem⟩)
      refine ⟨_, _, xs, _, hx, h1, h2, ?_, h3, h4⟩
      rw [← hl, List.map_map]
      refine List.map_congr_left fun j _ => ?_
      simp only [Function.comp, rdK, er_ldV, erF]
    · cases hl
  | ptr k g p i =>
    simp only [ldCells] at hl
    split at hl
    · rename_i hg
      obtain ⟨s, l, sz, m, hhd, hx⟩ := h.ptr hg
      cases hN : getN (X k).2 p with
      | none => simp [hN] at hhd
      | some N =>
        simp only [hN, Option.bind_some] at hhd
        have hloc := hd_loc hhd
        simp only [erF, er_getN, hN, Option.map_some, Option.bind_some, er_cells] at hl
        cases hcs : N.cells? with
        | none => simp [hcs] at hl
        | some ks =>
          simp only [hcs, Option.map_some, List.length_map] at hl
          split at hl
          · rename_i hlen
            simp only [Option.some.injEq] at hl
            have hMN : Mem w I N := Mem_getN (R.key k).mem hN
            obtain ⟨xs, h1, h2, h3, h4⟩ := build l.b (l.o + i) (fun j => ldV k g (p ++ [i + j]) (ks.getD (i + j) .non)) (by
              intro j hj
              have hlt : i + j < ks.length := by omega
              have hk : ks[i + j]? = some (ks.getD (i + j) .non) := by simp [List.getD_eq_getElem?_getD, hlt]
              obtain ⟨⟨y, hy, hcr⟩, hmc⟩ := cells_at hMN hcs hloc (i + j) _ hk
              have hgg : g = (X k).1 := hg.symm
              rw [hgg]
              exact ⟨y, by rw [Nat.add_assoc]; exact hy, ldV_RR (getN_append p (i + j) _ N ks _ hN hcs hk) hmc hcr, ldV_Mem hmc⟩)
            refine ⟨_, _, xs, _, hx, h1, h2, ?_, h3, h4⟩
            rw [← hl, List.map_map]
            refine List.map_congr_left fun j _ => ?_
            simp only [Function.comp, er_ldV, List.getD_eq_getElem?_getD, List.getElem?_map]
            cases ks[i + j]? <;> simp [er]
          · cases hl
    · cases hl
  | vptr u cs' =>
    simp only [ldCells] at hl
    split at hl
    · rename_i hlen
      simp only [Option.some.injEq] at hl
      obtain ⟨l, lcs, h1, hx, hm⟩ := h.vptr
      have hlen' : n ≤ lcs.length := by rw [← h1] at hlen; simpa using hlen
      obtain ⟨xs, h2, h3, h4, h5⟩ := build l.b l.o (fun j => lcs.getD j .non) (by
        intro j hj
        have hlt : j < lcs.length := by omega
        have hk : lcs[j]? = some (lcs.getD j .non) := by simp [List.getD_eq_getElem?_getD, hlt]
        obtain ⟨⟨y, hy, hcr⟩, hmc, _⟩ := (MemL_iff.1 hm) j _ hk
        exact ⟨y, hy, RR_of_CR hcr, hmc⟩)
      have he : (List.range n).map (fun j => lcs.getD j .non) = lcs.take n := by
        apply List.ext_getElem?
        intro j
        by_cases hj : j < n
        · simp [List.getElem?_range, hj, List.getElem?_take, List.getD_eq_getElem?_getD, show j < lcs.length by omega]
        · simp [range_none hj, List.getElem?_take, hj]
      rw [he] at h4 h5
      exact ⟨_, _, xs, lcs.take n, hx, h2, h3, by rw [← hl, ← h1, List.map_take], h4, h5⟩
    · cases hl
  | _ => simp [ldCells] at hl
end

/-! ### load -/
theorem run_loadVar {P : Program} {w : World} {t : TypeId} {ag : Bool} {n b o : Nat} {xs : List Value} (hag : isAggT P t = some ag) (hn : sizeT P t = some n) (h1 : ag = false → n = 1)
    (hlen : xs.length = n) (hx : ∀ j y, xs[j]? = some y → w.at b (o + j) = some y) :
    (loadVar t ⟨b, o, none⟩).run P w = .ok (if ag then .agg xs.toArray else xs.getD 0 undef) w := by
  unfold loadVar
  simp only [Sem.run_bind, run_isAgg hag, Result.andThen_ok]
  cases ag with
  | true =>
    have := run_loadCells_list (P := P) (w := w) ⟨b, o, none⟩ xs (fun j v hv => by rw [Addr.add_lit]; exact hx j v hv)
    simp only [if_true, Sem.run_bind, run_sizeOf hn, Result.andThen_ok, ← hlen, this]
    rfl
  | false =>
    have hl1 : xs.length = 1 := by rw [hlen]; exact h1 rfl
    match xs, hl1 with
    | [y], _ =>
      have := hx 0 y rfl
      simp only [Bool.false_eq_true, if_false, run_load]
      simp only [World.at, Nat.add_zero] at this
      simp [this]

theorem ok_ld {C : Ctx} {o : Oper} {X : XF Unit} {d sz n : Nat} {t : TypeId} {ag : Bool} {x : Operand} {c : COd} {cs : List AU} (ho : o.op = .load t x) (hd : o.dst = some d) (hlt : d < C.nt) (hin : opsIn C.nt o = true)
    (hag : isAggT C.P t = some ag) (hn : sizeT C.P t = some n) (h1 : ag = false → n = 1)
    (hc : compOd C.nt sz x = some c) (hl : ldCells X (rd X c) n = some cs) (hv : noOwn (if ag then AV.agg cs else cs.getD 0 .non) = true) : OpOk C o X (X.set (100 * d) (if ag then .agg cs else cs.getD 0 .non)) :=
  OpOk.of_pure hd hlt hin hv fun XL β I rg w he R => by
    have h := opd R hc
    rw [he] at h
    obtain ⟨b, off, xs, lcs, hx, h2, h3, h4, h5, h6⟩ := ldCells_ok R h (by rw [he]; exact hl)
    have hrun := run_loadVar (P := C.P) hag hn h1 h2 h3
    refine ⟨if ag then .agg lcs else lcs.getD 0 .non, if ag then .agg xs.toArray else xs.getD 0 undef, ?_, ?_, ?_, ?_⟩
    · cases ag with
      | true => simp [er, erL_eq, h4]
      | false =>
        simp only [Bool.false_eq_true, if_false, ← h4, List.getD_eq_getElem?_getD, List.getElem?_map]
        cases lcs[0]? <;> simp [er]
    · simp only [execOp, ho, Instr.loadAt, hx, Instr.sureAddr, Sem.run_bind, Sem.run_pure, Result.andThen_ok, hrun]
    · cases ag with
      | true => simpa [Mem] using h6
      | false =>
        simp only [Bool.false_eq_true, if_false, List.getD_eq_getElem?_getD]
        cases hh : lcs[0]? with
        | none => simp [Mem]
        | some c0 => exact MemA_iff.1 h6 c0 (List.mem_of_getElem? hh)
    · cases ag with
      | true => simp only [if_true, RR]; exact ⟨xs, rfl, h5⟩
      | false =>
        simp only [Bool.false_eq_true, if_false, List.getD_eq_getElem?_getD]
        rw [RRL_iff] at h5
        cases hh : lcs[0]? with
        | none => simp [RR]
        | some c0 =>
          have hlt0 : 0 < xs.length := by rw [← h5.1]; exact (List.getElem?_eq_some_iff.1 hh).1
          have hx0 : xs[0]? = some xs[0] := List.getElem?_eq_getElem hlt0
          rw [hx0]
          exact h5.2 0 c0 _ hh hx0
end Go.OT
