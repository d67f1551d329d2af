/-
  Stores, new boxes, assignments with transfer, parts of tuples, as operations.
-/
import Derived.Test.YtpdigppbokpdkaaOtL
set_option linter.unusedSimpArgs false
set_option linter.unusedVariables false
namespace Go.OT

theorem cellsOf_oneCell {x : Value} (h : x.oneCell' = true) : x.cells = #[x] := by cases x <;> simp [Value.oneCell'] at h <;> rfl

theorem ok_st {C : Ctx} {o : Oper} {X X' : XF Unit} {sa sv n : Nat} {t : TypeId} {x v : Operand} {ca cv : COd} (ho : o.op = .store t x v) (hd : o.dst = none) (hin : opsIn C.nt o = true) (hnt : C.nt ≤ H)
    (hn : sizeT C.P t = some n) (hca : compOd C.nt sa x = some ca) (hcv : compOd C.nt sv v = some cv) (hr : stV X n ca cv = some X') : OpOk C o X X' :=
  OpOk.of_skip hd hin fun XL β I rg w he R => by
    subst he
    simp only [stV] at hr
    cases h1 : takeC (erF XL) cv with
    | none => simp [h1] at hr
    | some X1 =>
      simp only [h1, Option.bind_some] at hr
      obtain ⟨XL1, rg1, e1, R1, K1, e2, e3⟩ := takeO_ok R hnt hcv h1
      subst e1
      have ha := opd R1 hca
      have hxe : evR rg1 x = evR rg x := by
        cases x with
        | tmp t =>
          by_cases hlt : t < C.nt
          · exact e3 t (.inl (Nat.lt_of_lt_of_le hlt hnt))
          · simp [compOd, hlt] at hca
        | _ => rfl
      rw [hxe] at ha
      have single : ∀ X'', n = 1 → put1 (erF XL1) (rd (erF XL1) ca) H = some X'' → ∃ w' XL' β' I' rg', (execOp (evR rg) o).run C.P w = .ok .skip w' ∧ erF XL' = X'' ∧ RelL C XL' β' I' rg' w' ∧ ∀ t, t < C.nt → rg' t = rg t := by
        intro X'' h1n hp
        obtain ⟨b, off, XL2, hx, f1, R2, _, l1, l2, l3⟩ := put1_ok R1 ha hp
        rw [e2] at R2 l3
        refine ⟨_, XL2, β, I, rg1, ?_, f1, R2, fun t ht => e3 t (.inl (by omega))⟩
        simp only [execOp, ho, Instr.storeAt, hx, Instr.sureAddr, Sem.run_bind, Sem.run_pure, Result.andThen_ok, storeVar, run_sizeOf hn, cellsOf_oneCell l3, h1n]
        simp only [List.size_toArray, List.length_singleton, ne_eq, not_true_eq_false, if_false, storeCells, Addr.add_zero', Sem.run_bind, run_store_at l1 l2 l3, Result.andThen_ok, Sem.run_pure, pure_bind]
      cases hV : (erF XL1 (100 * H)).2 with
      | agg vs =>
        simp only [hV] at hr
        split at hr
        · rename_i hlen
          obtain ⟨hlen, hn0⟩ := hlen
          simp only [Option.map_eq_some_iff] at hr
          obtain ⟨X2, hr, hr2⟩ := hr
          obtain ⟨lvs, hV', hlvs⟩ := er_agg (lv := (XL1 (100 * H)).2) hV
          have hRH := R1.reg H
          rw [hV'] at hRH
          simp only [RR] at hRH
          obtain ⟨ys, hys, hRL⟩ := hRH
          have hly : vs.length = ys.length := by rw [← hlvs]; simpa using (RRL_iff.1 hRL).1
          have hpl : isPl (rd (erF XL1) ca) = true := by
            cases vs with
            | nil => simp at hlen; omega
            | cons c cs =>
              simp only [putA] at hr
              cases hp : put1 (((erF XL1).set (100 * H) (.agg (List.replicate (0 + 1) .dead ++ cs))).set (100 * (H + 1)) c) (shiftA 0 (rd (erF XL1) ca)) (H + 1) with
              | none => rw [hp] at hr; cases hr
              | some Z =>
                have := isPl_of_put1 hp
                revert this
                cases rd (erF XL1) ca <;> simp [shiftA, isPl]
          -- the address
          obtain ⟨b, off, hx⟩ : ∃ b off, evR rg x = .pointer (some ⟨b, off, none⟩) := by
            cases vs with
            | nil => simp at hlen; omega
            | cons c cs =>
              have hr' := hr
              simp only [putA] at hr'
              cases hp : put1 (((erF XL1).set (100 * H) (.agg (List.replicate (0 + 1) .dead ++ cs))).set (100 * (H + 1)) c) (shiftA 0 (rd (erF XL1) ca)) (H + 1) with
              | none => rw [hp] at hr'; cases hr'
              | some Z =>
                generalize rd (erF XL1) ca = a at *
                have hne : (100 * H) ≠ 100 * (H + 1) := by decide
                cases a <;> simp [isPl] at hpl
                · rename_i k g p j
                  simp only [shiftA, put1] at hp
                  split at hp
                  · rename_i hc
                    have hk1 : k ≠ 100 * H := by
                      rintro rfl
                      have := hc.2.2.2
                      rw [XF.set_ne _ _ hne, XF.set_self, ownQ_agg] at this
                      cases this
                    have hg := hc.1
                    rw [XF.set_ne _ _ hc.2.1, XF.set_ne _ _ hk1] at hg
                    obtain ⟨s, l, sz, m, _, h2⟩ := ha.ptr hg
                    exact ⟨_, _, h2⟩
                  · cases hp
                · rename_i b g j
                  simp only [shiftA, put1] at hp
                  split at hp
                  · rename_i hc
                    have hg := hc.1
                    rw [XF.set_ne _ _ (by omega), XF.set_ne _ _ (by omega)] at hg
                    exact ⟨_, _, ha.bptr hg⟩
                  · cases hp
          rw [hx] at ha
          obtain ⟨XL2, rg2, w', f1, R2, f3, f4⟩ := putA_ok vs 0 XL1 rg1 w ys [] (rd (erF XL1) ca) b off X2 R1 (by simpa using hV) (by simpa using hys) rfl hly ha (fun _ => hpl) hr
          refine ⟨w', XL2.set (100 * H) .non, β, I, _, ?_, by rw [erF_set, f1, ← hr2]; rfl, R2.setR H (by decide) rfl (by simp [Mem]) (by simp [RR] : RR XL2 β .non undef), fun t ht => ?_⟩
          · rw [e2] at hys
            simp only [execOp, ho, Instr.storeAt, hx, Instr.sureAddr, Sem.run_bind, Sem.run_pure, Result.andThen_ok, storeVar, run_sizeOf hn, hys, Value.cells]
            rw [if_neg (by simp; omega)]
            simp only [Sem.run_bind, Sem.run_pure, pure_bind, f3, Result.andThen_ok]
          · simp only [show t ≠ H by omega, if_false]
            rw [f4 t (by omega), e3 t (.inl (by omega))]
        · cases hr
      | _ =>
        simp only [hV] at hr
        split at hr
        · exact single _ (by assumption) hr
        · cases hr
end Go.OT
