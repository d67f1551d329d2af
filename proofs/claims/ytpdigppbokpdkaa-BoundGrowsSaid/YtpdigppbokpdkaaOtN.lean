/-
  Assignments with transfer, parts of tuples, new boxes, new aggregates, new slices.
-/
import Derived.Test.YtpdigppbokpdkaaOtM
set_option linter.unusedSimpArgs false
set_option linter.unusedVariables false
namespace Go.OT

def asgV (X : XF Unit) (d : Nat) (c : COd) : Option (XF Unit) := (takeC X c).map fun X1 => (X1.set (100 * d) (X1 (100 * H)).2).set (100 * H) .non

section
variable {C : Ctx} {X : XF LO} {β : Nat → Nat × Nat} {I : ASet} {rg : Nat → Value} {w : World}

/-- What is in hand h goes into register d. -/
theorem RelL.moveR (R : RelL C X β I rg w) (d h : Nat) (hdl : d < 10000) (hne : d ≠ h) : RelL C ((X.set (100 * d) (X (100 * h)).2).set (100 * h) .non) β I (fun s => if s = d then rg h else rg s) w :=
  R.fresh d hdl [h] (by simpa using hne) (Frame.refl _ w) (R.key _).mem (R.key _).sep (R.reg h) (fun b o hb => .inr ⟨h, by simp, hb⟩)
end

theorem ok_asg {C : Ctx} {o : Oper} {X X' : XF Unit} {d sz : Nat} {x : Operand} {c : COd} (ho : o.op = .assign x) (hd : o.dst = some d) (hlt : d < C.nt) (hin : opsIn C.nt o = true) (hnt : C.nt ≤ H)
    (hc : compOd C.nt sz x = some c) (hr : asgV X d c = some X') : OpOk C o X X' :=
  OpOk.of_val hd hlt hin fun XL β I rg w he R => by
    subst he
    simp only [asgV, Option.map_eq_some_iff] at hr
    obtain ⟨X1, h1, h2⟩ := hr
    obtain ⟨XL1, rg1, e1, R1, K1, e2, e3⟩ := takeO_ok R hnt hc h1
    refine ⟨evR rg x, w, _, β, I, _, by simp [execOp, ho], ?_, R1.moveR d H (by have := C.hnt; omega) (by omega), by simp [e2], fun t h1 h2 => by simp [h1, e3 t (.inl (Nat.lt_of_lt_of_le h2 hnt))]⟩
    rw [erF_set, erF_set, ← h2, e1]
    subst e1; rfl

def extV (X : XF Unit) (d n i : Nat) : Option (XF Unit) :=
  match (X (100 * n)).2 with
  | .tuple vs => match vs[i]? with
    | some c => if d ≠ n then some ((X.set (100 * n) (.tuple (vs.set i .dead))).set (100 * d) c) else none
    | none => none
  | _ => none

theorem ok_ext {C : Ctx} {o : Oper} {X X' : XF Unit} {d n i : Nat} (ho : o.op = .extract (.tmp n) i) (hd : o.dst = some d) (hlt : d < C.nt) (hin : opsIn C.nt o = true)
    (hr : extV X d n i = some X') : OpOk C o X X' :=
  OpOk.of_val hd hlt hin fun XL β I rg w he R => by
    subst he
    simp only [extV] at hr
    split at hr
    · rename_i vs hV
      split at hr
      · rename_i c hi
        split at hr
        · rename_i hdn
          simp only [Option.some.injEq] at hr
          obtain ⟨lvs, hV', hlvs⟩ := er_tuple (lv := (XL (100 * n)).2) hV
          have hRn := R.reg n
          rw [hV'] at hRn
          simp only [RR] at hRn
          obtain ⟨ys, hys, hRL⟩ := hRn
          rw [← hlvs, List.getElem?_map] at hi
          cases hli : lvs[i]? with
          | none => simp [hli] at hi
          | some lc =>
            simp only [hli, Option.map_some, Option.some.injEq] at hi
            have hlt' : i < ys.length := by rw [← (RRL_iff.1 hRL).1]; exact (List.getElem?_eq_some_iff.1 hli).1
            have hyi : ys[i]? = some ys[i] := List.getElem?_eq_getElem hlt'
            refine ⟨ys[i], w, _, β, I, _, ?_, ?_, R.takeA n d i (by have := C.hnt; omega) (Ne.symm hdn) (by rw [hV']; rfl) hli ((RRL_iff.1 hRL).2 i lc _ hli hyi), by simp, fun t h1 _ => by simp [h1]⟩
            · simp [execOp, ho, evR, hys, Instr.extract, hyi]
            · rw [erF_set, erF_set, hi, ← hr, hV']
              simp [AV.withParts, er, erL_eq, List.map_set, hlvs]
        · cases hr
      · cases hr
    · cases hr

/-- Constants as located trees. -/
def lcst (sz : Nat) (v : Value) : AL :=
  match v with
  | .slice none 0 0 => .sl true none sz 0 []
  | v => .sc v

theorem lcst_cases (sz : Nat) (v : Value) : (v = .slice none 0 0 ∧ lcst sz v = .sl true none sz 0 [] ∧ cst sz v = .sl true () sz 0 []) ∨ (lcst sz v = .sc v ∧ cst sz v = .sc v) := by
  by_cases h : v = .slice none 0 0
  · subst h; exact .inl ⟨rfl, rfl, rfl⟩
  · refine .inr ⟨?_, ?_⟩
    · unfold lcst; split
      · exact absurd rfl h
      · rfl
    · unfold cst; split
      · exact absurd rfl h
      · rfl

theorem lcst_ok {X : XF LO} {β : Nat → Nat × Nat} {w : World} {I : ASet} (sz : Nat) (v : Value) : er (lcst sz v) = cst sz v ∧ RR X β (lcst sz v) v ∧ Mem w I (lcst sz v) ∧ CR (lcst sz v) v ∧ (∀ b o, ¬ fp (lcst sz v) b o) ∧ Sep (lcst sz v) := by
  rcases lcst_cases sz v with ⟨rfl, h1, h2⟩ | ⟨h1, h2⟩
  · rw [h1, h2]; exact ⟨rfl, by simp [RR, CR], by simp [Mem], by simp [CR], by simp [fp], by simp [Sep]⟩
  · rw [h1, h2]; exact ⟨rfl, by simp [RR], by simp [Mem], by simp [CR], by simp [fp], by simp [Sep]⟩

/-- The zero of a type, cell by cell. -/
def zerosOf (P : Program) (t : TypeId) (szs : List Nat) : Option (List AU) :=
  ((P.info? t).bind (·.zero)).bind fun z => if z.cells.toList.length = szs.length then some (List.zipWith cst szs z.cells.toList) else none

theorem zerosOf_ok {P : Program} {t : TypeId} {szs : List Nat} {zs : List AU} (h : zerosOf P t szs = some zs) :
    ∃ z, (∀ w, (zeroValue t).run P w = .ok z w) ∧ z.cells.toList.length = szs.length ∧ zs = (List.zipWith lcst szs z.cells.toList).map er ∧ ((P.info? t).bind (·.zero)) = some z := by
  unfold zerosOf at h
  cases hi : P.info? t with
  | none => simp [hi] at h
  | some i =>
    cases hz : i.zero with
    | none => simp [hi, hz] at h
    | some z =>
      simp only [hi, hz, Option.bind_some] at h
      split at h
      · rename_i hl
        simp only [Option.some.injEq] at h
        refine ⟨z, fun w => by simp [zeroValue, typeInfo, hi, hz], hl, ?_, by simp [hz]⟩
        rw [← h, List.map_zipWith]
        congr 1
        funext s v
        exact (lcst_ok (X := fun _ => (0, .non)) (β := fun _ => (0, 0)) (w := default) (I := fun _ _ => False) s v).1.symm
      · cases h

theorem zip_facts {szs : List Nat} {xs : List Value} (hl : xs.length = szs.length) {i : Nat} {c : AL} (h : (List.zipWith lcst szs xs)[i]? = some c) : ∃ s x, szs[i]? = some s ∧ xs[i]? = some x ∧ c = lcst s x := by
  rw [List.getElem?_zipWith] at h
  cases h1 : szs[i]? with
  | none => simp [h1] at h
  | some s =>
    cases h2 : xs[i]? with
    | none => simp [h1, h2] at h
    | some x => simp [h1, h2] at h; exact ⟨s, x, rfl, rfl, h.symm⟩

def finB (Y : XF Unit) (d g : Nat) : XF Unit := (Y.set (100 * H) .non).set (100 * d) (.bptr d g 0)

def boxV (X : XF Unit) (d : Nat) (c : COd) : Option (XF Unit) :=
  (takeC X c).bind fun X1 => match (X1 (100 * H)).2 with
    | .agg vs => if vs.all treeV = true then some (finB (X1.box d vs) d ((X1 (100 * d + 99)).1 + 1)) else none
    | v => if treeV v = true then some (finB (X1.box d [v]) d ((X1 (100 * d + 99)).1 + 1)) else none

def allocV (X : XF Unit) (d : Nat) (zs : List AU) : XF Unit := finB ((X.set (100 * H) (.agg zs)).box d zs) d ((X (100 * d + 99)).1 + 1)

section
variable {C : Ctx} {X : XF LO} {β : Nat → Nat × Nat} {I : ASet} {rg : Nat → Value} {w : World}

theorem newbox_ok (R : RelL C X β I rg w) (d : Nat) (hd : d < 10000) (e : TypeId) (cs : List AL) (xs : List Value) (hV : (X (100 * H)).2 = .agg cs ∨ (cs = [(X (100 * H)).2] ∧ treeV (X (100 * H)).2 = true)) (ht : ∀ c ∈ cs, treeV c = true)
    (hx : (rg H).cells.toList = xs) :
    RelL C (((X.box d cs).set (100 * H) .non).set (100 * d) (.bptr d ((X (100 * d + 99)).1 + 1) 0)) (fun j => if j = d then (w.heap.size, 0) else β j) I
      (fun s => if s = d then .pointer (some ⟨w.heap.size, 0, none⟩) else rg s) { w with heap := w.heap.push (.cells xs.toArray e (0, 0)) } := by
  have hk := R.key (100 * H)
  have hr := R.reg H
  have hfacts : (∀ b o, fpL cs b o → fp (X (100 * H)).2 b o) ∧ MemA w I cs ∧ SepL cs ∧ cs.length = xs.length ∧ ∀ (i : Nat) (c : AL) (x : Value), cs[i]? = some c → xs[i]? = some x → RR X β c x := by
    have hm := hk.mem
    have hs := hk.sep
    rcases hV with hV | ⟨hV, h'⟩
    · rw [hV] at hm hs hr ⊢
      simp only [Mem] at hm
      simp only [Sep] at hs
      simp only [RR] at hr
      obtain ⟨ys, hys, hRL⟩ := hr
      rw [hys] at hx
      simp only [Value.cells] at hx
      subst hx
      exact ⟨fun b o h => by simpa [fp] using h, hm, hs, by simpa using (RRL_iff.1 hRL).1, (RRL_iff.1 hRL).2⟩
    · have hcr := CR_of_RR h' hr
      rw [cellsOf_oneCell (oneCell_of_CR h' hcr)] at hx
      simp only at hx
      subst hx hV
      refine ⟨fun b o h => by simpa [fpL] using h, by simp only [MemA]; exact ⟨hm, trivial⟩, by simp only [SepL]; exact ⟨hs, trivial, fun _ _ _ h => by simp [fpL] at h⟩, rfl, fun i c x hc hx => ?_⟩
      cases i with
      | zero => simp at hc hx; subst hc hx; exact hr
      | succ i => simp at hc
  obtain ⟨f1, f2, f3, f4, f5⟩ := hfacts
  have R1 := R.newbox d H hd e cs xs f1 f2 f3 f4 (fun i c x hc hx => ⟨ht c (List.mem_of_getElem? hc), CR_of_RR (ht c (List.mem_of_getElem? hc)) (f5 i c x hc hx)⟩)
  refine R1.setR d hd rfl (by simp [Mem]) ?_
  simp only [RR]
  have hg : ((X.box d cs).set (100 * H) .non (100 * d + 99)).1 = (X (100 * d + 99)).1 + 1 := by
    rw [XF.set_ne _ _ (by unfold H; omega)]
    simp only [XF.box]
    rw [if_pos ⟨by omega, by omega⟩, if_pos (by omega)]
  rw [hg]
  exact ⟨Nat.le_refl _, fun _ => by simp⟩
end

theorem ok_box {C : Ctx} {o : Oper} {X X' : XF Unit} {d sz : Nat} {e : TypeId} {x : Operand} {c : COd} (ho : o.op = .box e x) (hd : o.dst = some d) (hlt : d < C.nt) (hin : opsIn C.nt o = true) (hnt : C.nt ≤ H)
    (hc : compOd C.nt sz x = some c) (hr : boxV X d c = some X') : OpOk C o X X' :=
  OpOk.of_val hd hlt hin fun XL β I rg w he R => by
    subst he
    simp only [boxV] at hr
    cases h1 : takeC (erF XL) c with
    | none => simp [h1] at hr
    | some X1 =>
      simp only [h1, Option.bind_some] at hr
      obtain ⟨XL1, rg1, e1, R1, K1, e2, e3⟩ := takeO_ok R hnt hc h1
      subst e1
      have hd1 : d < 10000 := by unfold H at hnt; omega
      have fin : ∀ (cs : List AL), ((XL1 (100 * H)).2 = .agg cs ∨ (cs = [(XL1 (100 * H)).2] ∧ treeV (XL1 (100 * H)).2 = true)) → (∀ c ∈ cs, treeV c = true) →
          X' = finB ((erF XL1).box d (cs.map er)) d ((erF XL1 (100 * d + 99)).1 + 1) → ∃ x w' XL' β' I' rg', (execOp (evR rg) o).run C.P w = .ok (.value x) w' ∧ erF XL' = X' ∧ RelL C XL' β' I' rg' w' ∧ rg' d = x ∧ ∀ t, t ≠ d → t < C.nt → rg' t = rg t := by
        intro cs hV ht hX'
        refine ⟨.pointer (some ⟨w.heap.size, 0, none⟩), { w with heap := w.heap.push (.cells (rg1 H).cells.toList.toArray e (0, 0)) }, _, _, _, _, ?_, ?_, newbox_ok R1 d hd1 e cs _ hV ht rfl, by simp, fun t ht1 ht2 => by simp [ht1, e3 t (.inl (Nat.lt_of_lt_of_le ht2 hnt))]⟩
        · simp only [execOp, ho, Instr.box, newVar, newRow, newObj, Sem.run_bind, Sem.run_pure, Sem.run, e2]
          simp
        · rw [erF_set, erF_set, erF_box, hX']
          rfl
      cases hV : (erF XL1 (100 * H)).2 with
      | agg vs =>
        simp only [hV] at hr
        split at hr
        · rename_i hall
          simp only [Option.some.injEq] at hr
          obtain ⟨lvs, hV', hlvs⟩ := er_agg (lv := (XL1 (100 * H)).2) hV
          refine fin lvs (.inl hV') (fun c hc => ?_) (by rw [hlvs, hr])
          rw [List.all_eq_true] at hall
          rw [← er_treeV]
          exact hall _ (by rw [← hlvs]; exact List.mem_map_of_mem hc)
        · cases hr
      | _ =>
        simp only [hV] at hr
        split at hr
        · rename_i hall
          simp only [Option.some.injEq] at hr
          have hV' : er (XL1 (100 * H)).2 = _ := hV
          refine fin [(XL1 (100 * H)).2] (.inr ⟨rfl, ?_⟩) (fun c hc => ?_) (by simp only [List.map_cons, List.map_nil, hV', hr])
          · rw [← er_treeV, hV']; exact hall
          · simp only [List.mem_singleton] at hc
            rw [hc, ← er_treeV, hV']; exact hall
        · cases hr

theorem ok_alloc {C : Ctx} {o : Oper} {X : XF Unit} {d : Nat} {e : TypeId} {szs : List Nat} {zs : List AU} (ho : o.op = .alloc e) (hd : o.dst = some d) (hlt : d < C.nt) (hin : opsIn C.nt o = true) (hnt : C.nt ≤ H)
    (hz : zerosOf C.P e szs = some zs) (ht : zs.all treeV = true) : OpOk C o X (allocV X d zs) :=
  OpOk.of_val hd hlt hin fun XL β I rg w he R => by
    subst he
    obtain ⟨z, h1, h2, h3, h4⟩ := zerosOf_ok hz
    have hd1 : d < 10000 := by unfold H at hnt; omega
    generalize hl : List.zipWith lcst szs z.cells.toList = lzs at h3
    have hfp : ∀ b o, ¬ fpL lzs b o := by
      intro b o hb
      obtain ⟨c, hc, hcb⟩ := fpL_iff.1 hb
      obtain ⟨i, hi⟩ := List.getElem?_of_mem hc
      rw [← hl] at hi
      obtain ⟨s, x, _, _, rfl⟩ := zip_facts h2 hi
      exact (lcst_ok (X := XL) (β := β) (w := w) (I := I) s x).2.2.2.2.1 b o hcb
    have hmem : ∀ c ∈ lzs, Mem w I c ∧ Sep c := by
      intro c hc
      obtain ⟨i, hi⟩ := List.getElem?_of_mem hc
      rw [← hl] at hi
      obtain ⟨s, x, _, _, rfl⟩ := zip_facts h2 hi
      have := lcst_ok (X := XL) (β := β) (w := w) (I := I) s x
      exact ⟨this.2.2.1, this.2.2.2.2.2⟩
    have hlen : lzs.length = z.cells.toList.length := by rw [← hl]; simp [h2]
    have R1 := R.fresh H (by decide) [] (by simp) (Frame.refl _ w) (v := .agg lzs) (x := .agg z.cells.toList.toArray)
      (by simp only [Mem]; exact MemA_iff.2 fun c hc => (hmem c hc).1)
      (by simp only [Sep]; exact SepL_iff.2 ⟨fun c hc => (hmem c hc).2, fun i j u v _ hu hv b o h1 _ => hfp b o (fpL_iff.2 ⟨u, List.mem_of_getElem? hu, h1⟩)⟩)
      (by
        simp only [RR]
        refine ⟨_, rfl, RRL_iff.2 ⟨hlen, fun i c x hc hx => ?_⟩⟩
        rw [← hl] at hc
        obtain ⟨s, y, _, hy, rfl⟩ := zip_facts h2 hc
        rw [hx] at hy; cases hy
        exact (lcst_ok (X := XL) (β := β) (w := w) (I := I) s x).2.1)
      (by simp only [fp]; intro b o hb; exact absurd hb (hfp b o))
    simp only [List.foldl_nil] at R1
    have hXH : ((XL.set (100 * H) (.agg lzs)) (100 * H)).2 = .agg lzs := by rw [XF.set_self]
    have R2 := newbox_ok R1 d hd1 e lzs z.cells.toList (.inl hXH) (fun c hc => by
      rw [List.all_eq_true] at ht
      rw [← er_treeV]; exact ht _ (by rw [h3]; exact List.mem_map_of_mem hc)) (by simp [Value.cells])
    refine ⟨.pointer (some ⟨w.heap.size, 0, none⟩), { w with heap := w.heap.push (.cells z.cells.toList.toArray e (0, 0)) }, _, _, _, _, ?_, ?_, R2, by simp, fun t ht1 ht2 => by simp [ht1, show t ≠ H from by unfold H at hnt ⊢; omega]⟩
    · simp only [execOp, ho, Instr.alloc, Sem.run_bind, h1, Result.andThen_ok, newVar, newRow, newObj, Sem.run_pure, Sem.run]
    · rw [erF_set, erF_set, erF_box, erF_set, h3]
      simp only [allocV, finB, h3]
      congr 2
      · simp [er, erL_eq]
      · rw [XF.set_ne _ _ (by unfold H; omega)]; rfl
end Go.OT
