/-
  Calls over contracts: what the callee has.
-/
import Derived.Test.YtpdigppbokpdkaaOtR
set_option linter.unusedSimpArgs false
set_option linter.unusedVariables false
namespace Go.OT

theorem map_lendL (cs : List AL) : (lendL cs).map er = lendL (cs.map er) := by
  have := er_lendL cs
  rwa [erL_eq, erL_eq] at this

/-- The place of a loan in the list. -/
def idxL (k : Nat) (p : List Nat) : List (Nat × List Nat) → Option Nat
  | [] => none
  | e :: l => if e.1 = k ∧ e.2 = p then some 0 else (idxL k p l).map (· + 1)

theorem idxL_some {k : Nat} {p : List Nat} : ∀ {l : List (Nat × List Nat)} {j : Nat}, idxL k p l = some j → l[j]? = some (k, p)
  | [], j, h => by simp [idxL] at h
  | e :: l, j, h => by
    simp only [idxL] at h
    split at h
    · rename_i hc
      simp only [Option.some.injEq] at h
      subst h
      obtain ⟨h1, h2⟩ := hc
      simp [← h1, ← h2]
    · cases hq : idxL k p l with
      | none => simp [hq] at h
      | some i =>
        simp only [hq, Option.map_some, Option.some.injEq] at h
        subst h
        simpa using idxL_some hq

/-- The callee's key of a loan's node. -/
def gkey (j : Nat) : Nat := 100 * (10000 + j)

/-- Is a key among the loans? -/
def lentK (ls : List (Nat × List Nat)) (k : Nat) : Bool := (ls.map (·.1)).contains k

mutual
/-- An operand's tree as the callee has it. 'own': may owned memory be lent to be read? 'k0': the key of the register that it stands in. -/
def trA (X : XF Unit) (ls : List (Nat × List Nat)) (own : Bool) (k0 : Nat) : AU → Option AU
  | .sc x => some (.sc x)
  | .sl o u s n cs => if o = false then some (.sl false u s n cs) else if own = true ∧ lentK ls k0 = false then some (.sl false () s n (lendL cs)) else if n = 0 ∧ cs.isEmpty = true then some (.sl false () s 0 []) else none
  | .bx o u cs => if o = false then some (.bx false u cs) else none
  | .view k g p off len =>
    if (X k).1 = g then
      match idxL k p ls with
      | some j => some (.view (gkey j) 0 [] off len)
      | none => match getN (X k).2 p with
        | some (.sl o _ s _ cs) => if o = false ∨ (own = true ∧ lentK ls k = false) then some (.sl false () s len (lendL ((cs.drop off).take (len * s)))) else none
        | _ => none
    else none
  | .ptr k g p i =>
    if (X k).1 = g then
      match idxL k p ls with
      | some j => match getN (X k).2 p with
        | some (.bx _ _ _) => some (.bptr (10000 + j) 0 i)
        | some (.sl _ _ _ _ _) => some (.ptr (gkey j) 0 [] i)
        | _ => none
      | none => match getN (X k).2 p with
        | some (.bx o _ cs) => if o = false ∨ (own = true ∧ lentK ls k = false) then some (.vptr () (lendL (cs.drop i))) else none
        | some (.sl o _ s _ cs) => if o = false ∨ (own = true ∧ lentK ls k = false) then some (.vptr () (lendL ((cs.drop i).take s))) else none
        | _ => none
    else none
  | .vptr u cs => some (.vptr u cs)
  | .agg vs => (trL X ls own k0 vs).map .agg
  | .clos f caps => (trL X ls own k0 caps).map (.clos f)
  | _ => none
def trL (X : XF Unit) (ls : List (Nat × List Nat)) (own : Bool) (k0 : Nat) : List AU → Option (List AU)
  | [] => some []
  | v :: vs => match trA X ls own k0 v, trL X ls own k0 vs with
    | some a, some as => some (a :: as)
    | _, _ => none
end

def keyOf : COd → Nat
  | .t n => 100 * n
  | .c _ => 0

/-- What a place lends. -/
def ghAt (X : XF Unit) (e : Nat × List Nat) : Option (Gh Unit) :=
  if ownQ (X e.1).2 e.2 = true then
    match getN (X e.1).2 e.2 with
    | some (.sl true _ s n cs) => some (.nod (.sl true () s n cs))
    | some (.bx true _ cs) => if cs.length ≤ 98 then some (.box cs) else none
    | _ => none
  else none

/-- What a place has when the call is over. -/
def nodeAfter : Gh Unit → AU
  | .nod v => v
  | .box cs => .bx true () cs

def ghImm : Gh Unit → Bool
  | .nod v => noImm v
  | .box cs => noImmL cs

section
variable {C : Ctx} {X : XF LO} {β : Nat → Nat × Nat} {I : ASet} {rg : Nat → Value} {w : World}

/-- The nodes that are lent, with their labels. -/
theorem ghAt_ok (R : RelL C X β I rg w) {e : Nat × List Nat} {g : Gh Unit} (h : ghAt (erF X) e = some g) :
    ∃ N, getN (X e.1).2 e.2 = some N ∧ N.isNode = true ∧ ownQ (X e.1).2 e.2 = true ∧ Mem w I N ∧ Sep N ∧ (∀ b o, fp N b o → kfp β X e.1 b o) ∧
      ((∃ l s n cs, N = .sl true l s n cs ∧ g = .nod (.sl true () s n (cs.map er))) ∨ (∃ l cs, N = .bx true (some l) cs ∧ g = .box (cs.map er) ∧ cs.length ≤ 98)) := by
  unfold ghAt at h
  split at h
  · rename_i hq
    have hq' : ownQ (X e.1).2 e.2 = true := by rw [← er_ownQ]; exact hq
    split at h
    · rename_i s n cs hN
      simp only [Option.some.injEq] at h
      obtain ⟨l, lcs, hN', hlcs⟩ := node_sl hN
      have r := repl e.2 (X e.1).2 (R.key e.1).mem (R.key e.1).sep hq' hN'
      exact ⟨_, hN', rfl, hq', r.mem, r.sep, fun b o hb => .inl (r.sub b o hb), .inl ⟨l, s, n, lcs, rfl, by rw [hlcs, h]⟩⟩
    · rename_i cs hN
      split at h
      · rename_i hlen
        simp only [Option.some.injEq] at h
        obtain ⟨l, lcs, hN', hlcs⟩ := node_bx hN
        have r := repl e.2 (X e.1).2 (R.key e.1).mem (R.key e.1).sep hq' hN'
        cases l with
        | none => have := r.mem; simp [Mem] at this
        | some l => exact ⟨_, hN', rfl, hq', r.mem, r.sep, fun b o hb => .inl (r.sub b o hb), .inr ⟨l, lcs, rfl, by rw [hlcs, h], by rw [← hlcs] at hlen; simpa using hlen⟩⟩
      · cases h
    · cases h
  · cases h

/-- What lies at a path is owned by who owns the whole. -/
theorem fp_getN {p : List Nat} : ∀ {v u : AL}, Mem w I v → getN v p = some u → ∀ b o, fp u b o → fp v b o := by
  induction p with
  | nil => intro v u _ hg b o hb; simp only [getN, Option.some.injEq] at hg; exact hg ▸ hb
  | cons i p ih =>
    intro v u h hg b o hb
    simp only [getN] at hg
    cases hc : v.cells? with
    | none => simp [hc] at hg
    | some cs =>
      simp only [hc] at hg
      cases hi : cs[i]? with
      | none => simp [hi] at hg
      | some c =>
        simp only [hi] at hg
        have hmem := List.mem_of_getElem? hi
        cases v with
        | sl o' l s n k =>
          simp only [AV.cells?, Option.some.injEq] at hc; subst hc
          cases l with
          | none => simp [Mem] at h; simp [h.2] at hi
          | some l =>
            simp only [Mem] at h
            have hl := (MemL_iff.1 h.2.2) i c hi
            have hf := ih hl.2.1 hg b o hb
            cases o' with
            | true => simp only [fp]; exact .inr (fpL_iff.2 ⟨c, hmem, hf⟩)
            | false => exact absurd hf ((hl.2.2 rfl).2 b o)
        | bx o' l k =>
          simp only [AV.cells?, Option.some.injEq] at hc; subst hc
          cases l with
          | none => simp [Mem] at h
          | some l =>
            simp only [Mem] at h
            have hl := (MemL_iff.1 h) i c hi
            have hf := ih hl.2.1 hg b o hb
            cases o' with
            | true => simp only [fp]; exact .inr (fpL_iff.2 ⟨c, hmem, hf⟩)
            | false => exact absurd hf ((hl.2.2 rfl).2 b o)
        | _ => simp [AV.cells?] at hc

/-- What stands in an operand is owned by its register's key. -/
theorem rd_fp (R : RelL C X β I rg w) {nt sz : Nat} {x : Operand} {c : COd} (h : compOd nt sz x = some c) :
    ∃ lv, er lv = rd (erF X) c ∧ RR X β lv (evR rg x) ∧ Mem w I lv ∧ (∀ b o, fp lv b o → kfp β X (keyOf c) b o) := by
  obtain ⟨lv, h1, h2, h3, h4⟩ := rd_ok R h
  cases hp : lv.parts? with
  | none => exact ⟨lv, h1, h2, h3, fun b o hb => absurd hb (h4 hp b o)⟩
  | some ps =>
    cases x with
    | tmp t =>
      simp only [compOd] at h
      split at h
      · cases h
        simp only [rd, erF] at h1
        cases hv : (X (100 * t)).2 with
        | sl o l s n cs =>
          rw [hv] at h1
          cases o <;> simp [er, rdK, ldV] at h1 <;> cases lv <;> simp [er] at h1 <;> simp [AV.parts?] at hp
        | bx o l cs =>
          rw [hv] at h1
          cases o <;> simp [er, rdK, ldV] at h1 <;> cases lv <;> simp [er] at h1 <;> simp [AV.parts?] at hp
        | agg cs =>
          refine ⟨.agg cs, by simp [rd, erF, hv, er, rdK, ldV], ?_, ?_, fun b o hb => .inl (by simpa [keyOf, hv] using hb)⟩
          · have := R.reg t; rw [hv] at this; exact this
          · have := (R.key (100 * t)).mem; rw [hv] at this; exact this
        | tuple cs =>
          refine ⟨.tuple cs, by simp [rd, erF, hv, er, rdK, ldV], ?_, ?_, fun b o hb => .inl (by simpa [keyOf, hv] using hb)⟩
          · have := R.reg t; rw [hv] at this; exact this
          · have := (R.key (100 * t)).mem; rw [hv] at this; exact this
        | _ => rw [hv] at h1; simp [er, rdK, ldV] at h1; cases lv <;> simp [er] at h1 <;> simp [AV.parts?] at hp
      · cases h
    | const v =>
      simp only [compOd] at h
      split at h
      · cases h
        obtain ⟨lv', g1, g2, g3, _, g4, _⟩ := cst_ok (X := X) (β := β) (w := w) (I := I) sz v
        exact ⟨lv', g1, g2, g3, fun b o hb => absurd hb (g4 b o)⟩
      · cases h
    | func f =>
      simp only [compOd, Option.some.injEq] at h
      subst h
      simp only [rd] at h1
      cases lv <;> simp [er] at h1 <;> simp [AV.parts?] at hp
    | global g => simp [compOd] at h

/-- A part of a slice, lent to be read. -/
theorem lend_part {own : Bool} {I0 : ASet} {l : LO} {s n off len : Nat} {lcs : List AL} {x : Value} (hm : Mem w I (.sl own l s n lcs)) (hI0 : ∀ b o, I b o → I0 b o)
    (hf : own = true → ∀ b o, fp (.sl own l s n lcs) b o → I0 b o) (hs : SV l s n off len x) :
    ∃ la, er la = .sl false () s len (lendL (((lcs.map er).drop off).take (len * s))) ∧ CR la x ∧ Mem w I0 la ∧ noOwn la = true := by
  obtain ⟨xa, cap, rfl, hl⟩ := hs
  have hE : ∀ l', er (.sl false l' s len (lendL ((lcs.drop off).take (len * s))) : AL) = .sl false () s len (lendL (((lcs.map er).drop off).take (len * s))) := by
    intro l'
    simp only [er, erL_eq, map_lendL, List.map_take, List.map_drop]
  cases l with
  | none =>
    obtain ⟨rfl, rfl, rfl⟩ := hl
    simp only [Mem] at hm
    obtain ⟨rfl, rfl⟩ := hm
    exact ⟨.sl false none s 0 _, hE none, by simp [CR], by simp [Mem, lendL], by simp [noOwn]⟩
  | some l =>
    obtain ⟨h1, h2, h3, o', rfl, h5⟩ := hl
    simp only [Mem] at hm
    obtain ⟨m1, m2, m3⟩ := hm
    refine ⟨.sl false (some ⟨l.b, o', cap⟩) s len _, hE _, by simp [CR], ?_, by simp [noOwn]⟩
    simp only [Mem]
    refine ⟨?_, h2, ?_⟩
    · rw [lendL_eq, List.length_map, List.length_take, List.length_drop]; omega
    · by_cases hc : cap = 0
      · have : len = 0 := by omega
        subst this
        simp [lendL, MemL]
      · rw [h5 hc]
        have hmul := Nat.mul_le_mul_right s m2
        refine MemL_lend own _ l.b (l.o + off) (MemL_take (MemL_drop m3 off) _) hI0 (fun b o hb => ?_) (fun e i hi => ?_)
        · obtain ⟨c, hc, hcb⟩ := fpL_iff.1 hb
          have hc' : c ∈ lcs := List.mem_of_mem_drop (List.mem_of_mem_take hc)
          cases own with
          | true => exact hf rfl b o (by simp only [fp]; exact .inr (fpL_iff.2 ⟨c, hc', hcb⟩))
          | false =>
            obtain ⟨i, hi⟩ := List.getElem?_of_mem hc'
            exact absurd hcb (((MemL_iff.1 m3 i c hi).2.2 rfl).2 b o)
        · subst e
          refine hf rfl _ _ ?_
          simp only [fp]
          have : i < len * s := by
            have := hi
            rw [List.length_take] at this
            omega
          exact .inl ⟨trivial, by omega, by omega⟩

/-- Cells, lent to be read through a pointer. -/
theorem lend_cells {own : Bool} {I0 : ASet} {b o i m : Nat} {lcs : List AL} (hm : MemL w I own lcs b o) (hI0 : ∀ b o, I b o → I0 b o)
    (hf : own = true → (∀ j, j < lcs.length → I0 b (o + j)) ∧ ∀ b o, fpL lcs b o → I0 b o) : MemL w I0 false (lendL ((lcs.drop i).take m)) b (o + i) := by
  refine MemL_lend own _ b (o + i) (MemL_take (MemL_drop hm i) _) hI0 (fun b o hb => ?_) (fun e j hj => ?_)
  · obtain ⟨c, hc, hcb⟩ := fpL_iff.1 hb
    have hc' : c ∈ lcs := List.mem_of_mem_drop (List.mem_of_mem_take hc)
    cases own with
    | true => exact (hf rfl).2 b o (fpL_iff.2 ⟨c, hc', hcb⟩)
    | false =>
      obtain ⟨j, hj⟩ := List.getElem?_of_mem hc'
      exact absurd hcb (((MemL_iff.1 hm j c hj).2.2 rfl).2 b o)
  · have := (hf e).1 (i + j) (by rw [List.length_take, List.length_drop] at hj; omega)
    rwa [← Nat.add_assoc] at this

theorem sl_fp {I0 : ASet} {l : Loc} {s n : Nat} {lcs : List AL} (hm : Mem w I (.sl true (some l) s n lcs)) (hf : ∀ b o, fp (.sl true (some l) s n lcs) b o → I0 b o) : (∀ j, j < lcs.length → I0 l.b (l.o + j)) ∧ ∀ b o, fpL lcs b o → I0 b o := by
  simp only [Mem] at hm
  have := Nat.mul_le_mul_right s hm.2.1
  exact ⟨fun j hj => hf _ _ (by simp only [fp]; exact .inl ⟨trivial, by omega, by omega⟩), fun b o hb => hf b o (by simp only [fp]; exact .inr hb)⟩

theorem bx_fp {I0 : ASet} {l : Loc} {lcs : List AL} (hf : ∀ b o, fp (.bx true (some l) lcs) b o → I0 b o) : (∀ j, j < lcs.length → I0 l.b (l.o + j)) ∧ ∀ b o, fpL lcs b o → I0 b o :=
  ⟨fun j hj => hf _ _ (by simp only [fp]; exact .inl ⟨trivial, by omega, by omega⟩), fun b o hb => hf b o (by simp only [fp]; exact .inr hb)⟩

/-- What is asked of the callee's first state. -/
structure CalleeOk (C : Ctx) (X : XF LO) (β : Nat → Nat × Nat) (I : ASet) (w : World) (ls : List (Nat × List Nat)) (own : Bool) (I0 : ASet) (X0 : XF LO) (β0 : Nat → Nat × Nat) : Prop where
  mem : ∀ k, Mem w I (X k).2
  sub : ∀ b o, I b o → I0 b o
  lent : own = true → ∀ k, lentK ls k = false → ∀ b o, kfp β X k b o → I0 b o
  gen : ∀ k, (X0 k).1 = 0
  gh : ∀ (j : Nat) (e : Nat × List Nat), ls[j]? = some e → ∃ N, getN (X e.1).2 e.2 = some N ∧ ((∃ l s n cs, N = .sl true l s n cs ∧ (X0 (gkey j)).2 = N) ∨ (∃ l cs, N = .bx true (some l) cs ∧ β0 (10000 + j) = (l.b, l.o)))

mutual
/-- One argument in the callee's first state. -/
theorem trA_ok {ls : List (Nat × List Nat)} {own : Bool} {I0 : ASet} {X0 : XF LO} {β0 : Nat → Nat × Nat} (H : CalleeOk C X β I w ls own I0 X0 β0) :
    ∀ (k0 : Nat) (lv : AL) (x : Value) (a : AU), RR X β lv x → Mem w I lv → (∀ b o, fp lv b o → kfp β X k0 b o) → trA (erF X) ls own k0 (er lv) = some a →
      ∃ la, er la = a ∧ RR X0 β0 la x ∧ Mem w I0 la ∧ noOwn la = true
  | k0, .sc v, x, a, hr, hm, hf, ht => by
    simp only [er, trA, Option.some.injEq] at ht
    exact ⟨.sc v, by simp [er, ht], by simpa [RR] using hr, by simp [Mem], by simp [noOwn]⟩
  | k0, .sl o l s n cs, x, a, hr, hm, hf, ht => by
    simp only [er, trA] at ht
    simp only [RR] at hr
    split at ht
    · rename_i e
      subst e
      simp only [Option.some.injEq] at ht
      exact ⟨.sl false l s n cs, by simp [er, ← ht], by simpa [RR] using hr, Mem_mono _ hm H.sub, by simp [noOwn]⟩
    · split at ht
      · rename_i e
        simp only [Option.some.injEq] at ht
        refine ⟨lend (.sl o l s n cs), by simp only [lend, er, er_lendL, ← ht], ?_, Mem_lend _ hm H.sub (fun b o hb => H.lent e.1 k0 e.2 b o (hf b o hb)), by simp [lend, noOwn]⟩
        exact RR_of_CR (CR_lend hr)
      · split at ht
        · rename_i e
          obtain ⟨rfl, e2⟩ := e
          simp only [Option.some.injEq] at ht
          have : cs = [] := by
            rw [erL_eq] at e2; simpa using e2
          subst this
          refine ⟨.sl false l s 0 [], by simp [er, erL, ← ht], ?_, ?_, by simp [noOwn]⟩
          · cases l <;> simpa [RR, CR] using hr
          · cases l with
            | none => simp [Mem]
            | some l => simp [Mem, MemL]
        · cases ht
  | k0, .bx o l cs, x, a, hr, hm, hf, ht => by
    simp only [er, trA] at ht
    simp only [RR] at hr
    split at ht
    · rename_i e
      subst e
      simp only [Option.some.injEq] at ht
      exact ⟨.bx false l cs, by simp [er, ← ht], by simpa [RR] using hr, Mem_mono _ hm H.sub, by simp [noOwn]⟩
    · cases ht
  | k0, .view k g p off len, x, a, hr, hm, hf, ht => by
    simp only [er, trA] at ht
    split at ht
    · rename_i hgen
      simp only [erF] at hgen
      simp only [RR] at hr
      obtain ⟨l, sz, n, hhd, hsv⟩ := hr.2 hgen
      split at ht
      · rename_i j hj
        simp only [Option.some.injEq] at ht
        obtain ⟨N, hN, hor⟩ := H.gh j _ (idxL_some hj)
        simp only at hN
        rw [hN] at hhd
        rcases hor with ⟨l', s', n', cs', rfl, hX0⟩ | ⟨l', cs', rfl, _⟩
        · simp only [Option.bind_some, hd, Option.some.injEq, Prod.mk.injEq, true_and] at hhd
          obtain ⟨rfl, rfl, rfl⟩ := hhd
          refine ⟨.view (gkey j) 0 [] off len, by simp [er, ← ht], ?_, by simp [Mem], by simp [noOwn]⟩
          simp only [RR]
          refine ⟨Nat.zero_le _, fun _ => ⟨l', s', n', by rw [hX0]; simp [getN, hd], hsv⟩⟩
        · simp [hd] at hhd
      · split at ht
        · rename_i o _ s n0 cs hnode
          split at ht
          · rename_i hcond
            simp only [Option.some.injEq] at ht
            obtain ⟨l', lcs, hN, hlcs⟩ := node_sl hnode
            rw [hN] at hhd
            simp only [Option.bind_some, hd, Option.some.injEq, Prod.mk.injEq, true_and] at hhd
            obtain ⟨rfl, rfl, rfl⟩ := hhd
            have hmN := Mem_getN (H.mem k) hN
            obtain ⟨la, g1, g2, g3, g4⟩ := lend_part (I0 := I0) hmN H.sub (fun e b o' hb => by
              rcases hcond with hc | ⟨hc, hc2⟩
              · rw [hc] at e; cases e
              · exact H.lent hc k hc2 b o' (.inl (fp_getN (H.mem k) hN b o' hb))) hsv
            exact ⟨la, by rw [g1, ← ht, hlcs], RR_of_CR g2, g3, g4⟩
          · cases ht
        · cases ht
    · cases ht
  | k0, .ptr k g p i, x, a, hr, hm, hf, ht => by
    simp only [er, trA] at ht
    split at ht
    · rename_i hgen
      simp only [erF] at hgen
      simp only [RR] at hr
      obtain ⟨sb, l, sz, n, hhd, hx⟩ := hr.2 hgen
      split at ht
      · rename_i j hj
        obtain ⟨N, hN, hor⟩ := H.gh j _ (idxL_some hj)
        simp only at hN
        rw [hN] at hhd
        split at ht
        · rename_i o' _ cs hnode
          simp only [Option.some.injEq] at ht
          obtain ⟨l0, lcs0, hN0, hlcs0⟩ := node_bx hnode
          rw [hN] at hN0
          rcases hor with ⟨l', s', n', cs', rfl, hX0⟩ | ⟨l', cs', rfl, hβ⟩
          · simp at hN0
          · simp only [Option.bind_some, hd, Option.some.injEq, Prod.mk.injEq] at hhd
            obtain ⟨_, rfl, _⟩ := hhd
            refine ⟨.bptr (10000 + j) 0 i, by simp [er, ← ht], ?_, by simp [Mem], by simp [noOwn]⟩
            simp only [RR]
            exact ⟨Nat.zero_le _, fun _ => by rw [hx, hβ]⟩
        · rename_i o' _ s0 n0 cs hnode
          simp only [Option.some.injEq] at ht
          obtain ⟨l0, lcs0, hN0, hlcs0⟩ := node_sl hnode
          rw [hN] at hN0
          rcases hor with ⟨l', s', n', cs', rfl, hX0⟩ | ⟨l', cs', rfl, hβ⟩
          · simp only [Option.bind_some, hd, Option.some.injEq, Prod.mk.injEq] at hhd
            obtain ⟨_, rfl, rfl, rfl⟩ := hhd
            refine ⟨.ptr (gkey j) 0 [] i, by simp [er, ← ht], ?_, by simp [Mem], by simp [noOwn]⟩
            simp only [RR]
            exact ⟨Nat.zero_le _, fun _ => ⟨true, l, s', n', by rw [hX0]; simp [getN, hd], hx⟩⟩
          · simp at hN0
        · cases ht
      · split at ht
        · rename_i o' _ cs hnode
          split at ht
          · rename_i hcond
            simp only [Option.some.injEq] at ht
            obtain ⟨l0, lcs, hN, hlcs⟩ := node_bx hnode
            rw [hN] at hhd
            simp only [Option.bind_some, hd, Option.some.injEq, Prod.mk.injEq] at hhd
            obtain ⟨_, rfl, _⟩ := hhd
            have hmN := Mem_getN (H.mem k) hN
            have hmN' := hmN
            simp only [Mem] at hmN'
            have hT := lend_cells (I0 := I0) (i := i) (m := lcs.length) hmN' H.sub (fun e => by
              subst e
              rcases hcond with hc | ⟨hc, hc2⟩
              · cases hc
              · exact bx_fp fun b o' hb => H.lent hc k hc2 b o' (.inl (fp_getN (H.mem k) hN b o' hb)))
            rw [List.take_of_length_le (by rw [List.length_drop]; omega)] at hT
            refine ⟨.vptr (some ⟨l.b, l.o + i, 0⟩) (lendL (lcs.drop i)), ?_, ?_, ?_, by simp [noOwn]⟩
            · rw [← ht, ← hlcs]; simp only [er, erL_eq, map_lendL, List.map_drop]
            · simp only [RR]; exact ⟨_, rfl, hx⟩
            · simp only [Mem]; exact hT
          · cases ht
        · rename_i o' _ s0 n0 cs hnode
          split at ht
          · rename_i hcond
            simp only [Option.some.injEq] at ht
            obtain ⟨l0, lcs, hN, hlcs⟩ := node_sl hnode
            rw [hN] at hhd
            simp only [Option.bind_some, hd, Option.some.injEq, Prod.mk.injEq] at hhd
            obtain ⟨_, rfl, rfl, rfl⟩ := hhd
            have hmN := Mem_getN (H.mem k) hN
            have hmN' := hmN
            simp only [Mem] at hmN'
            have hT := lend_cells (I0 := I0) (i := i) (m := s0) hmN'.2.2 H.sub (fun e => by
              subst e
              rcases hcond with hc | ⟨hc, hc2⟩
              · cases hc
              · exact sl_fp hmN fun b o' hb => H.lent hc k hc2 b o' (.inl (fp_getN (H.mem k) hN b o' hb)))
            refine ⟨.vptr (some ⟨l.b, l.o + i, 0⟩) (lendL ((lcs.drop i).take s0)), ?_, ?_, ?_, by simp [noOwn]⟩
            · rw [← ht, ← hlcs]; simp only [er, erL_eq, map_lendL, List.map_drop, List.map_take]
            · simp only [RR]; exact ⟨_, rfl, hx⟩
            · simp only [Mem]; exact hT
          · cases ht
        · cases ht
    · cases ht
  | k0, .bptr _ _ _, x, a, hr, hm, hf, ht => by simp [er, trA] at ht
  | k0, .vptr l cs, x, a, hr, hm, hf, ht => by
    simp only [er, trA, Option.some.injEq] at ht
    exact ⟨.vptr l cs, by simp [er, ht], by simpa [RR] using hr, Mem_mono _ hm H.sub, by simp [noOwn]⟩
  | k0, .agg vs, x, a, hr, hm, hf, ht => by
    simp only [er, trA, Option.map_eq_some_iff] at ht
    obtain ⟨as, h1, rfl⟩ := ht
    simp only [RR] at hr
    obtain ⟨xs, rfl, hr⟩ := hr
    simp only [Mem] at hm
    obtain ⟨las, g1, g2, g3, g4⟩ := trL_ok H k0 vs xs as hr hm (fun b o hb => hf b o (by simpa [fp] using hb)) h1
    exact ⟨.agg las, by simp [er, g1], by simp only [RR]; exact ⟨xs, rfl, g2⟩, by simpa [Mem] using g3, by simpa [noOwn] using g4⟩
  | k0, .tuple _, x, a, hr, hm, hf, ht => by simp [er, trA] at ht
  | k0, .clos f vs, x, a, hr, hm, hf, ht => by
    simp only [er, trA, Option.map_eq_some_iff] at ht
    obtain ⟨as, h1, rfl⟩ := ht
    simp only [RR] at hr
    obtain ⟨xs, rfl, hr⟩ := hr
    simp only [Mem] at hm
    obtain ⟨las, g1, g2, g3, g4⟩ := trL_ok H k0 vs xs as hr hm.1 (fun b o hb => absurd hb (hm.2 b o)) h1
    exact ⟨.clos f las, by simp [er, g1], by simp only [RR]; exact ⟨xs, rfl, g2⟩, by simp only [Mem]; exact ⟨g3, (noOwnL_spec las g4).1⟩, by simp [noOwn]⟩
  | k0, .dead, x, a, hr, hm, hf, ht => by simp [er, trA] at ht
  | k0, .non, x, a, hr, hm, hf, ht => by simp [er, trA] at ht
theorem trL_ok {ls : List (Nat × List Nat)} {own : Bool} {I0 : ASet} {X0 : XF LO} {β0 : Nat → Nat × Nat} (H : CalleeOk C X β I w ls own I0 X0 β0) :
    ∀ (k0 : Nat) (lvs : List AL) (xs : List Value) (as : List AU), RRL X β lvs xs → MemA w I lvs → (∀ b o, fpL lvs b o → kfp β X k0 b o) → trL (erF X) ls own k0 (erL lvs) = some as →
      ∃ las, erL las = as ∧ RRL X0 β0 las xs ∧ MemA w I0 las ∧ noOwnL las = true
  | k0, [], xs, as, hr, hm, hf, ht => by
    simp only [erL, trL, Option.some.injEq] at ht
    simp only [RRL] at hr
    exact ⟨[], by simp [erL, ← ht], by simpa [RRL] using hr, by simp [MemA], by simp [noOwnL]⟩
  | k0, v :: vs, xs, as, hr, hm, hf, ht => by
    simp only [erL, trL] at ht
    simp only [RRL] at hr
    obtain ⟨y, ys, rfl, hr1, hr2⟩ := hr
    simp only [MemA] at hm
    split at ht
    · rename_i a as' h1 h2
      simp only [Option.some.injEq] at ht
      obtain ⟨la, g1, g2, g3, g4⟩ := trA_ok H k0 v y a hr1 hm.1 (fun b o hb => hf b o (by simp [fpL, hb])) h1
      obtain ⟨las, k1, k2, k3, k4⟩ := trL_ok H k0 vs ys as' hr2 hm.2 (fun b o hb => hf b o (by simp [fpL, hb])) h2
      exact ⟨la :: las, by simp [erL, g1, k1, ht], by simp only [RRL]; exact ⟨y, ys, rfl, g2, k2⟩, by simp only [MemA]; exact ⟨g3, k3⟩, by simp [noOwnL, g4, k4]⟩
    · cases ht
end
end
end Go.OT
