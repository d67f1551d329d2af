/-
  Calls over contracts: the callee's first state, and what comes back.
-/
import Derived.Test.YtpdigppbokpdkaaOtS
set_option linter.unusedSimpArgs false
set_option linter.unusedVariables false
namespace Go.OT

def nodeOf (X : XF LO) (e : Nat × List Nat) : AL := (getN (X e.1).2 e.2).getD .non

def lgOf : AL → Gh LO
  | .bx _ _ cs => .box cs
  | v => .nod v

def hdrV : AL → Value
  | .sl _ none _ _ _ => .slice none 0 0
  | .sl _ (some l) _ n _ => .slice (some ⟨l.b, l.o, none⟩) n l.cap
  | .bx _ (some l) _ => .pointer (some ⟨l.b, l.o, none⟩)
  | _ => undef

theorem CR_hdrV {N : AL} {y : Value} (hn : N.isNode = true) (h : CR N y) : y = hdrV N := by
  cases N with
  | sl o l s n cs => cases l <;> simp [CR] at h <;> simp [hdrV, h]
  | bx o l cs => cases l <;> simp [CR] at h <;> simp [hdrV, h]
  | _ => simp [AV.isNode] at hn

/-- The box that a loan's node is, in the callee. -/
def boxAt : Option AL → Nat × Nat
  | some (.bx _ (some l) _) => (l.b, l.o)
  | _ => (0, 0)

def βC (X : XF LO) (ls : List (Nat × List Nat)) (b : Nat) : Nat × Nat := if b < 10000 then (0, 0) else boxAt ((ls.map (nodeOf X))[b - 10000]?)

def rgC (X : XF LO) (ls : List (Nat × List Nat)) (args : Array Value) (t : Nat) : Value := if t < 10000 then args.getD t undef else ((ls.map (nodeOf X))[t - 10000]?).elim undef hdrV

def KC (X : XF LO) (ls : List (Nat × List Nat)) : ASet := fun b o => ∃ e ∈ ls, fp (nodeOf X e) b o

def IC (X : XF LO) (β : Nat → Nat × Nat) (I : ASet) (ls : List (Nat × List Nat)) (own : Bool) : ASet := fun b o => I b o ∨ (own = true ∧ ∃ k, lentK ls k = false ∧ kfp β X k b o)

def XC (X : XF LO) (ls : List (Nat × List Nat)) (las : List AL) : XF LO := initX (ls.map fun e => lgOf (nodeOf X e)) las

def CC (C : Ctx) (X : XF LO) (β : Nat → Nat × Nat) (I : ASet) (w : World) (ls : List (Nat × List Nat)) (own : Bool) (args : Array Value) : Ctx :=
  { P := C.P, nt := C.nt, w0 := w, K := KC X ls, I0 := IC X β I ls own, β0 := βC X ls, rg0 := rgC X ls args, hnt := C.hnt }

/-- What the loans are. -/
structure Loans (X : XF LO) (β : Nat → Nat × Nat) (I : ASet) (w : World) (ls : List (Nat × List Nat)) (gs : List (Gh Unit)) : Prop where
  len : ls.length = gs.length
  nd : (ls.map (·.1)).Nodup
  at_ : ∀ (j : Nat) (e : Nat × List Nat), ls[j]? = some e → ∃ g, gs[j]? = some g ∧ getN (X e.1).2 e.2 = some (nodeOf X e) ∧ (nodeOf X e).isNode = true ∧ ownQ (X e.1).2 e.2 = true ∧ Mem w I (nodeOf X e) ∧ Sep (nodeOf X e) ∧ (∀ b o, fp (nodeOf X e) b o → kfp β X e.1 b o) ∧
      ((∃ l s n cs, nodeOf X e = .sl true l s n cs ∧ g = .nod (.sl true () s n (cs.map er))) ∨ (∃ l cs, nodeOf X e = .bx true (some l) cs ∧ g = .box (cs.map er) ∧ cs.length ≤ 98))

section
variable {C : Ctx} {X : XF LO} {β : Nat → Nat × Nat} {I : ASet} {rg : Nat → Value} {w : World} {ls : List (Nat × List Nat)} {gs : List (Gh Unit)}

theorem mapM_some {α γ : Type} (f : α → Option γ) : ∀ (l : List α) (r : List γ), l.mapM f = some r → l.length = r.length ∧ ∀ (j : Nat) (a : α), l[j]? = some a → ∃ b, r[j]? = some b ∧ f a = some b
  | [], r, h => by simp at h; subst h; simp
  | a :: l, r, h => by
    rw [List.mapM_cons] at h
    cases h1 : f a with
    | none => simp [h1] at h
    | some b =>
      simp only [h1, Option.bind_eq_bind, Option.bind_some] at h
      cases h2 : l.mapM f with
      | none => simp [h2] at h
      | some bs =>
        simp only [h2, Option.bind_some, Option.pure_def, Option.some.injEq] at h
        subst h
        have ih := mapM_some f l bs h2
        refine ⟨by simp [ih.1], fun j x hx => ?_⟩
        cases j with
        | zero => simp at hx; subst hx; exact ⟨b, rfl, h1⟩
        | succ j => simp at hx; simpa using ih.2 j x hx

theorem Loans.of (R : RelL C X β I rg w) (h : ls.mapM (ghAt (erF X)) = some gs) (hn : (ls.map (·.1)).Nodup) : Loans X β I w ls gs := by
  have := mapM_some _ _ _ h
  refine ⟨this.1, hn, fun j e he => ?_⟩
  obtain ⟨g, h1, h2⟩ := this.2 j e he
  obtain ⟨N, a1, a2, a3, a4, a5, a6, a7⟩ := ghAt_ok R h2
  have hN : nodeOf X e = N := by simp [nodeOf, a1]
  rw [hN]
  exact ⟨g, h1, a1, a2, a3, a4, a5, a6, a7⟩

theorem Loans.inj (L : Loans X β I w ls gs) {j j' : Nat} {e e' : Nat × List Nat} (h : ls[j]? = some e) (h' : ls[j']? = some e') (hk : e.1 = e'.1) : j = j' := by
  have h1 : (ls.map (·.1))[j]? = some e.1 := by simp [h]
  have h2 : (ls.map (·.1))[j']? = some e.1 := by simp [h', hk]
  have hj : j < (ls.map (·.1)).length := (List.getElem?_eq_some_iff.1 h1).1
  exact (List.getElem?_inj hj L.nd).1 (h1.trans h2.symm)

theorem lentK_of {j : Nat} {e : Nat × List Nat} (h : ls[j]? = some e) : lentK ls e.1 = true := by
  simp only [lentK, List.contains_iff_mem]
  exact List.mem_map.2 ⟨e, List.mem_of_getElem? h, rfl⟩

theorem keepsC (las : List AL) (β0 : Nat → Nat × Nat) : Keeps (XC X ls []) (XC X ls las) β0 β0 := by
  refine ⟨fun _ => Nat.le_refl _, fun k _ p h hh => ?_, fun _ _ => rfl⟩
  simp only [XC, initX, initV] at hh ⊢
  split at hh
  · exfalso
    have : (if k % 100 = 0 then ([] : List AL).getD (k / 100) .non else .non) = .non := by split <;> simp
    rw [this] at hh
    cases p with
    | nil => simp [getN, hd] at hh
    | cons i p => simp [getN, AV.cells?] at hh
  · rename_i hk
    rw [if_neg hk]
    exact hh

/-- What the callee's keys have that stand for loans. -/
theorem XC_ghost (L : Loans X β I w ls gs) (las : List AL) (k : Nat) (hk : 10000 ≤ k / 100) : (XC X ls las k).2 = .non ∨ ∃ j e, ls[j]? = some e ∧ k / 100 = 10000 + j ∧
    ((k % 100 = 0 ∧ (∃ l s n cs, nodeOf X e = .sl true l s n cs) ∧ (XC X ls las k).2 = nodeOf X e) ∨
     (∃ i c l cs, k % 100 = 1 + i ∧ i < 98 ∧ nodeOf X e = .bx true (some l) cs ∧ cs[i]? = some c ∧ (XC X ls las k).2 = c ∧ βC X ls (k / 100) = (l.b, l.o))) := by
  simp only [XC, initX, initV]
  rw [if_neg (by omega)]
  cases hj : ls[k / 100 - 10000]? with
  | none => left; simp [hj]
  | some e =>
    obtain ⟨g, _, _, _, _, _, _, _, hor⟩ := L.at_ _ e hj
    simp only [List.getElem?_map, hj, Option.map_some]
    rcases hor with ⟨l, s, n, cs, hN, _⟩ | ⟨l, cs, hN, _, hlen⟩
    · rw [hN]
      simp only [lgOf]
      by_cases h0 : k % 100 = 0
      · right
        exact ⟨_, e, hj, by omega, .inl ⟨h0, ⟨l, s, n, cs, hN⟩, by rw [if_pos h0, hN]⟩⟩
      · left; rw [if_neg h0]
    · rw [hN]
      simp only [lgOf]
      by_cases h0 : k % 100 = 0 ∨ k % 100 = 99
      · left; rw [if_pos h0]
      · rw [if_neg h0]
        cases hc : cs[k % 100 - 1]? with
        | none => left; simp [hc]
        | some c =>
          right
          refine ⟨_, e, hj, by omega, .inr ⟨k % 100 - 1, c, l, cs, by omega, by omega, hN, hc, by simp [hc], ?_⟩⟩
          simp only [βC, if_neg (show ¬ k / 100 < 10000 by omega), List.getElem?_map, hj, Option.map_some, hN, boxAt]

theorem XC_arg (las : List AL) (k : Nat) (hk : k / 100 < 10000) : (XC X ls las k).2 = .non ∨ ∃ la, las[k / 100]? = some la ∧ k % 100 = 0 ∧ (XC X ls las k).2 = la := by
  simp only [XC, initX, initV]
  rw [if_pos hk]
  split
  · rename_i h0
    cases hl : las[k / 100]? with
    | none => left; simp [hl]
    | some la => right; exact ⟨la, rfl, h0, by simp [hl]⟩
  · left; rfl

/-- What the callee's keys own. -/
theorem kfpC (L : Loans X β I w ls gs) {las : List AL} (hno : ∀ la ∈ las, noOwn la = true) {k b o : Nat} (h : kfp (βC X ls) (XC X ls las) k b o) :
    ∃ j e, ls[j]? = some e ∧ k / 100 = 10000 + j ∧ fp (nodeOf X e) b o := by
  by_cases hk : k / 100 < 10000
  · exfalso
    rcases XC_arg (X := X) (ls := ls) las k hk with h0 | ⟨la, h1, h2, h3⟩
    · rcases h with h | ⟨_, h, _⟩
      · rw [h0] at h; simp [fp] at h
      · exact h h0
    · rcases h with h | ⟨hc, _⟩
      · rw [h3] at h; exact (noOwn_spec la (hno la (List.mem_of_getElem? h1))).1 b o h
      · exact hc.1 h2
  · rcases XC_ghost L las k (by omega) with h0 | ⟨j, e, hj, hkj, hor⟩
    · rcases h with h | ⟨_, h, _⟩
      · rw [h0] at h; simp [fp] at h
      · exact absurd h0 h
    · refine ⟨j, e, hj, hkj, ?_⟩
      rcases hor with ⟨h1, _, h3⟩ | ⟨i, c, l, cs, h1, h2, h3, h4, h5, h6⟩
      · rcases h with h | ⟨hc, _⟩
        · rwa [h3] at h
        · exact absurd h1 hc.1
      · rw [h3]
        simp only [fp]
        rcases h with h | ⟨hc, _, hb, ho⟩
        · rw [h5] at h; exact .inr (fpL_iff.2 ⟨c, List.mem_of_getElem? h4, h⟩)
        · rw [h6] at hb ho
          have := (List.getElem?_eq_some_iff.1 h4).1
          simp only at hb ho
          exact .inl ⟨hb, by omega, by omega⟩

/-- The callee's first state. -/
theorem call_rel (R : RelL C X β I rg w) (L : Loans X β I w ls gs) {own : Bool} {las : List AL} {args : Array Value} (hsz : las.length ≤ args.size)
    (hla : ∀ (t : Nat) (la : AL), las[t]? = some la → RR (XC X ls []) (βC X ls) la (args.getD t undef) ∧ Mem w (IC X β I ls own) la ∧ noOwn la = true) :
    RelL (CC C X β I w ls own args) (XC X ls las) (βC X ls) (IC X β I ls own) (rgC X ls args) w := by
  have hno : ∀ la ∈ las, noOwn la = true := fun la h => by
    obtain ⟨t, ht⟩ := List.getElem?_of_mem h
    exact (hla t la ht).2.2
  have hIC : ∀ b o, I b o → IC X β I ls own b o := fun b o h => .inl h
  refine ⟨fun t => ?_, fun k => ?_, fun k k' hne b o h1 h2 => ?_, fun b o h => ?_, fun k b o h => ?_, fun b o h => .inl h, fun b o h => h, Frame.refl _ w, fun _ _ => rfl, fun _ _ => rfl⟩
  · by_cases ht : t < 10000
    · rcases XC_arg (X := X) (ls := ls) las (100 * t) (by omega) with h0 | ⟨la, h1, h2, h3⟩
      · rw [h0]; simp [RR]
      · rw [h3]
        rw [show 100 * t / 100 = t by omega] at h1
        simp only [rgC, if_pos ht]
        exact RR_keep (keepsC las _) _ _ (hla t la h1).1
    · rcases XC_ghost L las (100 * t) (by omega) with h0 | ⟨j, e, hj, hkj, hor⟩
      · rw [h0]; simp [RR]
      · rcases hor with ⟨h1, ⟨l, s, n, cs, hN⟩, h3⟩ | ⟨i, _, _, _, h1, _⟩
        · rw [h3, hN]
          have e1 : t - 10000 = j := by omega
          simp only [rgC, if_neg ht, List.getElem?_map, e1, hj, Option.map_some, Option.elim, hN]
          obtain ⟨g, _, _, _, _, hm, _⟩ := L.at_ j e hj
          rw [hN] at hm
          cases l with
          | none => simp only [Mem] at hm; simp [RR, CR, hdrV, hm.1]
          | some l => simp [RR, CR, hdrV]
        · omega
  · -- what lies at a key
    by_cases hk : k / 100 < 10000
    · rcases XC_arg (X := X) (ls := ls) las k hk with h0 | ⟨la, h1, h2, h3⟩
      · refine ⟨by rw [h0]; simp [Mem], by rw [h0]; simp [Sep], fun _ h => absurd h0 h, fun b o h => ?_, fun _ => h0⟩
        rcases h with h | ⟨_, h, _⟩
        · rw [h0] at h; simp [fp] at h
        · exact absurd h0 h
      · have hl := hla _ la h1
        refine ⟨by rw [h3]; exact hl.2.1, by rw [h3]; exact (noOwn_spec la hl.2.2).2, fun hc => absurd h2 hc.1, fun b o h => ?_, fun h => by omega⟩
        rcases h with h | ⟨hc, _⟩
        · rw [h3] at h; exact absurd h ((noOwn_spec la hl.2.2).1 b o)
        · exact absurd h2 hc.1
    · rcases XC_ghost L las k (by omega) with h0 | ⟨j, e, hj, hkj, hor⟩
      · refine ⟨by rw [h0]; simp [Mem], by rw [h0]; simp [Sep], fun _ h => absurd h0 h, fun b o h => ?_, fun _ => h0⟩
        rcases h with h | ⟨_, h, _⟩
        · rw [h0] at h; simp [fp] at h
        · exact absurd h0 h
      · obtain ⟨g, _, _, hnode, _, hm, hs, hf, _⟩ := L.at_ j e hj
        have hlive : ∀ b o, kfp (βC X ls) (XC X ls las) k b o → b < w.heap.size ∧ w.fz b o = false ∧ (w.at b o).isSome := by
          intro b o h
          obtain ⟨j', e', hj', _, hfp⟩ := kfpC L hno h
          obtain ⟨_, _, _, _, _, _, _, hf', _⟩ := L.at_ j' e' hj'
          exact (R.key _).live b o (hf' b o hfp)
        rcases hor with ⟨h1, _, h3⟩ | ⟨i, c, l, cs, h1, h2, h3, h4, h5, h6⟩
        · exact ⟨by rw [h3]; exact Mem_mono _ hm hIC, by rw [h3]; exact hs, fun hc => absurd h1 hc.1, hlive, fun h => by omega⟩
        · rw [h3] at hm hs
          simp only [Mem] at hm
          have hmi := MemL_iff.1 hm i c h4
          simp only [Sep] at hs
          have hsl := SepL_iff.1 hs.2
          have hlt := (List.getElem?_eq_some_iff.1 h4).1
          refine ⟨by rw [h5]; exact Mem_mono _ hmi.2.1 hIC, by rw [h5]; exact hsl.1 c (List.mem_of_getElem? h4), fun _ _ => ?_, hlive, fun h => by omega⟩
          rw [h5, h6]
          simp only
          have e1 : k % 100 - 1 = i := by omega
          rw [e1]
          exact ⟨hmi.1, fun hb => hs.1 i hlt (fpL_iff.2 ⟨c, List.mem_of_getElem? h4, hb⟩)⟩
  · -- no address twice
    obtain ⟨j, e, hj, hkj, hf⟩ := kfpC L hno h1
    obtain ⟨j', e', hj', hkj', hf'⟩ := kfpC L hno h2
    by_cases hjj : j = j'
    · subst hjj
      rw [hj] at hj'
      cases hj'
      obtain ⟨g, _, _, hnode, _, hm, hs, _, _⟩ := L.at_ j e hj
      rcases XC_ghost L las k (by omega) with h0 | ⟨j1, e1, hj1, hkj1, hor1⟩
      · rcases h1 with h | ⟨_, h, _⟩
        · rw [h0] at h; simp [fp] at h
        · exact absurd h0 h
      · rcases XC_ghost L las k' (by omega) with h0 | ⟨j2, e2, hj2, hkj2, hor2⟩
        · rcases h2 with h | ⟨_, h, _⟩
          · rw [h0] at h; simp [fp] at h
          · exact absurd h0 h
        · have q1 : j1 = j := by omega
          have q2 : j2 = j := by omega
          subst q1; subst q2
          rw [hj] at hj1 hj2
          cases hj1; cases hj2
          rcases hor1 with ⟨m1, ⟨l, s, n, cs, hN⟩, _⟩ | ⟨i, c, l, cs, m1, m2, hN, m4, m5, m6⟩
          · rcases hor2 with ⟨n1, _⟩ | ⟨i', c', l', cs', n1, n2, hN', _⟩
            · omega
            · rw [hN] at hN'; cases hN'
          · rcases hor2 with ⟨n1, ⟨l', s', n', cs', hN'⟩, _⟩ | ⟨i', c', l', cs', n1, n2, hN', n4, n5, n6⟩
            · rw [hN] at hN'; cases hN'
            · rw [hN] at hN'
              cases hN'
              have hii : i ≠ i' := by omega
              rw [hN] at hs
              simp only [Sep] at hs
              have hsl := SepL_iff.1 hs.2
              have hlt := (List.getElem?_eq_some_iff.1 m4).1
              have hlt' := (List.getElem?_eq_some_iff.1 n4).1
              rcases h1 with g1 | ⟨_, _, g1, g2⟩
              · rw [m5] at g1
                rcases h2 with f1 | ⟨_, _, f1, f2⟩
                · rw [n5] at f1
                  rcases Nat.lt_or_gt_of_ne hii with q | q
                  · exact hsl.2 i i' c c' q m4 n4 b o g1 f1
                  · exact hsl.2 i' i c' c q n4 m4 b o f1 g1
                · rw [n6] at f1 f2
                  simp only at f1 f2
                  have : o = l.o + i' := by omega
                  rw [f1, this] at g1
                  exact hs.1 i' hlt' (fpL_iff.2 ⟨c, List.mem_of_getElem? m4, g1⟩)
              · rw [m6] at g1 g2
                simp only at g1 g2
                have ho : o = l.o + i := by omega
                rcases h2 with f1 | ⟨_, _, f1, f2⟩
                · rw [n5, g1, ho] at f1
                  exact hs.1 i hlt (fpL_iff.2 ⟨c', List.mem_of_getElem? n4, f1⟩)
                · rw [n6] at f1 f2
                  simp only at f1 f2
                  omega
    · obtain ⟨_, _, _, _, _, _, _, q1, _⟩ := L.at_ j e hj
      obtain ⟨_, _, _, _, _, _, _, q2, _⟩ := L.at_ j' e' hj'
      exact R.disj e.1 e'.1 (fun h => hjj (L.inj hj hj' h)) b o (q1 b o hf) (q2 b o hf')
  · -- what is never written
    have hn : ∀ k, kfp (βC X ls) (XC X ls las) k b o → ∃ k0, lentK ls k0 = true ∧ kfp β X k0 b o := by
      intro k hb
      obtain ⟨j, e, hj, _, hf⟩ := kfpC L hno hb
      obtain ⟨_, _, _, _, _, _, _, q1, _⟩ := L.at_ j e hj
      exact ⟨e.1, lentK_of hj, q1 b o hf⟩
    rcases h with h | ⟨_, k0, h1, h2⟩
    · refine ⟨(R.imm b o h).1, fun k hb => ?_⟩
      obtain ⟨k1, _, q⟩ := hn k hb
      exact (R.imm b o h).2 k1 q
    · refine ⟨((R.key k0).live b o h2).1, fun k hb => ?_⟩
      obtain ⟨k1, q1, q⟩ := hn k hb
      exact R.disj k0 k1 (fun e => by rw [e, q1] at h1; cases h1) b o h2 q
  · obtain ⟨j, e, hj, _, hf⟩ := kfpC L hno h
    exact .inl ⟨e, List.mem_of_getElem? hj, hf⟩

theorem calleeOk (R : RelL C X β I rg w) (L : Loans X β I w ls gs) (own : Bool) : CalleeOk C X β I w ls own (IC X β I ls own) (XC X ls []) (βC X ls) := by
  refine ⟨fun k => (R.key k).mem, fun b o h => .inl h, fun h k hk b o hb => .inr ⟨h, k, hk, hb⟩, fun _ => rfl, fun j e hj => ?_⟩
  obtain ⟨g, _, hN, _, _, _, _, _, hor⟩ := L.at_ j e hj
  refine ⟨nodeOf X e, hN, ?_⟩
  rcases hor with ⟨l, s, n, cs, h, _⟩ | ⟨l, cs, h, _⟩
  · refine .inl ⟨l, s, n, cs, h, ?_⟩
    have k1 : gkey j / 100 = 10000 + j := by unfold gkey; omega
    have k2 : gkey j % 100 = 0 := by unfold gkey; omega
    simp only [XC, initX, initV, k1, k2]
    rw [if_neg (by omega), show 10000 + j - 10000 = j by omega]
    simp only [List.getElem?_map, hj, Option.map_some, h, lgOf, if_true]
  · refine .inr ⟨l, cs, h, ?_⟩
    simp only [βC, if_neg (show ¬ 10000 + j < 10000 by omega), show 10000 + j - 10000 = j by omega, List.getElem?_map, hj, Option.map_some, h, boxAt]

theorem erF_XC (L : Loans X β I w ls gs) (las : List AL) : erF (XC X ls las) = initX gs (las.map er) := by
  funext k
  simp only [erF, XC, initX, Prod.mk.injEq, true_and]
  simp only [initV]
  split
  · split
    · simp only [List.getD_eq_getElem?_getD, List.getElem?_map]
      cases las[k / 100]? <;> simp [er]
    · simp [er]
  · simp only [List.getElem?_map]
    cases hj : ls[k / 100 - 10000]? with
    | none =>
      have : gs[k / 100 - 10000]? = none := by
        rw [List.getElem?_eq_none_iff] at hj ⊢
        rw [← L.len]; exact hj
      simp [this, er]
    | some e =>
      obtain ⟨g, hg, _, _, _, _, _, _, hor⟩ := L.at_ _ e hj
      simp only [Option.map_some, hg]
      rcases hor with ⟨l, s, n, cs, h, rfl⟩ | ⟨l, cs, h, rfl, _⟩
      · rw [h]
        simp only [lgOf]
        split <;> simp [er, erL_eq]
      · rw [h]
        simp only [lgOf]
        split
        · simp [er]
        · simp only [List.getD_eq_getElem?_getD, List.getElem?_map]
          cases cs[k % 100 - 1]? <;> simp [er]
end
end Go.OT
