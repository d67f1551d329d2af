/-
  Stores.
-/
import Derived.Test.YtpdigppbokpdkaaOtK
import Derived.Laws.IdiomCopy
set_option linter.unusedSimpArgs false
set_option linter.unusedVariables false
namespace Go.OT

theorem oneCell_of_CR {v : AL} {x : Value} (ht : treeV v = true) (h : CR v x) : x.oneCell' = true := by
  cases v with
  | sc u => simp only [CR] at h; subst h; exact ht
  | sl o l s n cs =>
    cases l with
    | none => simp only [CR] at h; rw [h.1]; rfl
    | some l => simp only [CR] at h; rw [h]; rfl
  | bx o l cs =>
    cases l with
    | none => simp [CR] at h
    | some l => simp only [CR] at h; rw [h]; rfl
  | _ => simp [treeV] at ht

/-- What is in hand h goes into one cell. -/
def put1 (X : XF Unit) (a : AU) (h : Nat) : Option (XF Unit) :=
  match a with
  | .bptr b g i =>
    if (X (100 * b + 99)).1 = g ∧ i < 98 ∧ (X (100 * b + 1 + i)).2.isNon = false ∧ treeV (X (100 * h)).2 = true then
      some ((X.set (100 * b + 1 + i) (X (100 * h)).2).set (100 * h) .non) else none
  | .ptr k g p i =>
    if (X k).1 = g ∧ k ≠ 100 * h ∧ treeV (X (100 * h)).2 = true ∧ ownQ (X k).2 (p ++ [i]) = true then
      match getN (X k).2 (p ++ [i]) with
      | some u => some ((if u.isNode then X.set k (setN (X k).2 (p ++ [i]) (X (100 * h)).2) else X.upd k (setN (X k).2 (p ++ [i]) (X (100 * h)).2)).set (100 * h) .non)
      | none => none
    else none
  | _ => none

def shiftA (i : Nat) : AU → AU
  | .bptr b g j => .bptr b g (j + i)
  | .ptr k g p j => .ptr k g p (j + i)
  | v => v

/-- The parts of the aggregate in hand, one by one, into the cells from 'a' on. -/
def putA (X : XF Unit) (a : AU) : Nat → List AU → Option (XF Unit)
  | _, [] => some X
  | i, c :: cs => (put1 ((X.set (100 * H) (.agg (List.replicate (i + 1) .dead ++ cs))).set (100 * (H + 1)) c) (shiftA i a) (H + 1)).bind fun X2 => putA X2 a (i + 1) cs

def stV (X : XF Unit) (n : Nat) (a v : COd) : Option (XF Unit) :=
  (takeC X v).bind fun X1 => match (X1 (100 * H)).2 with
    | .agg vs => if vs.length = n ∧ n ≠ 0 then (putA X1 (rd X1 a) 0 vs).map fun X2 => X2.set (100 * H) .non else none
    | _ => if n = 1 then put1 X1 (rd X1 a) H else none

section
variable {C : Ctx} {X : XF LO} {β : Nat → Nat × Nat} {I : ASet} {rg : Nat → Value} {w : World}

theorem getN_snoc {p : List Nat} {i : Nat} : ∀ {v u : AL}, getN v (p ++ [i]) = some u → ∃ N cs, getN v p = some N ∧ N.cells? = some cs ∧ cs[i]? = some u := by
  induction p with
  | nil =>
    intro v u h
    simp only [List.nil_append, getN] at h
    cases hc : v.cells? with
    | none => simp [hc] at h
    | some cs =>
      simp only [hc] at h
      cases hi : cs[i]? with
      | none => simp [hi] at h
      | some c => simp only [hi, Option.some.injEq] at h; exact ⟨v, cs, rfl, hc, by rw [hi, h]⟩
  | cons j p ih =>
    intro v u h
    simp only [List.cons_append, getN] at h ⊢
    cases hc : v.cells? with
    | none => simp [hc] at h
    | some cs =>
      simp only [hc] at h ⊢
      cases hi : cs[j]? with
      | none => simp [hi] at h
      | some c => simp only [hi] at h ⊢; exact ih h

theorem addr_snoc {p : List Nat} {i : Nat} : ∀ {v N : AL} {l : Loc}, getN v p = some N → N.loc? = some l → addr v (p ++ [i]) = some (l.b, l.o + i) := by
  induction p with
  | nil => intro v N l h hl; simp only [getN, Option.some.injEq] at h; subst h; simp [addr, hl]
  | cons j p ih =>
    intro v N l h hl
    simp only [getN] at h
    cases hc : v.cells? with
    | none => simp [hc] at h
    | some cs =>
      simp only [hc] at h
      cases hi : cs[j]? with
      | none => simp [hi] at h
      | some c =>
        simp only [hi] at h
        have := ih h hl
        cases hq : p ++ [i] with
        | nil => simp at hq
        | cons a q => rw [hq] at this; simp [addr, hq, hc, hi, this]

theorem put1_ok (R : RelL C X β I rg w) {a : AU} {x : Value} {h : Nat} {X' : XF Unit} (ha : Opd X β I w a x) (hp : put1 (erF X) a h = some X') :
    ∃ b o XL, x = .pointer (some ⟨b, o, none⟩) ∧ erF XL = X' ∧ RelL C XL β I rg (w.setCell ⟨b, o, none⟩ (rg h)) ∧ Keeps X XL β β ∧ (w.at b o).isSome ∧ w.fz b o = false ∧ (rg h).oneCell' = true := by
  cases a with
  | bptr b g i =>
    simp only [put1] at hp
    split at hp
    · rename_i hc
      obtain ⟨hg, hi, hn, ht⟩ := hc
      simp only [Option.some.injEq] at hp
      have hx := ha.bptr hg
      have hk : isCell (100 * b + 1 + i) := by unfold isCell; omega
      have hne : (X (100 * b + 1 + i)).2 ≠ .non := by intro e; simp [erF, e, er, AV.isNon] at hn
      have ht' : treeV (X (100 * h)).2 = true := by rw [← er_treeV]; exact ht
      obtain ⟨h1, h2⟩ := R.putC (100 * b + 1 + i) h hk hne ht'
      rw [show (100 * b + 1 + i) / 100 = b by omega, show (100 * b + 1 + i) % 100 - 1 = i by omega] at h1 h2
      obtain ⟨_, l2, l3⟩ := (R.key _).live _ _ h1
      refine ⟨_, _, _, hx, ?_, h2, (keeps_set X β _ _).trans (keeps_set _ β _ _), l3, l2, oneCell_of_CR ht' (CR_of_RR ht' (R.reg h))⟩
      rw [erF_set, erF_set, ← hp]; rfl
    · cases hp
  | ptr k g p i =>
    simp only [put1] at hp
    split at hp
    · rename_i hc
      obtain ⟨hg, hkh, ht, ho⟩ := hc
      have ht' : treeV (X (100 * h)).2 = true := by rw [← er_treeV]; exact ht
      have ho' : ownQ (X k).2 (p ++ [i]) = true := by rw [← er_ownQ]; exact ho
      obtain ⟨s, l, sz, n, hh, hx⟩ := ha.ptr hg
      cases hu : getN (X k).2 (p ++ [i]) with
      | none => simp [erF, er_getN, hu] at hp
      | some u =>
        simp only [erF, er_getN, hu, Option.map_some, er_isNode] at hp
        obtain ⟨N, cs, hN, hcs, hi⟩ := getN_snoc hu
        simp only [hN, Option.bind_some] at hh
        have hl := hd_loc hh
        obtain ⟨b, o, h1, h2, h3⟩ := R.putT k h (p ++ [i]) hkh (by simp) hu ho' ht' u.isNode (fun e => e)
        rw [addr_snoc hN hl] at h1
        cases h1
        obtain ⟨_, l2, l3⟩ := (R.key _).live _ _ h2
        refine ⟨_, _, _, hx, ?_, h3, ?_, l3, l2, oneCell_of_CR ht' (CR_of_RR ht' (R.reg h))⟩
        · simp only [Option.some.injEq] at hp
          rw [← hp, erF_set]
          cases u.isNode <;> simp [erF_set, erF_upd, er_setN, er] <;> rfl
        · refine Keeps.trans ?_ (keeps_set _ β _ _)
          cases hb : u.isNode with
          | true => exact keeps_set X β k _
          | false =>
            simp only [Bool.false_eq_true, if_false]
            refine ⟨fun j => ?_, fun j _ p' a ha' => ?_, fun _ _ => rfl⟩
            · by_cases e : j = k
              · subst e; simp [XF.upd]
              · simp [XF.upd, e]
            · by_cases e : j = k
              · subst e; rw [XF.upd_self]; exact hd_setN hb _ _ (by simp) hu p' a ha'
              · rw [XF.upd_ne _ _ e]; exact ha'
    · cases hp
  | _ => simp [put1] at hp

theorem Opd.keep {X' : XF LO} {β' : Nat → Nat × Nat} (K : Keeps X X' β β') {v : AU} {x : Value} (h : Opd X β I w v x) (hv : ∀ lv, er lv = v → Mem w I lv → ∀ w', Mem w' I lv) (w' : World) : Opd X' β' I w' v x := by
  obtain ⟨lv, h1, h2, h3⟩ := h.ex
  exact ⟨lv, h1, RR_keep K _ _ h2, hv lv h1 h3 w'⟩

/-- An address of a place. -/
def isPl : AU → Bool
  | .bptr _ _ _ => true
  | .ptr _ _ _ _ => true
  | _ => false

theorem Opd.keepP {X' : XF LO} {β' : Nat → Nat × Nat} (K : Keeps X X' β β') {v : AU} {x : Value} (h : Opd X β I w v x) (hv : isPl v = true) (w' : World) : Opd X' β' I w' v x := by
  refine h.keep K (fun lv e _ w' => ?_) w'
  cases v <;> simp [isPl] at hv
  · rw [er_ptr e]; simp [Mem]
  · rw [er_bptr e]; simp [Mem]

theorem isPl_of_put1 {X : XF Unit} {a : AU} {h : Nat} {X' : XF Unit} (hp : put1 X a h = some X') : isPl a = true := by
  cases a <;> simp [put1] at hp <;> rfl

theorem Opd.shift {a : AU} {x : Value} {i : Nat} {b o : Nat} (h : Opd X β I w a x) (hx : x = .pointer (some ⟨b, o, none⟩)) (hp : isPl a = true) : Opd X β I w (shiftA i a) (.pointer (some ⟨b, o + i, none⟩)) := by
  obtain ⟨lv, h1, h2, h3⟩ := h.ex
  subst hx
  cases a <;> simp [isPl] at hp
  · rename_i k g p j
    have := er_ptr h1; subst this
    refine ⟨.ptr k g p (j + i), rfl, ?_, by simp [Mem]⟩
    simp only [RR] at h2 ⊢
    refine ⟨h2.1, fun e => ?_⟩
    obtain ⟨s, l, sz, n, e1, e2⟩ := h2.2 e
    simp only [Value.pointer.injEq, Option.some.injEq, Addr.mk.injEq, and_true] at e2
    exact ⟨s, l, sz, n, e1, by rw [e2.1, e2.2, Nat.add_assoc]⟩
  · rename_i b' g j
    have := er_bptr h1; subst this
    refine ⟨.bptr b' g (j + i), rfl, ?_, by simp [Mem]⟩
    simp only [RR] at h2 ⊢
    refine ⟨h2.1, fun e => ?_⟩
    have e2 := h2.2 e
    simp only [Value.pointer.injEq, Option.some.injEq, Addr.mk.injEq, and_true] at e2
    rw [e2.1, e2.2, Nat.add_assoc]

theorem run_store_at {P : Program} {w : World} {b o : Nat} {x : Value} (h1 : (w.at b o).isSome) (h2 : w.fz b o = false) (h3 : x.oneCell' = true) : (store ⟨b, o, none⟩ x).run P w = .ok () (w.setCell ⟨b, o, none⟩ x) := by
  rw [run_store P w _ x _ h3]
  simp only [World.at] at h1
  simp only [World.fz] at h2
  cases hc : w.cell? ⟨b, o, none⟩ with
  | none => simp [hc] at h1
  | some v => simp [h2]

theorem ownQ_agg (vs : List AU) (p : List Nat) (i : Nat) : ownQ (.agg vs : AU) (p ++ [i]) = false := by cases p <;> simp [ownQ, AV.own?]

/-- The parts of an aggregate go into their cells. -/
theorem putA_ok : ∀ (cs : List AU) (i : Nat) (X : XF LO) (rg : Nat → Value) (w : World) (xs : List Value) (pre : List Value) (a : AU) (b o : Nat) (X' : XF Unit), RelL C X β I rg w →
    (erF X (100 * H)).2 = .agg (List.replicate i .dead ++ cs) → rg H = .agg (pre ++ xs).toArray → pre.length = i → cs.length = xs.length →
    Opd X β I w a (.pointer (some ⟨b, o, none⟩)) → (cs ≠ [] → isPl a = true) → putA (erF X) a i cs = some X' →
    ∃ XL rg' w', erF XL = X' ∧ RelL C XL β I rg' w' ∧ (storeCells ⟨b, o, none⟩ xs i).run C.P w = .ok () w' ∧ (∀ t, t < H → rg' t = rg t)
  | [], i, X, rg, w, xs, pre, a, b, o, X', R, hX, hrg, hpre, hlen, ha, hpl, hp => by
    have : xs = [] := by simpa using hlen.symm
    subst this
    simp only [putA, Option.some.injEq] at hp
    exact ⟨X, rg, w, hp, R, rfl, fun _ _ => rfl⟩
  | c :: cs, i, X, rg, w, xs, pre, a, b, o, X', R, hX, hrg, hpre, hlen, ha, hpl, hp => by
    cases xs with
    | nil => simp at hlen
    | cons x xs =>
      simp only [putA] at hp
      obtain ⟨lvs, hV, he⟩ := er_agg (lv := (X (100 * H)).2) hX
      have hlvs : lvs.length = i + (cs.length + 1) := by
        have := congrArg List.length he
        simpa using this
      have hRH := R.reg H
      rw [hV, hrg] at hRH
      simp only [RR] at hRH
      obtain ⟨ys, hys, hRL⟩ := hRH
      have hys' : ys = pre ++ x :: xs := by simpa using hys.symm
      subst hys'
      have hpp : (X (100 * H)).2.parts? = some lvs := by rw [hV]; rfl
      have hli : lvs[i]? = some lvs[i] := List.getElem?_eq_getElem (by omega)
      have hxi : (pre ++ x :: xs)[i]? = some x := by rw [List.getElem?_append_right (by omega)]; simp [hpre]
      have hri := (RRL_iff.1 hRL).2 i _ _ hli hxi
      have hei : er lvs[i] = c := by
        have : (lvs.map er)[i]? = some c := by rw [he, List.getElem?_append_right (by simp)]; simp
        rw [List.getElem?_map, hli] at this
        simpa using this
      have R1 := R.takeA H (H + 1) i (by decide) (by decide) hpp hli hri
      have K1 : Keeps X ((X.set (100 * H) ((X (100 * H)).2.withParts (lvs.set i .dead))).set (100 * (H + 1)) lvs[i]) β β := (keeps_set X β _ _).trans (keeps_set _ β _ _)
      have hE : erF ((X.set (100 * H) ((X (100 * H)).2.withParts (lvs.set i .dead))).set (100 * (H + 1)) lvs[i]) = ((erF X).set (100 * H) (.agg (List.replicate (i + 1) .dead ++ cs))).set (100 * (H + 1)) c := by
        rw [erF_set, erF_set, hei, hV]
        congr 2
        simp only [AV.withParts, er, erL_eq, List.map_set, he]
        congr 1
        rw [List.set_append_right _ _ (by simp)]
        simp [List.replicate_succ']
      cases h1 : put1 (((erF X).set (100 * H) (.agg (List.replicate (i + 1) .dead ++ cs))).set (100 * (H + 1)) c) (shiftA i a) (H + 1) with
      | none => simp [h1] at hp
      | some X2 =>
        simp only [h1, Option.bind_some] at hp
        have hpl' := hpl (by simp)
        have ha1 := (ha.shift (i := i) rfl hpl').keepP K1 (by cases a <;> simp [isPl] at hpl' <;> rfl) w
        rw [← hE] at h1
        obtain ⟨b', o', XL1, e1, e2, R2, K2, l1, l2, l3⟩ := put1_ok R1 ha1 h1
        simp only [Value.pointer.injEq, Option.some.injEq, Addr.mk.injEq, and_true] at e1
        obtain ⟨rfl, rfl⟩ := e1
        simp only [if_true] at R2 l3
        have hne : (100 * H) ≠ 100 * (H + 1) := by decide
        have hH2 : (erF XL1 (100 * H)).2 = .agg (List.replicate (i + 1) .dead ++ cs) := by
          rw [e2]
          rw [hE] at h1
          have : ∀ (Y : XF Unit) a' Z, put1 Y a' (H + 1) = some Z → isPl a' = true → (∀ k g p i', a' = .ptr k g p i' → k ≠ 100 * H) → (∀ b g i', a' = .bptr b g i' → 100 * b + 1 + i' ≠ 100 * H) → (Z (100 * H)).2 = (Y (100 * H)).2 := by
            intro Y a' Z hz hp' hk hb
            cases a' <;> simp [isPl] at hp'
            · rename_i k g p i'
              have hk' := hk k g p i' rfl
              simp only [put1] at hz
              split at hz
              · split at hz
                · simp only [Option.some.injEq] at hz
                  subst hz
                  rw [XF.set_ne _ _ hne]
                  split
                  · rw [XF.set_ne _ _ (Ne.symm hk')]
                  · rw [XF.upd_ne _ _ (Ne.symm hk')]
                · cases hz
              · cases hz
            · rename_i b g i'
              have hb' := hb b g i' rfl
              simp only [put1] at hz
              split at hz
              · simp only [Option.some.injEq] at hz
                subst hz
                rw [XF.set_ne _ _ hne, XF.set_ne _ _ (Ne.symm hb')]
              · cases hz
          rw [this _ _ _ h1 (by cases a <;> simp [isPl] at hpl' <;> rfl) ?_ ?_]
          · rw [XF.set_ne _ _ hne, XF.set_self]
          · intro k g p i' e hk
            -- the place lies in the hand: then no node is there
            subst hk
            cases a <;> simp [isPl] at hpl' <;> simp [shiftA] at e
            obtain ⟨rfl, rfl, rfl, rfl⟩ := e
            simp only [shiftA, put1] at h1
            split at h1
            · rename_i hc
              have := hc.2.2.2
              rw [XF.set_ne _ _ hne, XF.set_self, ownQ_agg] at this
              cases this
            · cases h1
          · intro b g i' e hk
            cases a <;> simp [isPl] at hpl' <;> simp [shiftA] at e
            obtain ⟨rfl, rfl, rfl⟩ := e
            simp only [shiftA, put1] at h1
            split at h1
            · rename_i hc
              have := hc.2.1
              omega
            · cases h1
        have hrec := putA_ok cs (i + 1) XL1 _ _ xs (pre ++ [x]) a b o X' R2 hH2 (by simp [show H ≠ H + 1 by decide, hrg]) (by simp [hpre]) (by simpa using hlen) (ha.keepP (K1.trans K2) hpl' _) (fun _ => hpl') (by rw [e2]; exact hp)
        obtain ⟨XL, rg', w', f1, f2, f3, f4⟩ := hrec
        refine ⟨XL, rg', w', f1, f2, ?_, fun t ht => by rw [f4 t ht]; simp [show t ≠ H + 1 by omega]⟩
        simp only [storeCells, Sem.run_bind, Addr.add_lit]
        rw [run_store_at l1 l2 l3, Result.andThen_ok]
        exact f3
end
end Go.OT
