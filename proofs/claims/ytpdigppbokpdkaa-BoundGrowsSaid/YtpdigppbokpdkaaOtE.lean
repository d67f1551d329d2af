/-
  The primitive changes of a state, further: out of a place, into a place, a new box.
-/
import Derived.Test.YtpdigppbokpdkaaOtD
namespace Go.OT

theorem setN_ne_non {v u : AL} {p : List Nat} (hu : u ≠ .non) (hv : v ≠ .non) : setN v p u ≠ .non := by
  cases p with
  | nil => simpa [setN] using hu
  | cons i p =>
    simp only [setN]
    cases v <;> simp [AV.cells?, AV.withCells] at hv ⊢

theorem isNode_ne_non {L : Type} {v : AV L} (h : v.isNode = true) : v ≠ .non := by rintro rfl; simp [AV.isNode] at h

theorem getN_isNode {v N : AL} {p : List Nat} (h : getN v p = some N) (hn : N.isNode = true) : v.isNode = true := by
  cases p with
  | nil => simp only [getN, Option.some.injEq] at h; rwa [h]
  | cons i p => cases v <;> simp [getN, AV.cells?] at h <;> rfl

/-- A tree is taken out of its place, into register h. -/
theorem RelL.takeP {C : Ctx} {X : XF LO} {β : Nat → Nat × Nat} {I : ASet} {rg : Nat → Value} {w : World} (R : RelL C X β I rg w) (k h : Nat) (hhl : h < 10000) (p : List Nat) (hk : k ≠ 100 * h)
    {N v : AL} {x : Value} (hg : getN (X k).2 p = some N) (hn : N.isNode = true) (ho : ownQ (X k).2 p = true) (hm : Mem w I v) (hs : Sep v) (hf : ∀ b o, fp v b o → fp N b o)
    (hr : RR X β v x) :
    RelL C ((X.set k (setN (X k).2 p .dead)).set (100 * h) v) β I (fun s => if s = h then x else rg s) w := by
  have hKk := R.key k
  have r := repl p (X k).2 hKk.mem hKk.sep ho hg
  have hK := (keeps_set X β k (setN (X k).2 p .dead)).trans (keeps_set _ β (100 * h) v)
  have hx1 : ((X.set k (setN (X k).2 p .dead)).set (100 * h) v) k = (nx (X k), setN (X k).2 p .dead) := by rw [XF.set_ne _ _ hk, XF.set_self]
  have hx2 : ((X.set k (setN (X k).2 p .dead)).set (100 * h) v) (100 * h) = (nx (X (100 * h)), v) := by rw [XF.set_self, XF.set_ne _ _ (Ne.symm hk)]
  have hnon : (X k).2 ≠ .non := isNode_ne_non (getN_isNode hg hn)
  have hfps : ∀ b o, fp (setN (X k).2 p .dead) b o → fp (X k).2 b o ∧ ¬ fp N b o := fun b o hb => (r.fps .dead b o hb).elim id (fun hb => by simp [fp] at hb)
  have hlive : ∀ b o, kfp β ((X.set k (setN (X k).2 p .dead)).set (100 * h) v) k b o → kfp β X k b o ∧ ¬ fp N b o := by
    intro b o hb
    rcases hb with hb | ⟨h1, h2, h3⟩
    · rw [hx1] at hb
      have := hfps b o hb
      exact ⟨.inl this.1, this.2⟩
    · refine ⟨.inr ⟨h1, hnon, h3⟩, fun hb => (hKk.cell h1 hnon).2 ?_⟩
      have := r.sub b o hb
      rwa [h3.1, h3.2] at this
  refine R.change (fun j => j = k ∨ j = 100 * h) ?_ hK (fun _ _ _ => .inl rfl) (fun _ _ => rfl) ?_ ?_ ?_ ?_ ?_ (fun _ _ h => h) (fun _ _ h => .inl h) ((Frame.refl _ w).mono fun _ _ _ h => h)
  · intro j hj; rw [XF.set_ne _ _ (fun e => hj (.inr e)), XF.set_ne _ _ (fun e => hj (.inl e))]
  · intro s hs'; rw [if_neg (fun e => hs'.elim (fun hs' => hs' (.inr (by rw [e]))) (fun hs' => by omega))]
  · rintro s (e | e)
    · rw [e, hx1, if_neg (by rintro rfl; exact hk e.symm)]
      have hreg := R.reg s
      rw [e] at hreg
      by_cases hp : p = []
      · subst hp; simp [setN, RR]
      · have hnode := getN_isNode hg hn
        have hcr : CR (setN (X k).2 p .dead) (rg s) := by
          rw [CR_setN hp]
          generalize (X k).2 = V at hreg hnode
          cases V <;> simp [AV.isNode] at hnode <;> simpa [RR] using hreg
        exact RR_of_CR hcr
    · have e : s = h := by omega
      subst e
      rw [hx2, if_pos rfl]
      exact RR_keep hK _ _ hr
  · rintro j (rfl | rfl)
    · refine ⟨?_, ?_, ?_, fun b o hb => hKk.live b o (hlive b o hb).1, ?_⟩
      · rw [hx1]
        refine r.mems .dead w I (by simp [Mem]) (fun b o hb => ?_) (fun _ _ _ _ _ => rfl) (fun _ _ hI => ⟨rfl, hI⟩)
        by_cases hp : p = []
        · subst hp; simp [addr] at hb
        · obtain ⟨b', o', y, h1, _, _, h4, _⟩ := r.ad hp
          rw [hb] at h1; cases h1
          exact ⟨y, h4, by simp [CR]⟩
      · rw [hx1]
        exact r.seps .dead (by simp [Sep]) (fun b o hb => by simp [fp] at hb)
      · intro hc _
        obtain ⟨⟨y, hy, hcr⟩, hnf⟩ := hKk.cell hc hnon
        rw [hx1]
        refine ⟨⟨y, hy, ?_⟩, fun hb => hnf (hfps _ _ hb).1⟩
        by_cases hp : p = []
        · subst hp; simp [setN, CR]
        · rw [CR_setN hp]; exact hcr
      · intro h99; exact absurd (hKk.last h99) hnon
    · refine ⟨by rw [hx2]; exact hm, by rw [hx2]; exact hs, fun hc => absurd hc (isCell_reg h), ?_, fun h => by omega⟩
      intro b o hb
      rcases hb with hb | ⟨hc, _⟩
      · rw [hx2] at hb; exact hKk.live b o (.inl (r.sub b o (hf b o hb)))
      · exact absurd hc (isCell_reg h)
  · have key : ∀ b o, kfp β ((X.set k (setN (X k).2 p .dead)).set (100 * h) v) k b o → kfp β ((X.set k (setN (X k).2 p .dead)).set (100 * h) v) (100 * h) b o → False := by
      intro b o h1 h2
      rcases h2 with h2 | ⟨hc, _⟩
      · rw [hx2] at h2; exact (hlive b o h1).2 (hf b o h2)
      · exact isCell_reg h hc
    rintro j j' (rfl | rfl) (rfl | rfl) hne b o h1 h2
    · exact hne rfl
    · exact key b o h1 h2
    · exact key b o h2 h1
    · exact hne rfl
  · rintro j (rfl | rfl) b o hb
    · exact .inl ⟨_, .inl rfl, (hlive b o hb).1⟩
    · rcases hb with hb | ⟨hc, _⟩
      · rw [hx2] at hb; exact .inl ⟨k, .inl rfl, .inl (r.sub b o (hf b o hb))⟩
      · exact absurd hc (isCell_reg h)

/-! ### A store into one cell -/
theorem frame_setCell (K : ASet) (w : World) (b o : Nat) (x : Value) (hk : K b o) (hs : (w.at b o).isSome) : Frame K w (w.setCell ⟨b, o, none⟩ x) := by
  have hne : ∀ b', b' ≠ b → (w.setCell ⟨b, o, none⟩ x).heap[b']? = w.heap[b']? := fun b' h => by
    simp only [World.setCell, Array.getElem?_modify]; rw [if_neg (by omega)]
  refine ⟨rfl, rfl, rfl, by simp [World.setCell], fun b' _ hn => hne b' (fun e => hn o (e ▸ hk)), ?_, ?_, ?_⟩
  · intro b' o' _ hn
    by_cases e : b' = b
    · subst e
      have hoo : o' ≠ o := fun e => hn (e ▸ hk)
      simp only [World.at, World.cell?, World.setCell, Array.getElem?_modify]
      rw [if_pos trivial]
      cases w.heap[b']? with
      | none => rfl
      | some ob => cases ob <;> simp [Array.getElem?_setIfInBounds_ne (Ne.symm hoo)]
    · simp only [World.at, World.cell?, hne b' e]
  · intro b' o' _
    by_cases e : b' = b
    · subst e
      simp only [World.at, World.cell?, World.setCell, Array.getElem?_modify]
      rw [if_pos trivial]
      cases w.heap[b']? with
      | none => rfl
      | some ob =>
        cases ob <;> simp
        rename_i c _ _
        by_cases h : o' < c.size <;> simp [h]
    · simp only [World.at, World.cell?, hne b' e]
  · intro b' o' _
    by_cases e : b' = b
    · subst e
      simp only [World.fz, World.frozen?, World.setCell, Array.getElem?_modify]
      rw [if_pos trivial]
      cases w.heap[b']? with
      | none => rfl
      | some ob => cases ob <;> simp
    · simp only [World.fz, World.frozen?, hne b' e]

theorem at_setCell_self (w : World) (b o : Nat) (x : Value) (hs : (w.at b o).isSome) : (w.setCell ⟨b, o, none⟩ x).at b o = some x := by
  simp only [World.at, World.cell?] at hs
  simp only [World.at, World.cell?, World.setCell, Array.getElem?_modify]
  rw [if_pos trivial]
  cases hb : w.heap[b]? with
  | none => simp [hb] at hs
  | some ob =>
    cases ob <;> simp [hb] at hs ⊢
    simp [hs]

def treeV {L : Type} : AV L → Bool
  | .sc v => v.oneCell'
  | .sl _ _ _ _ _ => true
  | .bx _ _ _ => true
  | _ => false

theorem er_treeV (v : AL) : treeV (er v) = treeV v := by cases v <;> rfl

theorem CR_of_RR {X : XF LO} {β : Nat → Nat × Nat} {v : AL} {x : Value} (ht : treeV v = true) (h : RR X β v x) : CR v x := by
  cases v <;> simp [treeV] at ht <;> simpa [RR, CR] using h

/-- From register h into the cell at path q of the tree of key k. -/
theorem RelL.putT {C : Ctx} {X : XF LO} {β : Nat → Nat × Nat} {I : ASet} {rg : Nat → Value} {w : World} (R : RelL C X β I rg w) (k h : Nat) (q : List Nat) (hk : k ≠ 100 * h) (hq : q ≠ [])
    {u : AL} (hg : getN (X k).2 q = some u) (ho : ownQ (X k).2 q = true) (ht : treeV (X (100 * h)).2 = true) (bump : Bool) (hb : bump = false → u.isNode = false) :
    ∃ b o, addr (X k).2 q = some (b, o) ∧ kfp β X k b o ∧
    RelL C (((if bump then X.set k (setN (X k).2 q (X (100 * h)).2) else X.upd k (setN (X k).2 q (X (100 * h)).2))).set (100 * h) .non) β I rg (w.setCell ⟨b, o, none⟩ (rg h)) := by
  have hKk := R.key k
  have hKh := R.key (100 * h)
  have r := repl q (X k).2 hKk.mem hKk.sep ho hg
  obtain ⟨b, o, y0, had, hfb, hnu, hy0, _⟩ := r.ad hq
  refine ⟨b, o, had, .inl hfb, ?_⟩
  generalize hv : (X (100 * h)).2 = v at *
  have hcr : CR v (rg h) := CR_of_RR ht (by have := R.reg h; rwa [hv] at this)
  have hsome : (w.at b o).isSome := by rw [hy0]; rfl
  have hnode : (X k).2.isNode = true := by
    cases q with
    | nil => exact absurd rfl hq
    | cons i q => generalize (X k).2 = V at hg; cases V <;> simp [getN, AV.cells?] at hg <;> rfl
  have hnon : (X k).2 ≠ .non := isNode_ne_non hnode
  generalize hY : (if bump then X.set k (setN (X k).2 q v) else X.upd k (setN (X k).2 q v)) = Y
  have hYk : (Y k).2 = setN (X k).2 q v := by subst hY; cases bump <;> simp [XF.set, XF.upd]
  have hYne : ∀ j, j ≠ k → Y j = X j := by intro j hj; subst hY; cases bump <;> simp [XF.set, XF.upd, hj]
  have hKY : Keeps X Y β β := by
    subst hY
    cases bump with
    | true => exact keeps_set X β k _
    | false =>
      refine ⟨fun j => ?_, fun j _ p a ha => ?_, fun _ _ => rfl⟩
      · by_cases e : j = k
        · subst e; simp [XF.upd]
        · simp [XF.upd, e]
      · by_cases e : j = k
        · subst e
          simp only [Bool.false_eq_true, if_false, XF.upd_self]
          exact hd_setN (hb rfl) q _ hq hg p a ha
        · simp only [Bool.false_eq_true, if_false, XF.upd_ne _ _ e]; exact ha
  have hK := hKY.trans (keeps_set Y β (100 * h) .non)
  have hx1 : (Y.set (100 * h) .non k).2 = setN (X k).2 q v := by rw [XF.set_ne _ _ hk, hYk]
  have hx2 : (Y.set (100 * h) .non (100 * h)).2 = .non := by rw [XF.set_self]
  have hdis : ∀ b' o', fp v b' o' → fp (X k).2 b' o' → False := fun b' o' h1 h2 => R.disj (100 * h) k (Ne.symm hk) b' o' (.inl (by rw [hv]; exact h1)) (.inl h2)
  have hw := frame_setCell (fun b o => ∃ j, (j = k ∨ j = 100 * h) ∧ kfp β X j b o) w b o (rg h) ⟨k, .inl rfl, .inl hfb⟩ hsome
  have hat : ∀ b' o', (b', o') ≠ (b, o) → (w.setCell ⟨b, o, none⟩ (rg h)).at b' o' = w.at b' o' := by
    intro b' o' hne
    by_cases hlt : b' < w.heap.size
    · exact (frame_setCell (fun b1 o1 => (b1, o1) = (b, o)) w b o (rg h) rfl hsome).cell b' o' hlt hne
    · have h1 : w.heap[b']? = none := Array.getElem?_eq_none (by omega)
      have h2 : (w.setCell ⟨b, o, none⟩ (rg h)).heap[b']? = none := Array.getElem?_eq_none (by simp [World.setCell]; omega)
      simp [World.at, World.cell?, h1, h2]
  have hsubk : ∀ b' o', kfp β (Y.set (100 * h) .non) k b' o' → kfp β X k b' o' ∨ kfp β X (100 * h) b' o' := by
    intro b' o' hb'
    rcases hb' with hb' | ⟨h1, _, h3⟩
    · rw [hx1] at hb'
      rcases r.fps v b' o' hb' with h | h
      · exact .inl (.inl h.1)
      · exact .inr (.inl (by rw [hv]; exact h))
    · exact .inl (.inr ⟨h1, hnon, h3⟩)
  have hnoh : ∀ b' o', ¬ kfp β (Y.set (100 * h) .non) (100 * h) b' o' := by
    intro b' o' hb'
    rcases hb' with hb' | ⟨hc, _⟩
    · rw [hx2] at hb'; simp [fp] at hb'
    · exact isCell_reg h hc
  refine R.change (fun j => j = k ∨ j = 100 * h) ?_ hK (fun _ _ _ => .inl rfl) (fun _ _ => rfl) (fun _ _ => rfl) ?_ ?_ ?_ ?_ (fun _ _ h => h) (fun _ _ h => .inl h) hw
  · intro j hj; rw [XF.set_ne _ _ (fun e => hj (.inr e)), hYne j (fun e => hj (.inl e))]
  · rintro s (e | e)
    · rw [e, hx1]
      have hreg := R.reg s
      rw [e] at hreg
      refine RR_of_CR ((CR_setN hq).2 ?_)
      generalize (X k).2 = V at hreg hnode
      cases V <;> simp [AV.isNode] at hnode <;> simpa [RR] using hreg
    · rw [e, hx2]; simp [RR]
  · rintro j (rfl | rfl)
    · refine ⟨?_, ?_, ?_, ?_, ?_⟩
      · rw [hx1]
        refine r.mems v _ I ?_ ?_ ?_ ?_
        · refine Mem_frame v (hv ▸ hKh.mem) (fun b' o' hb' => hat b' o' ?_) (fun b' o' hI => ⟨hat b' o' ?_, hI⟩)
          · intro e; cases e; exact hdis b o hb' hfb
          · intro e; cases e; exact (R.imm b o hI).2 j (.inl hfb)
        · intro b' o' hb'
          rw [had] at hb'; cases hb'
          exact ⟨rg h, at_setCell_self w b o _ hsome, hcr⟩
        · intro b' o' _ _ hne
          exact hat b' o' (fun e => hne (by rw [had, ← e]))
        · intro b' o' hI
          exact ⟨hat b' o' (fun e => by cases e; exact (R.imm b o hI).2 j (.inl hfb)), hI⟩
      · rw [hx1]
        exact r.seps v (by rw [← hv]; exact hKh.sep) (fun b' o' h1 h2 => (hdis b' o' h1 h2).elim)
      · intro hc _
        obtain ⟨⟨y, hy, hcy⟩, hnf⟩ := hKk.cell hc hnon
        rw [hx1]
        refine ⟨⟨y, ?_, (CR_setN hq).2 hcy⟩, ?_⟩
        · rw [hat _ _ (fun e => hnf (by cases e; exact hfb))]; exact hy
        · intro hb'
          rcases r.fps v _ _ hb' with h1 | h1
          · exact hnf h1.1
          · exact R.disj j (100 * h) hk _ _ (.inr ⟨hc, hnon, rfl, rfl⟩) (.inl (by rw [hv]; exact h1))
      · intro b' o' hb'
        have hl : b' < w.heap.size ∧ w.fz b' o' = false ∧ (w.at b' o').isSome := by
          rcases hsubk b' o' hb' with h1 | h1
          · exact hKk.live b' o' h1
          · exact hKh.live b' o' h1
        exact ⟨Nat.lt_of_lt_of_le hl.1 hw.size, by rw [hw.fz b' o' hl.1]; exact hl.2.1, by rw [hw.some b' o' hl.1]; exact hl.2.2⟩
      · intro h99; exact absurd (hKk.last h99) hnon
    · refine ⟨by rw [hx2]; simp [Mem], by rw [hx2]; simp [Sep], fun hc => absurd hc (isCell_reg h), fun b' o' hb' => absurd hb' (hnoh b' o'), fun h => by omega⟩
  · rintro j j' (rfl | rfl) (rfl | rfl) hne b' o' h1 h2
    · exact hne rfl
    · exact hnoh b' o' h2
    · exact hnoh b' o' h1
    · exact hne rfl
  · rintro j (rfl | rfl) b' o' hb'
    · rcases hsubk b' o' hb' with h1 | h1
      · exact .inl ⟨j, .inl rfl, h1⟩
      · exact .inl ⟨100 * h, .inr rfl, h1⟩
    · exact absurd hb' (hnoh b' o')

/-- From register h into a box's cell. -/
theorem RelL.putC {C : Ctx} {X : XF LO} {β : Nat → Nat × Nat} {I : ASet} {rg : Nat → Value} {w : World} (R : RelL C X β I rg w) (k h : Nat) (hk : isCell k)
    (hn : (X k).2 ≠ .non) (ht : treeV (X (100 * h)).2 = true) :
    kfp β X k (β (k / 100)).1 ((β (k / 100)).2 + (k % 100 - 1)) ∧
    RelL C ((X.set k (X (100 * h)).2).set (100 * h) .non) β I rg (w.setCell ⟨(β (k / 100)).1, (β (k / 100)).2 + (k % 100 - 1), none⟩ (rg h)) := by
  have hkh : k ≠ 100 * h := fun e => isCell_reg h (e ▸ hk)
  have hKk := R.key k
  have hKh := R.key (100 * h)
  obtain ⟨⟨y0, hy0, _⟩, hnf⟩ := hKk.cell hk hn
  generalize hb : (β (k / 100)).1 = b at *
  generalize ho : (β (k / 100)).2 + (k % 100 - 1) = o at *
  have hkc : kfp β X k b o := .inr ⟨hk, hn, hb.symm, ho.symm⟩
  refine ⟨hkc, ?_⟩
  generalize hv : (X (100 * h)).2 = v at *
  have hcr : CR v (rg h) := CR_of_RR ht (by have := R.reg h; rwa [hv] at this)
  have hsome : (w.at b o).isSome := by rw [hy0]; rfl
  have hvn : v ≠ .non := by rintro rfl; simp [treeV] at ht
  have hK := (keeps_set X β k v).trans (keeps_set _ β (100 * h) .non)
  have hx1 : ((X.set k v).set (100 * h) .non k).2 = v := by rw [XF.set_ne _ _ hkh, XF.set_self]
  have hx2 : ((X.set k v).set (100 * h) .non (100 * h)).2 = .non := by rw [XF.set_self]
  have hfv : ∀ b' o', fp v b' o' → kfp β X (100 * h) b' o' := fun b' o' h' => .inl (by rw [hv]; exact h')
  have hvb : ¬ fp v b o := fun h' => R.disj k (100 * h) hkh b o hkc (hfv b o h')
  have hw := frame_setCell (fun b o => ∃ j, (j = k ∨ j = 100 * h) ∧ kfp β X j b o) w b o (rg h) ⟨k, .inl rfl, hkc⟩ hsome
  have hat : ∀ b' o', (b', o') ≠ (b, o) → (w.setCell ⟨b, o, none⟩ (rg h)).at b' o' = w.at b' o' := by
    intro b' o' hne
    by_cases hlt : b' < w.heap.size
    · exact (frame_setCell (fun b1 o1 => (b1, o1) = (b, o)) w b o (rg h) rfl hsome).cell b' o' hlt hne
    · have h1 : w.heap[b']? = none := Array.getElem?_eq_none (by omega)
      have h2 : (w.setCell ⟨b, o, none⟩ (rg h)).heap[b']? = none := Array.getElem?_eq_none (by simp [World.setCell]; omega)
      simp [World.at, World.cell?, h1, h2]
  have hsubk : ∀ b' o', kfp β ((X.set k v).set (100 * h) .non) k b' o' → (b' = b ∧ o' = o) ∨ fp v b' o' := by
    intro b' o' hb'
    rcases hb' with hb' | ⟨_, _, h3⟩
    · rw [hx1] at hb'; exact .inr hb'
    · exact .inl ⟨h3.1.trans hb, h3.2.trans ho⟩
  have hnoh : ∀ b' o', ¬ kfp β ((X.set k v).set (100 * h) .non) (100 * h) b' o' := by
    intro b' o' hb'
    rcases hb' with hb' | ⟨hc, _⟩
    · rw [hx2] at hb'; simp [fp] at hb'
    · exact isCell_reg h hc
  have hsub2 : ∀ b' o', kfp β ((X.set k v).set (100 * h) .non) k b' o' → ∃ j, (j = k ∨ j = 100 * h) ∧ kfp β X j b' o' := by
    intro b' o' hb'
    rcases hsubk b' o' hb' with ⟨rfl, rfl⟩ | h'
    · exact ⟨k, .inl rfl, hkc⟩
    · exact ⟨100 * h, .inr rfl, hfv b' o' h'⟩
  refine R.change (fun j => j = k ∨ j = 100 * h) ?_ hK (fun _ _ _ => .inl rfl) (fun _ _ => rfl) (fun _ _ => rfl) ?_ ?_ ?_ ?_ (fun _ _ h => h) (fun _ _ h => .inl h) hw
  · intro j hj; rw [XF.set_ne _ _ (fun e => hj (.inr e)), XF.set_ne _ _ (fun e => hj (.inl e))]
  · rintro s (e | e)
    · exact absurd (e ▸ hk) (isCell_reg s)
    · rw [e, hx2]; simp [RR]
  · rintro j (rfl | rfl)
    · refine ⟨?_, by rw [hx1, ← hv]; exact hKh.sep, ?_, ?_, ?_⟩
      · rw [hx1]
        refine Mem_frame v (hv ▸ hKh.mem) (fun b' o' hb' => hat b' o' ?_) (fun b' o' hI => ⟨hat b' o' ?_, hI⟩)
        · intro e; cases e; exact hvb hb'
        · intro e; cases e; exact (R.imm b o hI).2 j hkc
      · intro _ _
        rw [hx1, hb, ho]
        exact ⟨⟨rg h, at_setCell_self w b o _ hsome, hcr⟩, hvb⟩
      · intro b' o' hb'
        obtain ⟨j', hj', hk'⟩ := hsub2 b' o' hb'
        have hl := (R.key j').live b' o' hk'
        exact ⟨Nat.lt_of_lt_of_le hl.1 hw.size, by rw [hw.fz b' o' hl.1]; exact hl.2.1, by rw [hw.some b' o' hl.1]; exact hl.2.2⟩
      · intro h99; exact absurd h99 hk.2
    · exact ⟨by rw [hx2]; simp [Mem], by rw [hx2]; simp [Sep], fun hc => absurd hc (isCell_reg h), fun b' o' hb' => absurd hb' (hnoh b' o'), fun h => by omega⟩
  · rintro j j' (rfl | rfl) (rfl | rfl) hne b' o' h1 h2
    · exact hne rfl
    · exact hnoh b' o' h2
    · exact hnoh b' o' h1
    · exact hne rfl
  · rintro j (rfl | rfl) b' o' hb'
    · exact .inl (hsub2 b' o' hb')
    · exact absurd hb' (hnoh b' o')
end Go.OT
