/-
  A call: what is lent comes back, what else is there stays.
-/
import Derived.Test.YtpdigppbokpdkaaOtQ
set_option linter.unusedSimpArgs false
set_option linter.unusedVariables false
namespace Go.OT

/-! ### Trees that lean on nothing immutable -/
mutual
def noImm {L : Type} : AV L → Bool
  | .sl o _ _ _ cs => o && noImmL cs
  | .bx o _ cs => o && noImmL cs
  | .vptr _ _ => false
  | .agg cs => noImmL cs
  | .tuple cs => noImmL cs
  | .clos _ cs => noImmL cs
  | _ => true
def noImmL {L : Type} : List (AV L) → Bool
  | [] => true
  | c :: cs => noImm c && noImmL cs
end

mutual
theorem er_noImm : ∀ v : AL, noImm (er v) = noImm v
  | .agg cs => by simp only [er, noImm]; exact er_noImmL cs
  | .tuple cs => by simp only [er, noImm]; exact er_noImmL cs
  | .clos _ cs => by simp only [er, noImm]; exact er_noImmL cs
  | .sl _ _ _ _ cs => by simp only [er, noImm]; rw [er_noImmL cs]
  | .bx _ _ cs => by simp only [er, noImm]; rw [er_noImmL cs]
  | .sc _ | .view _ _ _ _ _ | .ptr _ _ _ _ | .bptr _ _ _ | .vptr _ _ | .dead | .non => by simp [er, noImm]
theorem er_noImmL : ∀ vs : List AL, noImmL (erL vs) = noImmL vs
  | [] => rfl
  | v :: vs => by simp only [erL, noImmL, er_noImm v, er_noImmL vs]
end

mutual
theorem Mem_noImm {w : World} {I I' : ASet} : ∀ (v : AL), noImm v = true → Mem w I v → Mem w I' v
  | .sl own none sz n cs, _, h => by simpa [Mem] using h
  | .sl true (some l) sz n cs, hn, h => by
    simp only [noImm, Bool.true_and] at hn
    simp only [Mem] at h ⊢
    exact ⟨h.1, h.2.1, MemL_noImm cs l.b l.o hn h.2.2⟩
  | .sl false (some l) sz n cs, hn, _ => by simp [noImm] at hn
  | .bx true (some l) cs, hn, h => by
    simp only [noImm, Bool.true_and] at hn
    simp only [Mem] at h ⊢
    exact MemL_noImm cs l.b l.o hn h
  | .bx false (some l) cs, hn, _ => by simp [noImm] at hn
  | .bx own none cs, _, h => by simp [Mem] at h
  | .vptr _ _, hn, _ => by simp [noImm] at hn
  | .agg cs, hn, h => by simp only [noImm, Mem] at hn h ⊢; exact MemA_noImm cs hn h
  | .tuple cs, hn, h => by simp only [noImm, Mem] at hn h ⊢; exact MemA_noImm cs hn h
  | .clos _ cs, hn, h => by simp only [noImm, Mem] at hn h ⊢; exact ⟨MemA_noImm cs hn h.1, h.2⟩
  | .sc _, _, _ | .view _ _ _ _ _, _, _ | .ptr _ _ _ _, _, _ | .bptr _ _ _, _, _ | .dead, _, _ | .non, _, _ => by simp [Mem]
theorem MemL_noImm {w : World} {I I' : ASet} : ∀ (cs : List AL) (b o : Nat), noImmL cs = true → MemL w I true cs b o → MemL w I' true cs b o
  | [], _, _, _, _ => by simp [MemL]
  | c :: cs, b, o, hn, h => by
    simp only [noImmL, Bool.and_eq_true] at hn
    simp only [MemL] at h ⊢
    exact ⟨h.1, Mem_noImm c hn.1 h.2.1, fun e => by simp at e, MemL_noImm cs b (o + 1) hn.2 h.2.2.2⟩
theorem MemA_noImm {w : World} {I I' : ASet} : ∀ (cs : List AL), noImmL cs = true → MemA w I cs → MemA w I' cs
  | [], _, _ => by simp [MemA]
  | c :: cs, hn, h => by
    simp only [noImmL, Bool.and_eq_true] at hn
    simp only [MemA] at h ⊢
    exact ⟨Mem_noImm c hn.1 h.1, MemA_noImm cs hn.2 h.2⟩
end

/-! ### Lending to be read -/
mutual
def lend {L : Type} : AV L → AV L
  | .sl _ l s n cs => .sl false l s n (lendL cs)
  | .bx _ l cs => .bx false l (lendL cs)
  | .agg cs => .agg (lendL cs)
  | .tuple cs => .tuple (lendL cs)
  | v => v
def lendL {L : Type} : List (AV L) → List (AV L)
  | [] => []
  | c :: cs => lend c :: lendL cs
end

theorem lendL_eq {L : Type} (cs : List (AV L)) : lendL cs = cs.map lend := by
  induction cs with
  | nil => rfl
  | cons c cs ih => simp [lendL, ih]

mutual
theorem er_lend : ∀ v : AL, er (lend v) = lend (er v)
  | .agg cs => by simp only [er, lend]; rw [er_lendL cs]
  | .tuple cs => by simp only [er, lend]; rw [er_lendL cs]
  | .sl _ _ _ _ cs => by simp only [er, lend]; rw [er_lendL cs]
  | .bx _ _ cs => by simp only [er, lend]; rw [er_lendL cs]
  | .clos _ _ | .sc _ | .view _ _ _ _ _ | .ptr _ _ _ _ | .bptr _ _ _ | .vptr _ _ | .dead | .non => by simp [er, lend]
theorem er_lendL : ∀ vs : List AL, erL (lendL vs) = lendL (erL vs)
  | [] => rfl
  | v :: vs => by simp only [erL, lendL, er_lend v, er_lendL vs]
end

theorem CR_lend {v : AL} {x : Value} (h : CR v x) : CR (lend v) x := by
  cases v with
  | sl o l s n cs => cases l <;> simpa [lend, CR] using h
  | bx o l cs =>
    cases l with
    | none => simp [CR] at h
    | some l => simpa [lend, CR] using h
  | agg cs => simp [CR] at h
  | tuple cs => simp [CR] at h
  | _ => simpa [lend] using h

mutual
theorem fp_lend : ∀ (v : AL) (b o : Nat), ¬ fp (lend v) b o
  | .agg cs, b, o, h => by simp only [lend, fp] at h; exact fpL_lend cs b o h
  | .tuple cs, b, o, h => by simp only [lend, fp] at h; exact fpL_lend cs b o h
  | .sl _ _ _ _ cs, b, o, h => by simp [lend, fp] at h
  | .bx _ _ cs, b, o, h => by simp [lend, fp] at h
  | .clos _ _, _, _, h | .sc _, _, _, h | .view _ _ _ _ _, _, _, h | .ptr _ _ _ _, _, _, h | .bptr _ _ _, _, _, h | .vptr _ _, _, _, h | .dead, _, _, h | .non, _, _, h => by simp [lend, fp] at h
theorem fpL_lend : ∀ (vs : List AL) (b o : Nat), ¬ fpL (lendL vs) b o
  | [], _, _, h => by simp [lendL, fpL] at h
  | v :: vs, b, o, h => by
    simp only [lendL, fpL] at h
    exact h.elim (fp_lend v b o) (fpL_lend vs b o)
end

mutual
/-- What is owned may be read as what is never written, as long as it is lent. -/
theorem Mem_lend {w : World} {I I' : ASet} : ∀ (v : AL), Mem w I v → (∀ b o, I b o → I' b o) → (∀ b o, fp v b o → I' b o) → Mem w I' (lend v)
  | .sl own none sz n cs, h, _, _ => by simp only [Mem] at h; simp [lend, Mem, h.1, h.2, lendL]
  | .sl true (some l) sz n cs, h, hi, hf => by
    simp only [Mem] at h
    simp only [lend, Mem]
    refine ⟨by rw [lendL_eq]; simpa using h.1, h.2.1, MemL_lend true cs l.b l.o h.2.2 hi (fun b o hb => hf b o (by simp [fp, hb])) (fun _ i hlt => hf _ _ ?_)⟩
    simp only [fp]
    have := Nat.mul_le_mul_right sz h.2.1
    exact .inl ⟨trivial, by omega, by omega⟩
  | .sl false (some l) sz n cs, h, hi, hf => by
    simp only [Mem] at h
    simp only [lend, Mem]
    exact ⟨by rw [lendL_eq]; simpa using h.1, h.2.1, MemL_lend false cs l.b l.o h.2.2 hi (fun b o hb => by
      obtain ⟨c, hc, hcb⟩ := fpL_iff.1 hb
      obtain ⟨i, hi'⟩ := List.getElem?_of_mem hc
      exact absurd hcb (((MemL_iff.1 h.2.2 i c hi').2.2 rfl).2 b o)) (fun e => by simp at e)⟩
  | .bx true (some l) cs, h, hi, hf => by
    simp only [Mem] at h
    simp only [lend, Mem]
    exact MemL_lend true cs l.b l.o h hi (fun b o hb => hf b o (by simp [fp, hb])) (fun _ i hlt => hf _ _ (by simp only [fp]; exact .inl ⟨trivial, by omega, by omega⟩))
  | .bx false (some l) cs, h, hi, hf => by
    simp only [Mem] at h
    simp only [lend, Mem]
    exact MemL_lend false cs l.b l.o h hi (fun b o hb => by
      obtain ⟨c, hc, hcb⟩ := fpL_iff.1 hb
      obtain ⟨i, hi'⟩ := List.getElem?_of_mem hc
      exact absurd hcb (((MemL_iff.1 h i c hi').2.2 rfl).2 b o)) (fun e => by simp at e)
  | .bx own none cs, h, _, _ => by simp [Mem] at h
  | .vptr (some l) cs, h, hi, hf => by
    simp only [Mem] at h
    simp only [lend, Mem]
    refine MemL_iff.2 fun i c hc => ?_
    have := MemL_iff.1 h i c hc
    exact ⟨this.1, Mem_mono c this.2.1 hi, fun e => ⟨hi _ _ (this.2.2 e).1, (this.2.2 e).2⟩⟩
  | .vptr none cs, h, _, _ => by simp [Mem] at h
  | .agg cs, h, hi, hf => by
    simp only [Mem] at h
    simp only [lend, Mem]
    exact MemA_lend cs h hi (fun b o hb => hf b o (by simpa [fp] using hb))
  | .tuple cs, h, hi, hf => by
    simp only [Mem] at h
    simp only [lend, Mem]
    exact MemA_lend cs h hi (fun b o hb => hf b o (by simpa [fp] using hb))
  | .clos f cs, h, hi, _ => by
    simp only [Mem] at h
    simp only [lend, Mem]
    exact ⟨MemA_iff.2 fun c hc => Mem_mono c (MemA_iff.1 h.1 c hc) hi, h.2⟩
  | .sc _, _, _, _ | .view _ _ _ _ _, _, _, _ | .ptr _ _ _ _, _, _, _ | .bptr _ _ _, _, _, _ | .dead, _, _, _ | .non, _, _, _ => by simp [lend, Mem]
theorem MemL_lend {w : World} {I I' : ASet} (own : Bool) : ∀ (cs : List AL) (b o : Nat), MemL w I own cs b o → (∀ b o, I b o → I' b o) → (∀ b o, fpL cs b o → I' b o) → (own = true → ∀ i, i < cs.length → I' b (o + i)) → MemL w I' false (lendL cs) b o
  | [], _, _, _, _, _, _ => by simp [lendL, MemL]
  | c :: cs, b, o, h, hi, hf, ha => by
    simp only [MemL] at h
    simp only [lendL, MemL]
    obtain ⟨⟨y, hy, hc⟩, hm, hn, hr⟩ := h
    refine ⟨⟨y, hy, CR_lend hc⟩, Mem_lend c hm hi (fun b o hb => hf b o (by simp [fpL, hb])), fun _ => ⟨?_, fun b' o' => fp_lend c b' o'⟩, MemL_lend own cs b (o + 1) hr hi (fun b o hb => hf b o (by simp [fpL, hb])) (fun e i hlt => ?_)⟩
    · cases own with
      | true => simpa using ha rfl 0 (by simp)
      | false => exact hi _ _ (hn rfl).1
    · have := ha e (i + 1) (by simp; omega)
      rwa [Nat.add_assoc, Nat.add_comm 1 i]
theorem MemA_lend {w : World} {I I' : ASet} : ∀ (cs : List AL), MemA w I cs → (∀ b o, I b o → I' b o) → (∀ b o, fpL cs b o → I' b o) → MemA w I' (lendL cs)
  | [], _, _, _ => by simp [lendL, MemA]
  | c :: cs, h, hi, hf => by
    simp only [MemA] at h
    simp only [lendL, MemA]
    exact ⟨Mem_lend c h.1 hi (fun b o hb => hf b o (by simp [fpL, hb])), MemA_lend cs h.2 hi (fun b o hb => hf b o (by simp [fpL, hb]))⟩
theorem Mem_mono {w : World} {I I' : ASet} : ∀ (v : AL), Mem w I v → (∀ b o, I b o → I' b o) → Mem w I' v :=
  fun v h hi => Mem_frame v h (fun _ _ _ => rfl) (fun b o hb => ⟨rfl, hi b o hb⟩)
end

/-! ### What comes back from a call -/
/-- One thing that was lent to be written, at path p of key k: what it was and what it is now. -/
structure Lent where
  k : Nat
  p : List Nat
  N : AL
  N' : AL

structure LentOk (X : XF LO) (I' : ASet) (w' : World) (K0 : ASet) (B : Nat) (e : Lent) : Prop where
  get : getN (X e.k).2 e.p = some e.N
  node : e.N.isNode = true
  own : ownQ (X e.k).2 e.p = true
  hdr : ∀ y, CR e.N y → CR e.N' y
  hdn : e.N'.isNode = true
  mem : Mem w' I' e.N'
  sep : Sep e.N'
  fps : ∀ b o, fp e.N' b o → (K0 b o ∨ B ≤ b) ∧ b < w'.heap.size ∧ w'.fz b o = false ∧ (w'.at b o).isSome ∧ ¬ I' b o

/-- The state behind the call. -/
def back (X : XF LO) : List Lent → XF LO
  | [] => X
  | e :: l => (back X l).set e.k (setN (X e.k).2 e.p e.N')

theorem back_ne {X : XF LO} {l : List Lent} {k : Nat} (h : ∀ e ∈ l, e.k ≠ k) : back X l k = X k := by
  induction l with
  | nil => rfl
  | cons e l ih =>
    simp only [back]
    rw [XF.set_ne _ _ (Ne.symm (h e (by simp))), ih fun e he => h e (by simp [he])]

theorem back_eq {X : XF LO} : ∀ {l : List Lent} {e : Lent}, e ∈ l → (l.map (·.k)).Nodup → back X l e.k = (nx (X e.k), setN (X e.k).2 e.p e.N')
  | a :: l, e, he, hn => by
    simp only [List.map_cons, List.nodup_cons] at hn
    simp only [back]
    rcases List.mem_cons.1 he with rfl | he
    · have hne : ∀ a ∈ l, a.k ≠ e.k := fun a ha h => hn.1 (by rw [← h]; exact List.mem_map_of_mem ha)
      rw [XF.set_self, back_ne hne]
    · have hne : e.k ≠ a.k := fun h => hn.1 (by rw [← h]; exact List.mem_map_of_mem he)
      rw [XF.set_ne _ _ hne, back_eq he hn.2]

theorem nodup_key : ∀ {l : List Lent}, (l.map (·.k)).Nodup → ∀ {e f : Lent}, e ∈ l → f ∈ l → e.k = f.k → e = f
  | a :: l, hn, e, f, he, hf, hk => by
    simp only [List.map_cons, List.nodup_cons] at hn
    rcases List.mem_cons.1 he with e1 | e1
    · rcases List.mem_cons.1 hf with f1 | f1
      · rw [e1, f1]
      · exact absurd (by rw [← e1, hk]; exact List.mem_map_of_mem f1) hn.1
    · rcases List.mem_cons.1 hf with f1 | f1
      · exact absurd (by rw [← f1, ← hk]; exact List.mem_map_of_mem e1) hn.1
      · exact nodup_key hn.2 e1 f1 hk

theorem keeps_back (X : XF LO) (β : Nat → Nat × Nat) : ∀ l : List Lent, Keeps X (back X l) β β
  | [] => Keeps.refl X β
  | e :: l => (keeps_back X β l).trans (keeps_set _ β _ _)

theorem RelL.comeback {C : Ctx} {X : XF LO} {β : Nat → Nat × Nat} {I I' : ASet} {rg : Nat → Value} {w w' : World} (R : RelL C X β I rg w) (l : List Lent) (hn : (l.map (·.k)).Nodup)
    (K0 : ASet) (hl : ∀ e ∈ l, LentOk X I' w' K0 w.heap.size e) (hK : ∀ b o, K0 b o → ∃ e ∈ l, fp e.N b o)
    (hpw : ∀ e ∈ l, ∀ f ∈ l, e.k ≠ f.k → ∀ b o, fp e.N' b o → fp f.N' b o → False)
    (hw : Frame K0 w w') (hI : ∀ b o, I b o → I' b o) (hI' : ∀ b o, I' b o → I b o ∨ (b < w'.heap.size ∧ (K0 b o ∨ w.heap.size ≤ b))) :
    RelL C (back X l) β I' rg w' := by
  have hk0 : ∀ e ∈ l, ∀ b o, fp e.N b o → fp (X e.k).2 b o := fun e he b o hb => (repl e.p (X e.k).2 (R.key e.k).mem (R.key e.k).sep (hl e he).own (hl e he).get).sub b o hb
  have hK' : ∀ b o, K0 b o → ∃ e ∈ l, kfp β X e.k b o := fun b o hb => by
    obtain ⟨e, he, hb⟩ := hK b o hb
    exact ⟨e, he, .inl (hk0 e he b o hb)⟩
  -- what of a key's own is written lies in its lent node
  have hKk : ∀ e ∈ l, ∀ b o, kfp β X e.k b o → K0 b o → fp e.N b o := by
    intro e he b o hb hk
    obtain ⟨f, hf, hfb⟩ := hK b o hk
    by_cases hef : e.k = f.k
    · have : e = f := nodup_key hn he hf hef
      rw [this]; exact hfb
    · exact (R.disj e.k f.k hef b o hb (.inl (hk0 f hf b o hfb))).elim
  refine R.change (fun k => ∃ e ∈ l, e.k = k) ?_ (keeps_back X β l) (fun _ _ _ => .inl rfl) (fun _ _ => rfl) (fun _ _ => rfl) ?_ ?_ ?_ ?_ hI ?_ (hw.mono fun b o _ hb => by
      obtain ⟨e, he, hb⟩ := hK' b o hb
      exact ⟨e.k, ⟨e, he, rfl⟩, hb⟩)
  · intro k hk; exact back_ne fun e he h => hk ⟨e, he, h⟩
  · rintro t ⟨e, he, hek⟩
    have L := hl e he
    rw [← hek, back_eq he hn]
    have hreg := R.reg t
    rw [← hek] at hreg
    have hnode := getN_isNode L.get L.node
    have hcr : CR (X e.k).2 (rg t) := by
      generalize (X e.k).2 = V at hreg hnode
      cases V <;> simp [AV.isNode] at hnode <;> simpa [RR] using hreg
    by_cases hp : e.p = []
    · have hg := L.get
      rw [hp] at hg ⊢
      simp only [getN, Option.some.injEq] at hg
      simp only [setN]
      exact RR_of_CR (L.hdr _ (hg ▸ hcr))
    · exact RR_of_CR ((CR_setN hp).2 hcr)
  · rintro k ⟨e, he, rfl⟩
    have L := hl e he
    have hkey := R.key e.k
    have r := repl e.p (X e.k).2 hkey.mem hkey.sep L.own L.get
    have hx := back_eq (X := X) he hn
    have hnon : (X e.k).2 ≠ .non := isNode_ne_non (getN_isNode L.get L.node)
    have hdisN : ∀ b o, fp e.N' b o → kfp β X e.k b o → fp e.N b o := by
      intro b o h1 h2
      rcases (L.fps b o h1).1 with h | h
      · exact hKk e he b o h2 h
      · have := (hkey.live b o h2).1; omega
    have hkfp : ∀ b o, kfp β (back X l) e.k b o → (kfp β X e.k b o ∧ ¬ fp e.N b o) ∨ fp e.N' b o := by
      intro b o hb
      rcases hb with hb | ⟨h1, _, h3⟩
      · rw [hx] at hb
        rcases r.fps e.N' b o hb with h | h
        · exact .inl ⟨.inl h.1, h.2⟩
        · exact .inr h
      · refine .inl ⟨.inr ⟨h1, hnon, h3⟩, fun h => (hkey.cell h1 hnon).2 ?_⟩
        have := r.sub b o h
        rwa [h3.1, h3.2] at this
    have hsame : ∀ b o, kfp β X e.k b o → ¬ fp e.N b o → w'.at b o = w.at b o := fun b o h1 h2 => hw.cell b o (hkey.live b o h1).1 (fun h => h2 (hKk e he b o h1 h))
    refine ⟨?_, ?_, ?_, ?_, fun h99 => absurd (hkey.last h99) hnon⟩
    · rw [hx]
      refine r.mems e.N' w' I' L.mem (fun b o hb => ?_) (fun b o h1 h2 _ => hsame b o (.inl h1) h2) (fun b o hb => ⟨?_, hI b o hb⟩)
      · by_cases hp : e.p = []
        · rw [hp] at hb; simp [addr] at hb
        · obtain ⟨b', o', y, h1, h2, h3, h4, h5⟩ := r.ad hp
          rw [hb] at h1; cases h1
          exact ⟨y, by rw [hsame b o (.inl h2) h3]; exact h4, L.hdr y h5⟩
      · exact hw.cell b o (R.imm b o hb).1 (fun h => by
          obtain ⟨f, hf, hfb⟩ := hK' b o h
          exact (R.imm b o hb).2 _ hfb)
    · rw [hx]; exact r.seps e.N' L.sep (fun b o h1 h2 => hdisN b o h1 (.inl h2))
    · intro hc _
      obtain ⟨⟨y, hy, hcy⟩, hnf⟩ := hkey.cell hc hnon
      have hA : kfp β X e.k (β (e.k / 100)).1 ((β (e.k / 100)).2 + (e.k % 100 - 1)) := .inr ⟨hc, hnon, rfl, rfl⟩
      have hAN : ¬ fp e.N (β (e.k / 100)).1 ((β (e.k / 100)).2 + (e.k % 100 - 1)) := fun h => hnf (r.sub _ _ h)
      rw [hx]
      refine ⟨⟨y, by rw [hsame _ _ hA hAN]; exact hy, ?_⟩, fun h => ?_⟩
      · by_cases hp : e.p = []
        · have hg := L.get
          rw [hp] at hg ⊢
          simp only [getN, Option.some.injEq] at hg
          simp only [setN]
          exact L.hdr _ (hg ▸ hcy)
        · exact (CR_setN hp).2 hcy
      · rcases r.fps e.N' _ _ h with h' | h'
        · exact hnf h'.1
        · exact hAN (hdisN _ _ h' hA)
    · intro b o hb
      rcases hkfp b o hb with ⟨h1, _⟩ | h1
      · obtain ⟨l1, l2, l3⟩ := hkey.live b o h1
        exact ⟨Nat.lt_of_lt_of_le l1 hw.size, by rw [hw.fz b o l1]; exact l2, by rw [hw.some b o l1]; exact l3⟩
      · have := L.fps b o h1; exact ⟨this.2.1, this.2.2.1, this.2.2.2.1⟩
  · -- no address twice
    have hcase : ∀ e ∈ l, ∀ b o, kfp β (back X l) e.k b o → (kfp β X e.k b o ∧ ¬ fp e.N b o) ∨ fp e.N' b o := by
      intro e he b o hb
      have L := hl e he
      have hkey := R.key e.k
      have r := repl e.p (X e.k).2 hkey.mem hkey.sep L.own L.get
      have hnon : (X e.k).2 ≠ .non := isNode_ne_non (getN_isNode L.get L.node)
      rcases hb with hb | ⟨h1, _, h3⟩
      · rw [back_eq he hn] at hb
        rcases r.fps e.N' b o hb with h | h
        · exact .inl ⟨.inl h.1, h.2⟩
        · exact .inr h
      · refine .inl ⟨.inr ⟨h1, hnon, h3⟩, fun h => (hkey.cell h1 hnon).2 ?_⟩
        have := r.sub b o h
        rwa [h3.1, h3.2] at this
    have hmix : ∀ e ∈ l, ∀ f ∈ l, e.k ≠ f.k → ∀ b o, kfp β X e.k b o → ¬ fp e.N b o → fp f.N' b o → False := by
      intro e he f hf hne b o h1 h2 h3
      rcases ((hl f hf).fps b o h3).1 with h | h
      · exact h2 (hKk e he b o h1 h)
      · have := ((R.key e.k).live b o h1).1; omega
    rintro k k' ⟨e, he, rfl⟩ ⟨f, hf, rfl⟩ hne b o h1 h2
    rcases hcase e he b o h1 with ⟨g1, g2⟩ | g1
    · rcases hcase f hf b o h2 with ⟨g3, g4⟩ | g3
      · exact R.disj e.k f.k hne b o g1 g3
      · exact hmix e he f hf hne b o g1 g2 g3
    · rcases hcase f hf b o h2 with ⟨g3, g4⟩ | g3
      · exact hmix f hf e he (Ne.symm hne) b o g3 g4 g1
      · exact hpw e he f hf hne b o g1 g3
  · rintro k ⟨e, he, rfl⟩ b o hb
    have L := hl e he
    have hkey := R.key e.k
    have r := repl e.p (X e.k).2 hkey.mem hkey.sep L.own L.get
    have hnon : (X e.k).2 ≠ .non := isNode_ne_non (getN_isNode L.get L.node)
    rcases hb with hb | ⟨h1, _, h3⟩
    · rw [back_eq he hn] at hb
      rcases r.fps e.N' b o hb with h | h
      · exact .inl ⟨e.k, ⟨e, he, rfl⟩, .inl h.1⟩
      · rcases (L.fps b o h).1 with h' | h'
        · obtain ⟨f, hf, hfb⟩ := hK' b o h'
          exact .inl ⟨f.k, ⟨f, hf, rfl⟩, hfb⟩
        · exact .inr h'
    · exact .inl ⟨e.k, ⟨e, he, rfl⟩, .inr ⟨h1, hnon, h3⟩⟩
  · intro b o hb
    rcases hI' b o hb with h | ⟨h1, h2⟩
    · exact .inl h
    · refine .inr ⟨h1, ?_, ?_⟩
      · rcases h2 with h2 | h2
        · obtain ⟨f, hf, hfb⟩ := hK' b o h2
          exact .inl ⟨f.k, ⟨f, hf, rfl⟩, hfb⟩
        · exact .inr h2
      · rintro k ⟨e, he, rfl⟩ hkb
        have L := hl e he
        have hkey := R.key e.k
        have r := repl e.p (X e.k).2 hkey.mem hkey.sep L.own L.get
        have hnon : (X e.k).2 ≠ .non := isNode_ne_non (getN_isNode L.get L.node)
        have hold : kfp β X e.k b o → ¬ fp e.N b o → False := by
          intro g1 g2
          rcases h2 with h2 | h2
          · exact g2 (hKk e he b o g1 h2)
          · have := (hkey.live b o g1).1; omega
        rcases hkb with hkb | ⟨g1, _, g3⟩
        · rw [back_eq he hn] at hkb
          rcases r.fps e.N' b o hkb with g | g
          · exact hold (.inl g.1) g.2
          · exact (L.fps b o g).2.2.2.2 hb
        · refine hold (.inr ⟨g1, hnon, g3⟩) (fun h => (hkey.cell g1 hnon).2 ?_)
          have := r.sub b o h
          rwa [g3.1, g3.2] at this
end Go.OT
