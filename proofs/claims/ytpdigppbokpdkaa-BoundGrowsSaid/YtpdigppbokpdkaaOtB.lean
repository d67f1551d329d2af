/-
  Trees in memory: what is not touched stays; a cell of a tree is replaced.
-/
import Derived.Test.YtpdigppbokpdkaaOtA
namespace Go.OT

abbrev ASet := Nat → Nat → Prop

/-! ### What is not touched stays -/
mutual
theorem Mem_frame {w w' : World} {I I' : ASet} : ∀ (v : AL), Mem w I v → (∀ b o, fp v b o → w'.at b o = w.at b o) →
    (∀ b o, I b o → w'.at b o = w.at b o ∧ I' b o) → Mem w' I' v
  | .sl own none sz n cs, h, _, _ => by simpa [Mem] using h
  | .sl true (some l) sz n cs, h, hf, hi => by
    simp only [Mem] at h ⊢
    refine ⟨h.1, h.2.1, MemL_frame true cs l.b l.o h.2.2 (fun i hlt => hf _ _ ?_) (fun b o hb => hf b o ?_) hi⟩
    · simp only [fp]; refine .inl ⟨trivial, by omega, ?_⟩
      have := Nat.mul_le_mul_right sz h.2.1
      omega
    · simp only [fp]; exact .inr hb
  | .sl false (some l) sz n cs, h, _, hi => by
    simp only [Mem] at h ⊢
    exact ⟨h.1, h.2.1, MemI_frame cs l.b l.o h.2.2 hi⟩
  | .bx true (some l) cs, h, hf, hi => by
    simp only [Mem] at h ⊢
    refine MemL_frame true cs l.b l.o h (fun i hlt => hf _ _ ?_) (fun b o hb => hf b o ?_) hi
    · simp only [fp]; exact .inl ⟨trivial, by omega, by omega⟩
    · simp only [fp]; exact .inr hb
  | .bx false (some l) cs, h, _, hi => by
    simp only [Mem] at h ⊢
    exact MemI_frame cs l.b l.o h hi
  | .bx own none cs, h, _, _ => by simp [Mem] at h
  | .vptr (some l) cs, h, _, hi => by
    simp only [Mem] at h ⊢
    exact MemI_frame cs l.b l.o h hi
  | .vptr none cs, h, _, _ => by simp [Mem] at h
  | .agg cs, h, hf, hi => by
    simp only [Mem, fp] at h hf ⊢
    exact MemA_frame cs h hf hi
  | .tuple cs, h, hf, hi => by
    simp only [Mem, fp] at h hf ⊢
    exact MemA_frame cs h hf hi
  | .clos f cs, h, _, hi => by
    simp only [Mem] at h ⊢
    exact ⟨MemA_frame cs h.1 (fun b o hb => absurd hb (h.2 b o)) hi, h.2⟩
  | .sc v, _, _, _ => by simp [Mem]
  | .view k g p off len, _, _, _ => by simp [Mem]
  | .ptr k g p i, _, _, _ => by simp [Mem]
  | .bptr b g i, _, _, _ => by simp [Mem]
  | .dead, _, _, _ => by simp [Mem]
  | .non, _, _, _ => by simp [Mem]
theorem MemL_frame {w w' : World} {I I' : ASet} (own : Bool) : ∀ (cs : List AL) (b o : Nat), MemL w I own cs b o → (∀ i, i < cs.length → w'.at b (o + i) = w.at b (o + i)) →
    (∀ b o, fpL cs b o → w'.at b o = w.at b o) → (∀ b o, I b o → w'.at b o = w.at b o ∧ I' b o) → MemL w' I' own cs b o
  | [], _, _, _, _, _, _ => by simp [MemL]
  | c :: cs, b, o, h, ha, hf, hi => by
    simp only [MemL] at h ⊢
    obtain ⟨⟨y, hy, hc⟩, hm, hn, hr⟩ := h
    refine ⟨⟨y, ?_, hc⟩, Mem_frame c hm (fun b o hb => hf b o (by simp [fpL, hb])) hi, fun e => ⟨(hi _ _ (hn e).1).2, (hn e).2⟩, ?_⟩
    · have := ha 0 (by simp); simp at this; rw [this]; exact hy
    · refine MemL_frame own cs b (o + 1) hr (fun i hlt => ?_) (fun b o hb => hf b o (by simp [fpL, hb])) hi
      have := ha (i + 1) (by simp; omega)
      rwa [Nat.add_assoc, Nat.add_comm 1 i]
theorem MemI_frame {w w' : World} {I I' : ASet} : ∀ (cs : List AL) (b o : Nat), MemL w I false cs b o →
    (∀ b o, I b o → w'.at b o = w.at b o ∧ I' b o) → MemL w' I' false cs b o
  | [], _, _, _, _ => by simp [MemL]
  | c :: cs, b, o, h, hi => by
    simp only [MemL] at h ⊢
    obtain ⟨⟨y, hy, hc⟩, hm, hn, hr⟩ := h
    have hn' := hn trivial
    exact ⟨⟨y, by rw [(hi _ _ hn'.1).1]; exact hy, hc⟩, Mem_frame c hm (fun b o hb => absurd hb (hn'.2 b o)) hi, fun _ => ⟨(hi _ _ hn'.1).2, hn'.2⟩, MemI_frame cs b (o + 1) hr hi⟩
theorem MemA_frame {w w' : World} {I I' : ASet} : ∀ (cs : List AL), MemA w I cs → (∀ b o, fpL cs b o → w'.at b o = w.at b o) →
    (∀ b o, I b o → w'.at b o = w.at b o ∧ I' b o) → MemA w' I' cs
  | [], _, _, _ => by simp [MemA]
  | c :: cs, h, hf, hi => by
    simp only [MemA] at h ⊢
    exact ⟨Mem_frame c h.1 (fun b o hb => hf b o (by simp [fpL, hb])) hi, MemA_frame cs h.2 (fun b o hb => hf b o (by simp [fpL, hb])) hi⟩
end

/-! ### One cell of a tree is replaced -/
def AV.own? {L : Type} : AV L → Bool
  | .sl true _ _ _ _ => true
  | .bx true _ _ => true
  | _ => false

def AV.loc? : AL → LO
  | .sl _ l _ _ _ => l
  | .bx _ l _ => l
  | _ => none

/-- Where the cell at a path lies. -/
def addr : AL → List Nat → Option (Nat × Nat)
  | _, [] => none
  | v, [i] => v.loc?.map fun l => (l.b, l.o + i)
  | v, i :: j :: q => match v.cells? with
    | some cs => match cs[i]? with
      | some u => addr u (j :: q)
      | none => none
    | none => none

/-- All nodes on the way are owned. -/
def ownQ {L : Type} : AV L → List Nat → Bool
  | _, [] => true
  | v, i :: q => v.own? && match v.cells? with
    | some cs => match cs[i]? with
      | some u => ownQ u q
      | none => false
    | none => false

theorem er_ownQ (q : List Nat) : ∀ v : AL, ownQ (er v) q = ownQ v q := by
  induction q with
  | nil => intro v; rfl
  | cons i q ih =>
    intro v
    have h1 : (er v).own? = v.own? := by
      cases v with
      | sl o l s n cs => cases o <;> rfl
      | bx o l cs => cases o <;> rfl
      | _ => rfl
    simp only [ownQ, h1, er_cells]
    cases v.cells? with
    | none => rfl
    | some cs =>
      simp only [Option.map_some, List.getElem?_map]
      cases cs[i]? with
      | none => rfl
      | some u => simp [ih u]

theorem CR_withCells {v : AL} {cs : List AL} {x : Value} : CR (v.withCells cs) x ↔ CR v x := by
  cases v with
  | sl o l s n c => cases l <;> rfl
  | bx o l c => cases l <;> rfl
  | _ => rfl

theorem CR_setN {v u : AL} {q : List Nat} (hq : q ≠ []) {x : Value} : CR (setN v q u) x ↔ CR v x := by
  cases q with
  | nil => exact absurd rfl hq
  | cons i q =>
    simp only [setN]
    cases v.cells? with
    | none => rfl
    | some cs => exact CR_withCells

/-- A node's child is replaced. -/
theorem fp_child {v c : AL} {cs : List AL} {i : Nat} (hc : v.cells? = some cs) (ho : v.own? = true) (hm : v.loc?.isSome) (hi : cs[i]? = some c) {b o : Nat} (h : fp c b o) : fp v b o := by
  have hL : fpL cs b o := fpL_iff.2 ⟨c, List.mem_of_getElem? hi, h⟩
  cases v with
  | sl own l s n k => cases own <;> cases l <;> simp_all [AV.cells?, AV.own?, AV.loc?, fp]
  | bx own l k => cases own <;> cases l <;> simp_all [AV.cells?, AV.own?, AV.loc?, fp]
  | _ => simp [AV.cells?] at hc

theorem loc_of_Mem {w : World} {I : ASet} {v c : AL} {cs : List AL} {i : Nat} (h : Mem w I v) (hc : v.cells? = some cs) (hi : cs[i]? = some c) : ∃ l, v.loc? = some l := by
  cases v with
  | sl own l s n k =>
    cases l with
    | none => simp only [AV.cells?, Option.some.injEq] at hc; subst hc; simp [Mem] at h; simp [h.2] at hi
    | some l => exact ⟨l, rfl⟩
  | bx own l k =>
    cases l with
    | none => simp [Mem] at h
    | some l => exact ⟨l, rfl⟩
  | _ => simp [AV.cells?] at hc

/-- What is known of an owned node. -/
structure NodeFacts (w : World) (I : ASet) (v : AL) (cs : List AL) (l : Loc) (R : Nat) : Prop where
  hc : v.cells? = some cs
  ho : v.own? = true
  hl : v.loc? = some l
  len : cs.length ≤ R
  fpI : ∀ cs', cs'.length = cs.length → ∀ b o, fp (v.withCells cs') b o ↔ (b = l.b ∧ l.o ≤ o ∧ o < l.o + R) ∨ fpL cs' b o
  sepI : ∀ cs', cs'.length = cs.length → (Sep (v.withCells cs') ↔ (∀ j, j < R → ¬ fpL cs' l.b (l.o + j)) ∧ SepL cs')
  memI : ∀ w' I' cs', cs'.length = cs.length → (Mem w' I' (v.withCells cs') ↔ MemL w' I' true cs' l.b l.o)

theorem withCells_self {L : Type} {v : AV L} {cs : List (AV L)} (h : v.cells? = some cs) : v.withCells cs = v := by
  cases v <;> simp [AV.cells?] at h <;> subst h <;> rfl

theorem nodeFacts {w : World} {I : ASet} {v : AL} {cs : List AL} {l : Loc} (h : Mem w I v) (hc : v.cells? = some cs) (ho : v.own? = true) (hl : v.loc? = some l) : ∃ R, NodeFacts w I v cs l R := by
  cases v with
  | sl own l' s n k =>
    cases own with
    | false => simp [AV.own?] at ho
    | true =>
      simp only [AV.loc?] at hl; subst hl
      simp only [AV.cells?, Option.some.injEq] at hc; subst hc
      simp only [Mem] at h
      have hle := Nat.mul_le_mul_right s h.2.1
      refine ⟨l.cap * s, rfl, rfl, rfl, by omega, fun cs' hcs b o => by simp [AV.withCells, fp], fun cs' hcs => by simp [AV.withCells, Sep], fun w' I' cs' hcs => ?_⟩
      simp only [AV.withCells, Mem, hcs]
      exact ⟨fun hh => hh.2.2, fun hh => ⟨h.1, h.2.1, hh⟩⟩
  | bx own l' k =>
    cases own with
    | false => simp [AV.own?] at ho
    | true =>
      simp only [AV.loc?] at hl; subst hl
      simp only [AV.cells?, Option.some.injEq] at hc; subst hc
      refine ⟨k.length, rfl, rfl, rfl, by omega, fun cs' hcs b o => by simp [AV.withCells, fp, hcs], fun cs' hcs => by simp [AV.withCells, Sep, hcs], fun w' I' cs' hcs => by simp [AV.withCells, Mem]⟩
  | _ => simp [AV.cells?] at hc

/-- The parts of 'a cell is replaced', for the cell at path q. -/
structure Repl (w : World) (I : ASet) (v : AL) (q : List Nat) (u : AL) : Prop where
  sub : ∀ b o, fp u b o → fp v b o
  ad : q ≠ [] → ∃ b o y, addr v q = some (b, o) ∧ fp v b o ∧ ¬ fp u b o ∧ w.at b o = some y ∧ CR u y
  mem : Mem w I u
  sep : Sep u
  fps : ∀ u' b o, fp (setN v q u') b o → (fp v b o ∧ ¬ fp u b o) ∨ fp u' b o
  fpsI : ∀ u' b o, (fp v b o ∧ ¬ fp u b o) → fp (setN v q u') b o
  seps : ∀ u', Sep u' → (∀ b o, fp u' b o → fp v b o → fp u b o) → Sep (setN v q u')
  mems : ∀ u' w' I', Mem w' I' u' → (∀ b o, addr v q = some (b, o) → ∃ y, w'.at b o = some y ∧ CR u' y) →
    (∀ b o, fp v b o → ¬ fp u b o → addr v q ≠ some (b, o) → w'.at b o = w.at b o) → (∀ b o, I b o → w'.at b o = w.at b o ∧ I' b o) → Mem w' I' (setN v q u')

theorem repl {w : World} {I : ASet} {u : AL} (q : List Nat) : ∀ v : AL, Mem w I v → Sep v → ownQ v q = true → getN v q = some u → Repl w I v q u := by
  induction q with
  | nil =>
    intro v hm hs _ hg
    simp only [getN, Option.some.injEq] at hg; subst hg
    refine ⟨fun _ _ h => h, fun h => absurd rfl h, hm, hs, fun u' b o h => .inr h, ?_, fun u' h _ => h, fun u' w' I' h _ _ _ => h⟩
    intro u' b o h; exact absurd h.1 h.2
  | cons i q ih =>
    intro v hm hs hq hg
    simp only [ownQ, Bool.and_eq_true] at hq
    obtain ⟨ho, hq⟩ := hq
    simp only [getN] at hg
    cases hc : v.cells? with
    | none => simp [hc] at hg
    | some cs =>
      simp only [hc] at hg hq
      cases hi : cs[i]? with
      | none => simp [hi] at hg
      | some c =>
        simp only [hi] at hg hq
        obtain ⟨l, hl⟩ := loc_of_Mem hm hc hi
        obtain ⟨R, F⟩ := nodeFacts hm hc ho hl
        have hlt : i < cs.length := (List.getElem?_eq_some_iff.1 hi).1
        have hv := withCells_self hc
        have hmL : MemL w I true cs l.b l.o := (F.memI w I cs rfl).1 (by rw [hv]; exact hm)
        have hsL := (F.sepI cs rfl).1 (by rw [hv]; exact hs)
        have hfp : ∀ b o, fp v b o ↔ (b = l.b ∧ l.o ≤ o ∧ o < l.o + R) ∨ fpL cs b o := fun b o => by have := F.fpI cs rfl b o; rwa [hv] at this
        have hcm := (MemL_iff.1 hmL) i c hi
        have hcs := (SepL_iff.1 hsL.2).1 c (List.mem_of_getElem? hi)
        have r := ih c hcm.2.1 hcs hq hg
        have hsub : ∀ b o, fp u b o → fpL cs b o := fun b o h => fpL_iff.2 ⟨c, List.mem_of_getElem? hi, r.sub b o h⟩
        have hnode : ∀ b o, (b = l.b ∧ l.o ≤ o ∧ o < l.o + R) → ¬ fpL cs b o := by
          rintro b o ⟨rfl, h1, h2⟩ h
          exact hsL.1 (o - l.o) (by omega) (by rwa [Nat.add_sub_cancel' h1])
        -- other children
        have hother : ∀ j d, j ≠ i → cs[j]? = some d → ∀ b o, fp d b o → ¬ fp c b o := by
          intro j d hj hd b o h1 h2
          rcases Nat.lt_or_gt_of_ne hj with h | h
          · exact (SepL_iff.1 hsL.2).2 j i d c h hd hi b o h1 h2
          · exact (SepL_iff.1 hsL.2).2 i j c d h hi hd b o h2 h1
        have hset : ∀ u', setN v (i :: q) u' = v.withCells (cs.set i (setN c q u')) := by
          intro u'
          simp only [setN, hc]
          congr 3
          simp [List.getD_eq_getElem?_getD, hi]
        have hlen : ∀ u', (cs.set i (setN c q u')).length = cs.length := fun u' => by simp
        have hgetset : ∀ u' j d, (cs.set i (setN c q u'))[j]? = some d → (j = i ∧ d = setN c q u') ∨ (j ≠ i ∧ cs[j]? = some d) := by
          intro u' j d hd
          by_cases e : j = i
          · subst e; rw [List.getElem?_set_self (by omega)] at hd; exact .inl ⟨rfl, (Option.some.inj hd).symm⟩
          · rw [List.getElem?_set_ne (Ne.symm e)] at hd; exact .inr ⟨e, hd⟩
        have hadr : q = [] → addr v (i :: q) = some (l.b, l.o + i) := by
          rintro rfl; simp [addr, hl]
        have hadr2 : q ≠ [] → addr v (i :: q) = addr c q := by
          intro hne
          cases q with
          | nil => exact absurd rfl hne
          | cons j q' => simp [addr, hc, hi]
        obtain ⟨y0, hy0, hcr0⟩ := hcm.1
        refine ⟨fun b o h => (hfp b o).2 (.inr (hsub b o h)), ?_, r.mem, r.sep, ?_, ?_, ?_, ?_⟩
        · intro _
          by_cases hne : q = []
          · subst hne
            simp only [getN, Option.some.injEq] at hg; subst hg
            refine ⟨l.b, l.o + i, y0, hadr rfl, (hfp _ _).2 (.inl ⟨rfl, by omega, by have := F.len; omega⟩), fun h => hnode _ _ ⟨rfl, by omega, by have := F.len; omega⟩ (hsub _ _ h), hy0, hcr0⟩
          · obtain ⟨b, o, y, h1, h2, h3, h4, h5⟩ := r.ad hne
            exact ⟨b, o, y, (hadr2 hne).trans h1, (hfp b o).2 (.inr (fpL_iff.2 ⟨c, List.mem_of_getElem? hi, h2⟩)), h3, h4, h5⟩
        · intro u' b o h
          rw [hset] at h
          rcases (F.fpI _ (hlen u') b o).1 h with h | h
          · exact .inl ⟨(hfp b o).2 (.inl h), fun h' => hnode b o h (hsub b o h')⟩
          · obtain ⟨d, hd, hdb⟩ := fpL_iff.1 h
            obtain ⟨j, hj⟩ := List.getElem?_of_mem hd
            rcases hgetset u' j d hj with ⟨rfl, rfl⟩ | ⟨hne, hj'⟩
            · rcases r.fps u' b o hdb with ⟨h1, h2⟩ | h1
              · exact .inl ⟨(hfp b o).2 (.inr (fpL_iff.2 ⟨c, List.mem_of_getElem? hi, h1⟩)), h2⟩
              · exact .inr h1
            · exact .inl ⟨(hfp b o).2 (.inr (fpL_iff.2 ⟨d, List.mem_of_getElem? hj', hdb⟩)), fun h' => hother j d hne hj' b o hdb (r.sub b o h')⟩
        · intro u' b o ⟨h1, h2⟩
          rw [hset]
          refine (F.fpI _ (hlen u') b o).2 ?_
          rcases (hfp b o).1 h1 with h | h
          · exact .inl h
          · obtain ⟨d, hd, hdb⟩ := fpL_iff.1 h
            obtain ⟨j, hj⟩ := List.getElem?_of_mem hd
            by_cases e : j = i
            · subst e
              rw [hi] at hj; cases hj
              exact .inr (fpL_iff.2 ⟨_, List.mem_of_getElem? (List.getElem?_set_self (by omega)), r.fpsI u' b o ⟨hdb, h2⟩⟩)
            · exact .inr (fpL_iff.2 ⟨d, List.mem_of_getElem? (i := j) (by rw [List.getElem?_set_ne (Ne.symm e)]; exact hj), hdb⟩)
        · intro u' hsu hdis
          rw [hset]
          have hcdis : ∀ b o, fp u' b o → fp c b o → fp u b o := fun b o h1 h2 => hdis b o h1 ((hfp b o).2 (.inr (fpL_iff.2 ⟨c, List.mem_of_getElem? hi, h2⟩)))
          refine (F.sepI _ (hlen u')).2 ⟨?_, SepL_iff.2 ⟨?_, ?_⟩⟩
          · intro j hj hb
            obtain ⟨d, hd, hdb⟩ := fpL_iff.1 hb
            obtain ⟨k, hk⟩ := List.getElem?_of_mem hd
            have hin : fp v l.b (l.o + j) := (hfp _ _).2 (.inl ⟨rfl, by omega, by omega⟩)
            have hnd := hnode l.b (l.o + j) ⟨rfl, by omega, by omega⟩
            rcases hgetset u' k d hk with ⟨rfl, rfl⟩ | ⟨hne, hk'⟩
            · rcases r.fps u' _ _ hdb with ⟨h1, _⟩ | h1
              · exact hnd (fpL_iff.2 ⟨c, List.mem_of_getElem? hi, h1⟩)
              · exact hnd (hsub _ _ (hdis _ _ h1 hin))
            · exact hnd (fpL_iff.2 ⟨d, List.mem_of_getElem? hk', hdb⟩)
          · intro d hd
            obtain ⟨k, hk⟩ := List.getElem?_of_mem hd
            rcases hgetset u' k d hk with ⟨rfl, rfl⟩ | ⟨hne, hk'⟩
            · exact r.seps u' hsu hcdis
            · exact (SepL_iff.1 hsL.2).1 d (List.mem_of_getElem? hk')
          · have key : ∀ k d, k ≠ i → cs[k]? = some d → ∀ b o, fp (setN c q u') b o → fp d b o → False := by
              intro k d hk hd b o h1 h2
              rcases r.fps u' b o h1 with ⟨h3, _⟩ | h3
              · exact hother k d hk hd b o h2 h3
              · have := hdis b o h3 ((hfp b o).2 (.inr (fpL_iff.2 ⟨d, List.mem_of_getElem? hd, h2⟩)))
                exact hother k d hk hd b o h2 (r.sub b o this)
            intro j k a d hjk ha hd b o h1 h2
            rcases hgetset u' j a ha with ⟨ej, ea⟩ | ⟨hj, ha'⟩
            · subst ej ea
              rcases hgetset u' k d hd with ⟨ek, _⟩ | ⟨hk, hd'⟩
              · omega
              · exact key k d hk hd' b o h1 h2
            · rcases hgetset u' k d hd with ⟨ek, ed⟩ | ⟨hk, hd'⟩
              · subst ek ed
                exact key j a hj ha' b o h2 h1
              · exact (SepL_iff.1 hsL.2).2 j k a d hjk ha' hd' b o h1 h2
        · intro u' w' I' hmu hnew hold hI
          rw [hset]
          refine (F.memI w' I' _ (hlen u')).2 (MemL_iff.2 fun j d hd => ?_)
          rcases hgetset u' j d hd with ⟨ej, ed⟩ | ⟨hj, hd'⟩
          · subst ej ed
            have hin : fp v l.b (l.o + j) := (hfp _ _).2 (.inl ⟨rfl, by omega, by have := F.len; omega⟩)
            have hnd := hnode l.b (l.o + j) ⟨rfl, by omega, by have := F.len; omega⟩
            refine ⟨?_, ?_, fun h => absurd h (by simp)⟩
            · by_cases hne : q = []
              · subst hne
                exact hnew _ _ (hadr rfl)
              · refine ⟨y0, ?_, (CR_setN hne).2 hcr0⟩
                rw [hold _ _ hin (fun h => hnd (hsub _ _ h)) ?_]
                · exact hy0
                · rw [hadr2 hne]
                  intro he
                  obtain ⟨b, o, y, h1, h2, _⟩ := r.ad hne
                  rw [he] at h1; cases h1
                  exact hnd (fpL_iff.2 ⟨c, List.mem_of_getElem? hi, h2⟩)
            · refine r.mems u' w' I' hmu ?_ ?_ hI
              · intro b o hb
                by_cases hne : q = []
                · subst hne; simp [addr] at hb
                · exact hnew b o ((hadr2 hne).trans hb)
              · intro b o h1 h2 h3
                refine hold b o ((hfp b o).2 (.inr (fpL_iff.2 ⟨c, List.mem_of_getElem? hi, h1⟩))) h2 ?_
                by_cases hne : q = []
                · rw [hadr hne]
                  intro he
                  cases he
                  exact hnd (fpL_iff.2 ⟨c, List.mem_of_getElem? hi, h1⟩)
                · rw [hadr2 hne]; exact h3
          · have hdm := (MemL_iff.1 hmL) j d hd'
            have hjl : j < cs.length := (List.getElem?_eq_some_iff.1 hd').1
            have hin : fp v l.b (l.o + j) := (hfp _ _).2 (.inl ⟨rfl, by omega, by have := F.len; omega⟩)
            have hnd := hnode l.b (l.o + j) ⟨rfl, by omega, by have := F.len; omega⟩
            obtain ⟨y, hy, hcr⟩ := hdm.1
            refine ⟨⟨y, ?_, hcr⟩, Mem_frame d hdm.2.1 (fun b o hb => ?_) hI, fun h => absurd h (by simp)⟩
            · rw [hold _ _ hin (fun h => hnd (hsub _ _ h)) ?_]
              · exact hy
              · by_cases hne : q = []
                · rw [hadr hne]; intro he; simp at he; omega
                · rw [hadr2 hne]
                  intro he
                  obtain ⟨b, o, y, h1, h2, _⟩ := r.ad hne
                  rw [he] at h1; cases h1
                  exact hnd (fpL_iff.2 ⟨c, List.mem_of_getElem? hi, h2⟩)
            · refine hold b o ((hfp b o).2 (.inr (fpL_iff.2 ⟨d, List.mem_of_getElem? hd', hb⟩))) (fun h => hother j d hj hd' b o hb (r.sub b o h)) ?_
              by_cases hne : q = []
              · rw [hadr hne]
                intro he; cases he
                exact hnode l.b (l.o + i) ⟨rfl, by omega, by have := F.len; omega⟩ (fpL_iff.2 ⟨d, List.mem_of_getElem? hd', hb⟩)
              · rw [hadr2 hne]
                intro he
                obtain ⟨b', o', y, h1, h2, _⟩ := r.ad hne
                rw [he] at h1; cases h1
                exact hother j d hj hd' b o hb h2
end Go.OT
