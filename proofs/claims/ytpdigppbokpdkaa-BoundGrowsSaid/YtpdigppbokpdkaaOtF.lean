/-
  The primitive changes of a state, at last: a new box; a part out of an aggregate. And states without labels.
-/
import Derived.Test.YtpdigppbokpdkaaOtE
namespace Go.OT

def XF.box {L : Type} (X : XF L) (b : Nat) (cs : List (AV L)) : XF L := fun k =>
  if k / 100 = b ∧ k % 100 ≠ 0 then (if k % 100 = 99 then ((X k).1 + 1, .non) else (nx (X k), cs.getD (k % 100 - 1) .non)) else X k

theorem RelL.newbox {C : Ctx} {X : XF LO} {β : Nat → Nat × Nat} {I : ASet} {rg : Nat → Value} {w : World} (R : RelL C X β I rg w) (b h : Nat) (hb : b < 10000) (e : TypeId) (cs : List AL) (xs : List Value)
    (hfp : ∀ b o, fpL cs b o → fp (X (100 * h)).2 b o) (hmem : MemA w I cs) (hsep : SepL cs) (hlen : cs.length = xs.length)
    (hcr : ∀ (i : Nat) (c : AL) (x : Value), cs[i]? = some c → xs[i]? = some x → treeV c = true ∧ CR c x) :
    RelL C ((X.box b cs).set (100 * h) .non) (fun j => if j = b then (w.heap.size, 0) else β j) I rg { w with heap := w.heap.push (.cells xs.toArray e (0, 0)) } := by
  have hw := frame_alloc (fun _ _ => False) w (.cells xs.toArray e (0, 0))
  generalize hw' : ({ w with heap := w.heap.push (.cells xs.toArray e (0, 0)) } : World) = w' at hw ⊢
  have hnewat : ∀ i, w'.at w.heap.size i = xs[i]? := by
    intro i; subst hw'; simp [World.at, World.cell?]
  have hnewfz : ∀ i, w'.fz w.heap.size i = false := by
    intro i; subst hw'; simp [World.fz, World.frozen?]
  have hsize : w'.heap.size = w.heap.size + 1 := by subst hw'; simp
  generalize hβ' : (fun j => if j = b then (w.heap.size, 0) else β j) = β'
  have hβb : β' b = (w.heap.size, 0) := by subst hβ'; simp
  have hβn : ∀ j, j ≠ b → β' j = β j := by intro j hj; subst hβ'; simp [hj]
  have hKY : Keeps X (X.box b cs) β β' := by
    refine ⟨fun k => ?_, fun k he p a ha => ?_, fun b' he => ?_⟩
    · simp only [XF.box]; split
      · split
        · simp
        · exact nx_ge _
      · exact Nat.le_refl _
    · simp only [XF.box] at he ⊢
      split at he
      · rename_i hc
        rw [if_pos hc]
        split at he
        · omega
        · have := getN_hd_isNode ha
          simp [nx, this] at he
      · rename_i hc; rw [if_neg hc]; exact ha
    · by_cases hbb : b' = b
      · subst hbb
        simp only [XF.box] at he
        rw [if_pos ⟨by omega, by omega⟩, if_pos (by omega)] at he
        omega
      · exact hβn b' hbb
  have hK := hKY.trans (keeps_set (X.box b cs) β' (100 * h) .non)
  have hkey : ∀ i, i < 98 → ((X.box b cs).set (100 * h) .non (100 * b + 1 + i)).2 = cs.getD i .non := by
    intro i hi
    rw [XF.set_ne _ _ (by omega)]
    simp only [XF.box]
    rw [if_pos ⟨by omega, by omega⟩, if_neg (by omega)]
    simp only [show (100 * b + 1 + i) % 100 - 1 = i by omega]
  have hform : ∀ k, k / 100 = b → k % 100 ≠ 0 → k % 100 ≠ 99 → ∃ i, i < 98 ∧ k = 100 * b + 1 + i := fun k h1 h2 h3 => ⟨k % 100 - 1, by omega, by omega⟩
  have hhnon : ((X.box b cs).set (100 * h) .non (100 * h)).2 = .non := by rw [XF.set_self]
  have h99 : ((X.box b cs).set (100 * h) .non (100 * b + 99)).2 = .non := by
    rw [XF.set_ne _ _ (by omega)]
    simp only [XF.box]
    rw [if_pos ⟨by omega, by omega⟩, if_pos (by omega)]
  have hnok : ∀ b' o', ¬ kfp β' ((X.box b cs).set (100 * h) .non) (100 * h) b' o' := by
    intro b' o' hb'
    rcases hb' with hb' | ⟨hc, _⟩
    · rw [hhnon] at hb'; simp [fp] at hb'
    · exact isCell_reg h hc
  have hno99 : ∀ b' o', ¬ kfp β' ((X.box b cs).set (100 * h) .non) (100 * b + 99) b' o' := by
    intro b' o' hb'
    rcases hb' with hb' | ⟨hc, _⟩
    · rw [h99] at hb'; simp [fp] at hb'
    · exact hc.2 (by omega)
  have hgetD : ∀ i c, cs[i]? = some c → cs.getD i .non = c := fun i c hc => by simp [List.getD_eq_getElem?_getD, hc]
  have hcase : ∀ i, i < 98 → ∀ b' o', kfp β' ((X.box b cs).set (100 * h) .non) (100 * b + 1 + i) b' o' → ∃ c, cs[i]? = some c ∧ (fp c b' o' ∨ (b' = w.heap.size ∧ o' = i)) := by
    intro i hi b' o' hb'
    cases hc : cs[i]? with
    | none =>
      have hg : cs.getD i .non = .non := by simp [List.getD_eq_getElem?_getD, hc]
      rcases hb' with hb' | ⟨_, hne, _⟩
      · rw [hkey i hi, hg] at hb'; simp [fp] at hb'
      · exact absurd ((hkey i hi).trans hg) hne
    | some c =>
      refine ⟨c, rfl, ?_⟩
      rcases hb' with hb' | ⟨_, _, h3⟩
      · rw [hkey i hi, hgetD i c hc] at hb'; exact .inl hb'
      · simp only [cellAt, show (100 * b + 1 + i) / 100 = b by omega, hβb, show (100 * b + 1 + i) % 100 - 1 = i by omega] at h3
        exact .inr ⟨h3.1, by omega⟩
  have hold : ∀ c b' o', c ∈ cs → fp c b' o' → kfp β X (100 * h) b' o' := fun c b' o' hc hb' => .inl (hfp b' o' (fpL_iff.2 ⟨c, hc, hb'⟩))
  refine R.change (fun k => (k / 100 = b ∧ k % 100 ≠ 0) ∨ k = 100 * h) ?_ hK ?_ ?_ ?_ ?_ ?_ ?_ ?_ (fun _ _ h => h) (fun _ _ h => .inl h) (hw.mono fun _ _ _ h => h.elim)
  · intro k hk
    rw [XF.set_ne _ _ (fun e => hk (.inr e))]
    simp only [XF.box]
    rw [if_neg (fun e => hk (.inl e))]
  · intro k hk hc
    exact .inl (hβn _ (fun e => hk (.inl ⟨e, hc.1⟩)))
  · intro j hj; exact hβn j (by omega)
  · intro s hs; rfl
  · rintro s (⟨_, h2⟩ | e)
    · omega
    · rw [e, hhnon]; simp [RR]
  · rintro k (⟨h1, h2⟩ | rfl)
    · by_cases h3 : k % 100 = 99
      · have : k = 100 * b + 99 := by omega
        subst this
        exact ⟨by rw [h99]; simp [Mem], by rw [h99]; simp [Sep], fun hc => absurd h3 hc.2, fun b' o' hb' => absurd hb' (hno99 b' o'), fun _ => h99⟩
      · obtain ⟨i, hi, rfl⟩ := hform k h1 h2 h3
        cases hc : cs[i]? with
        | none =>
          have hg : ((X.box b cs).set (100 * h) .non (100 * b + 1 + i)).2 = .non := (hkey i hi).trans (by simp [List.getD_eq_getElem?_getD, hc])
          refine ⟨by rw [hg]; simp [Mem], by rw [hg]; simp [Sep], fun _ hne => absurd hg hne, fun b' o' hb' => ?_, fun h => absurd h h3⟩
          obtain ⟨c, hc', _⟩ := hcase i hi b' o' hb'
          rw [hc] at hc'; cases hc'
        | some c =>
          have hg : ((X.box b cs).set (100 * h) .non (100 * b + 1 + i)).2 = c := (hkey i hi).trans (hgetD i c hc)
          have hlt : i < cs.length := (List.getElem?_eq_some_iff.1 hc).1
          have hx : xs[i]? = some xs[i] := List.getElem?_eq_getElem (by omega)
          have hcx := hcr i c _ hc hx
          have hin := List.mem_of_getElem? hc
          refine ⟨?_, by rw [hg]; exact (SepL_iff.1 hsep).1 c hin, fun _ _ => ?_, fun b' o' hb' => ?_, fun h => absurd h h3⟩
          · rw [hg]
            refine Mem_frame c (MemA_iff.1 hmem c hin) (fun b' o' hb' => ?_) (fun b' o' hI => ⟨?_, hI⟩)
            · exact hw.cell b' o' ((R.key (100 * h)).live b' o' (hold c b' o' hin hb')).1 (fun h => h)
            · exact hw.cell b' o' (R.imm b' o' hI).1 (fun h => h)
          · rw [hg]
            simp only [show (100 * b + 1 + i) / 100 = b by omega, hβb, show (100 * b + 1 + i) % 100 - 1 = i by omega, Nat.zero_add]
            refine ⟨⟨xs[i], by rw [hnewat]; exact hx, hcx.2⟩, fun hb' => ?_⟩
            have := ((R.key (100 * h)).live _ _ (hold c _ _ hin hb')).1
            omega
          · obtain ⟨c', hc', h'⟩ := hcase i hi b' o' hb'
            rw [hc] at hc'; cases hc'
            rcases h' with h' | ⟨rfl, rfl⟩
            · obtain ⟨l1, l2, l3⟩ := (R.key (100 * h)).live b' o' (hold c b' o' hin h')
              exact ⟨by omega, by rw [hw.fz b' o' l1]; exact l2, by rw [hw.some b' o' l1]; exact l3⟩
            · exact ⟨by omega, hnewfz _, by rw [hnewat, hx]; rfl⟩
    · exact ⟨by rw [hhnon]; simp [Mem], by rw [hhnon]; simp [Sep], fun hc => absurd hc (isCell_reg h), fun b' o' hb' => absurd hb' (hnok b' o'), fun h => by omega⟩
  · have hcell : ∀ k, (k / 100 = b ∧ k % 100 ≠ 0) → ∀ b' o', kfp β' ((X.box b cs).set (100 * h) .non) k b' o' → ∃ i c, i < 98 ∧ k = 100 * b + 1 + i ∧ cs[i]? = some c ∧ (fp c b' o' ∨ (b' = w.heap.size ∧ o' = i)) := by
      rintro k ⟨h1, h2⟩ b' o' hb'
      by_cases h3 : k % 100 = 99
      · have : k = 100 * b + 99 := by omega
        subst this; exact absurd hb' (hno99 b' o')
      · obtain ⟨i, hi, rfl⟩ := hform k h1 h2 h3
        obtain ⟨c, hc, h'⟩ := hcase i hi b' o' hb'
        exact ⟨i, c, hi, rfl, hc, h'⟩
    rintro k k' (hk | rfl) (hk' | rfl) hne b' o' h1 h2
    · obtain ⟨i, c, hi, rfl, hc, hh⟩ := hcell k hk b' o' h1
      obtain ⟨j, d, hj, rfl, hd, hh'⟩ := hcell k' hk' b' o' h2
      have hij : i ≠ j := fun e => hne (by rw [e])
      have hlive : ∀ c, c ∈ cs → fp c b' o' → b' < w.heap.size := fun c hc hb' => ((R.key (100 * h)).live _ _ (hold c _ _ hc hb')).1
      rcases hh with hh | ⟨e1, e2⟩
      · rcases hh' with hh' | ⟨e1, e2⟩
        · rcases Nat.lt_or_gt_of_ne hij with hlt | hlt
          · exact (SepL_iff.1 hsep).2 i j c d hlt hc hd b' o' hh hh'
          · exact (SepL_iff.1 hsep).2 j i d c hlt hd hc b' o' hh' hh
        · have := hlive c (List.mem_of_getElem? hc) hh; omega
      · rcases hh' with hh' | ⟨e3, e4⟩
        · have := hlive d (List.mem_of_getElem? hd) hh'; omega
        · omega
    · exact hnok b' o' h2
    · exact hnok b' o' h1
    · exact hne rfl
  · rintro k (⟨h1, h2⟩ | rfl) b' o' hb'
    · by_cases h3 : k % 100 = 99
      · have : k = 100 * b + 99 := by omega
        subst this; exact absurd hb' (hno99 b' o')
      · obtain ⟨i, hi, rfl⟩ := hform k h1 h2 h3
        obtain ⟨c, hc, h'⟩ := hcase i hi b' o' hb'
        rcases h' with h' | ⟨rfl, _⟩
        · exact .inl ⟨100 * h, .inr rfl, hold c b' o' (List.mem_of_getElem? hc) h'⟩
        · exact .inr (Nat.le_refl _)
    · exact absurd hb' (hnok b' o')

/-! ### A part out of an aggregate or a tuple -/
def AV.parts? {L : Type} : AV L → Option (List (AV L))
  | .agg cs => some cs
  | .tuple cs => some cs
  | _ => none
def AV.withParts {L : Type} : AV L → List (AV L) → AV L
  | .agg _, cs => .agg cs
  | .tuple _, cs => .tuple cs
  | v, _ => v

theorem er_parts (v : AL) : (er v).parts? = v.parts?.map (·.map er) := by
  cases v <;> simp [er, AV.parts?, erL_eq]
theorem er_withParts (v : AL) (cs : List AL) : er (v.withParts cs) = (er v).withParts (cs.map er) := by
  cases v <;> simp [er, AV.withParts, erL_eq]

theorem RRL_iff {X : XF LO} {β : Nat → Nat × Nat} {cs : List AL} {xs : List Value} : RRL X β cs xs ↔ cs.length = xs.length ∧ ∀ (i : Nat) (c : AL) (x : Value), cs[i]? = some c → xs[i]? = some x → RR X β c x := by
  induction cs generalizing xs with
  | nil => simp [RRL, eq_comm]
  | cons c cs ih =>
    simp only [RRL, ih]
    constructor
    · rintro ⟨y, ys, rfl, h1, h2, h3⟩
      refine ⟨by simp [h2], fun i d x hd hx => ?_⟩
      cases i with
      | zero => simp at hd hx; subst hd hx; exact h1
      | succ i => simp at hd hx; exact h3 i d x hd hx
    · rintro ⟨h1, h2⟩
      cases xs with
      | nil => simp at h1
      | cons y ys => exact ⟨y, ys, rfl, h2 0 c y rfl rfl, by simpa using h1, fun i d x hd hx => h2 (i + 1) d x (by simpa using hd) (by simpa using hx)⟩

theorem RelL.takeA {C : Ctx} {X : XF LO} {β : Nat → Nat × Nat} {I : ASet} {rg : Nat → Value} {w : World} (R : RelL C X β I rg w) (t h i : Nat) (hhl : h < 10000) (hth : t ≠ h)
    {cs : List AL} {c : AL} (hp : (X (100 * t)).2.parts? = some cs) (hi : cs[i]? = some c) {x : Value} (hr : RR X β c x) :
    RelL C ((X.set (100 * t) ((X (100 * t)).2.withParts (cs.set i .dead))).set (100 * h) c) β I (fun s => if s = h then x else rg s) w := by
  have hKt := R.key (100 * t)
  have hRt := R.reg t
  have hlt : i < cs.length := (List.getElem?_eq_some_iff.1 hi).1
  have hin := List.mem_of_getElem? hi
  generalize hV : (X (100 * t)).2 = V at *
  have hfpV : ∀ l, fp (V.withParts l) = fun b o => fpL l b o := by intro l; cases V <;> simp [AV.parts?] at hp <;> (funext b o; simp [AV.withParts, fp])
  have hsepV : ∀ l, Sep (V.withParts l) ↔ SepL l := by intro l; cases V <;> simp [AV.parts?] at hp <;> simp [AV.withParts, Sep]
  have hmemV : ∀ l, Mem w I (V.withParts l) ↔ MemA w I l := by intro l; cases V <;> simp [AV.parts?] at hp <;> simp [AV.withParts, Mem]
  have hself : V.withParts cs = V := by cases V <;> simp [AV.parts?] at hp <;> subst hp <;> rfl
  have hmem0 : MemA w I cs := (hmemV cs).1 (by rw [hself, ← hV]; exact hKt.mem)
  have hsep0 : SepL cs := (hsepV cs).1 (by rw [hself, ← hV]; exact hKt.sep)
  have hfp0 : ∀ b o, fp V b o ↔ fpL cs b o := fun b o => by rw [← hself, hfpV]
  have hset : ∀ j d, (cs.set i (.dead : AL))[j]? = some d → (j = i ∧ d = .dead) ∨ (j ≠ i ∧ cs[j]? = some d) := by
    intro j d hd
    by_cases e : j = i
    · subst e; rw [List.getElem?_set_self hlt] at hd; exact .inl ⟨rfl, (Option.some.inj hd).symm⟩
    · rw [List.getElem?_set_ne (Ne.symm e)] at hd; exact .inr ⟨e, hd⟩
  have hfps : ∀ b o, fpL (cs.set i .dead) b o → fpL cs b o ∧ ¬ fp c b o := by
    intro b o hb
    obtain ⟨d, hd, hdb⟩ := fpL_iff.1 hb
    obtain ⟨j, hj⟩ := List.getElem?_of_mem hd
    rcases hset j d hj with ⟨_, rfl⟩ | ⟨hne, hj'⟩
    · simp [fp] at hdb
    · refine ⟨fpL_iff.2 ⟨d, List.mem_of_getElem? hj', hdb⟩, fun hc => ?_⟩
      rcases Nat.lt_or_gt_of_ne hne with h | h
      · exact (SepL_iff.1 hsep0).2 j i d c h hj' hi b o hdb hc
      · exact (SepL_iff.1 hsep0).2 i j c d h hi hj' b o hc hdb
  have hne : (100 * t) ≠ 100 * h := by omega
  have hK := (keeps_set X β (100 * t) (V.withParts (cs.set i .dead))).trans (keeps_set _ β (100 * h) c)
  have hx1 : ((X.set (100 * t) (V.withParts (cs.set i .dead))).set (100 * h) c (100 * t)).2 = V.withParts (cs.set i .dead) := by rw [XF.set_ne _ _ hne, XF.set_self]
  have hx2 : ((X.set (100 * t) (V.withParts (cs.set i .dead))).set (100 * h) c (100 * h)).2 = c := by rw [XF.set_self]
  have hk1 : ∀ b o, kfp β ((X.set (100 * t) (V.withParts (cs.set i .dead))).set (100 * h) c) (100 * t) b o → kfp β X (100 * t) b o ∧ ¬ fp c b o := by
    intro b o hb
    rcases hb with hb | ⟨hc, _⟩
    · rw [hx1, hfpV] at hb
      have := hfps b o hb
      exact ⟨.inl (by rw [hV]; exact (hfp0 b o).2 this.1), this.2⟩
    · exact absurd hc (isCell_reg t)
  have hk2 : ∀ b o, kfp β ((X.set (100 * t) (V.withParts (cs.set i .dead))).set (100 * h) c) (100 * h) b o → fp c b o := by
    intro b o hb
    rcases hb with hb | ⟨hc, _⟩
    · rwa [hx2] at hb
    · exact absurd hc (isCell_reg h)
  have hck : ∀ b o, fp c b o → kfp β X (100 * t) b o := fun b o hb => .inl (by rw [hV]; exact (hfp0 b o).2 (fpL_iff.2 ⟨c, hin, hb⟩))
  refine R.change (fun k => k = 100 * t ∨ k = 100 * h) ?_ hK (fun _ _ _ => .inl rfl) (fun _ _ => rfl) ?_ ?_ ?_ ?_ ?_ (fun _ _ h => h) (fun _ _ h => .inl h) ((Frame.refl _ w).mono fun _ _ _ h => h)
  · intro k hk; rw [XF.set_ne _ _ (fun e => hk (.inr e)), XF.set_ne _ _ (fun e => hk (.inl e))]
  · intro s hs; rw [if_neg (fun e => hs.elim (fun hs => hs (.inr (by rw [e]))) (fun hs => by omega))]
  · rintro s (e | e)
    · have e : s = t := by omega
      subst e
      rw [hx1, if_neg hth]
      have key : ∀ xs : List Value, RRL X β cs xs → RRL ((X.set (100 * s) (V.withParts (cs.set i .dead))).set (100 * h) c) β (cs.set i .dead) xs := by
        intro xs hxs
        rw [RRL_iff] at hxs ⊢
        refine ⟨by simpa using hxs.1, fun j d y hd hy => ?_⟩
        rcases hset j d hd with ⟨_, rfl⟩ | ⟨_, hj'⟩
        · simp [RR]
        · exact RR_keep hK _ _ (hxs.2 j d y hj' hy)
      cases V <;> simp [AV.parts?] at hp
      · subst hp
        simp only [RR] at hRt
        obtain ⟨xs, h1, h2⟩ := hRt
        simp only [AV.withParts, RR]
        exact ⟨xs, h1, key xs h2⟩
      · subst hp
        simp only [RR] at hRt
        obtain ⟨xs, h1, h2⟩ := hRt
        simp only [AV.withParts, RR]
        exact ⟨xs, h1, key xs h2⟩
    · have e : s = h := by omega
      subst e
      rw [hx2, if_pos rfl]
      exact RR_keep hK _ _ hr
  · rintro k (rfl | rfl)
    · have m1 : MemA w I (cs.set i .dead) := by
        refine MemA_iff.2 fun d hd => ?_
        obtain ⟨j, hj⟩ := List.getElem?_of_mem hd
        rcases hset j d hj with ⟨_, rfl⟩ | ⟨_, hj'⟩
        · simp [Mem]
        · exact MemA_iff.1 hmem0 d (List.mem_of_getElem? hj')
      have m2 : SepL (cs.set i .dead) := by
        refine SepL_iff.2 ⟨fun d hd => ?_, fun a b' u v hab hu hv b o h1 h2 => ?_⟩
        · obtain ⟨j, hj⟩ := List.getElem?_of_mem hd
          rcases hset j d hj with ⟨_, rfl⟩ | ⟨_, hj'⟩
          · simp [Sep]
          · exact (SepL_iff.1 hsep0).1 d (List.mem_of_getElem? hj')
        · rcases hset a u hu with ⟨_, rfl⟩ | ⟨_, ha'⟩
          · simp [fp] at h1
          · rcases hset b' v hv with ⟨_, rfl⟩ | ⟨_, hb'⟩
            · simp [fp] at h2
            · exact (SepL_iff.1 hsep0).2 a b' u v hab ha' hb' b o h1 h2
      refine ⟨by rw [hx1, hmemV]; exact m1, by rw [hx1, hsepV]; exact m2, fun hc => absurd hc (isCell_reg t), fun b o hb => hKt.live b o (hk1 b o hb).1, fun h => by omega⟩
    · refine ⟨by rw [hx2]; exact MemA_iff.1 hmem0 c hin, by rw [hx2]; exact (SepL_iff.1 hsep0).1 c hin, fun hc => absurd hc (isCell_reg h), fun b o hb => hKt.live b o (hck b o (hk2 b o hb)), fun h => by omega⟩
  · rintro k k' (rfl | rfl) (rfl | rfl) hne' b o h1 h2
    · exact hne' rfl
    · exact (hk1 b o h1).2 (hk2 b o h2)
    · exact (hk1 b o h2).2 (hk2 b o h1)
    · exact hne' rfl
  · rintro k (rfl | rfl) b o hb
    · exact .inl ⟨_, .inl rfl, (hk1 b o hb).1⟩
    · exact .inl ⟨_, .inl rfl, hck b o (hk2 b o hb)⟩

/-! ### States without labels -/
def erF (X : XF LO) : XF Unit := fun k => ((X k).1, er (X k).2)

theorem erF_set (X : XF LO) (k : Nat) (v : AL) : erF (X.set k v) = (erF X).set k (er v) := by
  funext j
  by_cases h : j = k
  · subst h; simp [erF, XF.set, nx, er_isNode]
  · simp [erF, XF.set, h]
theorem erF_upd (X : XF LO) (k : Nat) (v : AL) : erF (X.upd k v) = (erF X).upd k (er v) := by
  funext j
  by_cases h : j = k
  · subst h; simp [erF, XF.upd]
  · simp [erF, XF.upd, h]
theorem erF_box (X : XF LO) (b : Nat) (cs : List AL) : erF (X.box b cs) = (erF X).box b (cs.map er) := by
  funext j
  simp only [erF, XF.box]
  split
  · split
    · simp [er]
    · simp only [nx, er_isNode, List.getD_eq_getElem?_getD, List.getElem?_map]
      cases cs[j % 100 - 1]? <;> simp [er]
  · rfl
end Go.OT
