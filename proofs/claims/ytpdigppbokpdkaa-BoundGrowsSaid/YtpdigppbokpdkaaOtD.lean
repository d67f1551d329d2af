/-
  The primitive changes of a state: a register is written, a tree is taken out of its place, put elsewhere, made anew.
-/
import Derived.Test.YtpdigppbokpdkaaOtC
namespace Go.OT

def AV.isNode {L : Type} : AV L → Bool
  | .sl _ _ _ _ _ => true
  | .bx _ _ _ => true
  | _ => false

def nx {L : Type} (e : Nat × AV L) : Nat := if e.2.isNode then e.1 + 1 else e.1
def XF.set {L : Type} (X : XF L) (k : Nat) (v : AV L) : XF L := fun j => if j = k then (nx (X k), v) else X j
def XF.upd {L : Type} (X : XF L) (k : Nat) (v : AV L) : XF L := fun j => if j = k then ((X k).1, v) else X j

theorem er_isNode (v : AL) : (er v).isNode = v.isNode := by cases v <;> rfl

mutual
def noOwn {L : Type} : AV L → Bool
  | .sl o _ _ _ _ => !o
  | .bx o _ _ => !o
  | .agg cs => noOwnL cs
  | .tuple cs => noOwnL cs
  | _ => true
def noOwnL {L : Type} : List (AV L) → Bool
  | [] => true
  | c :: cs => noOwn c && noOwnL cs
end

mutual
theorem er_noOwn : ∀ v : AL, noOwn (er v) = noOwn v
  | .agg cs => by simp only [er, noOwn]; exact er_noOwnL cs
  | .tuple cs => by simp only [er, noOwn]; exact er_noOwnL cs
  | .sl _ _ _ _ _ | .bx _ _ _ | .sc _ | .view _ _ _ _ _ | .ptr _ _ _ _ | .bptr _ _ _ | .vptr _ _ | .clos _ _ | .dead | .non => by simp [er, noOwn]
theorem er_noOwnL : ∀ vs : List AL, noOwnL (erL vs) = noOwnL vs
  | [] => rfl
  | v :: vs => by simp only [erL, noOwnL, er_noOwn v, er_noOwnL vs]
end

mutual
theorem noOwn_spec : ∀ v : AL, noOwn v = true → (∀ b o, ¬ fp v b o) ∧ Sep v
  | .agg cs, h => by
    simp only [noOwn] at h
    have := noOwnL_spec cs h
    simpa [fp, Sep] using this
  | .tuple cs, h => by
    simp only [noOwn] at h
    have := noOwnL_spec cs h
    simpa [fp, Sep] using this
  | .sl true _ _ _ _, h => by simp [noOwn] at h
  | .sl false _ _ _ _, _ => by simp [fp, Sep]
  | .bx true _ _, h => by simp [noOwn] at h
  | .bx false _ _, _ => by simp [fp, Sep]
  | .sc _, _ | .view _ _ _ _ _, _ | .ptr _ _ _ _, _ | .bptr _ _ _, _ | .vptr _ _, _ | .clos _ _, _ | .dead, _ | .non, _ => by simp [fp, Sep]
theorem noOwnL_spec : ∀ vs : List AL, noOwnL vs = true → (∀ b o, ¬ fpL vs b o) ∧ SepL vs
  | [], _ => by simp [fpL, SepL]
  | v :: vs, h => by
    simp only [noOwnL, Bool.and_eq_true] at h
    have h1 := noOwn_spec v h.1
    have h2 := noOwnL_spec vs h.2
    refine ⟨fun b o hb => ?_, by simp only [SepL]; exact ⟨h1.2, h2.2, fun b o hb => absurd hb (h1.1 b o)⟩⟩
    simp only [fpL] at hb
    exact hb.elim (h1.1 b o) (h2.1 b o)
end

theorem hd_isNode {v : AL} {h : Bool × LO × Nat × Nat} (e : hd v = some h) : v.isNode = true := by
  cases v <;> simp [hd] at e <;> rfl

theorem getN_hd_isNode {v : AL} {p : List Nat} {h : Bool × LO × Nat × Nat} (e : (getN v p).bind hd = some h) : v.isNode = true := by
  cases p with
  | nil => simp only [getN, Option.bind_some] at e; exact hd_isNode e
  | cons i p => cases v <;> simp [getN, AV.cells?] at e <;> rfl

theorem nx_ge {L : Type} (e : Nat × AV L) : e.1 ≤ nx e := by unfold nx; split <;> omega

theorem XF.set_self {L : Type} (X : XF L) (k : Nat) (v : AV L) : X.set k v k = (nx (X k), v) := by simp [XF.set]
theorem XF.set_ne {L : Type} (X : XF L) {k j : Nat} (v : AV L) (h : j ≠ k) : X.set k v j = X j := by simp [XF.set, h]
theorem XF.upd_self {L : Type} (X : XF L) (k : Nat) (v : AV L) : X.upd k v k = ((X k).1, v) := by simp [XF.upd]
theorem XF.upd_ne {L : Type} (X : XF L) {k j : Nat} (v : AV L) (h : j ≠ k) : X.upd k v j = X j := by simp [XF.upd, h]

theorem Keeps.refl (X : XF LO) (β : Nat → Nat × Nat) : Keeps X X β β := ⟨fun _ => Nat.le_refl _, fun _ _ _ _ h => h, fun _ _ => rfl⟩
theorem Keeps.trans {X X' X'' : XF LO} {β β' β'' : Nat → Nat × Nat} (h : Keeps X X' β β') (h' : Keeps X' X'' β' β'') : Keeps X X'' β β'' :=
  ⟨fun k => Nat.le_trans (h.gen k) (h'.gen k),
   fun k e p a ha => by
    have h1 := h.gen k; have h2 := h'.gen k
    exact h'.hd k (by omega) p a (h.hd k (by omega) p a ha),
   fun b e => by
    have h1 := h.gen (100 * b + 99); have h2 := h'.gen (100 * b + 99)
    exact (h'.box b (by omega)).trans (h.box b (by omega))⟩

theorem keeps_set (X : XF LO) (β : Nat → Nat × Nat) (k : Nat) (v : AL) : Keeps X (X.set k v) β β := by
  refine ⟨fun j => ?_, fun j e p a ha => ?_, fun b _ => rfl⟩
  · by_cases h : j = k
    · subst h; rw [XF.set_self]; exact nx_ge _
    · rw [XF.set_ne _ _ h]; exact Nat.le_refl _
  · by_cases h : j = k
    · subst h
      rw [XF.set_self] at e
      have hn := getN_hd_isNode ha
      simp [nx, hn] at e
    · rw [XF.set_ne _ _ h]; exact ha

/-- A cell that is no node is replaced: no header on any path turns. -/
theorem hd_setN {u u' : AL} (hu : u.isNode = false) (q : List Nat) : ∀ (v : AL), q ≠ [] → getN v q = some u → ∀ p h, (getN v p).bind hd = some h → (getN (setN v q u') p).bind hd = some h := by
  induction q with
  | nil => intro v hq; exact absurd rfl hq
  | cons i q ih =>
    intro v _ hg p h hp
    simp only [getN] at hg
    cases hc : v.cells? with
    | none => simp [hc] at hg
    | some cs =>
      simp only [hc] at hg
      cases hi : cs[i]? with
      | none => simp [hi] at hg
      | some c =>
        simp only [hi] at hg
        have hlt : i < cs.length := (List.getElem?_eq_some_iff.1 hi).1
        have hset : setN v (i :: q) u' = v.withCells (cs.set i (setN c q u')) := by
          simp only [setN, hc]; congr 3; simp [List.getD_eq_getElem?_getD, hi]
        rw [hset]
        cases p with
        | nil =>
          simp only [getN, Option.bind_some] at hp ⊢
          cases v <;> simp [AV.cells?] at hc <;> simpa [AV.withCells, hd] using hp
        | cons j p =>
          have hwc : (v.withCells (cs.set i (setN c q u'))).cells? = some (cs.set i (setN c q u')) := by
            cases v <;> simp [AV.cells?] at hc <;> rfl
          simp only [getN, hc] at hp
          simp only [getN, hwc]
          by_cases e : j = i
          · subst e
            rw [hi] at hp
            rw [List.getElem?_set_self hlt]
            simp only at hp ⊢
            by_cases hq : q = []
            · subst hq
              simp only [getN, Option.some.injEq] at hg; subst hg
              have := getN_hd_isNode hp
              rw [hu] at this; cases this
            · exact ih c hq hg p h hp
          · rw [List.getElem?_set_ne (Ne.symm e)]
            exact hp

theorem isCell_reg (t : Nat) : ¬ isCell (100 * t) := by unfold isCell; omega

/-- The world turns beside the state. -/
theorem RelL.world {C : Ctx} {X : XF LO} {β : Nat → Nat × Nat} {I : ASet} {rg : Nat → Value} {w w' : World} (R : RelL C X β I rg w)
    (hw : Frame (fun _ _ => False) w w') : RelL C X β I rg w' :=
  R.change (fun _ => False) (fun _ _ => rfl) (Keeps.refl X β) (fun _ _ _ => .inl rfl) (fun _ _ => rfl) (fun _ _ => rfl) (fun _ h => h.elim) (fun _ h => h.elim)
    (fun _ _ h => h.elim) (fun _ h => h.elim) (fun _ _ h => h) (fun _ _ h => .inl h) (hw.mono fun _ _ _ h => h.elim)

theorem frame_drew (K : ASet) (w : World) : Frame K w { w with drawn := w.drawn + 1 } :=
  ⟨rfl, rfl, rfl, Nat.le_refl _, fun _ _ _ => rfl, fun _ _ _ _ => rfl, fun _ _ _ => rfl, fun _ _ _ => rfl⟩

theorem frame_alloc (K : ASet) (w : World) (ob : Obj) : Frame K w { w with heap := w.heap.push ob } := by
  have hb : ∀ b, b < w.heap.size → (w.heap.push ob)[b]? = w.heap[b]? := fun b h => by rw [Array.getElem?_push, if_neg (by omega)]
  refine ⟨rfl, rfl, rfl, by simp, fun b h _ => hb b h, fun b o h _ => ?_, fun b o h => ?_, fun b o h => ?_⟩
  · simp only [World.at, World.cell?, hb b h]
  · simp only [World.at, World.cell?, hb b h]
  · simp only [World.fz, World.frozen?, hb b h]

/-- A register is written with what owns nothing. -/
theorem RelL.setR {C : Ctx} {X : XF LO} {β : Nat → Nat × Nat} {I : ASet} {rg : Nat → Value} {w : World} (R : RelL C X β I rg w) (t : Nat) (htl : t < 10000) {v : AL} {x : Value}
    (hv : noOwn v = true) (hm : Mem w I v) (hr : RR X β v x) : RelL C (X.set (100 * t) v) β I (fun s => if s = t then x else rg s) w := by
  have hn := noOwn_spec v hv
  refine R.change (fun k => k = 100 * t) (fun k hk => XF.set_ne _ _ hk) (keeps_set X β _ v) (fun _ _ _ => .inl rfl) (fun _ _ => rfl) ?_ ?_ ?_ ?_ ?_ (fun _ _ h => h) (fun _ _ h => .inl h)
    ((Frame.refl _ w).mono fun _ _ _ h => h)
  · intro s hs; rw [if_neg (fun e => hs.elim (fun hs => hs (by rw [e])) (fun hs => by omega))]
  · intro s hs
    have e : s = t := by omega
    subst e
    rw [XF.set_self, if_pos rfl]
    exact RR_keep (keeps_set X β _ v) _ _ hr
  · rintro k rfl
    have hx : (X.set (100 * t) v (100 * t)).2 = v := by rw [XF.set_self]
    refine ⟨by rw [hx]; exact hm, by rw [hx]; exact hn.2, fun hc => absurd hc (isCell_reg t), ?_, fun h => by omega⟩
    intro b o hb
    rcases hb with hb | ⟨hc, _⟩
    · rw [hx] at hb; exact absurd hb (hn.1 b o)
    · exact absurd hc (isCell_reg t)
  · rintro k k' rfl rfl hne; exact absurd rfl hne
  · rintro k rfl b o hb
    rcases hb with hb | ⟨hc, _⟩
    · rw [XF.set_self] at hb; exact absurd hb (hn.1 b o)
    · exact absurd hc (isCell_reg t)

/-- Something new: what it owns is fresh, or was owned by the registers hs, which are given up. -/
theorem RelL.fresh {C : Ctx} {X : XF LO} {β : Nat → Nat × Nat} {I : ASet} {rg : Nat → Value} {w w' : World} (R : RelL C X β I rg w) (t : Nat) (htl : t < 10000) (hs : List Nat) (ht : t ∉ hs) {v : AL} {x : Value}
    (hw : Frame (fun _ _ => False) w w') (hm : Mem w' I v) (hsep : Sep v) (hr : RR X β v x)
    (hfp : ∀ b o, fp v b o → (w.heap.size ≤ b ∧ b < w'.heap.size ∧ w'.fz b o = false ∧ (w'.at b o).isSome) ∨ ∃ h ∈ hs, fp (X (100 * h)).2 b o) :
    RelL C (hs.foldl (fun Y h => Y.set (100 * h) .non) (X.set (100 * t) v)) β I (fun s => if s = t then x else rg s) w' := by
  have hX : ∀ (l : List Nat) (Y : XF LO) (k : Nat), (∀ h ∈ l, k ≠ 100 * h) → (l.foldl (fun Y h => Y.set (100 * h) .non) Y) k = Y k := by
    intro l
    induction l with
    | nil => intro Y k _; rfl
    | cons a l ih =>
      intro Y k hk
      rw [List.foldl_cons, ih _ _ (fun h hh => hk h (by simp [hh])), XF.set_ne _ _ (hk a (by simp))]
  have hX2 : ∀ (l : List Nat) (Y : XF LO) (h : Nat), h ∈ l → ((l.foldl (fun Y h => Y.set (100 * h) .non) Y) (100 * h)).2 = .non := by
    intro l
    induction l with
    | nil => intro Y h hh; cases hh
    | cons a l ih =>
      intro Y h hh
      rw [List.foldl_cons]
      by_cases hin : h ∈ l
      · exact ih _ h hin
      · have : h = a := by simpa [hin] using hh
        subst this
        rw [hX _ _ _ (fun h' hh' e => hin (by have : h = h' := by omega
                                              rw [this]; exact hh')), XF.set_self]
  have hK : ∀ (l : List Nat) (Y : XF LO), Keeps Y (l.foldl (fun Y h => Y.set (100 * h) .non) Y) β β := by
    intro l
    induction l with
    | nil => intro Y; exact Keeps.refl Y β
    | cons a l ih => intro Y; exact (keeps_set Y β _ _).trans (ih _)
  have hKK := (keeps_set X β (100 * t) v).trans (hK hs (X.set (100 * t) v))
  have hxt : (hs.foldl (fun Y h => Y.set (100 * h) .non) (X.set (100 * t) v)) (100 * t) = (nx (X (100 * t)), v) := by
    rw [hX _ _ _ (fun h hh e => ht (by have : t = h := by omega
                                       rw [this]; exact hh)), XF.set_self]
  have hD : ∀ k, (k = 100 * t ∨ ∃ h ∈ hs, k = 100 * h) → ¬ isCell k := by
    rintro k (rfl | ⟨h, _, rfl⟩) <;> exact isCell_reg _
  refine R.change (fun k => k = 100 * t ∨ ∃ h ∈ hs, k = 100 * h) ?_ hKK (fun _ _ _ => .inl rfl) (fun _ _ => rfl) ?_ ?_ ?_ ?_ ?_ (fun _ _ h => h) (fun _ _ h => .inl h) (hw.mono fun _ _ _ h => h.elim)
  · intro k hk
    rw [hX _ _ _ (fun h hh e => hk (.inr ⟨h, hh, e⟩)), XF.set_ne _ _ (fun e => hk (.inl e))]
  · intro s hs'; rw [if_neg (fun e => hs'.elim (fun hs' => hs' (.inl (by rw [e]))) (fun hs' => by omega))]
  · rintro s (e | ⟨h, hh, e⟩)
    · have e : s = t := by omega
      subst e
      rw [hxt, if_pos rfl]
      exact RR_keep hKK _ _ hr
    · have e : s = h := by omega
      subst e
      rw [hX2 _ _ _ hh]
      simp [RR]
  · intro k hk
    rcases hk with rfl | ⟨h, hh, rfl⟩
    · refine ⟨by rw [hxt]; exact hm, by rw [hxt]; exact hsep, fun hc => absurd hc (isCell_reg t), ?_, fun h => by omega⟩
      intro b o hb
      rcases hb with hb | ⟨hc, _⟩
      · rw [hxt] at hb
        rcases hfp b o hb with ⟨_, h2, h3, h4⟩ | ⟨h, hh, hb⟩
        · exact ⟨h2, h3, h4⟩
        · obtain ⟨h1, h2, h3⟩ := (R.key (100 * h)).live b o (.inl hb)
          exact ⟨Nat.lt_of_lt_of_le h1 hw.size, by rw [hw.fz b o h1]; exact h2, by rw [hw.some b o h1]; exact h3⟩
      · exact absurd hc (isCell_reg t)
    · refine ⟨by rw [hX2 _ _ _ hh]; simp [Mem], by rw [hX2 _ _ _ hh]; simp [Sep], fun hc => absurd hc (isCell_reg h), ?_, fun _ => hX2 _ _ _ hh⟩
      intro b o hb
      rcases hb with hb | ⟨hc, _⟩
      · rw [hX2 _ _ _ hh] at hb; simp [fp] at hb
      · exact absurd hc (isCell_reg h)
  · intro k k' hk hk' hne b o hb hb'
    have hnon : ∀ h ∈ hs, ¬ kfp β (hs.foldl (fun Y h => Y.set (100 * h) .non) (X.set (100 * t) v)) (100 * h) b o := by
      intro h hh hb
      rcases hb with hb | ⟨hc, _⟩
      · rw [hX2 _ _ _ hh] at hb; simp [fp] at hb
      · exact absurd hc (isCell_reg h)
    rcases hk with rfl | ⟨h, hh, rfl⟩
    · rcases hk' with rfl | ⟨h', hh', rfl⟩
      · exact hne rfl
      · exact hnon h' hh' hb'
    · exact hnon h hh hb
  · intro k hk b o hb
    rcases hb with hb | ⟨hc, _⟩
    · rcases hk with rfl | ⟨h, hh, rfl⟩
      · rw [hxt] at hb
        rcases hfp b o hb with ⟨h1, _⟩ | ⟨h, hh, hb⟩
        · exact .inr h1
        · exact .inl ⟨100 * h, .inr ⟨h, hh, rfl⟩, .inl hb⟩
      · rw [hX2 _ _ _ hh] at hb; simp [fp] at hb
    · exact absurd hc (hD k hk)
end Go.OT
