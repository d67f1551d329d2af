/-
  Calls over contracts: the operation.
-/
import Derived.Test.YtpdigppbokpdkaaOtT
set_option linter.unusedSimpArgs false
set_option linter.unusedVariables false
namespace Go.OT

def AV.isNon' {L : Type} : AV L → Bool
  | .non => true
  | _ => false

/-- The node when the call is over. -/
def afterN (X Y : XF LO) (j : Nat) (e : Nat × List Nat) : AL :=
  match nodeOf X e with
  | .bx _ l cs => .bx true l ((List.range cs.length).map fun i => (Y (gkey j + 1 + i)).2)
  | _ => (Y (gkey j)).2

def lentsOf (X Y : XF LO) : Nat → List (Nat × List Nat) → List Lent
  | _, [] => []
  | j, e :: l => ⟨e.1, e.2, nodeOf X e, afterN X Y j e⟩ :: lentsOf X Y (j + 1) l

theorem lentsOf_k (X Y : XF LO) : ∀ (j : Nat) (l : List (Nat × List Nat)), (lentsOf X Y j l).map (·.k) = l.map (·.1)
  | _, [] => rfl
  | j, e :: l => by simp [lentsOf, lentsOf_k X Y (j + 1) l]

theorem mem_lentsOf {X Y : XF LO} {f : Lent} : ∀ {j0 : Nat} {l : List (Nat × List Nat)}, f ∈ lentsOf X Y j0 l ↔ ∃ j e, l[j]? = some e ∧ f = ⟨e.1, e.2, nodeOf X e, afterN X Y (j0 + j) e⟩
  | j0, [] => by simp [lentsOf]
  | j0, e :: l => by
    simp only [lentsOf, List.mem_cons, mem_lentsOf (j0 := j0 + 1) (l := l)]
    constructor
    · rintro (rfl | ⟨j, e', h, rfl⟩)
      · exact ⟨0, e, rfl, rfl⟩
      · exact ⟨j + 1, e', by simpa using h, by rw [show j0 + 1 + j = j0 + (j + 1) by omega]⟩
    · rintro ⟨j, e', h, rfl⟩
      cases j with
      | zero => simp at h; subst h; left; rfl
      | succ j => right; exact ⟨j, e', by simpa using h, by rw [show j0 + 1 + j = j0 + (j + 1) by omega]⟩

/-- The loans may come back so. -/
def ghOk : Gh Unit → Gh Unit → Bool
  | .nod _, .nod (.sl o _ _ _ _) => o
  | .box cs, .box cs' => cs.length == cs'.length && cs'.all (fun c => !c.isNon')
  | _, _ => false

def ghsOk : List (Gh Unit) → List (Gh Unit) → Bool
  | [], [] => true
  | g :: l, g' :: l' => ghOk g g' && ghsOk l l'
  | _, _ => false

theorem ghsOk_at : ∀ {l l' : List (Gh Unit)}, ghsOk l l' = true → l.length = l'.length ∧ ∀ (j : Nat) (g : Gh Unit), l[j]? = some g → ∃ g', l'[j]? = some g' ∧ ghOk g g' = true
  | [], [], _ => by simp
  | [], _ :: _, h => by simp [ghsOk] at h
  | _ :: _, [], h => by simp [ghsOk] at h
  | g :: l, g' :: l', h => by
    simp only [ghsOk, Bool.and_eq_true] at h
    have ih := ghsOk_at h.2
    refine ⟨by simp [ih.1], fun j x hx => ?_⟩
    cases j with
    | zero => simp at hx; subst hx; exact ⟨g', rfl, h.1⟩
    | succ j => simp at hx; simpa using ih.2 j x hx

def backU (X : XF Unit) : List ((Nat × List Nat) × Gh Unit) → XF Unit
  | [] => X
  | e :: l => (backU X l).set e.1.1 (setN (X e.1.1).2 e.1.2 (nodeAfter e.2))

mutual
theorem RR_rootless {X X' : XF LO} {β β' : Nat → Nat × Nat} : ∀ (v : AL) (x : Value), roots v = [] → RR X β v x → RR X' β' v x
  | .view k g p off len, x, hk, h => by simp [roots] at hk
  | .ptr k g p i, x, hk, h => by simp [roots] at hk
  | .bptr b g i, x, hk, h => by simp [roots] at hk
  | .agg cs, x, hk, h => by
    simp only [RR] at h ⊢
    obtain ⟨xs, h1, h2⟩ := h
    exact ⟨xs, h1, RRL_rootless cs xs (by simpa [roots] using hk) h2⟩
  | .tuple cs, x, hk, h => by
    simp only [RR] at h ⊢
    obtain ⟨xs, h1, h2⟩ := h
    exact ⟨xs, h1, RRL_rootless cs xs (by simpa [roots] using hk) h2⟩
  | .clos f cs, x, hk, h => by
    simp only [RR] at h ⊢
    obtain ⟨xs, h1, h2⟩ := h
    exact ⟨xs, h1, RRL_rootless cs xs (by simpa [roots] using hk) h2⟩
  | .vptr l cs, x, _, h => by simpa [RR] using h
  | .non, _, _, _ => by simp [RR]
  | .dead, _, _, _ => by simp [RR]
  | .sc v, x, _, h => by simpa [RR] using h
  | .sl o l s n cs, x, _, h => by simpa [RR] using h
  | .bx o l cs, x, _, h => by simpa [RR] using h
theorem RRL_rootless {X X' : XF LO} {β β' : Nat → Nat × Nat} : ∀ (vs : List AL) (xs : List Value), rootsL vs = [] → RRL X β vs xs → RRL X' β' vs xs
  | [], _, _, h => by simpa [RRL] using h
  | v :: vs, xs, hk, h => by
    simp only [RRL] at h ⊢
    simp only [rootsL, List.append_eq_nil_iff] at hk
    obtain ⟨y, ys, h1, h2, h3⟩ := h
    exact ⟨y, ys, h1, RR_rootless v y hk.1 h2, RRL_rootless vs ys hk.2 h3⟩
end

section
variable {C : Ctx} {X : XF LO} {β : Nat → Nat × Nat} {I : ASet} {rg : Nat → Value} {w : World} {ls : List (Nat × List Nat)} {gs : List (Gh Unit)}

/-- A register is written with what is owned by nobody else. -/
theorem RelL.putOwn (R : RelL C X β I rg w) (t : Nat) (htl : t < 10000) {v : AL} {x : Value} (hm : Mem w I v) (hs : Sep v) (hr : RR X β v x)
    (hf : ∀ b o, fp v b o → b < w.heap.size ∧ w.fz b o = false ∧ (w.at b o).isSome ∧ ¬ I b o ∧ (C.K b o ∨ C.w0.heap.size ≤ b) ∧ ∀ k, ¬ kfp β X k b o) :
    RelL C (X.set (100 * t) v) β I (fun s => if s = t then x else rg s) w := by
  have hk := keeps_set X β (100 * t) v
  have hne : ∀ k, k ≠ 100 * t → (X.set (100 * t) v) k = X k := fun k h => XF.set_ne _ _ h
  have hself := XF.set_self X (100 * t) v
  have hkfp : ∀ k b o, kfp β (X.set (100 * t) v) k b o → (k = 100 * t ∧ fp v b o) ∨ (k ≠ 100 * t ∧ kfp β X k b o) := by
    intro k b o h
    by_cases e : k = 100 * t
    · subst e
      rcases h with h | ⟨hc, _⟩
      · rw [hself] at h; exact .inl ⟨rfl, h⟩
      · exact absurd (by omega) hc.1
    · rw [kfp, hne k e] at h; exact .inr ⟨e, h⟩
  refine ⟨fun s => ?_, fun k => ?_, fun k k' hkk b o h1 h2 => ?_, fun b o h => ⟨(R.imm b o h).1, fun k h' => ?_⟩, fun k b o h => ?_, R.frI, R.frI0, R.fr, R.gh, fun s hs => ?_⟩
  · by_cases e : s = t
    · subst e; rw [hself]; simp only [if_true]; exact RR_keep hk _ _ hr
    · rw [hne _ (by omega)]; simp only [e, if_false]; exact RR_keep hk _ _ (R.reg s)
  · by_cases e : k = 100 * t
    · subst e
      refine ⟨by rw [hself]; exact hm, by rw [hself]; exact hs, fun hc => absurd (by omega) hc.1, fun b o h => ?_, fun h => by omega⟩
      rcases hkfp _ b o h with ⟨_, h⟩ | ⟨h, _⟩
      · have := hf b o h; exact ⟨this.1, this.2.1, this.2.2.1⟩
      · exact absurd rfl h
    · have h := R.key k
      refine ⟨by rw [hne k e]; exact h.mem, by rw [hne k e]; exact h.sep, by rw [hne k e]; exact h.cell, fun b o hb => ?_, by rw [hne k e]; exact h.last⟩
      rcases hkfp _ b o hb with ⟨h', _⟩ | ⟨_, h'⟩
      · exact absurd h' e
      · exact h.live b o h'
  · rcases hkfp _ b o h1 with ⟨e1, g1⟩ | ⟨_, g1⟩
    · rcases hkfp _ b o h2 with ⟨e2, g2⟩ | ⟨_, g2⟩
      · exact hkk (e1.trans e2.symm)
      · exact (hf b o g1).2.2.2.2.2 k' g2
    · rcases hkfp _ b o h2 with ⟨e2, g2⟩ | ⟨_, g2⟩
      · exact (hf b o g2).2.2.2.2.2 k g1
      · exact R.disj k k' hkk b o g1 g2
  · rcases hkfp _ b o h' with ⟨_, g⟩ | ⟨_, g⟩
    · exact (hf b o g).2.2.2.1 h
    · exact (R.imm b o h).2 k g
  · rcases hkfp _ b o h with ⟨_, g⟩ | ⟨_, g⟩
    · exact (hf b o g).2.2.2.2.1
    · exact R.frK k b o g
  · rw [if_neg (by omega)]; exact R.gr s hs

theorem erF_back (Y : XF LO) : ∀ (j0 : Nat) (l : List (Nat × List Nat)) (gl : List (Gh Unit)), l.length = gl.length → (∀ (j : Nat) (e : Nat × List Nat) (g : Gh Unit), l[j]? = some e → gl[j]? = some g → er (afterN X Y (j0 + j) e) = nodeAfter g) →
    erF (back X (lentsOf X Y j0 l)) = backU (erF X) (l.zip gl)
  | j0, [], gl, hl, _ => by simp [lentsOf, back, backU]
  | j0, e :: l, [], hl, _ => by simp at hl
  | j0, e :: l, g :: gl, hl, h => by
    simp only [lentsOf, back, List.zip_cons_cons, backU]
    rw [erF_set, er_setN, erF_back Y (j0 + 1) l gl (by simpa using hl) (fun j e' g' h1 h2 => by
      have := h (j + 1) e' g' (by simpa using h1) (by simpa using h2)
      rwa [show j0 + (j + 1) = j0 + 1 + j by omega] at this)]
    have := h 0 e g rfl rfl
    simp only [Nat.add_zero] at this
    rw [this]; rfl

/-- What is known of a loan's node when the call is over. -/
theorem after_ok {own : Bool} {args : Array Value} {Y : XF LO} {β' : Nat → Nat × Nat} {I1 I2 : ASet} {rg' : Nat → Value} {w' : World} {gs' : List (Gh Unit)} {r : AU} (L : Loans X β I w ls gs)
    (R' : RelL (CC C X β I w ls own args) Y β' I1 rg' w') (hF : Fin (erF Y) gs' r) (hok : ghsOk gs gs' = true) (himm : own = true → gs'.all ghImm = true)
    (hmem : ∀ v, (own = true → noImm v = true) → Mem w' I1 v → Mem w' I2 v) {j : Nat} {e : Nat × List Nat} (hj : ls[j]? = some e) :
    (∃ g', gs'[j]? = some g' ∧ er (afterN X Y j e) = nodeAfter g') ∧ (afterN X Y j e).isNode = true ∧ Mem w' I2 (afterN X Y j e) ∧ Sep (afterN X Y j e) ∧ (∀ y, CR (nodeOf X e) y → CR (afterN X Y j e) y) ∧
      ∀ b o, fp (afterN X Y j e) b o → ∃ k, k / 100 = 10000 + j ∧ kfp β' Y k b o := by
  obtain ⟨g, hg, _, hnode, _, hmN, _, _, hor⟩ := L.at_ j e hj
  obtain ⟨g', hg', hgg⟩ := (ghsOk_at hok).2 j g hg
  have hfin := hF.2 j g' hg'
  have hjg : own = true → ghImm g' = true := fun h => List.all_eq_true.1 (himm h) g' (List.mem_of_getElem? hg')
  rcases hor with ⟨l, s, n, cs, hN, rfl⟩ | ⟨l, cs, hN, rfl, hlen⟩
  · cases g' with
    | box cs' => simp [ghOk] at hgg
    | nod v =>
      have hA : afterN X Y j e = (Y (gkey j)).2 := by simp [afterN, hN]
      cases v with
      | sl o u s' n' cs' =>
        simp only [ghOk] at hgg
        subst hgg
        have hfin' : er (Y (gkey j)).2 = .sl true () s' n' cs' := by simpa [erF, gkey] using hfin
        obtain ⟨l', lcs, hY, _⟩ := er_sl hfin'
        have hk := R'.key (gkey j)
        rw [hA]
        refine ⟨⟨_, hg', by rw [hfin', nodeAfter]⟩, by rw [hY]; rfl, hmem _ (fun h => ?_) hk.mem, hk.sep, fun y hy => ?_, fun b o hb => ⟨gkey j, by unfold gkey; omega, .inl hb⟩⟩
        · rw [← er_noImm, hfin']; simpa [ghImm] using hjg h
        · have hy' := CR_hdrV hnode hy
          have hreg := R'.reg (10000 + j)
          have hgr : rg' (10000 + j) = hdrV (nodeOf X e) := by
            have := R'.gr (10000 + j) (by omega)
            rw [this]
            show rgC X ls args (10000 + j) = _
            simp only [rgC, if_neg (show ¬ 10000 + j < 10000 by omega), show 10000 + j - 10000 = j by omega, List.getElem?_map, hj, Option.map_some, Option.elim]
          rw [hgr, show 100 * (10000 + j) = gkey j from rfl, hY] at hreg
          rw [hY, hy']
          simpa [RR] using hreg
      | _ => simp [ghOk] at hgg
  · cases g' with
    | nod v => simp [ghOk] at hgg
    | box cs' =>
      simp only [ghOk, List.length_map, Bool.and_eq_true, beq_iff_eq, List.all_eq_true] at hgg
      obtain ⟨hll, hnn⟩ := hgg
      have hA : afterN X Y j e = .bx true (some l) ((List.range cs.length).map fun i => (Y (gkey j + 1 + i)).2) := by simp [afterN, hN]
      have hcell : ∀ i, i < cs.length → er (Y (gkey j + 1 + i)).2 = cs'[i]?.getD .non ∧ (Y (gkey j + 1 + i)).2 ≠ .non ∧ isCell (gkey j + 1 + i) ∧ (gkey j + 1 + i) / 100 = 10000 + j ∧ (gkey j + 1 + i) % 100 = 1 + i := by
        intro i hi
        have hc' : cs'[i]? = some cs'[i] := List.getElem?_eq_getElem (by omega)
        have h1 : er (Y (gkey j + 1 + i)).2 = cs'[i] := hfin i _ hc' (by omega)
        refine ⟨by rw [h1, hc']; rfl, fun hn => ?_, ⟨by unfold gkey; omega, by unfold gkey; omega⟩, by unfold gkey; omega, by unfold gkey; omega⟩
        rw [hn] at h1
        have := hnn _ (List.mem_of_getElem? hc')
        rw [← h1] at this
        simp [er, AV.isNon'] at this
      have hβ : β' (10000 + j) = (l.b, l.o) := by
        have := R'.gh (10000 + j) (by omega)
        rw [this]
        show βC X ls (10000 + j) = _
        simp only [βC, if_neg (show ¬ 10000 + j < 10000 by omega), show 10000 + j - 10000 = j by omega, List.getElem?_map, hj, Option.map_some, hN, boxAt]
      have hget : ∀ i c, ((List.range cs.length).map fun i => (Y (gkey j + 1 + i)).2)[i]? = some c → i < cs.length ∧ c = (Y (gkey j + 1 + i)).2 := by
        intro i c hc
        have hi : i < cs.length := by
          have := (List.getElem?_eq_some_iff.1 hc).1
          simpa using this
        simp [hi] at hc
        exact ⟨hi, hc.symm⟩
      have haddr : ∀ i, i < cs.length → kfp β' Y (gkey j + 1 + i) l.b (l.o + i) := by
        intro i hi
        obtain ⟨_, c2, c3, c4, c5⟩ := hcell i hi
        refine .inr ⟨c3, c2, ?_, ?_⟩
        · rw [c4, hβ]
        · rw [c4, hβ, c5]; simp only; omega
      rw [hA]
      refine ⟨⟨_, hg', ?_⟩, rfl, ?_, ?_, ?_, ?_⟩
      · simp only [er, nodeAfter, erL_eq, List.map_map]
        congr 1
        apply List.ext_getElem?
        intro i
        by_cases hi : i < cs.length
        · have := (hcell i hi).1
          rw [List.getElem?_eq_getElem (by omega : i < cs'.length)] at this ⊢
          simp only [Option.getD_some] at this
          simp [hi, this]
        · rw [List.getElem?_eq_none (by simpa using Nat.le_of_not_lt hi), List.getElem?_eq_none (by omega : cs'.length ≤ i)]
      · have hall : Mem w' I1 (.bx true (some l) ((List.range cs.length).map fun i => (Y (gkey j + 1 + i)).2)) := by
          simp only [Mem]
          refine MemL_iff.2 fun i c hc => ?_
          obtain ⟨hi, rfl⟩ := hget i c hc
          obtain ⟨_, c2, c3, c4, c5⟩ := hcell i hi
          have hk := R'.key (gkey j + 1 + i)
          obtain ⟨hy, _⟩ := hk.cell c3 c2
          rw [c4, hβ, c5] at hy
          simp only at hy
          rw [show 1 + i - 1 = i by omega] at hy
          exact ⟨hy, hk.mem, fun h => by simp at h⟩
        refine hmem _ (fun h => ?_) hall
        rw [← er_noImm]
        simp only [er, noImm, Bool.true_and]
        have hcs : erL ((List.range cs.length).map fun i => (Y (gkey j + 1 + i)).2) = cs' := by
          rw [erL_eq]
          apply List.ext_getElem?
          intro i
          by_cases hi : i < cs.length
          · have := (hcell i hi).1
            rw [List.getElem?_eq_getElem (by omega : i < cs'.length)] at this ⊢
            simp only [Option.getD_some] at this
            simp [hi, this]
          · rw [List.getElem?_eq_none (by simpa using Nat.le_of_not_lt hi), List.getElem?_eq_none (by omega : cs'.length ≤ i)]
        rw [hcs]
        simpa [ghImm] using hjg h
      · simp only [Sep]
        refine ⟨fun i hi hb => ?_, ?_⟩
        · simp at hi
          obtain ⟨c, hc, hcb⟩ := fpL_iff.1 hb
          obtain ⟨i', hi'⟩ := List.getElem?_of_mem hc
          obtain ⟨hlt', rfl⟩ := hget i' c hi'
          by_cases hii : i = i'
          · subst hii
            obtain ⟨_, c2, c3, c4, c5⟩ := hcell i hi
            have := ((R'.key (gkey j + 1 + i)).cell c3 c2).2
            rw [c4, hβ, c5] at this
            simp only at this
            rw [show 1 + i - 1 = i by omega] at this
            exact this hcb
          · exact R'.disj (gkey j + 1 + i) (gkey j + 1 + i') (by omega) _ _ (haddr i hi) (.inl hcb)
        · refine SepL_iff.2 ⟨fun c hc => ?_, fun i i' u v hii hu hv b o h1 h2 => ?_⟩
          · obtain ⟨i', hi'⟩ := List.getElem?_of_mem hc
            obtain ⟨hlt', rfl⟩ := hget i' c hi'
            exact (R'.key _).sep
          · obtain ⟨hi, rfl⟩ := hget i u hu
            obtain ⟨hi', rfl⟩ := hget i' v hv
            exact R'.disj (gkey j + 1 + i) (gkey j + 1 + i') (by omega) b o (.inl h1) (.inl h2)
      · intro y hy
        rw [hN] at hy
        simpa [CR] using hy
      · intro b o hb
        simp only [fp] at hb
        rcases hb with ⟨rfl, h1, h2⟩ | hb
        · simp at h2
          have := haddr (o - l.o) (by omega)
          rw [show l.o + (o - l.o) = o by omega] at this
          exact ⟨_, by unfold gkey; omega, this⟩
        · obtain ⟨c, hc, hcb⟩ := fpL_iff.1 hb
          obtain ⟨i', hi'⟩ := List.getElem?_of_mem hc
          obtain ⟨hlt', rfl⟩ := hget i' c hi'
          exact ⟨_, (hcell i' hlt').2.2.2.1, .inl hcb⟩

/-- What comes back from a call. -/
theorem call_back {own : Bool} {args : Array Value} {Y : XF LO} {β' : Nat → Nat × Nat} {I1 : ASet} {rg' : Nat → Value} {w' : World} {gs' : List (Gh Unit)} {r : AU} (R : RelL C X β I rg w) (L : Loans X β I w ls gs)
    (R' : RelL (CC C X β I w ls own args) Y β' I1 rg' w') (hF : Fin (erF Y) gs' r) (hok : ghsOk gs gs' = true) (himm : own = true → gs'.all ghImm = true ∧ noImm r = true) (hroot : roots r = []) {d : Nat} (hd : d < 10000) :
    ∃ XL2 I2, erF XL2 = (backU (erF X) (ls.zip gs')).set (100 * d) r ∧ RelL C XL2 β I2 (fun s => if s = d then rg' RS else rg s) w' := by
  -- what is immutable behind the call
  obtain ⟨I2, h1, h2, h3, h4⟩ : ∃ I2 : ASet, (∀ b o, I b o → I2 b o) ∧ (∀ b o, I2 b o → I1 b o) ∧ (∀ b o, I2 b o → I b o ∨ (b < w'.heap.size ∧ (KC X ls b o ∨ w.heap.size ≤ b))) ∧
      (∀ v, (own = true → noImm v = true) → Mem w' I1 v → Mem w' I2 v) := by
    have hII : ∀ b o, I b o → I1 b o := fun b o h => R'.frI0 b o (.inl h)
    cases own with
    | true => exact ⟨I, fun _ _ h => h, hII, fun _ _ h => .inl h, fun v hv hm => Mem_noImm v (hv rfl) hm⟩
    | false =>
      refine ⟨I1, hII, fun _ _ h => h, fun b o h => ?_, fun v _ hm => hm⟩
      rcases R'.frI b o h with h' | h'
      · rcases h' with h' | ⟨h', _⟩
        · exact .inl h'
        · cases h'
      · exact .inr ⟨(R'.imm b o h).1, h'⟩
  have hfr : Frame (KC X ls) w w' := R'.fr
  have hKx : ∀ k b o, kfp β' Y k b o → KC X ls b o ∨ w.heap.size ≤ b := fun k b o h => R'.frK k b o h
  have hA : ∀ {j e}, ls[j]? = some e → _ := fun {j e} hj => after_ok (I2 := I2) L R' hF hok (fun h => (himm h).1) h4 (j := j) (e := e) hj
  have hl : ∀ f ∈ lentsOf X Y 0 ls, LentOk X I2 w' (KC X ls) w.heap.size f := by
    intro f hf
    obtain ⟨j, e, hj, rfl⟩ := mem_lentsOf.1 hf
    rw [Nat.zero_add]
    obtain ⟨g, _, a1, a2, a3, _⟩ := L.at_ j e hj
    obtain ⟨_, b1, b2, b3, b4, b5⟩ := hA hj
    refine ⟨a1, a2, a3, b4, b1, b2, b3, fun b o hb => ?_⟩
    obtain ⟨k, hk, hkb⟩ := b5 b o hb
    obtain ⟨l1, l2, l3⟩ := (R'.key k).live b o hkb
    exact ⟨hKx k b o hkb, l1, l2, l3, fun h => (R'.imm b o (h2 b o h)).2 k hkb⟩
  have hn : ((lentsOf X Y 0 ls).map (·.k)).Nodup := by rw [lentsOf_k]; exact L.nd
  have RB := R.comeback (lentsOf X Y 0 ls) hn (KC X ls) hl (fun b o hb => by
      obtain ⟨e, he, hb⟩ := hb
      obtain ⟨j, hj⟩ := List.getElem?_of_mem he
      exact ⟨_, mem_lentsOf.2 ⟨j, e, hj, rfl⟩, hb⟩)
    (fun f hf f' hf' hne b o g1 g2 => by
      obtain ⟨j, e, hj, rfl⟩ := mem_lentsOf.1 hf
      obtain ⟨j', e', hj', rfl⟩ := mem_lentsOf.1 hf'
      rw [Nat.zero_add] at g1 g2
      obtain ⟨k, hk, q1⟩ := (hA hj).2.2.2.2.2 b o g1
      obtain ⟨k', hk', q2⟩ := (hA hj').2.2.2.2.2 b o g2
      refine R'.disj k k' (fun e => ?_) b o q1 q2
      have : j = j' := by omega
      subst this
      rw [hj] at hj'
      cases hj'
      exact hne rfl)
    hfr h1 h3
  have hE : erF (back X (lentsOf X Y 0 ls)) = backU (erF X) (ls.zip gs') := erF_back Y 0 ls gs' (by rw [L.len]; exact (ghsOk_at hok).1) fun j e g hj hg => by
    obtain ⟨⟨g', q1, q2⟩, _⟩ := hA hj
    rw [hg] at q1
    cases q1
    rw [Nat.zero_add]; exact q2
  -- the result
  have hr : er (Y (100 * RS)).2 = r := hF.1
  have hkr := R'.key (100 * RS)
  have hreg := R'.reg RS
  refine ⟨(back X (lentsOf X Y 0 ls)).set (100 * d) (Y (100 * RS)).2, I2, by rw [erF_set, hE, hr], ?_⟩
  refine RB.putOwn d hd (h4 _ (fun h => by rw [← er_noImm, hr]; exact (himm h).2) hkr.mem) hkr.sep (RR_rootless _ _ (by rw [← er_roots, hr]; exact hroot) hreg) fun b o hb => ?_
  have hkb : kfp β' Y (100 * RS) b o := .inl hb
  obtain ⟨l1, l2, l3⟩ := hkr.live b o hkb
  refine ⟨l1, l2, l3, fun h => (R'.imm b o (h2 b o h)).2 _ hkb, ?_, fun k hk => ?_⟩
  · rcases hKx _ b o hkb with ⟨e, he, h⟩ | h
    · obtain ⟨j, hj⟩ := List.getElem?_of_mem he
      obtain ⟨_, _, _, _, _, _, _, q1, _⟩ := L.at_ j e hj
      exact R.frK e.1 b o (q1 b o h)
    · exact .inr (Nat.le_trans R.fr.size h)
  · -- nobody else has it
    by_cases hlk : ∃ (j : Nat) (e : Nat × List Nat), ls[j]? = some e ∧ e.1 = k
    · obtain ⟨j, e, hj, rfl⟩ := hlk
      obtain ⟨g, _, a1, a2, a3, a4, a5, a6, _⟩ := L.at_ j e hj
      have hmemf : (⟨e.1, e.2, nodeOf X e, afterN X Y j e⟩ : Lent) ∈ lentsOf X Y 0 ls := mem_lentsOf.2 ⟨j, e, hj, by rw [Nat.zero_add]⟩
      have hback := back_eq (X := X) hmemf hn
      have hkey := R.key e.1
      have rp := repl e.2 (X e.1).2 hkey.mem hkey.sep a3 a1
      have hnon : (X e.1).2 ≠ .non := isNode_ne_non (getN_isNode a1 a2)
      -- either it was the key's ahead of the call, or it came back
      have hcase : (kfp β X e.1 b o ∧ ¬ fp (nodeOf X e) b o) ∨ fp (afterN X Y j e) b o := by
        rcases hk with hk | ⟨g1, _, g3⟩
        · rw [hback] at hk
          rcases rp.fps _ b o hk with h | h
          · exact .inl ⟨.inl h.1, h.2⟩
          · exact .inr h
        · refine .inl ⟨.inr ⟨g1, hnon, g3⟩, fun h => (hkey.cell g1 hnon).2 ?_⟩
          have := rp.sub b o h
          rwa [g3.1, g3.2] at this
      rcases hcase with ⟨q1, q2⟩ | q
      · rcases hKx _ b o hkb with ⟨e', he', h⟩ | h
        · obtain ⟨j', hj'⟩ := List.getElem?_of_mem he'
          obtain ⟨_, _, _, _, _, _, _, q1', _⟩ := L.at_ j' e' hj'
          by_cases hee : e.1 = e'.1
          · have := L.inj hj hj' hee
            subst this
            rw [hj] at hj'
            cases hj'
            exact q2 h
          · exact R.disj e.1 e'.1 hee b o q1 (q1' b o h)
        · have := (hkey.live b o q1).1
          omega
      · obtain ⟨k', hk', q'⟩ := (hA hj).2.2.2.2.2 b o q
        exact R'.disj k' (100 * RS) (fun e => by rw [e] at hk'; unfold RS at hk'; omega) b o q' hkb
    · have hb' : back X (lentsOf X Y 0 ls) k = X k := back_ne fun f hf h => hlk (by
        obtain ⟨j, e, hj, rfl⟩ := mem_lentsOf.1 hf
        exact ⟨j, e, hj, h⟩)
      rw [kfp, hb'] at hk
      rcases hKx _ b o hkb with ⟨e', he', h⟩ | h
      · obtain ⟨j', hj'⟩ := List.getElem?_of_mem he'
        obtain ⟨_, _, _, _, _, _, _, q1', _⟩ := L.at_ j' e' hj'
        exact R.disj k e'.1 (fun e => hlk ⟨j', e', hj', e.symm⟩) b o hk (q1' b o h)
      · have := ((R.key k).live b o hk).1
        omega
end
end Go.OT
