/-
  The state of an activation: registers and boxes by keys, and how they lie in memory. One lemma by which every change goes.
-/
import Derived.Test.YtpdigppbokpdkaaOtB
namespace Go.OT

/-- What a node's header holds. -/
def hd : AL → Option (Bool × LO × Nat × Nat)
  | .sl _ l s n _ => some (true, l, s, n)
  | .bx _ l _ => some (false, l, 0, 0)
  | _ => none

abbrev XF (L : Type) := Nat → Nat × AV L

/-- x is the slice from cell 'off' on, 'len' elements, of the slice with label l. -/
def SV (l : LO) (sz n off len : Nat) (x : Value) : Prop :=
  ∃ xa cap, x = .slice xa len cap ∧ match l with
    | none => xa = none ∧ cap = 0 ∧ len = 0
    | some l => off + len * sz ≤ n * sz ∧ len ≤ cap ∧ off + cap * sz ≤ l.cap * sz ∧ ∃ o', xa = some ⟨l.b, o', none⟩ ∧ (cap ≠ 0 → o' = l.o + off)

mutual
def RR (X : XF LO) (β : Nat → Nat × Nat) : AL → Value → Prop
  | .view k g p off len, x => g ≤ (X k).1 ∧ ((X k).1 = g → ∃ l sz n, (getN (X k).2 p).bind hd = some (true, l, sz, n) ∧ SV l sz n off len x)
  | .ptr k g p i, x => g ≤ (X k).1 ∧ ((X k).1 = g → ∃ s l sz n, (getN (X k).2 p).bind hd = some (s, some l, sz, n) ∧ x = .pointer (some ⟨l.b, l.o + i, none⟩))
  | .bptr b g i, x => g ≤ (X (100 * b + 99)).1 ∧ ((X (100 * b + 99)).1 = g → x = .pointer (some ⟨(β b).1, (β b).2 + i, none⟩))
  | .vptr l _, x => ∃ l', l = some l' ∧ x = .pointer (some ⟨l'.b, l'.o, none⟩)
  | .agg cs, x => ∃ xs : List Value, x = .agg xs.toArray ∧ RRL X β cs xs
  | .tuple cs, x => ∃ xs : List Value, x = .tuple xs.toArray ∧ RRL X β cs xs
  | .clos f caps, x => ∃ xs : List Value, x = .func (.func f) #[] xs.toArray ∧ RRL X β caps xs
  | .non, _ => True
  | .dead, _ => True
  | .sc v, x => x = v
  | .sl o l s n cs, x => CR (.sl o l s n cs) x
  | .bx o l cs, x => CR (.bx o l cs) x
def RRL (X : XF LO) (β : Nat → Nat × Nat) : List AL → List Value → Prop
  | [], xs => xs = []
  | c :: cs, xs => ∃ y ys, xs = y :: ys ∧ RR X β c y ∧ RRL X β cs ys
end

theorem RR_of_CR {X : XF LO} {β : Nat → Nat × Nat} {v : AL} {x : Value} (h : CR v x) : RR X β v x := by
  cases v <;> simp [RR] <;> first | exact h | (simp [CR] at h)

/-- What of views is kept. -/
structure Keeps (X X' : XF LO) (β β' : Nat → Nat × Nat) : Prop where
  gen : ∀ k, (X k).1 ≤ (X' k).1
  hd : ∀ k, (X' k).1 = (X k).1 → ∀ p h, (getN (X k).2 p).bind hd = some h → (getN (X' k).2 p).bind hd = some h
  box : ∀ b, (X' (100 * b + 99)).1 = (X (100 * b + 99)).1 → β' b = β b

mutual
theorem RR_keep {X X' : XF LO} {β β' : Nat → Nat × Nat} (K : Keeps X X' β β') : ∀ (v : AL) (x : Value), RR X β v x → RR X' β' v x
  | .view k g p off len, x, h => by
    simp only [RR] at h ⊢
    have hk := K.gen k
    refine ⟨by omega, fun he => ?_⟩
    have e1 : (X k).1 = g := by omega
    obtain ⟨l, sz, n, h1, h2⟩ := h.2 e1
    exact ⟨l, sz, n, K.hd k (by omega) p _ h1, h2⟩
  | .ptr k g p i, x, h => by
    simp only [RR] at h ⊢
    have hk := K.gen k
    refine ⟨by omega, fun he => ?_⟩
    have e1 : (X k).1 = g := by omega
    obtain ⟨s, l, sz, n, h1, h2⟩ := h.2 e1
    exact ⟨s, l, sz, n, K.hd k (by omega) p _ h1, h2⟩
  | .bptr b g i, x, h => by
    simp only [RR] at h ⊢
    have hk := K.gen (100 * b + 99)
    refine ⟨by omega, fun he => ?_⟩
    have e1 : (X (100 * b + 99)).1 = g := by omega
    rw [K.box b (by omega)]
    exact h.2 e1
  | .vptr l cs, x, h => by simpa [RR] using h
  | .agg cs, x, h => by
    simp only [RR] at h ⊢
    obtain ⟨xs, h1, h2⟩ := h
    exact ⟨xs, h1, RRL_keep K cs xs h2⟩
  | .tuple cs, x, h => by
    simp only [RR] at h ⊢
    obtain ⟨xs, h1, h2⟩ := h
    exact ⟨xs, h1, RRL_keep K cs xs h2⟩
  | .clos f cs, x, h => by
    simp only [RR] at h ⊢
    obtain ⟨xs, h1, h2⟩ := h
    exact ⟨xs, h1, RRL_keep K cs xs h2⟩
  | .non, _, _ => by simp [RR]
  | .dead, _, _ => by simp [RR]
  | .sc v, x, h => by simpa [RR] using h
  | .sl o l s n cs, x, h => by simpa [RR] using h
  | .bx o l cs, x, h => by simpa [RR] using h
theorem RRL_keep {X X' : XF LO} {β β' : Nat → Nat × Nat} (K : Keeps X X' β β') : ∀ (vs : List AL) (xs : List Value), RRL X β vs xs → RRL X' β' vs xs
  | [], _, h => by simpa [RRL] using h
  | v :: vs, xs, h => by
    simp only [RRL] at h ⊢
    obtain ⟨y, ys, h1, h2, h3⟩ := h
    exact ⟨y, ys, h1, RR_keep K v y h2, RRL_keep K vs ys h3⟩
end

structure Ctx where
  P : Program
  nt : Nat
  w0 : World
  K : ASet
  I0 : ASet
  β0 : Nat → Nat × Nat
  rg0 : Nat → Value
  hnt : nt ≤ 9000

/-- Nothing of what was there has turned, but for K. -/
structure Frame (K : ASet) (w0 w : World) : Prop where
  os : w.os = w0.os
  tape : w.tape = w0.tape
  output : w.output = w0.output
  size : w0.heap.size ≤ w.heap.size
  block : ∀ b, b < w0.heap.size → (∀ o, ¬ K b o) → w.heap[b]? = w0.heap[b]?
  cell : ∀ b o, b < w0.heap.size → ¬ K b o → w.at b o = w0.at b o
  some : ∀ b o, b < w0.heap.size → (w.at b o).isSome = (w0.at b o).isSome
  fz : ∀ b o, b < w0.heap.size → w.fz b o = w0.fz b o

theorem Frame.refl (K : ASet) (w : World) : Frame K w w := ⟨rfl, rfl, rfl, Nat.le_refl _, fun _ _ _ => rfl, fun _ _ _ _ => rfl, fun _ _ _ => rfl, fun _ _ _ => rfl⟩

theorem Frame.trans {K K' : ASet} {w0 w w' : World} (h : Frame K w0 w) (h' : Frame K' w w') (hk : ∀ b o, K' b o → K b o ∨ w0.heap.size ≤ b) : Frame K w0 w' :=
  ⟨h'.os.trans h.os, h'.tape.trans h.tape, h'.output.trans h.output, Nat.le_trans h.size h'.size,
   fun b hb hn => (h'.block b (Nat.lt_of_lt_of_le hb h.size) (fun o ho => (hk b o ho).elim (hn o) (fun hh => by omega))).trans (h.block b hb hn),
   fun b o hb hn => (h'.cell b o (Nat.lt_of_lt_of_le hb h.size) (fun ho => (hk b o ho).elim hn (fun hh => by omega))).trans (h.cell b o hb hn),
   fun b o hb => (h'.some b o (Nat.lt_of_lt_of_le hb h.size)).trans (h.some b o hb),
   fun b o hb => (h'.fz b o (Nat.lt_of_lt_of_le hb h.size)).trans (h.fz b o hb)⟩

theorem Frame.mono {K K' : ASet} {w w' : World} (h : Frame K w w') (hk : ∀ b o, b < w.heap.size → K b o → K' b o) : Frame K' w w' :=
  ⟨h.os, h.tape, h.output, h.size, fun b hb hn => h.block b hb (fun o ho => hn o (hk b o hb ho)), fun b o hb hn => h.cell b o hb (fun ho => hn (hk b o hb ho)), h.some, h.fz⟩

/-- The address of a box's cell, by its key. -/
def isCell (k : Nat) : Prop := k % 100 ≠ 0 ∧ k % 100 ≠ 99
def cellAt (β : Nat → Nat × Nat) (k b o : Nat) : Prop := b = (β (k / 100)).1 ∧ o = (β (k / 100)).2 + (k % 100 - 1)

/-- What a key owns. -/
def kfp (β : Nat → Nat × Nat) (X : XF LO) (k b o : Nat) : Prop :=
  fp (X k).2 b o ∨ (isCell k ∧ (X k).2 ≠ .non ∧ cellAt β k b o)

/-- What is asked of one key. -/
structure KeyOk (β : Nat → Nat × Nat) (X : XF LO) (I : ASet) (w : World) (k : Nat) : Prop where
  mem : Mem w I (X k).2
  sep : Sep (X k).2
  cell : isCell k → (X k).2 ≠ .non → (∃ y, w.at (β (k / 100)).1 ((β (k / 100)).2 + (k % 100 - 1)) = some y ∧ CR (X k).2 y) ∧ ¬ fp (X k).2 (β (k / 100)).1 ((β (k / 100)).2 + (k % 100 - 1))
  live : ∀ b o, kfp β X k b o → b < w.heap.size ∧ w.fz b o = false ∧ (w.at b o).isSome
  last : k % 100 = 99 → (X k).2 = .non

structure RelL (C : Ctx) (X : XF LO) (β : Nat → Nat × Nat) (I : ASet) (rg : Nat → Value) (w : World) : Prop where
  reg : ∀ t, RR X β (X (100 * t)).2 (rg t)
  key : ∀ k, KeyOk β X I w k
  disj : ∀ k k', k ≠ k' → ∀ b o, kfp β X k b o → kfp β X k' b o → False
  imm : ∀ b o, I b o → b < w.heap.size ∧ ∀ k, ¬ kfp β X k b o
  frK : ∀ k b o, kfp β X k b o → C.K b o ∨ C.w0.heap.size ≤ b
  frI : ∀ b o, I b o → C.I0 b o ∨ C.K b o ∨ C.w0.heap.size ≤ b
  frI0 : ∀ b o, C.I0 b o → I b o
  fr : Frame C.K C.w0 w
  gh : ∀ b, 10000 ≤ b → β b = C.β0 b
  gr : ∀ t, 10000 ≤ t → rg t = C.rg0 t

/-- THE lemma of change: the keys in D are new, all others are as they were. -/
theorem RelL.change {C : Ctx} {X X' : XF LO} {β β' : Nat → Nat × Nat} {I I' : ASet} {rg rg' : Nat → Value} {w w' : World} (R : RelL C X β I rg w)
    (D : Nat → Prop)
    (hX : ∀ k, ¬ D k → X' k = X k)
    (hK : Keeps X X' β β')
    (hβ : ∀ k, ¬ D k → isCell k → β' (k / 100) = β (k / 100) ∨ (X k).2 = .non)
    (hgh : ∀ b, 10000 ≤ b → β' b = β b)
    (hrg : ∀ t, ¬ D (100 * t) ∨ 10000 ≤ t → rg' t = rg t)
    (hreg : ∀ t, D (100 * t) → RR X' β' (X' (100 * t)).2 (rg' t))
    (hkey : ∀ k, D k → KeyOk β' X' I' w' k)
    (hdisj : ∀ k k', D k → D k' → k ≠ k' → ∀ b o, kfp β' X' k b o → kfp β' X' k' b o → False)
    (hsub : ∀ k, D k → ∀ b o, kfp β' X' k b o → (∃ k0, D k0 ∧ kfp β X k0 b o) ∨ w.heap.size ≤ b)
    (hI : ∀ b o, I b o → I' b o)
    (hI' : ∀ b o, I' b o → I b o ∨ (b < w'.heap.size ∧ ((∃ k0, D k0 ∧ kfp β X k0 b o) ∨ w.heap.size ≤ b) ∧ ∀ k, D k → ¬ kfp β' X' k b o))
    (hw : Frame (fun b o => ∃ k, D k ∧ kfp β X k b o) w w') :
    RelL C X' β' I' rg' w' := by
  have hkfp : ∀ k, ¬ D k → ∀ b o, kfp β' X' k b o → kfp β X k b o := by
    intro k hk b o h
    rw [kfp, hX k hk] at h
    rcases h with h | ⟨h1, h2, h3⟩
    · exact .inl h
    · refine .inr ⟨h1, h2, ?_⟩
      rcases hβ k hk h1 with e | e
      · simpa [cellAt, e] using h3
      · exact absurd e h2
  have hkfp' : ∀ k, ¬ D k → ∀ b o, kfp β X k b o → kfp β' X' k b o := by
    intro k hk b o h
    rw [kfp, hX k hk]
    rcases h with h | ⟨h1, h2, h3⟩
    · exact .inl h
    · refine .inr ⟨h1, h2, ?_⟩
      rcases hβ k hk h1 with e | e
      · simpa [cellAt, e] using h3
      · exact absurd e h2
  have hat : ∀ k, ¬ D k → ∀ b o, kfp β X k b o → w'.at b o = w.at b o := fun k hk b o h =>
    hw.cell b o ((R.key k).live b o h).1 (fun ⟨k0, h0, h1⟩ => R.disj k k0 (fun e => hk (e ▸ h0)) b o h h1)
  have hatI : ∀ b o, I b o → w'.at b o = w.at b o := fun b o h => hw.cell b o (R.imm b o h).1 (fun ⟨k0, _, h1⟩ => (R.imm b o h).2 k0 h1)
  refine ⟨?_, ?_, ?_, ?_, ?_, ?_, fun b o h => hI b o (R.frI0 b o h), ?_, fun b hb => (hgh b hb).trans (R.gh b hb), fun t ht => (hrg t (.inr ht)).trans (R.gr t ht)⟩
  · intro t
    by_cases hd : D (100 * t)
    · exact hreg t hd
    · rw [hrg t (.inl hd), hX _ hd]
      exact RR_keep hK _ _ (R.reg t)
  · intro k
    by_cases hd : D k
    · exact hkey k hd
    · have h := R.key k
      have hx := hX k hd
      refine ⟨?_, by rw [hx]; exact h.sep, ?_, ?_, fun e => by rw [hx]; exact h.last e⟩
      · rw [hx]
        exact Mem_frame _ h.mem (fun b o hb => hat k hd b o (.inl hb)) (fun b o hb => ⟨hatI b o hb, hI b o hb⟩)
      · intro hc hn
        rw [hx] at hn ⊢
        have hb : β' (k / 100) = β (k / 100) := (hβ k hd hc).resolve_right hn
        obtain ⟨⟨y, hy, hcr⟩, hnf⟩ := h.cell hc hn
        rw [hb]
        exact ⟨⟨y, by rw [hat k hd _ _ (.inr ⟨hc, hn, rfl, rfl⟩)]; exact hy, hcr⟩, hnf⟩
      · intro b o hb
        have hb' := hkfp k hd b o hb
        obtain ⟨h1, h2, h3⟩ := h.live b o hb'
        exact ⟨Nat.lt_of_lt_of_le h1 hw.size, by rw [hw.fz b o h1]; exact h2, by rw [hw.some b o h1]; exact h3⟩
  · intro k k' hne b o h1 h2
    by_cases hd : D k
    · by_cases hd' : D k'
      · exact hdisj k k' hd hd' hne b o h1 h2
      · have h2' := hkfp k' hd' b o h2
        rcases hsub k hd b o h1 with ⟨k0, h0, hk0⟩ | hfresh
        · exact R.disj k0 k' (fun e => hd' (e ▸ h0)) b o hk0 h2'
        · have := ((R.key k').live b o h2').1; omega
    · have h1' := hkfp k hd b o h1
      by_cases hd' : D k'
      · rcases hsub k' hd' b o h2 with ⟨k0, h0, hk0⟩ | hfresh
        · exact R.disj k0 k (fun e => hd (e ▸ h0)) b o hk0 h1'
        · have := ((R.key k).live b o h1').1; omega
      · exact R.disj k k' hne b o h1' (hkfp k' hd' b o h2)
  · intro b o h
    rcases hI' b o h with h | ⟨h1, h2, h3⟩
    · refine ⟨Nat.lt_of_lt_of_le (R.imm b o h).1 hw.size, fun k hk => ?_⟩
      by_cases hd : D k
      · rcases hsub k hd b o hk with ⟨k0, _, hk0⟩ | hfresh
        · exact (R.imm b o h).2 k0 hk0
        · have := (R.imm b o h).1; omega
      · exact (R.imm b o h).2 k (hkfp k hd b o hk)
    · refine ⟨h1, fun k hk => ?_⟩
      by_cases hd : D k
      · exact h3 k hd hk
      · have hk' := hkfp k hd b o hk
        rcases h2 with ⟨k0, h0, hk0⟩ | hfresh
        · exact R.disj k0 k (fun e => hd (e ▸ h0)) b o hk0 hk'
        · have := ((R.key k).live b o hk').1; omega
  · intro k b o h
    by_cases hd : D k
    · rcases hsub k hd b o h with ⟨k0, _, hk0⟩ | hfresh
      · exact R.frK k0 b o hk0
      · exact .inr (Nat.le_trans R.fr.size hfresh)
    · exact R.frK k b o (hkfp k hd b o h)
  · intro b o h
    rcases hI' b o h with h | ⟨_, h2, _⟩
    · exact R.frI b o h
    · rcases h2 with ⟨k0, _, hk0⟩ | hfresh
      · exact .inr (R.frK k0 b o hk0)
      · exact .inr (.inr (Nat.le_trans R.fr.size hfresh))
  · exact R.fr.trans hw (fun b o ⟨k, _, hk⟩ => R.frK k b o hk)
end Go.OT
