/-
  The abstract values of the framework: trees without addresses, what they own, and how they lie in memory.
-/
import Derived.Orders
import Derived.Below
namespace Go.OT

structure Loc where
  b : Nat
  o : Nat
  cap : Nat

abbrev LO := Option Loc

/-- Abstract values. 'sc': a scalar. 'sl': a slice with its elements' cells (own: it may be written; else: never written again). 'bx': a pointer with what it points to.
'view', 'ptr': a borrowed slice or pointer into the tree of key k (generation g, path p). 'bptr': a pointer into a local box. 'vptr': a pointer into what is never written. 'non': nothing is known. 'dead': a cell that was moved out. -/
inductive AV (L : Type) where
  | sc (v : Value)
  | sl (own : Bool) (l : L) (sz len : Nat) (cells : List (AV L))
  | bx (own : Bool) (l : L) (cells : List (AV L))
  | view (k g : Nat) (p : List Nat) (off len : Nat)
  | ptr (k g : Nat) (p : List Nat) (i : Nat)
  | bptr (b g i : Nat)
  | vptr (l : L) (cells : List (AV L))
  | agg (cells : List (AV L))
  | tuple (vs : List (AV L))
  | clos (f : FuncId) (caps : List (AV L))
  | dead
  | non
  deriving Inhabited

abbrev AU := AV Unit
abbrev AL := AV LO

/-! ### Paths -/
section
variable {L : Type}
def AV.cells? : AV L → Option (List (AV L))
  | .sl _ _ _ _ cs => some cs
  | .bx _ _ cs => some cs
  | _ => none

def getN : AV L → List Nat → Option (AV L)
  | v, [] => some v
  | v, i :: p => match v.cells? with
    | some cs => match cs[i]? with
      | some u => getN u p
      | none => none
    | none => none

def AV.withCells : AV L → List (AV L) → AV L
  | .sl o l s n _, cs => .sl o l s n cs
  | .bx o l _, cs => .bx o l cs
  | v, _ => v

def setN : AV L → List Nat → AV L → AV L
  | _, [], u => u
  | v, i :: p, u => match v.cells? with
    | some cs => v.withCells (cs.set i (setN (cs.getD i .non) p u))
    | none => v
end

/-! ### Labels forgotten -/
mutual
def er : AL → AU
  | .sc v => .sc v
  | .sl o _ s n cs => .sl o () s n (erL cs)
  | .bx o _ cs => .bx o () (erL cs)
  | .view k g p off len => .view k g p off len
  | .ptr k g p i => .ptr k g p i
  | .bptr b g i => .bptr b g i
  | .vptr _ cs => .vptr () (erL cs)
  | .agg cs => .agg (erL cs)
  | .tuple vs => .tuple (erL vs)
  | .clos f caps => .clos f (erL caps)
  | .dead => .dead
  | .non => .non
def erL : List AL → List AU
  | [] => []
  | c :: cs => er c :: erL cs
end

theorem erL_eq (cs : List AL) : erL cs = cs.map er := by
  induction cs with
  | nil => rfl
  | cons c cs ih => simp [erL, ih]

theorem er_cells (v : AL) : (er v).cells? = v.cells?.map (·.map er) := by
  cases v <;> simp [er, AV.cells?, erL_eq]

theorem er_getN (p : List Nat) : ∀ v : AL, getN (er v) p = (getN v p).map er := by
  induction p with
  | nil => intro v; simp [getN]
  | cons i p ih =>
    intro v
    simp only [getN, er_cells]
    cases hc : v.cells? with
    | none => simp
    | some cs =>
      simp only [Option.map_some, List.getElem?_map]
      cases hi : cs[i]? with
      | none => simp
      | some u => simpa using ih u

theorem er_withCells (v : AL) (cs : List AL) : er (v.withCells cs) = (er v).withCells (cs.map er) := by
  cases v <;> simp [er, AV.withCells, erL_eq]

theorem er_setN (p : List Nat) (u : AL) : ∀ v : AL, er (setN v p u) = setN (er v) p (er u) := by
  induction p with
  | nil => intro v; simp [setN]
  | cons i p ih =>
    intro v
    simp only [setN, er_cells]
    cases hc : v.cells? with
    | none => simp
    | some cs =>
      simp only [Option.map_some, er_withCells, List.map_set, ih]
      congr 3
      simp only [List.getD_eq_getElem?_getD, List.getElem?_map]
      cases cs[i]? <;> simp [er]

/-! ### What a tree owns -/
mutual
def fp : AL → Nat → Nat → Prop
  | .sl true (some l) sz _ cs, b, o => (b = l.b ∧ l.o ≤ o ∧ o < l.o + l.cap * sz) ∨ fpL cs b o
  | .bx true (some l) cs, b, o => (b = l.b ∧ l.o ≤ o ∧ o < l.o + cs.length) ∨ fpL cs b o
  | .agg cs, b, o => fpL cs b o
  | .tuple cs, b, o => fpL cs b o
  | _, _, _ => False
def fpL : List AL → Nat → Nat → Prop
  | [], _, _ => False
  | c :: cs, b, o => fp c b o ∨ fpL cs b o
end

theorem fpL_iff {cs : List AL} {b o : Nat} : fpL cs b o ↔ ∃ c ∈ cs, fp c b o := by
  induction cs with
  | nil => simp [fpL]
  | cons c cs ih => simp [fpL, ih]

mutual
def Sep : AL → Prop
  | .sl true (some l) sz _ cs => (∀ j, j < l.cap * sz → ¬ fpL cs l.b (l.o + j)) ∧ SepL cs
  | .bx true (some l) cs => (∀ j, j < cs.length → ¬ fpL cs l.b (l.o + j)) ∧ SepL cs
  | .agg cs => SepL cs
  | .tuple cs => SepL cs
  | _ => True
def SepL : List AL → Prop
  | [] => True
  | c :: cs => Sep c ∧ SepL cs ∧ ∀ b o, fp c b o → fpL cs b o → False
end

/-- The value of a tree, as it lies in one cell or register. -/
def CR : AL → Value → Prop
  | .sc v, x => x = v
  | .sl _ none _ n _, x => x = .slice none 0 0 ∧ n = 0
  | .sl _ (some l) _ n _, x => x = .slice (some ⟨l.b, l.o, none⟩) n l.cap
  | .bx _ (some l) _, x => x = .pointer (some ⟨l.b, l.o, none⟩)
  | .dead, _ => True
  | _, _ => False

def _root_.Go.World.at (w : World) (b o : Nat) : Option Value := w.cell? ⟨b, o, none⟩
def _root_.Go.World.fz (w : World) (b o : Nat) : Bool := w.frozen? ⟨b, o, none⟩

mutual
def Mem (w : World) (I : Nat → Nat → Prop) : AL → Prop
  | .sl _ none _ n cs => n = 0 ∧ cs = []
  | .sl own (some l) sz n cs => cs.length = n * sz ∧ n ≤ l.cap ∧ MemL w I own cs l.b l.o
  | .bx own (some l) cs => MemL w I own cs l.b l.o
  | .bx _ none _ => False
  | .vptr (some l) cs => MemL w I false cs l.b l.o
  | .vptr none _ => False
  | .agg cs => MemA w I cs
  | .tuple cs => MemA w I cs
  | .clos _ cs => MemA w I cs ∧ ∀ b o, ¬ fpL cs b o
  | _ => True
def MemL (w : World) (I : Nat → Nat → Prop) (own : Bool) : List AL → Nat → Nat → Prop
  | [], _, _ => True
  | c :: cs, b, o => (∃ y, w.at b o = some y ∧ CR c y) ∧ Mem w I c ∧ (own = false → I b o ∧ ∀ b' o', ¬ fp c b' o') ∧ MemL w I own cs b (o + 1)
def MemA (w : World) (I : Nat → Nat → Prop) : List AL → Prop
  | [] => True
  | c :: cs => Mem w I c ∧ MemA w I cs
end

theorem MemA_iff {w : World} {I : Nat → Nat → Prop} {cs : List AL} : MemA w I cs ↔ ∀ c ∈ cs, Mem w I c := by
  induction cs with
  | nil => simp [MemA]
  | cons c cs ih => simp [MemA, ih]

theorem MemL_iff {w : World} {I : Nat → Nat → Prop} {own : Bool} {cs : List AL} {b o : Nat} :
    MemL w I own cs b o ↔ ∀ i c, cs[i]? = some c → (∃ y, w.at b (o + i) = some y ∧ CR c y) ∧ Mem w I c ∧ (own = false → I b (o + i) ∧ ∀ b' o', ¬ fp c b' o') := by
  induction cs generalizing o with
  | nil => simp [MemL]
  | cons c cs ih =>
    simp only [MemL, ih]
    constructor
    · rintro ⟨h1, h2, h3, h4⟩ i u hu
      cases i with
      | zero => simp at hu; subst hu; exact ⟨h1, h2, h3⟩
      | succ i => simp at hu; have := h4 i u hu; rwa [Nat.add_assoc, Nat.add_comm 1 i] at this
    · intro h
      have h0 := h 0 c rfl
      refine ⟨h0.1, h0.2.1, h0.2.2, fun i u hu => ?_⟩
      have := h (i + 1) u (by simpa using hu)
      rwa [Nat.add_assoc, Nat.add_comm 1 i]

theorem SepL_iff {cs : List AL} : SepL cs ↔ (∀ c ∈ cs, Sep c) ∧ ∀ (i j : Nat) (u v : AL), i < j → cs[i]? = some u → cs[j]? = some v → ∀ b o, fp u b o → fp v b o → False := by
  induction cs with
  | nil => simp [SepL]
  | cons c cs ih =>
    simp only [SepL, ih]
    constructor
    · rintro ⟨h1, ⟨h2, h3⟩, h4⟩
      refine ⟨by intro d hd; rcases List.mem_cons.1 hd with rfl | hd; exact h1; exact h2 d hd, ?_⟩
      intro i j u v hij hu hv b o hub hvb
      cases j with
      | zero => omega
      | succ j =>
        simp at hv
        cases i with
        | zero => simp at hu; subst hu; exact h4 b o hub (fpL_iff.2 ⟨v, List.mem_of_getElem? hv, hvb⟩)
        | succ i => simp at hu; exact h3 i j u v (by omega) hu hv b o hub hvb
    · rintro ⟨h1, h2⟩
      refine ⟨h1 c (by simp), ⟨fun d hd => h1 d (by simp [hd]), fun i j u v hij hu hv => h2 (i + 1) (j + 1) u v (by omega) (by simpa using hu) (by simpa using hv)⟩, ?_⟩
      intro b o hc hcs
      obtain ⟨d, hd, hdb⟩ := fpL_iff.1 hcs
      obtain ⟨j, hj⟩ := List.getElem?_of_mem hd
      exact h2 0 (j + 1) c d (by omega) rfl (by simpa using hj) b o hc hdb

end Go.OT
