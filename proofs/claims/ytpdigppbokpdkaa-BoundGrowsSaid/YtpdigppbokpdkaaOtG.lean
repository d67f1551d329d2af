/-
  Operations that only compute a value: what they come to over abstract states, and that they do so.
-/
import Derived.Test.YtpdigppbokpdkaaOtF
import Derived.Laws.Entries
import Derived.Laws.Cells
namespace Go.OT

/-- An operand, its constants as trees. -/
inductive COd where
  | t (n : Nat)
  | c (v : AU)
  deriving Inhabited

/-- What a load of the node at a place yields: a borrowed slice or pointer; else the content itself. -/
def ldV {L : Type} (k g : Nat) (p : List Nat) (c : AV L) : AV L :=
  match c with
  | .sl true _ _ n _ => .view k g p 0 n
  | .bx true _ _ => .ptr k g p 0
  | c => c

theorem er_ldV (k g : Nat) (p : List Nat) (c : AL) : er (ldV k g p c) = ldV k g p (er c) := by
  cases c with
  | sl o l s n cs => cases o <;> simp [ldV, er]
  | bx o l cs => cases o <;> simp [ldV, er]
  | _ => simp [ldV, er]

abbrev rdK {L : Type} (k : Nat) (e : Nat × AV L) : AV L := ldV k e.1 [] e.2

def rd (X : XF Unit) : COd → AU
  | .t n => rdK (100 * n) (X (100 * n))
  | .c v => v

/-! ### What a tree without labels says of the tree -/
section
variable {lv : AL}
theorem er_sc {v : Value} (h : er lv = .sc v) : lv = .sc v := by cases lv <;> simp [er] at h; exact congrArg _ h
theorem er_view {k g off len : Nat} {p : List Nat} (h : er lv = .view k g p off len) : lv = .view k g p off len := by
  cases lv <;> simp [er] at h; obtain ⟨rfl, rfl, rfl, rfl, rfl⟩ := h; rfl
theorem er_ptr {k g i : Nat} {p : List Nat} (h : er lv = .ptr k g p i) : lv = .ptr k g p i := by
  cases lv <;> simp [er] at h; obtain ⟨rfl, rfl, rfl, rfl⟩ := h; rfl
theorem er_bptr {b g i : Nat} (h : er lv = .bptr b g i) : lv = .bptr b g i := by
  cases lv <;> simp [er] at h; obtain ⟨rfl, rfl, rfl⟩ := h; rfl
theorem er_sl {o : Bool} {s n : Nat} {cs : List AU} (h : er lv = .sl o () s n cs) : ∃ l lcs, lv = .sl o l s n lcs ∧ lcs.map er = cs := by
  cases lv <;> simp [er] at h; obtain ⟨rfl, rfl, rfl, rfl⟩ := h; exact ⟨_, _, rfl, (erL_eq _).symm⟩
theorem er_bx {o : Bool} {cs : List AU} (h : er lv = .bx o () cs) : ∃ l lcs, lv = .bx o l lcs ∧ lcs.map er = cs := by
  cases lv <;> simp [er] at h; obtain ⟨rfl, rfl⟩ := h; exact ⟨_, _, rfl, (erL_eq _).symm⟩
theorem er_vptr {cs : List AU} (h : er lv = .vptr () cs) : ∃ l lcs, lv = .vptr l lcs ∧ lcs.map er = cs := by
  cases lv <;> simp [er] at h; subst h; exact ⟨_, _, rfl, (erL_eq _).symm⟩
theorem er_agg {cs : List AU} (h : er lv = .agg cs) : ∃ lcs, lv = .agg lcs ∧ lcs.map er = cs := by
  cases lv <;> simp [er] at h; subst h; exact ⟨_, rfl, (erL_eq _).symm⟩
theorem er_tuple {cs : List AU} (h : er lv = .tuple cs) : ∃ lcs, lv = .tuple lcs ∧ lcs.map er = cs := by
  cases lv <;> simp [er] at h; subst h; exact ⟨_, rfl, (erL_eq _).symm⟩
theorem er_clos {f : FuncId} {cs : List AU} (h : er lv = .clos f cs) : ∃ lcs, lv = .clos f lcs ∧ lcs.map er = cs := by
  cases lv <;> simp [er] at h; obtain ⟨rfl, rfl⟩ := h; exact ⟨_, rfl, (erL_eq _).symm⟩
end

def evR (rg : Nat → Value) : Operand → Value
  | .tmp t => rg t
  | .const v => v
  | .global g => .pointer (some ⟨g, 0, none⟩)
  | .func f => .func (.func f) #[] #[]

def plainV : Value → Bool
  | .agg _ | .tuple _ => false
  | .slice (some _) _ _ => false
  | _ => true

/-- A constant as a tree; a nil slice of elements of 'sz' cells. -/
def cst (sz : Nat) (v : Value) : AU :=
  match v with
  | .slice none 0 0 => .sl true () sz 0 []
  | v => .sc v

def compOd (nt sz : Nat) : Operand → Option COd
  | .tmp t => if t < nt then some (.t t) else none
  | .const v => if plainV v then some (.c (cst sz v)) else none
  | .func f => some (.c (.clos f []))
  | .global _ => none

theorem cst_ok {X : XF LO} {β : Nat → Nat × Nat} {w : World} {I : ASet} (sz : Nat) (v : Value) : ∃ lv, er lv = cst sz v ∧ RR X β lv v ∧ Mem w I lv ∧ CR lv v ∧ (∀ b o, ¬ fp lv b o) ∧ Sep lv := by
  by_cases h : v = .slice none 0 0
  · subst h
    exact ⟨.sl true none sz 0 [], rfl, by simp [RR, CR], by simp [Mem], by simp [CR], by simp [fp], by simp [Sep]⟩
  · refine ⟨.sc v, ?_, by simp [RR], by simp [Mem], by simp [CR], by simp [fp], by simp [Sep]⟩
    unfold cst
    split
    · exact absurd rfl h
    · rfl

theorem rd_ok {C : Ctx} {X : XF LO} {β : Nat → Nat × Nat} {I : ASet} {rg : Nat → Value} {w : World} (R : RelL C X β I rg w) {nt sz : Nat} {x : Operand} {c : COd} (h : compOd nt sz x = some c) :
    ∃ lv, er lv = rd (erF X) c ∧ RR X β lv (evR rg x) ∧ Mem w I lv ∧ (lv.parts? = none → ∀ b o, ¬ fp lv b o) := by
  cases x with
  | tmp t =>
    simp only [compOd] at h
    split at h
    · cases h
      have hr := R.reg t
      have hm := (R.key (100 * t)).mem
      simp only [rd, erF, evR]
      generalize hv : X (100 * t) = e at *
      obtain ⟨g, v⟩ := e
      cases v with
      | sl o l s n cs =>
        cases o with
        | false => exact ⟨_, by simp [er, rdK, ldV], hr, hm, fun _ b o => by simp [fp]⟩
        | true =>
          refine ⟨.view (100 * t) g [] 0 n, by simp [er, rdK, ldV], ?_, by simp [Mem], fun _ b o => by simp [fp]⟩
          simp only [RR, hv, Nat.le_refl, true_and]
          intro _
          refine ⟨l, s, n, by simp [getN, hd], ?_⟩
          simp only [RR] at hr
          cases l with
          | none =>
            simp only [CR] at hr
            exact ⟨none, 0, by rw [hr.1, hr.2], rfl, rfl, hr.2⟩
          | some l =>
            simp only [CR] at hr
            simp only [Mem] at hm
            exact ⟨_, _, hr, by omega, hm.2.1, by omega, l.o, rfl, fun _ => by omega⟩
      | bx o l cs =>
        cases o with
        | false => exact ⟨_, by simp [er, rdK, ldV], hr, hm, fun _ b o => by simp [fp]⟩
        | true =>
          refine ⟨.ptr (100 * t) g [] 0, by simp [er, rdK, ldV], ?_, by simp [Mem], fun _ b o => by simp [fp]⟩
          simp only [RR, hv, Nat.le_refl, true_and]
          intro _
          cases l with
          | none => simp [Mem] at hm
          | some l =>
            simp only [RR, CR] at hr
            exact ⟨false, l, 0, 0, by simp [getN, hd], by simpa using hr⟩
      | _ => exact ⟨_, by simp [er, rdK, ldV], hr, hm, fun hp b o => by simp [fp, AV.parts?] at hp ⊢⟩
    · cases h
  | const v =>
    simp only [compOd] at h
    split at h
    · cases h
      obtain ⟨lv, h1, h2, h3, _, h4, _⟩ := cst_ok (X := X) (β := β) (w := w) (I := I) sz v
      exact ⟨lv, h1, h2, h3, fun _ => h4⟩
    · cases h
  | func f =>
    simp only [compOd, Option.some.injEq] at h
    subst h
    exact ⟨.clos f [], by simp [er, erL, rd], by simp [RR, RRL, evR], by simp [Mem, MemA, fpL], fun _ b o => by simp [fp]⟩
  | global g => simp [compOd] at h

/-! ### A step -/
def RelT (C : Ctx) (X : XF Unit) (tm : Array Value) (w : World) : Prop :=
  ∃ XL β I rg, erF XL = X ∧ RelL C XL β I rg w ∧ tm.size = C.nt ∧ ∀ t, t < C.nt → tm.getD t undef = rg t

def OpOk (C : Ctx) (o : Oper) (X X' : XF Unit) : Prop :=
  ∀ (a : Act) (w : World), a.defers = [] → RelT C X a.tmps w → ∀ (K : Act → World → Prop) (Q : Exit → Act → World → Prop),
    (∀ a' w', a'.defers = [] → RelT C X' a'.tmps w' → K a' w') → o.wp C.P a w K Q

def isSelect : Op → Bool
  | .select _ _ => true
  | _ => false

/-- All registers that an operation reads are there. -/
def opsIn (nt : Nat) (o : Oper) : Bool :=
  !isSelect o.op && o.op.operands.all fun x => match x with | .tmp t => decide (t < nt) | _ => true

theorem evR_of {C : Ctx} {a : Act} {rg : Nat → Value} {o : Oper} (hin : opsIn C.nt o = true) (h : ∀ t, t < C.nt → a.tmps.getD t undef = rg t) : execOp a.eval o = execOp (evR rg) o := by
  simp only [opsIn, Bool.and_eq_true] at hin
  refine execOp_congr o (fun cs b he => by rw [he] at hin; simp [isSelect] at hin) (fun x hx => ?_)
  have := Array.all_eq_true_iff_forall_mem.1 hin.2 x hx
  cases x with
  | tmp t => simp only [decide_eq_true_eq] at this; exact h t this
  | _ => rfl

/-- A step that yields a value. -/
theorem OpOk.of_val {C : Ctx} {o : Oper} {X X' : XF Unit} {d : Nat} (hd : o.dst = some d) (hlt : d < C.nt) (hin : opsIn C.nt o = true)
    (h : ∀ XL β I rg w, erF XL = X → RelL C XL β I rg w → ∃ x w' XL' β' I' rg', (execOp (evR rg) o).run C.P w = .ok (.value x) w' ∧ erF XL' = X' ∧ RelL C XL' β' I' rg' w' ∧ rg' d = x ∧ ∀ t, t ≠ d → t < C.nt → rg' t = rg t) :
    OpOk C o X X' := by
  rintro a w hdef ⟨XL, β, I, rg, he, R, hs, ht⟩ K Q hK
  obtain ⟨x, w', XL', β', I', rg', hrun, he', R', hx, hrg⟩ := h XL β I rg w he R
  unfold Oper.wp
  rw [evR_of hin ht, hrun, Oper.upon_value]
  refine hK _ _ (by simp [Act.put, hd, hdef]) ⟨XL', β', I', rg', he', R', ?_, ?_⟩
  · simp [Act.put, hd, hs]
  · intro t hlt'
    simp only [Act.put, hd]
    by_cases e : t = d
    · subst e; simp [Array.getD_eq_getD_getElem?, hs, hlt', hx]
    · rw [hrg t e hlt', ← ht t hlt']
      simp [Array.getD_eq_getD_getElem?, Array.getElem?_setIfInBounds_ne (Ne.symm e)]

/-- A step that yields nothing. -/
theorem OpOk.of_skip {C : Ctx} {o : Oper} {X X' : XF Unit} (hd : o.dst = none) (hin : opsIn C.nt o = true)
    (h : ∀ XL β I rg w, erF XL = X → RelL C XL β I rg w → ∃ w' XL' β' I' rg', (execOp (evR rg) o).run C.P w = .ok .skip w' ∧ erF XL' = X' ∧ RelL C XL' β' I' rg' w' ∧ ∀ t, t < C.nt → rg' t = rg t) :
    OpOk C o X X' := by
  rintro a w hdef ⟨XL, β, I, rg, he, R, hs, ht⟩ K Q hK
  obtain ⟨w', XL', β', I', rg', hrun, he', R', hrg⟩ := h XL β I rg w he R
  unfold Oper.wp
  rw [evR_of hin ht, hrun, Oper.upon_skip]
  exact hK _ _ (by simp [Act.put, hd, hdef]) ⟨XL', β', I', rg', he', R', by simp [Act.put, hd, hs], fun t hlt' => by simp only [Act.put, hd]; rw [hrg t hlt']; exact ht t hlt'⟩

/-- A step that only computes. -/
theorem OpOk.of_pure {C : Ctx} {o : Oper} {X : XF Unit} {d : Nat} {v : AU} (hd : o.dst = some d) (hlt : d < C.nt) (hin : opsIn C.nt o = true) (hv : noOwn v = true)
    (h : ∀ XL β I rg w, erF XL = X → RelL C XL β I rg w → ∃ lv x, er lv = v ∧ (execOp (evR rg) o).run C.P w = .ok (.value x) w ∧ Mem w I lv ∧ RR XL β lv x) :
    OpOk C o X (X.set (100 * d) v) := by
  refine OpOk.of_val hd hlt hin fun XL β I rg w he R => ?_
  obtain ⟨lv, x, h1, h2, h3, h4⟩ := h XL β I rg w he R
  exact ⟨x, w, _, β, I, _, h2, by rw [erF_set, he, h1], R.setR d (by have := C.hnt; omega) (by rw [← er_noOwn, h1]; exact hv) h3 h4, by simp, fun t ht _ => by simp [ht]⟩

/-! ### Scalars -/
def scBin (op : BinOp) : Value → Value → Option Value
  | .int k a, .int k' b =>
    match op with
    | .shl => if b < 0 then none else some (.int k (k.wrap (a * 2 ^ (min b.toNat k.bits))))
    | .shr => if b < 0 then none else some (.int k (a.fdiv (2 ^ (min b.toNat k.bits))))
    | .add => if k = k' then some (.int k (k.wrap (a + b))) else none
    | .sub => if k = k' then some (.int k (k.wrap (a - b))) else none
    | .mul => if k = k' then some (.int k (k.wrap (a * b))) else none
    | .quo => if k = k' ∧ b ≠ 0 then some (.int k (k.wrap (a.tdiv b))) else none
    | .rem => if k = k' ∧ b ≠ 0 then some (.int k (a.tmod b)) else none
    | .and => if k = k' then some (.int k (k.wrap (BitVec.ofInt k.bits a &&& BitVec.ofInt k.bits b).toNat)) else none
    | .or => if k = k' then some (.int k (k.wrap (BitVec.ofInt k.bits a ||| BitVec.ofInt k.bits b).toNat)) else none
    | .xor => if k = k' then some (.int k (k.wrap (BitVec.ofInt k.bits a ^^^ BitVec.ofInt k.bits b).toNat)) else none
    | .andNot => if k = k' then some (.int k (k.wrap (BitVec.ofInt k.bits a &&& ~~~BitVec.ofInt k.bits b).toNat)) else none
    | .eql => if k = k' then some (.bool (a == b)) else none
    | .neq => if k = k' then some (.bool (a != b)) else none
    | .lss => if k = k' then some (.bool (decide (a < b))) else none
    | .leq => if k = k' then some (.bool (decide (a ≤ b))) else none
    | .gtr => if k = k' then some (.bool (decide (a > b))) else none
    | .geq => if k = k' then some (.bool (decide (a ≥ b))) else none
  | .string a, .string b =>
    match op with
    | .add => if a.size + b.size ≤ 4611686018427387904 then some (.string (a ++ b)) else none
    | .eql => some (.bool (a.toList == b.toList))
    | .neq => some (.bool !(a.toList == b.toList))
    | _ => none
  | _, _ => none

theorem run_scBin {P : Program} {w : World} {op : BinOp} {t : TypeId} {x y r : Value} {ox oy : Operand} (h : scBin op x y = some r) :
    (do eqGuard op t ox oy x y; binOp op t x y).run P w = .ok r w := by
  cases x <;> cases y <;> simp [scBin] at h
  · cases op <;> simp at h <;>
      first
        | (obtain ⟨⟨rfl, h0⟩, rfl⟩ := h; simp [eqGuard, binOp, Op.intDiv, h0])
        | (obtain ⟨rfl, rfl⟩ := h; simp [eqGuard, binOp, Op.intArith, Op.intBits, Op.intCmp])
        | (obtain ⟨h0, rfl⟩ := h; simp [eqGuard, binOp, Op.shift]; intro h1; omega)
  · cases op <;> simp at h <;>
      first
        | (obtain ⟨h0, rfl⟩ := h; simp [eqGuard, binOp, Op.stringOp, IntKind.max, IntKind.bits, IntKind.signed]; omega)
        | (subst h; simp [eqGuard, binOp, Op.stringOp])

def scUn (op : UnOp) : Value → Option Value
  | .bool b => match op with
    | .not => some (.bool !b)
    | _ => none
  | .int k n => match op with
    | .neg => some (.int k (k.wrap (0 - n)))
    | .xor => some (.int k (k.wrap (BitVec.ofInt k.bits (if k.signed then -1 else k.max) ^^^ BitVec.ofInt k.bits n).toNat))
    | _ => none
  | _ => none

theorem run_scUn {P : Program} {w : World} {op : UnOp} {x r : Value} (h : scUn op x = some r) : (Op.unary op x).run P w = .ok r w := by
  cases x <;> simp [scUn] at h <;> cases op <;> simp at h <;> subst h <;> simp [Op.unary, Op.intArith, Op.intBits]

/-- min, max of integers. -/
def scMx (mx : Bool) : Value → Value → Option Value
  | .int k a, .int k' b => if k = k' then some (.int k (if mx then (if b > a then b else a) else (if b < a then b else a))) else none
  | _, _ => none
end Go.OT
