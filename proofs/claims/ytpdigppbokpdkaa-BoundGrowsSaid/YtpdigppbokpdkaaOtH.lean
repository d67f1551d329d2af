/-
  Operations that only compute a value, one by one.
-/
import Derived.Test.YtpdigppbokpdkaaOtG
namespace Go.OT

def sizeT (P : Program) (t : TypeId) : Option Nat := (P.info? t).map (·.size)

section
variable {C : Ctx} {X : XF LO} {β : Nat → Nat × Nat} {I : ASet} {rg : Nat → Value} {w : World}

theorem run_sizeOf {P : Program} {t : TypeId} {n : Nat} (h : sizeT P t = some n) (w : World) : (sizeOf t).run P w = .ok n w := by
  unfold sizeT at h
  cases hi : P.info? t with
  | none => simp [hi] at h
  | some i => simp [hi] at h; subst h; simp [sizeOf, typeInfo, hi]

/-- What an abstract operation needs of an operand: the operand's own tree. -/
structure Opd (X : XF LO) (β : Nat → Nat × Nat) (I : ASet) (w : World) (v : AU) (x : Value) : Prop where
  ex : ∃ lv, er lv = v ∧ RR X β lv x ∧ Mem w I lv

theorem opd (R : RelL C X β I rg w) {nt sz : Nat} {x : Operand} {c : COd} (h : compOd nt sz x = some c) : Opd X β I w (rd (erF X) c) (evR rg x) := by
  obtain ⟨lv, h1, h2, h3, _⟩ := rd_ok R h
  exact ⟨lv, h1, h2, h3⟩

theorem Opd.sc {v x : Value} (h : Opd X β I w (.sc v) x) : x = v := by
  obtain ⟨lv, h1, h2, _⟩ := h.ex
  rw [er_sc h1] at h2
  simpa [RR] using h2

theorem Opd.bptr {b g i : Nat} {x : Value} (h : Opd X β I w (.bptr b g i) x) (hg : (erF X (100 * b + 99)).1 = g) : x = .pointer (some ⟨(β b).1, (β b).2 + i, none⟩) := by
  obtain ⟨lv, h1, h2, _⟩ := h.ex
  rw [er_bptr h1] at h2
  simp only [RR] at h2
  exact h2.2 hg

theorem Opd.ptr {k g i : Nat} {p : List Nat} {x : Value} (h : Opd X β I w (.ptr k g p i) x) (hg : (erF X k).1 = g) :
    ∃ s l sz n, (getN (X k).2 p).bind hd = some (s, some l, sz, n) ∧ x = .pointer (some ⟨l.b, l.o + i, none⟩) := by
  obtain ⟨lv, h1, h2, _⟩ := h.ex
  rw [er_ptr h1] at h2
  simp only [RR] at h2
  exact h2.2 hg

theorem Opd.view {k g off n : Nat} {p : List Nat} {x : Value} (h : Opd X β I w (.view k g p off n) x) (hg : (erF X k).1 = g) :
    ∃ l sz m, (getN (X k).2 p).bind hd = some (true, l, sz, m) ∧ SV l sz m off n x := by
  obtain ⟨lv, h1, h2, _⟩ := h.ex
  rw [er_view h1] at h2
  simp only [RR] at h2
  exact h2.2 hg

theorem Opd.vptr {cs : List AU} {x : Value} (h : Opd X β I w (.vptr () cs) x) : ∃ (l : Loc) (lcs : List AL), lcs.map er = cs ∧ x = .pointer (some ⟨l.b, l.o, none⟩) ∧ MemL w I false lcs l.b l.o := by
  obtain ⟨lv, h1, h2, h3⟩ := h.ex
  obtain ⟨l, lcs, rfl, h4⟩ := er_vptr h1
  simp only [RR] at h2
  obtain ⟨l', rfl, h5⟩ := h2
  simp only [Mem] at h3
  exact ⟨l', lcs, h4, h5, h3⟩

theorem Opd.slI {sz n : Nat} {cs : List AU} {x : Value} (h : Opd X β I w (.sl false () sz n cs) x) :
    (x = .slice none 0 0 ∧ n = 0 ∧ cs = []) ∨ ∃ (l : Loc) (lcs : List AL), lcs.map er = cs ∧ x = .slice (some ⟨l.b, l.o, none⟩) n l.cap ∧ n ≤ l.cap ∧ lcs.length = n * sz ∧ MemL w I false lcs l.b l.o := by
  obtain ⟨lv, h1, h2, h3⟩ := h.ex
  obtain ⟨l, lcs, rfl, h4⟩ := er_sl h1
  simp only [RR] at h2
  cases l with
  | none =>
    simp only [CR] at h2
    simp only [Mem] at h3
    exact .inl ⟨h2.1, h3.1, by rw [← h4, h3.2]; rfl⟩
  | some l =>
    simp only [CR] at h2
    simp only [Mem] at h3
    exact .inr ⟨l, lcs, h4, h2, h3.2.1, h3.1, h3.2.2⟩

theorem Opd.slO {sz n : Nat} {cs : List AU} {x : Value} (h : Opd X β I w (.sl true () sz n cs) x) : ∃ a cap, x = .slice a n cap ∧ (n = 0 ∨ a.isSome) := by
  obtain ⟨lv, h1, h2, h3⟩ := h.ex
  obtain ⟨l, lcs, rfl, h4⟩ := er_sl h1
  simp only [RR] at h2
  cases l with
  | none => simp only [CR] at h2; exact ⟨none, 0, by rw [h2.1, h2.2], .inl h2.2⟩
  | some l => simp only [CR] at h2; exact ⟨_, _, h2, .inr rfl⟩

/-- A node at a path, from the state without labels. -/
theorem node_sl {k : Nat} {p : List Nat} {o : Bool} {sz n : Nat} {cs : List AU} (h : getN (erF X k).2 p = some (.sl o () sz n cs)) : ∃ l lcs, getN (X k).2 p = some (.sl o l sz n lcs) ∧ lcs.map er = cs := by
  simp only [erF, er_getN] at h
  cases hg : getN (X k).2 p with
  | none => simp [hg] at h
  | some v =>
    simp only [hg, Option.map_some, Option.some.injEq] at h
    obtain ⟨l, lcs, rfl, h4⟩ := er_sl h
    exact ⟨l, lcs, rfl, h4⟩

theorem node_bx {k : Nat} {p : List Nat} {o : Bool} {cs : List AU} (h : getN (erF X k).2 p = some (.bx o () cs)) : ∃ l lcs, getN (X k).2 p = some (.bx o l lcs) ∧ lcs.map er = cs := by
  simp only [erF, er_getN] at h
  cases hg : getN (X k).2 p with
  | none => simp [hg] at h
  | some v =>
    simp only [hg, Option.map_some, Option.some.injEq] at h
    obtain ⟨l, lcs, rfl, h4⟩ := er_bx h
    exact ⟨l, lcs, rfl, h4⟩

/-- What lies at a path is in memory. -/
theorem Mem_getN {p : List Nat} : ∀ {v u : AL}, Mem w I v → getN v p = some u → Mem w I u := by
  induction p with
  | nil => intro v u h hg; simp only [getN, Option.some.injEq] at hg; exact hg ▸ h
  | cons i p ih =>
    intro v u h hg
    simp only [getN] at hg
    cases hc : v.cells? with
    | none => simp [hc] at hg
    | some cs =>
      simp only [hc] at hg
      cases hi : cs[i]? with
      | none => simp [hi] at hg
      | some c =>
        simp only [hi] at hg
        refine ih ?_ hg
        cases v with
        | sl o l s n k =>
          simp only [AV.cells?, Option.some.injEq] at hc; subst hc
          cases l with
          | none => simp [Mem] at h; simp [h.2] at hi
          | some l => simp only [Mem] at h; exact ((MemL_iff.1 h.2.2) i c hi).2.1
        | bx o l k =>
          simp only [AV.cells?, Option.some.injEq] at hc; subst hc
          cases l with
          | none => simp [Mem] at h
          | some l => simp only [Mem] at h; exact ((MemL_iff.1 h) i c hi).2.1
        | _ => simp [AV.cells?] at hc
end

/-! ### move, assign -/
theorem ok_mov {C : Ctx} {o : Oper} {X : XF Unit} {d sz : Nat} {x : Operand} {c : COd} (ho : o.op = .move x ∨ o.op = .assign x) (hd : o.dst = some d) (hlt : d < C.nt) (hin : opsIn C.nt o = true)
    (hc : compOd C.nt sz x = some c) (hv : noOwn (rd X c) = true) : OpOk C o X (X.set (100 * d) (rd X c)) :=
  OpOk.of_pure hd hlt hin hv fun XL β I rg w he R => by
    obtain ⟨lv, h1, h2, h3, _⟩ := rd_ok R hc
    rw [he] at h1
    exact ⟨lv, _, h1, by rcases ho with ho | ho <;> simp [execOp, ho], h3, h2⟩

/-- A pointer that is no nil pointer. -/
def sureP (X : XF Unit) : AU → Bool
  | .ptr k g _ _ => (X k).1 == g
  | .bptr b g _ => (X (100 * b + 99)).1 == g
  | .vptr _ _ => true
  | _ => false

theorem sure_ptr {X : XF LO} {β : Nat → Nat × Nat} {I : ASet} {w : World} {v : AU} {x : Value} (h : Opd X β I w v x) (hs : sureP (erF X) v = true) : ∃ a, x = .pointer (some a) := by
  cases v <;> simp [sureP] at hs
  · obtain ⟨s, l, sz, n, _, h2⟩ := h.ptr hs; exact ⟨_, h2⟩
  · exact ⟨_, h.bptr hs⟩
  · obtain ⟨l, _, _, h2, _⟩ := h.vptr; exact ⟨_, h2⟩

theorem ok_chk {C : Ctx} {o : Oper} {X : XF Unit} {d sz : Nat} {x : Operand} {c : COd} (ho : o.op = .nilCheck x) (hd : o.dst = some d) (hlt : d < C.nt) (hin : opsIn C.nt o = true)
    (hc : compOd C.nt sz x = some c) (hv : sureP X (rd X c) = true) : OpOk C o X (X.set (100 * d) (rd X c)) :=
  OpOk.of_pure hd hlt hin (by generalize rd X c = v at *; cases v <;> simp [sureP] at hv <;> rfl) fun XL β I rg w he R => by
    obtain ⟨lv, h1, h2, h3, _⟩ := rd_ok R hc
    have h := opd R hc
    rw [he] at h1 h
    obtain ⟨a, ha⟩ := sure_ptr h (by rw [he]; exact hv)
    refine ⟨lv, _, h1, ?_, h3, h2⟩
    simp [execOp, ho, ha]

theorem ok_pick {C : Ctx} {o : Oper} {X : XF Unit} {d sz : Nat} {x a b : Operand} {c ca cb : COd} {t : Bool} (ho : o.op = .pick x a b) (hd : o.dst = some d) (hlt : d < C.nt) (hin : opsIn C.nt o = true)
    (hc : compOd C.nt sz x = some c) (ha : compOd C.nt sz a = some ca) (hb : compOd C.nt sz b = some cb) (hx : rd X c = .sc (.bool t))
    (hv : noOwn (if t then rd X ca else rd X cb) = true) : OpOk C o X (X.set (100 * d) (if t then rd X ca else rd X cb)) :=
  OpOk.of_pure hd hlt hin hv fun XL β I rg w he R => by
    have h := opd R hc
    rw [he, hx] at h
    have hxx := h.sc
    cases t with
    | true =>
      obtain ⟨lv, h1, h2, h3, _⟩ := rd_ok R ha
      rw [he] at h1
      exact ⟨lv, _, by simpa using h1, by simp [execOp, ho, hxx, asBool], h3, h2⟩
    | false =>
      obtain ⟨lv, h1, h2, h3, _⟩ := rd_ok R hb
      rw [he] at h1
      exact ⟨lv, _, by simpa using h1, by simp [execOp, ho, hxx, asBool], h3, h2⟩

/-- A step that yields a scalar. -/
theorem OpOk.of_sc {C : Ctx} {o : Oper} {X : XF Unit} {d : Nat} {v : Value} (hd : o.dst = some d) (hlt : d < C.nt) (hin : opsIn C.nt o = true)
    (h : ∀ XL β I rg w, erF XL = X → RelL C XL β I rg w → (execOp (evR rg) o).run C.P w = .ok (.value v) w) : OpOk C o X (X.set (100 * d) (.sc v)) :=
  OpOk.of_pure hd hlt hin rfl fun XL β I rg w he R => ⟨.sc v, v, rfl, h XL β I rg w he R, by simp [Mem], by simp [RR]⟩

theorem ok_un {C : Ctx} {o : Oper} {X : XF Unit} {d sz : Nat} {op : UnOp} {t : TypeId} {x : Operand} {c : COd} {u r : Value} (ho : o.op = .unOp op t x) (hd : o.dst = some d) (hlt : d < C.nt) (hin : opsIn C.nt o = true)
    (hc : compOd C.nt sz x = some c) (hx : rd X c = .sc u) (hr : scUn op u = some r) : OpOk C o X (X.set (100 * d) (.sc r)) :=
  OpOk.of_sc hd hlt hin fun XL β I rg w he R => by
    have h := opd R hc
    rw [he, hx] at h
    simp [execOp, ho, h.sc, run_scUn hr]

theorem ok_bin {C : Ctx} {o : Oper} {X : XF Unit} {d sz : Nat} {op : BinOp} {t t' : TypeId} {x y : Operand} {c e : COd} {u v r : Value} (ho : o.op = .binOp op t x y t') (hd : o.dst = some d) (hlt : d < C.nt) (hin : opsIn C.nt o = true)
    (hc : compOd C.nt sz x = some c) (hy : compOd C.nt sz y = some e) (hx : rd X c = .sc u) (hx' : rd X e = .sc v) (hr : scBin op u v = some r) : OpOk C o X (X.set (100 * d) (.sc r)) :=
  OpOk.of_sc hd hlt hin fun XL β I rg w he R => by
    have h := opd R hc
    have h' := opd R hy
    rw [he, hx] at h
    rw [he, hx'] at h'
    have := run_scBin (P := C.P) (w := w) (t := t) (ox := x) (oy := y) hr
    simp only [execOp, ho, h.sc, h'.sc]
    simp only [Sem.run_bind] at this ⊢
    rw [this]; rfl

theorem run_equal_bool {P : Program} {t : TypeId} (ht : P.underlying t = some .bool) (u v : Bool) (w : World) : (Op.equal t (.bool u) (.bool v)).run P w = .ok (u == v) w := by
  show (Op.equalIn (9999 + 1) t (.bool u) (.bool v)).run P w = _
  generalize 9999 = n
  simp [Op.equalIn, run_underlying ht]

theorem ok_beq {C : Ctx} {o : Oper} {X : XF Unit} {d sz : Nat} {op : BinOp} {t t' : TypeId} {x y : Operand} {c e : COd} {u v : Bool} (ho : o.op = .binOp op t x y t') (hd : o.dst = some d) (hlt : d < C.nt) (hin : opsIn C.nt o = true)
    (hop : op = .eql ∨ op = .neq) (ht : C.P.underlying t = some .bool)
    (hc : compOd C.nt sz x = some c) (hy : compOd C.nt sz y = some e) (hx : rd X c = .sc (.bool u)) (hx' : rd X e = .sc (.bool v)) : OpOk C o X (X.set (100 * d) (.sc (.bool (if op = .eql then u == v else !(u == v))))) :=
  OpOk.of_sc hd hlt hin fun XL β I rg w he R => by
    have h := opd R hc
    have h' := opd R hy
    rw [he, hx] at h
    rw [he, hx'] at h'
    rcases hop with rfl | rfl <;> simp [execOp, ho, h.sc, h'.sc, eqGuard, binOp, run_equal_bool ht]

theorem ok_conv {C : Ctx} {o : Oper} {X : XF Unit} {d sz : Nat} {s t : TypeId} {k k' : IntKind} {ds : TypeDesc} {n : Int} {x : Operand} {c : COd} (ho : o.op = .convert s t x) (hd : o.dst = some d) (hlt : d < C.nt) (hin : opsIn C.nt o = true)
    (hs : C.P.underlying s = some ds) (ht : C.P.underlying t = some (.int k)) (hc : compOd C.nt sz x = some c) (hx : rd X c = .sc (.int k' n)) : OpOk C o X (X.set (100 * d) (.sc (.int k (k.wrap n)))) :=
  OpOk.of_sc hd hlt hin fun XL β I rg w he R => by
    have h := opd R hc
    rw [he, hx] at h
    simp [execOp, ho, h.sc, convert, run_underlying ht, run_underlying hs, Conv.intToInt]
end Go.OT
