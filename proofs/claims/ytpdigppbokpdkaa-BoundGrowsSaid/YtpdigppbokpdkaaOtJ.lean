/-
  Addresses of fields and elements; lengths; parts of slices and strings; strings of bytes.
-/
import Derived.Test.YtpdigppbokpdkaaOtI
set_option linter.unusedSimpArgs false
set_option linter.unusedVariables false
namespace Go.OT

def faddrV (X : XF Unit) (off : Nat) : AU → Option AU
  | .bptr b g i => if (X (100 * b + 99)).1 = g then some (.bptr b g (i + off)) else none
  | .ptr k g p i => if (X k).1 = g then some (.ptr k g p (i + off)) else none
  | .vptr _ cs => if off ≤ cs.length then some (.vptr () (cs.drop off)) else none
  | _ => none

def szAt (X : XF Unit) (k : Nat) (p : List Nat) : Option Nat :=
  match getN (X k).2 p with
  | some (.sl _ _ s _ _) => some s
  | _ => none

def iaddrV (X : XF Unit) (sz : Nat) : AU → Int → Option AU
  | .view k g p off n, j => if (X k).1 = g ∧ 0 ≤ j ∧ j < n ∧ szAt X k p = some sz then some (.ptr k g p (off + j.toNat * sz)) else none
  | .sl false _ sz' n cs, j => if sz' = sz ∧ 0 ≤ j ∧ j < n then some (.vptr () (cs.drop (j.toNat * sz))) else none
  | _, _ => none

section
variable {C : Ctx} {X : XF LO} {β : Nat → Nat × Nat} {I : ASet} {rg : Nat → Value} {w : World}

theorem MemL_drop {own : Bool} {cs : List AL} {b o : Nat} (h : MemL w I own cs b o) (k : Nat) : MemL w I own (cs.drop k) b (o + k) := by
  rw [MemL_iff] at h ⊢
  intro i c hc
  rw [List.getElem?_drop] at hc
  have := h (k + i) c hc
  rwa [Nat.add_assoc]

theorem MemL_take {own : Bool} {cs : List AL} {b o : Nat} (h : MemL w I own cs b o) (k : Nat) : MemL w I own (cs.take k) b o := by
  rw [MemL_iff] at h ⊢
  intro i c hc
  rw [List.getElem?_take] at hc
  split at hc
  · exact h i c hc
  · cases hc

/-- A pointer moved by some cells. -/
theorem faddr_ok {off : Nat} {v r : AU} {x : Value} (h : Opd X β I w v x) (hr : faddrV (erF X) off v = some r) :
    ∃ (b o : Nat), x = .pointer (some ⟨b, o, none⟩) ∧ Opd X β I w r (.pointer (some ⟨b, o + off, none⟩)) := by
  cases v with
  | bptr b g i =>
    simp only [faddrV] at hr
    split at hr <;> cases hr
    rename_i hg
    refine ⟨_, _, h.bptr hg, ⟨.bptr b g (i + off), rfl, ?_, by simp [Mem]⟩⟩
    simp only [RR]
    have hg' : (X (100 * b + 99)).1 = g := hg
    exact ⟨by omega, fun _ => by rw [Nat.add_assoc]⟩
  | ptr k g p i =>
    simp only [faddrV] at hr
    split at hr <;> cases hr
    rename_i hg
    obtain ⟨s, l, sz, n, h1, h2⟩ := h.ptr hg
    refine ⟨_, _, h2, ⟨.ptr k g p (i + off), rfl, ?_, by simp [Mem]⟩⟩
    simp only [RR]
    have hg' : (X k).1 = g := hg
    exact ⟨by omega, fun _ => ⟨s, l, sz, n, h1, by rw [Nat.add_assoc]⟩⟩
  | vptr u cs =>
    simp only [faddrV] at hr
    split at hr <;> cases hr
    rename_i hle
    obtain ⟨l, lcs, h1, h2, h3⟩ := h.vptr
    refine ⟨_, _, h2, ⟨.vptr (some ⟨l.b, l.o + off, 0⟩) (lcs.drop off), by simp [er, erL_eq, ← h1], ?_, ?_⟩⟩
    · simp only [RR]; exact ⟨_, rfl, rfl⟩
    · simp only [Mem]; exact MemL_drop h3 off
  | _ => simp [faddrV] at hr

theorem iaddr_ok {sz : Nat} {v r : AU} {x : Value} {j : Int} (h : Opd X β I w v x) (hr : iaddrV (erF X) sz v j = some r) :
    ∃ (b o n cap : Nat), x = .slice (some ⟨b, o, none⟩) n cap ∧ 0 ≤ j ∧ j < n ∧ Opd X β I w r (.pointer (some ⟨b, o + j.toNat * sz, none⟩)) := by
  cases v with
  | view k g p off n =>
    simp only [iaddrV] at hr
    split at hr <;> cases hr
    rename_i hc
    obtain ⟨hg, h0, hn, hsz⟩ := hc
    obtain ⟨l, s, m, h1, xa, cap, h2, h3⟩ := h.view hg
    cases l with
    | none => simp only at h3; omega
    | some l =>
      simp only at h3
      obtain ⟨h4, h5, h6, o', h7, h8⟩ := h3
      have ho := h8 (by omega)
      subst ho h7
      refine ⟨_, _, n, cap, h2, h0, hn, ⟨.ptr k g p (off + j.toNat * sz), rfl, ?_, by simp [Mem]⟩⟩
      simp only [RR]
      have hg' : (X k).1 = g := hg
      exact ⟨by omega, fun _ => ⟨true, l, s, m, h1, by rw [Nat.add_assoc]⟩⟩
  | sl o u s n cs =>
    cases o with
    | true => simp [iaddrV] at hr
    | false =>
      simp only [iaddrV] at hr
      split at hr <;> cases hr
      rename_i hc
      obtain ⟨rfl, h0, hn⟩ := hc
      rcases h.slI with ⟨_, h1, _⟩ | ⟨l, lcs, h1, h2, h3, h4, h5⟩
      · omega
      · refine ⟨_, _, n, _, h2, h0, hn, ⟨.vptr (some ⟨l.b, l.o + j.toNat * s, 0⟩) (lcs.drop (j.toNat * s)), by simp [er, erL_eq, ← h1], ?_, ?_⟩⟩
        · simp only [RR]; exact ⟨_, rfl, rfl⟩
        · simp only [Mem]; exact MemL_drop h5 _
  | _ => simp [iaddrV] at hr

/-- The length of a slice. -/
def lenV (X : XF Unit) : AU → Option Nat
  | .view k g _ _ n => if (X k).1 = g then some n else none
  | .sl _ _ _ n _ => some n
  | _ => none

theorem len_ok {v : AU} {x : Value} {n : Nat} (h : Opd X β I w v x) (hr : lenV (erF X) v = some n) : ∃ a cap, x = .slice a n cap := by
  cases v with
  | view k g p off m =>
    simp only [lenV] at hr
    split at hr <;> cases hr
    rename_i hg
    obtain ⟨l, s, m', h1, xa, cap, h2, h3⟩ := h.view hg
    exact ⟨_, _, h2⟩
  | sl o u s m cs =>
    simp only [lenV, Option.some.injEq] at hr
    subst hr
    cases o with
    | true => obtain ⟨a, cap, h1, _⟩ := h.slO; exact ⟨a, cap, h1⟩
    | false =>
      rcases h.slI with ⟨h1, h2, _⟩ | ⟨l, lcs, h1, h2, _⟩
      · exact ⟨_, _, by rw [h1, h2]⟩
      · exact ⟨_, _, h2⟩
  | _ => simp [lenV] at hr

def sliceV (X : XF Unit) (sz lo hi : Nat) : AU → Option AU
  | .view k g p off n => if (X k).1 = g ∧ lo ≤ hi ∧ hi ≤ n ∧ szAt X k p = some sz then some (.view k g p (off + lo * sz) (hi - lo)) else none
  | .sl false _ sz' n cs => if sz' = sz ∧ lo ≤ hi ∧ hi ≤ n then some (.sl false () sz (hi - lo) ((cs.drop (lo * sz)).take ((hi - lo) * sz))) else none
  | _ => none

theorem szAt_hd {k : Nat} {p : List Nat} {sz s n : Nat} {l : LO} (h : szAt (erF X) k p = some sz) (h1 : (getN (X k).2 p).bind hd = some (true, l, s, n)) : s = sz := by
  simp only [szAt, erF, er_getN] at h
  cases hN : getN (X k).2 p with
  | none => simp [hN] at h
  | some N =>
    simp only [hN, Option.map_some, Option.bind_some] at h h1
    cases N <;> simp [er, hd] at h h1
    omega

theorem slice_ok {sz lo hi : Nat} {v r : AU} {x : Value} (h : Opd X β I w v x) (hr : sliceV (erF X) sz lo hi v = some r) :
    ∃ a n cap, x = .slice a n cap ∧ lo ≤ hi ∧ hi ≤ n ∧ n ≤ cap ∧ lenV (erF X) v = some n ∧ Opd X β I w r (.slice (if cap = lo then a else a.map (·.add (lo * sz))) (hi - lo) (cap - lo)) := by
  cases v with
  | view k g p off n =>
    simp only [sliceV] at hr
    split at hr <;> cases hr
    rename_i hc
    obtain ⟨hg, h0, hn, hsz⟩ := hc
    obtain ⟨l, s, m, h1, xa, cap, h2, h3⟩ := h.view hg
    have hs := szAt_hd hsz h1
    subst hs
    have hg' : (X k).1 = g := hg
    cases l with
    | none =>
      simp only at h3
      obtain ⟨rfl, rfl, rfl⟩ := h3
      have : lo = 0 := by omega
      subst this
      have : hi = 0 := by omega
      subst this
      refine ⟨none, 0, 0, h2, h0, hn, Nat.le_refl _, by simp [lenV, hg], ⟨.view k g p (off + 0 * s) (0 - 0), rfl, ?_, by simp [Mem]⟩⟩
      simp only [RR]
      exact ⟨by omega, fun _ => ⟨none, s, m, h1, none, 0, by simp, rfl, rfl, rfl⟩⟩
    | some l =>
      simp only at h3
      obtain ⟨h4, h5, h6, o', h7, h8⟩ := h3
      subst h7
      refine ⟨_, n, cap, h2, h0, hn, h5, by simp [lenV, hg], ⟨.view k g p (off + lo * s) (hi - lo), rfl, ?_, by simp [Mem]⟩⟩
      simp only [RR]
      refine ⟨by omega, fun _ => ⟨some l, s, m, h1, _, _, rfl, ?_⟩⟩
      have e1 : lo * s + (hi - lo) * s = hi * s := by rw [← Nat.add_mul]; congr 1; omega
      have e2 : lo * s + (cap - lo) * s = cap * s := by rw [← Nat.add_mul]; congr 1; omega
      have e3 : hi * s ≤ n * s := Nat.mul_le_mul_right s hn
      refine ⟨by omega, by omega, by omega, if cap = lo then o' else o' + lo * s, ?_, ?_⟩
      · split
        · rfl
        · simp [Addr.add_lit]
      · intro hne
        rw [if_neg (by omega)]
        rw [h8 (by omega)]; omega
  | sl o u s n cs =>
    cases o with
    | true => simp [sliceV] at hr
    | false =>
      simp only [sliceV] at hr
      split at hr <;> cases hr
      rename_i hc
      obtain ⟨rfl, h0, hn⟩ := hc
      rcases h.slI with ⟨h1, h2, h3⟩ | ⟨l, lcs, h1, h2, h3, h4, h5⟩
      · subst h2 h3
        have : lo = 0 := by omega
        subst this
        have : hi = 0 := by omega
        subst this
        exact ⟨none, 0, 0, h1, h0, hn, Nat.le_refl _, by simp [lenV], ⟨.sl false none s 0 [], by simp [er, erL], by simp [RR, CR], by simp [Mem]⟩⟩
      · have e1 : lo * s + (hi - lo) * s = hi * s := by rw [← Nat.add_mul]; congr 1; omega
        have e3 : hi * s ≤ n * s := Nat.mul_le_mul_right s hn
        refine ⟨_, n, _, h2, h0, hn, h3, by simp [lenV], ⟨.sl false (some ⟨l.b, if l.cap = lo then l.o else l.o + lo * s, l.cap - lo⟩) s (hi - lo) ((lcs.drop (lo * s)).take ((hi - lo) * s)), by simp [er, erL_eq, ← h1], ?_, ?_⟩⟩
        · simp only [RR, CR]
          split
          · rfl
          · simp [Addr.add_lit]
        · simp only [Mem]
          refine ⟨by simp [h4]; omega, by omega, ?_⟩
          split
          · rename_i e
            have : hi - lo = 0 := by omega
            rw [this]; simp [MemL]
          · exact MemL_take (MemL_drop h5 _) _
  | _ => simp [sliceV] at hr
end

/-! ### fieldAddr, indexAddr, len, slice -/
theorem ok_faddr {C : Ctx} {o : Oper} {X : XF Unit} {d sz f n : Nat} {s : TypeId} {fs : Array Field} {fd : Field} {x : Operand} {c : COd} {v : AU} (ho : o.op = .fieldAddr s x f) (hd : o.dst = some d) (hlt : d < C.nt) (hin : opsIn C.nt o = true)
    (hs : C.P.underlying s = some (.struct fs)) (hf : fs[f]? = some fd) (hn : sizeT C.P fd.type = some n) (hn0 : n ≠ 0)
    (hc : compOd C.nt sz x = some c) (hr : faddrV X fd.offset (rd X c) = some v) : OpOk C o X (X.set (100 * d) v) :=
  OpOk.of_pure hd hlt hin (by revert hr; generalize rd X c = u; intro hr; cases u <;> simp [faddrV] at hr <;> obtain ⟨_, rfl⟩ := hr <;> rfl) fun XL β I rg w he R => by
    have h := opd R hc
    rw [he] at h
    obtain ⟨b, off, h1, ⟨lv, h2, h3, h4⟩⟩ := faddr_ok h (by rw [he]; exact hr)
    refine ⟨lv, _, h2, ?_, h4, h3⟩
    simp [execOp, ho, Instr.fieldAt, run_underlying hs, hf, h1, Instr.sureAddr, fieldPlace, run_sizeOf hn, hn0, Addr.add_lit]

theorem ok_iaddr {C : Ctx} {o : Oper} {X : XF Unit} {d sz s : Nat} {t e : TypeId} {x i : Operand} {c ci : COd} {k : IntKind} {j : Int} {v : AU} (ho : o.op = .indexAddr t x i) (hd : o.dst = some d) (hlt : d < C.nt) (hin : opsIn C.nt o = true)
    (ht : C.P.underlying t = some (.slice e)) (hs : sizeT C.P e = some s)
    (hc : compOd C.nt sz x = some c) (hci : compOd C.nt sz i = some ci) (hi : rd X ci = .sc (.int k j)) (hr : iaddrV X s (rd X c) j = some v) : OpOk C o X (X.set (100 * d) v) :=
  OpOk.of_pure hd hlt hin (by
      revert hr; generalize rd X c = u; intro hr
      cases u with
      | sl o _ _ _ _ => cases o <;> simp [iaddrV] at hr; obtain ⟨_, rfl⟩ := hr; rfl
      | view _ _ _ _ _ => simp [iaddrV] at hr; obtain ⟨_, rfl⟩ := hr; rfl
      | _ => simp [iaddrV] at hr) fun XL β I rg w he R => by
    have h := opd R hc
    have h' := opd R hci
    rw [he] at h h'
    rw [hi] at h'
    obtain ⟨b, off, n, cap, h1, h0, hn, ⟨lv, h2, h3, h4⟩⟩ := iaddr_ok h (by rw [he]; exact hr)
    refine ⟨lv, _, h2, ?_, h4, h3⟩
    simp [execOp, ho, Instr.indexAt, run_underlying ht, h1, h'.sc, asIntOf, h0, hn, run_sizeOf hs, Addr.add_lit]

theorem ok_len {C : Ctx} {o : Oper} {X : XF Unit} {d sz n : Nat} {t e : TypeId} {x : Operand} {c : COd} (ho : o.op = .call { callee := .builtin .len, args := #[x], argTypes := #[t] }) (hd : o.dst = some d) (hlt : d < C.nt) (hin : opsIn C.nt o = true)
    (ht : C.P.underlying t = some (.slice e)) (hc : compOd C.nt sz x = some c) (hr : lenV X (rd X c) = some n) : OpOk C o X (X.set (100 * d) (.sc (.int .i64 n))) :=
  OpOk.of_sc hd hlt hin fun XL β I rg w he R => by
    have h := opd R hc
    rw [he] at h
    obtain ⟨a, cap, h1⟩ := len_ok h (by rw [he]; exact hr)
    simp [execOp, ho, resolve, invoke, builtin, Builtin.len_, run_underlying ht, h1, goInt]

theorem ok_slen {C : Ctx} {o : Oper} {X : XF Unit} {d sz : Nat} {t : TypeId} {s : ByteArray} {x : Operand} {c : COd} (ho : o.op = .call { callee := .builtin .len, args := #[x], argTypes := #[t] }) (hd : o.dst = some d) (hlt : d < C.nt) (hin : opsIn C.nt o = true)
    (ht : C.P.underlying t = some .string) (hc : compOd C.nt sz x = some c) (hr : rd X c = .sc (.string s)) : OpOk C o X (X.set (100 * d) (.sc (.int .i64 s.size))) :=
  OpOk.of_sc hd hlt hin fun XL β I rg w he R => by
    have h := opd R hc
    rw [he, hr] at h
    simp [execOp, ho, resolve, invoke, builtin, Builtin.len_, run_underlying ht, h.sc, goInt]

/-- A slice's bound that is given or not. -/
def bnd (X : XF Unit) (dflt : Nat) : Option COd → Option Nat
  | none => some dflt
  | some c => match rd X c with
    | .sc (.int _ j) => if 0 ≤ j then some j.toNat else none
    | _ => none

def compOd? (nt : Nat) : Option Operand → Option (Option COd)
  | none => some none
  | some x => (compOd nt 0 x).map some

theorem ok_slice {C : Ctx} {o : Oper} {X : XF Unit} {d sz s n lo hi : Nat} {t e : TypeId} {x : Operand} {l h : Option Operand} {c : COd} {cl ch : Option COd} {v : AU} (ho : o.op = .slice t x l h none) (hd : o.dst = some d) (hlt : d < C.nt) (hin : opsIn C.nt o = true)
    (ht : C.P.underlying t = some (.slice e)) (hs : sizeT C.P e = some s)
    (hc : compOd C.nt sz x = some c) (hcl : compOd? C.nt l = some cl) (hch : compOd? C.nt h = some ch) (hn : lenV X (rd X c) = some n) (hl : bnd X 0 cl = some lo) (hh : bnd X n ch = some hi)
    (hr : sliceV X s lo hi (rd X c) = some v) : OpOk C o X (X.set (100 * d) v) :=
  OpOk.of_pure hd hlt hin (by
      revert hr; generalize rd X c = u; intro hr
      cases u with
      | sl o _ _ _ _ => cases o <;> simp [sliceV] at hr; obtain ⟨_, rfl⟩ := hr; rfl
      | view _ _ _ _ _ => simp [sliceV] at hr; obtain ⟨_, rfl⟩ := hr; rfl
      | _ => simp [sliceV] at hr) fun XL β I rg w he R => by
    have hx := opd R hc
    rw [he] at hx
    obtain ⟨a, m, cap, h1, h2, h3, h4, h5, ⟨lv, h6, h7, h8⟩⟩ := slice_ok hx (by rw [he]; exact hr)
    rw [he, hn] at h5
    cases h5
    refine ⟨lv, _, h6, ?_, h8, h7⟩
    have hbnd : ∀ (y : Operand) (co : Option COd) (dflt r : Nat), compOd? C.nt (some y) = some co → bnd X dflt co = some r → ∃ k j, evR rg y = .int k j ∧ 0 ≤ j ∧ j.toNat = r := by
      intro y co dflt r hco hb
      simp only [compOd?, Option.map_eq_some_iff] at hco
      obtain ⟨cy, hcy, rfl⟩ := hco
      have hy := opd R hcy
      rw [he] at hy
      simp only [bnd] at hb
      split at hb
      · rename_i k j hrd
        split at hb <;> cases hb
        rw [hrd] at hy
        exact ⟨k, j, hy.sc, by assumption, rfl⟩
      · cases hb
    have hL : ∀ y, l = some y → ∃ k j, evR rg y = .int k j ∧ 0 ≤ j ∧ j.toNat = lo := fun y hy => hbnd y cl 0 lo (hy ▸ hcl) hl
    have hH : ∀ y, h = some y → ∃ k j, evR rg y = .int k j ∧ 0 ≤ j ∧ j.toNat = hi := fun y hy => hbnd y ch n hi (hy ▸ hch) hh
    have hl0 : l = none → lo = 0 := by rintro rfl; simp only [compOd?, Option.some.injEq] at hcl; subst hcl; simpa [bnd] using hl.symm
    have hh0 : h = none → hi = n := by rintro rfl; simp only [compOd?, Option.some.injEq] at hch; subst hch; simpa [bnd] using hh.symm
    have hb : (Instr.sliceBounds true n cap (l.map (evR rg)) (h.map (evR rg)) none).run C.P w = .ok (lo, hi, cap) w := by
      cases l with
      | none =>
        have e0 := hl0 rfl
        subst e0
        cases h with
        | none => have e1 := hh0 rfl; subst e1; simp [Instr.sliceBounds]
        | some y =>
          obtain ⟨k, j, e1, e2, e3⟩ := hH y rfl
          simp [Instr.sliceBounds, Instr.sliceBound, e1, asIntOf, e2, show j ≤ cap by omega, e3]
      | some z =>
        obtain ⟨k', j', f1, f2, f3⟩ := hL z rfl
        cases h with
        | none => have e1 := hh0 rfl; subst e1; simp [Instr.sliceBounds, Instr.sliceBound, f1, asIntOf, f2, show j' ≤ hi by omega, f3]
        | some y =>
          obtain ⟨k, j, e1, e2, e3⟩ := hH y rfl
          simp [Instr.sliceBounds, Instr.sliceBound, e1, f1, asIntOf, e2, f2, show j ≤ cap by omega, e3, f3, show j' ≤ hi by omega]
    simp only [execOp, ho, Instr.sliceAt, Sem.run_bind, run_underlying ht, Result.andThen_ok, h1, Instr.slice, Option.map_none, hb, run_sizeOf hs, Sem.run_pure]
end Go.OT
