/-
  More operations: min and max, a struct that is built.
-/
import Derived.Test.YtpdigppbokpdkaaOtW
import Derived.Laws.Tables
set_option linter.unusedSimpArgs false
set_option linter.unusedVariables false
namespace Go.OT

/-- min or max of two numbers. -/
theorem ok_mx {C : Ctx} {o : Oper} {X : XF Unit} {d sz : Nat} {mx : Bool} {x y : Operand} {tys : Array TypeId} {c e : COd} {u v r : Value} (ho : o.op = .call ⟨.builtin (if mx then .max else .min), #[x, y], tys⟩) (hd : o.dst = some d) (hlt : d < C.nt) (hin : opsIn C.nt o = true)
    (hc : compOd C.nt sz x = some c) (hy : compOd C.nt sz y = some e) (hx : rd X c = .sc u) (hx' : rd X e = .sc v) (hr : scMx mx u v = some r) : OpOk C o X (X.set (100 * d) (.sc r)) :=
  OpOk.of_sc hd hlt hin fun XL β I rg w he R => by
    have h := opd R hc
    have h' := opd R hy
    rw [he, hx] at h
    rw [he, hx'] at h'
    cases u <;> cases v <;> simp [scMx] at hr
    obtain ⟨rfl, rfl⟩ := hr
    cases mx
    · simp [execOp, ho, resolve, invoke, builtin, Builtin.min_, Builtin.min2, h.sc, h'.sc]
    · simp [execOp, ho, resolve, invoke, builtin, Builtin.max_, Builtin.max2, h.sc, h'.sc]

/-- The cells of a value that is put into a struct. -/
def cellsU {L : Type} : AV L → Option (List (AV L))
  | .agg vs => some vs
  | .sc v => if v.oneCell' then some [.sc v] else none
  | .sl o l s n cs => some [.sl o l s n cs]
  | .bx o l cs => some [.bx o l cs]
  | .vptr l cs => some [.vptr l cs]
  | .clos f cs => some [.clos f cs]
  | _ => none

def setR {L : Type} (off : Nat) (cells vs : List L) : List L := vs.zipIdx.foldl (fun cs p => cs.set (off + p.2) p.1) cells

def fillU (cells : List AU) : List (Nat × Nat × AU) → Option (List AU)
  | [] => some cells
  | (off, size, v) :: rest => (cellsU v).bind fun vs => if vs.length = size ∧ off + size ≤ cells.length then fillU (setR off cells vs) rest else none

theorem er_cellsU {lv : AL} {vs : List AU} (h : cellsU (er lv) = some vs) : ∃ lvs, cellsU lv = some lvs ∧ lvs.map er = vs := by
  cases lv <;> simp [er, cellsU] at h
  case sc v => obtain ⟨h1, rfl⟩ := h; exact ⟨[.sc v], by simp [cellsU, h1], by simp [er]⟩
  case agg cs => exact ⟨cs, rfl, by rw [← erL_eq]; exact h⟩
  all_goals (subst h; exact ⟨_, rfl, by simp [er]⟩)

section
variable {C : Ctx} {X : XF LO} {β : Nat → Nat × Nat} {I : ASet} {rg : Nat → Value} {w : World}

theorem cells_ok {lv : AL} {x : Value} {lvs : List AL} (h : cellsU lv = some lvs) (hr : RR X β lv x) (hm : Mem w I lv) : RRL X β lvs x.cells.toList ∧ MemA w I lvs := by
  have one : ∀ {lv : AL} {x : Value}, RR X β lv x → Mem w I lv → x.cells.toList = [x] → RRL X β [lv] x.cells.toList ∧ MemA w I [lv] := by
    intro lv x hr hm hx
    rw [hx]
    exact ⟨by simp only [RRL]; exact ⟨x, [], rfl, hr, rfl⟩, by simp [MemA, hm]⟩
  cases lv <;> simp [cellsU] at h
  case sc v =>
    obtain ⟨h1, rfl⟩ := h
    simp only [RR] at hr
    subst hr
    refine one (by simp [RR]) hm ?_
    cases x <;> simp [Value.oneCell'] at h1 <;> simp [Value.cells]
  case sl o l s n cs =>
    subst h
    refine one hr hm ?_
    simp only [RR] at hr
    cases l with
    | none => simp only [CR] at hr; rw [hr.1]; simp [Value.cells]
    | some l => simp only [CR] at hr; rw [hr]; simp [Value.cells]
  case bx o l cs =>
    subst h
    refine one hr hm ?_
    simp only [RR] at hr
    cases l with
    | none => simp [Mem] at hm
    | some l => simp only [CR] at hr; rw [hr]; simp [Value.cells]
  case agg cs =>
    subst h
    simp only [RR] at hr
    obtain ⟨xs, rfl, hr⟩ := hr
    simp only [Mem] at hm
    exact ⟨by simpa [Value.cells] using hr, hm⟩
  case vptr l cs =>
    subst h
    refine one hr hm ?_
    simp only [RR] at hr
    obtain ⟨l', _, rfl⟩ := hr
    simp [Value.cells]
  case clos f cs =>
    subst h
    refine one hr hm ?_
    simp only [RR] at hr
    obtain ⟨xs, rfl, _⟩ := hr
    simp [Value.cells]

theorem RRL_set {cs : List AL} {xs : List Value} (h : RRL X β cs xs) (i : Nat) {c : AL} {x : Value} (hc : RR X β c x) : RRL X β (cs.set i c) (xs.set i x) := by
  rw [RRL_iff] at h ⊢
  refine ⟨by simp [h.1], fun j c' x' h1 h2 => ?_⟩
  rw [List.getElem?_set] at h1 h2
  by_cases e : i = j
  · subst e
    simp only [if_true] at h1 h2
    split at h1
    · rename_i hlt
      rw [if_pos (by rw [← h.1]; exact hlt)] at h2
      cases h1; cases h2; exact hc
    · cases h1
  · rw [if_neg e] at h1 h2
    exact h.2 j c' x' h1 h2

theorem setR_ok (off : Nat) : ∀ (lvs : List AL) (ys : List Value) (n : Nat) (cs : List AL) (xs : List Value), RRL X β cs xs → MemA w I cs → RRL X β lvs ys → MemA w I lvs →
    RRL X β ((lvs.zipIdx n).foldl (fun cs p => cs.set (off + p.2) p.1) cs) ((ys.zipIdx n).foldl (fun cs p => cs.set (off + p.2) p.1) xs) ∧ MemA w I ((lvs.zipIdx n).foldl (fun cs p => cs.set (off + p.2) p.1) cs)
  | [], ys, n, cs, xs, h1, h2, h3, h4 => by
    simp only [RRL] at h3
    subst h3
    exact ⟨by simpa using h1, by simpa using h2⟩
  | v :: lvs, ys, n, cs, xs, h1, h2, h3, h4 => by
    simp only [RRL] at h3
    obtain ⟨y, ys', rfl, h5, h6⟩ := h3
    simp only [MemA] at h4
    simp only [List.zipIdx_cons, List.foldl_cons]
    refine setR_ok off lvs ys' (n + 1) _ _ (RRL_set h1 _ h5) ?_ h6 h4.2
    rw [MemA_iff] at h2 ⊢
    intro c hc
    rcases List.mem_or_eq_of_mem_set hc with h | h
    · exact h2 c h
    · rw [h]; exact h4.1

theorem er_setR (off : Nat) : ∀ (lvs : List AL) (n : Nat) (cs : List AL), ((lvs.zipIdx n).foldl (fun cs p => cs.set (off + p.2) p.1) cs).map er = ((lvs.map er).zipIdx n).foldl (fun cs p => cs.set (off + p.2) p.1) (cs.map er)
  | [], n, cs => by simp
  | v :: lvs, n, cs => by
    simp only [List.map_cons, List.zipIdx_cons, List.foldl_cons]
    rw [er_setR off lvs (n + 1), List.map_set]

theorem setR_length {L : Type} (off : Nat) : ∀ (vs : List L) (n : Nat) (cs : List L), ((vs.zipIdx n).foldl (fun cs p => cs.set (off + p.2) p.1) cs).length = cs.length
  | [], n, cs => by simp
  | v :: vs, n, cs => by
    simp only [List.zipIdx_cons, List.foldl_cons]
    rw [setR_length off vs (n + 1)]
    simp

theorem foldl_toList (off : Nat) : ∀ (l : List (Value × Nat)) (cells : Array Value), (l.foldl (fun cs p => cs.setIfInBounds (off + p.2) p.1) cells).toList = l.foldl (fun cs p => cs.set (off + p.2) p.1) cells.toList
  | [], cells => rfl
  | p :: l, cells => by
    simp only [List.foldl_cons]
    rw [foldl_toList off l, Array.toList_setIfInBounds]

theorem fill_cells (off : Nat) (v : Array Value) (cells : Array Value) : (v.zipIdx.foldl (fun cs (c, j) => cs.setIfInBounds (off + j) c) cells).toList = setR off cells.toList v.toList := by
  rw [← Array.foldl_toList]
  simp only [Array.toList_zipIdx]
  exact foldl_toList off _ _

theorem fill_ok (place : Nat → Option (Nat × Nat)) : ∀ (pv : List (Nat × Nat × AL)) (parts : List (Nat × Value)) (lcs : List AL) (xs : Array Value) (cs : List AU), RRL X β lcs xs.toList → MemA w I lcs → pv.length = parts.length →
    (∀ (j : Nat) (p : Nat × Nat × AL) (q : Nat × Value), pv[j]? = some p → parts[j]? = some q → place q.1 = some (p.1, p.2.1) ∧ RR X β p.2.2 q.2 ∧ Mem w I p.2.2) → fillU (lcs.map er) (pv.map fun p => (p.1, p.2.1, er p.2.2)) = some cs →
    ∃ lcs' xs', lcs'.map er = cs ∧ RRL X β lcs' xs'.toList ∧ MemA w I lcs' ∧ Instr.fill place xs parts = some xs'
  | [], parts, lcs, xs, cs, h1, h2, hlen, hp, h => by
    have : parts = [] := by simpa using hlen.symm
    subst this
    simp only [List.map_nil, fillU, Option.some.injEq] at h
    exact ⟨lcs, xs, h, h1, h2, rfl⟩
  | (off, size, lv) :: pv, parts, lcs, xs, cs, h1, h2, hlen, hp, h => by
    cases parts with
    | nil => simp at hlen
    | cons q parts =>
      obtain ⟨i, x⟩ := q
      obtain ⟨g1, g2, g3⟩ := hp 0 _ _ rfl rfl
      simp only at g1 g2 g3
      simp only [List.map_cons, fillU] at h
      cases hv : cellsU (er lv) with
      | none => simp [hv] at h
      | some vs =>
        simp only [hv, Option.bind_some] at h
        split at h
        · rename_i hcond
          obtain ⟨lvs, e1, e2⟩ := er_cellsU hv
          obtain ⟨k1, k2⟩ := cells_ok e1 g2 g3
          have hsz : x.cells.size = size := by
            have := (RRL_iff.1 k1).1
            rw [← hcond.1, ← e2]
            simpa using this.symm
          have hxl : lcs.length = xs.size := by simpa using (RRL_iff.1 h1).1
          have hbound : off + size ≤ xs.size := by have := hcond.2; rw [List.length_map, hxl] at this; exact this
          obtain ⟨m1, m2⟩ := setR_ok (X := X) (β := β) (w := w) (I := I) off lvs x.cells.toList 0 lcs xs.toList h1 h2 k1 k2
          have herr : (setR off lcs lvs).map er = setR off (lcs.map er) vs := by rw [← e2]; exact er_setR off lvs 0 lcs
          rw [← herr] at h
          obtain ⟨lcs', xs', r1, r2, r3, r4⟩ := fill_ok place pv parts (setR off lcs lvs) (x.cells.zipIdx.foldl (fun cs (c, j) => cs.setIfInBounds (off + j) c) xs) cs (by rw [fill_cells]; exact m1) m2 (by simpa using hlen)
            (fun j p q a b => hp (j + 1) p q (by simpa using a) (by simpa using b)) h
          refine ⟨lcs', xs', r1, r2, r3, ?_⟩
          simp only [Instr.fill, g1]
          rw [if_neg (by simp [hsz]; omega)]
          exact r4
        · cases h

/-- Where the parts of a struct or an array lie. -/
def placesOf (P : Program) (t : TypeId) (i : Nat) : Option (Nat × Nat) :=
  match P.underlying t with
  | some (.array _ e) => (P.info? e).map fun ie => (i * ie.size, ie.size)
  | some (.struct fields) => (fields.toList.mapM fun f => (P.info? f.type).map fun i => (f.offset, i.size)).bind (·[i]?)
  | _ => none

theorem built_ok {P : Program} {t : TypeId} {z : Value} {parts : List (Nat × Value)} {xs : Array Value} (hz : ((P.info? t).bind (·.zero)) = some z) (hne : parts ≠ [] ∨ ∃ i, (placesOf P t i).isSome = true) (h : Instr.fill (placesOf P t) z.cells parts = some xs)
    (hp : ∀ p ∈ parts, (placesOf P t p.1).isSome = true) : P.built t parts = some xs := by
  unfold Program.built
  cases hi : P.info? t with
  | none => simp [hi] at hz
  | some it =>
    simp only [hi, Option.bind_some] at hz
    have hsome : ∃ i, (placesOf P t i).isSome = true := by
      rcases hne with h | h
      · cases parts with
        | nil => exact absurd rfl h
        | cons p l => exact ⟨p.1, hp p (by simp)⟩
      · exact h
    obtain ⟨i0, hi0⟩ := hsome
    cases hu : P.underlying t with
    | none => simp [placesOf, hu] at hi0
    | some d =>
      cases d with
      | array n e =>
        simp only [placesOf, hu] at hi0
        cases hie : P.info? e with
        | none => simp [hie] at hi0
        | some ie =>
          have hpe : placesOf P t = fun i => some (i * ie.size, ie.size) := by funext i; simp [placesOf, hu, hie]
          rw [hpe] at h
          simpa [hz, hie] using h
      | struct fields =>
        simp only [placesOf, hu] at hi0
        cases hpl : fields.toList.mapM (fun f => (P.info? f.type).map fun i => (f.offset, i.size)) with
        | none => simp [hpl] at hi0
        | some places =>
          have hpe : placesOf P t = fun i => places[i]? := by funext i; simp [placesOf, hu, hpl]
          rw [hpe] at h
          simpa [hz, hpl] using h
      | _ => simp [placesOf, hu] at hi0
end

/-- A struct of parts that own nothing. -/
theorem ok_build {C : Ctx} {o : Oper} {X : XF Unit} {d : Nat} {t : TypeId} {parts : Array (Nat × Operand)} {szs : List Nat} {zs : List AU} {pcs : List (Nat × Nat × COd)} {cs : List AU} (ho : o.op = .build t parts) (hd : o.dst = some d) (hlt : d < C.nt) (hin : opsIn C.nt o = true)
    (hz : zerosOf C.P t szs = some zs) (hpl : (placesOf C.P t 0).isSome = true) (hlen : pcs.length = parts.size)
    (hp : ∀ (j : Nat) (p : Nat × Nat × COd) (q : Nat × Operand), pcs[j]? = some p → parts[j]? = some q → placesOf C.P t q.1 = some (p.1, p.2.1) ∧ ∃ sz, compOd C.nt sz q.2 = some p.2.2)
    (hf : fillU zs (pcs.map fun p => (p.1, p.2.1, rd X p.2.2)) = some cs) (hno : noOwnL cs = true) : OpOk C o X (X.set (100 * d) (.agg cs)) := by
  refine OpOk.of_pure hd hlt hin (by simpa [noOwn] using hno) fun XL β I rg w he R => ?_
  obtain ⟨z, h1, h2, h3, h4⟩ := zerosOf_ok hz
  -- the parts, with their labels
  have hex : ∀ (l : List (Nat × Nat × COd)) (ps : List (Nat × Operand)), l.length = ps.length → (∀ (j : Nat) (p : Nat × Nat × COd) (q : Nat × Operand), l[j]? = some p → ps[j]? = some q → placesOf C.P t q.1 = some (p.1, p.2.1) ∧ ∃ sz, compOd C.nt sz q.2 = some p.2.2) →
      ∃ pv : List (Nat × Nat × AL), pv.map (fun p => (p.1, p.2.1, er p.2.2)) = l.map (fun p => (p.1, p.2.1, rd X p.2.2)) ∧ pv.length = ps.length ∧
        ∀ (j : Nat) (p : Nat × Nat × AL) (q : Nat × Operand), pv[j]? = some p → ps[j]? = some q → placesOf C.P t q.1 = some (p.1, p.2.1) ∧ RR XL β p.2.2 (evR rg q.2) ∧ Mem w I p.2.2 := by
    intro l
    induction l with
    | nil =>
      intro ps hl _
      have : ps = [] := by simpa using hl.symm
      subst this
      exact ⟨[], rfl, rfl, by simp⟩
    | cons a l ih =>
      intro ps hl hp
      cases ps with
      | nil => simp at hl
      | cons q ps =>
        obtain ⟨g1, sz, g2⟩ := hp 0 a q rfl rfl
        obtain ⟨lv, k1, k2, k3, _⟩ := rd_ok R g2
        rw [he] at k1
        obtain ⟨pv, m1, m2, m3⟩ := ih ps (by simpa using hl) (fun j p q a b => hp (j + 1) p q (by simpa using a) (by simpa using b))
        refine ⟨(a.1, a.2.1, lv) :: pv, by simp [k1, m1], by simp [m2], fun j p q' a' b' => ?_⟩
        cases j with
        | zero => simp at a' b'; subst a' b'; exact ⟨g1, k2, k3⟩
        | succ j => exact m3 j p q' (by simpa using a') (by simpa using b')
  obtain ⟨pv, m1, m2, m3⟩ := hex pcs parts.toList (by simpa using hlen) (fun j p q a b => hp j p q a (by simpa using b))
  rw [← m1, h3] at hf
  have hzr : RRL XL β (List.zipWith lcst szs z.cells.toList) z.cells.toList ∧ MemA w I (List.zipWith lcst szs z.cells.toList) := by
    have hcst : ∀ sz v, RR XL β (lcst sz v) v ∧ Mem w I (lcst sz v) := by
      intro sz v
      rcases lcst_cases sz v with ⟨rfl, e, _⟩ | ⟨e, _⟩
      · rw [e]; simp [RR, CR, Mem]
      · rw [e]; simp [RR, Mem]
    refine ⟨RRL_iff.2 ⟨by simp [h2], fun i c x a b => ?_⟩, MemA_iff.2 fun c hc => ?_⟩
    · rw [List.getElem?_zipWith, b] at a
      cases hs : szs[i]? with
      | none => simp [hs] at a
      | some s => simp [hs] at a; subst a; exact (hcst s x).1
    · obtain ⟨i, hi⟩ := List.getElem?_of_mem hc
      rw [List.getElem?_zipWith] at hi
      cases hs : szs[i]? with
      | none => simp [hs] at hi
      | some s =>
        cases hx : z.cells.toList[i]? with
        | none => simp [hs, hx] at hi
        | some x => simp only [hs, hx, Option.some.injEq] at hi; rw [← hi]; exact (hcst s x).2
  obtain ⟨lcs', xs', r1, r2, r3, r4⟩ := fill_ok (placesOf C.P t) pv (parts.toList.map fun p => (p.1, evR rg p.2)) _ z.cells cs hzr.1 hzr.2 (by simp [m2]) (fun j p q a b => by
    simp only [List.getElem?_map] at b
    cases hq : parts.toList[j]? with
    | none => simp [hq] at b
    | some q0 =>
      simp only [hq, Option.map_some, Option.some.injEq] at b
      subst b
      exact m3 j p q0 a hq) hf
  have hb := built_ok h4 (.inr ⟨0, hpl⟩) r4 (fun p hpm => by
    simp only [List.mem_map] at hpm
    obtain ⟨q, hq, rfl⟩ := hpm
    obtain ⟨j, hj⟩ := List.getElem?_of_mem hq
    have hlt' : j < pv.length := by rw [m2]; exact (List.getElem?_eq_some_iff.1 hj).1
    have := (m3 j _ q (List.getElem?_eq_getElem hlt') hj).1
    simp [this])
  refine ⟨.agg lcs', .agg xs', by simp [er, erL_eq, r1], ?_, by simpa [Mem] using r3, by simp only [RR]; exact ⟨xs'.toList, rfl, r2⟩⟩
  have hrun := run_build (P := C.P) w t (parts.map fun (i, x) => (i, evR rg x)) xs' (by rw [← hb]; simp)
  simp [execOp, ho, hrun]
end Go.OT
