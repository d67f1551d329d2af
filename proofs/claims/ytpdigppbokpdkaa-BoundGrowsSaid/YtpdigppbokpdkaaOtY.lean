/-
  A compiled form of the operations, and its abstract run.
-/
import Derived.Test.YtpdigppbokpdkaaOtX
set_option linter.unusedSimpArgs false
set_option linter.unusedVariables false
namespace Go.OT

inductive COp where
  | mov (d : Nat) (c : COd)
  | asg (d : Nat) (c : COd)
  | chk (d : Nat) (c : COd)
  | pick (d : Nat) (c a b : COd)
  | un (d : Nat) (op : UnOp) (c : COd)
  | bin (d : Nat) (op : BinOp) (a b : COd)
  | beq (d : Nat) (eq : Bool) (a b : COd)
  | conv (d : Nat) (k : IntKind) (c : COd)
  | mx (d : Nat) (mx : Bool) (a b : COd)
  | ld (d n : Nat) (ag : Bool) (c : COd)
  | faddr (d off : Nat) (c : COd)
  | iaddr (d s : Nat) (c i : COd)
  | len (d : Nat) (c : COd)
  | slen (d : Nat) (c : COd)
  | slice (d s : Nat) (c : COd) (l h : Option COd)
  | st (n : Nat) (a v : COd)
  | ext (d n i : Nat)
  | box (d : Nat) (c : COd)
  | alloc (d : Nat) (zs : List AU)
  | build (d : Nat) (zs : List AU) (parts : List (Nat × Nat × COd))

def ownRaw (X : XF Unit) : COd → Bool
  | .t n => !noOwn (X (100 * n)).2
  | .c v => !noOwn v

/-- A value that is written to a register, if it owns nothing. -/
def putV (X : XF Unit) (d : Nat) (v : AU) : Option (XF Unit) := if noOwn v = true then some (X.set (100 * d) v) else none

def stp (X : XF Unit) : COp → Option (XF Unit)
  | .mov d c => putV X d (rd X c)
  | .asg d c => if ownRaw X c = true then asgV X d c else putV X d (rd X c)
  | .chk d c => if sureP X (rd X c) = true then some (X.set (100 * d) (rd X c)) else none
  | .pick d c a b => match rd X c with
    | .sc (.bool t) => putV X d (if t = true then rd X a else rd X b)
    | _ => none
  | .un d op c => match rd X c with
    | .sc u => (scUn op u).map fun r => X.set (100 * d) (.sc r)
    | _ => none
  | .bin d op a b => match rd X a, rd X b with
    | .sc u, .sc v => (scBin op u v).map fun r => X.set (100 * d) (.sc r)
    | _, _ => none
  | .beq d eq a b => match rd X a, rd X b with
    | .sc (.bool u), .sc (.bool v) => some (X.set (100 * d) (.sc (.bool (if eq = true then u == v else !(u == v)))))
    | _, _ => none
  | .conv d k c => match rd X c with
    | .sc (.int _ n) => some (X.set (100 * d) (.sc (.int k (k.wrap n))))
    | _ => none
  | .mx d mx a b => match rd X a, rd X b with
    | .sc u, .sc v => (scMx mx u v).map fun r => X.set (100 * d) (.sc r)
    | _, _ => none
  | .ld d n ag c => (ldCells X (rd X c) n).bind fun cs => putV X d (if ag = true then .agg cs else cs.getD 0 .non)
  | .faddr d off c => (faddrV X off (rd X c)).map fun v => X.set (100 * d) v
  | .iaddr d s c i => match rd X i with
    | .sc (.int _ j) => (iaddrV X s (rd X c) j).map fun v => X.set (100 * d) v
    | _ => none
  | .len d c => (lenV X (rd X c)).map fun (n : Nat) => X.set (100 * d) (.sc (.int .i64 (n : Int)))
  | .slen d c => match rd X c with
    | .sc (.string s) => some (X.set (100 * d) (.sc (.int .i64 s.size)))
    | _ => none
  | .slice d s c l h => (lenV X (rd X c)).bind fun n => (bnd X 0 l).bind fun lo => (bnd X n h).bind fun hi => (sliceV X s lo hi (rd X c)).map fun v => X.set (100 * d) v
  | .st n a v => stV X n a v
  | .ext d n i => extV X d n i
  | .box d c => boxV X d c
  | .alloc d zs => some (allocV X d zs)
  | .build d zs parts => (fillU zs (parts.map fun p => (p.1, p.2.1, rd X p.2.2))).bind fun cs => putV X d (.agg cs)

/-- How many cells the elements of a slice type have. -/
def elemSz (P : Program) (t : TypeId) : Nat :=
  match P.underlying t with
  | some (.slice e) => (sizeT P e).getD 0
  | _ => 0

/-- The same of each cell of a type. -/
def szsOf (P : Program) : Nat → TypeId → List Nat
  | 0, t => List.replicate ((sizeT P t).getD 0) 0
  | fuel + 1, t => match P.underlying t with
    | some (.slice e) => [(sizeT P e).getD 0]
    | some (.struct fs) => fs.toList.flatMap fun f => szsOf P fuel f.type
    | some (.array n e) => (List.replicate n (szsOf P fuel e)).flatten
    | _ => List.replicate ((sizeT P t).getD 0) 0

def dstIn (nt : Nat) (o : Oper) : Option Nat := o.dst.bind fun d => if d < nt then some d else none

def partsOd (P : Program) (nt : Nat) (t : TypeId) : List (Nat × Operand) → Option (List (Nat × Nat × COd))
  | [] => some []
  | (i, x) :: l => (placesOf P t i).bind fun p => (compOd nt 0 x).bind fun c => (partsOd P nt t l).map fun r => (p.1, p.2, c) :: r

def compCall (P : Program) (nt : Nat) (o : Oper) (c : Call) : Option COp :=
  (dstIn nt o).bind fun d =>
    match c.callee, c.args.toList, c.argTypes.toList with
    | .builtin .len, [x], [t] => (compOd nt 0 x).bind fun c =>
        match P.underlying t with
        | some (.slice _) => some (.len d c)
        | some .string => some (.slen d c)
        | _ => none
    | .builtin .max, [x, y], _ => (compOd nt 0 x).bind fun a => (compOd nt 0 y).map fun b => .mx d true a b
    | .builtin .min, [x, y], _ => (compOd nt 0 x).bind fun a => (compOd nt 0 y).map fun b => .mx d false a b
    | _, _, _ => none

def compO (P : Program) (nt : Nat) (here : List Nat) (o : Oper) : Option COp :=
  if opsIn nt o = true ∧ nt ≤ H then
    match o.op with
    | .move x => (dstIn nt o).bind fun d => (compOd nt (elemSz P o.type) x).map fun c => .mov d c
    | .assign x => (dstIn nt o).bind fun d => (compOd nt (elemSz P o.type) x).map fun c =>
        match c with
        | .t n => if here.contains n then .asg d c else .mov d c
        | .c _ => .asg d c
    | .nilCheck x => (dstIn nt o).bind fun d => (compOd nt 0 x).map fun c => .chk d c
    | .pick x a b => (dstIn nt o).bind fun d => (compOd nt 0 x).bind fun c => (compOd nt 0 a).bind fun ca => (compOd nt 0 b).map fun cb => .pick d c ca cb
    | .unOp op _ x => (dstIn nt o).bind fun d => (compOd nt 0 x).map fun c => .un d op c
    | .binOp op t x y _ => (dstIn nt o).bind fun d => (compOd nt 0 x).bind fun a => (compOd nt 0 y).bind fun b =>
        match P.underlying t with
        | some .bool => if op = .eql then some (.beq d true a b) else if op = .neq then some (.beq d false a b) else none
        | _ => some (.bin d op a b)
    | .convert s t x => (dstIn nt o).bind fun d => (compOd nt 0 x).bind fun c =>
        match P.underlying s, P.underlying t with
        | some _, some (.int k) => some (.conv d k c)
        | _, _ => none
    | .load t x => (dstIn nt o).bind fun d => (compOd nt 0 x).bind fun c => (isAggT P t).bind fun ag => (sizeT P t).bind fun n => if ag = false → n = 1 then some (.ld d n ag c) else none
    | .fieldAddr s x f => (dstIn nt o).bind fun d => (compOd nt 0 x).bind fun c =>
        match P.underlying s with
        | some (.struct fs) => (fs[f]?).bind fun fd => (sizeT P fd.type).bind fun n => if n ≠ 0 then some (.faddr d fd.offset c) else none
        | _ => none
    | .indexAddr t x i => (dstIn nt o).bind fun d => (compOd nt 0 x).bind fun c => (compOd nt 0 i).bind fun ci =>
        match P.underlying t with
        | some (.slice e) => (sizeT P e).map fun s => .iaddr d s c ci
        | _ => none
    | .slice t x l h none => (dstIn nt o).bind fun d => (compOd nt 0 x).bind fun c => (compOd? nt l).bind fun cl => (compOd? nt h).bind fun ch =>
        match P.underlying t with
        | some (.slice e) => (sizeT P e).map fun s => .slice d s c cl ch
        | _ => none
    | .store t x v => if o.dst = none then (sizeT P t).bind fun n => (compOd nt 0 x).bind fun a => (compOd nt (elemSz P t) v).map fun c => .st n a c else none
    | .extract (.tmp n) i => (dstIn nt o).map fun d => .ext d n i
    | .box _ x => (dstIn nt o).bind fun d => (compOd nt 0 x).map fun c => .box d c
    | .alloc e => (dstIn nt o).bind fun d => (zerosOf P e (szsOf P 8 e)).bind fun zs => if zs.all treeV = true then some (.alloc d zs) else none
    | .build t parts => (dstIn nt o).bind fun d => (zerosOf P t (szsOf P 8 t)).bind fun zs => (partsOd P nt t parts.toList).bind fun pcs => if (placesOf P t 0).isSome = true then some (.build d zs pcs) else none
    | .call c => compCall P nt o c
    | _ => none
  else none

theorem dstIn_some {nt d : Nat} {o : Oper} (h : dstIn nt o = some d) : o.dst = some d ∧ d < nt := by
  unfold dstIn at h
  cases hd : o.dst with
  | none => simp [hd] at h
  | some e => simp [hd] at h; obtain ⟨h1, rfl⟩ := h; exact ⟨rfl, h1⟩

theorem partsOd_ok {P : Program} {nt : Nat} {t : TypeId} : ∀ {l : List (Nat × Operand)} {r : List (Nat × Nat × COd)}, partsOd P nt t l = some r → r.length = l.length ∧
    ∀ (j : Nat) (p : Nat × Nat × COd) (q : Nat × Operand), r[j]? = some p → l[j]? = some q → placesOf P t q.1 = some (p.1, p.2.1) ∧ ∃ sz, compOd nt sz q.2 = some p.2.2
  | [], r, h => by simp only [partsOd, Option.some.injEq] at h; subst h; simp
  | (i, x) :: l, r, h => by
    simp only [partsOd, Option.bind_eq_some_iff, Option.map_eq_some_iff] at h
    obtain ⟨p, h1, c, h2, r', h3, rfl⟩ := h
    have ih := partsOd_ok h3
    refine ⟨by simp [ih.1], fun j p' q a b => ?_⟩
    cases j with
    | zero => simp at a b; subst a b; exact ⟨h1, 0, h2⟩
    | succ j => exact ih.2 j p' q (by simpa using a) (by simpa using b)

theorem putV_some {X X' : XF Unit} {d : Nat} {v : AU} (h : putV X d v = some X') : noOwn v = true ∧ X' = X.set (100 * d) v := by
  unfold putV at h
  split at h
  · rename_i hn; exact ⟨hn, by simpa using h.symm⟩
  · cases h

theorem compCall_ok {C : Ctx} {o : Oper} {c : Call} {co : COp} {X X' : XF Unit} (ho : o.op = .call c) (hin : opsIn C.nt o = true) (h : compCall C.P C.nt o c = some co) (hs : stp X co = some X') : OpOk C o X X' := by
  simp only [compCall, Option.bind_eq_some_iff] at h
  obtain ⟨d, hd, h⟩ := h
  obtain ⟨hd1, hd2⟩ := dstIn_some hd
  obtain ⟨callee, args, tys⟩ := c
  simp only at h
  split at h
  · rename_i x t h2 h3
    have e2 : args = #[x] := by cases args; simp only at h2; rw [h2]
    have e3 : tys = #[t] := by cases tys; simp only at h3; rw [h3]
    subst e2 e3
    simp only [Option.bind_eq_some_iff] at h
    obtain ⟨c, hc, h⟩ := h
    split at h
    · rename_i e he
      cases h
      simp only [stp, Option.map_eq_some_iff] at hs
      obtain ⟨n, hn, rfl⟩ := hs
      exact ok_len ho hd1 hd2 hin he hc hn
    · rename_i he
      cases h
      simp only [stp] at hs
      split at hs
      · rename_i s hx
        cases hs
        exact ok_slen ho hd1 hd2 hin he hc hx
      · cases hs
    · cases h
  · rename_i x y h2
    have e2 : args = #[x, y] := by cases args; simp only at h2; rw [h2]
    subst e2
    simp only [Option.bind_eq_some_iff, Option.map_eq_some_iff] at h
    obtain ⟨a, ha, b, hb, rfl⟩ := h
    simp only [stp] at hs
    split at hs
    · rename_i u v hx hy
      simp only [Option.map_eq_some_iff] at hs
      obtain ⟨r, hr, rfl⟩ := hs
      exact ok_mx (mx := true) ho hd1 hd2 hin ha hb hx hy hr
    · cases hs
  · rename_i x y h2
    have e2 : args = #[x, y] := by cases args; simp only at h2; rw [h2]
    subst e2
    simp only [Option.bind_eq_some_iff, Option.map_eq_some_iff] at h
    obtain ⟨a, ha, b, hb, rfl⟩ := h
    simp only [stp] at hs
    split at hs
    · rename_i u v hx hy
      simp only [Option.map_eq_some_iff] at hs
      obtain ⟨r, hr, rfl⟩ := hs
      exact ok_mx (mx := false) ho hd1 hd2 hin ha hb hx hy hr
    · cases hs
  · cases h

theorem compO_ok {C : Ctx} {here : List Nat} {o : Oper} {co : COp} {X X' : XF Unit} (h : compO C.P C.nt here o = some co) (hs : stp X co = some X') : OpOk C o X X' := by
  unfold compO at h
  split at h
  case isFalse => cases h
  rename_i hg
  obtain ⟨hin, hnt⟩ := hg
  split at h
  · -- move
    rename_i x ho
    simp only [Option.bind_eq_some_iff, Option.map_eq_some_iff] at h
    obtain ⟨d, hd, c, hc, rfl⟩ := h
    obtain ⟨hd1, hd2⟩ := dstIn_some hd
    obtain ⟨h1, rfl⟩ := putV_some (by simpa only [stp] using hs)
    exact ok_mov (.inl ho) hd1 hd2 hin hc h1
  · -- assign
    rename_i x ho
    simp only [Option.bind_eq_some_iff, Option.map_eq_some_iff] at h
    obtain ⟨d, hd, c, hc, rfl⟩ := h
    obtain ⟨hd1, hd2⟩ := dstIn_some hd
    have hA : stp X (.asg d c) = some X' → OpOk C o X X' := fun hs => by
      simp only [stp] at hs
      split at hs
      · exact ok_asg ho hd1 hd2 hin hnt hc hs
      · obtain ⟨h1, rfl⟩ := putV_some hs; exact ok_mov (.inr ho) hd1 hd2 hin hc h1
    have hM : stp X (.mov d c) = some X' → OpOk C o X X' := fun hs => by
      obtain ⟨h1, rfl⟩ := putV_some (by simpa only [stp] using hs)
      exact ok_mov (.inr ho) hd1 hd2 hin hc h1
    cases c with
    | t n =>
      simp only at hs
      split at hs
      · exact hA hs
      · exact hM hs
    | c v => exact hA hs
  · -- nilCheck
    rename_i x ho
    simp only [Option.bind_eq_some_iff, Option.map_eq_some_iff] at h
    obtain ⟨d, hd, c, hc, rfl⟩ := h
    obtain ⟨hd1, hd2⟩ := dstIn_some hd
    simp only [stp] at hs
    split at hs
    · rename_i hv; cases hs; exact ok_chk ho hd1 hd2 hin hc hv
    · cases hs
  · -- pick
    rename_i x a b ho
    simp only [Option.bind_eq_some_iff, Option.map_eq_some_iff] at h
    obtain ⟨d, hd, c, hc, ca, hca, cb, hcb, rfl⟩ := h
    obtain ⟨hd1, hd2⟩ := dstIn_some hd
    simp only [stp] at hs
    split at hs
    · rename_i t hx
      obtain ⟨h1, rfl⟩ := putV_some hs
      exact ok_pick ho hd1 hd2 hin hc hca hcb hx h1
    · cases hs
  · -- unOp
    rename_i op t x ho
    simp only [Option.bind_eq_some_iff, Option.map_eq_some_iff] at h
    obtain ⟨d, hd, c, hc, rfl⟩ := h
    obtain ⟨hd1, hd2⟩ := dstIn_some hd
    simp only [stp] at hs
    split at hs
    · rename_i u hx
      simp only [Option.map_eq_some_iff] at hs
      obtain ⟨r, hr, rfl⟩ := hs
      exact ok_un ho hd1 hd2 hin hc hx hr
    · cases hs
  · -- binOp
    rename_i op t x y t' ho
    simp only [Option.bind_eq_some_iff, Option.map_eq_some_iff] at h
    obtain ⟨d, hd, a, ha, b, hb, h⟩ := h
    obtain ⟨hd1, hd2⟩ := dstIn_some hd
    split at h
    · rename_i ht
      split at h
      · rename_i hop
        cases h
        simp only [stp] at hs
        split at hs
        · rename_i u v hx hy
          cases hs
          have := ok_beq (C := C) (X := X) ho hd1 hd2 hin (.inl hop) ht ha hb hx hy
          rw [if_pos hop] at this
          simpa using this
        · cases hs
      · split at h
        · rename_i hne hop
          cases h
          simp only [stp] at hs
          split at hs
          · rename_i u v hx hy
            cases hs
            have := ok_beq (C := C) (X := X) ho hd1 hd2 hin (.inr hop) ht ha hb hx hy
            rw [if_neg hne] at this
            simpa using this
          · cases hs
        · cases h
    · cases h
      simp only [stp] at hs
      split at hs
      · rename_i u v hx hy
        simp only [Option.map_eq_some_iff] at hs
        obtain ⟨r, hr, rfl⟩ := hs
        exact ok_bin ho hd1 hd2 hin ha hb hx hy hr
      · cases hs
  · -- convert
    rename_i s t x ho
    simp only [Option.bind_eq_some_iff, Option.map_eq_some_iff] at h
    obtain ⟨d, hd, c, hc, h⟩ := h
    obtain ⟨hd1, hd2⟩ := dstIn_some hd
    split at h
    · rename_i ds k hs1 ht1
      cases h
      simp only [stp] at hs
      split at hs
      · rename_i k' n hx
        cases hs
        exact ok_conv ho hd1 hd2 hin hs1 ht1 hc hx
      · cases hs
    · cases h
  · -- load
    rename_i t x ho
    simp only [Option.bind_eq_some_iff, Option.map_eq_some_iff] at h
    obtain ⟨d, hd, c, hc, ag, hag, n, hn, h⟩ := h
    obtain ⟨hd1, hd2⟩ := dstIn_some hd
    split at h
    · rename_i h1
      cases h
      simp only [stp, Option.bind_eq_some_iff] at hs
      obtain ⟨cs, hcs, hs⟩ := hs
      obtain ⟨h2, rfl⟩ := putV_some hs
      exact ok_ld ho hd1 hd2 hin hag hn h1 hc hcs h2
    · cases h
  · -- fieldAddr
    rename_i s x f ho
    simp only [Option.bind_eq_some_iff, Option.map_eq_some_iff] at h
    obtain ⟨d, hd, c, hc, h⟩ := h
    obtain ⟨hd1, hd2⟩ := dstIn_some hd
    split at h
    · rename_i fs hfs
      simp only [Option.bind_eq_some_iff] at h
      obtain ⟨fd, hfd, n, hn, h⟩ := h
      split at h
      · rename_i hn0
        cases h
        simp only [stp, Option.map_eq_some_iff] at hs
        obtain ⟨v, hv, rfl⟩ := hs
        exact ok_faddr ho hd1 hd2 hin hfs hfd hn hn0 hc hv
      · cases h
    · cases h
  · -- indexAddr
    rename_i t x i ho
    simp only [Option.bind_eq_some_iff, Option.map_eq_some_iff] at h
    obtain ⟨d, hd, c, hc, ci, hci, h⟩ := h
    obtain ⟨hd1, hd2⟩ := dstIn_some hd
    split at h
    · rename_i e he
      simp only [Option.map_eq_some_iff] at h
      obtain ⟨s, hsz, rfl⟩ := h
      simp only [stp] at hs
      split at hs
      · rename_i k j hi
        simp only [Option.map_eq_some_iff] at hs
        obtain ⟨v, hv, rfl⟩ := hs
        exact ok_iaddr ho hd1 hd2 hin he hsz hc hci hi hv
      · cases hs
    · cases h
  · -- slice
    rename_i t x l hh ho
    simp only [Option.bind_eq_some_iff, Option.map_eq_some_iff] at h
    obtain ⟨d, hd, c, hc, cl, hcl, ch, hch, h⟩ := h
    obtain ⟨hd1, hd2⟩ := dstIn_some hd
    split at h
    · rename_i e he
      simp only [Option.map_eq_some_iff] at h
      obtain ⟨s, hsz, rfl⟩ := h
      simp only [stp, Option.bind_eq_some_iff, Option.map_eq_some_iff] at hs
      obtain ⟨n, hn, lo, hlo, hi, hhi, v, hv, rfl⟩ := hs
      exact ok_slice ho hd1 hd2 hin he hsz hc hcl hch hn hlo hhi hv
    · cases h
  · -- store
    rename_i t x v ho
    split at h
    · rename_i hd
      simp only [Option.bind_eq_some_iff, Option.map_eq_some_iff] at h
      obtain ⟨n, hn, a, ha, c, hc, rfl⟩ := h
      exact ok_st ho hd hin hnt hn ha hc (by simpa only [stp] using hs)
    · cases h
  · -- extract
    rename_i n i ho
    simp only [Option.map_eq_some_iff] at h
    obtain ⟨d, hd, rfl⟩ := h
    obtain ⟨hd1, hd2⟩ := dstIn_some hd
    exact ok_ext ho hd1 hd2 hin (by simpa only [stp] using hs)
  · -- box
    rename_i e x ho
    simp only [Option.bind_eq_some_iff, Option.map_eq_some_iff] at h
    obtain ⟨d, hd, c, hc, rfl⟩ := h
    obtain ⟨hd1, hd2⟩ := dstIn_some hd
    exact ok_box ho hd1 hd2 hin hnt hc (by simpa only [stp] using hs)
  · -- alloc
    rename_i e ho
    simp only [Option.bind_eq_some_iff, Option.map_eq_some_iff] at h
    obtain ⟨d, hd, zs, hz, h⟩ := h
    obtain ⟨hd1, hd2⟩ := dstIn_some hd
    split at h
    · rename_i ht
      cases h
      simp only [stp, Option.some.injEq] at hs
      subst hs
      exact ok_alloc ho hd1 hd2 hin hnt hz ht
    · cases h
  · -- build
    rename_i t parts ho
    simp only [Option.bind_eq_some_iff, Option.map_eq_some_iff] at h
    obtain ⟨d, hd, zs, hz, pcs, hp, h⟩ := h
    obtain ⟨hd1, hd2⟩ := dstIn_some hd
    split at h
    · rename_i ht
      cases h
      simp only [stp, Option.bind_eq_some_iff] at hs
      obtain ⟨cs, hcs, hs⟩ := hs
      obtain ⟨h2, rfl⟩ := putV_some hs
      have hpp := partsOd_ok hp
      exact ok_build ho hd1 hd2 hin hz ht (by simpa using hpp.1) (fun j p q a b => hpp.2 j p q a (by simpa using b)) hcs (by simpa [noOwn] using h2)
    · cases h
  · -- a builtin function
    rename_i c ho
    exact compCall_ok ho hin h hs
  · cases h
end Go.OT
