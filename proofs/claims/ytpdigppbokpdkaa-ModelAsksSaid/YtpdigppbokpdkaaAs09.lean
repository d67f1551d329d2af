/- Part 9 of the proof: see its last file. -/
import Derived.Orders
import Derived.Below
import Derived.Laws.Entries
import Derived.Laws.Cells
import Derived.Laws.IdiomCopy
import Derived.Scope
import Derived.Calls
import Derived.Laws.Tables
import Derived.Laws.MakeOwn
import Derived.Laws.BytesString
import Derived.ArgAppend
import Derived.WalkSpells
import Derived.Lib.SlBytesConst
import Derived.Lib.ConvBytes
import Derived.Test.YtpdigppbokpdkaaProg
import Derived.KernelRfl
import Derived.IntWalk
import Derived.Lib.Strings
import Derived.WalkKit
import Derived.ProofKit
import Derived.OpenShut
import Derived.ShutString
import Derived.ChangeOld
import Derived.Lib.SmallJoins
import Derived.Test.YtpdigppbokpdkaaBu08
set_option linter.unusedSimpArgs false
set_option linter.unusedVariables false
/-
  The arguments of a law as trees that are never written.
-/
set_option linter.unusedSimpArgs false
set_option linter.unusedVariables false
namespace Go.OT
open Go.ChangeShapes Go.WideShapes Go.ChangeAt Go.RowKit Go.Joins

/-- Whatever lies in memory. -/
def Wc (W : World) : ASet := fun b o => (W.at b o).isSome = true

theorem Wc_lt {W : World} {b o : Nat} (h : Wc W b o) : b < W.heap.size := by
  unfold Wc World.at World.cell? at h
  by_cases hb : b < W.heap.size
  · exact hb
  · simp [Array.getElem?_eq_none (Nat.le_of_not_lt hb)] at h

/-- A tree that owns nothing. -/
def plT (l : AL) : Prop := noOwn l = true ∧ roots l = [] ∧ ∀ b o, ¬ fp l b o

def CellT (W : World) (l : AL) (c : Value) : Prop := CR l c ∧ Mem W (Wc W) l ∧ plT l

/-- The values of a type that can be read are trees of the form 'enc'. -/
def Ty (P : Program) (t : TypeId) (α : Type) (enc : α → List AU) (ok : α → Prop) : Prop :=
  ∀ (T : Type) (en : TypeId × Value → T) (W : World) (fuel : Nat) (cs : List Value) (x : DataW T × List MemPlace), DataW.trod en P W 0 (fun _ => true) true fuel t cs = some x →
    ∃ (a : α) (ls : List AL), ls.map er = enc a ∧ ok a ∧ ls.length = cs.length ∧ ∀ (i : Nat) (l : AL) (c : Value), ls[i]? = some l → cs[i]? = some c → CellT W l c

section
variable {P : Program} {t : TypeId}

theorem Ty.one {α : Type} {enc : α → AU} {ok : α → Prop} (h : ∀ (T : Type) (en : TypeId × Value → T) (W : World) (fuel : Nat) (cs : List Value) (x : DataW T × List MemPlace), DataW.trod en P W 0 (fun _ => true) true fuel t cs = some x →
    ∃ (a : α) (l : AL) (c : Value), cs = [c] ∧ er l = enc a ∧ ok a ∧ CellT W l c) : Ty P t α (fun a => [enc a]) ok := by
  intro T en W fuel cs x hx
  obtain ⟨a, l, c, rfl, h1, h2, h3⟩ := h T en W fuel cs x hx
  refine ⟨a, [l], by simp [h1], h2, rfl, fun i l' c' hl hc => ?_⟩
  cases i with
  | zero => simp at hl hc; subst hl hc; exact h3
  | succ i => simp at hl

theorem cellT_sc (W : World) (v : Value) : CellT W (.sc v) v := ⟨by simp [CR], by simp [Mem], by simp [noOwn], by simp [roots], by simp [fp]⟩

theorem Ty.int {k : IntKind} (ht : P.underlying t = some (.int k)) : Ty P t Int (fun n => [.sc (.int k n)]) (fun n => (Lit.int k n).wf = true) :=
  Ty.one fun T en W fuel cs x hx => by
    obtain ⟨n, rfl, _, hw⟩ := DataW.trod_int ht hx
    exact ⟨n, .sc (.int k n), _, rfl, by simp [er], hw, cellT_sc W _⟩

theorem Ty.u8 (ht : P.underlying t = some (.int .u8)) : Ty P t UInt8 (fun b => [.sc (.int .u8 (b.toNat : Int))]) (fun _ => True) :=
  Ty.one fun T en W fuel cs x hx => by
    obtain ⟨n, rfl, _, hw⟩ := DataW.trod_int ht hx
    have hw' : 0 ≤ n ∧ n ≤ 255 := by simpa [Lit.wf, IntKind.min, IntKind.max, IntKind.signed, IntKind.bits] using hw
    refine ⟨UInt8.ofNat n.toNat, .sc (.int .u8 n), _, rfl, ?_, trivial, cellT_sc W _⟩
    simp [er]
    omega

theorem Ty.bool (ht : P.underlying t = some .bool) : Ty P t Bool (fun b => [.sc (.bool b)]) (fun _ => True) :=
  Ty.one fun T en W fuel cs x hx => by
    obtain ⟨b, rfl, _⟩ := DataW.trod_bool ht hx
    exact ⟨b, .sc (.bool b), _, rfl, by simp [er], trivial, cellT_sc W _⟩

theorem Ty.string (ht : P.underlying t = some .string) : Ty P t ByteArray (fun s => [.sc (.string s)]) (fun s => s.size ≤ maxLen) :=
  Ty.one fun T en W fuel cs x hx => by
    obtain ⟨s, rfl, _, hs⟩ := DataW.trod_string ht hx
    exact ⟨s, .sc (.string s), _, rfl, by simp [er], hs, cellT_sc W _⟩

theorem Ty.map {α β : Type} {enc : α → List AU} {ok : α → Prop} {enc' : β → List AU} {ok' : β → Prop} (h : Ty P t α enc ok) (g : α → β) (he : ∀ a, enc a = enc' (g a)) (hk : ∀ a, ok a → ok' (g a)) : Ty P t β enc' ok' := by
  intro T en W fuel cs x hx
  obtain ⟨a, ls, h1, h2, h3, h4⟩ := h T en W fuel cs x hx
  exact ⟨g a, ls, by rw [h1, he], hk a h2, h3, h4⟩

theorem spot_of_cell {W : World} {a : Addr} {v : Value} (h : W.cell? a = some v) : a.spot = none := by
  unfold World.cell? at h
  split at h
  · split at h
    · cases h
    · rename_i hs; simpa using hs
  · cases h

theorem addr_add {a : Addr} (h : a.spot = none) (j : Nat) : a.add j = ⟨a.block, a.off + j, none⟩ := by
  obtain ⟨b, o, s⟩ := a
  simp only at h
  subst h
  exact Addr.add_lit b o j

/-- A slice. -/
theorem Ty.slice {e : TypeId} {s : Nat} {α : Type} {enc : α → List AU} {ok : α → Prop} (ht : P.underlying t = some (.slice e)) (hs : P.cellsOf e = s) (h0 : 0 < s) (hl : ∀ a, (enc a).length = s) (h : Ty P e α enc ok) :
    Ty P t (List α) (fun l => [.sl false () s l.length (l.flatMap enc)]) (fun l => l.length ≤ 9223372036854775807 ∧ ∀ a ∈ l, ok a) :=
  Ty.one fun T en W fuel cs x hx => by
    rcases DataW.trod_slice ht hx with ⟨rfl, _⟩ | ⟨a, len, cap, elems, rest, n, _, rfl, _, _, hlc, hcm, hlen, hel, hsp, _⟩
    · exact ⟨[], .sl false none s 0 [], _, rfl, by simp [er, erL], by simp, by simp [CR], by simp [Mem], by simp [noOwn], by simp [roots], by simp [fp]⟩
    rw [hs] at hel hsp
    have hcm' : cap ≤ 9223372036854775807 := hcm
    -- each element, one by one
    have key : ∀ m, m ≤ len → ∃ (l : List α) (ls : List AL), l.length = m ∧ ls.map er = l.flatMap enc ∧ (∀ a ∈ l, ok a) ∧ ls.length = m * s ∧ ∀ (j : Nat) (u : AL), ls[j]? = some u → ∃ v, W.cell? (a.add j) = some v ∧ CellT W u v := by
      intro m
      induction m with
      | zero => intro _; exact ⟨[], [], rfl, rfl, by simp, by simp, fun j u hj => by simp at hj⟩
      | succ m ih =>
        intro hm
        obtain ⟨l, ls, k1, k2, k3, k4, k5⟩ := ih (by omega)
        have hE := hel m (by omega)
        have hlt : m < elems.length := by omega
        rw [List.getElem?_eq_getElem hlt] at hE
        simp only [Option.bind_eq_some_iff] at hE
        obtain ⟨c1, hc1, hy⟩ := hE
        obtain ⟨_, hc2, hc3⟩ := World.cells?_some hc1
        obtain ⟨b, us, u1, u2, u3, u4⟩ := h T en W n c1 _ hy
        refine ⟨l ++ [b], ls ++ us, by simp [k1], by simp [k2, u1], fun x hx => ?_, by rw [List.length_append, k4, u3, hc2, Nat.succ_mul], fun j u hj => ?_⟩
        · rcases List.mem_append.1 hx with hx | hx
          · exact k3 x hx
          · simp at hx; subst hx; exact u2
        · by_cases hjl : j < ls.length
          · rw [List.getElem?_append_left hjl] at hj
            exact k5 j u hj
          · rw [List.getElem?_append_right (by omega)] at hj
            have hju : j - ls.length < us.length := (List.getElem?_eq_some_iff.1 hj).1
            have hjc : j - ls.length < c1.length := by omega
            have hcv := hc3 (j - ls.length) (by omega)
            rw [List.getElem?_eq_getElem hjc] at hcv
            refine ⟨c1[j - ls.length], ?_, u4 _ u _ hj (List.getElem?_eq_getElem hjc)⟩
            rw [← hcv]
            congr 1
            rw [k4] at hjl
            by_cases hz : m * s = 0
            · have e1 : a.add (m * s) = a := by rw [hz]; simp [Addr.add]
              rw [e1, k4, hz]; rfl
            · have e1 : (a.add (m * s)).spot = none := by simp [Addr.add, hz]
              rw [addr_add e1]
              simp only [Addr.add, hz, if_false, show j ≠ 0 by omega, k4]
              congr 1; omega
    obtain ⟨l, ls, k1, k2, k3, k4, k5⟩ := key len (Nat.le_refl _)
    by_cases hc0 : cap = 0
    · have hl0 : len = 0 := by omega
      subst hc0 hl0
      have hnil : l = [] := List.length_eq_zero_iff.1 k1
      subst hnil
      exact ⟨[], .sl false none s 0 [], _, rfl, by simp [er, erL], by simp, by simp [CR], by simp [Mem], by simp [noOwn], by simp [roots], by simp [fp]⟩
    · have hspot : a.spot = none := by
        by_cases hl0 : len = 0
        · obtain ⟨hr1, hr2⟩ := hsp rfl
          have hr := hr2 0 (by omega)
          rw [List.getElem?_eq_getElem (by omega)] at hr
          simp only [Option.bind_eq_some_iff] at hr
          obtain ⟨c1, hc1, _⟩ := hr
          obtain ⟨_, hc2, hc3⟩ := World.cells?_some hc1
          have := hc3 0 h0
          rw [List.getElem?_eq_getElem (by omega)] at this
          simp only [hl0, Nat.zero_add, Nat.zero_mul] at this
          have e : (a.add 0).add 0 = a := by simp [Addr.add]
          rw [e] at this
          exact spot_of_cell this
        · have hpos : 0 < ls.length := by rw [k4]; exact Nat.mul_pos (by omega) h0
          obtain ⟨v, hv, _⟩ := k5 0 ls[0] (List.getElem?_eq_getElem hpos)
          have e : a.add 0 = a := by simp [Addr.add]
          rw [e] at hv
          exact spot_of_cell hv
      have hall : ∀ (j : Nat) (u : AL), ls[j]? = some u → ∃ v, W.at a.block (a.off + j) = some v ∧ CellT W u v := by
        intro j u hj
        obtain ⟨v, hv, hc⟩ := k5 j u hj
        rw [addr_add hspot] at hv
        exact ⟨v, hv, hc⟩
      refine ⟨l, .sl false (some ⟨a.block, a.off, cap⟩) s len ls, _, rfl, by simp [er, erL_eq, k1, k2], ⟨by omega, k3⟩, ?_, ?_, by simp [noOwn], by simp [roots], by simp [fp]⟩
      · obtain ⟨b, o, sp⟩ := a
        simp only at hspot
        subst hspot
        simp [CR]
      · simp only [Mem]
        refine ⟨k4, hlc, MemL_iff.2 fun i u hu => ?_⟩
        obtain ⟨v, hv, h1, h2, h3⟩ := hall i u hu
        exact ⟨⟨v, hv, h1⟩, h2, fun _ => ⟨by unfold Wc; rw [hv]; rfl, h3.2.2⟩⟩

/-- The fields of a struct, from an offset on. -/
def TyF (P : Program) (fs : List Field) (off : Nat) (α : Type) (enc : α → List AU) (ok : α → Prop) : Prop :=
  ∀ (T : Type) (en : TypeId × Value → T) (W : World) (fuel : Nat) (cs : List Value), (∀ (i : Nat) (f : Field), fs[i]? = some f → ∃ x, DataW.trod en P W 0 (fun _ => true) true fuel f.type ((cs.drop f.offset).take (P.cellsOf f.type)) = some x) → off + (fs.map fun f => P.cellsOf f.type).sum = cs.length →
    ∃ (a : α) (ls : List AL), ls.map er = enc a ∧ ok a ∧ off + ls.length = cs.length ∧ ∀ (i : Nat) (l : AL) (c : Value), ls[i]? = some l → cs[off + i]? = some c → CellT W l c

theorem TyF.nil {off : Nat} : TyF P [] off Unit (fun _ => []) (fun _ => True) := by
  intro T en W fuel cs _ h
  exact ⟨(), [], rfl, trivial, by simpa using h, fun i l c hl => by simp at hl⟩

theorem TyF.cons {f : Field} {fs : List Field} {off off' : Nat} {α β : Type} {enc : α → List AU} {ok : α → Prop} {enc' : β → List AU} {ok' : β → Prop} (ho : f.offset = off) (h' : off + P.cellsOf f.type = off') (h : Ty P f.type α enc ok) (hs : TyF P fs off' β enc' ok') :
    TyF P (f :: fs) off (α × β) (fun p => enc p.1 ++ enc' p.2) (fun p => ok p.1 ∧ ok' p.2) := by
  intro T en W fuel cs hx hl
  simp only [List.map_cons, List.sum_cons] at hl
  obtain ⟨x, hx0⟩ := hx 0 f rfl
  rw [ho] at hx0
  obtain ⟨a, ls, a1, a2, a3, a4⟩ := h T en W fuel _ _ hx0
  obtain ⟨b, us, b1, b2, b3, b4⟩ := hs T en W fuel cs (fun i g hg => hx (i + 1) g (by simpa using hg)) (by omega)
  have hlen : ls.length = P.cellsOf f.type := by rw [a3, List.length_take, List.length_drop]; omega
  refine ⟨(a, b), ls ++ us, by simp [a1, b1], ⟨a2, b2⟩, by rw [List.length_append]; omega, fun i l c hl' hc => ?_⟩
  by_cases hi : i < ls.length
  · rw [List.getElem?_append_left hi] at hl'
    refine a4 i l c hl' ?_
    rw [List.getElem?_take, if_pos (by omega), List.getElem?_drop]
    exact hc
  · rw [List.getElem?_append_right (by omega)] at hl'
    exact b4 _ l c hl' (by rw [← hc]; congr 1; omega)

theorem Ty.struct {fs : Array Field} {α : Type} {enc : α → List AU} {ok : α → Prop} (ht : P.underlying t = some (.struct fs)) (hsum : (fs.toList.map fun f => P.cellsOf f.type).sum = P.cellsOf t) (h : TyF P fs.toList 0 α enc ok) : Ty P t α enc ok := by
  intro T en W fuel cs x hx
  obtain ⟨xs, n, _, _, hl, hxl, hf⟩ := DataW.trod_struct ht hx
  obtain ⟨a, ls, a1, a2, a3, a4⟩ := h T en W n cs (fun i f hi => by
    have hi' : fs[i]? = some f := by simpa using hi
    have := hf i f hi'
    have hlt : i < xs.length := by
      rw [hxl]
      exact (Array.getElem?_eq_some_iff.1 hi').1
    exact ⟨_, by rw [this, List.getElem?_eq_getElem hlt]⟩) (by rw [hsum, hl]; omega)
  exact ⟨a, ls, a1, a2, by omega, fun i l c h1 h2 => a4 i l c h1 (by simpa using h2)⟩

/-! ### Arguments -/
def TyA (P : Program) (t : TypeId) (α : Type) (enc : α → AU) (ok : α → Prop) : Prop :=
  ∀ (T : Type) (en : TypeId × Value → T) (W : World) (r : Reach) (b0 : Nat) (v : Value) (d : DataW T) (p : List MemPlace), Value.okWide P W r b0 t v → DataW.Trod en P W 0 (fun _ => true) true t v d p →
    ∃ (a : α) (l : AL), er l = enc a ∧ ok a ∧ RR (fun _ => (0, .non)) (fun _ => (0, 0)) l v ∧ Mem W (Wc W) l ∧ noOwn l = true ∧ roots l = []

theorem TyA.one {α : Type} {enc : α → AU} {ok : α → Prop} (hv : ∀ (W : World) (r : Reach) (b0 : Nat) (v : Value), Value.okWide P W r b0 t v → v.cells.toList = [v]) (h : Ty P t α (fun a => [enc a]) ok) : TyA P t α enc ok := by
  intro T en W r b0 v d p hok ⟨fuel, hd⟩
  rw [hv W r b0 v hok] at hd
  obtain ⟨a, ls, h1, h2, h3, h4⟩ := h T en W fuel _ _ hd
  obtain ⟨l, rfl⟩ := List.length_eq_one_iff.1 h3
  obtain ⟨c1, c2, c3⟩ := h4 0 l v rfl rfl
  exact ⟨a, l, by simpa using h1, h2, RR_of_CR c1, c2, c3.1, c3.2.1⟩

theorem TyA.int {k : IntKind} {α : Type} {enc : α → AU} {ok : α → Prop} (ht : P.underlying t = some (.int k)) (h : Ty P t α (fun a => [enc a]) ok) : TyA P t α enc ok :=
  TyA.one (fun W r b0 v hv => by obtain ⟨n, rfl⟩ := okWide_int ht hv; rfl) h
theorem TyA.bool {α : Type} {enc : α → AU} {ok : α → Prop} (ht : P.underlying t = some .bool) (h : Ty P t α (fun a => [enc a]) ok) : TyA P t α enc ok :=
  TyA.one (fun W r b0 v hv => by cases v <;> simp [Value.okWide, ht, Cell.okWide, Cell.ok] at hv; rfl) h
theorem TyA.slice {e : TypeId} {α : Type} {enc : α → AU} {ok : α → Prop} (ht : P.underlying t = some (.slice e)) (h : Ty P t α (fun a => [enc a]) ok) : TyA P t α enc ok :=
  TyA.one (fun W r b0 v hv => by cases v <;> simp [Value.okWide, ht, Cell.okWide, Cell.ok] at hv; rfl) h

theorem rrl_of {X : XF LO} {β : Nat → Nat × Nat} : ∀ {ls : List AL} {cs : List Value}, ls.length = cs.length → (∀ (i : Nat) (l : AL) (c : Value), ls[i]? = some l → cs[i]? = some c → CR l c) → RRL X β ls cs := by
  intro ls cs hl h
  rw [RRL_iff]
  exact ⟨hl, fun j c y h1 h2 => RR_of_CR (h j c y h1 h2)⟩

theorem rootsL_nil : ∀ {ls : List AL}, (∀ l ∈ ls, roots l = []) → rootsL ls = []
  | [], _ => rfl
  | l :: ls, h => by
    have := rootsL_nil (ls := ls) fun x hx => h x (List.mem_cons_of_mem _ hx)
    simp only [rootsL, h l (List.mem_cons_self ..), this, List.append_nil]
theorem noOwnL_all : ∀ {ls : List AL}, (∀ l ∈ ls, noOwn l = true) → noOwnL ls = true
  | [], _ => rfl
  | l :: ls, h => by
    have := noOwnL_all (ls := ls) fun x hx => h x (List.mem_cons_of_mem _ hx)
    simp only [noOwnL, h l (List.mem_cons_self ..), this, Bool.and_self]

theorem TyA.struct {fs : Array Field} {α : Type} {enc : α → List AU} {ok : α → Prop} (ht : P.underlying t = some (.struct fs)) (h : Ty P t α enc ok) : TyA P t α (fun a => .agg (enc a)) ok := by
  intro T en W r b0 v d p hok ⟨fuel, hd⟩
  obtain ⟨cs, rfl, hsz⟩ := okWide_struct ht hok
  have hcs : (Value.agg cs).cells.toList = cs.toList := rfl
  rw [hcs] at hd
  obtain ⟨a, ls, h1, h2, h3, h4⟩ := h T en W fuel _ _ hd
  have hmem : ∀ l ∈ ls, ∃ c, CellT W l c := by
    intro l hl
    obtain ⟨i, hi⟩ := List.getElem?_of_mem hl
    have hlt : i < cs.toList.length := by rw [← h3]; exact (List.getElem?_eq_some_iff.1 hi).1
    exact ⟨_, h4 i l _ hi (List.getElem?_eq_getElem hlt)⟩
  refine ⟨a, .agg ls, by simp [er, erL_eq, h1], h2, ?_, ?_, ?_, ?_⟩
  · simp only [RR]
    exact ⟨cs.toList, by simp, rrl_of h3 fun i l c a b => (h4 i l c a b).1⟩
  · simp only [Mem]
    exact MemA_iff.2 fun l hl => by obtain ⟨c, hc⟩ := hmem l hl; exact hc.2.1
  · simp only [noOwn]
    exact noOwnL_all fun l hl => by obtain ⟨c, hc⟩ := hmem l hl; exact hc.2.2.1
  · simp only [roots]
    exact rootsL_nil fun l hl => by obtain ⟨c, hc⟩ := hmem l hl; exact hc.2.2.2.1

/-- All arguments read behind the call as they read before. -/
theorem below_all {T : Type} {en : TypeId × Value → T} {P : Program} (hl : laidOutB P = true) {W W' : World} (hb : Below W.heap.size W W') :
    ∀ {ts : List TypeId} {vs : List Value} {ds : List (DataW T)} {ps : List MemPlace}, (ts.all fun t => P.readableRec t && decide (t < P.types.size)) = true → DataW.TrodAll en P W 0 (fun _ => true) true ts vs ds ps →
      DataW.TrodAll en P W' 0 (fun b => decide (b < W.heap.size)) true ts vs ds ps
  | [], vs, ds, ps, _, h => by
    obtain ⟨rfl, rfl, rfl⟩ := trodAll_nil h
    exact trodAll_mk0
  | t :: ts, vs, ds, ps, hr, h => by
    simp only [List.all_cons, Bool.and_eq_true, decide_eq_true_eq] at hr
    obtain ⟨v, vs', d, ds', p, q, rfl, rfl, rfl, h1, h2⟩ := trodAll_cons h
    have lt : ∀ x ∈ p, x.block < W.heap.size := by obtain ⟨m, hm⟩ := h1; exact DataW.trod_lt m _ _ _ hm
    exact trodAll_cons_mk (Below.trod hl hr.1.1 hr.1.2 h1 hb lt) (below_all hl hb (ts := ts) (by simpa using hr.2) h2)

theorem flatMap_one {α β : Type} (f : α → β) : ∀ l : List α, (l.flatMap fun a => [f a]) = l.map f
  | [] => rfl
  | a :: l => by rw [List.flatMap_cons, flatMap_one f l]; rfl
end
end Go.OT
/-
  The arguments' types of the laws of the model.
-/
set_option linter.unusedSimpArgs false
set_option linter.unusedVariables false
namespace Go.OT
open Go.Proofs

theorem ta3 : TyA Try.prog 3 Int (fun n => i64 n) (fun n => (Lit.int .i64 n).wf = true) := TyA.int Try.underlying3 (Ty.int Try.underlying3)
theorem ty30 : Ty Try.prog 30 (List UInt8) (fun l => [sU false l]) (fun l => l.length ≤ 9223372036854775807) :=
  (Ty.slice (s := 1) Try.underlying30 (by kernel_rfl) (by decide) (fun _ => rfl) (Ty.u8 Try.underlying5)).map id (fun l => by rw [flatMap_one]; rfl) (fun l h => h.1)
theorem ta30 : TyA Try.prog 30 (List UInt8) (fun l => sU false l) (fun l => l.length ≤ 9223372036854775807) := TyA.slice Try.underlying30 ty30
end Go.OT
/-
  The functions' texts in compiled form (written by wip/tools/GenD.lean).
-/
namespace Go.OT
open Go.Proofs
/- lavabo/lavabolaw13.Few -/
def c20_0 : Cd := (.seq (.reg [1, 20] [.o [.asg 2 (cB false)]]) .ret)
def c20_1 : Cd := (.cond (.t 20) c20_0 .skip)
def c20_2 : Cd := (.cond (.t 25) .skip (.exit 0))
def c20_3 : Cd := (.seq (.reg [1, 3, 34] [.o [.asg 2 (cB false)]]) .ret)
def c20_4 : Cd := (.cond (.t 34) c20_3 .skip)
def c20_5 : Cd := (.reg [34, 26, 27] [.o [.mov 26 (.t 3), .bin 27 .add (.t 26) (cI 1), .asg 3 (.t 27)]])
def c20_6 : Cd := (.seq (.block 1 (.seq (.reg [25, 28, 29, 30, 31, 32, 33] [.o [.faddr 28 1 (.t 1), .ld 29 1 false (.t 28), .mov 30 (.t 3), .iaddr 31 1 (.t 29) (.t 30), .ld 32 1 false (.t 31), .len 33 (.t 32), .bin 34 .gtr (.t 33) (cI 40)]]) c20_4)) c20_5)
def c20_7 : Cd := (.seq (.seq (.reg [21, 22, 23, 24] [.o [.mov 21 (.t 3), .faddr 22 1 (.t 1), .ld 23 1 false (.t 22), .len 24 (.t 23), .bin 25 .lss (.t 21) (.t 24)]]) c20_2) c20_6)
def c20_8 : Cd := (.block 0 (.loop c20_7))
def c20_9 : Cd := (.cond (.t 39) .skip (.exit 2))
def c20_10 : Cd := (.seq (.reg [1, 4, 48] [.o [.asg 2 (cB false)]]) .ret)
def c20_11 : Cd := (.cond (.t 48) c20_10 .skip)
def c20_12 : Cd := (.reg [48, 40, 41] [.o [.mov 40 (.t 4), .bin 41 .add (.t 40) (cI 1), .asg 4 (.t 41)]])
def c20_13 : Cd := (.seq (.block 3 (.seq (.reg [39, 42, 43, 44, 45, 46, 47] [.o [.faddr 42 2 (.t 1), .ld 43 1 false (.t 42), .mov 44 (.t 4), .iaddr 45 1 (.t 43) (.t 44), .ld 46 1 false (.t 45), .len 47 (.t 46), .bin 48 .gtr (.t 47) (cI 10)]]) c20_11)) c20_12)
def c20_14 : Cd := (.seq (.seq (.reg [35, 36, 37, 38] [.o [.mov 35 (.t 4), .faddr 36 2 (.t 1), .ld 37 1 false (.t 36), .len 38 (.t 37), .bin 39 .lss (.t 35) (.t 38)]]) c20_9) c20_13)
def c20_15 : Cd := (.block 2 (.loop c20_14))
def c20_16 : Cd := (.seq (.reg [1, 4, 35, 36, 37, 38, 39] [.o [.asg 2 (cB true)]]) .ret)
def c20_17 : Cd := (.seq (.seq (.reg [3, 21, 22, 23, 24, 25] [.o [.asg 4 (cI 0)]]) c20_15) c20_16)
def c20_18 : Cd := (.seq (.seq (.reg [20] [.o [.asg 3 (cI 0)]]) c20_8) c20_17)
def c20_19 : Cd := (.seq (.seq (.reg [5, 6, 7, 8, 9, 10, 11, 12, 13, 14, 15, 16, 17, 18, 19] [.o [.faddr 5 0 (.t 1), .ld 6 1 false (.t 5), .len 7 (.t 6), .bin 8 .gtr (.t 7) (cI 60), .mov 9 (.t 8)], .g 9 false [.faddr 10 1 (.t 1), .ld 11 1 false (.t 10), .len 12 (.t 11), .bin 13 .gtr (.t 12) (cI 60)], .o [.pick 14 (.t 9) (cB true) (.t 13), .mov 15 (.t 14)], .g 15 false [.faddr 16 2 (.t 1), .ld 17 1 false (.t 16), .len 18 (.t 17), .bin 19 .gtr (.t 18) (cI 8)], .o [.pick 20 (.t 15) (cB true) (.t 19)]]) c20_1) c20_18)
def fi20 : FI := ⟨49, 1, [.t 2], (.seq (.reg [0, 2] [.o [.box 1 (.t 0), .asg 2 (cB false)]]) c20_19)⟩
theorem ok20 : fiOk Try.prog 20 fi20 := ⟨_, _, Try.func20, rfl, by kernel_rfl, by kernel_rfl, Try.call20⟩
/- lavabo/lavaboref13.From -/
def c21_0 : Cd := (.seq (.reg [1, 4, 5, 38, 39] [.o [.ld 39 3 true (.t 4), .st 3 (.t 2) (.t 39), .asg 3 (cB false)]]) .ret)
def c21_1 : Cd := (.cond (.t 38) c21_0 .skip)
def c21_2 : Cd := (.cond (.t 42) .skip (.exit 0))
def c21_3 : Cd := (.seq (.reg [1, 4, 5, 6, 7, 66, 67] [.o [.build 67 [(.sc (.slice none 0 0)), (.sc (.slice none 0 0)), (.sc (.slice none 0 0))] [], .st 3 (.t 2) (.t 67), .asg 3 (cB false)]]) .ret)
def c21_4 : Cd := (.cond (.t 66) c21_3 .skip)
def c21_5 : Cd := (.draw [[], [0], [], [2], [], [3, 4], [5], [6], [1, 7], [], [9], [], [11], [10, 12, 8], [0, 1, 2, 3, 4, 5, 6, 7, 8, 9, 10], [14, 8, 13, 0, 1, 2, 3, 4, 5, 6, 7, 8, 9, 10], [0, 1, 2, 3, 4, 5, 6, 7, 8, 9, 10, 11, 12, 13, 14, 15], [16, 13, 15, 0, 1, 2, 3, 4, 5, 6, 7, 8, 9, 10, 11, 12, 13, 14, 15]] [7, 66, 68, 69, 70, 71, 72, 73, 74, 75, 76, 77, 78, 79, 80, 81, 82, 83] [.o [.faddr 68 0 (.t 4), .ld 69 1 false (.t 68), .faddr 70 0 (.t 1), .ld 71 1 false (.t 70), .mov 72 (.t 6), .iaddr 73 1 (.t 71) (.t 72), .ld 74 1 false (.t 73), .bs1 75 1 (.t 74), .app 76 1 1 (.t 69) (.t 75), .faddr 77 1 (.t 4), .ld 78 1 false (.t 77), .mov 79 (.t 7), .bs1 80 1 (.t 79), .app 81 1 16 (.t 78) (.t 80), .faddr 82 0 (.t 4), .st 1 (.t 82) (.t 76), .faddr 83 1 (.t 4), .st 1 (.t 83) (.t 81)]])
def c21_6 : Cd := (.seq (.seq (.reg [51, 52, 53, 54, 55, 56, 57, 58, 59, 60, 61, 62, 63, 64, 65] [.o [.mov 51 (.t 7), .slen 52 (.t 51), .bin 53 .neq (.t 52) (cI 16), .mov 54 (.t 53)], .g 54 false [.faddr 55 0 (.t 1), .ld 56 1 false (.t 55), .mov 57 (.t 6), .iaddr 58 1 (.t 56) (.t 57), .ld 59 1 false (.t 58), .un 60 .not (.t 59), .mov 61 (.t 60)], .g 61 true [.mov 62 (.t 7)], .call (some (61, true)) 63 37 [], .g 61 true [.bin 64 .neq (.t 62) (.t 63)], .g 54 false [.pick 65 (.t 61) (.t 64) (cB false)], .o [.pick 66 (.t 54) (cB true) (.t 65)]]) c21_4) c21_5)
def c21_7 : Cd := (.reg [43, 44] [.o [.mov 43 (.t 6), .bin 44 .add (.t 43) (cI 1), .asg 6 (.t 44)]])
def c21_8 : Cd := (.seq (.block 1 (.seq (.reg [42, 45, 46, 47, 48, 49, 50] [.o [.faddr 45 1 (.t 1), .ld 46 1 false (.t 45), .mov 47 (.t 6), .iaddr 48 1 (.t 46) (.t 47), .ld 49 1 false (.t 48), .b2s 50 (.t 49), .asg 7 (.t 50)]]) c21_6)) c21_7)
def c21_9 : Cd := (.seq (.seq (.reg [40, 41] [.o [.mov 40 (.t 6), .mov 41 (.t 5), .bin 42 .lss (.t 40) (.t 41)]]) c21_2) c21_8)
def c21_10 : Cd := (.block 0 (.loop c21_9))
def c21_11 : Cd := (.cond (.t 88) .skip (.exit 2))
def c21_12 : Cd := (.seq (.reg [1, 4, 5, 8, 9, 98, 99] [.o [.build 99 [(.sc (.slice none 0 0)), (.sc (.slice none 0 0)), (.sc (.slice none 0 0))] [], .st 3 (.t 2) (.t 99), .asg 3 (cB false)]]) .ret)
def c21_13 : Cd := (.cond (.t 98) c21_12 .skip)
def c21_14 : Cd := (.cond (.t 103) .skip (.exit 4))
def c21_15 : Cd := (.seq (.reg [1, 4, 5, 8, 9, 10, 136, 137] [.o [.build 137 [(.sc (.slice none 0 0)), (.sc (.slice none 0 0)), (.sc (.slice none 0 0))] [], .st 3 (.t 2) (.t 137), .asg 3 (cB false)]]) .ret)
def c21_16 : Cd := (.cond (.t 136) c21_15 .skip)
def c21_17 : Cd := (.reg [136, 104, 105] [.o [.mov 104 (.t 10), .bin 105 .add (.t 104) (cI 1), .asg 10 (.t 105)]])
def c21_18 : Cd := (.seq (.block 5 (.seq (.draw [[], [], [0, 1], [2], [3], [4], [5], [5], [6, 7, 5], [8, 5], [9, 5], [10, 5, 5], [11], [11], [12, 13, 11], [14, 11], [11], [15, 16, 11], [11, 17, 5], [18, 11, 5], [19], [20, 19], [19], [19], [22, 23, 19], [24, 19], [21, 25, 19], [26, 19], [27, 19], [19, 28, 5], [5, 29]] [103, 106, 107, 108, 109, 110, 111, 112, 113, 114, 115, 116, 117, 118, 119, 120, 121, 122, 123, 124, 125, 126, 127, 128, 129, 130, 131, 132, 133, 134, 135] [.o [.mov 106 (.t 9), .mov 107 (.t 10), .iaddr 108 1 (.t 106) (.t 107), .ld 109 1 false (.t 108), .bin 110 .neq (.t 109) (cI (-1)), .mov 111 (.t 110)], .g 111 true [.mov 112 (.t 9), .mov 113 (.t 10), .iaddr 114 1 (.t 112) (.t 113), .ld 115 1 false (.t 114), .bin 116 .lss (.t 115) (cI 0), .mov 117 (.t 116)], .g 117 false [.mov 118 (.t 9), .mov 119 (.t 10), .iaddr 120 1 (.t 118) (.t 119), .ld 121 1 false (.t 120), .mov 122 (.t 5), .bin 123 .geq (.t 121) (.t 122)], .g 111 true [.pick 124 (.t 117) (cB true) (.t 123), .mov 125 (.t 124)], .g 125 false [.faddr 126 0 (.t 1), .ld 127 1 false (.t 126), .mov 128 (.t 9), .mov 129 (.t 10), .iaddr 130 1 (.t 128) (.t 129), .ld 131 1 false (.t 130), .iaddr 132 1 (.t 127) (.t 131), .ld 133 1 false (.t 132), .un 134 .not (.t 133)], .g 111 true [.pick 135 (.t 125) (cB true) (.t 134)], .o [.pick 136 (.t 111) (.t 135) (cB false)]]) c21_16)) c21_17)
def c21_19 : Cd := (.seq (.seq (.reg [100, 101, 102] [.o [.mov 100 (.t 10), .mov 101 (.t 9), .len 102 (.t 101), .bin 103 .lss (.t 100) (.t 102)]]) c21_14) c21_18)
def c21_20 : Cd := (.block 4 (.loop c21_19))
def c21_21 : Cd := (.draw [[], [0], [], [], [2, 3], [4], [1, 5, 4], [0, 1, 2, 3, 4, 5, 6], [7, 6, 6, 0, 1, 2, 3, 4, 5, 6]] [9, 10, 100, 101, 102, 103, 138, 139, 140, 141, 142, 143, 144, 145] [.o [.faddr 138 2 (.t 4), .ld 139 1 false (.t 138), .bs0 140 1, .mov 141 (.t 9), .app 142 1 8 (.t 140) (.t 141), .bs1 143 1 (.t 142), .app 144 1 24 (.t 139) (.t 143), .faddr 145 2 (.t 4), .st 1 (.t 145) (.t 144)]])
def c21_22 : Cd := (.seq (.seq (.reg [98] [.o [.asg 10 (cI 0)]]) c21_20) c21_21)
def c21_23 : Cd := (.seq (.seq (.reg [96, 97] [.o [.mov 96 (.t 9), .len 97 (.t 96), .bin 98 .neq (.t 97) (cI 6)]]) c21_13) c21_22)
def c21_24 : Cd := (.reg [89, 90] [.o [.mov 89 (.t 8), .bin 90 .add (.t 89) (cI 1), .asg 8 (.t 90)]])
def c21_25 : Cd := (.seq (.block 3 (.seq (.reg [88, 91, 92, 93, 94, 95] [.o [.faddr 91 2 (.t 1), .ld 92 1 false (.t 91), .mov 93 (.t 8), .iaddr 94 1 (.t 92) (.t 93), .ld 95 1 false (.t 94), .asg 9 (.t 95)]]) c21_23)) c21_24)
def c21_26 : Cd := (.seq (.seq (.reg [84, 85, 86, 87] [.o [.mov 84 (.t 8), .faddr 85 2 (.t 1), .ld 86 1 false (.t 85), .len 87 (.t 86), .bin 88 .lss (.t 84) (.t 87)]]) c21_11) c21_25)
def c21_27 : Cd := (.block 2 (.loop c21_26))
def c21_28 : Cd := (.seq (.reg [1, 4, 5, 8, 84, 85, 86, 87, 88, 146] [.o [.ld 146 3 true (.t 4), .st 3 (.t 2) (.t 146), .asg 3 (cB true)]]) .ret)
def c21_29 : Cd := (.seq (.seq (.reg [6, 40, 41, 42] [.o [.asg 8 (cI 0)]]) c21_27) c21_28)
def c21_30 : Cd := (.seq (.seq (.reg [38] [.o [.asg 6 (cI 0)]]) c21_10) c21_29)
def c21_31 : Cd := (.seq (.seq (.reg [14, 15, 16, 17, 18, 19, 20, 21, 22, 23, 24, 25, 26, 27, 28, 29, 30, 31, 32, 33, 34, 35, 36, 37] [.o [.mov 14 (.t 5), .bin 15 .lss (.t 14) (cI 1), .mov 16 (.t 15)], .g 16 false [.mov 17 (.t 5), .bin 18 .gtr (.t 17) (cI 48)], .o [.pick 19 (.t 16) (cB true) (.t 18), .mov 20 (.t 19)], .g 20 false [.faddr 21 1 (.t 1), .ld 22 1 false (.t 21), .len 23 (.t 22), .mov 24 (.t 5), .bin 25 .neq (.t 23) (.t 24)], .o [.pick 26 (.t 20) (cB true) (.t 25), .mov 27 (.t 26)], .g 27 false [.faddr 28 2 (.t 1), .ld 29 1 false (.t 28), .len 30 (.t 29), .bin 31 .lss (.t 30) (cI 1)], .o [.pick 32 (.t 27) (cB true) (.t 31), .mov 33 (.t 32)], .g 33 false [.faddr 34 2 (.t 1), .ld 35 1 false (.t 34), .len 36 (.t 35), .bin 37 .gtr (.t 36) (cI 6)], .o [.pick 38 (.t 33) (cB true) (.t 37)]]) c21_1) c21_30)
def c21_32 : Cd := (.seq (.reg [11, 12, 13] [.o [.faddr 11 0 (.t 1), .ld 12 1 false (.t 11), .len 13 (.t 12), .asg 5 (.t 13)]]) c21_31)
def c21_33 : Cd := (.seq (.reg [] [.o [.alloc 4 [(.sl true () 1 0 []), (.sl true () 1 0 []), (.sl true () 1 0 [])]]]) c21_32)
def fi21 : FI := ⟨147, 1, [.cell 2 3 true, .t 3], (.seq (.reg [0, 3] [.o [.box 1 (.t 0), .alloc 2 [(.sl true () 1 0 []), (.sl true () 1 0 []), (.sl true () 1 0 [])], .asg 3 (cB false)]]) c21_33)⟩
theorem ok21 : fiOk Try.prog 21 fi21 := ⟨_, _, Try.func21, rfl, by kernel_rfl, by kernel_rfl, Try.call21⟩
/- lavabo/lavabolaw13.same -/
def c24_0 : Cd := (.seq (.reg [2, 3, 33] [.o [.asg 4 (cB false)]]) .ret)
def c24_1 : Cd := (.cond (.t 33) c24_0 .skip)
def c24_2 : Cd := (.cond (.t 38) .skip (.exit 0))
def c24_3 : Cd := (.seq (.reg [2, 3, 5, 51] [.o [.asg 4 (cB false)]]) .ret)
def c24_4 : Cd := (.cond (.t 51) c24_3 .skip)
def c24_5 : Cd := (.reg [51, 39, 40] [.o [.mov 39 (.t 5), .bin 40 .add (.t 39) (cI 1), .asg 5 (.t 40)]])
def c24_6 : Cd := (.seq (.block 1 (.seq (.draw [[], [0], [], [1, 2], [3], [], [5], [], [6, 7], [8], [4, 9]] [38, 41, 42, 43, 44, 45, 46, 47, 48, 49, 50] [.o [.faddr 41 0 (.t 2), .ld 42 1 false (.t 41), .mov 43 (.t 5), .iaddr 44 1 (.t 42) (.t 43), .ld 45 1 false (.t 44), .faddr 46 0 (.t 3), .ld 47 1 false (.t 46), .mov 48 (.t 5), .iaddr 49 1 (.t 47) (.t 48), .ld 50 1 false (.t 49), .beq 51 false (.t 45) (.t 50)]]) c24_4)) c24_5)
def c24_7 : Cd := (.seq (.seq (.reg [34, 35, 36, 37] [.o [.mov 34 (.t 5), .faddr 35 0 (.t 2), .ld 36 1 false (.t 35), .len 37 (.t 36), .bin 38 .lss (.t 34) (.t 37)]]) c24_2) c24_6)
def c24_8 : Cd := (.block 0 (.loop c24_7))
def c24_9 : Cd := (.cond (.t 56) .skip (.exit 2))
def c24_10 : Cd := (.seq (.reg [2, 3, 6, 71] [.o [.asg 4 (cB false)]]) .ret)
def c24_11 : Cd := (.cond (.t 71) c24_10 .skip)
def c24_12 : Cd := (.reg [71, 57, 58] [.o [.mov 57 (.t 6), .bin 58 .add (.t 57) (cI 1), .asg 6 (.t 58)]])
def c24_13 : Cd := (.seq (.block 3 (.seq (.draw [[], [0], [], [1, 2], [3], [4], [], [6], [], [7, 8], [9], [10], [5, 11]] [56, 59, 60, 61, 62, 63, 64, 65, 66, 67, 68, 69, 70] [.o [.faddr 59 1 (.t 2), .ld 60 1 false (.t 59), .mov 61 (.t 6), .iaddr 62 1 (.t 60) (.t 61), .ld 63 1 false (.t 62), .b2s 64 (.t 63), .faddr 65 1 (.t 3), .ld 66 1 false (.t 65), .mov 67 (.t 6), .iaddr 68 1 (.t 66) (.t 67), .ld 69 1 false (.t 68), .b2s 70 (.t 69), .bin 71 .neq (.t 64) (.t 70)]]) c24_11)) c24_12)
def c24_14 : Cd := (.seq (.seq (.reg [52, 53, 54, 55] [.o [.mov 52 (.t 6), .faddr 53 1 (.t 2), .ld 54 1 false (.t 53), .len 55 (.t 54), .bin 56 .lss (.t 52) (.t 55)]]) c24_9) c24_13)
def c24_15 : Cd := (.block 2 (.loop c24_14))
def c24_16 : Cd := (.cond (.t 76) .skip (.exit 4))
def c24_17 : Cd := (.seq (.reg [2, 3, 7, 91] [.o [.asg 4 (cB false)]]) .ret)
def c24_18 : Cd := (.cond (.t 91) c24_17 .skip)
def c24_19 : Cd := (.cond (.t 99) .skip (.exit 6))
def c24_20 : Cd := (.seq (.reg [2, 3, 7, 8, 118] [.o [.asg 4 (cB false)]]) .ret)
def c24_21 : Cd := (.cond (.t 118) c24_20 .skip)
def c24_22 : Cd := (.reg [118, 100, 101] [.o [.mov 100 (.t 8), .bin 101 .add (.t 100) (cI 1), .asg 8 (.t 101)]])
def c24_23 : Cd := (.seq (.block 7 (.seq (.draw [[], [0], [], [1, 2], [3], [], [4, 5], [6], [], [8], [], [9, 10], [11], [], [12, 13], [14], [7, 15]] [99, 102, 103, 104, 105, 106, 107, 108, 109, 110, 111, 112, 113, 114, 115, 116, 117] [.o [.faddr 102 2 (.t 2), .ld 103 1 false (.t 102), .mov 104 (.t 7), .iaddr 105 1 (.t 103) (.t 104), .ld 106 1 false (.t 105), .mov 107 (.t 8), .iaddr 108 1 (.t 106) (.t 107), .ld 109 1 false (.t 108), .faddr 110 2 (.t 3), .ld 111 1 false (.t 110), .mov 112 (.t 7), .iaddr 113 1 (.t 111) (.t 112), .ld 114 1 false (.t 113), .mov 115 (.t 8), .iaddr 116 1 (.t 114) (.t 115), .ld 117 1 false (.t 116), .bin 118 .neq (.t 109) (.t 117)]]) c24_21)) c24_22)
def c24_24 : Cd := (.seq (.seq (.reg [92, 93, 94, 95, 96, 97, 98] [.o [.mov 92 (.t 8), .faddr 93 2 (.t 2), .ld 94 1 false (.t 93), .mov 95 (.t 7), .iaddr 96 1 (.t 94) (.t 95), .ld 97 1 false (.t 96), .len 98 (.t 97), .bin 99 .lss (.t 92) (.t 98)]]) c24_19) c24_23)
def c24_25 : Cd := (.block 6 (.loop c24_24))
def c24_26 : Cd := (.seq (.reg [91] [.o [.asg 8 (cI 0)]]) c24_25)
def c24_27 : Cd := (.reg [8, 92, 93, 94, 95, 96, 97, 98, 99, 77, 78] [.o [.mov 77 (.t 7), .bin 78 .add (.t 77) (cI 1), .asg 7 (.t 78)]])
def c24_28 : Cd := (.seq (.block 5 (.seq (.seq (.draw [[], [0], [], [1, 2], [3], [4], [], [6], [], [7, 8], [9], [10], [5, 11]] [76, 79, 80, 81, 82, 83, 84, 85, 86, 87, 88, 89, 90] [.o [.faddr 79 2 (.t 2), .ld 80 1 false (.t 79), .mov 81 (.t 7), .iaddr 82 1 (.t 80) (.t 81), .ld 83 1 false (.t 82), .len 84 (.t 83), .faddr 85 2 (.t 3), .ld 86 1 false (.t 85), .mov 87 (.t 7), .iaddr 88 1 (.t 86) (.t 87), .ld 89 1 false (.t 88), .len 90 (.t 89), .bin 91 .neq (.t 84) (.t 90)]]) c24_18) c24_26)) c24_27)
def c24_29 : Cd := (.seq (.seq (.reg [72, 73, 74, 75] [.o [.mov 72 (.t 7), .faddr 73 2 (.t 2), .ld 74 1 false (.t 73), .len 75 (.t 74), .bin 76 .lss (.t 72) (.t 75)]]) c24_16) c24_28)
def c24_30 : Cd := (.block 4 (.loop c24_29))
def c24_31 : Cd := (.seq (.reg [2, 3, 7, 72, 73, 74, 75, 76] [.o [.asg 4 (cB true)]]) .ret)
def c24_32 : Cd := (.seq (.seq (.reg [6, 52, 53, 54, 55, 56] [.o [.asg 7 (cI 0)]]) c24_30) c24_31)
def c24_33 : Cd := (.seq (.seq (.reg [5, 34, 35, 36, 37, 38] [.o [.asg 6 (cI 0)]]) c24_15) c24_32)
def c24_34 : Cd := (.seq (.seq (.reg [33] [.o [.asg 5 (cI 0)]]) c24_8) c24_33)
def c24_35 : Cd := (.seq (.seq (.reg [9, 10, 11, 12, 13, 14, 15, 16, 17, 18, 19, 20, 21, 22, 23, 24, 25, 26, 27, 28, 29, 30, 31, 32] [.o [.faddr 9 0 (.t 2), .ld 10 1 false (.t 9), .len 11 (.t 10), .faddr 12 0 (.t 3), .ld 13 1 false (.t 12), .len 14 (.t 13), .bin 15 .neq (.t 11) (.t 14), .mov 16 (.t 15)], .g 16 false [.faddr 17 1 (.t 2), .ld 18 1 false (.t 17), .len 19 (.t 18), .faddr 20 1 (.t 3), .ld 21 1 false (.t 20), .len 22 (.t 21), .bin 23 .neq (.t 19) (.t 22)], .o [.pick 24 (.t 16) (cB true) (.t 23), .mov 25 (.t 24)], .g 25 false [.faddr 26 2 (.t 2), .ld 27 1 false (.t 26), .len 28 (.t 27), .faddr 29 2 (.t 3), .ld 30 1 false (.t 29), .len 31 (.t 30), .bin 32 .neq (.t 28) (.t 31)], .o [.pick 33 (.t 25) (cB true) (.t 32)]]) c24_1) c24_34)
def fi24 : FI := ⟨119, 2, [.t 4], (.seq (.reg [0, 1, 4] [.o [.box 2 (.t 0), .box 3 (.t 1), .asg 4 (cB false)]]) c24_35)⟩
theorem ok24 : fiOk Try.prog 24 fi24 := ⟨_, _, Try.func24, rfl, by kernel_rfl, by kernel_rfl, Try.call24⟩
/- (lavabo/lavaboref13.S).Copy -/
def c25_0 : Cd := (.cond (.t 18) .skip (.exit 0))
def c25_1 : Cd := (.reg [19, 20] [.o [.mov 19 (.t 4), .bin 20 .add (.t 19) (cI 1), .asg 4 (.t 20)]])
def c25_2 : Cd := (.seq (.block 1 (.draw [[], [0], [], [], [3], [], [4, 5], [6], [2, 7], [8], [1, 9, 8], [0, 1, 2, 3, 4, 5, 6, 7, 8, 9, 10], [11, 10, 10, 0, 1, 2, 3, 4, 5, 6, 7, 8, 9, 10]] [18, 21, 22, 23, 24, 25, 26, 27, 28, 29, 30, 31, 32] [.o [.faddr 21 2 (.t 3), .ld 22 1 false (.t 21), .bs0 23 1, .faddr 24 2 (.t 1), .ld 25 1 false (.t 24), .mov 26 (.t 4), .iaddr 27 1 (.t 25) (.t 26), .ld 28 1 false (.t 27), .app 29 1 8 (.t 23) (.t 28), .bs1 30 1 (.t 29), .app 31 1 24 (.t 22) (.t 30), .faddr 32 2 (.t 3), .st 1 (.t 32) (.t 31)]])) c25_1)
def c25_3 : Cd := (.seq (.seq (.reg [14, 15, 16, 17] [.o [.mov 14 (.t 4), .faddr 15 2 (.t 1), .ld 16 1 false (.t 15), .len 17 (.t 16), .bin 18 .lss (.t 14) (.t 17)]]) c25_0) c25_2)
def c25_4 : Cd := (.block 0 (.loop c25_3))
def c25_5 : Cd := (.seq (.reg [1, 3, 4, 14, 15, 16, 17, 18, 33] [.o [.ld 33 3 true (.t 3), .st 3 (.t 2) (.t 33)]]) .ret)
def c25_6 : Cd := (.seq (.seq (.reg [] [.o [.asg 4 (cI 0)]]) c25_4) c25_5)
def c25_7 : Cd := (.seq (.draw [[], [], [1], [0, 2], [], [], [5], [4, 6, 3], [3, 7], [], [9, 8, 7, 0, 1, 2, 3, 4, 5, 6, 7, 8, 9]] [5, 6, 7, 8, 9, 10, 11, 12, 13] [.o [.bs0 5 1, .faddr 6 0 (.t 1), .ld 7 1 false (.t 6), .app 8 1 1 (.t 5) (.t 7), .bs0 9 1, .faddr 10 1 (.t 1), .ld 11 1 false (.t 10), .app 12 1 16 (.t 9) (.t 11), .build 13 [(.sc (.slice none 0 0)), (.sc (.slice none 0 0)), (.sc (.slice none 0 0))] [(0, 1, (.t 8)), (1, 1, (.t 12))], .alloc 3 [(.sl true () 1 0 []), (.sl true () 1 0 []), (.sl true () 1 0 [])], .st 3 (.t 3) (.t 13)]]) c25_6)
def fi25 : FI := ⟨34, 1, [.cell 2 3 true], (.seq (.reg [0] [.o [.box 1 (.t 0), .alloc 2 [(.sl true () 1 0 []), (.sl true () 1 0 []), (.sl true () 1 0 [])]]]) c25_7)⟩
theorem ok25 : fiOk Try.prog 25 fi25 := ⟨_, _, Try.func25, rfl, by kernel_rfl, by kernel_rfl, Try.call25⟩
/- (lavabo/lavaboref13.S).Do -/
def c26_0 : Cd := (.seq (.reg [1, 3, 5, 26, 27] [.call none 27 47 [(cI 1)], .o [.st 4 (.t 6) (.t 27)]]) .ret)
def c26_1 : Cd := (.cond (.t 26) c26_0 .skip)
def c26_2 : Cd := (.seq (.reg [1, 3, 5, 7, 51, 52] [.call none 52 47 [(cI 1)], .o [.st 4 (.t 6) (.t 52)]]) .ret)
def c26_3 : Cd := (.cond (.t 51) c26_2 .skip)
def c26_4 : Cd := (.seq (.reg [1, 3, 5, 7, 58, 59] [.call none 59 47 [(cI 2)], .o [.st 4 (.t 6) (.t 59)]]) .ret)
def c26_5 : Cd := (.cond (.t 58) c26_4 .skip)
def c26_6 : Cd := (.seq (.reg [51, 53, 54, 55, 56, 57] [.o [.faddr 53 0 (.t 3), .ld 54 1 false (.t 53), .mov 55 (.t 7), .iaddr 56 1 (.t 54) (.t 55), .ld 57 1 false (.t 56), .un 58 .not (.t 57)]]) c26_5)
def c26_7 : Cd := (.seq (.seq (.reg [42, 43, 44, 45, 46, 47, 48, 49, 50] [.o [.mov 43 (.t 7), .bin 44 .lss (.t 43) (cI 0), .mov 45 (.t 44)], .g 45 false [.mov 46 (.t 7), .faddr 47 0 (.t 3), .ld 48 1 false (.t 47), .len 49 (.t 48), .bin 50 .geq (.t 46) (.t 49)], .o [.pick 51 (.t 45) (cB true) (.t 50)]]) c26_3) c26_6)
def c26_8 : Cd := (.cond (.t 42) c26_7 .skip)
def c26_9 : Cd := (.seq (.reg [1, 3, 5, 7, 79, 80] [.call none 80 47 [(cI 5)], .o [.st 4 (.t 6) (.t 80)]]) .ret)
def c26_10 : Cd := (.cond (.t 79) c26_9 .skip)
def c26_11 : Cd := (.seq (.reg [78] [.o [.mov 78 (.t 7), .bin 79 .lss (.t 78) (cI 0)]]) c26_10)
def c26_12 : Cd := (.seq (.reg [72, 73, 74, 75, 76, 77] [.o [.ld 73 3 true (.t 3), .mov 74 (.t 1), .faddr 75 2 (.t 5), .ld 76 1 false (.t 75)], .call none 77 48 [(.t 73), (.t 74), (.t 76)], .o [.asg 7 (.t 77)]]) c26_11)
def c26_13 : Cd := (.cond (.t 72) c26_12 .skip)
def c26_14 : Cd := (.seq (.reg [1, 3, 88, 89] [.call none 89 47 [(cI 4)], .o [.st 4 (.t 6) (.t 89)]]) .ret)
def c26_15 : Cd := (.cond (.t 88) c26_14 .skip)
def c26_16 : Cd := (.cond (.t 101) .skip (.exit 1))
def c26_17 : Cd := (.block 2 (.reg [101, 102, 103] [.o [.mov 102 (.t 7), .bin 103 .add (.t 102) (cI 1), .asg 7 (.t 103)]]))
def c26_18 : Cd := (.seq (.seq (.reg [90, 91, 92, 93, 94, 95, 96, 97, 98, 99, 100] [.o [.mov 90 (.t 7), .faddr 91 0 (.t 3), .ld 92 1 false (.t 91), .len 93 (.t 92), .bin 94 .lss (.t 90) (.t 93), .mov 95 (.t 94)], .g 95 true [.faddr 96 0 (.t 3), .ld 97 1 false (.t 96), .mov 98 (.t 7), .iaddr 99 1 (.t 97) (.t 98), .ld 100 1 false (.t 99)], .o [.pick 101 (.t 95) (.t 100) (cB false)]]) c26_16) c26_17)
def c26_19 : Cd := (.seq (.reg [1, 3, 7, 108, 109] [.call none 109 47 [(cI 3)], .o [.st 4 (.t 6) (.t 109)]]) .ret)
def c26_20 : Cd := (.cond (.t 108) c26_19 .skip)
def c26_21 : Cd := (.seq (.reg [1, 3, 7, 119, 120, 121, 122, 123, 124] [.o [.mov 119 (.t 7), .ld 120 3 true (.t 3), .mov 121 (.t 1), .mov 122 (.t 7)], .call none 123 50 [(.t 120), (.t 121), (.t 122)], .o [.build 124 [(.sc (.int .i64 0)), (.sc (.int .i64 0)), (.sc (.int .i64 0)), (.sc (.slice none 0 0))] [(1, 1, (.t 119)), (2, 1, (.t 123))], .st 4 (.t 6) (.t 124)]]) .ret)
def c26_22 : Cd := (.seq (.draw [[], [0], [], [], [3], [], [], [1, 2, 0, 1, 2, 6], [7, 6, 0, 1, 2, 6], [4, 5, 0, 1, 2, 3, 4, 5, 6, 7, 8], [9, 6, 8, 0, 1, 2, 3, 4, 5, 6, 7, 8]] [108, 110, 111, 112, 113, 114, 115, 116, 117, 118] [.o [.faddr 110 0 (.t 3), .ld 111 1 false (.t 110), .mov 112 (.t 7), .faddr 113 1 (.t 3), .ld 114 1 false (.t 113), .mov 115 (.t 7)], .call none 116 37 [], .o [.iaddr 117 1 (.t 111) (.t 112), .st 1 (.t 117) (cB true), .iaddr 118 1 (.t 114) (.t 115), .st 1 (.t 118) (.t 116)]]) c26_21)
def c26_23 : Cd := (.seq (.seq (.reg [90, 91, 92, 93, 94, 95, 96, 97, 98, 99, 100, 101, 104, 105, 106, 107] [.o [.mov 104 (.t 7), .faddr 105 0 (.t 3), .ld 106 1 false (.t 105), .len 107 (.t 106), .bin 108 .eql (.t 104) (.t 107)]]) c26_20) c26_22)
def c26_24 : Cd := (.seq (.block 1 (.loop c26_18)) c26_23)
def c26_25 : Cd := (.seq (.reg [88] [.o [.asg 7 (cI 0)]]) c26_24)
def c26_26 : Cd := (.seq (.seq (.reg [5, 7, 82, 83, 85, 86, 87] [.o [.ld 85 3 true (.t 3), .mov 86 (.t 1)], .call none 87 49 [(.t 85), (.t 86)], .o [.un 88 .not (.t 87)]]) c26_15) c26_25)
def c26_27 : Cd := (.seq (.reg [1, 3, 7, 130, 131] [.call none 131 47 [(cI 4)], .o [.st 4 (.t 6) (.t 131)]]) .ret)
def c26_28 : Cd := (.cond (.t 130) c26_27 .skip)
def c26_29 : Cd := (.seq (.reg [1, 3, 7, 130, 132, 133, 134, 135, 136, 137] [.o [.mov 132 (.t 7), .ld 133 3 true (.t 3), .mov 134 (.t 1), .mov 135 (.t 7)], .call none 136 50 [(.t 133), (.t 134), (.t 135)], .o [.build 137 [(.sc (.int .i64 0)), (.sc (.int .i64 0)), (.sc (.int .i64 0)), (.sc (.slice none 0 0))] [(1, 1, (.t 132)), (2, 1, (.t 136))], .st 4 (.t 6) (.t 137)]]) .ret)
def c26_30 : Cd := (.seq (.seq (.reg [5, 82, 125, 127, 128, 129] [.o [.ld 127 3 true (.t 3), .mov 128 (.t 1)], .call none 129 49 [(.t 127), (.t 128)], .o [.un 130 .not (.t 129)]]) c26_28) c26_29)
def c26_31 : Cd := (.seq (.reg [3, 5, 7, 160, 161] [.call none 161 47 [(cI 6)], .o [.st 4 (.t 6) (.t 161)]]) .ret)
def c26_32 : Cd := (.cond (.t 160) c26_31 .skip)
def c26_33 : Cd := (.seq (.draw [[], [0], [], [1, 2], [3], [], [5], [], [7], [], [9], [8, 10], [4, 6, 11], [12], [13], [14, 0, 1, 2, 3, 4, 5, 6, 7, 8, 9, 10, 11, 12, 13, 14]] [3, 5, 7, 160, 162, 163, 164, 165, 166, 167, 168, 169, 170, 171, 172, 173, 174, 175, 176] [.o [.faddr 162 1 (.t 3), .ld 163 1 false (.t 162), .mov 164 (.t 7), .iaddr 165 1 (.t 163) (.t 164), .ld 166 1 false (.t 165), .faddr 167 3 (.t 5), .ld 168 1 false (.t 167), .faddr 169 3 (.t 5), .ld 170 1 false (.t 169), .faddr 171 4 (.t 5), .ld 172 1 false (.t 171), .bin 173 .add (.t 170) (.t 172), .ssl 174 (.t 166) (some (.t 168)) (some (.t 173)), .s2b 175 (.t 174), .build 176 [(.sc (.int .i64 0)), (.sc (.int .i64 0)), (.sc (.int .i64 0)), (.sc (.slice none 0 0))] [(3, 1, (.t 175))], .st 4 (.t 6) (.t 176)]]) .ret)
def c26_34 : Cd := (.seq (.seq (.reg [1, 82, 138, 140, 141, 142, 143, 144, 145, 146, 147, 148, 149, 150, 151, 152, 153, 154, 155, 156, 157, 158, 159] [.o [.faddr 140 3 (.t 5), .ld 141 1 false (.t 140), .bin 142 .lss (.t 141) (cI 0), .mov 143 (.t 142)], .g 143 false [.faddr 144 4 (.t 5), .ld 145 1 false (.t 144), .bin 146 .lss (.t 145) (cI 0)], .o [.pick 147 (.t 143) (cB true) (.t 146), .mov 148 (.t 147)], .g 148 false [.faddr 149 3 (.t 5), .ld 150 1 false (.t 149), .bin 151 .gtr (.t 150) (cI 16)], .o [.pick 152 (.t 148) (cB true) (.t 151), .mov 153 (.t 152)], .g 153 false [.faddr 154 4 (.t 5), .ld 155 1 false (.t 154), .faddr 156 3 (.t 5), .ld 157 1 false (.t 156), .bin 158 .sub (cI 16) (.t 157), .bin 159 .gtr (.t 155) (.t 158)], .o [.pick 160 (.t 153) (cB true) (.t 159)]]) c26_32) c26_33)
def c26_35 : Cd := (.seq (.reg [3, 5, 7, 195, 196] [.call none 196 47 [(cI 6)], .o [.st 4 (.t 6) (.t 196)]]) .ret)
def c26_36 : Cd := (.cond (.t 195) c26_35 .skip)
def c26_37 : Cd := (.draw [[], [0], [], [], [3], [], [4, 5], [6], [], [8], [7, 9], [], [11], [12], [10, 13], [], [15], [], [16, 17], [18], [], [20], [], [22], [23], [21, 24], [19, 25], [14, 26], [1, 2, 0, 1, 2, 3, 4, 5, 6, 7, 8, 9, 10, 11, 12, 13, 14, 15, 16, 17, 18, 19, 20, 21, 22, 23, 24, 25, 26, 27], [28, 27, 0, 1, 2, 3, 4, 5, 6, 7, 8, 9, 10, 11, 12, 13, 14, 15, 16, 17, 18, 19, 20, 21, 22, 23, 24, 25, 26, 27]] [3, 5, 7, 195, 197, 198, 199, 200, 201, 202, 203, 204, 205, 206, 207, 208, 209, 210, 211, 212, 213, 214, 215, 216, 217, 218, 219, 220, 221, 222, 223, 224, 225] [.o [.faddr 197 1 (.t 3), .ld 198 1 false (.t 197), .mov 199 (.t 7), .faddr 200 1 (.t 3), .ld 201 1 false (.t 200), .mov 202 (.t 7), .iaddr 203 1 (.t 201) (.t 202), .ld 204 1 false (.t 203), .faddr 205 3 (.t 5), .ld 206 1 false (.t 205), .ssl 207 (.t 204) none (some (.t 206)), .faddr 208 5 (.t 5), .ld 209 1 false (.t 208), .b2s 210 (.t 209), .bin 211 .add (.t 207) (.t 210), .faddr 212 1 (.t 3), .ld 213 1 false (.t 212), .mov 214 (.t 7), .iaddr 215 1 (.t 213) (.t 214), .ld 216 1 false (.t 215), .faddr 217 3 (.t 5), .ld 218 1 false (.t 217), .faddr 219 5 (.t 5), .ld 220 1 false (.t 219), .len 221 (.t 220), .bin 222 .add (.t 218) (.t 221), .ssl 223 (.t 216) (some (.t 222)) none, .bin 224 .add (.t 211) (.t 223), .iaddr 225 1 (.t 198) (.t 199), .st 1 (.t 225) (.t 224)]])
def c26_38 : Cd := (.seq (.seq (.reg [1, 82, 177, 179, 180, 181, 182, 183, 184, 185, 186, 187, 188, 189, 190, 191, 192, 193, 194] [.o [.faddr 179 3 (.t 5), .ld 180 1 false (.t 179), .bin 181 .lss (.t 180) (cI 0), .mov 182 (.t 181)], .g 182 false [.faddr 183 3 (.t 5), .ld 184 1 false (.t 183), .bin 185 .gtr (.t 184) (cI 16)], .o [.pick 186 (.t 182) (cB true) (.t 185), .mov 187 (.t 186)], .g 187 false [.faddr 188 5 (.t 5), .ld 189 1 false (.t 188), .len 190 (.t 189), .faddr 191 3 (.t 5), .ld 192 1 false (.t 191), .bin 193 .sub (cI 16) (.t 192), .bin 194 .gtr (.t 190) (.t 193)], .o [.pick 195 (.t 187) (cB true) (.t 194)]]) c26_36) c26_37)
def c26_39 : Cd := (.draw [[], [0], [], [1, 2], [3], [], [5], [4, 6, 0, 1, 2, 3, 4, 5, 6], [7, 0, 1, 2, 3, 4, 5, 6]] [1, 3, 5, 7, 82, 226, 228, 229, 230, 231, 232, 233, 234, 235] [.o [.faddr 228 2 (.t 3), .ld 229 1 false (.t 228), .mov 230 (.t 1), .iaddr 231 1 (.t 229) (.t 230), .ld 232 1 false (.t 231), .faddr 233 2 (.t 5), .ld 234 1 false (.t 233), .iaddr 235 1 (.t 232) (.t 234), .st 1 (.t 235) (cI (-1))]])
def c26_40 : Cd := (.seq (.reg [3, 7, 241, 242] [.call none 242 47 [(cI 7)], .o [.st 4 (.t 6) (.t 242)]]) .ret)
def c26_41 : Cd := (.cond (.t 241) c26_40 .skip)
def c26_42 : Cd := (.draw [[], [0], [], [], [3], [], [], [1, 2, 0, 1, 2, 6], [7, 6, 0, 1, 2, 6], [4, 5, 0, 1, 2, 3, 4, 5, 6, 7, 8], [9, 6, 8, 0, 1, 2, 3, 4, 5, 6, 7, 8]] [3, 7, 241, 243, 244, 245, 246, 247, 248, 249, 250, 251] [.o [.faddr 243 0 (.t 3), .ld 244 1 false (.t 243), .mov 245 (.t 7), .faddr 246 1 (.t 3), .ld 247 1 false (.t 246), .mov 248 (.t 7)], .call none 249 37 [], .o [.iaddr 250 1 (.t 244) (.t 245), .st 1 (.t 250) (cB false), .iaddr 251 1 (.t 247) (.t 248), .st 1 (.t 251) (.t 249)]])
def c26_43 : Cd := (.seq (.seq (.reg [236, 238, 239, 240] [.o [.ld 238 3 true (.t 3), .mov 239 (.t 7)], .call none 240 30 [(.t 238), (.t 239)], .o [.bin 241 .gtr (.t 240) (cI 0)]]) c26_41) c26_42)
def c26_44 : Cd := (.cond (.t 236) c26_43 .skip)
def c26_45 : Cd := (.seq (.reg [1, 5, 82, 226, 237] [.o [.bin 237 .eql (.t 82) (cI 8), .asg 236 (.t 237)]]) c26_44)
def c26_46 : Cd := (.cond (.t 226) c26_39 c26_45)
def c26_47 : Cd := (.seq (.reg [177, 227] [.o [.bin 227 .eql (.t 82) (cI 5), .asg 226 (.t 227)]]) c26_46)
def c26_48 : Cd := (.cond (.t 177) c26_38 c26_47)
def c26_49 : Cd := (.seq (.reg [138, 178] [.o [.bin 178 .eql (.t 82) (cI 4), .asg 177 (.t 178)]]) c26_48)
def c26_50 : Cd := (.cond (.t 138) c26_34 c26_49)
def c26_51 : Cd := (.seq (.reg [125, 139] [.o [.bin 139 .eql (.t 82) (cI 3), .asg 138 (.t 139)]]) c26_50)
def c26_52 : Cd := (.cond (.t 125) c26_30 c26_51)
def c26_53 : Cd := (.seq (.reg [83, 126] [.o [.bin 126 .eql (.t 82) (cI 2), .asg 125 (.t 126)]]) c26_52)
def c26_54 : Cd := (.cond (.t 83) c26_26 c26_53)
def c26_55 : Cd := (.block 0 (.seq (.reg [84] [.o [.bin 84 .eql (.t 82) (cI 1), .asg 83 (.t 84)]]) c26_54))
def c26_56 : Cd := (.seq (.reg [3, 7, 236, 252] [.o [.build 252 [(.sc (.int .i64 0)), (.sc (.int .i64 0)), (.sc (.int .i64 0)), (.sc (.slice none 0 0))] [], .st 4 (.t 6) (.t 252)]]) .ret)
def c26_57 : Cd := (.seq (.seq (.reg [79, 72, 81] [.o [.faddr 81 0 (.t 5), .ld 82 1 false (.t 81)]]) c26_55) c26_56)
def c26_58 : Cd := (.seq (.seq (.reg [58, 42, 60, 61, 62, 63, 64, 65, 66, 67, 68, 69, 70, 71] [.o [.faddr 60 0 (.t 5), .ld 61 1 false (.t 60), .bin 62 .eql (.t 61) (cI 3), .mov 63 (.t 62)], .g 63 false [.faddr 64 0 (.t 5), .ld 65 1 false (.t 64), .bin 66 .eql (.t 65) (cI 4)], .o [.pick 67 (.t 63) (cB true) (.t 66), .mov 68 (.t 67)], .g 68 false [.faddr 69 0 (.t 5), .ld 70 1 false (.t 69), .bin 71 .eql (.t 70) (cI 5)], .o [.pick 72 (.t 68) (cB true) (.t 71)]]) c26_13) c26_57)
def c26_59 : Cd := (.seq (.seq (.reg [30, 31, 32, 33, 34, 35, 36, 37, 38, 39, 40, 41] [.o [.faddr 30 0 (.t 5), .ld 31 1 false (.t 30), .bin 32 .eql (.t 31) (cI 2), .mov 33 (.t 32)], .g 33 false [.faddr 34 0 (.t 5), .ld 35 1 false (.t 34), .bin 36 .eql (.t 35) (cI 6)], .o [.pick 37 (.t 33) (cB true) (.t 36), .mov 38 (.t 37)], .g 38 false [.faddr 39 0 (.t 5), .ld 40 1 false (.t 39), .bin 41 .eql (.t 40) (cI 8)], .o [.pick 42 (.t 38) (cB true) (.t 41)]]) c26_8) c26_58)
def c26_60 : Cd := (.seq (.reg [26, 28, 29] [.o [.faddr 28 1 (.t 5), .ld 29 1 false (.t 28), .asg 7 (.t 29)]]) c26_59)
def c26_61 : Cd := (.seq (.seq (.reg [8, 9, 10, 11, 12, 13, 14, 15, 16, 17, 18, 19, 20, 21, 22, 23, 24, 25] [.o [.mov 8 (.t 1), .bin 9 .lss (.t 8) (cI 0), .mov 10 (.t 9)], .g 10 false [.mov 11 (.t 1), .faddr 12 2 (.t 3), .ld 13 1 false (.t 12), .len 14 (.t 13), .bin 15 .geq (.t 11) (.t 14)], .o [.pick 16 (.t 10) (cB true) (.t 15), .mov 17 (.t 16)], .g 17 false [.faddr 18 0 (.t 5), .ld 19 1 false (.t 18), .bin 20 .lss (.t 19) (cI 1)], .o [.pick 21 (.t 17) (cB true) (.t 20), .mov 22 (.t 21)], .g 22 false [.faddr 23 0 (.t 5), .ld 24 1 false (.t 23), .bin 25 .gtr (.t 24) (cI 8)], .o [.pick 26 (.t 22) (cB true) (.t 25)]]) c26_1) c26_60)
def fi26 : FI := ⟨253, 3, [.cell 6 4 true], (.seq (.reg [0, 2] [.o [.box 3 (.t 0), .box 5 (.t 2), .alloc 6 [(.sc (.int .i64 0)), (.sc (.int .i64 0)), (.sc (.int .i64 0)), (.sl true () 1 0 [])]]]) c26_61)⟩
theorem ok26 : fiOk Try.prog 26 fi26 := ⟨_, _, Try.func26, rfl, by kernel_rfl, by kernel_rfl, Try.call26⟩
/- lavabo/lavaboref13.SameRes -/
def c27_0 : Cd := (.seq (.reg [2, 3, 5, 6, 7, 8, 9, 10, 11, 12, 13, 14, 15, 16, 17, 18, 19, 20, 21, 22, 23, 24, 25, 26, 27, 28, 29, 30, 31, 32] [.o [.faddr 5 0 (.t 2), .ld 6 1 false (.t 5), .faddr 7 0 (.t 3), .ld 8 1 false (.t 7), .bin 9 .eql (.t 6) (.t 8), .mov 10 (.t 9)], .g 10 true [.faddr 11 1 (.t 2), .ld 12 1 false (.t 11), .faddr 13 1 (.t 3), .ld 14 1 false (.t 13), .bin 15 .eql (.t 12) (.t 14)], .o [.pick 16 (.t 10) (.t 15) (cB false), .mov 17 (.t 16)], .g 17 true [.faddr 18 2 (.t 2), .ld 19 1 false (.t 18), .faddr 20 2 (.t 3), .ld 21 1 false (.t 20), .bin 22 .eql (.t 19) (.t 21)], .o [.pick 23 (.t 17) (.t 22) (cB false), .mov 24 (.t 23)], .g 24 true [.faddr 25 3 (.t 2), .ld 26 1 false (.t 25), .b2s 27 (.t 26), .faddr 28 3 (.t 3), .ld 29 1 false (.t 28), .b2s 30 (.t 29), .bin 31 .eql (.t 27) (.t 30)], .o [.pick 32 (.t 24) (.t 31) (cB false), .asg 4 (.t 32)]]) .ret)
def fi27 : FI := ⟨33, 2, [.t 4], (.seq (.reg [0, 1, 4] [.o [.box 2 (.t 0), .box 3 (.t 1), .asg 4 (cB false)]]) c27_0)⟩
theorem ok27 : fiOk Try.prog 27 fi27 := ⟨_, _, Try.func27, rfl, by kernel_rfl, by kernel_rfl, Try.call27⟩
/- (lavabo/lavaboref13.S).Is -/
def c28_0 : Cd := (.seq (.reg [2, 3, 31] [.o [.asg 4 (cB false)]]) .ret)
def c28_1 : Cd := (.cond (.t 31) c28_0 .skip)
def c28_2 : Cd := (.cond (.t 36) .skip (.exit 0))
def c28_3 : Cd := (.seq (.reg [2, 3, 5, 63] [.o [.asg 4 (cB false)]]) .ret)
def c28_4 : Cd := (.cond (.t 63) c28_3 .skip)
def c28_5 : Cd := (.reg [63, 37, 38] [.o [.mov 37 (.t 5), .bin 38 .add (.t 37) (cI 1), .asg 5 (.t 38)]])
def c28_6 : Cd := (.seq (.block 1 (.seq (.draw [[], [0], [], [1, 2], [3], [], [5], [], [6, 7], [8], [4, 9], [10], [11], [12, 11], [11], [13, 14, 11], [15, 11], [16, 11], [11], [18, 11], [11], [19, 20, 11], [21, 11], [17, 22, 11], [11, 23]] [36, 39, 40, 41, 42, 43, 44, 45, 46, 47, 48, 49, 50, 51, 52, 53, 54, 55, 56, 57, 58, 59, 60, 61, 62] [.o [.faddr 39 0 (.t 3), .ld 40 1 false (.t 39), .mov 41 (.t 5), .iaddr 42 1 (.t 40) (.t 41), .ld 43 1 false (.t 42), .faddr 44 0 (.t 2), .ld 45 1 false (.t 44), .mov 46 (.t 5), .iaddr 47 1 (.t 45) (.t 46), .ld 48 1 false (.t 47), .beq 49 false (.t 43) (.t 48), .mov 50 (.t 49)], .g 50 false [.faddr 51 1 (.t 3), .ld 52 1 false (.t 51), .mov 53 (.t 5), .iaddr 54 1 (.t 52) (.t 53), .ld 55 1 false (.t 54), .b2s 56 (.t 55), .faddr 57 1 (.t 2), .ld 58 1 false (.t 57), .mov 59 (.t 5), .iaddr 60 1 (.t 58) (.t 59), .ld 61 1 false (.t 60), .bin 62 .neq (.t 56) (.t 61)], .o [.pick 63 (.t 50) (cB true) (.t 62)]]) c28_4)) c28_5)
def c28_7 : Cd := (.seq (.seq (.reg [32, 33, 34, 35] [.o [.mov 32 (.t 5), .faddr 33 0 (.t 2), .ld 34 1 false (.t 33), .len 35 (.t 34), .bin 36 .lss (.t 32) (.t 35)]]) c28_2) c28_6)
def c28_8 : Cd := (.block 0 (.loop c28_7))
def c28_9 : Cd := (.cond (.t 68) .skip (.exit 2))
def c28_10 : Cd := (.seq (.reg [2, 3, 6, 82] [.o [.asg 4 (cB false)]]) .ret)
def c28_11 : Cd := (.cond (.t 82) c28_10 .skip)
def c28_12 : Cd := (.reg [82, 69, 70] [.o [.mov 69 (.t 6), .bin 70 .add (.t 69) (cI 1), .asg 6 (.t 70)]])
def c28_13 : Cd := (.seq (.block 3 (.seq (.draw [[], [0], [], [1, 2], [3], [], [5], [], [6, 7], [8], [4, 9], [10]] [68, 71, 72, 73, 74, 75, 76, 77, 78, 79, 80, 81] [.o [.faddr 71 2 (.t 3), .ld 72 1 false (.t 71), .mov 73 (.t 6), .iaddr 74 1 (.t 72) (.t 73), .ld 75 1 false (.t 74), .faddr 76 2 (.t 2), .ld 77 1 false (.t 76), .mov 78 (.t 6), .iaddr 79 1 (.t 77) (.t 78), .ld 80 1 false (.t 79)], .call none 81 51 [(.t 75), (.t 80)], .o [.un 82 .not (.t 81)]]) c28_11)) c28_12)
def c28_14 : Cd := (.seq (.seq (.reg [64, 65, 66, 67] [.o [.mov 64 (.t 6), .faddr 65 2 (.t 2), .ld 66 1 false (.t 65), .len 67 (.t 66), .bin 68 .lss (.t 64) (.t 67)]]) c28_9) c28_13)
def c28_15 : Cd := (.block 2 (.loop c28_14))
def c28_16 : Cd := (.seq (.reg [2, 3, 6, 64, 65, 66, 67, 68] [.o [.asg 4 (cB true)]]) .ret)
def c28_17 : Cd := (.seq (.seq (.reg [5, 32, 33, 34, 35, 36] [.o [.asg 6 (cI 0)]]) c28_15) c28_16)
def c28_18 : Cd := (.seq (.seq (.reg [31] [.o [.asg 5 (cI 0)]]) c28_8) c28_17)
def c28_19 : Cd := (.seq (.seq (.reg [7, 8, 9, 10, 11, 12, 13, 14, 15, 16, 17, 18, 19, 20, 21, 22, 23, 24, 25, 26, 27, 28, 29, 30] [.o [.faddr 7 0 (.t 3), .ld 8 1 false (.t 7), .len 9 (.t 8), .faddr 10 0 (.t 2), .ld 11 1 false (.t 10), .len 12 (.t 11), .bin 13 .neq (.t 9) (.t 12), .mov 14 (.t 13)], .g 14 false [.faddr 15 1 (.t 3), .ld 16 1 false (.t 15), .len 17 (.t 16), .faddr 18 1 (.t 2), .ld 19 1 false (.t 18), .len 20 (.t 19), .bin 21 .neq (.t 17) (.t 20)], .o [.pick 22 (.t 14) (cB true) (.t 21), .mov 23 (.t 22)], .g 23 false [.faddr 24 2 (.t 3), .ld 25 1 false (.t 24), .len 26 (.t 25), .faddr 27 2 (.t 2), .ld 28 1 false (.t 27), .len 29 (.t 28), .bin 30 .neq (.t 26) (.t 29)], .o [.pick 31 (.t 23) (cB true) (.t 30)]]) c28_1) c28_18)
def fi28 : FI := ⟨83, 2, [.t 4], (.seq (.reg [0, 1, 4] [.o [.box 2 (.t 0), .box 3 (.t 1), .asg 4 (cB false)]]) c28_19)⟩
theorem ok28 : fiOk Try.prog 28 fi28 := ⟨_, _, Try.func28, rfl, by kernel_rfl, by kernel_rfl, Try.call28⟩
/- (lavabo/lavaboref13.S).Pins -/
def c30_0 : Cd := (.cond (.t 12) .skip (.exit 0))
def c30_1 : Cd := (.cond (.t 22) .skip (.exit 2))
def c30_2 : Cd := (.reg [38, 39, 40] [.o [.mov 39 (.t 5), .bin 40 .add (.t 39) (cI 1), .asg 5 (.t 40)]])
def c30_3 : Cd := (.cond (.t 38) c30_2 .skip)
def c30_4 : Cd := (.reg [38, 23, 24] [.o [.mov 23 (.t 7), .bin 24 .add (.t 23) (cI 1), .asg 7 (.t 24)]])
def c30_5 : Cd := (.seq (.block 3 (.seq (.reg [22, 25, 26, 27, 28, 29, 30, 31, 32, 33, 34, 35, 36, 37] [.o [.faddr 25 2 (.t 2), .ld 26 1 false (.t 25), .mov 27 (.t 6), .iaddr 28 1 (.t 26) (.t 27), .ld 29 1 false (.t 28), .mov 30 (.t 7), .iaddr 31 1 (.t 29) (.t 30), .ld 32 1 false (.t 31), .mov 33 (.t 1), .bin 34 .eql (.t 32) (.t 33), .mov 35 (.t 34)], .g 35 true [.mov 36 (.t 1), .bin 37 .geq (.t 36) (cI 0)], .o [.pick 38 (.t 35) (.t 37) (cB false)]]) c30_3)) c30_4)
def c30_6 : Cd := (.seq (.seq (.reg [15, 16, 17, 18, 19, 20, 21] [.o [.mov 15 (.t 7), .faddr 16 2 (.t 2), .ld 17 1 false (.t 16), .mov 18 (.t 6), .iaddr 19 1 (.t 17) (.t 18), .ld 20 1 false (.t 19), .len 21 (.t 20), .bin 22 .lss (.t 15) (.t 21)]]) c30_1) c30_5)
def c30_7 : Cd := (.block 2 (.loop c30_6))
def c30_8 : Cd := (.reg [7, 15, 16, 17, 18, 19, 20, 21, 22, 13, 14] [.o [.mov 13 (.t 6), .bin 14 .add (.t 13) (cI 1), .asg 6 (.t 14)]])
def c30_9 : Cd := (.seq (.block 1 (.seq (.reg [12] [.o [.asg 7 (cI 0)]]) c30_7)) c30_8)
def c30_10 : Cd := (.seq (.seq (.reg [8, 9, 10, 11] [.o [.mov 8 (.t 6), .faddr 9 2 (.t 2), .ld 10 1 false (.t 9), .len 11 (.t 10), .bin 12 .lss (.t 8) (.t 11)]]) c30_0) c30_9)
def c30_11 : Cd := (.block 0 (.loop c30_10))
def c30_12 : Cd := (.seq (.reg [1, 2, 5, 6, 8, 9, 10, 11, 12, 41] [.o [.mov 41 (.t 5), .asg 4 (.t 41)]]) .ret)
def c30_13 : Cd := (.seq (.seq (.reg [] [.o [.asg 6 (cI 0)]]) c30_11) c30_12)
def c30_14 : Cd := (.seq (.reg [] [.o [.asg 5 (cI 0)]]) c30_13)
def fi30 : FI := ⟨42, 2, [.t 4], (.seq (.reg [0, 4] [.o [.box 2 (.t 0), .asg 4 (cI 0)]]) c30_14)⟩
theorem ok30 : fiOk Try.prog 30 fi30 := ⟨_, _, Try.func30, rfl, by kernel_rfl, by kernel_rfl, Try.call30⟩
/- lavabo/lavaboref13.New -/
def c32_0 : Cd := (.seq (.reg [0, 1, 5, 21, 22] [.o [.ld 22 3 true (.t 5), .st 3 (.t 4) (.t 22)]]) .ret)
def c32_1 : Cd := (.cond (.t 21) c32_0 .skip)
def c32_2 : Cd := (.cond (.t 25) .skip (.exit 0))
def c32_3 : Cd := (.reg [26, 27] [.o [.mov 26 (.t 6), .bin 27 .add (.t 26) (cI 1), .asg 6 (.t 27)]])
def c32_4 : Cd := (.seq (.block 1 (.draw [[], [0], [], [1, 2], [], [4], [3], [6], [5, 7, 6], [0, 1, 2, 3, 4, 5], [9, 3, 8, 0, 1, 2, 3, 4, 5], [0, 1, 2, 3, 4, 5, 6, 7, 8, 9, 10], [11, 8, 10, 0, 1, 2, 3, 4, 5, 6, 7, 8, 9, 10]] [25, 28, 29, 30, 31, 32, 33, 34, 35, 36, 37, 38] [.o [.faddr 28 0 (.t 5), .ld 29 1 false (.t 28), .bs1 30 1 (cB false), .app 31 1 1 (.t 29) (.t 30), .faddr 32 1 (.t 5), .ld 33 1 false (.t 32)], .call none 34 37 [], .o [.bs1 35 1 (.t 34), .app 36 1 16 (.t 33) (.t 35), .faddr 37 0 (.t 5), .st 1 (.t 37) (.t 31), .faddr 38 1 (.t 5), .st 1 (.t 38) (.t 36)]])) c32_3)
def c32_5 : Cd := (.seq (.seq (.reg [23, 24] [.o [.mov 23 (.t 6), .mov 24 (.t 0), .bin 25 .lss (.t 23) (.t 24)]]) c32_2) c32_4)
def c32_6 : Cd := (.block 0 (.loop c32_5))
def c32_7 : Cd := (.cond (.t 41) .skip (.exit 2))
def c32_8 : Cd := (.reg [42, 43] [.o [.mov 42 (.t 7), .bin 43 .add (.t 42) (cI 1), .asg 7 (.t 43)]])
def c32_9 : Cd := (.seq (.block 3 (.reg [41, 44, 45, 46, 47, 48, 49] [.o [.faddr 44 2 (.t 5), .ld 45 1 false (.t 44), .bsn 46 [(cI (-1)), (cI (-1)), (cI (-1)), (cI (-1)), (cI (-1)), (cI (-1))], .bs1 47 1 (.t 46), .app 48 1 24 (.t 45) (.t 47), .faddr 49 2 (.t 5), .st 1 (.t 49) (.t 48)]])) c32_8)
def c32_10 : Cd := (.seq (.seq (.reg [39, 40] [.o [.mov 39 (.t 7), .mov 40 (.t 1), .bin 41 .lss (.t 39) (.t 40)]]) c32_7) c32_9)
def c32_11 : Cd := (.block 2 (.loop c32_10))
def c32_12 : Cd := (.seq (.reg [1, 5, 7, 39, 40, 41, 50] [.o [.ld 50 3 true (.t 5), .st 3 (.t 4) (.t 50)]]) .ret)
def c32_13 : Cd := (.seq (.seq (.reg [0, 6, 23, 24, 25] [.o [.asg 7 (cI 0)]]) c32_11) c32_12)
def c32_14 : Cd := (.seq (.seq (.reg [21] [.o [.asg 6 (cI 0)]]) c32_6) c32_13)
def c32_15 : Cd := (.seq (.seq (.reg [8, 9, 10, 11, 12, 13, 14, 15, 16, 17, 18, 19, 20] [.o [.mov 8 (.t 0), .bin 9 .lss (.t 8) (cI 1), .mov 10 (.t 9)], .g 10 false [.mov 11 (.t 0), .bin 12 .gtr (.t 11) (cI 48)], .o [.pick 13 (.t 10) (cB true) (.t 12), .mov 14 (.t 13)], .g 14 false [.mov 15 (.t 1), .bin 16 .lss (.t 15) (cI 1)], .o [.pick 17 (.t 14) (cB true) (.t 16), .mov 18 (.t 17)], .g 18 false [.mov 19 (.t 1), .bin 20 .gtr (.t 19) (cI 6)], .o [.pick 21 (.t 18) (cB true) (.t 20)]]) c32_1) c32_14)
def c32_16 : Cd := (.seq (.reg [] [.o [.alloc 5 [(.sl true () 1 0 []), (.sl true () 1 0 []), (.sl true () 1 0 [])]]]) c32_15)
def fi32 : FI := ⟨51, 2, [.cell 4 3 true], (.seq (.reg [] [.o [.alloc 4 [(.sl true () 1 0 []), (.sl true () 1 0 []), (.sl true () 1 0 [])]]]) c32_16)⟩
theorem ok32 : fiOk Try.prog 32 fi32 := ⟨_, _, Try.func32, rfl, by kernel_rfl, by kernel_rfl, Try.call32⟩
/- lavabo/lavabolaw13.Near -/
def c33_0 : Cd := (.reg [46, 47, 48, 49, 50] [.o [.faddr 47 5 (.t 7), .ld 48 1 false (.t 47), .slice 49 1 (.t 48) none (some (cI 8)), .faddr 50 5 (.t 7), .st 1 (.t 50) (.t 49)]])
def c33_1 : Cd := (.cond (.t 46) c33_0 .skip)
def c33_2 : Cd := (.seq (.draw [[], [0], [1], [], [3], [2, 4], [5], [], [6, 7], [8, 0, 1, 2, 3, 4, 5, 6, 7, 8]] [2, 3, 7, 46, 51, 52, 53, 54, 55, 56, 57, 58, 59] [.o [.faddr 51 0 (.t 3), .ld 52 1 false (.t 51), .conv 53 .u64 (.t 52), .mov 54 (.t 2), .conv 55 .u64 (.t 54), .bin 56 .rem (.t 53) (.t 55), .conv 57 .i64 (.t 56), .ld 58 6 true (.t 7), .build 59 [(.sc (.int .i64 0)), (.sc (.int .i64 0)), (.sc (.int .i64 0)), (.sc (.int .i64 0)), (.sc (.int .i64 0)), (.sc (.int .i64 0)), (.sc (.slice none 0 0))] [(0, 1, (.t 57)), (1, 6, (.t 58))], .st 7 (.t 6) (.t 59)]]) .ret)
def c33_3 : Cd := (.seq (.seq (.reg [43, 44, 45] [.o [.faddr 43 5 (.t 7), .ld 44 1 false (.t 43), .len 45 (.t 44), .bin 46 .gtr (.t 45) (cI 8)]]) c33_1) c33_2)
def c33_4 : Cd := (.seq (.reg [31, 32, 33, 34, 35, 36, 37, 38, 39, 40, 41, 42] [.o [.faddr 31 3 (.t 7), .ld 32 1 false (.t 31), .conv 33 .u64 (.t 32), .bin 34 .rem (.t 33) (.c (.sc (.int .u64 8))), .conv 35 .i64 (.t 34), .faddr 36 4 (.t 7), .ld 37 1 false (.t 36), .conv 38 .u64 (.t 37), .bin 39 .rem (.t 38) (.c (.sc (.int .u64 9))), .conv 40 .i64 (.t 39), .faddr 41 3 (.t 7), .st 1 (.t 41) (.t 35), .faddr 42 4 (.t 7), .st 1 (.t 42) (.t 40)]]) c33_3)
def c33_5 : Cd := (.seq (.draw [[], [0], [1], [], [3], [2, 4], [5], [], [7], [8], [9], [10], [0, 1, 2, 3, 4, 5, 6, 7, 8], [12, 6, 0, 1, 2, 3, 4, 5, 6, 7, 8], [0, 1, 2, 3, 4, 5, 6, 7, 8, 9, 10, 11, 12, 13], [14, 11, 13, 0, 1, 2, 3, 4, 5, 6, 7, 8, 9, 10, 11, 12, 13]] [1, 17, 18, 19, 20, 21, 22, 23, 24, 25, 26, 27, 28, 29, 30] [.o [.faddr 17 1 (.t 7), .ld 18 1 false (.t 17), .conv 19 .u64 (.t 18), .mov 20 (.t 1), .conv 21 .u64 (.t 20), .bin 22 .rem (.t 19) (.t 21), .conv 23 .i64 (.t 22), .faddr 24 2 (.t 7), .ld 25 1 false (.t 24), .conv 26 .u64 (.t 25), .bin 27 .rem (.t 26) (.c (.sc (.int .u64 3))), .conv 28 .i64 (.t 27), .faddr 29 1 (.t 7), .st 1 (.t 29) (.t 23), .faddr 30 2 (.t 7), .st 1 (.t 30) (.t 28)]]) c33_4)
def c33_6 : Cd := (.seq (.reg [10, 11, 12, 13, 14, 15, 16] [.o [.faddr 10 0 (.t 7), .ld 11 1 false (.t 10), .conv 12 .u64 (.t 11), .bin 13 .rem (.t 12) (.c (.sc (.int .u64 8))), .conv 14 .i64 (.t 13), .bin 15 .add (cI 1) (.t 14), .faddr 16 0 (.t 7), .st 1 (.t 16) (.t 15)]]) c33_5)
def c33_7 : Cd := (.seq (.reg [8, 9] [.o [.faddr 8 1 (.t 3), .ld 9 6 true (.t 8), .alloc 7 [(.sc (.int .i64 0)), (.sc (.int .i64 0)), (.sc (.int .i64 0)), (.sc (.int .i64 0)), (.sc (.int .i64 0)), (.sl true () 1 0 [])], .st 6 (.t 7) (.t 9)]]) c33_6)
def fi33 : FI := ⟨60, 3, [.cell 6 7 true], (.seq (.reg [0] [.o [.box 3 (.t 0), .alloc 6 [(.sc (.int .i64 0)), (.sc (.int .i64 0)), (.sc (.int .i64 0)), (.sc (.int .i64 0)), (.sc (.int .i64 0)), (.sc (.int .i64 0)), (.sl true () 1 0 [])]]]) c33_7)⟩
theorem ok33 : fiOk Try.prog 33 fi33 := ⟨_, _, Try.func33, rfl, by kernel_rfl, by kernel_rfl, Try.call33⟩
/- lavabo/lavaboref13.Zeros -/
def c37_0 : Cd := (.seq (.reg [1, 2] [.o [.make 1 1 1 [(.sc (.int .u8 0))] (cI 16) (cI 16), .b2s 2 (.t 1), .asg 0 (.t 2)]]) .ret)
def fi37 : FI := ⟨3, 0, [.t 0], (.seq (.reg [0] [.o [.asg 0 (.c (.sc (.string ⟨#[]⟩)))]]) c37_0)⟩
theorem ok37 : fiOk Try.prog 37 fi37 := ⟨_, _, Try.func37, rfl, by kernel_rfl, by kernel_rfl, Try.call37⟩
/- lavabo/lavaboref13.fail -/
def c47_0 : Cd := (.seq (.reg [0, 3, 4] [.o [.mov 3 (.t 0), .build 4 [(.sc (.int .i64 0)), (.sc (.int .i64 0)), (.sc (.int .i64 0)), (.sc (.slice none 0 0))] [(0, 1, (.t 3))], .st 4 (.t 2) (.t 4)]]) .ret)
def fi47 : FI := ⟨5, 1, [.cell 2 4 true], (.seq (.reg [] [.o [.alloc 2 [(.sc (.int .i64 0)), (.sc (.int .i64 0)), (.sc (.int .i64 0)), (.sl true () 1 0 [])]]]) c47_0)⟩
theorem ok47 : fiOk Try.prog 47 fi47 := ⟨_, _, Try.func47, rfl, by kernel_rfl, by kernel_rfl, Try.call47⟩
/- (lavabo/lavaboref13.S).Held -/
def c48_0 : Cd := (.seq (.reg [1, 2, 3, 29] [.o [.asg 6 (cI (-1))]]) .ret)
def c48_1 : Cd := (.cond (.t 29) c48_0 .skip)
def c48_2 : Cd := (.seq (.reg [1, 2, 3, 29, 30, 31, 32, 33, 34, 35, 36, 37] [.o [.faddr 30 2 (.t 3), .ld 31 1 false (.t 30), .mov 32 (.t 1), .iaddr 33 1 (.t 31) (.t 32), .ld 34 1 false (.t 33), .mov 35 (.t 2), .iaddr 36 1 (.t 34) (.t 35), .ld 37 1 false (.t 36), .asg 6 (.t 37)]]) .ret)
def c48_3 : Cd := (.seq (.seq (.reg [7, 8, 9, 10, 11, 12, 13, 14, 15, 16, 17, 18, 19, 20, 21, 22, 23, 24, 25, 26, 27, 28] [.o [.mov 7 (.t 1), .bin 8 .lss (.t 7) (cI 0), .mov 9 (.t 8)], .g 9 false [.mov 10 (.t 1), .faddr 11 2 (.t 3), .ld 12 1 false (.t 11), .len 13 (.t 12), .bin 14 .geq (.t 10) (.t 13)], .o [.pick 15 (.t 9) (cB true) (.t 14), .mov 16 (.t 15)], .g 16 false [.mov 17 (.t 2), .bin 18 .lss (.t 17) (cI 0)], .o [.pick 19 (.t 16) (cB true) (.t 18), .mov 20 (.t 19)], .g 20 false [.mov 21 (.t 2), .faddr 22 2 (.t 3), .ld 23 1 false (.t 22), .mov 24 (.t 1), .iaddr 25 1 (.t 23) (.t 24), .ld 26 1 false (.t 25), .len 27 (.t 26), .bin 28 .geq (.t 21) (.t 27)], .o [.pick 29 (.t 20) (cB true) (.t 28)]]) c48_1) c48_2)
def fi48 : FI := ⟨38, 3, [.t 6], (.seq (.reg [0, 6] [.o [.box 3 (.t 0), .asg 6 (cI 0)]]) c48_3)⟩
theorem ok48 : fiOk Try.prog 48 fi48 := ⟨_, _, Try.func48, rfl, by kernel_rfl, by kernel_rfl, Try.call48⟩
/- (lavabo/lavaboref13.S).room -/
def c49_0 : Cd := (.cond (.t 13) .skip (.exit 0))
def c49_1 : Cd := (.seq (.reg [1, 2, 5, 24] [.o [.asg 4 (cB true)]]) .ret)
def c49_2 : Cd := (.cond (.t 24) c49_1 .skip)
def c49_3 : Cd := (.reg [24, 14, 15] [.o [.mov 14 (.t 5), .bin 15 .add (.t 14) (cI 1), .asg 5 (.t 15)]])
def c49_4 : Cd := (.seq (.block 1 (.seq (.reg [13, 16, 17, 18, 19, 20, 21, 22, 23] [.o [.faddr 16 2 (.t 2), .ld 17 1 false (.t 16), .mov 18 (.t 1), .iaddr 19 1 (.t 17) (.t 18), .ld 20 1 false (.t 19), .mov 21 (.t 5), .iaddr 22 1 (.t 20) (.t 21), .ld 23 1 false (.t 22), .bin 24 .lss (.t 23) (cI 0)]]) c49_2)) c49_3)
def c49_5 : Cd := (.seq (.seq (.reg [6, 7, 8, 9, 10, 11, 12] [.o [.mov 6 (.t 5), .faddr 7 2 (.t 2), .ld 8 1 false (.t 7), .mov 9 (.t 1), .iaddr 10 1 (.t 8) (.t 9), .ld 11 1 false (.t 10), .len 12 (.t 11), .bin 13 .lss (.t 6) (.t 12)]]) c49_0) c49_4)
def c49_6 : Cd := (.block 0 (.loop c49_5))
def c49_7 : Cd := (.seq (.reg [1, 2, 5, 6, 7, 8, 9, 10, 11, 12, 13] [.o [.asg 4 (cB false)]]) .ret)
def c49_8 : Cd := (.seq (.seq (.reg [] [.o [.asg 5 (cI 0)]]) c49_6) c49_7)
def fi49 : FI := ⟨25, 2, [.t 4], (.seq (.reg [0, 4] [.o [.box 2 (.t 0), .asg 4 (cB false)]]) c49_8)⟩
theorem ok49 : fiOk Try.prog 49 fi49 := ⟨_, _, Try.func49, rfl, by kernel_rfl, by kernel_rfl, Try.call49⟩
/- (lavabo/lavaboref13.S).give -/
def c50_0 : Cd := (.cond (.t 15) .skip (.exit 0))
def c50_1 : Cd := (.seq (.reg [7, 35] [.o [.mov 35 (.t 7), .asg 6 (.t 35)]]) .ret)
def c50_2 : Cd := (.seq (.reg [1, 2, 3, 26, 27, 28, 29, 30, 31, 32, 33, 34] [.o [.faddr 27 2 (.t 3), .ld 28 1 false (.t 27), .mov 29 (.t 1), .iaddr 30 1 (.t 28) (.t 29), .ld 31 1 false (.t 30), .mov 32 (.t 7), .mov 33 (.t 2), .iaddr 34 1 (.t 31) (.t 32), .st 1 (.t 34) (.t 33)]]) c50_1)
def c50_3 : Cd := (.cond (.t 26) c50_2 .skip)
def c50_4 : Cd := (.reg [26, 16, 17] [.o [.mov 16 (.t 7), .bin 17 .add (.t 16) (cI 1), .asg 7 (.t 17)]])
def c50_5 : Cd := (.seq (.block 1 (.seq (.reg [15, 18, 19, 20, 21, 22, 23, 24, 25] [.o [.faddr 18 2 (.t 3), .ld 19 1 false (.t 18), .mov 20 (.t 1), .iaddr 21 1 (.t 19) (.t 20), .ld 22 1 false (.t 21), .mov 23 (.t 7), .iaddr 24 1 (.t 22) (.t 23), .ld 25 1 false (.t 24), .bin 26 .lss (.t 25) (cI 0)]]) c50_3)) c50_4)
def c50_6 : Cd := (.seq (.seq (.reg [8, 9, 10, 11, 12, 13, 14] [.o [.mov 8 (.t 7), .faddr 9 2 (.t 3), .ld 10 1 false (.t 9), .mov 11 (.t 1), .iaddr 12 1 (.t 10) (.t 11), .ld 13 1 false (.t 12), .len 14 (.t 13), .bin 15 .lss (.t 8) (.t 14)]]) c50_0) c50_5)
def c50_7 : Cd := (.block 0 (.loop c50_6))
def c50_8 : Cd := (.seq (.reg [1, 2, 3, 7, 8, 9, 10, 11, 12, 13, 14, 15] [.o [.asg 6 (cI (-1))]]) .ret)
def c50_9 : Cd := (.seq (.seq (.reg [] [.o [.asg 7 (cI 0)]]) c50_7) c50_8)
def fi50 : FI := ⟨36, 3, [.t 6], (.seq (.reg [0, 6] [.o [.box 3 (.t 0), .asg 6 (cI 0)]]) c50_9)⟩
theorem ok50 : fiOk Try.prog 50 fi50 := ⟨_, _, Try.func50, rfl, by kernel_rfl, by kernel_rfl, Try.call50⟩
end Go.OT
set_option linter.unusedSimpArgs false
set_option linter.unusedVariables false
namespace Go.OT
open Go.Proofs

/-! ModelPins -/
def pa : St := (DoB (newSt 2 2) 0 ⟨1, 0, 0, 0, 0, []⟩).2.1
def pb : St := (DoB pa 0 ⟨5, 0, 0, 0, 0, []⟩).2.1
def pf : Nat → St
  | 0 => pb
  | i + 1 => (DoB (pf i) (i % 2 : Nat) ⟨2, 0, 0, 0, 0, []⟩).2.1
def pu (k : Nat) : Nat → St
  | 0 => pf k
  | j + 1 => (DoB (pu k j) (j % 2 : Nat) ⟨5, 0, (j / 2 : Nat), 0, 0, []⟩).2.1
def pfOk (i : Nat) : Bool := (DoB (pf i) (i % 2 : Nat) ⟨2, 0, 0, 0, 0, []⟩).2.2.Code == 0 && (DoB (pf i) (i % 2 : Nat) ⟨2, 0, 0, 0, 0, []⟩).2.2.Handle == (i / 2 : Nat)
def puOk (k j : Nat) : Bool := (DoB (pu k j) (j % 2 : Nat) ⟨5, 0, (j / 2 : Nat), 0, 0, []⟩).2.2.Code == 0
def pdOk (k m : Nat) : Bool := Pins (pu k m) 0 == ((k - m : Nat) : Int) && (DoB (pu k m) 1 ⟨8, 0, 0, 0, 0, []⟩).2.2.Code == (if k = m then 0 else 7)
def pxOk (k : Nat) : Bool := ((DoB (pf k) 0 ⟨2, 0, 0, 0, 0, []⟩).2.2.Code == 4) == decide (10 < k)
theorem pf_ok : ((List.range 12).all pfOk && (List.range 13).all pxOk && (List.range 13).all fun k => (List.range k).all (puOk k) && (List.range (k + 1)).all (pdOk k)) = true := by kernel_rfl
theorem pf_sized (i : Nat) : Sized (pf i) := by
  induction i with
  | zero => exact ((newSt_sized 2 2).doB _ _).doB _ _
  | succ i ih => exact ih.doB _ _
theorem pu_sized (k j : Nat) : Sized (pu k j) := by
  induction j with
  | zero => exact pf_sized k
  | succ i ih => exact ih.doB _ _
end Go.OT
set_option linter.unusedSimpArgs false
set_option linter.unusedVariables false
namespace Go.OT
open Go.Proofs

theorem umod (n : Int) (m : Nat) (h0 : 0 < m) (h : m ≤ 1000000000) : ∃ k : Nat, k < m ∧ IntKind.wrap .i64 ((IntKind.wrap .u64 n).tmod (m : Int)) = (k : Int) := by
  have hw : 0 ≤ IntKind.wrap .u64 n := by rw [IntKind.wrap_u64]; omega
  have h1 := Int.tmod_nonneg (m : Int) hw
  have h2 := Int.tmod_lt_of_pos (IntKind.wrap .u64 n) (show (0 : Int) < (m : Int) by omega)
  refine ⟨((IntKind.wrap .u64 n).tmod (m : Int)).toNat, by omega, ?_⟩
  rw [wrap_small (by omega) (by omega)]
  omega

set_option maxHeartbeats 4000000 in
theorem pins_law (n back : Int) : FnC Try.prog 11 [] [i64 n, i64 back] [] (bl true) := by
  obtain ⟨k, hk, ek⟩ := umod n 13 (by decide) (by decide)
  obtain ⟨b, hb, eb⟩ := umod back 14 (by decide) (by decide)
  rw [show ((13 : Nat) : Int) = 13 from rfl] at ek
  rw [show ((14 : Nat) : Int) = 14 from rfl] at eb
  refine FnC.go ok11 rfl ?_
  refine WL.sreg (by simp; rfl) (by simp; rfl) ?_
  refine WL.sreg (by simp [ek]; rfl) (by simp; rfl) ?_
  refine WL.sregC (RL.newC 2 2 (by simp) (RL.o (by simp; rfl) (RL.nil ⟨_, by simp; rfl, ?_⟩)))
  refine WL.sregC (RL.o (by simp; rfl) (RL.nilA 25 5 1 (by simp; rfl) rfl rfl (RL.doC (newSt 2 2) (newSt_sized 2 2) 0 ⟨1, 0, 0, 0, 0, []⟩ (by simp) (RL.o (by simp; rfl) (RL.nil ⟨_, by simp; rfl, ?_⟩)))))
  rw [← pa]
  have za : Sized pa := (newSt_sized 2 2).doB _ _
  refine WL.sregC (RL.o (by simp; rfl) (RL.nilA 31 5 1 (by simp; rfl) rfl rfl (RL.doC pa za 0 ⟨5, 0, 0, 0, 0, []⟩ (by simp) (RL.o (by simp; rfl) (RL.nil ⟨_, by simp; rfl, ?_⟩)))))
  rw [← pb]
  refine WL.seq (WL.sreg (by simp; rfl) (by simp; rfl) ?_)
  refine WL.block (WL.count k (fun i => [(100, 0, i64 back), (500, 0, i64 k), (600, 0, .bptr 6 1 0), (601, 0, sB false (pf i).There), (602, 0, sUU false (pf i).Body), (603, 0, sII false (pf i).Handles), (699, 1, .non), (700, 0, i64 i)]) (fun _ => True) rfl trivial fun i hi _ => ?_)
  by_cases h : i < k
  · refine WL.seq (WL.sreg (by simp [h]; rfl) (by simp; rfl) ?_)
    refine WL.cond (t := true) (by simp) (fun _ => WL.skip ?_) (by simp)
    refine WL.seq ?_
    refine WL.block (WL.sregC ?_)
    have hw : (i : Int).tmod 2 = ((i % 2 : Nat) : Int) := rfl
    refine RL.o (by simp; rfl) (RL.nilA 44 5 1 (by simp; rfl) rfl rfl (RL.doC (pf i) (pf_sized i) (i % 2 : Nat) ⟨2, 0, 0, 0, 0, []⟩ (by simp [hw]) ?_))
    have f := pf_ok
    simp only [Bool.and_eq_true, List.all_eq_true, List.mem_range] at f
    have f1 := f.1.1 i (by omega)
    simp only [pfOk, Bool.and_eq_true, beq_iff_eq] at f1
    have hn : pf (i + 1) = (DoB (pf i) (i % 2 : Nat) ⟨2, 0, 0, 0, 0, []⟩).2.1 := rfl
    generalize DoB (pf i) (i % 2 : Nat) ⟨2, 0, 0, 0, 0, []⟩ = dd at f1 hn ⊢
    obtain ⟨o', s', r⟩ := dd
    simp only at f1 hn ⊢
    refine RL.o (by simp; rfl) (RL.nil ⟨_, by simp; rfl, ?_⟩)
    have hq : IntKind.wrap .i64 ((i : Int) / 2) = (i : Int) / 2 := wrap_small (by omega) (by omega)
    have hws : IntKind.wrap .i64 ((i : Int) + 1) = (i : Int) + 1 := wrap_small (by omega) (by omega)
    refine WL.seq (WL.sreg (by simp [f1, hq]; rfl) (by simp; rfl) ?_)
    refine WL.cond (t := false) (by simp) (by simp) fun _ => WL.skip ?_
    refine WL.reg (RL.run (by simp; rfl) ⟨_, by simp; rfl, ?_⟩)
    refine WL.reg (RL.run (by simp; rfl) ⟨_, by simp; rfl, h, ?_, trivial⟩)
    rw [hn]
    simp [hws]
  · refine WL.seq (WL.sreg (by simp [h]; rfl) (by simp; rfl) ?_)
    refine WL.cond (t := false) (by simp) (by simp) fun _ => WL.exit ?_
    obtain rfl : i = k := by omega
    refine WL.sregC (RL.o (by simp; rfl) (RL.nilA 61 5 1 (by simp; rfl) rfl rfl (RL.doC (pf i) (pf_sized i) 0 ⟨2, 0, 0, 0, 0, []⟩ (by simp) ?_)))
    have f := pf_ok
    simp only [Bool.and_eq_true, List.all_eq_true, List.mem_range] at f
    have f1 := f.1.2 i (by omega)
    have f2 := (f.2 i hk).1
    have f3 := (f.2 i hk).2
    clear f
    simp only [pxOk] at f1
    generalize DoB (pf i) 0 ⟨2, 0, 0, 0, 0, []⟩ = dd at f1 ⊢
    obtain ⟨o', s', rx⟩ := dd
    simp only at f1 ⊢
    refine RL.o (by simp; rfl) (RL.nil ⟨_, by simp; rfl, ?_⟩)
    have hm : ∃ m : Nat, m ≤ i ∧ (if b < i then (b : Int) else (i : Int)) = (m : Int) := ⟨min i b, Nat.min_le_left _ _, by split <;> omega⟩
    obtain ⟨m, hmi, hm⟩ := hm
    refine WL.sreg (by simp [eb, hm]; rfl) (by simp; rfl) ?_
    refine WL.seq (WL.sreg (by simp; rfl) (by simp; rfl) ?_)
    refine WL.block (WL.count m (fun j => [(500, 0, i64 i), (600, 0, .bptr 6 1 0), (601, 0, sB false (pu i j).There), (602, 0, sUU false (pu i j).Body), (603, 0, sII false (pu i j).Handles), (699, 1, .non), (1100, 0, .bptr 11 1 0), (1101, 0, i64 rx.Code), (1102, 0, i64 rx.Page), (1103, 0, i64 rx.Handle), (1104, 0, sU false rx.Data), (1199, 1, .non), (1200, 0, i64 m), (1300, 0, i64 j)]) (fun _ => True) rfl trivial fun j hj _ => ?_)
    by_cases h' : j < m
    · refine WL.seq (WL.sreg (by simp [h']; rfl) (by simp; rfl) ?_)
      refine WL.cond (t := true) (by simp) (fun _ => WL.skip ?_) (by simp)
      refine WL.seq ?_
      refine WL.block (WL.sregC ?_)
      have hw : (j : Int).tmod 2 = ((j % 2 : Nat) : Int) := rfl
      have hq : IntKind.wrap .i64 ((j : Int) / 2) = (j : Int) / 2 := wrap_small (by omega) (by omega)
      have hws : IntKind.wrap .i64 ((j : Int) + 1) = (j : Int) + 1 := wrap_small (by omega) (by omega)
      refine RL.o (by simp; rfl) (RL.nilA 82 5 1 (by simp; rfl) rfl rfl (RL.doC (pu i j) (pu_sized i j) (j % 2 : Nat) ⟨5, 0, (j / 2 : Nat), 0, 0, []⟩ (by simp [hw, hq]) ?_))
      have g1 := f2 j (by omega)
      simp only [puOk, Bool.and_eq_true, beq_iff_eq] at g1
      have hn : pu i (j + 1) = (DoB (pu i j) (j % 2 : Nat) ⟨5, 0, (j / 2 : Nat), 0, 0, []⟩).2.1 := rfl
      generalize DoB (pu i j) (j % 2 : Nat) ⟨5, 0, (j / 2 : Nat), 0, 0, []⟩ = dd at g1 hn ⊢
      obtain ⟨o2, s2, r⟩ := dd
      simp only at g1 hn ⊢
      refine RL.o (by simp; rfl) (RL.nil ⟨_, by simp; rfl, ?_⟩)
      refine WL.seq (WL.sreg (by simp [g1]; rfl) (by simp; rfl) ?_)
      refine WL.cond (t := false) (by simp) (by simp) fun _ => WL.skip ?_
      refine WL.reg (RL.run (by simp; rfl) ⟨_, by simp; rfl, ?_⟩)
      refine WL.reg (RL.run (by simp; rfl) ⟨_, by simp; rfl, h', ?_, trivial⟩)
      rw [hn]
      simp [hws]
    · refine WL.seq (WL.sreg (by simp [h']; rfl) (by simp; rfl) ?_)
      refine WL.cond (t := false) (by simp) (by simp) fun _ => WL.exit ?_
      obtain rfl : j = m := by omega
      have g3 := f3 j (by omega)
      simp only [pdOk, Bool.and_eq_true, beq_iff_eq] at g3
      obtain ⟨g3, g4⟩ := g3
      refine WL.sregC (RL.o (by simp; rfl) (RL.nilA 92 5 1 (by simp; rfl) rfl rfl (RL.doC (pu i j) (pu_sized i j) 1 ⟨8, 0, 0, 0, 0, []⟩ (by simp) ?_)))
      generalize DoB (pu i j) 1 ⟨8, 0, 0, 0, 0, []⟩ = dd at g4 ⊢
      obtain ⟨o2, s2, r⟩ := dd
      simp only at g4 ⊢
      refine RL.o (by simp; rfl) (RL.nil ⟨_, by simp; rfl, ?_⟩)
      refine WL.sregC (RL.call0 false told_fn (by simp) (by simp) ?_)
      have hb1 : (rx.Code == 4) = decide ((10 : Int) < i) := by
        have : (rx.Code == 4) = decide (10 < i) := by simpa using f1
        rw [this]; exact decide_eq_decide.2 (by omega)
      have hp := pins_fn (pu i j) (pu_sized i j) 0
      rw [g3] at hp
      have hsub : ((i - j : Nat) : Int) = (i : Int) - j := by omega
      have hws : IntKind.wrap .i64 ((i : Int) - j) = (i : Int) - j := wrap_small (by omega) (by omega)
      rw [hsub] at hp
      refine RL.o (by simp; rfl) (RL.g (by simp [hb1]; rfl) (RL.o (by simp; rfl) ?_))
      refine RL.g (by simp; rfl) (RL.callY0 false (by simp) hp (by simp) (by simp) (RL.g (by simp [hws]; rfl) (RL.o (by simp; rfl) ?_)))
      have hb2 : (r.Code == 0) = ((i : Int) == (j : Int)) := by
        rw [g4]
        by_cases e : i = j
        · simp [e]
        · simp [e]; omega
      refine RL.g (by simp [hb2]; rfl) (RL.o (by simp; rfl) ?_)
      have hb3 : i ≠ j → (r.Code == 7) = true := by
        intro e; rw [g4]; simp [e]
      by_cases e : i = j
      · refine RL.g (by simp [hb2, e]; rfl) (RL.g (by simp [hb2, e]; rfl) (RL.g (by simp [hb2, e]; rfl) (RL.o (by simp; rfl) (RL.nil ⟨_, by simp; rfl, ?_⟩))))
        refine WL.ret ⟨.inr rfl, ?_⟩
        simp [fi11]
      · have e' : ((i : Int) == (j : Int)) = false := by simp; omega
        refine RL.g (by simp [hb2, e']; rfl) (RL.g (by simp [hb3 e]; rfl) (RL.g (by simp; rfl) (RL.o (by simp; rfl) (RL.nil ⟨_, by simp; rfl, ?_⟩))))
        refine WL.ret ⟨.inr rfl, ?_⟩
        simp [fi11]
end Go.OT
set_option linter.unusedSimpArgs false
set_option linter.unusedVariables false
namespace Go.OT
open Go.Proofs

/-! ModelReads -/
def z16 : List UInt8 := List.replicate 16 0
/-- Page 0 has the body w; two clients have c1, c2 at their first handle. -/
def sw (w : List UInt8) (c1 c2 : Int) : St := ⟨[true, false, false], [w, z16, z16], [[c1, -1, -1, -1, -1, -1], [c2, -1, -1, -1, -1, -1]]⟩
theorem sw_ok {w : List UInt8} (hw : w.length = 16) {c1 c2 : Int} (h1 : c1 = 0 ∨ c1 = -1) (h2 : c2 = 0 ∨ c2 = -1) : OkSt (sw w c1 c2) := by
  refine ⟨by simp [sw], by simp [sw], by simp [sw], by simp [sw], by simp [sw], fun b hb => ?_, fun i hi hf => ?_, fun l hl => ?_, fun l hl p hp => ?_⟩
  · simp [sw] at hb; rcases hb with rfl | rfl
    · exact hw
    · simp [z16]
  · match i, hi with
    | 0, _ => simp [sw] at hf
    | 1, _ => simp [sw, z16]
    | 2, _ => simp [sw, z16]
    | i + 3, hi => simp [sw] at hi; omega
  · simp [sw] at hl; rcases hl with rfl | rfl <;> rfl
  · have h0 : there (sw w c1 c2) 0 = true := by simp [there, sw]
    simp [sw] at hl
    rcases hl with rfl | rfl
    · simp at hp
      rcases hp with rfl | rfl
      · exact h1.elim (fun e => .inr (by rw [e]; exact h0)) .inl
      · exact .inl rfl
    · simp at hp
      rcases hp with rfl | rfl
      · exact h2.elim (fun e => .inr (by rw [e]; exact h0)) .inl
      · exact .inl rfl
theorem sw_no {w : List UInt8} (hw : w.length = 16) {c1 c2 : Int} (h1 : c1 = 0 ∨ c1 = -1) (h2 : c2 = 0 ∨ c2 = -1) (c : Nat) (hc : c < 2) : noCall (sw w c1 c2) c = false := by
  have := (May_iff _).2 (sw_ok hw h1 h2)
  simp only [noCall, this, Bool.not_true, Bool.false_or, Bool.or_eq_false_iff, decide_eq_false_iff_not]
  refine ⟨by omega, ?_⟩
  show ¬ ((2 : Nat) : Int) ≤ (c : Int)
  omega

theorem rd_s1 : DoB (newSt 3 2) 0 ⟨1, 0, 0, 0, 0, []⟩ = (true, sw z16 0 (-1), ⟨0, 0, 0, []⟩) := by kernel_rfl
theorem rd_s2 : DoB (sw z16 0 (-1)) 1 ⟨2, 0, 0, 0, 0, []⟩ = (true, sw z16 0 0, ⟨0, 0, 0, []⟩) := by kernel_rfl
theorem rd_s3 (k : Nat) (b : List UInt8) (h : k + b.length ≤ 16) : DoB (sw z16 0 0) 0 ⟨4, 0, 0, k, 0, b⟩ = (true, sw (over z16 k b) 0 0, ⟨0, 0, 0, []⟩) := by
  have hn : noCall (sw z16 0 0) 0 = false := by kernel_rfl
  have hr : badRg ⟨4, 0, 0, (k : Int), 0, b⟩ (b.length : Int) = false := by
    simp [badRg]; omega
  simp only [DoB, hn, Bool.false_eq_true, if_false]
  simp [codeOf, sw, badHd, hr, Step]
theorem rd_r (w : List UInt8) (hw : w.length = 16) (f c : Nat) (h : f + c ≤ 16) : DoB (sw w 0 0) 1 ⟨3, 0, 0, f, c, []⟩ = (true, sw w 0 0, ⟨0, 0, 0, (w.drop f).take c⟩) := by
  have hn := sw_no hw (.inl rfl) (.inl rfl) 1 (by decide)
  have hr : badRg ⟨3, 0, 0, (f : Int), (c : Int), []⟩ (c : Int) = false := by
    simp [badRg]; omega
  rw [show ((1 : Nat) : Int) = 1 from rfl] at hn
  simp only [DoB, hn, Bool.false_eq_true, if_false]
  simp [codeOf, sw, badHd, hr, Step]
theorem rd_s4 (w : List UInt8) (hw : w.length = 16) : DoB (sw w 0 0) 0 ⟨5, 0, 0, 0, 0, []⟩ = (true, sw w (-1) 0, ⟨0, 0, 0, []⟩) := by
  have hn := sw_no hw (.inl rfl) (.inl rfl) 0 (by decide)
  rw [show ((0 : Nat) : Int) = 0 from rfl] at hn
  simp only [DoB, hn, Bool.false_eq_true, if_false]
  simp [codeOf, sw, badHd, badRg, Step]
theorem rd_s5 (w : List UInt8) (hw : w.length = 16) : DoB (sw w (-1) 0) 1 ⟨5, 0, 0, 0, 0, []⟩ = (true, sw w (-1) (-1), ⟨0, 0, 0, []⟩) := by
  have hn := sw_no hw (.inr rfl) (.inl rfl) 1 (by decide)
  rw [show ((1 : Nat) : Int) = 1 from rfl] at hn
  simp only [DoB, hn, Bool.false_eq_true, if_false]
  simp [codeOf, sw, badHd, badRg, Step]
theorem rd_s6 (w : List UInt8) (hw : w.length = 16) : DoB (sw w (-1) (-1)) 0 ⟨8, 0, 0, 0, 0, []⟩ = (true, newSt 3 2, ⟨0, 0, 0, []⟩) := by
  have hn := sw_no hw (.inr rfl) (.inr rfl) 0 (by decide)
  rw [show ((0 : Nat) : Int) = 0 from rfl] at hn
  have e : newSt 3 2 = ⟨[false, false, false], [z16, z16, z16], [[-1, -1, -1, -1, -1, -1], [-1, -1, -1, -1, -1, -1]]⟩ := by kernel_rfl
  simp only [DoB, hn, Bool.false_eq_true, if_false]
  have hz : List.replicate 16 (0 : UInt8) = z16 := rfl
  simp only [codeOf, isPage, there, Pins, pinsL, cnt, sw, Step, e, hz]
  simp
theorem rd_z : DoB (sw z16 0 (-1)) 0 ⟨3, 0, 0, 0, 16, []⟩ = (true, sw z16 0 (-1), ⟨0, 0, 0, z16⟩) := by kernel_rfl
end Go.OT
set_option linter.unusedSimpArgs false
set_option linter.unusedVariables false
namespace Go.OT
open Go.Proofs

theorem u8L_td (w : List UInt8) (f c : Nat) : u8L (List.take c (List.drop f (w.map fun b => u8 (b.toNat : Int)))) = some (List.take c (List.drop f (w.map fun b => (b.toNat : Int)))) := by
  rw [← List.map_drop, ← List.map_take, u8L_bytes, List.map_take, List.map_drop]

set_option maxHeartbeats 4000000 in
set_option maxRecDepth 10000 in
theorem reads_law (off : Int) (b : List UInt8) (at' n : Int) (hbl : b.length ≤ 9223372036854775807) : FnC Try.prog 8 [] [i64 off, sU false b, i64 at', i64 n] [] (bl true) := by
  refine FnC.go ok8 rfl ?_
  refine WL.sreg (by simp; rfl) (by simp; rfl) ?_
  refine WL.seq (WL.sreg (by simp; rfl) (by simp; rfl) ?_)
  by_cases hb : 16 < b.length
  · have hb' : (16 : Int) < b.length := by omega
    refine WL.cond (t := true) (by simp [hb']) (fun _ => ?_) (by simp)
    refine WL.sregC (RL.call0 false told_fn (by simp) (by simp) (RL.o (by simp; rfl) (RL.nil ⟨_, by simp; rfl, ?_⟩)))
    refine WL.ret ⟨.inr rfl, ?_⟩
    simp [fi8]
  have hb' : ¬ (16 : Int) < b.length := by omega
  refine WL.cond (t := false) (by simp [hb']) (by simp) fun _ => WL.skip ?_
  obtain ⟨k, hk, ek⟩ := umod off (17 - b.length) (by omega) (by omega)
  obtain ⟨f, hf, ef⟩ := umod at' 17 (by omega) (by omega)
  obtain ⟨c, hc, ec⟩ := umod n (17 - f) (by omega) (by omega)
  rw [show ((17 : Nat) : Int) = 17 from rfl] at ef
  have m1 : IntKind.wrap .i64 (16 - (b.length : Int)) = 16 - (b.length : Int) := wrap_small (by omega) (by omega)
  have m2 : IntKind.wrap .i64 (16 - (b.length : Int) + 1) = ((17 - b.length : Nat) : Int) := by rw [wrap_small (by omega) (by omega)]; omega
  have m3 : IntKind.wrap .u64 ((17 - b.length : Nat) : Int) = ((17 - b.length : Nat) : Int) := IntWalk.u64_in _ ⟨by omega, by omega⟩
  have m4 : ((17 - b.length : Nat) : Int) ≠ 0 := by omega
  have p1 : IntKind.wrap .i64 (16 - (f : Int)) = 16 - (f : Int) := wrap_small (by omega) (by omega)
  have p2 : IntKind.wrap .i64 (16 - (f : Int) + 1) = ((17 - f : Nat) : Int) := by rw [wrap_small (by omega) (by omega)]; omega
  have p3 : IntKind.wrap .u64 ((17 - f : Nat) : Int) = ((17 - f : Nat) : Int) := IntWalk.u64_in _ ⟨by omega, by omega⟩
  have p4 : ((17 - f : Nat) : Int) ≠ 0 := by omega
  generalize ((17 - b.length : Nat) : Int) = M at ek m2 m3 m4
  generalize ((17 - f : Nat) : Int) = N at ec p2 p3 p4
  generalize hw : over z16 k b = w
  have hwl : w.length = 16 := by rw [← hw, over_length (by simp [z16]; omega)]; simp [z16]
  refine WL.sregC (RL.newC 3 2 (by simp) (RL.o (by simp; rfl) (RL.nil ⟨_, by simp; rfl, ?_⟩)))
  refine WL.sregC (RL.o (by simp; rfl) (RL.nilA 28 5 1 (by simp; rfl) rfl rfl (RL.doC (newSt 3 2) (newSt_sized 3 2) 0 ⟨1, 0, 0, 0, 0, []⟩ (by simp) ?_)))
  rw [rd_s1]
  refine RL.o (by simp; rfl) (RL.nil ⟨_, by simp; rfl, ?_⟩)
  have z1 := (sw_ok (w := z16) (by rfl) (.inl rfl : (0 : Int) = 0 ∨ (0 : Int) = -1) (.inr rfl : (-1 : Int) = 0 ∨ (-1 : Int) = -1)).sized
  refine WL.sregC (RL.o (by simp; rfl) (RL.nilA 34 5 1 (by simp; rfl) rfl rfl (RL.doC (sw z16 0 (-1)) z1 1 ⟨2, 0, 0, 0, 0, []⟩ (by simp) ?_)))
  rw [rd_s2]
  refine RL.o (by simp; rfl) (RL.nil ⟨_, by simp; rfl, ?_⟩)
  refine WL.sreg (by simp [m1, m2, m3, m4, ek]; rfl) (by simp; rfl) ?_
  have z2 := (sw_ok (w := z16) (by rfl) (.inl rfl : (0 : Int) = 0 ∨ (0 : Int) = -1) (.inl rfl : (0 : Int) = 0 ∨ (0 : Int) = -1)).sized
  refine WL.sregC (RL.o (by simp; rfl) (RL.doC (sw z16 0 0) z2 0 ⟨4, 0, 0, k, 0, b⟩ (by simp [ek]) ?_))
  rw [rd_s3 k b (by omega), hw]
  refine RL.o (by simp; rfl) (RL.nil ⟨_, by simp; rfl, ?_⟩)
  refine WL.sreg (by simp [ef]; rfl) (by simp; rfl) ?_
  refine WL.sreg (by simp [ef, p1, p2, p3, p4, ec]; rfl) (by simp; rfl) ?_
  have z3 := (sw_ok hwl (.inl rfl : (0 : Int) = 0 ∨ (0 : Int) = -1) (.inl rfl : (0 : Int) = 0 ∨ (0 : Int) = -1)).sized
  refine WL.sregC (RL.o (by simp; rfl) (RL.nilA 71 5 1 (by simp; rfl) rfl rfl (RL.doC (sw w 0 0) z3 1 ⟨3, 0, 0, f, c, []⟩ (by simp [ef, ec]) ?_)))
  rw [rd_r w hwl f c (by omega)]
  refine RL.o (by simp; rfl) (RL.nil ⟨_, by simp; rfl, ?_⟩)
  have hrep : repL [.sc (.int .u8 0)] 16 = z16.map (fun b => u8 (b.toNat : Int)) := rfl
  have htk : List.take 16 (z16.map (fun b => u8 (b.toNat : Int))) = z16.map (fun b => u8 (b.toNat : Int)) := rfl
  have hzl : z16.length = 16 := rfl
  refine WL.sreg (by simp [hrep, htk]; rfl) (by simp; rfl) ?_
  have f4 : min b.length (16 - k) = b.length := by omega
  have hk16 : k ≤ 16 := by omega
  have hkb : k + b.length ≤ 16 := by omega
  refine WL.sreg (by simp [-isSc, isScU', isSc8, ek, f4, hk16, hkb, htk, hzl]; rfl) (by simp; rfl) ?_
  rw [← sU_over (b := z16) (o := k) (d := b) rfl hkb, hw]
  refine WL.sregC (RL.o (by simp; rfl) (RL.nilA 83 5 1 (by simp; rfl) rfl rfl (RL.doC (sw w 0 0) z3 0 ⟨5, 0, 0, 0, 0, []⟩ (by simp) ?_)))
  rw [rd_s4 w hwl]
  refine RL.o (by simp; rfl) (RL.nil ⟨_, by simp; rfl, ?_⟩)
  have z4 := (sw_ok hwl (.inr rfl : (-1 : Int) = 0 ∨ (-1 : Int) = -1) (.inl rfl : (0 : Int) = 0 ∨ (0 : Int) = -1)).sized
  refine WL.sregC (RL.o (by simp; rfl) (RL.nilA 89 5 1 (by simp; rfl) rfl rfl (RL.doC (sw w (-1) 0) z4 1 ⟨5, 0, 0, 0, 0, []⟩ (by simp) ?_)))
  rw [rd_s5 w hwl]
  refine RL.o (by simp; rfl) (RL.nil ⟨_, by simp; rfl, ?_⟩)
  have z5 := (sw_ok hwl (.inr rfl : (-1 : Int) = 0 ∨ (-1 : Int) = -1) (.inr rfl : (-1 : Int) = 0 ∨ (-1 : Int) = -1)).sized
  refine WL.sregC (RL.o (by simp; rfl) (RL.nilA 95 5 1 (by simp; rfl) rfl rfl (RL.doC (sw w (-1) (-1)) z5 0 ⟨8, 0, 0, 0, 0, []⟩ (by simp) ?_)))
  rw [rd_s6 w hwl]
  refine RL.o (by simp; rfl) (RL.nil ⟨_, by simp; rfl, ?_⟩)
  refine WL.sregC (RL.o (by simp; rfl) (RL.nilA 101 5 1 (by simp; rfl) rfl rfl (RL.doC (newSt 3 2) (newSt_sized 3 2) 0 ⟨1, 0, 0, 0, 0, []⟩ (by simp) ?_)))
  rw [rd_s1]
  refine RL.o (by simp; rfl) (RL.nil ⟨_, by simp; rfl, ?_⟩)
  refine WL.sregC (RL.o (by simp; rfl) (RL.nilA 107 5 1 (by simp; rfl) rfl rfl (RL.doC (sw z16 0 (-1)) z1 0 ⟨3, 0, 0, 0, 16, []⟩ (by simp) ?_)))
  rw [rd_z]
  refine RL.o (by simp; rfl) (RL.nil ⟨_, by simp; rfl, ?_⟩)
  refine WL.seq (WL.draw mixed (by simp [cleanL, noH]) (DL.call0 false told_fn (by simp) (by simp) ?_))
  refine DL.o (by simp; exact ⟨rfl, rfl⟩) (DL.g (by simp; exact ⟨rfl, rfl⟩) (DL.o (by simp; exact ⟨rfl, rfl⟩) (DL.g (by simp; exact ⟨rfl, rfl⟩) (DL.o (by simp; exact ⟨rfl, rfl⟩) ?_))))
  have hfc : IntKind.wrap .i64 ((f : Int) + (c : Int)) = (f : Int) + (c : Int) := wrap_small (by omega) (by omega)
  have hfc2 : ((f : Int) + (c : Int)).toNat = f + c := by omega
  have hfc3 : (0 : Int) ≤ (f : Int) + (c : Int) := by omega
  have hfc4 : f + c ≤ 16 := by omega
  refine DL.g (by simp [hfc, hfc2, hfc3, hfc4, hwl, u8L_td]; exact ⟨rfl, rfl⟩) ?_
  refine DL.o (by simp; exact ⟨rfl, rfl⟩) (DL.g (by simp; exact ⟨rfl, rfl⟩) (DL.o (by simp; exact ⟨rfl, rfl⟩) (DL.g (by simp; exact ⟨rfl, rfl⟩) (DL.o (by simp; exact ⟨rfl, rfl⟩) (DL.g (by simp; exact ⟨rfl, rfl⟩) (DL.o (by simp; exact ⟨rfl, rfl⟩) ?_))))))
  refine DL.g (by simp [hrep, htk, hzl]; exact ⟨rfl, rfl⟩) (DL.o (by simp; exact ⟨rfl, rfl⟩) (DL.nil ⟨by kernel_rfl, _, by simp; rfl, ?_⟩))
  refine WL.ret ⟨.inr rfl, ?_⟩
  simp [fi8]
end Go.OT
set_option linter.unusedSimpArgs false
set_option linter.unusedVariables false
namespace Go.OT
open Go.Proofs

/-! The document's answer: its states have texts for bodies. -/
abbrev str (w : List UInt8) : AU := .sc (.string (strOf w))
abbrev sS (o : Bool) (l : List (List UInt8)) : AU := .sl o () 1 l.length (l.map str)
abbrev cellsT (o : Bool) (s : St) : List AU := [sB o s.There, sS o s.Body, sII o s.Handles]
abbrev encT (o : Bool) (s : St) : AU := .agg (cellsT o s)

theorem rep16 : repL [.sc (.int .u8 0)] 16 = z16.map (fun b => u8 (b.toNat : Int)) := rfl
theorem tak16 : List.take 16 (z16.map (fun b => u8 (b.toNat : Int))) = z16.map (fun b => u8 (b.toNat : Int)) := rfl
theorem len16 : z16.length = 16 := rfl

theorem zeros_fn : FnC Try.prog 37 [] [] [] (str z16) := by
  refine FnC.go ok37 rfl ?_
  refine WL.sreg (by simp; rfl) (by simp; rfl) ?_
  refine WL.sreg (by simp [rep16, tak16, len16]; rfl) (by simp; rfl) ?_
  refine WL.ret ⟨.inr rfl, ?_⟩
  simp [fi37]

theorem fail_fn (n : Int) : FnC Try.prog 47 [] [i64 n] [] (encR true (rsE n)) := by
  refine FnC.go ok47 rfl ?_
  refine WL.sreg (by simp; rfl) (by simp; rfl) ?_
  refine WL.sreg (by simp; rfl) (by simp; rfl) ?_
  refine WL.nil1 204 true 1 (by simp) (WL.ret ⟨.inr rfl, ?_⟩)
  simp [fi47, rsE]

theorem strOf_inj {a b : List UInt8} : ((strOf a).toList == (strOf b).toList) = (a == b) := by rw [strOf_toList, strOf_toList]

set_option maxHeartbeats 1000000 in
theorem refres_fn (a b : Rs) : FnC Try.prog 27 [] [encR false a, encR false b] [] (bl (SameRes a b)) := by
  refine FnC.go ok27 rfl ?_
  refine WL.sreg (by simp; rfl) (by simp; rfl) ?_
  cases h1 : (a.Code == b.Code) with
  | false =>
    refine WL.sreg (by simp [h1]; rfl) (by simp; rfl) ?_
    refine WL.ret ⟨.inr rfl, ?_⟩
    simp [fi27, SameRes, h1]
  | true =>
  cases h2 : (a.Page == b.Page) with
  | false =>
    refine WL.sreg (by simp [h1, h2]; rfl) (by simp; rfl) ?_
    refine WL.ret ⟨.inr rfl, ?_⟩
    simp [fi27, SameRes, h1, h2]
  | true =>
  cases h3 : (a.Handle == b.Handle) with
  | false =>
    refine WL.sreg (by simp [h1, h2, h3]; rfl) (by simp; rfl) ?_
    refine WL.ret ⟨.inr rfl, ?_⟩
    simp [fi27, SameRes, h1, h2, h3]
  | true =>
    refine WL.sreg (by simp [h1, h2, h3, strOf_inj]; rfl) (by simp; rfl) ?_
    refine WL.ret ⟨.inr rfl, ?_⟩
    simp [fi27, SameRes, h1, h2, h3]

/-- Is a handle free? -/
def freeH (l : List Int) : Bool := l.any fun p => decide (p < 0)

set_option maxHeartbeats 1000000 in
theorem room_fn (s : St) (c : Nat) (hc : c < s.Handles.length) (hs : Small s.Handles[c].length) : FnC Try.prog 49 [] [encT false s, i64 c] [] (bl (freeH s.Handles[c])) := by
  refine FnC.go ok49 rfl ?_
  refine WL.sreg (by simp; rfl) (by simp; rfl) ?_
  refine WL.seq (WL.sreg (by simp; rfl) (by simp; rfl) ?_)
  refine WL.block (WL.count s.Handles[c].length (fun i => [(100, 0, i64 c), (200, 0, .bptr 2 1 0), (201, 0, sB false s.There), (202, 0, sS false s.Body), (203, 0, sII false s.Handles), (299, 1, .non), (500, 0, i64 i)]) (fun i => ∀ j (hj : j < s.Handles[c].length), j < i → 0 ≤ s.Handles[c][j]) rfl (fun j _ h => absurd h (Nat.not_lt_zero _)) fun i hi hp => ?_)
  by_cases h : i < s.Handles[c].length
  · refine WL.seq (WL.sreg (by simp [hc, h]; rfl) (by simp; rfl) ?_)
    refine WL.cond (t := true) (by simp) (fun _ => WL.skip ?_) (by simp)
    refine WL.seq (WL.block (WL.sreg (by simp [hc, h]; rfl) (by simp; rfl) ?_))
    by_cases hf : s.Handles[c][i] < 0
    · refine WL.cond (t := true) (by simp [hf]) (fun _ => ?_) (by simp)
      refine WL.sreg (by simp; rfl) (by simp; rfl) ?_
      refine WL.ret ⟨.inr rfl, ?_⟩
      have : freeH s.Handles[c] = true := List.any_eq_true.2 ⟨_, List.getElem_mem h, by simpa using hf⟩
      simp [fi49, this]
    · refine WL.cond (t := false) (by simp; omega) (by simp) fun _ => WL.skip ?_
      refine WL.reg (RL.run (by simp [wrap_succ hs h]; rfl) ⟨_, by simp; rfl, h, ?_, fun j hj hji => ?_⟩)
      · simp
      · by_cases e : j = i
        · subst e; omega
        · exact hp j hj (by omega)
  · refine WL.seq (WL.sreg (by simp [hc, h]; rfl) (by simp; rfl) ?_)
    refine WL.cond (t := false) (by simp) (by simp) fun _ => WL.exit ?_
    refine WL.sreg (by simp; rfl) (by simp; rfl) ?_
    refine WL.ret ⟨.inr rfl, ?_⟩
    have : freeH s.Handles[c] = false := by
      simp only [freeH, List.any_eq_false, decide_eq_true_eq, Int.not_lt]
      intro x hx
      obtain ⟨j, hj, rfl⟩ := List.mem_iff_getElem.1 hx
      exact hp j hj (by omega)
    simp [fi49, this]
end Go.OT
set_option linter.unusedSimpArgs false
set_option linter.unusedVariables false
namespace Go.OT
open Go.Proofs

/-- A client's call. -/
structure Cl where
  Client : Int
  op : Op
abbrev cellsCl (o : Bool) (c : Cl) : List AU := [i64 c.Client, i64 c.op.Kind, i64 c.op.Page, i64 c.op.Handle, i64 c.op.Off, i64 c.op.N, sU o c.op.Data]
abbrev encCl (o : Bool) (c : Cl) : AU := .agg (cellsCl o c)

/-- What is left, without a sign. -/
def um (x m : Int) : Nat := (IntKind.wrap .i64 ((IntKind.wrap .u64 x).tmod m)).toNat
theorem um_spec (x : Int) (m : Nat) (h0 : 0 < m) (h : m ≤ 1000000000) : um x m < m ∧ IntKind.wrap .i64 ((IntKind.wrap .u64 x).tmod (m : Int)) = (um x m : Int) := by
  obtain ⟨k, hk, e⟩ := umod x m h0 h
  have : um x m = k := by simp [um, e]
  rw [this]
  exact ⟨hk, e⟩

def nearC (c : Cl) (p k : Nat) : Cl := ⟨(um c.Client k : Int), ⟨1 + (um c.op.Kind 8 : Int), (um c.op.Page p : Int), (um c.op.Handle 3 : Int), (um c.op.Off 8 : Int), (um c.op.N 9 : Int), c.op.Data.take 8⟩⟩

set_option maxHeartbeats 4000000 in
theorem near_fn (c : Cl) (p k : Nat) (hp : 0 < p) (hp' : p ≤ 1000) (hk : 0 < k) (hk' : k ≤ 1000) (hd : c.op.Data.length ≤ 1000) : FnC Try.prog 33 [] [encCl false c, i64 p, i64 k] [] (encCl false (nearC c p k)) := by
  have u1 := um_spec c.op.Kind 8 (by decide) (by decide)
  have u2 := um_spec c.op.Page p hp (by omega)
  have u3 := um_spec c.op.Handle 3 (by decide) (by decide)
  have u4 := um_spec c.op.Off 8 (by decide) (by decide)
  have u5 := um_spec c.op.N 9 (by decide) (by decide)
  have u6 := um_spec c.Client k hk (by omega)
  rw [show ((8 : Nat) : Int) = 8 from rfl] at u1 u4
  rw [show ((3 : Nat) : Int) = 3 from rfl] at u3
  rw [show ((9 : Nat) : Int) = 9 from rfl] at u5
  have w1 : IntKind.wrap .i64 (1 + (um c.op.Kind 8 : Int)) = 1 + (um c.op.Kind 8 : Int) := wrap_small (by omega) (by omega)
  have wp : IntKind.wrap .u64 (p : Int) = (p : Int) := IntWalk.u64_in _ ⟨by omega, by omega⟩
  have wk : IntKind.wrap .u64 (k : Int) = (k : Int) := IntWalk.u64_in _ ⟨by omega, by omega⟩
  have p0 : p ≠ 0 := by omega
  have k0 : k ≠ 0 := by omega
  refine FnC.go ok33 rfl ?_
  refine WL.sreg (by simp; rfl) (by simp; rfl) ?_
  refine WL.sreg (by simp; rfl) (by simp; rfl) ?_
  refine WL.sreg (by simp [u1.2, w1]; rfl) (by simp; rfl) ?_
  refine WL.seq (WL.draw mixed (by simp [cleanL, noH]) (DL.o (by simp [u2.2, u3.2, wp, p0]; exact ⟨rfl, rfl⟩) (DL.nil ⟨by kernel_rfl, _, by simp; rfl, ?_⟩)))
  refine WL.sreg (by simp [u4.2, u5.2]; rfl) (by simp; rfl) ?_
  refine WL.seq (WL.sreg (by simp; rfl) (by simp; rfl) ?_)
  by_cases h8 : 8 < c.op.Data.length
  · have h8' : (8 : Int) < c.op.Data.length := by omega
    have h8n : 8 ≤ c.op.Data.length := by omega
    refine WL.cond (t := true) (by simp [h8']) (fun _ => ?_) (by simp)
    refine WL.reg (RL.run (by simp [h8n]; rfl) ⟨_, by simp; rfl, ?_⟩)
    refine WL.seq (WL.draw mixed (by simp [cleanL, noH]) (DL.o (by simp [u6.2, wk, k0]; exact ⟨rfl, rfl⟩) (DL.nil ⟨by kernel_rfl, _, by simp; rfl, ?_⟩)))
    refine WL.ret ⟨.inr rfl, ?_⟩
    have e8 : min 8 c.op.Data.length = 8 := by omega
    simp [fi33, nearC, e8]
  · have h8' : ¬ (8 : Int) < c.op.Data.length := by omega
    refine WL.cond (t := false) (by simp [h8']) (by simp) (fun _ => WL.skip ?_)
    refine WL.seq (WL.draw mixed (by simp [cleanL, noH]) (DL.o (by simp [u6.2, wk, k0]; exact ⟨rfl, rfl⟩) (DL.nil ⟨by kernel_rfl, _, by simp; rfl, ?_⟩)))
    refine WL.ret ⟨.inr rfl, ?_⟩
    have e8 : c.op.Data.take 8 = c.op.Data := List.take_of_length_le (by omega)
    simp [fi33, nearC, e8]
end Go.OT
set_option linter.unusedSimpArgs false
set_option linter.unusedVariables false
namespace Go.OT
open Go.Proofs

theorem ty3 : Ty Try.prog 3 Int (fun n => [i64 n]) (fun n => (Lit.int .i64 n).wf = true) := Ty.int Try.underlying3
theorem ty42 : Ty Try.prog 42 Op (fun q => [i64 q.Kind, i64 q.Page, i64 q.Handle, i64 q.Off, i64 q.N, sU false q.Data]) (fun q => q.Data.length ≤ 9223372036854775807) :=
  (Ty.struct Try.underlying42 (by kernel_rfl) (TyF.cons rfl (by kernel_rfl) ty3 (TyF.cons rfl (by kernel_rfl) ty3 (TyF.cons rfl (by kernel_rfl) ty3 (TyF.cons rfl (by kernel_rfl) ty3 (TyF.cons rfl (by kernel_rfl) ty3 (TyF.cons rfl (by kernel_rfl) ty30 (TyF.nil (off := 6))))))))).map
    (fun p => ⟨p.1, p.2.1, p.2.2.1, p.2.2.2.1, p.2.2.2.2.1, p.2.2.2.2.2.1⟩) (fun p => rfl) (fun p h => h.2.2.2.2.2.1)
theorem ty61 : Ty Try.prog 61 Cl (fun c => cellsCl false c) (fun c => c.op.Data.length ≤ 9223372036854775807) :=
  (Ty.struct Try.underlying61 (by kernel_rfl) (TyF.cons rfl (by kernel_rfl) ty3 (TyF.cons rfl (by kernel_rfl) ty42 (TyF.nil (off := 7))))).map
    (fun p => ⟨p.1, p.2.1⟩) (fun p => rfl) (fun p h => h.2.1)
theorem ta61 : TyA Try.prog 61 Cl (fun c => encCl false c) (fun c => c.op.Data.length ≤ 9223372036854775807) := TyA.struct Try.underlying61 ty61
theorem ta58 : TyA Try.prog 58 (List Cl) (fun l => .sl false () 7 l.length (l.flatMap (cellsCl false))) (fun l => l.length ≤ 9223372036854775807 ∧ ∀ c ∈ l, c.op.Data.length ≤ 9223372036854775807) :=
  TyA.slice Try.underlying58 (Ty.slice (s := 7) Try.underlying58 (by kernel_rfl) (by decide) (fun _ => rfl) ty61)
end Go.OT
set_option linter.unusedSimpArgs false
set_option linter.unusedVariables false
namespace Go.OT
open Go.Proofs

/-- The page of a client's handle; -1. -/
def heldF (s : St) (c h : Int) : Int := if c < 0 ∨ (s.Handles.length : Int) ≤ c ∨ h < 0 ∨ ((s.Handles.getD c.toNat []).length : Int) ≤ h then -1 else (s.Handles.getD c.toNat []).getD h.toNat 0

set_option maxHeartbeats 1000000 in
theorem held_fn (s : St) (c h : Int) : FnC Try.prog 48 [] [encT false s, i64 c, i64 h] [] (i64 (heldF s c h)) := by
  refine FnC.go ok48 rfl ?_
  refine WL.sreg (by simp; rfl) (by simp; rfl) ?_
  refine WL.seq ?_
  by_cases h1 : c < 0
  · refine WL.sreg (by simp [h1]; rfl) (by simp; rfl) ?_
    refine WL.cond (t := true) (by simp) (fun _ => WL.sreg (by simp; rfl) (by simp; rfl) (WL.ret ⟨.inr rfl, ?_⟩)) (by simp)
    simp [fi48, heldF, h1]
  obtain ⟨c, rfl⟩ := Int.eq_ofNat_of_zero_le (a := c) (by omega)
  by_cases h2 : (s.Handles.length : Int) ≤ c
  · have h2' : s.Handles.length ≤ c := by omega
    refine WL.sreg (by simp [h1, h2']; rfl) (by simp; rfl) ?_
    refine WL.cond (t := true) (by simp) (fun _ => WL.sreg (by simp; rfl) (by simp; rfl) (WL.ret ⟨.inr rfl, ?_⟩)) (by simp)
    simp [fi48, heldF, h2']
  have hc : c < s.Handles.length := by omega
  have hc' : ¬ s.Handles.length ≤ c := by omega
  by_cases h3 : h < 0
  · refine WL.sreg (by simp [h1, hc', hc, h3]; rfl) (by simp; rfl) ?_
    refine WL.cond (t := true) (by simp) (fun _ => WL.sreg (by simp; rfl) (by simp; rfl) (WL.ret ⟨.inr rfl, ?_⟩)) (by simp)
    simp [fi48, heldF, h3]
  obtain ⟨k, rfl⟩ := Int.eq_ofNat_of_zero_le (a := h) (by omega)
  by_cases h4 : s.Handles[c].length ≤ k
  · refine WL.sreg (by simp [h1, h3, hc', hc, h4]; rfl) (by simp; rfl) ?_
    refine WL.cond (t := true) (by simp) (fun _ => WL.sreg (by simp; rfl) (by simp; rfl) (WL.ret ⟨.inr rfl, ?_⟩)) (by simp)
    simp [fi48, heldF, hc, h4]
  · have hk : k < s.Handles[c].length := by omega
    refine WL.sreg (by simp [h1, h3, hc', hc, h4]; rfl) (by simp; rfl) ?_
    refine WL.cond (t := false) (by simp) (by simp) (fun _ => WL.skip ?_)
    refine WL.sreg (by simp [hc, hk]; rfl) (by simp; rfl) (WL.ret ⟨.inr rfl, ?_⟩)
    simp [fi48, heldF, hc, hc', h4, hk, h1, h3]

end Go.OT
set_option linter.unusedSimpArgs false
set_option linter.unusedVariables false
namespace Go.OT
open Go.Proofs

theorem strOf_size (l : List UInt8) : (strOf l).size = l.length := by simp [strOf, ByteArray.size]

def frS (s : St) (r : SL) : SL := [(100, 0, .bptr 1 1 0), (101, 0, sB false s.There), (102, 0, sUU false s.Body), (103, 0, sII false s.Handles), (199, 1, .non), (200, 0, .bptr 2 1 0), (201, 0, .sl true () 1 0 []), (202, 0, .sl true () 1 0 []), (203, 0, .sl true () 1 0 []), (299, 1, .non), (400, 0, .bptr 4 1 0)] ++ r
def frA (s : St) (i : Nat) : SL := frS s [(401, 0, sB true (s.There.take i)), (402, 0, sS true (s.Body.take i)), (403, 0, .sl true () 1 0 []), (499, 1, .non), (500, 0, i64 s.There.length), (600, 0, i64 i)]
def frB (s : St) (j : Nat) (r : SL) : SL := frS s ([(401, 0, sB true s.There), (402, 0, sS true s.Body), (403, 0, sII true (s.Handles.take j)), (499, 1, .non), (500, 0, i64 s.There.length), (800, 0, i64 j)] ++ r)

set_option maxHeartbeats 4000000 in
/-- The body of the first loop. -/
theorem from_a (s : St) (h : OkSt s) (i : Nat) (hi : i < s.There.length) (hb : i < s.Body.length) (Q : Ex → SL → Prop) (hq : WL Try.prog fi21.nt c21_5 (frA s i ++ [(700, 0, str s.Body[i]), (6600, 0, bl false)]) Q) :
    WL Try.prog fi21.nt c21_6 (frA s i ++ [(700, 0, str s.Body[i])]) Q := by
  have h16 := h.b16 _ (List.getElem_mem hb)
  cases ht : s.There[i] with
  | true =>
    refine WL.seq (WL.sregC ?_)
    refine RL.o (by simp [frA, frS, strOf_size, h16]; rfl) ?_
    refine RL.g (by simp [hi, ht]; rfl) ?_
    refine RL.g (by simp; rfl) ?_
    refine RL.callN (by simp) ?_
    refine RL.g (by simp; rfl) (RL.g (by simp; rfl) (RL.o (by simp; rfl) (RL.nil ⟨_, by simp; rfl, ?_⟩)))
    refine WL.cond (t := false) (by simp) (by simp) fun _ => WL.skip ?_
    simpa [frA, frS] using hq
  | false =>
    have hz : s.Body[i] = z16 := h.zero i hb (by simp [hi, ht])
    refine WL.seq (WL.sregC ?_)
    refine RL.o (by simp [frA, frS, strOf_size, h16]; rfl) ?_
    refine RL.g (by simp [hi, ht]; rfl) ?_
    refine RL.g (by simp; rfl) ?_
    refine RL.callY0 false (by simp) zeros_fn (by simp) (by simp) ?_
    refine RL.g (by simp [hz, strOf_toList]; rfl) (RL.g (by simp; rfl) (RL.o (by simp; rfl) (RL.nil ⟨_, by simp; rfl, ?_⟩)))
    refine WL.cond (t := false) (by simp) (by simp) fun _ => WL.skip ?_
    simpa [frA, frS, hz] using hq
end Go.OT
set_option linter.unusedSimpArgs false
set_option linter.unusedVariables false
namespace Go.OT
open Go.Proofs

set_option maxHeartbeats 4000000 in
theorem from_fn (s : St) (h : OkSt s) : FnC Try.prog 21 [] [encS false s] [] (.tuple [encT true s, bl true]) := by
  have hs := h.sized
  have n1 := h.n1
  have n2 := h.n2
  have hbn := h.bn
  have hh1 := h.h1
  have hh2 := h.h2
  have hS1 : Small s.There.length := by unfold Small; omega
  have hS2 : Small s.Handles.length := by unfold Small; omega
  refine FnC.go ok21 rfl ?_
  refine WL.sreg (by simp; rfl) (by simp; rfl) ?_
  refine WL.sreg (by simp; rfl) (by simp; rfl) ?_
  refine WL.sreg (by simp; rfl) (by simp; rfl) ?_
  have g1 : ¬ (s.There.length : Int) < 1 := by omega
  have g2 : ¬ (48 : Int) < (s.There.length : Int) := by omega
  have g3 : ((s.Body.length : Int) != (s.There.length : Int)) = false := by simp [hbn]
  have g4 : ¬ (s.Handles.length : Int) < 1 := by omega
  have g5 : ¬ (6 : Int) < (s.Handles.length : Int) := by omega
  refine WL.seq (WL.sreg (by simp [g1, g2, g3, g4, g5]; rfl) (by simp; rfl) ?_)
  refine WL.cond (t := false) (by simp) (by simp) fun _ => WL.skip ?_
  refine WL.seq (WL.sreg (by simp; rfl) (by simp; rfl) ?_)
  refine WL.block (WL.count s.There.length (fun i => frA s i) (fun _ => True) rfl trivial fun i hi _ => ?_)
  by_cases hlt : i < s.There.length
  · have hb : i < s.Body.length := by omega
    refine WL.seq (WL.sreg (by simp [frA, frS, hlt]; rfl) (by simp; rfl) ?_)
    refine WL.cond (t := true) (by simp) (fun _ => WL.skip ?_) (by simp)
    refine WL.seq (WL.block (WL.sreg (by simp [hb]; rfl) (by simp; rfl) ?_))
    have := from_a s h i hlt hb
    simp only [frA, frS, List.cons_append, List.nil_append] at this
    refine this _ ?_
    have hm1 : (i + 1) * 1 ≤ 140737488355328 := by omega
    have hm1' : i + 1 ≤ 140737488355328 := by omega
    have hm2 : i + 1 ≤ maxLen := by unfold maxLen; omega
    have hm3 : (i + 1) * 16 ≤ 140737488355328 := by omega
    have e1 : min i s.There.length = i := by omega
    have e2 : min i s.Body.length = i := by omega
    refine WL.draw mixed (by simp [cleanL, noH]) (DL.o (by simp [hlt, hm1, hm1', hm2, hm3, e1, e2]; exact ⟨rfl, rfl⟩) (DL.nil ⟨by kernel_rfl, _, by simp; rfl, ?_⟩))
    refine WL.reg (RL.run (by simp [wrap_succ hS1 hlt]; rfl) ⟨_, by simp; rfl, hlt, ?_, trivial⟩)
    have q1 := grow_take (f := bl) hlt
    have q2 := grow_take (f := str) hb
    simp [q1, q2, frA, frS, Nat.min_eq_left hlt, Nat.min_eq_left hb]
  · refine WL.seq (WL.sreg (by simp [frA, frS, hlt]; rfl) (by simp; rfl) ?_)
    refine WL.cond (t := false) (by simp) (by simp) fun _ => WL.exit ?_
    obtain rfl : i = s.There.length := by omega
    have e1 : List.take s.There.length s.Body = s.Body := List.take_of_length_le (by omega)
    refine WL.seq (WL.sreg (by simp; rfl) (by simp; rfl) ?_)
    refine WL.block (WL.count s.Handles.length (fun j => frB s j []) (fun _ => True) (by simp [frB, frS, hbn, e1]) trivial fun j hj _ => ?_)
    by_cases hlj : j < s.Handles.length
    · have hl6 := h.l6 _ (List.getElem_mem hlj)
      have hpj := h.hp _ (List.getElem_mem hlj)
      generalize hl : s.Handles[j] = l at hl6 hpj
      have hSl : Small l.length := by unfold Small; omega
      refine WL.seq (WL.sreg (by simp [frB, frS, hlj]; rfl) (by simp; rfl) ?_)
      refine WL.cond (t := true) (by simp) (fun _ => WL.skip ?_) (by simp)
      refine WL.seq (WL.block (WL.sreg (by simp [hlj, hl]; rfl) (by simp; rfl) ?_))
      refine WL.seq (WL.sreg (by simp [hl6]; rfl) (by simp; rfl) ?_)
      refine WL.cond (t := false) (by simp) (by simp) fun _ => WL.skip ?_
      refine WL.seq (WL.sreg (by simp; rfl) (by simp; rfl) ?_)
      refine WL.block (WL.count l.length (fun k => frB s j [(900, 0, sI false l), (1000, 0, i64 k)]) (fun _ => True) (by simp [frB, frS, hl6]) trivial fun k hk _ => ?_)
      by_cases hlk : k < l.length
      · refine WL.seq (WL.sreg (by simp [frB, frS, hlk]; rfl) (by simp; rfl) ?_)
        refine WL.cond (t := true) (by simp) (fun _ => WL.skip ?_) (by simp)
        refine WL.seq (WL.block (WL.seq ?_))
        rcases hpj _ (List.getElem_mem hlk) with e | e
        · refine WL.draw mixed (by simp [cleanL, noH]) ?_
          refine DL.o (by simp [hlk, e]; exact ⟨rfl, rfl⟩) ?_
          refine DL.g (by simp; exact ⟨rfl, rfl⟩) (DL.g (by simp; exact ⟨rfl, rfl⟩) (DL.g (by simp; exact ⟨rfl, rfl⟩) (DL.g (by simp; exact ⟨rfl, rfl⟩) (DL.g (by simp; exact ⟨rfl, rfl⟩) (DL.o (by simp; exact ⟨rfl, rfl⟩) (DL.nil ⟨by kernel_rfl, _, by simp; rfl, ?_⟩))))))
          refine WL.cond (t := false) (by simp) (by simp) fun _ => WL.skip ?_
          refine WL.reg (RL.run (by simp [wrap_succ hSl hlk]; rfl) ⟨_, by simp; rfl, hlk, ?_, trivial⟩)
          simp [frB, frS]
        · simp only [there, Bool.and_eq_true, decide_eq_true_eq] at e
          obtain ⟨m, hm⟩ := Int.eq_ofNat_of_zero_le e.1
          have hmt : m < s.There.length := by
            have := e.2
            rw [hm] at this
            by_cases h : m < s.There.length
            · exact h
            · simp [h] at this
          have hth : s.There[m] = true := by
            have := e.2
            rw [hm] at this
            simpa [hmt] using this
          have hne : ((m : Int) != -1) = true := by simp
          have hge : ¬ (s.There.length : Int) ≤ (m : Int) := by omega
          have hge' : ¬ s.There.length ≤ m := by omega
          have hm0 : ¬ (m : Int) < 0 := by omega
          refine WL.draw mixed (by simp [cleanL, noH]) ?_
          refine DL.o (by simp [hlk, hm, hne]; exact ⟨rfl, rfl⟩) ?_
          refine DL.g (by simp [hlk, hm, hm0]; exact ⟨rfl, rfl⟩) (DL.g (by simp [hlk, hm, hge, hge', hm0]; exact ⟨rfl, rfl⟩) (DL.g (by simp; exact ⟨rfl, rfl⟩) (DL.g (by simp [hlk, hm, hmt, hth]; exact ⟨rfl, rfl⟩) (DL.g (by simp; exact ⟨rfl, rfl⟩) (DL.o (by simp; exact ⟨rfl, rfl⟩) (DL.nil ⟨by kernel_rfl, _, by simp; rfl, ?_⟩))))))
          refine WL.cond (t := false) (by simp) (by simp) fun _ => WL.skip ?_
          refine WL.reg (RL.run (by simp [wrap_succ hSl hlk]; rfl) ⟨_, by simp; rfl, hlk, ?_, trivial⟩)
          simp [frB, frS]
      · refine WL.seq (WL.sreg (by first | (simp [frB, frS, hlk]; done) | (simp [frB, frS, hlk]; rfl)) (by simp; rfl) ?_)
        refine WL.cond (t := false) (by simp) (by simp) fun _ => WL.exit ?_
        have hm1 : (j + 1) * 24 ≤ 140737488355328 := by omega
        have hm2 : j + 1 ≤ maxLen := by unfold maxLen; omega
        have hm3 : 6 ≤ maxLen := by unfold maxLen; omega
        have e2 : min j s.Handles.length = j := by omega
        refine WL.draw mixed (by simp [cleanL, noH]) (DL.o (by simp [hl6, hm1, hm2, hm3, e2]; exact ⟨rfl, rfl⟩) (DL.nil ⟨by kernel_rfl, _, by simp; rfl, ?_⟩))
        refine WL.reg (RL.run (by simp [wrap_succ hS2 hlj]; rfl) ⟨_, by simp; rfl, hlj, ?_, trivial⟩)
        have q1 := grow_take (f := sI true) hlj
        have e3 : (sI true l : AU) = .sl true () 1 6 (l.map i64) := by
          show AV.sl true () 1 l.length (l.map i64) = _
          rw [hl6]
        have e4 : List.take 6 (l.map i64) = l.map i64 := List.take_of_length_le (by simp [hl6])
        rw [hl, e3, List.map_take] at q1
        simp [e4, q1, frB, frS, Nat.min_eq_left hlj]
    · refine WL.seq (WL.sreg (by simp [frB, frS, hlj]; rfl) (by simp; rfl) ?_)
      refine WL.cond (t := false) (by simp) (by simp) fun _ => WL.exit ?_
      obtain rfl : j = s.Handles.length := by omega
      refine WL.sreg (by simp; rfl) (by simp; rfl) ?_
      refine WL.ret ⟨.inr rfl, ?_⟩
      simp [fi21]
end Go.OT
set_option linter.unusedSimpArgs false
set_option linter.unusedVariables false
namespace Go.OT
open Go.Proofs

/-- What a state that may not be gives. -/
abbrev frN : AU := .tuple [encT true ⟨[], [], []⟩, bl false]
abbrev frQ : Ex → SL → Prop := fun e L => e = Ex.ret ∧ RetOk fi21.rs [] frN L

set_option maxHeartbeats 4000000 in
/-- The body of the first loop: what is fine goes on. -/
theorem raw_a (s : St) (i : Nat) (hi : i < s.There.length) (hb : i < s.Body.length) (h16 : s.Body[i].length = 16) (hz : s.There[i] = false → s.Body[i] = z16) (Q : Ex → SL → Prop) (hq : WL Try.prog fi21.nt c21_5 (frA s i ++ [(700, 0, str s.Body[i]), (6600, 0, bl false)]) Q) :
    WL Try.prog fi21.nt c21_6 (frA s i ++ [(700, 0, str s.Body[i])]) Q := by
  cases ht : s.There[i] with
  | true =>
    refine WL.seq (WL.sregC ?_)
    refine RL.o (by simp [frA, frS, strOf_size, h16]; rfl) ?_
    refine RL.g (by simp [hi, ht]; rfl) ?_
    refine RL.g (by simp; rfl) ?_
    refine RL.callN (by simp) ?_
    refine RL.g (by simp; rfl) (RL.g (by simp; rfl) (RL.o (by simp; rfl) (RL.nil ⟨_, by simp; rfl, ?_⟩)))
    refine WL.cond (t := false) (by simp) (by simp) fun _ => WL.skip ?_
    simpa [frA, frS] using hq
  | false =>
    have hz : s.Body[i] = z16 := hz ht
    refine WL.seq (WL.sregC ?_)
    refine RL.o (by simp [frA, frS, strOf_size, h16]; rfl) ?_
    refine RL.g (by simp [hi, ht]; rfl) ?_
    refine RL.g (by simp; rfl) ?_
    refine RL.callY0 false (by simp) zeros_fn (by simp) (by simp) ?_
    refine RL.g (by simp [hz, strOf_toList]; rfl) (RL.g (by simp; rfl) (RL.o (by simp; rfl) (RL.nil ⟨_, by simp; rfl, ?_⟩)))
    refine WL.cond (t := false) (by simp) (by simp) fun _ => WL.skip ?_
    simpa [frA, frS, hz] using hq

set_option maxHeartbeats 4000000 in
/-- What is not fine ends it. -/
theorem raw_aBad (s : St) (i : Nat) (hi : i < s.There.length) (hb : i < s.Body.length) (hbad : s.Body[i].length ≠ 16 ∨ (s.There[i] = false ∧ s.Body[i] ≠ z16)) :
    WL Try.prog fi21.nt c21_6 (frA s i ++ [(700, 0, str s.Body[i])]) frQ := by
  by_cases h16 : s.Body[i].length = 16
  · obtain ⟨ht, hz⟩ := hbad.resolve_left (fun h => h h16)
    have hz' : (s.Body[i] != z16) = true := by simpa using hz
    refine WL.seq (WL.sregC ?_)
    refine RL.o (by simp [frA, frS, strOf_size, h16]; rfl) ?_
    refine RL.g (by simp [hi, ht]; rfl) ?_
    refine RL.g (by simp; rfl) ?_
    refine RL.callY0 false (by simp) zeros_fn (by simp) (by simp) ?_
    refine RL.g (by simp [strOf_toList]; rfl) (RL.g (by simp; rfl) (RL.o (by simp; rfl) (RL.nil ⟨_, by simp; rfl, ?_⟩)))
    refine WL.cond (t := true) (by simp [hz, hz']) (fun _ => ?_) (by simp)
    refine WL.sreg (by simp; rfl) (by simp; rfl) (WL.nil1 201 true 1 (by simp) (WL.nil1 202 true 1 (by simp) (WL.nil1 203 true 1 (by simp) (WL.ret ⟨rfl, ?_⟩))))
    simp [fi21]
  · have h16' : ((s.Body[i].length : Int) != 16) = true := by simp; omega
    refine WL.seq (WL.sregC ?_)
    refine RL.o (by simp [frA, frS, strOf_size, h16']; rfl) ?_
    refine RL.g (by simp; rfl) ?_
    refine RL.g (by simp; rfl) ?_
    refine RL.callN (by simp) ?_
    refine RL.g (by simp; rfl) (RL.g (by simp; rfl) (RL.o (by simp; rfl) (RL.nil ⟨_, by simp; rfl, ?_⟩)))
    refine WL.cond (t := true) (by simp) (fun _ => ?_) (by simp)
    refine WL.sreg (by simp; rfl) (by simp; rfl) (WL.nil1 201 true 1 (by simp) (WL.nil1 202 true 1 (by simp) (WL.nil1 203 true 1 (by simp) (WL.ret ⟨rfl, ?_⟩))))
    simp [fi21]
end Go.OT
set_option linter.unusedSimpArgs false
set_option linter.unusedVariables false
namespace Go.OT
open Go.Proofs

def fineL (s : St) (l : List Int) : Prop := l.length = 6 ∧ ∀ p ∈ l, p = -1 ∨ there s p = true

set_option maxHeartbeats 8000000 in
/-- One client's handles: fine, or that is the end. -/
theorem raw_b (s : St) (hT : s.There.length ≤ 1000) (hH : s.Handles.length ≤ 1000) (j : Nat) (hlj : j < s.Handles.length) (Q : Ex → SL → Prop)
    (hret : ∀ L, ¬ fineL s s.Handles[j] → RetOk fi21.rs [] frN L → Q .ret L) (hq : fineL s s.Handles[j] → Q .nrm (frB s (j + 1) [])) :
    WL Try.prog fi21.nt c21_25 (frB s j [] ++ [(8800, 0, bl true)]) Q := by
  have hS2 : Small s.Handles.length := by unfold Small; omega
  generalize hl : s.Handles[j] = l at hret hq
  refine WL.seq (WL.block (WL.sreg (by simp [frB, frS, hlj, hl]; rfl) (by simp; rfl) ?_))
  by_cases hl6 : l.length = 6
  · have hSl : Small l.length := by unfold Small; omega
    refine WL.seq (WL.sreg (by simp [hl6]; rfl) (by simp; rfl) ?_)
    refine WL.cond (t := false) (by simp) (by simp) fun _ => WL.skip ?_
    refine WL.seq (WL.sreg (by simp; rfl) (by simp; rfl) ?_)
    refine WL.block (WL.count l.length (fun k => frB s j [(900, 0, sI false l), (1000, 0, i64 k)]) (fun k => ∀ i (hi : i < l.length), i < k → l[i] = -1 ∨ there s l[i] = true) (by simp [frB, frS, hl6]) (fun i _ h => absurd h (Nat.not_lt_zero _)) fun k hk hp => ?_)
    by_cases hlk : k < l.length
    · refine WL.seq (WL.sreg (by simp [frB, frS, hlk]; rfl) (by simp; rfl) ?_)
      refine WL.cond (t := true) (by simp) (fun _ => WL.skip ?_) (by simp)
      refine WL.seq (WL.block (WL.seq ?_))
      have hnext : (l[k] = -1 ∨ there s l[k] = true) → ∀ i (hi : i < l.length), i < k + 1 → l[i] = -1 ∨ there s l[i] = true := fun e i hi hik => by
        by_cases e2 : i = k
        · subst e2; exact e
        · exact hp i hi (by omega)
      by_cases e : l[k] = -1
      · refine WL.draw mixed (by simp [cleanL, noH]) ?_
        refine DL.o (by simp [hlk, e]; exact ⟨rfl, rfl⟩) ?_
        refine DL.g (by simp; exact ⟨rfl, rfl⟩) (DL.g (by simp; exact ⟨rfl, rfl⟩) (DL.g (by simp; exact ⟨rfl, rfl⟩) (DL.g (by simp; exact ⟨rfl, rfl⟩) (DL.g (by simp; exact ⟨rfl, rfl⟩) (DL.o (by simp; exact ⟨rfl, rfl⟩) (DL.nil ⟨by kernel_rfl, _, by simp; rfl, ?_⟩))))))
        refine WL.cond (t := false) (by simp) (by simp) fun _ => WL.skip ?_
        refine WL.reg (RL.run (by simp [wrap_succ hSl hlk]; rfl) ⟨_, by simp; rfl, hlk, ?_, hnext (.inl e)⟩)
        simp [frB, frS]
      · have hne : (l[k] != -1) = true := by simpa using e
        by_cases b1 : l[k] < 0
        · refine WL.draw mixed (by simp [cleanL, noH]) ?_
          refine DL.o (by simp [hlk, hne]; exact ⟨rfl, rfl⟩) ?_
          refine DL.g (by simp [hlk, b1]; exact ⟨rfl, rfl⟩) (DL.g (by simp; exact ⟨rfl, rfl⟩) (DL.g (by simp; exact ⟨rfl, rfl⟩) (DL.g (by simp; exact ⟨rfl, rfl⟩) (DL.g (by simp; exact ⟨rfl, rfl⟩) (DL.o (by simp; exact ⟨rfl, rfl⟩) (DL.nil ⟨by kernel_rfl, _, by simp; rfl, ?_⟩))))))
          refine WL.cond (t := true) (by simp) (fun _ => ?_) (by simp)
          refine WL.sreg (by simp; rfl) (by simp; rfl) (WL.nil1 201 true 1 (by simp) (WL.nil1 202 true 1 (by simp) (WL.nil1 203 true 1 (by simp) (WL.ret (hret _ (fun h => ?_) ?_)))))
          · rcases h.2 _ (List.getElem_mem hlk) with h | h
            · exact e h
            · simp only [there, Bool.and_eq_true, decide_eq_true_eq] at h; omega
          · simp [fi21]
        · obtain ⟨m, hm⟩ := Int.eq_ofNat_of_zero_le (a := l[k]) (by omega)
          have hm0 : ¬ (m : Int) < 0 := by omega
          have hne : ((m : Int) != -1) = true := by simp
          by_cases hge' : s.There.length ≤ m
          · have hge : (s.There.length : Int) ≤ (m : Int) := by omega
            refine WL.draw mixed (by simp [cleanL, noH]) ?_
            refine DL.o (by simp [hlk, hm, hne]; exact ⟨rfl, rfl⟩) ?_
            refine DL.g (by simp [hlk, hm, hm0]; exact ⟨rfl, rfl⟩) (DL.g (by simp [hlk, hm, hge, hge', hm0]; exact ⟨rfl, rfl⟩) (DL.g (by simp; exact ⟨rfl, rfl⟩) (DL.g (by simp; exact ⟨rfl, rfl⟩) (DL.g (by simp; exact ⟨rfl, rfl⟩) (DL.o (by simp; exact ⟨rfl, rfl⟩) (DL.nil ⟨by kernel_rfl, _, by simp; rfl, ?_⟩))))))
            refine WL.cond (t := true) (by simp) (fun _ => ?_) (by simp)
            refine WL.sreg (by simp; rfl) (by simp; rfl) (WL.nil1 201 true 1 (by simp) (WL.nil1 202 true 1 (by simp) (WL.nil1 203 true 1 (by simp) (WL.ret (hret _ (fun h => ?_) ?_)))))
            · rcases h.2 _ (List.getElem_mem hlk) with h | h
              · exact e h
              · rw [hm] at h; simp [there, hge'] at h
            · simp [fi21]
          · have hmt : m < s.There.length := by omega
            have hge : ¬ (s.There.length : Int) ≤ (m : Int) := by omega
            cases hth : s.There[m] with
            | true =>
              refine WL.draw mixed (by simp [cleanL, noH]) ?_
              refine DL.o (by simp [hlk, hm, hne]; exact ⟨rfl, rfl⟩) ?_
              refine DL.g (by simp [hlk, hm, hm0]; exact ⟨rfl, rfl⟩) (DL.g (by simp [hlk, hm, hge, hge', hm0]; exact ⟨rfl, rfl⟩) (DL.g (by simp; exact ⟨rfl, rfl⟩) (DL.g (by simp [hlk, hm, hmt, hth]; exact ⟨rfl, rfl⟩) (DL.g (by simp; exact ⟨rfl, rfl⟩) (DL.o (by simp; exact ⟨rfl, rfl⟩) (DL.nil ⟨by kernel_rfl, _, by simp; rfl, ?_⟩))))))
              refine WL.cond (t := false) (by simp) (by simp) fun _ => WL.skip ?_
              refine WL.reg (RL.run (by simp [wrap_succ hSl hlk]; rfl) ⟨_, by simp; rfl, hlk, ?_, hnext (.inr (by rw [hm]; simp [there, hmt, hth]))⟩)
              simp [frB, frS]
            | false =>
              refine WL.draw mixed (by simp [cleanL, noH]) ?_
              refine DL.o (by simp [hlk, hm, hne]; exact ⟨rfl, rfl⟩) ?_
              refine DL.g (by simp [hlk, hm, hm0]; exact ⟨rfl, rfl⟩) (DL.g (by simp [hlk, hm, hge, hge', hm0]; exact ⟨rfl, rfl⟩) (DL.g (by simp; exact ⟨rfl, rfl⟩) (DL.g (by simp [hlk, hm, hmt, hth]; exact ⟨rfl, rfl⟩) (DL.g (by simp; exact ⟨rfl, rfl⟩) (DL.o (by simp; exact ⟨rfl, rfl⟩) (DL.nil ⟨by kernel_rfl, _, by simp; rfl, ?_⟩))))))
              refine WL.cond (t := true) (by simp) (fun _ => ?_) (by simp)
              refine WL.sreg (by simp; rfl) (by simp; rfl) (WL.nil1 201 true 1 (by simp) (WL.nil1 202 true 1 (by simp) (WL.nil1 203 true 1 (by simp) (WL.ret (hret _ (fun h => ?_) ?_)))))
              · rcases h.2 _ (List.getElem_mem hlk) with h | h
                · exact e h
                · rw [hm] at h; simp [there, hmt, hth] at h
              · simp [fi21]
    · refine WL.seq (WL.sreg (by first | (simp [frB, frS, hlk]; done) | (simp [frB, frS, hlk]; rfl)) (by simp; rfl) ?_)
      refine WL.cond (t := false) (by simp) (by simp) fun _ => WL.exit ?_
      have hm1 : (j + 1) * 24 ≤ 140737488355328 := by omega
      have hm2 : j + 1 ≤ maxLen := by unfold maxLen; omega
      have hm3 : 6 ≤ maxLen := by unfold maxLen; omega
      have e2 : min j s.Handles.length = j := by omega
      refine WL.draw mixed (by simp [cleanL, noH]) (DL.o (by simp [hl6, hm1, hm2, hm3, e2]; exact ⟨rfl, rfl⟩) (DL.nil ⟨by kernel_rfl, _, by simp; rfl, ?_⟩))
      refine WL.reg (RL.run (by simp [wrap_succ hS2 hlj]; rfl) ⟨_, by simp; rfl, ?_⟩)
      have hfine : fineL s l := ⟨hl6, fun p hp' => by
        obtain ⟨i, hi, rfl⟩ := List.mem_iff_getElem.1 hp'
        exact hp i hi (by omega)⟩
      have q1 := grow_take (f := sI true) hlj
      have e3 : (sI true l : AU) = .sl true () 1 6 (l.map i64) := by
        show AV.sl true () 1 l.length (l.map i64) = _
        rw [hl6]
      have e4 : List.take 6 (l.map i64) = l.map i64 := List.take_of_length_le (by simp [hl6])
      rw [hl, e3, List.map_take] at q1
      have e5 : (sII true (s.Handles.take (j + 1)) : AU) = .sl true () 1 (j + 1) (List.take (j + 1) (s.Handles.map (sI true))) := by
        show AV.sl true () 1 _ _ = _
        rw [List.length_take, Nat.min_eq_left hlj, List.map_take]
      have := hq hfine
      simp only [frB, frS, List.cons_append, List.nil_append, List.append_nil] at this
      rw [e5] at this
      simpa [e4, q1, frB, frS, Nat.min_eq_left hlj] using this
  · have hne6 : ((l.length : Int) != 6) = true := by simp; omega
    refine WL.seq (WL.sreg (by simp [hne6]; rfl) (by simp; rfl) ?_)
    refine WL.cond (t := true) (by simp) (fun _ => ?_) (by simp)
    refine WL.sreg (by simp; rfl) (by simp; rfl) (WL.nil1 201 true 1 (by simp) (WL.nil1 202 true 1 (by simp) (WL.nil1 203 true 1 (by simp) (WL.ret (hret _ (fun h => hl6 h.1) ?_)))))
    simp [fi21]
end Go.OT
set_option linter.unusedSimpArgs false
set_option linter.unusedVariables false
namespace Go.OT
open Go.Proofs

def fineA (s : St) (i : Nat) : Prop := ∃ hi : i < s.Body.length, s.Body[i].length = 16 ∧ (s.There.getD i false = false → s.Body[i] = z16)

set_option maxHeartbeats 8000000 in
/-- A state that may not be: nothing. -/
theorem raw_fn (s : St) (hs : Sized s) (hm : ¬ OkSt s) : FnC Try.prog 21 [] [encS false s] [] frN := by
  have hT := hs.t
  have hB := hs.b
  have hH := hs.h
  have hS1 : Small s.There.length := by unfold Small; omega
  have hS2 : Small s.Handles.length := by unfold Small; omega
  refine FnC.go ok21 rfl ?_
  refine WL.mono (Q' := frQ) ?_ fun e L h => ⟨.inr h.1, h.2⟩
  refine WL.sreg (by simp; rfl) (by simp; rfl) ?_
  refine WL.sreg (by simp; rfl) (by simp; rfl) ?_
  refine WL.sreg (by simp; rfl) (by simp; rfl) ?_
  have bad : ∀ L1, (L1 : SL) = frS s [(401, 0, .sl true () 1 0 []), (402, 0, .sl true () 1 0 []), (403, 0, .sl true () 1 0 []), (499, 1, .non), (500, 0, i64 s.There.length), (3800, 0, bl true)] → WL Try.prog fi21.nt c21_0 L1 frQ := fun L1 e => by
    subst e
    refine WL.sreg (by simp [frS]; rfl) (by simp; rfl) (WL.ret ⟨rfl, ?_⟩)
    simp [fi21]
  by_cases g1 : (s.There.length : Int) < 1
  · refine WL.seq (WL.sreg (by simp [g1]; rfl) (by simp; rfl) ?_)
    exact WL.cond (t := true) (by simp) (fun _ => (bad _ (by simp [frS])).mono fun e L h => by obtain ⟨rfl, h⟩ := h; exact ⟨rfl, h⟩) (by simp)
  by_cases g2 : (48 : Int) < (s.There.length : Int)
  · refine WL.seq (WL.sreg (by simp [g1, g2]; rfl) (by simp; rfl) ?_)
    exact WL.cond (t := true) (by simp) (fun _ => (bad _ (by simp [frS])).mono fun e L h => by obtain ⟨rfl, h⟩ := h; exact ⟨rfl, h⟩) (by simp)
  cases g3 : ((s.Body.length : Int) != (s.There.length : Int)) with
  | true =>
    refine WL.seq (WL.sreg (by simp [g1, g2, g3]; rfl) (by simp; rfl) ?_)
    exact WL.cond (t := true) (by simp) (fun _ => (bad _ (by simp [frS])).mono fun e L h => by obtain ⟨rfl, h⟩ := h; exact ⟨rfl, h⟩) (by simp)
  | false =>
  by_cases g4 : (s.Handles.length : Int) < 1
  · refine WL.seq (WL.sreg (by simp [g1, g2, g3, g4]; rfl) (by simp; rfl) ?_)
    exact WL.cond (t := true) (by simp) (fun _ => (bad _ (by simp [frS])).mono fun e L h => by obtain ⟨rfl, h⟩ := h; exact ⟨rfl, h⟩) (by simp)
  by_cases g5 : (6 : Int) < (s.Handles.length : Int)
  · refine WL.seq (WL.sreg (by simp [g1, g2, g3, g4, g5]; rfl) (by simp; rfl) ?_)
    exact WL.cond (t := true) (by simp) (fun _ => (bad _ (by simp [frS])).mono fun e L h => by obtain ⟨rfl, h⟩ := h; exact ⟨rfl, h⟩) (by simp)
  have hbn : s.Body.length = s.There.length := by simp at g3; omega
  refine WL.seq (WL.sreg (by simp [g1, g2, g3, g4, g5]; rfl) (by simp; rfl) ?_)
  refine WL.cond (t := false) (by simp) (by simp) fun _ => WL.skip ?_
  refine WL.seq (WL.sreg (by simp; rfl) (by simp; rfl) ?_)
  refine WL.block (WL.count s.There.length (fun i => frA s i) (fun i => ∀ j, j < i → fineA s j) rfl (fun j h => absurd h (Nat.not_lt_zero _)) fun i hi hp => ?_)
  by_cases hlt : i < s.There.length
  · have hb : i < s.Body.length := by omega
    refine WL.seq (WL.sreg (by simp [frA, frS, hlt]; rfl) (by simp; rfl) ?_)
    refine WL.cond (t := true) (by simp) (fun _ => WL.skip ?_) (by simp)
    refine WL.seq (WL.block (WL.sreg (by simp [hb]; rfl) (by simp; rfl) ?_))
    by_cases hf : s.Body[i].length = 16 ∧ (s.There[i] = false → s.Body[i] = z16)
    · have := raw_a s i hlt hb hf.1 hf.2
      simp only [frA, frS, List.cons_append, List.nil_append] at this
      refine this _ ?_
      have hm1 : (i + 1) * 1 ≤ 140737488355328 := by omega
      have hm1' : i + 1 ≤ 140737488355328 := by omega
      have hm2 : i + 1 ≤ maxLen := by unfold maxLen; omega
      have hm3 : (i + 1) * 16 ≤ 140737488355328 := by omega
      have e1 : min i s.There.length = i := by omega
      have e2 : min i s.Body.length = i := by omega
      refine WL.draw mixed (by simp [cleanL, noH]) (DL.o (by simp [hlt, hm1, hm1', hm2, hm3, e1, e2]; exact ⟨rfl, rfl⟩) (DL.nil ⟨by kernel_rfl, _, by simp; rfl, ?_⟩))
      refine WL.reg (RL.run (by simp [wrap_succ hS1 hlt]; rfl) ⟨_, by simp; rfl, hlt, ?_, fun j hj => ?_⟩)
      · have q1 := grow_take (f := bl) hlt
        have q2 := grow_take (f := str) hb
        simp [q1, q2, frA, frS, Nat.min_eq_left hlt, Nat.min_eq_left hb]
      · by_cases e : j = i
        · subst e
          exact ⟨hb, hf.1, by simpa [hlt] using hf.2⟩
        · exact hp j (by omega)
    · have hbad : s.Body[i].length ≠ 16 ∨ (s.There[i] = false ∧ s.Body[i] ≠ z16) := by
        by_cases h16 : s.Body[i].length = 16
        · right
          have h2 : ¬ (s.There[i] = false → s.Body[i] = z16) := fun h => hf ⟨h16, h⟩
          exact Classical.not_imp.1 h2
        · exact .inl h16
      have := raw_aBad s i hlt hb hbad
      simp only [frA, frS, List.cons_append, List.nil_append] at this
      refine this.mono fun e L h => ?_
      obtain ⟨rfl, h⟩ := h
      simpa using ⟨rfl, h⟩
  · refine WL.seq (WL.sreg (by simp [frA, frS, hlt]; rfl) (by simp; rfl) ?_)
    refine WL.cond (t := false) (by simp) (by simp) fun _ => WL.exit ?_
    obtain rfl : i = s.There.length := by omega
    have e1 : List.take s.There.length s.Body = s.Body := List.take_of_length_le (by omega)
    refine WL.seq (WL.sreg (by simp; rfl) (by simp; rfl) ?_)
    refine WL.block (WL.count s.Handles.length (fun j => frB s j []) (fun j => ∀ k (hk : k < s.Handles.length), k < j → fineL s s.Handles[k]) (by simp [frB, frS, hbn, e1]) (fun k _ h => absurd h (Nat.not_lt_zero _)) fun j hj hq => ?_)
    by_cases hlj : j < s.Handles.length
    · refine WL.seq (WL.sreg (by simp [frB, frS, hlj]; rfl) (by simp; rfl) ?_)
      refine WL.cond (t := true) (by simp) (fun _ => WL.skip ?_) (by simp)
      have := raw_b s hT hH j hlj
      simp only [frB, frS, List.cons_append, List.nil_append, List.append_nil] at this
      refine this _ (fun L _ h => ?_) fun hfine => ?_
      · simpa using ⟨rfl, h⟩
      · refine ⟨hlj, ?_, fun k hk hkj => ?_⟩
        · simp [frB, frS]
        · by_cases e : k = j
          · subst e; exact hfine
          · exact hq k hk (by omega)
    · exfalso
      apply hm
      have hall : ∀ i (hi : i < s.Body.length), s.Body[i].length = 16 ∧ (s.There.getD i false = false → s.Body[i] = z16) := fun i hi => by
        obtain ⟨_, h⟩ := hp i (by omega)
        exact h
      refine ⟨by omega, by omega, hbn, by omega, by omega, fun b hb => ?_, fun i hi hth => ?_, fun l hl => ?_, fun l hl p hp' => ?_⟩
      · obtain ⟨i, hi, rfl⟩ := List.mem_iff_getElem.1 hb
        exact (hall i hi).1
      · exact (hall i hi).2 hth
      · obtain ⟨i, hi, rfl⟩ := List.mem_iff_getElem.1 hl
        exact (hq i hi (by omega)).1
      · obtain ⟨i, hi, rfl⟩ := List.mem_iff_getElem.1 hl
        exact (hq i hi (by omega)).2 p hp'
end Go.OT
set_option linter.unusedSimpArgs false
set_option linter.unusedVariables false
namespace Go.OT
open Go.Proofs

def isS (s : St) (i : Nat) : SL := [(200, 0, .bptr 2 1 0), (201, 0, sB false s.There), (202, 0, sS false s.Body), (203, 0, sII false s.Handles), (299, 1, .non), (300, 0, .bptr 3 1 0), (301, 0, sB false s.There), (302, 0, sUU false s.Body), (303, 0, sII false s.Handles), (399, 1, .non)]

set_option maxHeartbeats 2000000 in
/-- A state is what it is. -/
theorem is_fn (s : St) (hs : Sized s) (hb : s.Body.length = s.There.length) : FnC Try.prog 28 [] [encT false s, encS false s] [] (bl true) := by
  have hS1 : Small s.There.length := by have := hs.t; unfold Small; omega
  have hS2 : Small s.Handles.length := by have := hs.h; unfold Small; omega
  refine FnC.go ok28 rfl ?_
  refine WL.sreg (by simp; rfl) (by simp; rfl) ?_
  refine WL.seq (WL.sreg (by simp; rfl) (by simp; rfl) ?_)
  refine WL.cond (t := false) (by simp) (by simp) fun _ => WL.skip ?_
  refine WL.seq (WL.sreg (by simp; rfl) (by simp; rfl) ?_)
  refine WL.block (WL.count s.There.length (fun i => isS s i ++ [(500, 0, i64 i)]) (fun _ => True) rfl trivial fun i hi _ => ?_)
  by_cases h : i < s.There.length
  · have h' : i < s.Body.length := by omega
    refine WL.seq (WL.sreg (by simp [isS, h]; rfl) (by simp; rfl) ?_)
    refine WL.cond (t := true) (by simp) (fun _ => WL.skip ?_) (by simp)
    refine WL.seq (WL.block (WL.seq (WL.draw mixed (by simp [cleanL, noH]) (DL.o (by simp [h]; exact ⟨rfl, rfl⟩) (DL.g (by simp [h']; exact ⟨rfl, rfl⟩) (DL.o (by simp; exact ⟨rfl, rfl⟩) (DL.nil ⟨by kernel_rfl, _, by simp; rfl, ?_⟩)))))))
    refine WL.cond (t := false) (by simp) (by simp) fun _ => WL.skip ?_
    refine WL.reg (RL.run (by simp [wrap_succ hS1 h]; rfl) ⟨_, by simp; rfl, h, ?_, trivial⟩)
    simp [isS]
  · refine WL.seq (WL.sreg (by simp [isS, h]; rfl) (by simp; rfl) ?_)
    refine WL.cond (t := false) (by simp) (by simp) fun _ => WL.exit ?_
    obtain rfl : i = s.There.length := by omega
    refine WL.seq (WL.sreg (by simp; rfl) (by simp; rfl) ?_)
    refine WL.block (WL.count s.Handles.length (fun i => isS s i ++ [(600, 0, i64 i)]) (fun _ => True) rfl trivial fun i hi _ => ?_)
    by_cases h : i < s.Handles.length
    · have hl : s.Handles[i].length ≤ 1000 := hs.hs _ (List.getElem_mem h)
      have he := ints_equal s.Handles[i] s.Handles[i] (by unfold Small; omega)
      rw [show (s.Handles[i] == s.Handles[i]) = true by simp] at he
      refine WL.seq (WL.sreg (by simp [isS, h]; rfl) (by simp; rfl) ?_)
      refine WL.cond (t := true) (by simp) (fun _ => WL.skip ?_) (by simp)
      refine WL.seq (WL.block (WL.seq (WL.draw mixed (by simp [cleanL, noH]) (DL.o (by simp [h]; exact ⟨rfl, rfl⟩) (DL.call0 false he (by simp) (by simp) (DL.o (by simp; exact ⟨rfl, rfl⟩) (DL.nil ⟨by kernel_rfl, _, by simp; rfl, ?_⟩)))))))
      refine WL.cond (t := false) (by simp) (by simp) fun _ => WL.skip ?_
      refine WL.reg (RL.run (by simp [wrap_succ hS2 h]; rfl) ⟨_, by simp; rfl, h, ?_, trivial⟩)
      simp [isS]
    · refine WL.seq (WL.sreg (by simp [isS, h]; rfl) (by simp; rfl) ?_)
      refine WL.cond (t := false) (by simp) (by simp) fun _ => WL.exit ?_
      refine WL.sreg (by simp; rfl) (by simp; rfl) (WL.ret ⟨.inr rfl, ?_⟩)
      simp [fi28]
end Go.OT
/-
  The functions' texts in compiled form (written by wip/tools/GenD.lean).
-/
namespace Go.OT
open Go.Proofs
/- lavabo/lavabolaw13.ModelAsks -/
def c6_0 : Cd := (.seq (.reg [2, 4, 5, 7, 28, 29] [.call none 29 17 [], .o [.asg 8 (.t 29)]]) .ret)
def c6_1 : Cd := (.cond (.t 28) c6_0 .skip)
def c6_2 : Cd := (.seq (.reg [2, 4, 7, 9, 10, 11, 12, 60] [.o [.asg 8 (cB false)]]) .ret)
def c6_3 : Cd := (.cond (.t 60) c6_2 .skip)
def c6_4 : Cd := (.seq (.reg [2, 4, 7, 9, 11, 12, 62, 63, 64, 65, 66, 67, 68, 69, 70, 71, 72, 73] [.call none 63 17 [], .o [.mov 64 (.t 63)], .g 64 true [.faddr 65 0 (.t 12), .ld 66 1 false (.t 65), .bin 67 .eql (.t 66) (cI 1)], .o [.pick 68 (.t 64) (.t 67) (cB false), .mov 69 (.t 68)], .g 69 true [.ld 70 3 true (.t 11), .ld 71 3 true (.t 4)], .call (some (69, true)) 72 23 [(.t 70), (.t 71)], .o [.pick 73 (.t 69) (.t 72) (cB false), .asg 8 (.t 73)]]) .ret)
def c6_5 : Cd := (.cond (.t 62) c6_4 .skip)
def c6_6 : Cd := (.seq (.draw [[], [0, 0], [1], [1], [2, 3, 1, 1], [1, 4], [5, 4], [6], [6], [7, 8, 6, 6], [6, 9], [10, 9], [11], [11], [13, 11], [12, 14, 11, 11], [11], [11], [17, 11], [16, 18, 15, 11], [15, 19, 11], [11, 20], [21, 19], [22], [22], [23, 24, 22, 22], [22, 25], [26, 25, 0, 1, 2, 3, 4, 5, 6, 7, 8, 9, 10, 11, 12, 13, 14, 15, 16, 17, 18, 19, 20, 21, 22, 23, 24, 25, 26]] [4, 7, 9, 11, 12, 13, 14, 80, 81, 82, 83, 84, 85, 86, 87, 88, 89, 90, 91, 92, 93, 94, 95, 96, 97, 98, 99, 100, 101, 102, 103, 104, 105, 106] [.call none 80 17 [], .o [.mov 81 (.t 80)], .g 81 true [.ld 82 4 true (.t 12), .ld 83 4 true (.t 14)], .call (some (81, true)) 84 27 [(.t 82), (.t 83)], .o [.pick 85 (.t 81) (.t 84) (cB false), .mov 86 (.t 85)], .g 86 true [.ld 87 3 true (.t 13), .ld 88 3 true (.t 11)], .call (some (86, true)) 89 28 [(.t 87), (.t 88)], .o [.pick 90 (.t 86) (.t 89) (cB false), .mov 91 (.t 90)], .g 91 true [.ld 92 3 true (.t 4), .faddr 93 1 (.t 7), .ld 94 1 false (.t 93)], .call (some (91, true)) 95 29 [(.t 92), (.t 94)], .g 91 true [.ld 96 3 true (.t 9), .faddr 97 1 (.t 7), .ld 98 1 false (.t 97)], .call (some (91, true)) 99 30 [(.t 96), (.t 98)], .g 91 true [.bin 100 .eql (.t 95) (.t 99)], .o [.pick 101 (.t 91) (.t 100) (cB false), .mov 102 (.t 101)], .g 102 true [.ld 103 4 true (.t 12), .ld 104 4 true (.t 14)], .call (some (102, true)) 105 31 [(.t 103), (.t 104)], .o [.pick 106 (.t 102) (.t 105) (cB false), .asg 8 (.t 106)]]) .ret)
def c6_7 : Cd := (.seq (.reg [2, 76, 77, 78, 79] [.o [.ld 76 3 true (.t 13), .mov 77 (.t 2), .ld 78 6 true (.t 7)], .call none 79 26 [(.t 76), (.t 77), (.t 78)], .o [.alloc 14 [(.sc (.int .i64 0)), (.sc (.int .i64 0)), (.sc (.int .i64 0)), (.sl true () 1 0 [])], .st 4 (.t 14) (.t 79)]]) c6_6)
def c6_8 : Cd := (.seq (.reg [62, 74, 75] [.o [.ld 74 3 true (.t 9)], .call none 75 25 [(.t 74)], .o [.alloc 13 [(.sl true () 1 0 []), (.sl true () 1 0 []), (.sl true () 1 0 [])], .st 3 (.t 13) (.t 75)]]) c6_7)
def c6_9 : Cd := (.seq (.seq (.reg [10, 60, 61] [.o [.mov 61 (.t 10), .un 62 .not (.t 61)]]) c6_5) c6_8)
def c6_10 : Cd := (.seq (.seq (.draw [[], [0], [], [1, 2], [3, 1], [4], [4], [5, 6, 4, 4], [4], [4], [8, 9, 7, 4], [7, 10, 4], [4, 11], [12, 10], [13], [13], [14, 15, 13, 13], [16, 13], [13, 17]] [5, 42, 43, 44, 45, 46, 47, 48, 49, 50, 51, 52, 53, 54, 55, 56, 57, 58, 59] [.o [.ld 42 3 true (.t 4)], .call none 43 22 [(.t 42)], .o [.mov 44 (.t 10), .beq 45 false (.t 43) (.t 44), .mov 46 (.t 45)], .g 46 false [.ld 47 3 true (.t 4), .ld 48 3 true (.t 5)], .call (some (46, false)) 49 23 [(.t 47), (.t 48)], .g 46 false [.ld 50 3 true (.t 4), .ld 51 3 true (.t 5)], .call (some (46, false)) 52 24 [(.t 50), (.t 51)], .g 46 false [.beq 53 false (.t 49) (.t 52)], .o [.pick 54 (.t 46) (cB true) (.t 53), .mov 55 (.t 54)], .g 55 false [.ld 56 3 true (.t 4), .ld 57 3 true (.t 4)], .call (some (55, false)) 58 23 [(.t 56), (.t 57)], .g 55 false [.un 59 .not (.t 58)], .o [.pick 60 (.t 55) (cB true) (.t 59)]]) c6_3) c6_9)
def c6_11 : Cd := (.seq (.reg [36, 37, 38, 39, 35, 40, 41] [.o [.ld 36 3 true (.t 4), .mov 37 (.t 2), .ld 38 6 true (.t 7)], .call none 39 19 [(.t 36), (.t 37), (.t 38)], .o [.mov 35 (.t 39), .ext 40 35 0, .ext 41 35 1, .alloc 11 [(.sl true () 1 0 []), (.sl true () 1 0 []), (.sl true () 1 0 [])], .alloc 12 [(.sc (.int .i64 0)), (.sc (.int .i64 0)), (.sc (.int .i64 0)), (.sl true () 1 0 [])], .st 3 (.t 11) (.t 40), .st 4 (.t 12) (.t 41)]]) c6_10)
def c6_12 : Cd := (.seq (.reg [28, 31, 32, 30, 33, 34] [.o [.ld 31 3 true (.t 4)], .call none 32 21 [(.t 31)], .o [.mov 30 (.t 32), .ext 33 30 0, .ext 34 30 1, .alloc 9 [(.sl true () 1 0 []), (.sl true () 1 0 []), (.sl true () 1 0 [])], .st 3 (.t 9) (.t 33), .asg 10 (.t 34)]]) c6_11)
def c6_13 : Cd := (.seq (.seq (.reg [15, 16, 17, 18, 19, 20, 21, 22, 23, 24, 25, 26, 27] [.o [.ld 15 3 true (.t 4)], .call none 16 20 [(.t 15)], .o [.un 17 .not (.t 16), .mov 18 (.t 17)], .g 18 false [.ld 19 3 true (.t 5)], .call (some (18, false)) 20 20 [(.t 19)], .g 18 false [.un 21 .not (.t 20)], .o [.pick 22 (.t 18) (cB true) (.t 21), .mov 23 (.t 22)], .g 23 false [.faddr 24 5 (.t 7), .ld 25 1 false (.t 24), .len 26 (.t 25), .bin 27 .gtr (.t 26) (cI 40)], .o [.pick 28 (.t 23) (cB true) (.t 27)]]) c6_1) c6_12)
def fi6 : FI := ⟨107, 4, [.t 8], (.seq (.reg [0, 1, 3, 8] [.o [.box 4 (.t 0), .box 5 (.t 1), .box 7 (.t 3), .asg 8 (cB false)]]) c6_13)⟩
theorem ok6 : fiOk Try.prog 6 fi6 := ⟨_, _, Try.func6, rfl, by kernel_rfl, by kernel_rfl, Try.call6⟩
/- lavabo/lavabolaw13.ModelPlays -/
def c7_0 : Cd := (.seq (.reg [0, 1, 2, 3, 9, 10, 24, 25, 26, 27, 28, 29, 30, 31] [.call none 25 17 [], .o [.mov 26 (.t 25)], .g 26 true [.faddr 27 0 (.t 9), .ld 28 1 false (.t 27), .len 29 (.t 28), .bin 30 .eql (.t 29) (cI 0)], .o [.pick 31 (.t 26) (.t 30) (cB false), .asg 8 (.t 31)]]) .ret)
def c7_1 : Cd := (.cond (.t 24) c7_0 .skip)
def c7_2 : Cd := (.seq (.reg [0, 1, 2, 3, 9, 10, 34, 35] [.call none 35 17 [], .o [.asg 8 (.t 35)]]) .ret)
def c7_3 : Cd := (.cond (.t 34) c7_2 .skip)
def c7_4 : Cd := (.cond (.t 39) .skip (.exit 0))
def c7_5 : Cd := (.seq (.reg [0, 1, 2, 3, 9, 10, 11, 12, 50, 51] [.call none 51 17 [], .o [.asg 8 (.t 51)]]) .ret)
def c7_6 : Cd := (.cond (.t 50) c7_5 .skip)
def c7_7 : Cd := (.reg [58, 59, 60, 61, 62] [.o [.ld 59 7 true (.t 12), .mov 60 (.t 0), .mov 61 (.t 1)], .call none 62 33 [(.t 59), (.t 60), (.t 61)], .o [.st 7 (.t 12) (.t 62)]])
def c7_8 : Cd := (.cond (.t 58) c7_7 .skip)
def c7_9 : Cd := (.seq (.reg [0, 1, 2, 3, 9, 10, 11, 13, 91] [.o [.asg 8 (cB false)]]) .ret)
def c7_10 : Cd := (.cond (.t 91) c7_9 .skip)
def c7_11 : Cd := (.reg [13, 91, 92] [.o [.ld 92 3 true (.t 13), .st 3 (.t 9) (.t 92)]])
def c7_12 : Cd := (.seq (.seq (.draw [[], [], [], [2], [], [4], [1, 3, 5], [0, 6, 6], [7], [8, 7], [9], [9], [10, 11, 9, 9], [12, 9], [9, 13], [14, 12], [15], [16, 15, 15], [17, 15], [15, 18]] [12, 14, 72, 73, 74, 75, 76, 77, 78, 79, 80, 81, 82, 83, 84, 85, 86, 87, 88, 89, 90] [.o [.ld 72 4 true (.t 14), .ld 73 3 true (.t 10), .faddr 74 0 (.t 12), .ld 75 1 false (.t 74), .faddr 76 1 (.t 12), .ld 77 6 true (.t 76)], .call none 78 26 [(.t 73), (.t 75), (.t 77)], .call none 79 27 [(.t 72), (.t 78)], .o [.un 80 .not (.t 79), .mov 81 (.t 80)], .g 81 false [.ld 82 3 true (.t 10), .ld 83 3 true (.t 13)], .call (some (81, false)) 84 28 [(.t 82), (.t 83)], .g 81 false [.un 85 .not (.t 84)], .o [.pick 86 (.t 81) (cB true) (.t 85), .mov 87 (.t 86)], .g 87 false [.ld 88 3 true (.t 13)], .call (some (87, false)) 89 22 [(.t 88)], .g 87 false [.un 90 .not (.t 89)], .o [.pick 91 (.t 87) (cB true) (.t 90)]]) c7_10) c7_11)
def c7_13 : Cd := (.seq (.reg [58, 64, 65, 66, 67, 68, 69, 63, 70, 71] [.o [.ld 64 3 true (.t 9), .faddr 65 0 (.t 12), .ld 66 1 false (.t 65), .faddr 67 1 (.t 12), .ld 68 6 true (.t 67)], .call none 69 19 [(.t 64), (.t 66), (.t 68)], .o [.mov 63 (.t 69), .ext 70 63 0, .ext 71 63 1, .alloc 13 [(.sl true () 1 0 []), (.sl true () 1 0 []), (.sl true () 1 0 [])], .alloc 14 [(.sc (.int .i64 0)), (.sc (.int .i64 0)), (.sc (.int .i64 0)), (.sl true () 1 0 [])], .st 3 (.t 13) (.t 70), .st 4 (.t 14) (.t 71)]]) c7_12)
def c7_14 : Cd := (.seq (.seq (.reg [50, 52, 53, 54, 55, 56, 57] [.o [.mov 52 (.t 3), .mov 53 (.t 11), .bin 54 .and (.t 53) (cI 31), .conv 55 .u64 (.t 54), .bin 56 .shr (.t 52) (.t 55), .bin 57 .and (.t 56) (cI 1), .bin 58 .eql (.t 57) (cI 0)]]) c7_8) c7_13)
def c7_15 : Cd := (.seq (.seq (.reg [46, 47, 48, 49] [.o [.faddr 46 1 (.t 12), .faddr 47 5 (.t 46), .ld 48 1 false (.t 47), .len 49 (.t 48), .bin 50 .gtr (.t 49) (cI 40)]]) c7_6) c7_14)
def c7_16 : Cd := (.reg [40, 41] [.o [.mov 40 (.t 11), .bin 41 .add (.t 40) (cI 1), .asg 11 (.t 41)]])
def c7_17 : Cd := (.seq (.block 1 (.seq (.reg [39, 42, 43, 44, 45] [.o [.mov 42 (.t 2), .mov 43 (.t 11), .iaddr 44 7 (.t 42) (.t 43), .ld 45 7 true (.t 44), .alloc 12 [(.sc (.int .i64 0)), (.sc (.int .i64 0)), (.sc (.int .i64 0)), (.sc (.int .i64 0)), (.sc (.int .i64 0)), (.sc (.int .i64 0)), (.sl true () 1 0 [])], .st 7 (.t 12) (.t 45)]]) c7_15)) c7_16)
def c7_18 : Cd := (.seq (.seq (.reg [36, 37, 38] [.o [.mov 36 (.t 11), .mov 37 (.t 2), .len 38 (.t 37), .bin 39 .lss (.t 36) (.t 38)]]) c7_4) c7_17)
def c7_19 : Cd := (.block 0 (.loop c7_18))
def c7_20 : Cd := (.seq (.reg [0, 1, 2, 3, 9, 10, 11, 36, 37, 38, 39, 93] [.call none 93 17 [], .o [.asg 8 (.t 93)]]) .ret)
def c7_21 : Cd := (.seq (.seq (.reg [34] [.o [.asg 11 (cI 0)]]) c7_19) c7_20)
def c7_22 : Cd := (.seq (.seq (.reg [24, 32, 33] [.o [.mov 32 (.t 2), .len 33 (.t 32), .bin 34 .gtr (.t 33) (cI 80)]]) c7_3) c7_21)
def c7_23 : Cd := (.seq (.seq (.reg [21, 22, 23] [.o [.faddr 21 0 (.t 10), .ld 22 1 false (.t 21), .len 23 (.t 22), .bin 24 .eql (.t 23) (cI 0)]]) c7_1) c7_22)
def c7_24 : Cd := (.seq (.reg [15, 16, 17, 18, 19, 20] [.o [.mov 15 (.t 0), .mov 16 (.t 1)], .call none 17 18 [(.t 15), (.t 16)], .o [.mov 18 (.t 0), .mov 19 (.t 1)], .call none 20 32 [(.t 18), (.t 19)], .o [.alloc 9 [(.sl true () 1 0 []), (.sl true () 1 0 []), (.sl true () 1 0 [])], .alloc 10 [(.sl true () 1 0 []), (.sl true () 1 0 []), (.sl true () 1 0 [])], .st 3 (.t 9) (.t 17), .st 3 (.t 10) (.t 20)]]) c7_23)
def fi7 : FI := ⟨94, 4, [.t 8], (.seq (.reg [8] [.o [.asg 8 (cB false)]]) c7_24)⟩
theorem ok7 : fiOk Try.prog 7 fi7 := ⟨_, _, Try.func7, rfl, by kernel_rfl, by kernel_rfl, Try.call7⟩
/- lavabo/lavabolaw13.ModelErrors -/
def c9_0 : Cd := (.seq (.reg [0, 3, 16, 17] [.call none 17 17 [], .o [.asg 4 (.t 17)]]) .ret)
def c9_1 : Cd := (.cond (.t 16) c9_0 .skip)
def c9_2 : Cd := (.cond (.t 26) .skip (.exit 0))
def c9_3 : Cd := (.seq (.reg [0, 3, 5, 6, 36, 37] [.call none 37 17 [], .o [.asg 4 (.t 37)]]) .ret)
def c9_4 : Cd := (.cond (.t 36) c9_3 .skip)
def c9_5 : Cd := (.reg [7, 44, 45, 46, 47, 48, 49, 43, 50, 51] [.o [.ld 44 3 true (.t 5), .faddr 45 0 (.t 7), .ld 46 1 false (.t 45), .faddr 47 1 (.t 7), .ld 48 6 true (.t 47)], .call none 49 19 [(.t 44), (.t 46), (.t 48)], .o [.mov 43 (.t 49), .ext 50 43 0, .ext 51 43 1, .st 3 (.t 5) (.t 50)]])
def c9_6 : Cd := (.seq (.reg [36, 38, 39, 40, 41, 42] [.o [.mov 38 (.t 0), .mov 39 (.t 6), .iaddr 40 7 (.t 38) (.t 39), .ld 41 7 true (.t 40)], .call none 42 33 [(.t 41), (cI 5), (cI 3)], .o [.alloc 7 [(.sc (.int .i64 0)), (.sc (.int .i64 0)), (.sc (.int .i64 0)), (.sc (.int .i64 0)), (.sc (.int .i64 0)), (.sc (.int .i64 0)), (.sl true () 1 0 [])], .st 7 (.t 7) (.t 42)]]) c9_5)
def c9_7 : Cd := (.reg [27, 28] [.o [.mov 27 (.t 6), .bin 28 .add (.t 27) (cI 1), .asg 6 (.t 28)]])
def c9_8 : Cd := (.seq (.block 1 (.seq (.seq (.reg [26, 29, 30, 31, 32, 33, 34, 35] [.o [.mov 29 (.t 0), .mov 30 (.t 6), .iaddr 31 7 (.t 29) (.t 30), .faddr 32 1 (.t 31), .faddr 33 5 (.t 32), .ld 34 1 false (.t 33), .len 35 (.t 34), .bin 36 .gtr (.t 35) (cI 40)]]) c9_4) c9_6)) c9_7)
def c9_9 : Cd := (.seq (.seq (.reg [19, 20, 21, 22, 23, 24, 25] [.o [.mov 19 (.t 6), .mov 20 (.t 0), .len 21 (.t 20), .bin 22 .lss (.t 19) (.t 21), .mov 23 (.t 22)], .g 23 true [.mov 24 (.t 6), .bin 25 .lss (.t 24) (cI 60)], .o [.pick 26 (.t 23) (.t 25) (cB false)]]) c9_2) c9_8)
def c9_10 : Cd := (.block 0 (.loop c9_9))
def c9_11 : Cd := (.seq (.reg [10, 96] [.o [.asg 4 (cB false)]]) .ret)
def c9_12 : Cd := (.cond (.t 96) c9_11 .skip)
def c9_13 : Cd := (.seq (.reg [10, 96, 97, 98, 99, 100, 101] [.call none 97 17 [], .o [.mov 98 (.t 97)], .g 98 true [.ld 99 3 true (.t 10)], .call (some (98, true)) 100 22 [(.t 99)], .o [.pick 101 (.t 98) (.t 100) (cB false), .asg 4 (.t 101)]]) .ret)
def c9_14 : Cd := (.seq (.seq (.reg [5, 8, 11, 66, 67, 68, 69, 70, 71, 72, 73, 74, 75, 76, 77, 78, 79, 80, 81, 82, 83, 84, 85, 86, 87, 88, 89, 90, 91, 92, 93, 94, 95] [.o [.ld 66 3 true (.t 8), .ld 67 3 true (.t 5)], .call none 68 28 [(.t 66), (.t 67)], .o [.un 69 .not (.t 68), .mov 70 (.t 69)], .g 70 false [.faddr 71 0 (.t 11), .ld 72 1 false (.t 71), .bin 73 .neq (.t 72) (cI 0), .mov 74 (.t 73)], .g 74 true [.ld 75 3 true (.t 5), .ld 76 3 true (.t 10)], .call (some (74, true)) 77 23 [(.t 75), (.t 76)], .g 74 true [.un 78 .not (.t 77), .mov 79 (.t 78)], .g 79 false [.faddr 80 1 (.t 11), .ld 81 1 false (.t 80), .bin 82 .neq (.t 81) (cI 0)], .g 74 true [.pick 83 (.t 79) (cB true) (.t 82), .mov 84 (.t 83)], .g 84 false [.faddr 85 2 (.t 11), .ld 86 1 false (.t 85), .bin 87 .neq (.t 86) (cI 0)], .g 74 true [.pick 88 (.t 84) (cB true) (.t 87), .mov 89 (.t 88)], .g 89 false [.faddr 90 3 (.t 11), .ld 91 1 false (.t 90), .len 92 (.t 91), .bin 93 .neq (.t 92) (cI 0)], .g 74 true [.pick 94 (.t 89) (cB true) (.t 93)], .g 70 false [.pick 95 (.t 74) (.t 94) (cB false)], .o [.pick 96 (.t 70) (cB true) (.t 95)]]) c9_12) c9_13)
def c9_15 : Cd := (.seq (.reg [3, 58, 59, 60, 61, 62, 63, 57, 64, 65] [.o [.ld 58 3 true (.t 5), .faddr 59 0 (.t 3), .ld 60 1 false (.t 59), .faddr 61 1 (.t 3), .ld 62 6 true (.t 61)], .call none 63 19 [(.t 58), (.t 60), (.t 62)], .o [.mov 57 (.t 63), .ext 64 57 0, .ext 65 57 1, .alloc 10 [(.sl true () 1 0 []), (.sl true () 1 0 []), (.sl true () 1 0 [])], .alloc 11 [(.sc (.int .i64 0)), (.sc (.int .i64 0)), (.sc (.int .i64 0)), (.sl true () 1 0 [])], .st 3 (.t 10) (.t 64), .st 4 (.t 11) (.t 65)]]) c9_14)
def c9_16 : Cd := (.seq (.reg [0, 6, 19, 20, 21, 22, 23, 24, 25, 26, 53, 54, 52, 55, 56, 9] [.o [.ld 53 3 true (.t 5)], .call none 54 21 [(.t 53)], .o [.mov 52 (.t 54), .ext 55 52 0, .ext 56 52 1, .alloc 8 [(.sl true () 1 0 []), (.sl true () 1 0 []), (.sl true () 1 0 [])], .st 3 (.t 8) (.t 55), .asg 9 (.t 56)]]) c9_15)
def c9_17 : Cd := (.seq (.seq (.reg [] [.o [.asg 6 (cI 0)]]) c9_10) c9_16)
def c9_18 : Cd := (.seq (.reg [16, 18] [.call none 18 18 [(cI 5), (cI 3)], .o [.alloc 5 [(.sl true () 1 0 []), (.sl true () 1 0 []), (.sl true () 1 0 [])], .st 3 (.t 5) (.t 18)]]) c9_17)
def c9_19 : Cd := (.seq (.seq (.reg [12, 13, 14, 15] [.o [.faddr 12 1 (.t 3), .faddr 13 5 (.t 12), .ld 14 1 false (.t 13), .len 15 (.t 14), .bin 16 .gtr (.t 15) (cI 40)]]) c9_1) c9_18)
def fi9 : FI := ⟨102, 2, [.t 4], (.seq (.reg [1, 4] [.o [.box 3 (.t 1), .asg 4 (cB false)]]) c9_19)⟩
theorem ok9 : fiOk Try.prog 9 fi9 := ⟨_, _, Try.func9, rfl, by kernel_rfl, by kernel_rfl, Try.call9⟩
end Go.OT
set_option linter.unusedSimpArgs false
set_option linter.unusedVariables false
namespace Go.OT
open Go.Proofs

theorem lend_encT (b : Bool) (s : St) : lend (encT b s) = encT false s := by
  simp [lend, Function.comp_def]

theorem fm_drop {l : List Cl} {i : Nat} (h : i < l.length) : (l.flatMap (cellsCl false)).drop (i * 7) = cellsCl false l[i] ++ (l.drop (i + 1)).flatMap (cellsCl false) := by
  induction l generalizing i with
  | nil => simp at h
  | cons a l ih =>
    cases i with
    | zero => simp [List.flatMap_cons]
    | succ i =>
      rw [List.flatMap_cons, List.drop_append, List.drop_of_length_le (by simp; omega)]
      have : (i + 1) * 7 - (cellsCl false a).length = i * 7 := by simp; omega
      rw [this, ih (by simpa using h)]
      simp
theorem fm_len (l : List Cl) : (l.flatMap (cellsCl false)).length = l.length * 7 := by
  induction l with
  | nil => rfl
  | cons a l ih => rw [List.flatMap_cons, List.length_append, ih]; simp; omega

theorem DoB_err (s : St) (cl : Int) (q : Op) (h : (DoB s cl q).2.2.Code ≠ 0) : (DoB s cl q).2 = (s, rsE (DoB s cl q).2.2.Code) := by
  unfold DoB at h ⊢
  split
  · rfl
  · rename_i hn
    split
    · rename_i h0
      exfalso
      apply h
      rw [if_neg hn, if_pos h0]
      simp only [Step]
      repeat' split
      all_goals rfl
    · rfl

/-! ModelErrors -/
def es (l : List Cl) : Nat → St
  | 0 => newSt 5 3
  | i + 1 => match l[i]? with
    | some c => (DoB (es l i) (nearC c 5 3).Client (nearC c 5 3).op).2.1
    | none => es l i
theorem new53 : OkSt (newSt 5 3) := (May_iff _).1 (by kernel_rfl)
theorem es_ok (l : List Cl) (i : Nat) : OkSt (es l i) := by
  induction i with
  | zero => exact new53
  | succ i ih =>
    simp only [es]
    split
    · exact ih.doB _ _
    · exact ih
end Go.OT
set_option linter.unusedSimpArgs false
set_option linter.unusedVariables false
namespace Go.OT
open Go.Proofs

theorem RL.frzC {P : Program} {nt : Nat} {L : SL} {K : SL → Prop} {rest : List Sg} {d f : Nat} {cs : List COd} {ars : List AU} {r : AU} (hfn : FnC P f [] ars [] r) (has : trArgs (fnL L) [] false cs = some ars) (hr : roots r = []) (h : RL P nt rest (setL L (100 * d) (lend r)) K) : RL P nt (.call none d f cs :: rest) L K := by
  refine RL.call0 false hfn has ?_ (RL.freeze (100 * d) ?_)
  · simp [sideOk, ghsOk, hr]
  · rw [frzL_setL]
    exact h

abbrev sCl (l : List Cl) : AU := .sl false () 7 l.length (l.flatMap (cellsCl false))
def erS (l : List Cl) (c : Cl) (i : Nat) : SL := [(0, 0, sCl l), (300, 0, .bptr 3 1 0), (301, 0, i64 c.Client), (302, 0, i64 c.op.Kind), (303, 0, i64 c.op.Page), (304, 0, i64 c.op.Handle), (305, 0, i64 c.op.Off), (306, 0, i64 c.op.N), (307, 0, sU false c.op.Data), (399, 1, .non), (500, 0, .bptr 5 1 0), (501, 0, sB false (es l i).There), (502, 0, sUU false (es l i).Body), (503, 0, sII false (es l i).Handles), (599, 1, .non), (600, 0, i64 i)]

set_option maxHeartbeats 4000000 in
set_option maxRecDepth 10000 in
theorem err_tail (l : List Cl) (c : Cl) (i : Nat) (s : St) (hs : OkSt s) (hcd : c.op.Data.length ≤ 40) :
    WL Try.prog fi9.nt c9_16 [(0, 0, sCl l), (300, 0, .bptr 3 1 0), (301, 0, i64 c.Client), (302, 0, i64 c.op.Kind), (303, 0, i64 c.op.Page), (304, 0, i64 c.op.Handle), (305, 0, i64 c.op.Off), (306, 0, i64 c.op.N), (307, 0, sU false c.op.Data), (399, 1, .non), (500, 0, .bptr 5 1 0), (501, 0, sB false s.There), (502, 0, sUU false s.Body), (503, 0, sII false s.Handles), (599, 1, .non), (600, 0, i64 i), (2600, 0, bl false)]
      fun e L => (e = Ex.nrm ∨ e = Ex.ret) ∧ RetOk fi9.rs [] (bl true) L := by
  have hok := hs.doB c.Client c.op
  have herr := DoB_err s c.Client c.op
  refine WL.sregC (RL.o (by simp; rfl) (RL.frzC (from_fn s hs) (by simp) (by simp [roots, rootsL]) ?_))
  rw [lend_two, lend_encT]
  refine RL.o (by simp [lend]; rfl) (RL.nil ⟨_, by simp; rfl, ?_⟩)
  refine WL.sregC (RL.o (by simp; rfl) (RL.doC s hs.sized c.Client c.op (by simp) ?_))
  generalize DoB s c.Client c.op = dd at hok herr ⊢
  obtain ⟨o', t, r⟩ := dd
  simp only at hok herr ⊢
  have hmay := may_fn t hok.sized
  rw [(May_iff t).2 hok] at hmay
  refine RL.o (by simp; rfl) (RL.nil ⟨_, by simp; rfl, ?_⟩)
  refine WL.seq ?_
  refine WL.sregC (RL.o (by simp; rfl) (RL.call0 false (is_fn s hs.sized hs.bn) (by simp) (by simp) ?_))
  by_cases hr : r.Code = 0
  · refine RL.o (by simp; rfl) (RL.g (by simp [hr]; rfl) (RL.g (by simp; rfl) (RL.callN (by simp) (RL.g (by simp; rfl) (RL.g (by simp; rfl) (RL.g (by simp; rfl) (RL.g (by simp; rfl) (RL.g (by simp; rfl) (RL.g (by simp; rfl) (RL.g (by simp; rfl) (RL.g (by simp; rfl) (RL.o (by simp; rfl) (RL.nil ⟨_, by simp; rfl, ?_⟩)))))))))))))
    refine WL.cond (t := false) (by simp) (by simp) fun _ => WL.skip ?_
    refine WL.sregC (RL.call0 false told_fn (by simp) (by simp) (RL.o (by simp; rfl) (RL.g (by simp; rfl) (RL.callY0 false (by simp) hmay (by simp) (by simp) (RL.o (by simp; rfl) (RL.nil ⟨_, by simp; rfl, ?_⟩))))))
    refine WL.ret ⟨.inr rfl, ?_⟩
    simp [fi9]
  · have hrb : (r.Code != 0) = true := by simp [hr]
    have he := herr hr
    simp only [Prod.mk.injEq] at he
    obtain ⟨rfl, he⟩ := he
    have hsame := same_fn t t hs.sized
    rw [show Same t t = true by simp [Same]] at hsame
    have r1 : r.Page = 0 := by rw [he]; rfl
    have r2 : r.Handle = 0 := by rw [he]; rfl
    have r3 : r.Data = [] := by rw [he]; rfl
    refine RL.o (by simp; rfl) (RL.g (by simp [hrb]; rfl) (RL.g (by simp; rfl) (RL.callY0 false (by simp) hsame (by simp) (by simp) ?_)))
    refine RL.g (by simp; rfl) (RL.g (by simp [r1]; rfl) (RL.g (by simp; rfl) (RL.g (by simp [r2]; rfl) (RL.g (by simp; rfl) (RL.g (by simp [r3]; rfl) (RL.g (by simp; rfl) (RL.g (by simp; rfl) (RL.o (by simp; rfl) (RL.nil ⟨_, by simp; rfl, ?_⟩)))))))))
    refine WL.cond (t := false) (by simp) (by simp) fun _ => WL.skip ?_
    refine WL.sregC (RL.call0 false told_fn (by simp) (by simp) (RL.o (by simp; rfl) (RL.g (by simp; rfl) (RL.callY0 false (by simp) hmay (by simp) (by simp) (RL.o (by simp; rfl) (RL.nil ⟨_, by simp; rfl, ?_⟩))))))
    refine WL.ret ⟨.inr rfl, ?_⟩
    simp [fi9]

set_option maxHeartbeats 4000000 in
set_option maxRecDepth 10000 in
theorem errors_law (l : List Cl) (c : Cl) (hl : l.length ≤ 9223372036854775807) (hld : ∀ x ∈ l, x.op.Data.length ≤ 9223372036854775807) (hcd : c.op.Data.length ≤ 9223372036854775807) : FnC Try.prog 9 [] [sCl l, encCl false c] [] (bl true) := by
  refine FnC.go ok9 rfl ?_
  refine WL.sreg (by simp; rfl) (by simp; rfl) ?_
  refine WL.seq (WL.sreg (by simp; rfl) (by simp; rfl) ?_)
  by_cases h40 : 40 < c.op.Data.length
  · have h40' : (40 : Int) < c.op.Data.length := by omega
    refine WL.cond (t := true) (by simp [h40']) (fun _ => ?_) (by simp)
    refine WL.sregC (RL.call0 false told_fn (by simp) (by simp) (RL.o (by simp; rfl) (RL.nil ⟨_, by simp; rfl, ?_⟩)))
    refine WL.ret ⟨.inr rfl, ?_⟩
    simp [fi9]
  have h40' : ¬ (40 : Int) < c.op.Data.length := by omega
  refine WL.cond (t := false) (by simp [h40']) (by simp) fun _ => WL.skip ?_
  refine WL.sregC (RL.newC 5 3 (by simp) (RL.o (by simp; rfl) (RL.nil ⟨_, by simp; rfl, ?_⟩)))
  refine WL.seq (WL.sreg (by simp; rfl) (by simp; rfl) ?_)
  have hN : ∃ N, N = min l.length 60 := ⟨_, rfl⟩
  obtain ⟨N, hN⟩ := hN
  refine WL.block (WL.count N (fun i => erS l c i) (fun _ => True) rfl trivial fun i hi _ => ?_)
  by_cases h : i < N
  · have h1 : i < l.length := by omega
    have h1' : (i : Int) < (l.length : Int) := by omega
    have h2 : (i : Int) < 60 := by omega
    have h2' : i < 60 := by omega
    have hS : Small 60 := by unfold Small; omega
    have hfm := fm_drop h1
    have hfl : 7 ≤ l.length * 7 - i * 7 := by omega
    refine WL.seq (WL.sreg (by simp [erS, h1, h2, h2']; rfl) (by simp; rfl) ?_)
    refine WL.cond (t := true) (by simp) (fun _ => WL.skip ?_) (by simp)
    refine WL.seq (WL.block (WL.seq (WL.sreg (by simp [h1, hfm]; rfl) (by simp; rfl) ?_)))
    by_cases hd : 40 < l[i].op.Data.length
    · have hd' : (40 : Int) < l[i].op.Data.length := by omega
      refine WL.cond (t := true) (by simp [hd']) (fun _ => ?_) (by simp)
      refine WL.sregC (RL.call0 false told_fn (by simp) (by simp) (RL.o (by simp; rfl) (RL.nil ⟨_, by simp; rfl, ?_⟩)))
      refine WL.ret ⟨.inr rfl, ?_⟩
      simp [fi9]
    · have hd' : ¬ (40 : Int) < l[i].op.Data.length := by omega
      refine WL.cond (t := false) (by simp [hd']) (by simp) fun _ => WL.skip ?_
      refine WL.sregC (RL.o (by simp [h1, hfm]; rfl) (RL.call0 false (near_fn l[i] 5 3 (by decide) (by decide) (by decide) (by decide) (by omega)) (by simp) (by simp) ?_))
      have hes : es l (i + 1) = (DoB (es l i) (nearC l[i] 5 3).Client (nearC l[i] 5 3).op).2.1 := by simp [es, h1]
      generalize nearC l[i] 5 3 = x at hes ⊢
      refine RL.o (by simp; rfl) (RL.nil ⟨_, by simp; rfl, ?_⟩)
      refine WL.reg ?_
      refine RL.o (by simp; rfl) (RL.doC (es l i) (es_ok l i).sized x.Client x.op (by simp) ?_)
      generalize DoB (es l i) x.Client x.op = dd at hes ⊢
      obtain ⟨o', s', r⟩ := dd
      simp only at hes ⊢
      refine RL.o (by simp; rfl) (RL.nil ⟨_, by simp; rfl, ?_⟩)
      refine WL.reg (RL.run (by simp [wrap_succ hS h2']; rfl) ⟨_, by simp; rfl, h, ?_, trivial⟩)
      simp [erS, hes]
  · by_cases h1 : i < l.length
    · have h2 : ¬ (i : Int) < 60 := by omega
      have h2' : ¬ i < 60 := by omega
      refine WL.seq (WL.sreg (by simp [erS, h1, h2, h2']; rfl) (by simp; rfl) ?_)
      refine WL.cond (t := false) (by simp) (by simp) fun _ => WL.exit ?_
      exact err_tail l c i (es l i) (es_ok l i) (by omega)
    · refine WL.seq (WL.sreg (by simp [erS, h1]; rfl) (by simp; rfl) ?_)
      refine WL.cond (t := false) (by simp) (by simp) fun _ => WL.exit ?_
      exact err_tail l c i (es l i) (es_ok l i) (by omega)
end Go.OT
/-
  A register's content, whatever it owns, is moved on.
-/
set_option linter.unusedSimpArgs false
set_option linter.unusedVariables false
namespace Go.OT

theorem bind_some' {α β : Type} {x : Option α} {f : α → Option β} {y : β} (h : x.bind f = some y) : ∃ a, x = some a ∧ f a = some y := Option.bind_eq_some_iff.1 h
theorem map_some' {α β : Type} {x : Option α} {f : α → β} {y : β} (h : x.map f = some y) : ∃ a, x = some a ∧ f a = y := Option.map_eq_some_iff.1 h

theorem compCall_mov {P : Program} {nt : Nat} {o : Oper} {c : Call} {d n : Nat} (h : compCall P nt o c = some (.mov d (.t n))) : False := by
  unfold compCall at h
  obtain ⟨d', _, h⟩ := bind_some' h
  split at h
  · obtain ⟨c, _, h⟩ := bind_some' h
    split at h <;> cases h
  · obtain ⟨c, _, h⟩ := bind_some' h
    obtain ⟨b, _, h⟩ := map_some' h
    cases h
  · obtain ⟨c, _, h⟩ := bind_some' h
    obtain ⟨b, _, h⟩ := map_some' h
    cases h
  · obtain ⟨c, _, h⟩ := bind_some' h
    obtain ⟨b, _, h⟩ := bind_some' h
    split at h
    · split at h
      · obtain ⟨i, _, h⟩ := bind_some' h
        obtain ⟨z, _, h⟩ := bind_some' h
        split at h <;> cases h
      · cases h
    · cases h
  · obtain ⟨c, _, h⟩ := bind_some' h
    obtain ⟨b, _, h⟩ := bind_some' h
    split at h
    · obtain ⟨i, _, h⟩ := bind_some' h
      split at h <;> cases h
    · cases h
  · cases h

theorem compO_mov {P : Program} {nt : Nat} {here : List Nat} {o : Oper} {d n : Nat} (h : compO P nt here o = some (.mov d (.t n))) : opsIn nt o = true ∧ ∃ x, (o.op = .move x ∨ o.op = .assign x) ∧ ∃ sz, compOd nt sz x = some (.t n) := by
  unfold compO at h
  split at h
  · rename_i hc
    refine ⟨hc.1, ?_⟩
    split at h
    · rename_i x hop
      obtain ⟨d', _, h⟩ := bind_some' h
      obtain ⟨c, hx, h⟩ := map_some' h
      cases h
      exact ⟨x, .inl hop, _, hx⟩
    · rename_i x hop
      obtain ⟨d', _, h⟩ := bind_some' h
      obtain ⟨c, hx, h⟩ := map_some' h
      split at h
      · split at h
        · cases h
        · cases h; exact ⟨x, .inr hop, _, hx⟩
      · cases h
    · exfalso
      obtain ⟨_, _, h⟩ := bind_some' h
      obtain ⟨_, _, h⟩ := map_some' h
      cases h
    · exfalso
      obtain ⟨_, _, h⟩ := bind_some' h
      obtain ⟨_, _, h⟩ := bind_some' h
      obtain ⟨_, _, h⟩ := bind_some' h
      obtain ⟨_, _, h⟩ := map_some' h
      cases h
    · exfalso
      obtain ⟨_, _, h⟩ := bind_some' h
      obtain ⟨_, _, h⟩ := map_some' h
      cases h
    · exfalso
      obtain ⟨_, _, h⟩ := bind_some' h
      obtain ⟨_, _, h⟩ := bind_some' h
      split at h
      · cases h
      · obtain ⟨_, _, h⟩ := bind_some' h
        split at h
        · split at h
          · cases h
          · split at h <;> cases h
        · cases h
    · exfalso
      obtain ⟨_, _, h⟩ := bind_some' h
      obtain ⟨_, _, h⟩ := bind_some' h
      split at h
      · cases h
      · split at h <;> cases h
      · split at h
        · split at h <;> cases h
        · cases h
      · split at h <;> cases h
      · cases h
    · exfalso
      obtain ⟨_, _, h⟩ := bind_some' h
      obtain ⟨_, _, h⟩ := bind_some' h
      obtain ⟨_, _, h⟩ := bind_some' h
      obtain ⟨_, _, h⟩ := bind_some' h
      split at h <;> cases h
    · exfalso
      obtain ⟨_, _, h⟩ := bind_some' h
      obtain ⟨_, _, h⟩ := bind_some' h
      split at h
      · obtain ⟨_, _, h⟩ := bind_some' h
        obtain ⟨_, _, h⟩ := bind_some' h
        split at h <;> cases h
      · cases h
    · exfalso
      obtain ⟨_, _, h⟩ := bind_some' h
      obtain ⟨_, _, h⟩ := bind_some' h
      obtain ⟨_, _, h⟩ := bind_some' h
      split at h
      · obtain ⟨_, _, h⟩ := map_some' h
        cases h
      · cases h
    · exfalso
      obtain ⟨_, _, h⟩ := bind_some' h
      obtain ⟨_, _, h⟩ := bind_some' h
      obtain ⟨_, _, h⟩ := bind_some' h
      obtain ⟨_, _, h⟩ := bind_some' h
      split at h
      · obtain ⟨_, _, h⟩ := map_some' h
        cases h
      · cases h
      · cases h
    · exfalso
      obtain ⟨_, _, h⟩ := bind_some' h
      obtain ⟨_, _, h⟩ := bind_some' h
      obtain ⟨_, _, h⟩ := bind_some' h
      split at h <;> cases h
    · exfalso
      split at h
      · obtain ⟨_, _, h⟩ := bind_some' h
        obtain ⟨_, _, h⟩ := bind_some' h
        obtain ⟨_, _, h⟩ := map_some' h
        cases h
      · cases h
    · exfalso
      obtain ⟨_, _, h⟩ := map_some' h
      cases h
    · exfalso
      obtain ⟨_, _, h⟩ := bind_some' h
      obtain ⟨_, _, h⟩ := map_some' h
      cases h
    · exfalso
      obtain ⟨_, _, h⟩ := bind_some' h
      obtain ⟨_, _, h⟩ := bind_some' h
      split at h <;> cases h
    · exfalso
      obtain ⟨_, _, h⟩ := bind_some' h
      obtain ⟨_, _, h⟩ := bind_some' h
      obtain ⟨_, _, h⟩ := bind_some' h
      split at h <;> cases h
    · exfalso
      obtain ⟨_, _, h⟩ := bind_some' h
      obtain ⟨_, _, h⟩ := bind_some' h
      obtain ⟨_, _, h⟩ := bind_some' h
      split at h
      · obtain ⟨_, _, h⟩ := bind_some' h
        obtain ⟨_, _, h⟩ := bind_some' h
        split at h <;> cases h
      · cases h
    · exfalso
      obtain ⟨_, _, h⟩ := bind_some' h
      split at h
      · obtain ⟨_, _, h⟩ := bind_some' h
        split at h
        · obtain ⟨_, _, h⟩ := bind_some' h
          split at h <;> cases h
        · cases h
      · split at h
        · obtain ⟨_, _, h⟩ := map_some' h
          cases h
        · cases h
      · split at h
        · obtain ⟨_, _, h⟩ := bind_some' h
          obtain ⟨_, _, h⟩ := bind_some' h
          split at h <;> cases h
        · cases h
    · exfalso
      obtain ⟨_, _, h⟩ := bind_some' h
      split at h
      · obtain ⟨_, _, h⟩ := map_some' h
        cases h
      · cases h
    · exfalso
      obtain ⟨_, _, h⟩ := bind_some' h
      obtain ⟨_, _, h⟩ := bind_some' h
      split at h
      · obtain ⟨_, _, h⟩ := bind_some' h
        split at h <;> cases h
      · cases h
    · exfalso
      exact compCall_mov h
    · exfalso
      cases h
  · cases h

theorem ok_mvr {C : Ctx} {o : Oper} {X : XF Unit} {d n sz : Nat} {x : Operand} (ho : o.op = .move x ∨ o.op = .assign x) (hd : o.dst = some d) (hlt : d < C.nt) (hin : opsIn C.nt o = true) (hc : compOd C.nt sz x = some (.t n)) (hne : d ≠ n) :
    OpOk C o X ((X.set (100 * d) (X (100 * n)).2).set (100 * n) .non) :=
  OpOk.of_val hd hlt hin fun XL β I rg w he R => by
    subst he
    have hx : x = .tmp n := by
      cases x with
      | tmp t =>
        simp only [compOd] at hc
        split at hc
        · simp only [Option.some.injEq, COd.t.injEq] at hc; rw [hc]
        · cases hc
      | const v => simp only [compOd] at hc; split at hc <;> cases hc
      | func f => cases hc
      | global g => cases hc
    subst hx
    have R1 := R.moveR d n (by have := C.hnt; omega) hne
    refine ⟨rg n, w, _, β, I, _, ?_, ?_, R1, by simp, fun t h1 _ => by simp [h1]⟩
    · rcases ho with ho | ho <;> simp [execOp, ho, evR]
    · rw [erF_set, erF_set]; rfl

/-- What a register holds is moved on, whatever it owns. -/
theorem RL.mv {P : Program} {nt : Nat} {L : SL} {K : SL → Prop} {l : List COp} {rest : List Sg} {d n : Nat} (hne : d ≠ n) (h : RL P nt (.o l :: rest) (setL (setL L (100 * d) (fnL L (100 * n)).2) (100 * n) .non) K) : RL P nt (.o (.mov d (.t n) :: l) :: rest) L K :=
  RL.cons (it := .op none (.mov d (.t n))) (rest := .o l :: rest) (by simp [flatS]) (fun C ops i o hP hn hi hit => by
    obtain ⟨h1, h2, h3⟩ := itOf_op hit
    subst hP hn
    obtain ⟨hin, x, hop, sz, hx⟩ := compO_mov h2
    rcases h3 with ⟨_, _, _, e, _⟩ | ⟨h4, h5, _⟩
    · cases e
    · have := ok_mvr (X := fnL L) hop h4 h5 hin hx hne
      rw [fnL_set, fnL_set] at this
      exact SOk.op hi (compGd_none h1) this) h
theorem compCall_box {P : Program} {nt : Nat} {o : Oper} {c : Call} {d n : Nat} (h : compCall P nt o c = some (.box d (.t n))) : False := by
  unfold compCall at h
  obtain ⟨d', _, h⟩ := bind_some' h
  split at h
  · obtain ⟨c, _, h⟩ := bind_some' h
    split at h <;> cases h
  · obtain ⟨c, _, h⟩ := bind_some' h
    obtain ⟨b, _, h⟩ := map_some' h
    cases h
  · obtain ⟨c, _, h⟩ := bind_some' h
    obtain ⟨b, _, h⟩ := map_some' h
    cases h
  · obtain ⟨c, _, h⟩ := bind_some' h
    obtain ⟨b, _, h⟩ := bind_some' h
    split at h
    · split at h
      · obtain ⟨i, _, h⟩ := bind_some' h
        obtain ⟨z, _, h⟩ := bind_some' h
        split at h <;> cases h
      · cases h
    · cases h
  · obtain ⟨c, _, h⟩ := bind_some' h
    obtain ⟨b, _, h⟩ := bind_some' h
    split at h
    · obtain ⟨i, _, h⟩ := bind_some' h
      split at h <;> cases h
    · cases h
  · cases h

theorem compO_box {P : Program} {nt : Nat} {here : List Nat} {o : Oper} {d n : Nat} (h : compO P nt here o = some (.box d (.t n))) : opsIn nt o = true ∧ ∃ e x, o.op = .box e x ∧ compOd nt 0 x = some (.t n) := by
  unfold compO at h
  split at h
  · rename_i hc
    refine ⟨hc.1, ?_⟩
    split at h
    · exfalso
      obtain ⟨_, _, h⟩ := bind_some' h
      obtain ⟨_, _, h⟩ := map_some' h
      cases h
    · exfalso
      obtain ⟨_, _, h⟩ := bind_some' h
      obtain ⟨_, _, h⟩ := map_some' h
      split at h
      · split at h <;> cases h
      · cases h
    · exfalso
      obtain ⟨_, _, h⟩ := bind_some' h
      obtain ⟨_, _, h⟩ := map_some' h
      cases h
    · exfalso
      obtain ⟨_, _, h⟩ := bind_some' h
      obtain ⟨_, _, h⟩ := bind_some' h
      obtain ⟨_, _, h⟩ := bind_some' h
      obtain ⟨_, _, h⟩ := map_some' h
      cases h
    · exfalso
      obtain ⟨_, _, h⟩ := bind_some' h
      obtain ⟨_, _, h⟩ := map_some' h
      cases h
    · exfalso
      obtain ⟨_, _, h⟩ := bind_some' h
      obtain ⟨_, _, h⟩ := bind_some' h
      split at h
      · cases h
      · obtain ⟨_, _, h⟩ := bind_some' h
        split at h
        · split at h
          · cases h
          · split at h <;> cases h
        · cases h
    · exfalso
      obtain ⟨_, _, h⟩ := bind_some' h
      obtain ⟨_, _, h⟩ := bind_some' h
      split at h
      · cases h
      · split at h <;> cases h
      · split at h
        · split at h <;> cases h
        · cases h
      · split at h <;> cases h
      · cases h
    · exfalso
      obtain ⟨_, _, h⟩ := bind_some' h
      obtain ⟨_, _, h⟩ := bind_some' h
      obtain ⟨_, _, h⟩ := bind_some' h
      obtain ⟨_, _, h⟩ := bind_some' h
      split at h <;> cases h
    · exfalso
      obtain ⟨_, _, h⟩ := bind_some' h
      obtain ⟨_, _, h⟩ := bind_some' h
      split at h
      · obtain ⟨_, _, h⟩ := bind_some' h
        obtain ⟨_, _, h⟩ := bind_some' h
        split at h <;> cases h
      · cases h
    · exfalso
      obtain ⟨_, _, h⟩ := bind_some' h
      obtain ⟨_, _, h⟩ := bind_some' h
      obtain ⟨_, _, h⟩ := bind_some' h
      split at h
      · obtain ⟨_, _, h⟩ := map_some' h
        cases h
      · cases h
    · exfalso
      obtain ⟨_, _, h⟩ := bind_some' h
      obtain ⟨_, _, h⟩ := bind_some' h
      obtain ⟨_, _, h⟩ := bind_some' h
      obtain ⟨_, _, h⟩ := bind_some' h
      split at h
      · obtain ⟨_, _, h⟩ := map_some' h
        cases h
      · cases h
      · cases h
    · exfalso
      obtain ⟨_, _, h⟩ := bind_some' h
      obtain ⟨_, _, h⟩ := bind_some' h
      obtain ⟨_, _, h⟩ := bind_some' h
      split at h <;> cases h
    · exfalso
      split at h
      · obtain ⟨_, _, h⟩ := bind_some' h
        obtain ⟨_, _, h⟩ := bind_some' h
        obtain ⟨_, _, h⟩ := map_some' h
        cases h
      · cases h
    · exfalso
      obtain ⟨_, _, h⟩ := map_some' h
      cases h
    · rename_i e x hop
      obtain ⟨d', _, h⟩ := bind_some' h
      obtain ⟨c, hx, h⟩ := map_some' h
      cases h
      exact ⟨e, x, hop, hx⟩
    · exfalso
      obtain ⟨_, _, h⟩ := bind_some' h
      obtain ⟨_, _, h⟩ := bind_some' h
      split at h <;> cases h
    · exfalso
      obtain ⟨_, _, h⟩ := bind_some' h
      obtain ⟨_, _, h⟩ := bind_some' h
      obtain ⟨_, _, h⟩ := bind_some' h
      split at h <;> cases h
    · exfalso
      obtain ⟨_, _, h⟩ := bind_some' h
      obtain ⟨_, _, h⟩ := bind_some' h
      obtain ⟨_, _, h⟩ := bind_some' h
      split at h
      · obtain ⟨_, _, h⟩ := bind_some' h
        obtain ⟨_, _, h⟩ := bind_some' h
        split at h <;> cases h
      · cases h
    · exfalso
      obtain ⟨_, _, h⟩ := bind_some' h
      split at h
      · obtain ⟨_, _, h⟩ := bind_some' h
        split at h
        · obtain ⟨_, _, h⟩ := bind_some' h
          split at h <;> cases h
        · cases h
      · split at h
        · obtain ⟨_, _, h⟩ := map_some' h
          cases h
        · cases h
      · split at h
        · obtain ⟨_, _, h⟩ := bind_some' h
          obtain ⟨_, _, h⟩ := bind_some' h
          split at h <;> cases h
        · cases h
    · exfalso
      obtain ⟨_, _, h⟩ := bind_some' h
      split at h
      · obtain ⟨_, _, h⟩ := map_some' h
        cases h
      · cases h
    · exfalso
      obtain ⟨_, _, h⟩ := bind_some' h
      obtain ⟨_, _, h⟩ := bind_some' h
      split at h
      · obtain ⟨_, _, h⟩ := bind_some' h
        split at h <;> cases h
      · cases h
    · exfalso
      exact compCall_box h
    · exfalso
      cases h
  · cases h


section
variable {C : Ctx} {X : XF LO} {β : Nat → Nat × Nat} {I : ASet} {rg : Nat → Value} {w : World}
theorem newbox_okW (R : RelL C X β I rg w) (d : Nat) (hd : d < 10000) (e : TypeId) (cs : List AL) (xs : List Value) (hV : (X (100 * H)).2 = .agg cs ∨ (cs = [(X (100 * H)).2] ∧ treeV (X (100 * H)).2 = true)) (ht : ∀ c ∈ cs, treeV c = true ∨ isVw c = true)
    (hx : (rg H).cells.toList = xs) :
    RelL C (((X.box d cs).set (100 * H) .non).set (100 * d) (.bptr d ((X (100 * d + 99)).1 + 1) 0)) (fun j => if j = d then (w.heap.size, 0) else β j) I
      (fun s => if s = d then .pointer (some ⟨w.heap.size, 0, none⟩) else rg s) { w with heap := w.heap.push (.cells xs.toArray e (0, 0)) } := by
  have hk := R.key (100 * H)
  have hr := R.reg H
  have hfacts : (∀ b o, fpL cs b o → fp (X (100 * H)).2 b o) ∧ MemA w I cs ∧ SepL cs ∧ cs.length = xs.length ∧ ∀ (i : Nat) (c : AL) (x : Value), cs[i]? = some c → xs[i]? = some x → RR X β c x := by
    have hm := hk.mem
    have hs := hk.sep
    rcases hV with hV | ⟨hV, h'⟩
    · rw [hV] at hm hs hr ⊢
      simp only [Mem] at hm
      simp only [Sep] at hs
      simp only [RR] at hr
      obtain ⟨ys, hys, hRL⟩ := hr
      rw [hys] at hx
      simp only [Value.cells] at hx
      subst hx
      exact ⟨fun b o h => by simpa [fp] using h, hm, hs, by simpa using (RRL_iff.1 hRL).1, (RRL_iff.1 hRL).2⟩
    · have hcr := CR_of_RR h' hr
      rw [cellsOf_oneCell (oneCell_of_CR h' hcr)] at hx
      simp only at hx
      subst hx hV
      refine ⟨fun b o h => by simpa [fpL] using h, by simp only [MemA]; exact ⟨hm, trivial⟩, by simp only [SepL]; exact ⟨hs, trivial, fun _ _ _ h => by simp [fpL] at h⟩, rfl, fun i c x hc hx => ?_⟩
      cases i with
      | zero => simp at hc hx; subst hc hx; exact hr
      | succ i => simp at hc
  obtain ⟨f1, f2, f3, f4, f5⟩ := hfacts
  have R1 := R.newbox d H hd e cs xs f1 f2 f3 f4 (fun i c x hc hx => (ht c (List.mem_of_getElem? hc)).imp (fun h => CR_of_RR h (f5 i c x hc hx)) fun h => ⟨h, f5 i c x hc hx⟩)
  refine R1.setR d hd rfl (by simp [Mem]) ?_
  simp only [RR]
  have hg : ((X.box d cs).set (100 * H) .non (100 * d + 99)).1 = (X (100 * d + 99)).1 + 1 := by
    rw [XF.set_ne _ _ (by unfold H; omega)]
    simp only [XF.box]
    rw [if_pos ⟨by omega, by omega⟩, if_pos (by omega)]
  rw [hg]
  exact ⟨Nat.le_refl _, fun _ => by simp⟩
end

theorem isVw_er (v : AL) : (match er v with | .view _ _ _ _ _ => true | .ptr _ _ _ _ => true | .bptr _ _ _ => true | _ => false) = isVw v := by cases v <;> simp [er, isVw]

/-- What a register holds is copied into a new box: what it borrows stays borrowed. -/
theorem ok_boxW {C : Ctx} {o : Oper} {X : XF Unit} {d n : Nat} {e : TypeId} {x : Operand} {vs : List AU} (ho : o.op = .box e x) (hd : o.dst = some d) (hlt : d < C.nt) (hin : opsIn C.nt o = true) (hnt : C.nt ≤ H)
    (hc : compOd C.nt 0 x = some (.t n)) (hv : (X (100 * n)).2 = .agg vs) (hno : noOwnL vs = true) (hall : vs.all (fun v => treeV v || isVw v) = true) : OpOk C o X (allocV X d vs) :=
  OpOk.of_val hd hlt hin fun XL β I rg w he R => by
    subst he
    have hx : x = .tmp n ∧ n < C.nt := by
      cases x with
      | tmp t =>
        simp only [compOd] at hc
        split at hc
        · rename_i h; simp only [Option.some.injEq, COd.t.injEq] at hc; subst hc; exact ⟨rfl, h⟩
        · cases hc
      | const v => simp only [compOd] at hc; split at hc <;> cases hc
      | func f => cases hc
      | global g => cases hc
    obtain ⟨rfl, hnlt⟩ := hx
    obtain ⟨lvs, hx, hl⟩ := er_agg (lv := (XL (100 * n)).2) hv
    have hd1 : d < 10000 := by unfold H at hnt; omega
    have hmem := (R.key (100 * n)).mem
    have hreg := R.reg n
    rw [hx] at hmem hreg
    have hnoL : noOwn (.agg lvs : AL) = true := by
      rw [← er_noOwn]
      simp only [er, erL_eq, hl, noOwn, hno]
    have R0 := R.setR H (by decide) hnoL hmem hreg
    have R2 := newbox_okW R0 d hd1 e lvs (rg n).cells.toList (.inl (by rw [XF.set_self])) (fun c hc => by
      rw [List.all_eq_true] at hall
      have := hall (er c) (by rw [← hl]; exact List.mem_map_of_mem hc)
      simp only [Bool.or_eq_true] at this
      rcases this with h | h
      · exact .inl (by rw [← er_treeV]; exact h)
      · right
        cases c <;> simp [er, isVw] at h <;> rfl) (by simp)
    refine ⟨.pointer (some ⟨w.heap.size, 0, none⟩), { w with heap := w.heap.push (.cells (rg n).cells.toList.toArray e (0, 0)) }, _, _, _, _, ?_, ?_, R2, by simp, fun t ht1 ht2 => by simp only [if_neg ht1]; rw [if_neg (by unfold H at hnt ⊢; omega)]⟩
    · simp only [execOp, ho, evR, Instr.box, newVar, newRow, newObj, Sem.run_bind, Sem.run_pure, Sem.run]
      simp
    · rw [erF_set, erF_set, erF_box, erF_set]
      simp only [allocV, finB, er, erL_eq, hl]
      congr 2
      rw [XF.set_ne _ _ (by unfold H; omega)]; rfl

theorem fnL_allocV {L : SL} {d : Nat} {vs : List AU} (h : vs.length ≤ 98) : allocV (fnL L) d vs = fnL (finBL (boxM d vs (setL L (100 * H) (.agg vs))) d ((fnL L (100 * d + 99)).1 + 1)) :=
  allocS_ok (by unfold allocS; rw [if_pos h])

theorem RL.boxW {P : Program} {nt : Nat} {L : SL} {K : SL → Prop} {l : List COp} {rest : List Sg} {d n : Nat} {vs : List AU} (hv : (fnL L (100 * n)).2 = .agg vs) (hno : noOwnL vs = true) (hall : vs.all (fun v => treeV v || isVw v) = true) (hlen : vs.length ≤ 98)
    (h : RL P nt (.o l :: rest) (finBL (boxM d vs (setL L (100 * H) (.agg vs))) d ((fnL L (100 * d + 99)).1 + 1)) K) : RL P nt (.o (.box d (.t n) :: l) :: rest) L K :=
  RL.cons (it := .op none (.box d (.t n))) (rest := .o l :: rest) (by simp [flatS]) (fun C ops i o hP hn hi hit => by
    obtain ⟨h1, h2, h3⟩ := itOf_op hit
    subst hP hn
    obtain ⟨hin, e, x, hop, hx⟩ := compO_box h2
    rcases h3 with ⟨_, _, _, e, _⟩ | ⟨h4, h5, _⟩
    · cases e
    · have hnt : C.nt ≤ H := by have := C.hnt; unfold H; omega
      have := ok_boxW (X := fnL L) hop h4 h5 hin hnt hx hv hno hall
      rw [fnL_allocV hlen] at this
      exact SOk.op hi (compGd_none h1) this) h
end Go.OT
