/- Part 12 of the proof: see its last file. -/
import Derived.Orders
import Derived.Below
import Derived.Laws.Entries
import Derived.Laws.Cells
import Derived.Laws.IdiomCopy
import Derived.Scope
import Derived.Calls
import Derived.Laws.Tables
import Derived.Laws.MakeOwn
import Derived.Laws.BytesString
import Derived.ArgAppend
import Derived.WalkSpells
import Derived.Lib.SlBytesConst
import Derived.Lib.ConvBytes
import Derived.WalkKit
import Derived.ProofKit
import Derived.OpenShut
import Derived.ShutString
import Derived.ChangeOld
import Derived.Lib.SmallJoins
import Derived.Test.YtlcemfnjhdcmoaaProg
import Derived.KernelRfl
import Derived.IntWalk
import Derived.Lib.Strings
import Derived.Test.YtlcemfnjhdcmoaaRows
import Derived.Test.YtlcemfnjhdcmoaaHt11
set_option linter.unusedSimpArgs false
set_option linter.unusedVariables false
namespace Go.Proofs.Ytlcemfnjhdcmoaa
open Go.ChangeShapes Go.WideShapes Go.ChangeAt Go.RowKit Go.Joins Go.OT
set_option linter.unusedVariables false
theorem histTells_own : ownKnob Try.prog.godebug = none := by kernel_rfl
theorem histTells_laid : laidOutB Try.prog = true := by kernel_rfl
theorem histTells_read : ((Try.f8.params.toList).all fun t => Try.prog.readableRec t && decide (t < Try.prog.types.size)) = true := by kernel_rfl
set_option maxRecDepth 100000 in
theorem histTells_lifted (os : Os) (started : os.Started) (H : Type) (enc : TypeId × Value → H) :
    ReturnsInHanded {} Try.checked os 8 .any (Rows.histTellsSpec.pre6 enc Try.prog Try.f8 Rows.histTellsRow.domain false) (Rows.histTellsSpec.post enc Try.prog Try.f8 false true false false) := by
  refine returnsInHanded_of_change (C := Try.checked) histTells_own started (by kernel_rfl) Try.func8
    (ChangeSpec.witness6 (enc := enc) (C := Try.checked) false ⟨#[], #[.slice none 0 0, .slice none 0 0, .int .i64 0, .int .i64 0], []⟩ 8 (by kernel_rfl) (by kernel_rfl) (by kernel_rfl) (by kernel_rfl)) ?_
  intro W base args ds gs before hval0 hW hcnd _
  have hval : ∀ (j : Nat) t v, Try.f8.params[j]? = some t → args[j]? = some v → Value.okWide Try.prog W .any base t v := hval0
  have hW' := hW
  obtain ⟨p, q, hA0, hV, rfl, hfz, hnd⟩ := hW
  have hA : DataW.TrodAll enc Try.prog W 0 (fun _ => true) true Try.f8.params.toList args.toList ds p := hA0
  have hB := hA
  rw [Try.params8] at hA hval
  obtain ⟨v0, vs0, d0, ds0, p0, q0, hargs, rfl, rfl, h0, r0⟩ := trodAll_cons hA
  obtain ⟨v1, vs1, d1, ds1, p1, q1, rfl, rfl, rfl, h1, r1⟩ := trodAll_cons r0
  obtain ⟨v2, vs2, d2, ds2, p2, q2, rfl, rfl, rfl, h2, r2⟩ := trodAll_cons r1
  obtain ⟨v3, vs3, d3, ds3, p3, q3, rfl, rfl, rfl, h3, r3⟩ := trodAll_cons r2
  obtain ⟨rfl, rfl, rfl⟩ := trodAll_nil r3
  obtain rfl : args = #[v0, v1, v2, v3] := by cases args; simp_all
  obtain ⟨rfl, rfl⟩ := trodVars_none hV
  obtain ⟨a0, l0, e0, k0, rr0, mm0, no0, ro0⟩ := ta68 H enc W .any base v0 d0 p0 (hval 0 _ v0 rfl rfl) h0
  obtain ⟨a1, l1, e1, k1, rr1, mm1, no1, ro1⟩ := ta23 H enc W .any base v1 d1 p1 (hval 1 _ v1 rfl rfl) h1
  obtain ⟨a2, l2, e2, k2, rr2, mm2, no2, ro2⟩ := ta3 H enc W .any base v2 d2 p2 (hval 2 _ v2 rfl rfl) h2
  obtain ⟨a3, l3, e3, k3, rr3, mm3, no3, ro3⟩ := ta3 H enc W .any base v3 d3 p3 (hval 3 _ v3 rfl rfl) h3
  have hwalk : Calls Try.prog 8 #[v0, v1, v2, v3] W fun e w' => e = .returned (.bool true) ∧ Below W.heap.size W w' := by
    refine Fn.law ((fun (l : List Cl) (wt : List Int) (a b : Int) (h : l.length ≤ 9223372036854775807 ∧ ∀ c ∈ l, c.op.Data.length ≤ 9223372036854775807) (h2 : wt.length ≤ 9223372036854775807) => histTells_law l h.1 wt h2 a b) a0 a1 a2 a3 k0 k1).1 (Wc W) [l0, l1, l2, l3] (fun _ _ h => Wc_lt h) rfl (by simp) (by simp only [List.map_cons, List.map_nil, e0, e1, e2, e3]) fun t la h => ?_
    match t, h with
    | 0, h => simp at h; subst h; exact ⟨rr0, mm0, no0, ro0⟩
    | 1, h => simp at h; subst h; exact ⟨rr1, mm1, no1, ro1⟩
    | 2, h => simp at h; subst h; exact ⟨rr2, mm2, no2, ro2⟩
    | 3, h => simp at h; subst h; exact ⟨rr3, mm3, no3, ro3⟩
    | t + 4, h => simp at h
  clear hA0 hval0
  refine hwalk.mono fun e W' ⟨he, bel⟩ => ?_
  subst he
  exact ⟨_, rfl, _, _, _, [], _, [], hW', trodAll_mk1 (shut_bool Try.underlying4 _), below_all histTells_laid bel histTells_read hB, rfl, bel.frame _, fun h => by cases h⟩
theorem histTells_over : Rows.histTellsRow.holds Try.pinned (OpenSpec.ofChange Rows.histTellsSpec) :=
  OpenClaim.holds_of_wide 8 Try.f8 rfl rfl rfl rfl rfl rfl rfl ⟨rfl, rfl, rfl, rfl, rfl⟩ rfl rfl rfl rfl rfl (by kernel_rfl) Try.func8 (by kernel_rfl)
    (of_decide_eq_true (by kernel_rfl)) (by unfold Func.isWrapper; first | (rw [if_pos (by decide +kernel)]; kernel_rfl) | (rw [if_neg (by decide +kernel)]; exact ⟨rfl, rfl⟩))
    (fun os started H enc _ => histTells_lifted os started H enc)
theorem histTells : Rows.HistTellsSaid := histTells_over
#print axioms histTells
end Go.Proofs.Ytlcemfnjhdcmoaa
