/- Part 11 of the proof: see its last file. -/
import Derived.Orders
import Derived.Below
import Derived.Laws.Entries
import Derived.Laws.Cells
import Derived.Laws.IdiomCopy
import Derived.Scope
import Derived.Calls
import Derived.Laws.Tables
import Derived.Laws.MakeOwn
import Derived.Laws.BytesString
import Derived.ArgAppend
import Derived.WalkSpells
import Derived.Lib.SlBytesConst
import Derived.Lib.ConvBytes
import Derived.WalkKit
import Derived.ProofKit
import Derived.OpenShut
import Derived.ShutString
import Derived.ChangeOld
import Derived.Lib.SmallJoins
import Derived.Test.YtlcemfnjhdcmoaaProg
import Derived.KernelRfl
import Derived.IntWalk
import Derived.Lib.Strings
import Derived.Test.YtlcemfnjhdcmoaaRows
import Derived.Test.YtlcemfnjhdcmoaaHd10
set_option linter.unusedSimpArgs false
set_option linter.unusedVariables false
namespace Go.Proofs.Ytlcemfnjhdcmoaa
open Go.ChangeShapes Go.WideShapes Go.ChangeAt Go.RowKit Go.Joins Go.OT
set_option linter.unusedVariables false
theorem histMakes_own : ownKnob Try.prog.godebug = none := by kernel_rfl
theorem histMakes_laid : laidOutB Try.prog = true := by kernel_rfl
theorem histMakes_read : ((Try.f7.params.toList).all fun t => Try.prog.readableRec t && decide (t < Try.prog.types.size)) = true := by kernel_rfl
set_option maxRecDepth 100000 in
theorem histMakes_lifted (os : Os) (started : os.Started) (H : Type) (enc : TypeId × Value → H) :
    ReturnsInHanded {} Try.checked os 7 .any (Rows.histMakesSpec.pre6 enc Try.prog Try.f7 Rows.histMakesRow.domain false) (Rows.histMakesSpec.post enc Try.prog Try.f7 false true false false) := by
  refine returnsInHanded_of_change (C := Try.checked) histMakes_own started (by kernel_rfl) Try.func7
    (ChangeSpec.witness6 (enc := enc) (C := Try.checked) false ⟨#[], #[.slice none 0 0, .slice none 0 0], []⟩ 8 (by kernel_rfl) (by kernel_rfl) (by kernel_rfl) (by kernel_rfl)) ?_
  intro W base args ds gs before hval0 hW hcnd _
  have hval : ∀ (j : Nat) t v, Try.f7.params[j]? = some t → args[j]? = some v → Value.okWide Try.prog W .any base t v := hval0
  have hW' := hW
  obtain ⟨p, q, hA0, hV, rfl, hfz, hnd⟩ := hW
  have hA : DataW.TrodAll enc Try.prog W 0 (fun _ => true) true Try.f7.params.toList args.toList ds p := hA0
  have hB := hA
  rw [Try.params7] at hA hval
  obtain ⟨v0, vs0, d0, ds0, p0, q0, hargs, rfl, rfl, h0, r0⟩ := trodAll_cons hA
  obtain ⟨v1, vs1, d1, ds1, p1, q1, rfl, rfl, rfl, h1, r1⟩ := trodAll_cons r0
  obtain ⟨rfl, rfl, rfl⟩ := trodAll_nil r1
  obtain rfl : args = #[v0, v1] := by cases args; simp_all
  obtain ⟨rfl, rfl⟩ := trodVars_none hV
  obtain ⟨a0, l0, e0, k0, rr0, mm0, no0, ro0⟩ := ta68 H enc W .any base v0 d0 p0 (hval 0 _ v0 rfl rfl) h0
  obtain ⟨a1, l1, e1, k1, rr1, mm1, no1, ro1⟩ := ta23 H enc W .any base v1 d1 p1 (hval 1 _ v1 rfl rfl) h1
  have hwalk : Calls Try.prog 7 #[v0, v1] W fun e w' => e = .returned (.bool true) ∧ Below W.heap.size W w' := by
    refine Fn.law ((fun (l : List Cl) (wt : List Int) (h : l.length ≤ 9223372036854775807 ∧ ∀ c ∈ l, c.op.Data.length ≤ 9223372036854775807) (h2 : wt.length ≤ 9223372036854775807) => histMakes_law l h.1 wt h2) a0 a1 k0 k1).1 (Wc W) [l0, l1] (fun _ _ h => Wc_lt h) rfl (by simp) (by simp only [List.map_cons, List.map_nil, e0, e1]) fun t la h => ?_
    match t, h with
    | 0, h => simp at h; subst h; exact ⟨rr0, mm0, no0, ro0⟩
    | 1, h => simp at h; subst h; exact ⟨rr1, mm1, no1, ro1⟩
    | t + 2, h => simp at h
  clear hA0 hval0
  refine hwalk.mono fun e W' ⟨he, bel⟩ => ?_
  subst he
  exact ⟨_, rfl, _, _, _, [], _, [], hW', trodAll_mk1 (shut_bool Try.underlying4 _), below_all histMakes_laid bel histMakes_read hB, rfl, bel.frame _, fun h => by cases h⟩
theorem histMakes_over : Rows.histMakesRow.holds Try.pinned (OpenSpec.ofChange Rows.histMakesSpec) :=
  OpenClaim.holds_of_wide 7 Try.f7 rfl rfl rfl rfl rfl rfl rfl ⟨rfl, rfl, rfl, rfl, rfl⟩ rfl rfl rfl rfl rfl (by kernel_rfl) Try.func7 (by kernel_rfl)
    (of_decide_eq_true (by kernel_rfl)) (by unfold Func.isWrapper; first | (rw [if_pos (by decide +kernel)]; kernel_rfl) | (rw [if_neg (by decide +kernel)]; exact ⟨rfl, rfl⟩))
    (fun os started H enc _ => histMakes_lifted os started H enc)
theorem histMakes : Rows.HistMakesSaid := histMakes_over
#print axioms histMakes
end Go.Proofs.Ytlcemfnjhdcmoaa
