/- The statement ModelErrors: with an error nothing has changed, and what is given in is not changed: any calls near what may be, then any raw one; without conditions. -/
import Derived.Orders
import Derived.Below
import Derived.Laws.Entries
import Derived.Laws.Cells
import Derived.Laws.IdiomCopy
import Derived.Scope
import Derived.Calls
import Derived.Laws.Tables
import Derived.Laws.MakeOwn
import Derived.Laws.BytesString
import Derived.ArgAppend
import Derived.WalkSpells
import Derived.Lib.SlBytesConst
import Derived.Lib.ConvBytes
import Derived.Test.YtpdigppbokpdkaaProg
import Derived.KernelRfl
import Derived.IntWalk
import Derived.Lib.Strings
import Derived.WalkKit
import Derived.ProofKit
import Derived.OpenShut
import Derived.ShutString
import Derived.ChangeOld
import Derived.Lib.SmallJoins
import Derived.Test.YtpdigppbokpdkaaRows
import Derived.Test.YtpdigppbokpdkaaEr09
set_option linter.unusedSimpArgs false
set_option linter.unusedVariables false
namespace Go.Proofs.Ytpdigppbokpdkaa
open Go.ChangeShapes Go.WideShapes Go.ChangeAt Go.RowKit Go.Joins Go.OT
set_option linter.unusedVariables false

theorem modelErrors_own : ownKnob Try.prog.godebug = none := by kernel_rfl
theorem modelErrors_laid : laidOutB Try.prog = true := by kernel_rfl
theorem modelErrors_read : ((Try.f9.params.toList).all fun t => Try.prog.readableRec t && decide (t < Try.prog.types.size)) = true := by kernel_rfl

set_option maxRecDepth 100000 in
theorem modelErrors_lifted (os : Os) (started : os.Started) (H : Type) (enc : TypeId × Value → H) :
    ReturnsInHanded {} Try.checked os 9 .any (Rows.modelErrorsSpec.pre6 enc Try.prog Try.f9 Rows.modelErrorsRow.domain false) (Rows.modelErrorsSpec.post enc Try.prog Try.f9 false true false false) := by
  refine returnsInHanded_of_change (C := Try.checked) modelErrors_own started (by kernel_rfl) Try.func9
    (ChangeSpec.witness6 (enc := enc) (C := Try.checked) false ⟨#[], #[.slice none 0 0, .agg #[.int .i64 0, .int .i64 0, .int .i64 0, .int .i64 0, .int .i64 0, .int .i64 0, .slice none 0 0]], []⟩ 8 (by kernel_rfl) (by kernel_rfl) (by kernel_rfl) (by kernel_rfl)) ?_
  intro W base args ds gs before hval0 hW hcnd _
  have hval : ∀ (j : Nat) t v, Try.f9.params[j]? = some t → args[j]? = some v → Value.okWide Try.prog W .any base t v := hval0
  have hW' := hW
  obtain ⟨p, q, hA0, hV, rfl, hfz, hnd⟩ := hW
  have hA : DataW.TrodAll enc Try.prog W 0 (fun _ => true) true Try.f9.params.toList args.toList ds p := hA0
  have hB := hA
  rw [Try.params9] at hA hval
  obtain ⟨v0, vs0, d0, ds0, p0, q0, hargs, rfl, rfl, h0, r0⟩ := trodAll_cons hA
  obtain ⟨v1, vs1, d1, ds1, p1, q1, rfl, rfl, rfl, h1, r1⟩ := trodAll_cons r0
  obtain ⟨rfl, rfl, rfl⟩ := trodAll_nil r1
  obtain rfl : args = #[v0, v1] := by cases args; simp_all
  obtain ⟨rfl, rfl⟩ := trodVars_none hV
  obtain ⟨a0, l0, e0, k0, rr0, mm0, no0, ro0⟩ := ta58 H enc W .any base v0 d0 p0 (hval 0 _ v0 rfl rfl) h0
  obtain ⟨a1, l1, e1, k1, rr1, mm1, no1, ro1⟩ := ta61 H enc W .any base v1 d1 p1 (hval 1 _ v1 rfl rfl) h1
  have hwalk : Calls Try.prog 9 #[v0, v1] W fun e w' => e = .returned (.bool true) ∧ Below W.heap.size W w' := by
    refine Fn.law ((fun (l : List Cl) (c : Cl) (h : l.length ≤ 9223372036854775807 ∧ ∀ c ∈ l, c.op.Data.length ≤ 9223372036854775807) (h2 : c.op.Data.length ≤ 9223372036854775807) => errors_law l c h.1 h.2 h2) a0 a1 k0 k1).1 (Wc W) [l0, l1] (fun _ _ h => Wc_lt h) rfl (by simp) (by simp only [List.map_cons, List.map_nil, e0, e1]) fun t la h => ?_
    match t, h with
    | 0, h => simp at h; subst h; exact ⟨rr0, mm0, no0, ro0⟩
    | 1, h => simp at h; subst h; exact ⟨rr1, mm1, no1, ro1⟩
    | t + 2, h => simp at h
  clear hA0 hval0
  refine hwalk.mono fun e W' ⟨he, bel⟩ => ?_
  subst he
  exact ⟨_, rfl, _, _, _, [], _, [], hW', trodAll_mk1 (shut_bool Try.underlying4 _), below_all modelErrors_laid bel modelErrors_read hB, rfl, bel.frame _, fun h => by cases h⟩

theorem modelErrors_over : Rows.modelErrorsRow.holds Try.pinned (OpenSpec.ofChange Rows.modelErrorsSpec) :=
  OpenClaim.holds_of_wide 9 Try.f9 rfl rfl rfl rfl rfl rfl rfl ⟨rfl, rfl, rfl, rfl, rfl⟩ rfl rfl rfl rfl rfl (by kernel_rfl) Try.func9 (by kernel_rfl)
    (of_decide_eq_true (by kernel_rfl)) (by unfold Func.isWrapper; first | (rw [if_pos (by decide +kernel)]; kernel_rfl) | (rw [if_neg (by decide +kernel)]; exact ⟨rfl, rfl⟩))
    (fun os started H enc _ => modelErrors_lifted os started H enc)

theorem modelErrors : Rows.ModelErrorsSaid := modelErrors_over
#print axioms modelErrors
end Go.Proofs.Ytpdigppbokpdkaa
