/- Part 10 of the proof: see its last file. -/
import Derived.Orders
import Derived.Below
import Derived.Laws.Entries
import Derived.Laws.Cells
import Derived.Laws.IdiomCopy
import Derived.Scope
import Derived.Calls
import Derived.Laws.Tables
import Derived.Laws.MakeOwn
import Derived.Laws.BytesString
import Derived.ArgAppend
import Derived.WalkSpells
import Derived.Lib.SlBytesConst
import Derived.Lib.ConvBytes
import Derived.Test.YtlcemfnjhdcmoaaProg
import Derived.KernelRfl
import Derived.IntWalk
import Derived.Shelf.Spec.SlicesInsertGrow
import Derived.Shelf.Abstract
import Derived.WalkKit
import Derived.ProofKit
import Derived.OpenShut
import Derived.ShutString
import Derived.ChangeOld
import Derived.Lib.SmallJoins
import Derived.Test.YtlcemfnjhdcmoaaRows
import Derived.Test.YtlcemfnjhdcmoaaLm09
set_option linter.unusedSimpArgs false
set_option linter.unusedVariables false
namespace Go.Proofs.Ytlcemfnjhdcmoaa
open Go.ChangeShapes Go.WideShapes Go.ChangeAt Go.RowKit Go.Joins Go.OT
set_option linter.unusedVariables false
theorem latchMany_k1 : Try.pinned.checked.prog.funcNamed Rows.latchManyRow.func = some 4 := by kernel_rfl
theorem latchMany_k2 : Go.joinedFacts Try.pinned.checked.prog 4 Try.f4 Rows.latchManySpec Rows.latchManyRow = true := by kernel_rfl
theorem latchMany_k3 : Try.f4.isInstance Try.pinned.checked.prog Rows.latchManyRow.origin Rows.latchManyRow.targs := of_decide_eq_true (by kernel_rfl)
theorem latchMany_k4 : Try.f4.isWrapper Try.pinned.checked.prog Rows.latchManyRow.wrapper Rows.latchManyRow.mainSum := by
  unfold Func.isWrapper; first | (rw [if_pos (by decide +kernel)]; kernel_rfl) | (rw [if_neg (by decide +kernel)]; exact ⟨rfl, rfl⟩)
theorem latchMany_over : Rows.latchManyRow.holds Try.pinned (OpenSpec.ofChange Rows.latchManySpec) :=
  OpenClaim.holds_of_wide 4 Try.f4 rfl rfl rfl rfl rfl rfl rfl ⟨rfl, rfl, rfl, rfl, rfl⟩ rfl rfl rfl rfl rfl latchMany_k1 Try.func4 latchMany_k2 latchMany_k3 latchMany_k4
    (fun os started H enc _ => latchMany_lifted os started H enc)
theorem latchMany : Rows.LatchManySaid := latchMany_over
#print axioms latchMany
end Go.Proofs.Ytlcemfnjhdcmoaa
