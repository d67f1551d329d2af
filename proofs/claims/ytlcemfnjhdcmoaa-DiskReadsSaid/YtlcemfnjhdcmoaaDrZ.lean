/- Part 9 of the proof: see its last file. -/
import Derived.Orders
import Derived.Below
import Derived.Laws.Entries
import Derived.Laws.Cells
import Derived.Laws.IdiomCopy
import Derived.Scope
import Derived.Calls
import Derived.Laws.Tables
import Derived.Laws.MakeOwn
import Derived.Laws.BytesString
import Derived.ArgAppend
import Derived.WalkSpells
import Derived.Lib.SlBytesConst
import Derived.Lib.ConvBytes
import Derived.WalkKit
import Derived.ProofKit
import Derived.OpenShut
import Derived.ShutString
import Derived.ChangeOld
import Derived.Lib.SmallJoins
import Derived.Test.YtlcemfnjhdcmoaaProg
import Derived.KernelRfl
import Derived.Shelf.Spec.SlicesInsertGrow
import Derived.Laws.IdiomRangeMap
import Derived.Laws.AppendOwn
import Derived.IntWalk
import Derived.Shelf.SlIterI.Nil
import Derived.Shelf.SortM.Plain
import Derived.Shelf.SortM.SortNone
import Derived.Shelf.Spec.SlicesGrow
import Derived.Test.YtlcemfnjhdcmoaaRows
import Derived.Test.YtlcemfnjhdcmoaaDr08
set_option linter.unusedSimpArgs false
set_option linter.unusedVariables false
namespace Go.Proofs.Ytlcemfnjhdcmoaa
open Go.ChangeShapes Go.WideShapes Go.ChangeAt Go.RowKit Go.Joins Go.OT
set_option linter.unusedVariables false
theorem diskReads_k1 : Try.pinned.checked.prog.funcNamed Rows.diskReadsRow.func = some 15 := by kernel_rfl
theorem diskReads_k2 : Go.joinedFacts Try.pinned.checked.prog 15 Try.f15 Rows.diskReadsSpec Rows.diskReadsRow = true := by kernel_rfl
theorem diskReads_k3 : Try.f15.isInstance Try.pinned.checked.prog Rows.diskReadsRow.origin Rows.diskReadsRow.targs := of_decide_eq_true (by kernel_rfl)
theorem diskReads_k4 : Try.f15.isWrapper Try.pinned.checked.prog Rows.diskReadsRow.wrapper Rows.diskReadsRow.mainSum := by
  unfold Func.isWrapper; first | (rw [if_pos (by decide +kernel)]; kernel_rfl) | (rw [if_neg (by decide +kernel)]; exact ⟨rfl, rfl⟩)
theorem diskReads_over : Rows.diskReadsRow.holds Try.pinned (OpenSpec.ofChange Rows.diskReadsSpec) :=
  OpenClaim.holds_of_wide 15 Try.f15 rfl rfl rfl rfl rfl rfl rfl ⟨rfl, rfl, rfl, rfl, rfl⟩ rfl rfl rfl rfl rfl diskReads_k1 Try.func15 diskReads_k2 diskReads_k3 diskReads_k4
    (fun os started H enc _ => diskReads_lifted os started H enc)
theorem diskReads : Rows.DiskReadsSaid := diskReads_over
#print axioms diskReads
end Go.Proofs.Ytlcemfnjhdcmoaa
