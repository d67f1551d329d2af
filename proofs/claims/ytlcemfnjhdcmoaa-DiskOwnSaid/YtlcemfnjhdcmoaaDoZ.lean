/- Part 9 of the proof: see its last file. -/
import Derived.Orders
import Derived.Below
import Derived.Laws.Entries
import Derived.Laws.Cells
import Derived.Laws.IdiomCopy
import Derived.Scope
import Derived.Calls
import Derived.Laws.Tables
import Derived.Laws.MakeOwn
import Derived.Laws.BytesString
import Derived.ArgAppend
import Derived.WalkSpells
import Derived.Lib.SlBytesConst
import Derived.Lib.ConvBytes
import Derived.WalkKit
import Derived.ProofKit
import Derived.OpenShut
import Derived.ShutString
import Derived.ChangeOld
import Derived.Lib.SmallJoins
import Derived.Test.YtlcemfnjhdcmoaaProg
import Derived.KernelRfl
import Derived.Shelf.Spec.SlicesInsertGrow
import Derived.Laws.IdiomRangeMap
import Derived.Laws.AppendOwn
import Derived.IntWalk
import Derived.Shelf.SlIterI.Nil
import Derived.Shelf.SortM.Plain
import Derived.Shelf.SortM.SortNone
import Derived.Shelf.Spec.SlicesGrow
import Derived.Test.YtlcemfnjhdcmoaaRows
import Derived.Test.YtlcemfnjhdcmoaaDo08
set_option linter.unusedSimpArgs false
set_option linter.unusedVariables false
namespace Go.Proofs.Ytlcemfnjhdcmoaa
open Go.ChangeShapes Go.WideShapes Go.ChangeAt Go.RowKit Go.Joins Go.OT
set_option linter.unusedVariables false
theorem diskOwn_k1 : Try.pinned.checked.prog.funcNamed Rows.diskOwnRow.func = some 16 := by kernel_rfl
theorem diskOwn_k2 : Go.joinedFacts Try.pinned.checked.prog 16 Try.f16 Rows.diskOwnSpec Rows.diskOwnRow = true := by kernel_rfl
theorem diskOwn_k3 : Try.f16.isInstance Try.pinned.checked.prog Rows.diskOwnRow.origin Rows.diskOwnRow.targs := of_decide_eq_true (by kernel_rfl)
theorem diskOwn_k4 : Try.f16.isWrapper Try.pinned.checked.prog Rows.diskOwnRow.wrapper Rows.diskOwnRow.mainSum := by
  unfold Func.isWrapper; first | (rw [if_pos (by decide +kernel)]; kernel_rfl) | (rw [if_neg (by decide +kernel)]; exact ⟨rfl, rfl⟩)
theorem diskOwn_over : Rows.diskOwnRow.holds Try.pinned (OpenSpec.ofChange Rows.diskOwnSpec) :=
  OpenClaim.holds_of_wide 16 Try.f16 rfl rfl rfl rfl rfl rfl rfl ⟨rfl, rfl, rfl, rfl, rfl⟩ rfl rfl rfl rfl rfl diskOwn_k1 Try.func16 diskOwn_k2 diskOwn_k3 diskOwn_k4
    (fun os started H enc _ => diskOwn_lifted os started H enc)
theorem diskOwn : Rows.DiskOwnSaid := diskOwn_over
#print axioms diskOwn
end Go.Proofs.Ytlcemfnjhdcmoaa
