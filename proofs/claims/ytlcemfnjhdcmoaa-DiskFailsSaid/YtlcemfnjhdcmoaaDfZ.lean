/- Part 9 of the proof: see its last file. -/
import Derived.Orders
import Derived.Below
import Derived.Laws.Entries
import Derived.Laws.Cells
import Derived.Laws.IdiomCopy
import Derived.Scope
import Derived.Calls
import Derived.Laws.Tables
import Derived.Laws.MakeOwn
import Derived.Laws.BytesString
import Derived.ArgAppend
import Derived.WalkSpells
import Derived.Lib.SlBytesConst
import Derived.Lib.ConvBytes
import Derived.WalkKit
import Derived.ProofKit
import Derived.OpenShut
import Derived.ShutString
import Derived.ChangeOld
import Derived.Lib.SmallJoins
import Derived.Test.YtlcemfnjhdcmoaaProg
import Derived.KernelRfl
import Derived.Shelf.Spec.SlicesInsertGrow
import Derived.Laws.IdiomRangeMap
import Derived.Laws.AppendOwn
import Derived.IntWalk
import Derived.Shelf.SlIterI.Nil
import Derived.Shelf.SortM.Plain
import Derived.Shelf.SortM.SortNone
import Derived.Shelf.Spec.SlicesGrow
import Derived.Test.YtlcemfnjhdcmoaaRows
import Derived.Test.YtlcemfnjhdcmoaaDf08
set_option linter.unusedSimpArgs false
set_option linter.unusedVariables false
namespace Go.Proofs.Ytlcemfnjhdcmoaa
open Go.ChangeShapes Go.WideShapes Go.ChangeAt Go.RowKit Go.Joins Go.OT
set_option linter.unusedVariables false
theorem diskFails_k1 : Try.pinned.checked.prog.funcNamed Rows.diskFailsRow.func = some 14 := by kernel_rfl
theorem diskFails_k2 : Go.joinedFacts Try.pinned.checked.prog 14 Try.f14 Rows.diskFailsSpec Rows.diskFailsRow = true := by kernel_rfl
theorem diskFails_k3 : Try.f14.isInstance Try.pinned.checked.prog Rows.diskFailsRow.origin Rows.diskFailsRow.targs := of_decide_eq_true (by kernel_rfl)
theorem diskFails_k4 : Try.f14.isWrapper Try.pinned.checked.prog Rows.diskFailsRow.wrapper Rows.diskFailsRow.mainSum := by
  unfold Func.isWrapper; first | (rw [if_pos (by decide +kernel)]; kernel_rfl) | (rw [if_neg (by decide +kernel)]; exact ⟨rfl, rfl⟩)
theorem diskFails_over : Rows.diskFailsRow.holds Try.pinned (OpenSpec.ofChange Rows.diskFailsSpec) :=
  OpenClaim.holds_of_wide 14 Try.f14 rfl rfl rfl rfl rfl rfl rfl ⟨rfl, rfl, rfl, rfl, rfl⟩ rfl rfl rfl rfl rfl diskFails_k1 Try.func14 diskFails_k2 diskFails_k3 diskFails_k4
    (fun os started H enc _ => diskFails_lifted os started H enc)
theorem diskFails : Rows.DiskFailsSaid := diskFails_over
#print axioms diskFails
end Go.Proofs.Ytlcemfnjhdcmoaa
