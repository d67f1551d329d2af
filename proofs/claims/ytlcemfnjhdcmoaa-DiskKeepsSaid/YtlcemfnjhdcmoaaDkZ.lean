/- Part 9 of the proof: see its last file. -/
import Derived.Orders
import Derived.Below
import Derived.Laws.Entries
import Derived.Laws.Cells
import Derived.Laws.IdiomCopy
import Derived.Scope
import Derived.Calls
import Derived.Laws.Tables
import Derived.Laws.MakeOwn
import Derived.Laws.BytesString
import Derived.ArgAppend
import Derived.WalkSpells
import Derived.Lib.SlBytesConst
import Derived.Lib.ConvBytes
import Derived.WalkKit
import Derived.ProofKit
import Derived.OpenShut
import Derived.ShutString
import Derived.ChangeOld
import Derived.Lib.SmallJoins
import Derived.Test.YtlcemfnjhdcmoaaProg
import Derived.KernelRfl
import Derived.Shelf.Spec.SlicesInsertGrow
import Derived.Laws.IdiomRangeMap
import Derived.Laws.AppendOwn
import Derived.IntWalk
import Derived.Shelf.SlIterI.Nil
import Derived.Shelf.SortM.Plain
import Derived.Shelf.SortM.SortNone
import Derived.Shelf.Spec.SlicesGrow
import Derived.Test.YtlcemfnjhdcmoaaRows
import Derived.Test.YtlcemfnjhdcmoaaDk08
set_option linter.unusedSimpArgs false
set_option linter.unusedVariables false
namespace Go.Proofs.Ytlcemfnjhdcmoaa
open Go.ChangeShapes Go.WideShapes Go.ChangeAt Go.RowKit Go.Joins Go.OT
set_option linter.unusedVariables false
theorem diskKeeps_k1 : Try.pinned.checked.prog.funcNamed Rows.diskKeepsRow.func = some 13 := by kernel_rfl
theorem diskKeeps_k2 : Go.joinedFacts Try.pinned.checked.prog 13 Try.f13 Rows.diskKeepsSpec Rows.diskKeepsRow = true := by kernel_rfl
theorem diskKeeps_k3 : Try.f13.isInstance Try.pinned.checked.prog Rows.diskKeepsRow.origin Rows.diskKeepsRow.targs := of_decide_eq_true (by kernel_rfl)
theorem diskKeeps_k4 : Try.f13.isWrapper Try.pinned.checked.prog Rows.diskKeepsRow.wrapper Rows.diskKeepsRow.mainSum := by
  unfold Func.isWrapper; first | (rw [if_pos (by decide +kernel)]; kernel_rfl) | (rw [if_neg (by decide +kernel)]; exact ⟨rfl, rfl⟩)
theorem diskKeeps_over : Rows.diskKeepsRow.holds Try.pinned (OpenSpec.ofChange Rows.diskKeepsSpec) :=
  OpenClaim.holds_of_wide 13 Try.f13 rfl rfl rfl rfl rfl rfl rfl ⟨rfl, rfl, rfl, rfl, rfl⟩ rfl rfl rfl rfl rfl diskKeeps_k1 Try.func13 diskKeeps_k2 diskKeeps_k3 diskKeeps_k4
    (fun os started H enc _ => diskKeeps_lifted os started H enc)
theorem diskKeeps : Rows.DiskKeepsSaid := diskKeeps_over
#print axioms diskKeeps
end Go.Proofs.Ytlcemfnjhdcmoaa
