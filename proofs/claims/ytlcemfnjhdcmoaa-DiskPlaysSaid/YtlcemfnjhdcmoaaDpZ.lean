/- Part 10 of the proof: see its last file. -/
import Derived.Orders
import Derived.Below
import Derived.Laws.Entries
import Derived.Laws.Cells
import Derived.Laws.IdiomCopy
import Derived.Scope
import Derived.Calls
import Derived.Laws.Tables
import Derived.Laws.MakeOwn
import Derived.Laws.BytesString
import Derived.ArgAppend
import Derived.WalkSpells
import Derived.Lib.SlBytesConst
import Derived.Lib.ConvBytes
import Derived.WalkKit
import Derived.ProofKit
import Derived.OpenShut
import Derived.ShutString
import Derived.ChangeOld
import Derived.Lib.SmallJoins
import Derived.Test.YtlcemfnjhdcmoaaProg
import Derived.KernelRfl
import Derived.Shelf.Spec.SlicesInsertGrow
import Derived.Laws.IdiomRangeMap
import Derived.Laws.AppendOwn
import Derived.IntWalk
import Derived.Shelf.SlIterI.Nil
import Derived.Shelf.SortM.Plain
import Derived.Shelf.SortM.SortNone
import Derived.Shelf.Spec.SlicesGrow
import Derived.Test.YtlcemfnjhdcmoaaRows
import Derived.Test.YtlcemfnjhdcmoaaDp09
set_option linter.unusedSimpArgs false
set_option linter.unusedVariables false
namespace Go.Proofs.Ytlcemfnjhdcmoaa
open Go.ChangeShapes Go.WideShapes Go.ChangeAt Go.RowKit Go.Joins Go.OT
set_option linter.unusedVariables false
theorem diskPlays_k1 : Try.pinned.checked.prog.funcNamed Rows.diskPlaysRow.func = some 12 := by kernel_rfl
theorem diskPlays_k2 : Go.joinedFacts Try.pinned.checked.prog 12 Try.f12 Rows.diskPlaysSpec Rows.diskPlaysRow = true := by kernel_rfl
theorem diskPlays_k3 : Try.f12.isInstance Try.pinned.checked.prog Rows.diskPlaysRow.origin Rows.diskPlaysRow.targs := of_decide_eq_true (by kernel_rfl)
theorem diskPlays_k4 : Try.f12.isWrapper Try.pinned.checked.prog Rows.diskPlaysRow.wrapper Rows.diskPlaysRow.mainSum := by
  unfold Func.isWrapper; first | (rw [if_pos (by decide +kernel)]; kernel_rfl) | (rw [if_neg (by decide +kernel)]; exact ⟨rfl, rfl⟩)
theorem diskPlays_over : Rows.diskPlaysRow.holds Try.pinned (OpenSpec.ofChange Rows.diskPlaysSpec) :=
  OpenClaim.holds_of_wide 12 Try.f12 rfl rfl rfl rfl rfl rfl rfl ⟨rfl, rfl, rfl, rfl, rfl⟩ rfl rfl rfl rfl rfl diskPlays_k1 Try.func12 diskPlays_k2 diskPlays_k3 diskPlays_k4
    (fun os started H enc _ => diskPlays_lifted os started H enc)
theorem diskPlays : Rows.DiskPlaysSaid := diskPlays_over
#print axioms diskPlays
end Go.Proofs.Ytlcemfnjhdcmoaa
