/- Part 10 of the proof: see its last file. -/
import Derived.Orders
import Derived.Below
import Derived.Laws.Entries
import Derived.Laws.Cells
import Derived.Laws.IdiomCopy
import Derived.Scope
import Derived.Calls
import Derived.Laws.Tables
import Derived.Laws.MakeOwn
import Derived.Laws.BytesString
import Derived.ArgAppend
import Derived.WalkSpells
import Derived.Lib.SlBytesConst
import Derived.Lib.ConvBytes
import Derived.Test.YtlcemfnjhdcmoaaProg
import Derived.KernelRfl
import Derived.IntWalk
import Derived.Shelf.Spec.SlicesInsertGrow
import Derived.Shelf.Abstract
import Derived.WalkKit
import Derived.ProofKit
import Derived.OpenShut
import Derived.ShutString
import Derived.ChangeOld
import Derived.Lib.SmallJoins
import Derived.Test.YtlcemfnjhdcmoaaRows
import Derived.Test.YtlcemfnjhdcmoaaLf09
set_option linter.unusedSimpArgs false
set_option linter.unusedVariables false
namespace Go.Proofs.Ytlcemfnjhdcmoaa
open Go.ChangeShapes Go.WideShapes Go.ChangeAt Go.RowKit Go.Joins Go.OT
set_option linter.unusedVariables false
theorem latchFair_k1 : Try.pinned.checked.prog.funcNamed Rows.latchFairRow.func = some 3 := by kernel_rfl
theorem latchFair_k2 : Go.joinedFacts Try.pinned.checked.prog 3 Try.f3 Rows.latchFairSpec Rows.latchFairRow = true := by kernel_rfl
theorem latchFair_k3 : Try.f3.isInstance Try.pinned.checked.prog Rows.latchFairRow.origin Rows.latchFairRow.targs := of_decide_eq_true (by kernel_rfl)
theorem latchFair_k4 : Try.f3.isWrapper Try.pinned.checked.prog Rows.latchFairRow.wrapper Rows.latchFairRow.mainSum := by
  unfold Func.isWrapper; first | (rw [if_pos (by decide +kernel)]; kernel_rfl) | (rw [if_neg (by decide +kernel)]; exact ⟨rfl, rfl⟩)
theorem latchFair_over : Rows.latchFairRow.holds Try.pinned (OpenSpec.ofChange Rows.latchFairSpec) :=
  OpenClaim.holds_of_wide 3 Try.f3 rfl rfl rfl rfl rfl rfl rfl ⟨rfl, rfl, rfl, rfl, rfl⟩ rfl rfl rfl rfl rfl latchFair_k1 Try.func3 latchFair_k2 latchFair_k3 latchFair_k4
    (fun os started H enc _ => latchFair_lifted os started H enc)
theorem latchFair : Rows.LatchFairSaid := latchFair_over
#print axioms latchFair
end Go.Proofs.Ytlcemfnjhdcmoaa
