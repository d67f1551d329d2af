/- Part 12 of the proof: see its last file. -/
import Derived.Orders
import Derived.Below
import Derived.Laws.Entries
import Derived.Laws.Cells
import Derived.Laws.IdiomCopy
import Derived.Scope
import Derived.Calls
import Derived.Laws.Tables
import Derived.Laws.MakeOwn
import Derived.Laws.BytesString
import Derived.ArgAppend
import Derived.WalkSpells
import Derived.Lib.SlBytesConst
import Derived.Lib.ConvBytes
import Derived.WalkKit
import Derived.ProofKit
import Derived.OpenShut
import Derived.ShutString
import Derived.ChangeOld
import Derived.Lib.SmallJoins
import Derived.Test.YtlcemfnjhdcmoaaProg
import Derived.KernelRfl
import Derived.IntWalk
import Derived.Lib.Strings
import Derived.Test.YtlcemfnjhdcmoaaRows
import Derived.Test.YtlcemfnjhdcmoaaWa11
set_option linter.unusedSimpArgs false
set_option linter.unusedVariables false
namespace Go.Proofs.Ytlcemfnjhdcmoaa
open Go.ChangeShapes Go.WideShapes Go.ChangeAt Go.RowKit Go.Joins Go.OT
set_option linter.unusedVariables false
theorem wreckAsks_k1 : Try.pinned.checked.prog.funcNamed Rows.wreckAsksRow.func = some 17 := by kernel_rfl
theorem wreckAsks_k2 : Go.joinedFacts Try.pinned.checked.prog 17 Try.f17 Rows.wreckAsksSpec Rows.wreckAsksRow = true := by kernel_rfl
theorem wreckAsks_k3 : Try.f17.isInstance Try.pinned.checked.prog Rows.wreckAsksRow.origin Rows.wreckAsksRow.targs := of_decide_eq_true (by kernel_rfl)
theorem wreckAsks_k4 : Try.f17.isWrapper Try.pinned.checked.prog Rows.wreckAsksRow.wrapper Rows.wreckAsksRow.mainSum := by
  unfold Func.isWrapper; first | (rw [if_pos (by decide +kernel)]; kernel_rfl) | (rw [if_neg (by decide +kernel)]; exact ⟨rfl, rfl⟩)
theorem wreckAsks_over : Rows.wreckAsksRow.holds Try.pinned (OpenSpec.ofChange Rows.wreckAsksSpec) :=
  OpenClaim.holds_of_wide 17 Try.f17 rfl rfl rfl rfl rfl rfl rfl ⟨rfl, rfl, rfl, rfl, rfl⟩ rfl rfl rfl rfl rfl wreckAsks_k1 Try.func17 wreckAsks_k2 wreckAsks_k3 wreckAsks_k4
    (fun os started H enc _ => wreckAsks_lifted os started H enc)
theorem wreckAsks : Rows.WreckAsksSaid := wreckAsks_over
#print axioms wreckAsks
end Go.Proofs.Ytlcemfnjhdcmoaa
