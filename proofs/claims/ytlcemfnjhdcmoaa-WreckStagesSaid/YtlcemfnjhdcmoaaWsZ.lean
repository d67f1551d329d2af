/- Part 12 of the proof: see its last file. -/
import Derived.Orders
import Derived.Below
import Derived.Laws.Entries
import Derived.Laws.Cells
import Derived.Laws.IdiomCopy
import Derived.Scope
import Derived.Calls
import Derived.Laws.Tables
import Derived.Laws.MakeOwn
import Derived.Laws.BytesString
import Derived.ArgAppend
import Derived.WalkSpells
import Derived.Lib.SlBytesConst
import Derived.Lib.ConvBytes
import Derived.WalkKit
import Derived.ProofKit
import Derived.OpenShut
import Derived.ShutString
import Derived.ChangeOld
import Derived.Lib.SmallJoins
import Derived.Test.YtlcemfnjhdcmoaaProg
import Derived.KernelRfl
import Derived.IntWalk
import Derived.Lib.Strings
import Derived.Test.YtlcemfnjhdcmoaaRows
import Derived.Test.YtlcemfnjhdcmoaaWs11
set_option linter.unusedSimpArgs false
set_option linter.unusedVariables false
namespace Go.Proofs.Ytlcemfnjhdcmoaa
open Go.ChangeShapes Go.WideShapes Go.ChangeAt Go.RowKit Go.Joins Go.OT
set_option linter.unusedVariables false
theorem wreckStages_k1 : Try.pinned.checked.prog.funcNamed Rows.wreckStagesRow.func = some 20 := by kernel_rfl
theorem wreckStages_k2 : Go.joinedFacts Try.pinned.checked.prog 20 Try.f20 Rows.wreckStagesSpec Rows.wreckStagesRow = true := by kernel_rfl
theorem wreckStages_k3 : Try.f20.isInstance Try.pinned.checked.prog Rows.wreckStagesRow.origin Rows.wreckStagesRow.targs := of_decide_eq_true (by kernel_rfl)
theorem wreckStages_k4 : Try.f20.isWrapper Try.pinned.checked.prog Rows.wreckStagesRow.wrapper Rows.wreckStagesRow.mainSum := by
  unfold Func.isWrapper; first | (rw [if_pos (by decide +kernel)]; kernel_rfl) | (rw [if_neg (by decide +kernel)]; exact ⟨rfl, rfl⟩)
theorem wreckStages_over : Rows.wreckStagesRow.holds Try.pinned (OpenSpec.ofChange Rows.wreckStagesSpec) :=
  OpenClaim.holds_of_wide 20 Try.f20 rfl rfl rfl rfl rfl rfl rfl ⟨rfl, rfl, rfl, rfl, rfl⟩ rfl rfl rfl rfl rfl wreckStages_k1 Try.func20 wreckStages_k2 wreckStages_k3 wreckStages_k4
    (fun os started H enc _ => wreckStages_lifted os started H enc)
theorem wreckStages : Rows.WreckStagesSaid := wreckStages_over
#print axioms wreckStages
end Go.Proofs.Ytlcemfnjhdcmoaa
