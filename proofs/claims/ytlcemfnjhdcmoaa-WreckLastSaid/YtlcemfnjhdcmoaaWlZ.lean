/- Part 12 of the proof: see its last file. -/
import Derived.Orders
import Derived.Below
import Derived.Laws.Entries
import Derived.Laws.Cells
import Derived.Laws.IdiomCopy
import Derived.Scope
import Derived.Calls
import Derived.Laws.Tables
import Derived.Laws.MakeOwn
import Derived.Laws.BytesString
import Derived.ArgAppend
import Derived.WalkSpells
import Derived.Lib.SlBytesConst
import Derived.Lib.ConvBytes
import Derived.WalkKit
import Derived.ProofKit
import Derived.OpenShut
import Derived.ShutString
import Derived.ChangeOld
import Derived.Lib.SmallJoins
import Derived.Test.YtlcemfnjhdcmoaaProg
import Derived.KernelRfl
import Derived.IntWalk
import Derived.Lib.Strings
import Derived.Test.YtlcemfnjhdcmoaaRows
import Derived.Test.YtlcemfnjhdcmoaaWl11
set_option linter.unusedSimpArgs false
set_option linter.unusedVariables false
namespace Go.Proofs.Ytlcemfnjhdcmoaa
open Go.ChangeShapes Go.WideShapes Go.ChangeAt Go.RowKit Go.Joins Go.OT
set_option linter.unusedVariables false
theorem wreckLast_k1 : Try.pinned.checked.prog.funcNamed Rows.wreckLastRow.func = some 19 := by kernel_rfl
theorem wreckLast_k2 : Go.joinedFacts Try.pinned.checked.prog 19 Try.f19 Rows.wreckLastSpec Rows.wreckLastRow = true := by kernel_rfl
theorem wreckLast_k3 : Try.f19.isInstance Try.pinned.checked.prog Rows.wreckLastRow.origin Rows.wreckLastRow.targs := of_decide_eq_true (by kernel_rfl)
theorem wreckLast_k4 : Try.f19.isWrapper Try.pinned.checked.prog Rows.wreckLastRow.wrapper Rows.wreckLastRow.mainSum := by
  unfold Func.isWrapper; first | (rw [if_pos (by decide +kernel)]; kernel_rfl) | (rw [if_neg (by decide +kernel)]; exact ⟨rfl, rfl⟩)
theorem wreckLast_over : Rows.wreckLastRow.holds Try.pinned (OpenSpec.ofChange Rows.wreckLastSpec) :=
  OpenClaim.holds_of_wide 19 Try.f19 rfl rfl rfl rfl rfl rfl rfl ⟨rfl, rfl, rfl, rfl, rfl⟩ rfl rfl rfl rfl rfl wreckLast_k1 Try.func19 wreckLast_k2 wreckLast_k3 wreckLast_k4
    (fun os started H enc _ => wreckLast_lifted os started H enc)
theorem wreckLast : Rows.WreckLastSaid := wreckLast_over
#print axioms wreckLast
end Go.Proofs.Ytlcemfnjhdcmoaa
