/- Part 12 of the proof: see its last file. -/
import Derived.Orders
import Derived.Below
import Derived.Laws.Entries
import Derived.Laws.Cells
import Derived.Laws.IdiomCopy
import Derived.Scope
import Derived.Calls
import Derived.Laws.Tables
import Derived.Laws.MakeOwn
import Derived.Laws.BytesString
import Derived.ArgAppend
import Derived.WalkSpells
import Derived.Lib.SlBytesConst
import Derived.Lib.ConvBytes
import Derived.WalkKit
import Derived.ProofKit
import Derived.OpenShut
import Derived.ShutString
import Derived.ChangeOld
import Derived.Lib.SmallJoins
import Derived.Test.YtlcemfnjhdcmoaaProg
import Derived.KernelRfl
import Derived.IntWalk
import Derived.Lib.Strings
import Derived.Test.YtlcemfnjhdcmoaaRows
import Derived.Test.YtlcemfnjhdcmoaaWm11
set_option linter.unusedSimpArgs false
set_option linter.unusedVariables false
namespace Go.Proofs.Ytlcemfnjhdcmoaa
open Go.ChangeShapes Go.WideShapes Go.ChangeAt Go.RowKit Go.Joins Go.OT
set_option linter.unusedVariables false
theorem wreckMakes_k1 : Try.pinned.checked.prog.funcNamed Rows.wreckMakesRow.func = some 18 := by kernel_rfl
theorem wreckMakes_k2 : Go.joinedFacts Try.pinned.checked.prog 18 Try.f18 Rows.wreckMakesSpec Rows.wreckMakesRow = true := by kernel_rfl
theorem wreckMakes_k3 : Try.f18.isInstance Try.pinned.checked.prog Rows.wreckMakesRow.origin Rows.wreckMakesRow.targs := of_decide_eq_true (by kernel_rfl)
theorem wreckMakes_k4 : Try.f18.isWrapper Try.pinned.checked.prog Rows.wreckMakesRow.wrapper Rows.wreckMakesRow.mainSum := by
  unfold Func.isWrapper; first | (rw [if_pos (by decide +kernel)]; kernel_rfl) | (rw [if_neg (by decide +kernel)]; exact ⟨rfl, rfl⟩)
theorem wreckMakes_over : Rows.wreckMakesRow.holds Try.pinned (OpenSpec.ofChange Rows.wreckMakesSpec) :=
  OpenClaim.holds_of_wide 18 Try.f18 rfl rfl rfl rfl rfl rfl rfl ⟨rfl, rfl, rfl, rfl, rfl⟩ rfl rfl rfl rfl rfl wreckMakes_k1 Try.func18 wreckMakes_k2 wreckMakes_k3 wreckMakes_k4
    (fun os started H enc _ => wreckMakes_lifted os started H enc)
theorem wreckMakes : Rows.WreckMakesSaid := wreckMakes_over
#print axioms wreckMakes
end Go.Proofs.Ytlcemfnjhdcmoaa
