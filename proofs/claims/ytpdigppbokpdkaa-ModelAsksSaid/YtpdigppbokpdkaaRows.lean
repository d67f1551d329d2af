/-
  No cell of these rows narrows 'for every input' (looked for: loops, veiled, ifaces, maps, wideKeys, modest, calm, conditions, laid).
  DERIVED. THE GIVEN ROWS OF THIS SEAT. 9 by the template 'for every input the law returns true; each argument reads behind the call as it read before'; 0 by the template 'total and deterministic' (their statements: YtpdigppbokpdkaaTotals.lean).
  GIVEN WITH THE SEED: the statements are not yours to turn. If you find one false, say at which input.
  Laid BY PROGRAM, IN A SANDBOX (cutbox-rows.mjs): the forced cells as the released guide's own fill.sh prints them over the translation ff44854686011bca… (all of the seat's roots in one cut). By AI agents, Wed Nov 11 2026. No macro, syntax, notation, axiom, sorry.
-/
import Derived.Test.YtpdigppbokpdkaaChecked
import GoSem.Claim
import GoSem.ClaimJoined
import GoSem.ClaimMapViews
import Derived.JoinedTies
import Derived.KernelRfl
namespace Go.Proofs.Ytpdigppbokpdkaa
/- THE CELL 'sum', in the pinned program and in every row, IS THE sha256 OF THE DUMP (.gsa) THAT YtpdigppbokpdkaaProg.lean LOADS. Nothing in Lean hashes anything: it is a label: what it is worth is what the hold of that sum in a sandbox is worth. -/
noncomputable def Try.pinned : Pinned := { name := "ytpdigppbokpdkaa", sum := "ff44854686011bca65cf66cde90ce1f4a2198f1e27078dcb4ce6e242d46d41cc", checked := Try.checked }
namespace Rows
def none {H : Type} : Left H := { results := [], args := [] }

/-- 'lavabolaw23.BoundAsks': WHATEVER THE INPUT: true; the input reads as it did. -/
def boundAsksSpec : ChangeSpec := { name := "boundAsks", fn := fun _ => fun
  | [d1, d2] => { results := [.lit (.bool true)], args := [d1, d2] }
  | _ => none }
def boundAsksRow : OpenClaim := { program := "ytpdigppbokpdkaa", sum := "ff44854686011bca65cf66cde90ce1f4a2198f1e27078dcb4ce6e242d46d41cc", func := "lavabo/lavabolaw23.BoundAsks", spec := "boundAsks", apart := false }
def BoundAsksSaid : Prop := boundAsksRow.holds Try.pinned (OpenSpec.ofChange boundAsksSpec)

/-- ITS FALSE NEIGHBOUR: 'it returns false'. Refute it at one input. -/
def boundAsksWrong : ChangeSpec := { name := "boundAsks", fn := fun _ => fun
  | [d1, d2] => { results := [.lit (.bool false)], args := [d1, d2] }
  | _ => none }
def BoundAsksWrongFalsely : Prop := boundAsksRow.holds Try.pinned (OpenSpec.ofChange boundAsksWrong)

/-- 'lavabolaw23.BoundGrows': WHATEVER THE INPUT: true; the input reads as it did. -/
def boundGrowsSpec : ChangeSpec := { name := "boundGrows", fn := fun _ => fun
  | [d1, d2] => { results := [.lit (.bool true)], args := [d1, d2] }
  | _ => none }
def boundGrowsRow : OpenClaim := { program := "ytpdigppbokpdkaa", sum := "ff44854686011bca65cf66cde90ce1f4a2198f1e27078dcb4ce6e242d46d41cc", func := "lavabo/lavabolaw23.BoundGrows", spec := "boundGrows", apart := false }
def BoundGrowsSaid : Prop := boundGrowsRow.holds Try.pinned (OpenSpec.ofChange boundGrowsSpec)

/-- ITS FALSE NEIGHBOUR: 'it returns false'. Refute it at one input. -/
def boundGrowsWrong : ChangeSpec := { name := "boundGrows", fn := fun _ => fun
  | [d1, d2] => { results := [.lit (.bool false)], args := [d1, d2] }
  | _ => none }
def BoundGrowsWrongFalsely : Prop := boundGrowsRow.holds Try.pinned (OpenSpec.ofChange boundGrowsWrong)

/-- 'lavabolaw13.ModelOwn': WHATEVER THE INPUT: true; the input reads as it did. -/
def modelOwnSpec : ChangeSpec := { name := "modelOwn", fn := fun _ => fun
  | [d] => { results := [.lit (.bool true)], args := [d] }
  | _ => none }
def modelOwnRow : OpenClaim := { program := "ytpdigppbokpdkaa", sum := "ff44854686011bca65cf66cde90ce1f4a2198f1e27078dcb4ce6e242d46d41cc", func := "lavabo/lavabolaw13.ModelOwn", spec := "modelOwn", unfollowed := true, recurses := true, apart := false }
def ModelOwnSaid : Prop := modelOwnRow.holds Try.pinned (OpenSpec.ofChange modelOwnSpec)

/-- ITS FALSE NEIGHBOUR: 'it returns false'. Refute it at one input. -/
def modelOwnWrong : ChangeSpec := { name := "modelOwn", fn := fun _ => fun
  | [d] => { results := [.lit (.bool false)], args := [d] }
  | _ => none }
def ModelOwnWrongFalsely : Prop := modelOwnRow.holds Try.pinned (OpenSpec.ofChange modelOwnWrong)

/-- 'lavabolaw13.ModelAsks': WHATEVER THE INPUT: true; the input reads as it did. -/
def modelAsksSpec : ChangeSpec := { name := "modelAsks", fn := fun _ => fun
  | [d1, d2, d3, d4] => { results := [.lit (.bool true)], args := [d1, d2, d3, d4] }
  | _ => none }
def modelAsksRow : OpenClaim := { program := "ytpdigppbokpdkaa", sum := "ff44854686011bca65cf66cde90ce1f4a2198f1e27078dcb4ce6e242d46d41cc", func := "lavabo/lavabolaw13.ModelAsks", spec := "modelAsks", unfollowed := true, recurses := true, apart := false }
def ModelAsksSaid : Prop := modelAsksRow.holds Try.pinned (OpenSpec.ofChange modelAsksSpec)

/-- ITS FALSE NEIGHBOUR: 'it returns false'. Refute it at one input. -/
def modelAsksWrong : ChangeSpec := { name := "modelAsks", fn := fun _ => fun
  | [d1, d2, d3, d4] => { results := [.lit (.bool false)], args := [d1, d2, d3, d4] }
  | _ => none }
def ModelAsksWrongFalsely : Prop := modelAsksRow.holds Try.pinned (OpenSpec.ofChange modelAsksWrong)

/-- 'lavabolaw13.ModelPlays': WHATEVER THE INPUT: true; the input reads as it did. -/
def modelPlaysSpec : ChangeSpec := { name := "modelPlays", fn := fun _ => fun
  | [d1, d2, d3, d4] => { results := [.lit (.bool true)], args := [d1, d2, d3, d4] }
  | _ => none }
def modelPlaysRow : OpenClaim := { program := "ytpdigppbokpdkaa", sum := "ff44854686011bca65cf66cde90ce1f4a2198f1e27078dcb4ce6e242d46d41cc", func := "lavabo/lavabolaw13.ModelPlays", spec := "modelPlays", unfollowed := true, recurses := true, apart := false }
def ModelPlaysSaid : Prop := modelPlaysRow.holds Try.pinned (OpenSpec.ofChange modelPlaysSpec)

/-- ITS FALSE NEIGHBOUR: 'it returns false'. Refute it at one input. -/
def modelPlaysWrong : ChangeSpec := { name := "modelPlays", fn := fun _ => fun
  | [d1, d2, d3, d4] => { results := [.lit (.bool false)], args := [d1, d2, d3, d4] }
  | _ => none }
def ModelPlaysWrongFalsely : Prop := modelPlaysRow.holds Try.pinned (OpenSpec.ofChange modelPlaysWrong)

/-- 'lavabolaw13.ModelReads': WHATEVER THE INPUT: true; the input reads as it did. -/
def modelReadsSpec : ChangeSpec := { name := "modelReads", fn := fun _ => fun
  | [d1, d2, d3, d4] => { results := [.lit (.bool true)], args := [d1, d2, d3, d4] }
  | _ => none }
def modelReadsRow : OpenClaim := { program := "ytpdigppbokpdkaa", sum := "ff44854686011bca65cf66cde90ce1f4a2198f1e27078dcb4ce6e242d46d41cc", func := "lavabo/lavabolaw13.ModelReads", spec := "modelReads", unfollowed := true, recurses := true, apart := false }
def ModelReadsSaid : Prop := modelReadsRow.holds Try.pinned (OpenSpec.ofChange modelReadsSpec)

/-- ITS FALSE NEIGHBOUR: 'it returns false'. Refute it at one input. -/
def modelReadsWrong : ChangeSpec := { name := "modelReads", fn := fun _ => fun
  | [d1, d2, d3, d4] => { results := [.lit (.bool false)], args := [d1, d2, d3, d4] }
  | _ => none }
def ModelReadsWrongFalsely : Prop := modelReadsRow.holds Try.pinned (OpenSpec.ofChange modelReadsWrong)

/-- 'lavabolaw13.ModelErrors': WHATEVER THE INPUT: true; the input reads as it did. -/
def modelErrorsSpec : ChangeSpec := { name := "modelErrors", fn := fun _ => fun
  | [d1, d2] => { results := [.lit (.bool true)], args := [d1, d2] }
  | _ => none }
def modelErrorsRow : OpenClaim := { program := "ytpdigppbokpdkaa", sum := "ff44854686011bca65cf66cde90ce1f4a2198f1e27078dcb4ce6e242d46d41cc", func := "lavabo/lavabolaw13.ModelErrors", spec := "modelErrors", unfollowed := true, recurses := true, apart := false }
def ModelErrorsSaid : Prop := modelErrorsRow.holds Try.pinned (OpenSpec.ofChange modelErrorsSpec)

/-- ITS FALSE NEIGHBOUR: 'it returns false'. Refute it at one input. -/
def modelErrorsWrong : ChangeSpec := { name := "modelErrors", fn := fun _ => fun
  | [d1, d2] => { results := [.lit (.bool false)], args := [d1, d2] }
  | _ => none }
def ModelErrorsWrongFalsely : Prop := modelErrorsRow.holds Try.pinned (OpenSpec.ofChange modelErrorsWrong)

/-- 'lavabolaw13.ModelNews': WHATEVER THE INPUT: true; the input reads as it did. -/
def modelNewsSpec : ChangeSpec := { name := "modelNews", fn := fun _ => fun
  | [d1, d2] => { results := [.lit (.bool true)], args := [d1, d2] }
  | _ => none }
def modelNewsRow : OpenClaim := { program := "ytpdigppbokpdkaa", sum := "ff44854686011bca65cf66cde90ce1f4a2198f1e27078dcb4ce6e242d46d41cc", func := "lavabo/lavabolaw13.ModelNews", spec := "modelNews", unfollowed := true, recurses := true, apart := false }
def ModelNewsSaid : Prop := modelNewsRow.holds Try.pinned (OpenSpec.ofChange modelNewsSpec)

/-- ITS FALSE NEIGHBOUR: 'it returns false'. Refute it at one input. -/
def modelNewsWrong : ChangeSpec := { name := "modelNews", fn := fun _ => fun
  | [d1, d2] => { results := [.lit (.bool false)], args := [d1, d2] }
  | _ => none }
def ModelNewsWrongFalsely : Prop := modelNewsRow.holds Try.pinned (OpenSpec.ofChange modelNewsWrong)

/-- 'lavabolaw13.ModelPins': WHATEVER THE INPUT: true; the input reads as it did. -/
def modelPinsSpec : ChangeSpec := { name := "modelPins", fn := fun _ => fun
  | [d1, d2] => { results := [.lit (.bool true)], args := [d1, d2] }
  | _ => none }
def modelPinsRow : OpenClaim := { program := "ytpdigppbokpdkaa", sum := "ff44854686011bca65cf66cde90ce1f4a2198f1e27078dcb4ce6e242d46d41cc", func := "lavabo/lavabolaw13.ModelPins", spec := "modelPins", unfollowed := true, recurses := true, apart := false }
def ModelPinsSaid : Prop := modelPinsRow.holds Try.pinned (OpenSpec.ofChange modelPinsSpec)

/-- ITS FALSE NEIGHBOUR: 'it returns false'. Refute it at one input. -/
def modelPinsWrong : ChangeSpec := { name := "modelPins", fn := fun _ => fun
  | [d1, d2] => { results := [.lit (.bool false)], args := [d1, d2] }
  | _ => none }
def ModelPinsWrongFalsely : Prop := modelPinsRow.holds Try.pinned (OpenSpec.ofChange modelPinsWrong)

/- THE SECOND FORM. 'bulk': how many values and letters a reading holds, each counted each time it is reached (what is shared counts as often as it is met; a slice's spare places count too). A statement '..UptoSaid' is the law's where the arguments, and the package variables that the reading takes, are together of bulk at most 1048576: NARROWER than '..Said'. Prove '..Said' where nothing that the law and all that it calls make is longer than what came in: it says more and counts as full. Else prove '..UptoSaid'. A law counts once. -/
mutual
def uptoBulk {H : Type} : DataW H → Nat
  | .lit (.string bytes) => bytes.length + 1
  | .lit _ => 1
  | .nil => 1
  | .ptr d => uptoBulk d + 1
  | .slice elems spare => uptoBulkAll elems + uptoBulkAll spare + 1
  | .agg parts => uptoBulkAll parts + 1
  | .iface _ d => uptoBulk d + 1
  | .map entries => uptoBulkEntries entries + 1
  | .held _ => 1
def uptoBulkAll {H : Type} : List (DataW H) → Nat
  | [] => 0
  | d :: r => uptoBulk d + uptoBulkAll r
def uptoBulkEntries {H : Type} : List (Lit × DataW H) → Nat
  | [] => 0
  | x :: r => uptoBulkEntry x + uptoBulkEntries r
def uptoBulkEntry {H : Type} : Lit × DataW H → Nat
  | (.string bytes, d) => bytes.length + uptoBulk d + 1
  | (_, d) => uptoBulk d + 1
 end
def uptoSmall : (H : Type) → List (DataW H) → Bool := fun _ ds => decide (uptoBulkAll ds ≤ 1048576)
def OpenSpec.upto (s : _root_.Go.ChangeSpec) : _root_.Go.OpenSpec := { _root_.Go.OpenSpec.ofChange s with cond := some uptoSmall }

/-- 'lavabolaw23.BoundAsks', WHERE WHAT IT READS IS OF BULK AT MOST 1048576: true; the input reads as it did. -/
def boundAsksUptoRow : OpenClaim := { program := "ytpdigppbokpdkaa", sum := "ff44854686011bca65cf66cde90ce1f4a2198f1e27078dcb4ce6e242d46d41cc", func := "lavabo/lavabolaw23.BoundAsks", spec := "boundAsks", apart := false, narrowed := true }
def BoundAsksUptoSaid : Prop := boundAsksUptoRow.holds Try.pinned (OpenSpec.upto boundAsksSpec)

/-- 'lavabolaw23.BoundGrows', WHERE WHAT IT READS IS OF BULK AT MOST 1048576: true; the input reads as it did. -/
def boundGrowsUptoRow : OpenClaim := { program := "ytpdigppbokpdkaa", sum := "ff44854686011bca65cf66cde90ce1f4a2198f1e27078dcb4ce6e242d46d41cc", func := "lavabo/lavabolaw23.BoundGrows", spec := "boundGrows", apart := false, narrowed := true }
def BoundGrowsUptoSaid : Prop := boundGrowsUptoRow.holds Try.pinned (OpenSpec.upto boundGrowsSpec)

/-- 'lavabolaw13.ModelOwn', WHERE WHAT IT READS IS OF BULK AT MOST 1048576: true; the input reads as it did. -/
def modelOwnUptoRow : OpenClaim := { program := "ytpdigppbokpdkaa", sum := "ff44854686011bca65cf66cde90ce1f4a2198f1e27078dcb4ce6e242d46d41cc", func := "lavabo/lavabolaw13.ModelOwn", spec := "modelOwn", unfollowed := true, recurses := true, apart := false, narrowed := true }
def ModelOwnUptoSaid : Prop := modelOwnUptoRow.holds Try.pinned (OpenSpec.upto modelOwnSpec)

/-- 'lavabolaw13.ModelAsks', WHERE WHAT IT READS IS OF BULK AT MOST 1048576: true; the input reads as it did. -/
def modelAsksUptoRow : OpenClaim := { program := "ytpdigppbokpdkaa", sum := "ff44854686011bca65cf66cde90ce1f4a2198f1e27078dcb4ce6e242d46d41cc", func := "lavabo/lavabolaw13.ModelAsks", spec := "modelAsks", unfollowed := true, recurses := true, apart := false, narrowed := true }
def ModelAsksUptoSaid : Prop := modelAsksUptoRow.holds Try.pinned (OpenSpec.upto modelAsksSpec)

/-- 'lavabolaw13.ModelPlays', WHERE WHAT IT READS IS OF BULK AT MOST 1048576: true; the input reads as it did. -/
def modelPlaysUptoRow : OpenClaim := { program := "ytpdigppbokpdkaa", sum := "ff44854686011bca65cf66cde90ce1f4a2198f1e27078dcb4ce6e242d46d41cc", func := "lavabo/lavabolaw13.ModelPlays", spec := "modelPlays", unfollowed := true, recurses := true, apart := false, narrowed := true }
def ModelPlaysUptoSaid : Prop := modelPlaysUptoRow.holds Try.pinned (OpenSpec.upto modelPlaysSpec)

/-- 'lavabolaw13.ModelReads', WHERE WHAT IT READS IS OF BULK AT MOST 1048576: true; the input reads as it did. -/
def modelReadsUptoRow : OpenClaim := { program := "ytpdigppbokpdkaa", sum := "ff44854686011bca65cf66cde90ce1f4a2198f1e27078dcb4ce6e242d46d41cc", func := "lavabo/lavabolaw13.ModelReads", spec := "modelReads", unfollowed := true, recurses := true, apart := false, narrowed := true }
def ModelReadsUptoSaid : Prop := modelReadsUptoRow.holds Try.pinned (OpenSpec.upto modelReadsSpec)

/-- 'lavabolaw13.ModelErrors', WHERE WHAT IT READS IS OF BULK AT MOST 1048576: true; the input reads as it did. -/
def modelErrorsUptoRow : OpenClaim := { program := "ytpdigppbokpdkaa", sum := "ff44854686011bca65cf66cde90ce1f4a2198f1e27078dcb4ce6e242d46d41cc", func := "lavabo/lavabolaw13.ModelErrors", spec := "modelErrors", unfollowed := true, recurses := true, apart := false, narrowed := true }
def ModelErrorsUptoSaid : Prop := modelErrorsUptoRow.holds Try.pinned (OpenSpec.upto modelErrorsSpec)

/-- 'lavabolaw13.ModelNews', WHERE WHAT IT READS IS OF BULK AT MOST 1048576: true; the input reads as it did. -/
def modelNewsUptoRow : OpenClaim := { program := "ytpdigppbokpdkaa", sum := "ff44854686011bca65cf66cde90ce1f4a2198f1e27078dcb4ce6e242d46d41cc", func := "lavabo/lavabolaw13.ModelNews", spec := "modelNews", unfollowed := true, recurses := true, apart := false, narrowed := true }
def ModelNewsUptoSaid : Prop := modelNewsUptoRow.holds Try.pinned (OpenSpec.upto modelNewsSpec)

/-- 'lavabolaw13.ModelPins', WHERE WHAT IT READS IS OF BULK AT MOST 1048576: true; the input reads as it did. -/
def modelPinsUptoRow : OpenClaim := { program := "ytpdigppbokpdkaa", sum := "ff44854686011bca65cf66cde90ce1f4a2198f1e27078dcb4ce6e242d46d41cc", func := "lavabo/lavabolaw13.ModelPins", spec := "modelPins", unfollowed := true, recurses := true, apart := false, narrowed := true }
def ModelPinsUptoSaid : Prop := modelPinsUptoRow.holds Try.pinned (OpenSpec.upto modelPinsSpec)

end Rows
end Go.Proofs.Ytpdigppbokpdkaa
