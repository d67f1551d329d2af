/-
  No cell of these rows narrows 'for every input' (looked for: loops, veiled, ifaces, maps, wideKeys, modest, calm, conditions, laid).
  DERIVED. THE GIVEN ROWS OF THIS SEAT. 18 by the template 'for every input the law returns true; each argument reads behind the call as it read before'; 0 by the template 'total and deterministic' (their statements: YtlcemfnjhdcmoaaTotals.lean).
  GIVEN WITH THE SEED: the statements are not yours to turn. If you find one false, say at which input.
  Laid BY PROGRAM, IN A SANDBOX (cutbox-rows.mjs): the forced cells as the released guide's own fill.sh prints them over the translation 900307316cc06ebc… (all of the seat's roots in one cut). By AI agents, Wed Nov 11 2026. No macro, syntax, notation, axiom, sorry.
-/
import Derived.Test.YtlcemfnjhdcmoaaChecked
import GoSem.Claim
import GoSem.ClaimJoined
import GoSem.ClaimMapViews
import Derived.JoinedTies
import Derived.KernelRfl
namespace Go.Proofs.Ytlcemfnjhdcmoaa
/- THE CELL 'sum', in the pinned program and in every row, IS THE sha256 OF THE DUMP (.gsa) THAT YtlcemfnjhdcmoaaProg.lean LOADS. Nothing in Lean hashes anything: it is a label: what it is worth is what the hold of that sum in a sandbox is worth. -/
noncomputable def Try.pinned : Pinned := { name := "ytlcemfnjhdcmoaa", sum := "900307316cc06ebcc461121dd0e5d28dce0a88dcecccbdd0635573a3db64faf2", checked := Try.checked }
namespace Rows
def none {H : Type} : Left H := { results := [], args := [] }

/-- 'lavabolaw6.LatchFair': WHATEVER THE INPUT: true; the input reads as it did. -/
def latchFairSpec : ChangeSpec := { name := "latchFair", fn := fun _ => fun
  | [d] => { results := [.lit (.bool true)], args := [d] }
  | _ => none }
def latchFairRow : OpenClaim := { program := "ytlcemfnjhdcmoaa", sum := "900307316cc06ebcc461121dd0e5d28dce0a88dcecccbdd0635573a3db64faf2", func := "lavabo/lavabolaw6.LatchFair", spec := "latchFair", inPlace := ["slices.overlaps[int]"], unfollowed := true, recurses := true, apart := false }
def LatchFairSaid : Prop := latchFairRow.holds Try.pinned (OpenSpec.ofChange latchFairSpec)

/-- ITS FALSE NEIGHBOUR: 'it returns false'. Refute it at one input. -/
def latchFairWrong : ChangeSpec := { name := "latchFair", fn := fun _ => fun
  | [d] => { results := [.lit (.bool false)], args := [d] }
  | _ => none }
def LatchFairWrongFalsely : Prop := latchFairRow.holds Try.pinned (OpenSpec.ofChange latchFairWrong)

/-- 'lavabolaw6.LatchMany': WHATEVER THE INPUT: true; the input reads as it did. -/
def latchManySpec : ChangeSpec := { name := "latchMany", fn := fun _ => fun
  | [d1, d2] => { results := [.lit (.bool true)], args := [d1, d2] }
  | _ => none }
def latchManyRow : OpenClaim := { program := "ytlcemfnjhdcmoaa", sum := "900307316cc06ebcc461121dd0e5d28dce0a88dcecccbdd0635573a3db64faf2", func := "lavabo/lavabolaw6.LatchMany", spec := "latchMany", inPlace := ["slices.overlaps[int]"], unfollowed := true, recurses := true, apart := false }
def LatchManySaid : Prop := latchManyRow.holds Try.pinned (OpenSpec.ofChange latchManySpec)

/-- ITS FALSE NEIGHBOUR: 'it returns false'. Refute it at one input. -/
def latchManyWrong : ChangeSpec := { name := "latchMany", fn := fun _ => fun
  | [d1, d2] => { results := [.lit (.bool false)], args := [d1, d2] }
  | _ => none }
def LatchManyWrongFalsely : Prop := latchManyRow.holds Try.pinned (OpenSpec.ofChange latchManyWrong)

/-- 'lavabolaw14.HistClients': WHATEVER THE INPUT: true; the input reads as it did. -/
def histClientsSpec : ChangeSpec := { name := "histClients", fn := fun _ => fun
  | [d1, d2, d3] => { results := [.lit (.bool true)], args := [d1, d2, d3] }
  | _ => none }
def histClientsRow : OpenClaim := { program := "ytlcemfnjhdcmoaa", sum := "900307316cc06ebcc461121dd0e5d28dce0a88dcecccbdd0635573a3db64faf2", func := "lavabo/lavabolaw14.HistClients", spec := "histClients", unfollowed := true, recurses := true, apart := false }
def HistClientsSaid : Prop := histClientsRow.holds Try.pinned (OpenSpec.ofChange histClientsSpec)

/-- ITS FALSE NEIGHBOUR: 'it returns false'. Refute it at one input. -/
def histClientsWrong : ChangeSpec := { name := "histClients", fn := fun _ => fun
  | [d1, d2, d3] => { results := [.lit (.bool false)], args := [d1, d2, d3] }
  | _ => none }
def HistClientsWrongFalsely : Prop := histClientsRow.holds Try.pinned (OpenSpec.ofChange histClientsWrong)

/-- 'lavabolaw14.HistAsks': WHATEVER THE INPUT: true; the input reads as it did. -/
def histAsksSpec : ChangeSpec := { name := "histAsks", fn := fun _ => fun
  | [d1, d2, d3, d4, d5] => { results := [.lit (.bool true)], args := [d1, d2, d3, d4, d5] }
  | _ => none }
def histAsksRow : OpenClaim := { program := "ytlcemfnjhdcmoaa", sum := "900307316cc06ebcc461121dd0e5d28dce0a88dcecccbdd0635573a3db64faf2", func := "lavabo/lavabolaw14.HistAsks", spec := "histAsks", unfollowed := true, recurses := true, apart := false }
def HistAsksSaid : Prop := histAsksRow.holds Try.pinned (OpenSpec.ofChange histAsksSpec)

/-- ITS FALSE NEIGHBOUR: 'it returns false'. Refute it at one input. -/
def histAsksWrong : ChangeSpec := { name := "histAsks", fn := fun _ => fun
  | [d1, d2, d3, d4, d5] => { results := [.lit (.bool false)], args := [d1, d2, d3, d4, d5] }
  | _ => none }
def HistAsksWrongFalsely : Prop := histAsksRow.holds Try.pinned (OpenSpec.ofChange histAsksWrong)

/-- 'lavabolaw14.HistMakes': WHATEVER THE INPUT: true; the input reads as it did. -/
def histMakesSpec : ChangeSpec := { name := "histMakes", fn := fun _ => fun
  | [d1, d2] => { results := [.lit (.bool true)], args := [d1, d2] }
  | _ => none }
def histMakesRow : OpenClaim := { program := "ytlcemfnjhdcmoaa", sum := "900307316cc06ebcc461121dd0e5d28dce0a88dcecccbdd0635573a3db64faf2", func := "lavabo/lavabolaw14.HistMakes", spec := "histMakes", unfollowed := true, recurses := true, apart := false }
def HistMakesSaid : Prop := histMakesRow.holds Try.pinned (OpenSpec.ofChange histMakesSpec)

/-- ITS FALSE NEIGHBOUR: 'it returns false'. Refute it at one input. -/
def histMakesWrong : ChangeSpec := { name := "histMakes", fn := fun _ => fun
  | [d1, d2] => { results := [.lit (.bool false)], args := [d1, d2] }
  | _ => none }
def HistMakesWrongFalsely : Prop := histMakesRow.holds Try.pinned (OpenSpec.ofChange histMakesWrong)

/-- 'lavabolaw14.HistTells': WHATEVER THE INPUT: true; the input reads as it did. -/
def histTellsSpec : ChangeSpec := { name := "histTells", fn := fun _ => fun
  | [d1, d2, d3, d4] => { results := [.lit (.bool true)], args := [d1, d2, d3, d4] }
  | _ => none }
def histTellsRow : OpenClaim := { program := "ytlcemfnjhdcmoaa", sum := "900307316cc06ebcc461121dd0e5d28dce0a88dcecccbdd0635573a3db64faf2", func := "lavabo/lavabolaw14.HistTells", spec := "histTells", unfollowed := true, recurses := true, apart := false }
def HistTellsSaid : Prop := histTellsRow.holds Try.pinned (OpenSpec.ofChange histTellsSpec)

/-- ITS FALSE NEIGHBOUR: 'it returns false'. Refute it at one input. -/
def histTellsWrong : ChangeSpec := { name := "histTells", fn := fun _ => fun
  | [d1, d2, d3, d4] => { results := [.lit (.bool false)], args := [d1, d2, d3, d4] }
  | _ => none }
def HistTellsWrongFalsely : Prop := histTellsRow.holds Try.pinned (OpenSpec.ofChange histTellsWrong)

/-- 'lavabolaw14.HistFails': WHATEVER THE INPUT: true; the input reads as it did. -/
def histFailsSpec : ChangeSpec := { name := "histFails", fn := fun _ => fun
  | [d1, d2, d3, d4] => { results := [.lit (.bool true)], args := [d1, d2, d3, d4] }
  | _ => none }
def histFailsRow : OpenClaim := { program := "ytlcemfnjhdcmoaa", sum := "900307316cc06ebcc461121dd0e5d28dce0a88dcecccbdd0635573a3db64faf2", func := "lavabo/lavabolaw14.HistFails", spec := "histFails", unfollowed := true, recurses := true, apart := false }
def HistFailsSaid : Prop := histFailsRow.holds Try.pinned (OpenSpec.ofChange histFailsSpec)

/-- ITS FALSE NEIGHBOUR: 'it returns false'. Refute it at one input. -/
def histFailsWrong : ChangeSpec := { name := "histFails", fn := fun _ => fun
  | [d1, d2, d3, d4] => { results := [.lit (.bool false)], args := [d1, d2, d3, d4] }
  | _ => none }
def HistFailsWrongFalsely : Prop := histFailsRow.holds Try.pinned (OpenSpec.ofChange histFailsWrong)

/-- 'lavabolaw14.HistOrders': WHATEVER THE INPUT: true; the input reads as it did. -/
def histOrdersSpec : ChangeSpec := { name := "histOrders", fn := fun _ => fun
  | [d] => { results := [.lit (.bool true)], args := [d] }
  | _ => none }
def histOrdersRow : OpenClaim := { program := "ytlcemfnjhdcmoaa", sum := "900307316cc06ebcc461121dd0e5d28dce0a88dcecccbdd0635573a3db64faf2", func := "lavabo/lavabolaw14.HistOrders", spec := "histOrders", unfollowed := true, recurses := true, apart := false }
def HistOrdersSaid : Prop := histOrdersRow.holds Try.pinned (OpenSpec.ofChange histOrdersSpec)

/-- ITS FALSE NEIGHBOUR: 'it returns false'. Refute it at one input. -/
def histOrdersWrong : ChangeSpec := { name := "histOrders", fn := fun _ => fun
  | [d] => { results := [.lit (.bool false)], args := [d] }
  | _ => none }
def HistOrdersWrongFalsely : Prop := histOrdersRow.holds Try.pinned (OpenSpec.ofChange histOrdersWrong)

/-- 'lavabolaw14.HistSerial': WHATEVER THE INPUT: true; the input reads as it did. -/
def histSerialSpec : ChangeSpec := { name := "histSerial", fn := fun _ => fun
  | [d] => { results := [.lit (.bool true)], args := [d] }
  | _ => none }
def histSerialRow : OpenClaim := { program := "ytlcemfnjhdcmoaa", sum := "900307316cc06ebcc461121dd0e5d28dce0a88dcecccbdd0635573a3db64faf2", func := "lavabo/lavabolaw14.HistSerial", spec := "histSerial", unfollowed := true, recurses := true, apart := false }
def HistSerialSaid : Prop := histSerialRow.holds Try.pinned (OpenSpec.ofChange histSerialSpec)

/-- ITS FALSE NEIGHBOUR: 'it returns false'. Refute it at one input. -/
def histSerialWrong : ChangeSpec := { name := "histSerial", fn := fun _ => fun
  | [d] => { results := [.lit (.bool false)], args := [d] }
  | _ => none }
def HistSerialWrongFalsely : Prop := histSerialRow.holds Try.pinned (OpenSpec.ofChange histSerialWrong)

/-- 'lavabolaw3.DiskPlays': WHATEVER THE INPUT: true; the input reads as it did. -/
def diskPlaysSpec : ChangeSpec := { name := "diskPlays", fn := fun _ => fun
  | [d1, d2] => { results := [.lit (.bool true)], args := [d1, d2] }
  | _ => none }
def diskPlaysRow : OpenClaim := { program := "ytlcemfnjhdcmoaa", sum := "900307316cc06ebcc461121dd0e5d28dce0a88dcecccbdd0635573a3db64faf2", func := "lavabo/lavabolaw3.DiskPlays", spec := "diskPlays", unfollowed := true, recurses := true, apart := false }
def DiskPlaysSaid : Prop := diskPlaysRow.holds Try.pinned (OpenSpec.ofChange diskPlaysSpec)

/-- ITS FALSE NEIGHBOUR: 'it returns false'. Refute it at one input. -/
def diskPlaysWrong : ChangeSpec := { name := "diskPlays", fn := fun _ => fun
  | [d1, d2] => { results := [.lit (.bool false)], args := [d1, d2] }
  | _ => none }
def DiskPlaysWrongFalsely : Prop := diskPlaysRow.holds Try.pinned (OpenSpec.ofChange diskPlaysWrong)

/-- 'lavabolaw3.DiskKeeps': WHATEVER THE INPUT: true; the input reads as it did. -/
def diskKeepsSpec : ChangeSpec := { name := "diskKeeps", fn := fun _ => fun
  | [d1, d2, d3, d4] => { results := [.lit (.bool true)], args := [d1, d2, d3, d4] }
  | _ => none }
def diskKeepsRow : OpenClaim := { program := "ytlcemfnjhdcmoaa", sum := "900307316cc06ebcc461121dd0e5d28dce0a88dcecccbdd0635573a3db64faf2", func := "lavabo/lavabolaw3.DiskKeeps", spec := "diskKeeps", unfollowed := true, recurses := true, apart := false }
def DiskKeepsSaid : Prop := diskKeepsRow.holds Try.pinned (OpenSpec.ofChange diskKeepsSpec)

/-- ITS FALSE NEIGHBOUR: 'it returns false'. Refute it at one input. -/
def diskKeepsWrong : ChangeSpec := { name := "diskKeeps", fn := fun _ => fun
  | [d1, d2, d3, d4] => { results := [.lit (.bool false)], args := [d1, d2, d3, d4] }
  | _ => none }
def DiskKeepsWrongFalsely : Prop := diskKeepsRow.holds Try.pinned (OpenSpec.ofChange diskKeepsWrong)

/-- 'lavabolaw3.DiskFails': WHATEVER THE INPUT: true; the input reads as it did. -/
def diskFailsSpec : ChangeSpec := { name := "diskFails", fn := fun _ => fun
  | [d] => { results := [.lit (.bool true)], args := [d] }
  | _ => none }
def diskFailsRow : OpenClaim := { program := "ytlcemfnjhdcmoaa", sum := "900307316cc06ebcc461121dd0e5d28dce0a88dcecccbdd0635573a3db64faf2", func := "lavabo/lavabolaw3.DiskFails", spec := "diskFails", unfollowed := true, recurses := true, apart := false }
def DiskFailsSaid : Prop := diskFailsRow.holds Try.pinned (OpenSpec.ofChange diskFailsSpec)

/-- ITS FALSE NEIGHBOUR: 'it returns false'. Refute it at one input. -/
def diskFailsWrong : ChangeSpec := { name := "diskFails", fn := fun _ => fun
  | [d] => { results := [.lit (.bool false)], args := [d] }
  | _ => none }
def DiskFailsWrongFalsely : Prop := diskFailsRow.holds Try.pinned (OpenSpec.ofChange diskFailsWrong)

/-- 'lavabolaw3.DiskReads': WHATEVER THE INPUT: true; the input reads as it did. -/
def diskReadsSpec : ChangeSpec := { name := "diskReads", fn := fun _ => fun
  | [d1, d2] => { results := [.lit (.bool true)], args := [d1, d2] }
  | _ => none }
def diskReadsRow : OpenClaim := { program := "ytlcemfnjhdcmoaa", sum := "900307316cc06ebcc461121dd0e5d28dce0a88dcecccbdd0635573a3db64faf2", func := "lavabo/lavabolaw3.DiskReads", spec := "diskReads", unfollowed := true, recurses := true, apart := false }
def DiskReadsSaid : Prop := diskReadsRow.holds Try.pinned (OpenSpec.ofChange diskReadsSpec)

/-- ITS FALSE NEIGHBOUR: 'it returns false'. Refute it at one input. -/
def diskReadsWrong : ChangeSpec := { name := "diskReads", fn := fun _ => fun
  | [d1, d2] => { results := [.lit (.bool false)], args := [d1, d2] }
  | _ => none }
def DiskReadsWrongFalsely : Prop := diskReadsRow.holds Try.pinned (OpenSpec.ofChange diskReadsWrong)

/-- 'lavabolaw3.DiskOwn': WHATEVER THE INPUT: true; the input reads as it did. -/
def diskOwnSpec : ChangeSpec := { name := "diskOwn", fn := fun _ => fun
  | [d] => { results := [.lit (.bool true)], args := [d] }
  | _ => none }
def diskOwnRow : OpenClaim := { program := "ytlcemfnjhdcmoaa", sum := "900307316cc06ebcc461121dd0e5d28dce0a88dcecccbdd0635573a3db64faf2", func := "lavabo/lavabolaw3.DiskOwn", spec := "diskOwn", unfollowed := true, recurses := true, apart := false }
def DiskOwnSaid : Prop := diskOwnRow.holds Try.pinned (OpenSpec.ofChange diskOwnSpec)

/-- ITS FALSE NEIGHBOUR: 'it returns false'. Refute it at one input. -/
def diskOwnWrong : ChangeSpec := { name := "diskOwn", fn := fun _ => fun
  | [d] => { results := [.lit (.bool false)], args := [d] }
  | _ => none }
def DiskOwnWrongFalsely : Prop := diskOwnRow.holds Try.pinned (OpenSpec.ofChange diskOwnWrong)

/-- 'lavabolaw22.WreckAsks': WHATEVER THE INPUT: true; the input reads as it did. -/
def wreckAsksSpec : ChangeSpec := { name := "wreckAsks", fn := fun _ => fun
  | [d1, d2, d3, d4, d5] => { results := [.lit (.bool true)], args := [d1, d2, d3, d4, d5] }
  | _ => none }
def wreckAsksRow : OpenClaim := { program := "ytlcemfnjhdcmoaa", sum := "900307316cc06ebcc461121dd0e5d28dce0a88dcecccbdd0635573a3db64faf2", func := "lavabo/lavabolaw22.WreckAsks", spec := "wreckAsks", unfollowed := true, recurses := true, apart := false }
def WreckAsksSaid : Prop := wreckAsksRow.holds Try.pinned (OpenSpec.ofChange wreckAsksSpec)

/-- ITS FALSE NEIGHBOUR: 'it returns false'. Refute it at one input. -/
def wreckAsksWrong : ChangeSpec := { name := "wreckAsks", fn := fun _ => fun
  | [d1, d2, d3, d4, d5] => { results := [.lit (.bool false)], args := [d1, d2, d3, d4, d5] }
  | _ => none }
def WreckAsksWrongFalsely : Prop := wreckAsksRow.holds Try.pinned (OpenSpec.ofChange wreckAsksWrong)

/-- 'lavabolaw22.WreckMakes': WHATEVER THE INPUT: true; the input reads as it did. -/
def wreckMakesSpec : ChangeSpec := { name := "wreckMakes", fn := fun _ => fun
  | [d1, d2, d3] => { results := [.lit (.bool true)], args := [d1, d2, d3] }
  | _ => none }
def wreckMakesRow : OpenClaim := { program := "ytlcemfnjhdcmoaa", sum := "900307316cc06ebcc461121dd0e5d28dce0a88dcecccbdd0635573a3db64faf2", func := "lavabo/lavabolaw22.WreckMakes", spec := "wreckMakes", unfollowed := true, recurses := true, apart := false }
def WreckMakesSaid : Prop := wreckMakesRow.holds Try.pinned (OpenSpec.ofChange wreckMakesSpec)

/-- ITS FALSE NEIGHBOUR: 'it returns false'. Refute it at one input. -/
def wreckMakesWrong : ChangeSpec := { name := "wreckMakes", fn := fun _ => fun
  | [d1, d2, d3] => { results := [.lit (.bool false)], args := [d1, d2, d3] }
  | _ => none }
def WreckMakesWrongFalsely : Prop := wreckMakesRow.holds Try.pinned (OpenSpec.ofChange wreckMakesWrong)

/-- 'lavabolaw22.WreckLast': WHATEVER THE INPUT: true; the input reads as it did. -/
def wreckLastSpec : ChangeSpec := { name := "wreckLast", fn := fun _ => fun
  | [d1, d2] => { results := [.lit (.bool true)], args := [d1, d2] }
  | _ => none }
def wreckLastRow : OpenClaim := { program := "ytlcemfnjhdcmoaa", sum := "900307316cc06ebcc461121dd0e5d28dce0a88dcecccbdd0635573a3db64faf2", func := "lavabo/lavabolaw22.WreckLast", spec := "wreckLast", unfollowed := true, recurses := true, apart := false }
def WreckLastSaid : Prop := wreckLastRow.holds Try.pinned (OpenSpec.ofChange wreckLastSpec)

/-- ITS FALSE NEIGHBOUR: 'it returns false'. Refute it at one input. -/
def wreckLastWrong : ChangeSpec := { name := "wreckLast", fn := fun _ => fun
  | [d1, d2] => { results := [.lit (.bool false)], args := [d1, d2] }
  | _ => none }
def WreckLastWrongFalsely : Prop := wreckLastRow.holds Try.pinned (OpenSpec.ofChange wreckLastWrong)

/-- 'lavabolaw22.WreckStages': WHATEVER THE INPUT: true; the input reads as it did. -/
def wreckStagesSpec : ChangeSpec := { name := "wreckStages", fn := fun _ => fun
  | [d1, d2, d3] => { results := [.lit (.bool true)], args := [d1, d2, d3] }
  | _ => none }
def wreckStagesRow : OpenClaim := { program := "ytlcemfnjhdcmoaa", sum := "900307316cc06ebcc461121dd0e5d28dce0a88dcecccbdd0635573a3db64faf2", func := "lavabo/lavabolaw22.WreckStages", spec := "wreckStages", unfollowed := true, recurses := true, apart := false }
def WreckStagesSaid : Prop := wreckStagesRow.holds Try.pinned (OpenSpec.ofChange wreckStagesSpec)

/-- ITS FALSE NEIGHBOUR: 'it returns false'. Refute it at one input. -/
def wreckStagesWrong : ChangeSpec := { name := "wreckStages", fn := fun _ => fun
  | [d1, d2, d3] => { results := [.lit (.bool false)], args := [d1, d2, d3] }
  | _ => none }
def WreckStagesWrongFalsely : Prop := wreckStagesRow.holds Try.pinned (OpenSpec.ofChange wreckStagesWrong)

/- THE SECOND FORM. 'bulk': how many values and letters a reading holds, each counted each time it is reached (what is shared counts as often as it is met; a slice's spare places count too). A statement '..UptoSaid' is the law's where the arguments, and the package variables that the reading takes, are together of bulk at most 1048576: NARROWER than '..Said'. Prove '..Said' where nothing that the law and all that it calls make is longer than what came in: it says more and counts as full. Else prove '..UptoSaid'. A law counts once. -/
mutual
def uptoBulk {H : Type} : DataW H → Nat
  | .lit (.string bytes) => bytes.length + 1
  | .lit _ => 1
  | .nil => 1
  | .ptr d => uptoBulk d + 1
  | .slice elems spare => uptoBulkAll elems + uptoBulkAll spare + 1
  | .agg parts => uptoBulkAll parts + 1
  | .iface _ d => uptoBulk d + 1
  | .map entries => uptoBulkEntries entries + 1
  | .held _ => 1
def uptoBulkAll {H : Type} : List (DataW H) → Nat
  | [] => 0
  | d :: r => uptoBulk d + uptoBulkAll r
def uptoBulkEntries {H : Type} : List (Lit × DataW H) → Nat
  | [] => 0
  | x :: r => uptoBulkEntry x + uptoBulkEntries r
def uptoBulkEntry {H : Type} : Lit × DataW H → Nat
  | (.string bytes, d) => bytes.length + uptoBulk d + 1
  | (_, d) => uptoBulk d + 1
 end
def uptoSmall : (H : Type) → List (DataW H) → Bool := fun _ ds => decide (uptoBulkAll ds ≤ 1048576)
def OpenSpec.upto (s : _root_.Go.ChangeSpec) : _root_.Go.OpenSpec := { _root_.Go.OpenSpec.ofChange s with cond := some uptoSmall }

/-- 'lavabolaw6.LatchFair', WHERE WHAT IT READS IS OF BULK AT MOST 1048576: true; the input reads as it did. -/
def latchFairUptoRow : OpenClaim := { program := "ytlcemfnjhdcmoaa", sum := "900307316cc06ebcc461121dd0e5d28dce0a88dcecccbdd0635573a3db64faf2", func := "lavabo/lavabolaw6.LatchFair", spec := "latchFair", inPlace := ["slices.overlaps[int]"], unfollowed := true, recurses := true, apart := false, narrowed := true }
def LatchFairUptoSaid : Prop := latchFairUptoRow.holds Try.pinned (OpenSpec.upto latchFairSpec)

/-- 'lavabolaw6.LatchMany', WHERE WHAT IT READS IS OF BULK AT MOST 1048576: true; the input reads as it did. -/
def latchManyUptoRow : OpenClaim := { program := "ytlcemfnjhdcmoaa", sum := "900307316cc06ebcc461121dd0e5d28dce0a88dcecccbdd0635573a3db64faf2", func := "lavabo/lavabolaw6.LatchMany", spec := "latchMany", inPlace := ["slices.overlaps[int]"], unfollowed := true, recurses := true, apart := false, narrowed := true }
def LatchManyUptoSaid : Prop := latchManyUptoRow.holds Try.pinned (OpenSpec.upto latchManySpec)

/-- 'lavabolaw14.HistClients', WHERE WHAT IT READS IS OF BULK AT MOST 1048576: true; the input reads as it did. -/
def histClientsUptoRow : OpenClaim := { program := "ytlcemfnjhdcmoaa", sum := "900307316cc06ebcc461121dd0e5d28dce0a88dcecccbdd0635573a3db64faf2", func := "lavabo/lavabolaw14.HistClients", spec := "histClients", unfollowed := true, recurses := true, apart := false, narrowed := true }
def HistClientsUptoSaid : Prop := histClientsUptoRow.holds Try.pinned (OpenSpec.upto histClientsSpec)

/-- 'lavabolaw14.HistAsks', WHERE WHAT IT READS IS OF BULK AT MOST 1048576: true; the input reads as it did. -/
def histAsksUptoRow : OpenClaim := { program := "ytlcemfnjhdcmoaa", sum := "900307316cc06ebcc461121dd0e5d28dce0a88dcecccbdd0635573a3db64faf2", func := "lavabo/lavabolaw14.HistAsks", spec := "histAsks", unfollowed := true, recurses := true, apart := false, narrowed := true }
def HistAsksUptoSaid : Prop := histAsksUptoRow.holds Try.pinned (OpenSpec.upto histAsksSpec)

/-- 'lavabolaw14.HistMakes', WHERE WHAT IT READS IS OF BULK AT MOST 1048576: true; the input reads as it did. -/
def histMakesUptoRow : OpenClaim := { program := "ytlcemfnjhdcmoaa", sum := "900307316cc06ebcc461121dd0e5d28dce0a88dcecccbdd0635573a3db64faf2", func := "lavabo/lavabolaw14.HistMakes", spec := "histMakes", unfollowed := true, recurses := true, apart := false, narrowed := true }
def HistMakesUptoSaid : Prop := histMakesUptoRow.holds Try.pinned (OpenSpec.upto histMakesSpec)

/-- 'lavabolaw14.HistTells', WHERE WHAT IT READS IS OF BULK AT MOST 1048576: true; the input reads as it did. -/
def histTellsUptoRow : OpenClaim := { program := "ytlcemfnjhdcmoaa", sum := "900307316cc06ebcc461121dd0e5d28dce0a88dcecccbdd0635573a3db64faf2", func := "lavabo/lavabolaw14.HistTells", spec := "histTells", unfollowed := true, recurses := true, apart := false, narrowed := true }
def HistTellsUptoSaid : Prop := histTellsUptoRow.holds Try.pinned (OpenSpec.upto histTellsSpec)

/-- 'lavabolaw14.HistFails', WHERE WHAT IT READS IS OF BULK AT MOST 1048576: true; the input reads as it did. -/
def histFailsUptoRow : OpenClaim := { program := "ytlcemfnjhdcmoaa", sum := "900307316cc06ebcc461121dd0e5d28dce0a88dcecccbdd0635573a3db64faf2", func := "lavabo/lavabolaw14.HistFails", spec := "histFails", unfollowed := true, recurses := true, apart := false, narrowed := true }
def HistFailsUptoSaid : Prop := histFailsUptoRow.holds Try.pinned (OpenSpec.upto histFailsSpec)

/-- 'lavabolaw14.HistOrders', WHERE WHAT IT READS IS OF BULK AT MOST 1048576: true; the input reads as it did. -/
def histOrdersUptoRow : OpenClaim := { program := "ytlcemfnjhdcmoaa", sum := "900307316cc06ebcc461121dd0e5d28dce0a88dcecccbdd0635573a3db64faf2", func := "lavabo/lavabolaw14.HistOrders", spec := "histOrders", unfollowed := true, recurses := true, apart := false, narrowed := true }
def HistOrdersUptoSaid : Prop := histOrdersUptoRow.holds Try.pinned (OpenSpec.upto histOrdersSpec)

/-- 'lavabolaw14.HistSerial', WHERE WHAT IT READS IS OF BULK AT MOST 1048576: true; the input reads as it did. -/
def histSerialUptoRow : OpenClaim := { program := "ytlcemfnjhdcmoaa", sum := "900307316cc06ebcc461121dd0e5d28dce0a88dcecccbdd0635573a3db64faf2", func := "lavabo/lavabolaw14.HistSerial", spec := "histSerial", unfollowed := true, recurses := true, apart := false, narrowed := true }
def HistSerialUptoSaid : Prop := histSerialUptoRow.holds Try.pinned (OpenSpec.upto histSerialSpec)

/-- 'lavabolaw3.DiskPlays', WHERE WHAT IT READS IS OF BULK AT MOST 1048576: true; the input reads as it did. -/
def diskPlaysUptoRow : OpenClaim := { program := "ytlcemfnjhdcmoaa", sum := "900307316cc06ebcc461121dd0e5d28dce0a88dcecccbdd0635573a3db64faf2", func := "lavabo/lavabolaw3.DiskPlays", spec := "diskPlays", unfollowed := true, recurses := true, apart := false, narrowed := true }
def DiskPlaysUptoSaid : Prop := diskPlaysUptoRow.holds Try.pinned (OpenSpec.upto diskPlaysSpec)

/-- 'lavabolaw3.DiskKeeps', WHERE WHAT IT READS IS OF BULK AT MOST 1048576: true; the input reads as it did. -/
def diskKeepsUptoRow : OpenClaim := { program := "ytlcemfnjhdcmoaa", sum := "900307316cc06ebcc461121dd0e5d28dce0a88dcecccbdd0635573a3db64faf2", func := "lavabo/lavabolaw3.DiskKeeps", spec := "diskKeeps", unfollowed := true, recurses := true, apart := false, narrowed := true }
def DiskKeepsUptoSaid : Prop := diskKeepsUptoRow.holds Try.pinned (OpenSpec.upto diskKeepsSpec)

/-- 'lavabolaw3.DiskFails', WHERE WHAT IT READS IS OF BULK AT MOST 1048576: true; the input reads as it did. -/
def diskFailsUptoRow : OpenClaim := { program := "ytlcemfnjhdcmoaa", sum := "900307316cc06ebcc461121dd0e5d28dce0a88dcecccbdd0635573a3db64faf2", func := "lavabo/lavabolaw3.DiskFails", spec := "diskFails", unfollowed := true, recurses := true, apart := false, narrowed := true }
def DiskFailsUptoSaid : Prop := diskFailsUptoRow.holds Try.pinned (OpenSpec.upto diskFailsSpec)

/-- 'lavabolaw3.DiskReads', WHERE WHAT IT READS IS OF BULK AT MOST 1048576: true; the input reads as it did. -/
def diskReadsUptoRow : OpenClaim := { program := "ytlcemfnjhdcmoaa", sum := "900307316cc06ebcc461121dd0e5d28dce0a88dcecccbdd0635573a3db64faf2", func := "lavabo/lavabolaw3.DiskReads", spec := "diskReads", unfollowed := true, recurses := true, apart := false, narrowed := true }
def DiskReadsUptoSaid : Prop := diskReadsUptoRow.holds Try.pinned (OpenSpec.upto diskReadsSpec)

/-- 'lavabolaw3.DiskOwn', WHERE WHAT IT READS IS OF BULK AT MOST 1048576: true; the input reads as it did. -/
def diskOwnUptoRow : OpenClaim := { program := "ytlcemfnjhdcmoaa", sum := "900307316cc06ebcc461121dd0e5d28dce0a88dcecccbdd0635573a3db64faf2", func := "lavabo/lavabolaw3.DiskOwn", spec := "diskOwn", unfollowed := true, recurses := true, apart := false, narrowed := true }
def DiskOwnUptoSaid : Prop := diskOwnUptoRow.holds Try.pinned (OpenSpec.upto diskOwnSpec)

/-- 'lavabolaw22.WreckAsks', WHERE WHAT IT READS IS OF BULK AT MOST 1048576: true; the input reads as it did. -/
def wreckAsksUptoRow : OpenClaim := { program := "ytlcemfnjhdcmoaa", sum := "900307316cc06ebcc461121dd0e5d28dce0a88dcecccbdd0635573a3db64faf2", func := "lavabo/lavabolaw22.WreckAsks", spec := "wreckAsks", unfollowed := true, recurses := true, apart := false, narrowed := true }
def WreckAsksUptoSaid : Prop := wreckAsksUptoRow.holds Try.pinned (OpenSpec.upto wreckAsksSpec)

/-- 'lavabolaw22.WreckMakes', WHERE WHAT IT READS IS OF BULK AT MOST 1048576: true; the input reads as it did. -/
def wreckMakesUptoRow : OpenClaim := { program := "ytlcemfnjhdcmoaa", sum := "900307316cc06ebcc461121dd0e5d28dce0a88dcecccbdd0635573a3db64faf2", func := "lavabo/lavabolaw22.WreckMakes", spec := "wreckMakes", unfollowed := true, recurses := true, apart := false, narrowed := true }
def WreckMakesUptoSaid : Prop := wreckMakesUptoRow.holds Try.pinned (OpenSpec.upto wreckMakesSpec)

/-- 'lavabolaw22.WreckLast', WHERE WHAT IT READS IS OF BULK AT MOST 1048576: true; the input reads as it did. -/
def wreckLastUptoRow : OpenClaim := { program := "ytlcemfnjhdcmoaa", sum := "900307316cc06ebcc461121dd0e5d28dce0a88dcecccbdd0635573a3db64faf2", func := "lavabo/lavabolaw22.WreckLast", spec := "wreckLast", unfollowed := true, recurses := true, apart := false, narrowed := true }
def WreckLastUptoSaid : Prop := wreckLastUptoRow.holds Try.pinned (OpenSpec.upto wreckLastSpec)

/-- 'lavabolaw22.WreckStages', WHERE WHAT IT READS IS OF BULK AT MOST 1048576: true; the input reads as it did. -/
def wreckStagesUptoRow : OpenClaim := { program := "ytlcemfnjhdcmoaa", sum := "900307316cc06ebcc461121dd0e5d28dce0a88dcecccbdd0635573a3db64faf2", func := "lavabo/lavabolaw22.WreckStages", spec := "wreckStages", unfollowed := true, recurses := true, apart := false, narrowed := true }
def WreckStagesUptoSaid : Prop := wreckStagesUptoRow.holds Try.pinned (OpenSpec.upto wreckStagesSpec)

end Rows
end Go.Proofs.Ytlcemfnjhdcmoaa
