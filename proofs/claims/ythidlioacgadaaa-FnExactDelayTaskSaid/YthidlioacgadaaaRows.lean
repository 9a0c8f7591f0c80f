/-
  No cell of these rows narrows 'for every input' (looked for: loops, veiled, ifaces, maps, wideKeys, modest, calm, conditions, laid).
  DERIVED. THE GIVEN ROWS OF THIS SEAT. 13 by the template 'for every input the law returns true; each argument reads behind the call as it read before'; 0 by the template 'total and deterministic' (their statements: YthidlioacgadaaaTotals.lean).
  GIVEN WITH THE SEED: the statements are not yours to turn. If you find one false, say at which input.
  Laid BY PROGRAM, IN A SANDBOX (cutbox-rows.mjs): the forced cells as the released guide's own fill.sh prints them over the translation f15b84ef0d1f06dd… (all of the seat's roots in one cut). By AI agents, Wed Nov 11 2026. No macro, syntax, notation, axiom, sorry.
-/
import Derived.Test.YthidlioacgadaaaChecked
import GoSem.Claim
import GoSem.ClaimJoined
import GoSem.ClaimMapViews
import Derived.JoinedTies
import Derived.KernelRfl
namespace Go.Proofs.Ythidlioacgadaaa
/- THE CELL 'sum', in the pinned program and in every row, IS THE sha256 OF THE DUMP (.gsa) THAT YthidlioacgadaaaProg.lean LOADS. Nothing in Lean hashes anything: it is a label: what it is worth is what the hold of that sum in a sandbox is worth. -/
noncomputable def Try.pinned : Pinned := { name := "ythidlioacgadaaa", sum := "f15b84ef0d1f06dd10a992323fc51ad245bf0130170521315f401765f6e5499c", checked := Try.checked }
namespace Rows
def none {H : Type} : Left H := { results := [], args := [] }

/-- 'laws.FnExactValidTasks': WHATEVER THE INPUT: true; the input reads as it did. -/
def fnExactValidTasksSpec : ChangeSpec := { name := "fnExactValidTasks", fn := fun _ => fun
  | [d] => { results := [.lit (.bool true)], args := [d] }
  | _ => none }
def fnExactValidTasksRow : OpenClaim := { program := "ythidlioacgadaaa", sum := "f15b84ef0d1f06dd10a992323fc51ad245bf0130170521315f401765f6e5499c", func := "loop.example/g01032/laws.FnExactValidTasks", spec := "fnExactValidTasks", apart := false }
def FnExactValidTasksSaid : Prop := fnExactValidTasksRow.holds Try.pinned (OpenSpec.ofChange fnExactValidTasksSpec)

/-- ITS FALSE NEIGHBOUR: 'it returns false'. Refute it at one input. -/
def fnExactValidTasksWrong : ChangeSpec := { name := "fnExactValidTasks", fn := fun _ => fun
  | [d] => { results := [.lit (.bool false)], args := [d] }
  | _ => none }
def FnExactValidTasksWrongFalsely : Prop := fnExactValidTasksRow.holds Try.pinned (OpenSpec.ofChange fnExactValidTasksWrong)

/-- 'laws.FnExactSameTasks': WHATEVER THE INPUT: true; the input reads as it did. -/
def fnExactSameTasksSpec : ChangeSpec := { name := "fnExactSameTasks", fn := fun _ => fun
  | [d1, d2] => { results := [.lit (.bool true)], args := [d1, d2] }
  | _ => none }
def fnExactSameTasksRow : OpenClaim := { program := "ythidlioacgadaaa", sum := "f15b84ef0d1f06dd10a992323fc51ad245bf0130170521315f401765f6e5499c", func := "loop.example/g01032/laws.FnExactSameTasks", spec := "fnExactSameTasks", apart := false }
def FnExactSameTasksSaid : Prop := fnExactSameTasksRow.holds Try.pinned (OpenSpec.ofChange fnExactSameTasksSpec)

/-- ITS FALSE NEIGHBOUR: 'it returns false'. Refute it at one input. -/
def fnExactSameTasksWrong : ChangeSpec := { name := "fnExactSameTasks", fn := fun _ => fun
  | [d1, d2] => { results := [.lit (.bool false)], args := [d1, d2] }
  | _ => none }
def FnExactSameTasksWrongFalsely : Prop := fnExactSameTasksRow.holds Try.pinned (OpenSpec.ofChange fnExactSameTasksWrong)

/-- 'laws.FnExactProjectDays': WHATEVER THE INPUT: true; the input reads as it did. -/
def fnExactProjectDaysSpec : ChangeSpec := { name := "fnExactProjectDays", fn := fun _ => fun
  | [d] => { results := [.lit (.bool true)], args := [d] }
  | _ => none }
def fnExactProjectDaysRow : OpenClaim := { program := "ythidlioacgadaaa", sum := "f15b84ef0d1f06dd10a992323fc51ad245bf0130170521315f401765f6e5499c", func := "loop.example/g01032/laws.FnExactProjectDays", spec := "fnExactProjectDays", apart := false }
def FnExactProjectDaysSaid : Prop := fnExactProjectDaysRow.holds Try.pinned (OpenSpec.ofChange fnExactProjectDaysSpec)

/-- ITS FALSE NEIGHBOUR: 'it returns false'. Refute it at one input. -/
def fnExactProjectDaysWrong : ChangeSpec := { name := "fnExactProjectDays", fn := fun _ => fun
  | [d] => { results := [.lit (.bool false)], args := [d] }
  | _ => none }
def FnExactProjectDaysWrongFalsely : Prop := fnExactProjectDaysRow.holds Try.pinned (OpenSpec.ofChange fnExactProjectDaysWrong)

/-- 'laws.FnExactIsClosedSet': WHATEVER THE INPUT: true; the input reads as it did. -/
def fnExactIsClosedSetSpec : ChangeSpec := { name := "fnExactIsClosedSet", fn := fun _ => fun
  | [d1, d2] => { results := [.lit (.bool true)], args := [d1, d2] }
  | _ => none }
def fnExactIsClosedSetRow : OpenClaim := { program := "ythidlioacgadaaa", sum := "f15b84ef0d1f06dd10a992323fc51ad245bf0130170521315f401765f6e5499c", func := "loop.example/g01032/laws.FnExactIsClosedSet", spec := "fnExactIsClosedSet", unfollowed := true, recurses := true, apart := false }
def FnExactIsClosedSetSaid : Prop := fnExactIsClosedSetRow.holds Try.pinned (OpenSpec.ofChange fnExactIsClosedSetSpec)

/-- ITS FALSE NEIGHBOUR: 'it returns false'. Refute it at one input. -/
def fnExactIsClosedSetWrong : ChangeSpec := { name := "fnExactIsClosedSet", fn := fun _ => fun
  | [d1, d2] => { results := [.lit (.bool false)], args := [d1, d2] }
  | _ => none }
def FnExactIsClosedSetWrongFalsely : Prop := fnExactIsClosedSetRow.holds Try.pinned (OpenSpec.ofChange fnExactIsClosedSetWrong)

/-- 'laws.FnExactDelayTask': WHATEVER THE INPUT: true; the input reads as it did. -/
def fnExactDelayTaskSpec : ChangeSpec := { name := "fnExactDelayTask", fn := fun _ => fun
  | [d1, d2, d3] => { results := [.lit (.bool true)], args := [d1, d2, d3] }
  | _ => none }
def fnExactDelayTaskRow : OpenClaim := { program := "ythidlioacgadaaa", sum := "f15b84ef0d1f06dd10a992323fc51ad245bf0130170521315f401765f6e5499c", func := "loop.example/g01032/laws.FnExactDelayTask", spec := "fnExactDelayTask", apart := false }
def FnExactDelayTaskSaid : Prop := fnExactDelayTaskRow.holds Try.pinned (OpenSpec.ofChange fnExactDelayTaskSpec)

/-- ITS FALSE NEIGHBOUR: 'it returns false'. Refute it at one input. -/
def fnExactDelayTaskWrong : ChangeSpec := { name := "fnExactDelayTask", fn := fun _ => fun
  | [d1, d2, d3] => { results := [.lit (.bool false)], args := [d1, d2, d3] }
  | _ => none }
def FnExactDelayTaskWrongFalsely : Prop := fnExactDelayTaskRow.holds Try.pinned (OpenSpec.ofChange fnExactDelayTaskWrong)

/-- 'laws.FnExactEarliestStarts': WHATEVER THE INPUT: true; the input reads as it did. -/
def fnExactEarliestStartsSpec : ChangeSpec := { name := "fnExactEarliestStarts", fn := fun _ => fun
  | [d] => { results := [.lit (.bool true)], args := [d] }
  | _ => none }
def fnExactEarliestStartsRow : OpenClaim := { program := "ythidlioacgadaaa", sum := "f15b84ef0d1f06dd10a992323fc51ad245bf0130170521315f401765f6e5499c", func := "loop.example/g01032/laws.FnExactEarliestStarts", spec := "fnExactEarliestStarts", apart := false }
def FnExactEarliestStartsSaid : Prop := fnExactEarliestStartsRow.holds Try.pinned (OpenSpec.ofChange fnExactEarliestStartsSpec)

/-- ITS FALSE NEIGHBOUR: 'it returns false'. Refute it at one input. -/
def fnExactEarliestStartsWrong : ChangeSpec := { name := "fnExactEarliestStarts", fn := fun _ => fun
  | [d] => { results := [.lit (.bool false)], args := [d] }
  | _ => none }
def FnExactEarliestStartsWrongFalsely : Prop := fnExactEarliestStartsRow.holds Try.pinned (OpenSpec.ofChange fnExactEarliestStartsWrong)

/-- 'laws.FnExactCostUntil': WHATEVER THE INPUT: true; the input reads as it did. -/
def fnExactCostUntilSpec : ChangeSpec := { name := "fnExactCostUntil", fn := fun _ => fun
  | [d1, d2] => { results := [.lit (.bool true)], args := [d1, d2] }
  | _ => none }
def fnExactCostUntilRow : OpenClaim := { program := "ythidlioacgadaaa", sum := "f15b84ef0d1f06dd10a992323fc51ad245bf0130170521315f401765f6e5499c", func := "loop.example/g01032/laws.FnExactCostUntil", spec := "fnExactCostUntil", apart := false }
def FnExactCostUntilSaid : Prop := fnExactCostUntilRow.holds Try.pinned (OpenSpec.ofChange fnExactCostUntilSpec)

/-- ITS FALSE NEIGHBOUR: 'it returns false'. Refute it at one input. -/
def fnExactCostUntilWrong : ChangeSpec := { name := "fnExactCostUntil", fn := fun _ => fun
  | [d1, d2] => { results := [.lit (.bool false)], args := [d1, d2] }
  | _ => none }
def FnExactCostUntilWrongFalsely : Prop := fnExactCostUntilRow.holds Try.pinned (OpenSpec.ofChange fnExactCostUntilWrong)

/-- 'laws.FnExactMostClay': WHATEVER THE INPUT: true; the input reads as it did. -/
def fnExactMostClaySpec : ChangeSpec := { name := "fnExactMostClay", fn := fun _ => fun
  | [d] => { results := [.lit (.bool true)], args := [d] }
  | _ => none }
def fnExactMostClayRow : OpenClaim := { program := "ythidlioacgadaaa", sum := "f15b84ef0d1f06dd10a992323fc51ad245bf0130170521315f401765f6e5499c", func := "loop.example/g01032/laws.FnExactMostClay", spec := "fnExactMostClay", apart := false }
def FnExactMostClaySaid : Prop := fnExactMostClayRow.holds Try.pinned (OpenSpec.ofChange fnExactMostClaySpec)

/-- ITS FALSE NEIGHBOUR: 'it returns false'. Refute it at one input. -/
def fnExactMostClayWrong : ChangeSpec := { name := "fnExactMostClay", fn := fun _ => fun
  | [d] => { results := [.lit (.bool false)], args := [d] }
  | _ => none }
def FnExactMostClayWrongFalsely : Prop := fnExactMostClayRow.holds Try.pinned (OpenSpec.ofChange fnExactMostClayWrong)

/-- 'laws.FnExactClayOn': WHATEVER THE INPUT: true; the input reads as it did. -/
def fnExactClayOnSpec : ChangeSpec := { name := "fnExactClayOn", fn := fun _ => fun
  | [d1, d2] => { results := [.lit (.bool true)], args := [d1, d2] }
  | _ => none }
def fnExactClayOnRow : OpenClaim := { program := "ythidlioacgadaaa", sum := "f15b84ef0d1f06dd10a992323fc51ad245bf0130170521315f401765f6e5499c", func := "loop.example/g01032/laws.FnExactClayOn", spec := "fnExactClayOn", apart := false }
def FnExactClayOnSaid : Prop := fnExactClayOnRow.holds Try.pinned (OpenSpec.ofChange fnExactClayOnSpec)

/-- ITS FALSE NEIGHBOUR: 'it returns false'. Refute it at one input. -/
def fnExactClayOnWrong : ChangeSpec := { name := "fnExactClayOn", fn := fun _ => fun
  | [d1, d2] => { results := [.lit (.bool false)], args := [d1, d2] }
  | _ => none }
def FnExactClayOnWrongFalsely : Prop := fnExactClayOnRow.holds Try.pinned (OpenSpec.ofChange fnExactClayOnWrong)

/-- 'laws.FnExactLatestStarts': WHATEVER THE INPUT: true; the input reads as it did. -/
def fnExactLatestStartsSpec : ChangeSpec := { name := "fnExactLatestStarts", fn := fun _ => fun
  | [d] => { results := [.lit (.bool true)], args := [d] }
  | _ => none }
def fnExactLatestStartsRow : OpenClaim := { program := "ythidlioacgadaaa", sum := "f15b84ef0d1f06dd10a992323fc51ad245bf0130170521315f401765f6e5499c", func := "loop.example/g01032/laws.FnExactLatestStarts", spec := "fnExactLatestStarts", apart := false }
def FnExactLatestStartsSaid : Prop := fnExactLatestStartsRow.holds Try.pinned (OpenSpec.ofChange fnExactLatestStartsSpec)

/-- ITS FALSE NEIGHBOUR: 'it returns false'. Refute it at one input. -/
def fnExactLatestStartsWrong : ChangeSpec := { name := "fnExactLatestStarts", fn := fun _ => fun
  | [d] => { results := [.lit (.bool false)], args := [d] }
  | _ => none }
def FnExactLatestStartsWrongFalsely : Prop := fnExactLatestStartsRow.holds Try.pinned (OpenSpec.ofChange fnExactLatestStartsWrong)

/-- 'laws.FnExactCriticalTasks': WHATEVER THE INPUT: true; the input reads as it did. -/
def fnExactCriticalTasksSpec : ChangeSpec := { name := "fnExactCriticalTasks", fn := fun _ => fun
  | [d] => { results := [.lit (.bool true)], args := [d] }
  | _ => none }
def fnExactCriticalTasksRow : OpenClaim := { program := "ythidlioacgadaaa", sum := "f15b84ef0d1f06dd10a992323fc51ad245bf0130170521315f401765f6e5499c", func := "loop.example/g01032/laws.FnExactCriticalTasks", spec := "fnExactCriticalTasks", unfollowed := true, recurses := true, apart := false }
def FnExactCriticalTasksSaid : Prop := fnExactCriticalTasksRow.holds Try.pinned (OpenSpec.ofChange fnExactCriticalTasksSpec)

/-- ITS FALSE NEIGHBOUR: 'it returns false'. Refute it at one input. -/
def fnExactCriticalTasksWrong : ChangeSpec := { name := "fnExactCriticalTasks", fn := fun _ => fun
  | [d] => { results := [.lit (.bool false)], args := [d] }
  | _ => none }
def FnExactCriticalTasksWrongFalsely : Prop := fnExactCriticalTasksRow.holds Try.pinned (OpenSpec.ofChange fnExactCriticalTasksWrong)

/-- 'laws.FnExactBestTasks': WHATEVER THE INPUT: true; the input reads as it did. -/
def fnExactBestTasksSpec : ChangeSpec := { name := "fnExactBestTasks", fn := fun _ => fun
  | [d1, d2, d3] => { results := [.lit (.bool true)], args := [d1, d2, d3] }
  | _ => none }
def fnExactBestTasksRow : OpenClaim := { program := "ythidlioacgadaaa", sum := "f15b84ef0d1f06dd10a992323fc51ad245bf0130170521315f401765f6e5499c", func := "loop.example/g01032/laws.FnExactBestTasks", spec := "fnExactBestTasks", unfollowed := true, recurses := true, apart := false }
def FnExactBestTasksSaid : Prop := fnExactBestTasksRow.holds Try.pinned (OpenSpec.ofChange fnExactBestTasksSpec)

/-- ITS FALSE NEIGHBOUR: 'it returns false'. Refute it at one input. -/
def fnExactBestTasksWrong : ChangeSpec := { name := "fnExactBestTasks", fn := fun _ => fun
  | [d1, d2, d3] => { results := [.lit (.bool false)], args := [d1, d2, d3] }
  | _ => none }
def FnExactBestTasksWrongFalsely : Prop := fnExactBestTasksRow.holds Try.pinned (OpenSpec.ofChange fnExactBestTasksWrong)

/-- 'laws.FnWorkTimes': WHATEVER THE INPUT: true; the input reads as it did. -/
def fnWorkTimesSpec : ChangeSpec := { name := "fnWorkTimes", fn := fun _ => fun
  | [d1, d2] => { results := [.lit (.bool true)], args := [d1, d2] }
  | _ => none }
def fnWorkTimesRow : OpenClaim := { program := "ythidlioacgadaaa", sum := "f15b84ef0d1f06dd10a992323fc51ad245bf0130170521315f401765f6e5499c", func := "loop.example/g01032/laws.FnWorkTimes", spec := "fnWorkTimes", unfollowed := true, recurses := true, apart := false }
def FnWorkTimesSaid : Prop := fnWorkTimesRow.holds Try.pinned (OpenSpec.ofChange fnWorkTimesSpec)

/-- ITS FALSE NEIGHBOUR: 'it returns false'. Refute it at one input. -/
def fnWorkTimesWrong : ChangeSpec := { name := "fnWorkTimes", fn := fun _ => fun
  | [d1, d2] => { results := [.lit (.bool false)], args := [d1, d2] }
  | _ => none }
def FnWorkTimesWrongFalsely : Prop := fnWorkTimesRow.holds Try.pinned (OpenSpec.ofChange fnWorkTimesWrong)

/- THE SECOND FORM. 'bulk': how many values and letters a reading holds, each counted each time it is reached (what is shared counts as often as it is met; a slice's spare places count too). A statement '..UptoSaid' is the law's where the arguments, and the package variables that the reading takes, are together of bulk at most 1048576: NARROWER than '..Said'. Prove '..Said' where nothing that the law and all that it calls make is longer than what came in: it says more and counts as full. Else prove '..UptoSaid'. A law counts once. -/
mutual
def uptoBulk {H : Type} : DataW H → Nat
  | .lit (.string bytes) => bytes.length + 1
  | .lit _ => 1
  | .nil => 1
  | .ptr d => uptoBulk d + 1
  | .slice elems spare => uptoBulkAll elems + uptoBulkAll spare + 1
  | .agg parts => uptoBulkAll parts + 1
  | .iface _ d => uptoBulk d + 1
  | .map entries => uptoBulkEntries entries + 1
  | .held _ => 1
def uptoBulkAll {H : Type} : List (DataW H) → Nat
  | [] => 0
  | d :: r => uptoBulk d + uptoBulkAll r
def uptoBulkEntries {H : Type} : List (Lit × DataW H) → Nat
  | [] => 0
  | x :: r => uptoBulkEntry x + uptoBulkEntries r
def uptoBulkEntry {H : Type} : Lit × DataW H → Nat
  | (.string bytes, d) => bytes.length + uptoBulk d + 1
  | (_, d) => uptoBulk d + 1
 end
def uptoSmall : (H : Type) → List (DataW H) → Bool := fun _ ds => decide (uptoBulkAll ds ≤ 1048576)
def OpenSpec.upto (s : _root_.Go.ChangeSpec) : _root_.Go.OpenSpec := { _root_.Go.OpenSpec.ofChange s with cond := some uptoSmall }

/-- 'laws.FnExactValidTasks', WHERE WHAT IT READS IS OF BULK AT MOST 1048576: true; the input reads as it did. -/
def fnExactValidTasksUptoRow : OpenClaim := { program := "ythidlioacgadaaa", sum := "f15b84ef0d1f06dd10a992323fc51ad245bf0130170521315f401765f6e5499c", func := "loop.example/g01032/laws.FnExactValidTasks", spec := "fnExactValidTasks", apart := false, narrowed := true }
def FnExactValidTasksUptoSaid : Prop := fnExactValidTasksUptoRow.holds Try.pinned (OpenSpec.upto fnExactValidTasksSpec)

/-- 'laws.FnExactSameTasks', WHERE WHAT IT READS IS OF BULK AT MOST 1048576: true; the input reads as it did. -/
def fnExactSameTasksUptoRow : OpenClaim := { program := "ythidlioacgadaaa", sum := "f15b84ef0d1f06dd10a992323fc51ad245bf0130170521315f401765f6e5499c", func := "loop.example/g01032/laws.FnExactSameTasks", spec := "fnExactSameTasks", apart := false, narrowed := true }
def FnExactSameTasksUptoSaid : Prop := fnExactSameTasksUptoRow.holds Try.pinned (OpenSpec.upto fnExactSameTasksSpec)

/-- 'laws.FnExactProjectDays', WHERE WHAT IT READS IS OF BULK AT MOST 1048576: true; the input reads as it did. -/
def fnExactProjectDaysUptoRow : OpenClaim := { program := "ythidlioacgadaaa", sum := "f15b84ef0d1f06dd10a992323fc51ad245bf0130170521315f401765f6e5499c", func := "loop.example/g01032/laws.FnExactProjectDays", spec := "fnExactProjectDays", apart := false, narrowed := true }
def FnExactProjectDaysUptoSaid : Prop := fnExactProjectDaysUptoRow.holds Try.pinned (OpenSpec.upto fnExactProjectDaysSpec)

/-- 'laws.FnExactIsClosedSet', WHERE WHAT IT READS IS OF BULK AT MOST 1048576: true; the input reads as it did. -/
def fnExactIsClosedSetUptoRow : OpenClaim := { program := "ythidlioacgadaaa", sum := "f15b84ef0d1f06dd10a992323fc51ad245bf0130170521315f401765f6e5499c", func := "loop.example/g01032/laws.FnExactIsClosedSet", spec := "fnExactIsClosedSet", unfollowed := true, recurses := true, apart := false, narrowed := true }
def FnExactIsClosedSetUptoSaid : Prop := fnExactIsClosedSetUptoRow.holds Try.pinned (OpenSpec.upto fnExactIsClosedSetSpec)

/-- 'laws.FnExactDelayTask', WHERE WHAT IT READS IS OF BULK AT MOST 1048576: true; the input reads as it did. -/
def fnExactDelayTaskUptoRow : OpenClaim := { program := "ythidlioacgadaaa", sum := "f15b84ef0d1f06dd10a992323fc51ad245bf0130170521315f401765f6e5499c", func := "loop.example/g01032/laws.FnExactDelayTask", spec := "fnExactDelayTask", apart := false, narrowed := true }
def FnExactDelayTaskUptoSaid : Prop := fnExactDelayTaskUptoRow.holds Try.pinned (OpenSpec.upto fnExactDelayTaskSpec)

/-- 'laws.FnExactEarliestStarts', WHERE WHAT IT READS IS OF BULK AT MOST 1048576: true; the input reads as it did. -/
def fnExactEarliestStartsUptoRow : OpenClaim := { program := "ythidlioacgadaaa", sum := "f15b84ef0d1f06dd10a992323fc51ad245bf0130170521315f401765f6e5499c", func := "loop.example/g01032/laws.FnExactEarliestStarts", spec := "fnExactEarliestStarts", apart := false, narrowed := true }
def FnExactEarliestStartsUptoSaid : Prop := fnExactEarliestStartsUptoRow.holds Try.pinned (OpenSpec.upto fnExactEarliestStartsSpec)

/-- 'laws.FnExactCostUntil', WHERE WHAT IT READS IS OF BULK AT MOST 1048576: true; the input reads as it did. -/
def fnExactCostUntilUptoRow : OpenClaim := { program := "ythidlioacgadaaa", sum := "f15b84ef0d1f06dd10a992323fc51ad245bf0130170521315f401765f6e5499c", func := "loop.example/g01032/laws.FnExactCostUntil", spec := "fnExactCostUntil", apart := false, narrowed := true }
def FnExactCostUntilUptoSaid : Prop := fnExactCostUntilUptoRow.holds Try.pinned (OpenSpec.upto fnExactCostUntilSpec)

/-- 'laws.FnExactMostClay', WHERE WHAT IT READS IS OF BULK AT MOST 1048576: true; the input reads as it did. -/
def fnExactMostClayUptoRow : OpenClaim := { program := "ythidlioacgadaaa", sum := "f15b84ef0d1f06dd10a992323fc51ad245bf0130170521315f401765f6e5499c", func := "loop.example/g01032/laws.FnExactMostClay", spec := "fnExactMostClay", apart := false, narrowed := true }
def FnExactMostClayUptoSaid : Prop := fnExactMostClayUptoRow.holds Try.pinned (OpenSpec.upto fnExactMostClaySpec)

/-- 'laws.FnExactClayOn', WHERE WHAT IT READS IS OF BULK AT MOST 1048576: true; the input reads as it did. -/
def fnExactClayOnUptoRow : OpenClaim := { program := "ythidlioacgadaaa", sum := "f15b84ef0d1f06dd10a992323fc51ad245bf0130170521315f401765f6e5499c", func := "loop.example/g01032/laws.FnExactClayOn", spec := "fnExactClayOn", apart := false, narrowed := true }
def FnExactClayOnUptoSaid : Prop := fnExactClayOnUptoRow.holds Try.pinned (OpenSpec.upto fnExactClayOnSpec)

/-- 'laws.FnExactLatestStarts', WHERE WHAT IT READS IS OF BULK AT MOST 1048576: true; the input reads as it did. -/
def fnExactLatestStartsUptoRow : OpenClaim := { program := "ythidlioacgadaaa", sum := "f15b84ef0d1f06dd10a992323fc51ad245bf0130170521315f401765f6e5499c", func := "loop.example/g01032/laws.FnExactLatestStarts", spec := "fnExactLatestStarts", apart := false, narrowed := true }
def FnExactLatestStartsUptoSaid : Prop := fnExactLatestStartsUptoRow.holds Try.pinned (OpenSpec.upto fnExactLatestStartsSpec)

/-- 'laws.FnExactCriticalTasks', WHERE WHAT IT READS IS OF BULK AT MOST 1048576: true; the input reads as it did. -/
def fnExactCriticalTasksUptoRow : OpenClaim := { program := "ythidlioacgadaaa", sum := "f15b84ef0d1f06dd10a992323fc51ad245bf0130170521315f401765f6e5499c", func := "loop.example/g01032/laws.FnExactCriticalTasks", spec := "fnExactCriticalTasks", unfollowed := true, recurses := true, apart := false, narrowed := true }
def FnExactCriticalTasksUptoSaid : Prop := fnExactCriticalTasksUptoRow.holds Try.pinned (OpenSpec.upto fnExactCriticalTasksSpec)

/-- 'laws.FnExactBestTasks', WHERE WHAT IT READS IS OF BULK AT MOST 1048576: true; the input reads as it did. -/
def fnExactBestTasksUptoRow : OpenClaim := { program := "ythidlioacgadaaa", sum := "f15b84ef0d1f06dd10a992323fc51ad245bf0130170521315f401765f6e5499c", func := "loop.example/g01032/laws.FnExactBestTasks", spec := "fnExactBestTasks", unfollowed := true, recurses := true, apart := false, narrowed := true }
def FnExactBestTasksUptoSaid : Prop := fnExactBestTasksUptoRow.holds Try.pinned (OpenSpec.upto fnExactBestTasksSpec)

/-- 'laws.FnWorkTimes', WHERE WHAT IT READS IS OF BULK AT MOST 1048576: true; the input reads as it did. -/
def fnWorkTimesUptoRow : OpenClaim := { program := "ythidlioacgadaaa", sum := "f15b84ef0d1f06dd10a992323fc51ad245bf0130170521315f401765f6e5499c", func := "loop.example/g01032/laws.FnWorkTimes", spec := "fnWorkTimes", unfollowed := true, recurses := true, apart := false, narrowed := true }
def FnWorkTimesUptoSaid : Prop := fnWorkTimesUptoRow.holds Try.pinned (OpenSpec.upto fnWorkTimesSpec)

end Rows
end Go.Proofs.Ythidlioacgadaaa
