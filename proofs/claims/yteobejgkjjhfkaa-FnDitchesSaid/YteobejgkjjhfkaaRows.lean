/-
  No cell of these rows narrows 'for every input' (looked for: loops, veiled, ifaces, maps, wideKeys, modest, calm, conditions, laid).
  DERIVED. THE GIVEN ROWS OF THIS SEAT. 9 by the template 'for every input the law returns true; each argument reads behind the call as it read before'; 0 by the template 'total and deterministic' (their statements: YteobejgkjjhfkaaTotals.lean).
  GIVEN WITH THE SEED: the statements are not yours to turn. If you find one false, say at which input.
  Laid BY PROGRAM, IN A SANDBOX (cutbox-rows.mjs): the forced cells as the released guide's own fill.sh prints them over the translation 88d65b3d1635afeb… (all of the seat's roots in one cut). By AI agents, Wed Nov 11 2026. No macro, syntax, notation, axiom, sorry.
-/
import Derived.Test.YteobejgkjjhfkaaChecked
import GoSem.Claim
import GoSem.ClaimJoined
import GoSem.ClaimMapViews
import Derived.JoinedTies
import Derived.KernelRfl
namespace Go.Proofs.Yteobejgkjjhfkaa
/- THE CELL 'sum', in the pinned program and in every row, IS THE sha256 OF THE DUMP (.gsa) THAT YteobejgkjjhfkaaProg.lean LOADS. Nothing in Lean hashes anything: it is a label: what it is worth is what the hold of that sum in a sandbox is worth. -/
noncomputable def Try.pinned : Pinned := { name := "yteobejgkjjhfkaa", sum := "88d65b3d1635afebf9d9b91782b0fea5744f7c2451b8c4e5e0579d03b50cf2f0", checked := Try.checked }
namespace Rows
def none {H : Type} : Left H := { results := [], args := [] }

/-- 'laws.FnRunoff': WHATEVER THE INPUT: true; the input reads as it did. -/
def fnRunoffSpec : ChangeSpec := { name := "fnRunoff", fn := fun _ => fun
  | [d1, d2] => { results := [.lit (.bool true)], args := [d1, d2] }
  | _ => none }
def fnRunoffRow : OpenClaim := { program := "yteobejgkjjhfkaa", sum := "88d65b3d1635afebf9d9b91782b0fea5744f7c2451b8c4e5e0579d03b50cf2f0", func := "loop.example/g01032/laws.FnRunoff", spec := "fnRunoff", unfollowed := true, recurses := true, apart := false }
def FnRunoffSaid : Prop := fnRunoffRow.holds Try.pinned (OpenSpec.ofChange fnRunoffSpec)

/-- ITS FALSE NEIGHBOUR: 'it returns false'. Refute it at one input. -/
def fnRunoffWrong : ChangeSpec := { name := "fnRunoff", fn := fun _ => fun
  | [d1, d2] => { results := [.lit (.bool false)], args := [d1, d2] }
  | _ => none }
def FnRunoffWrongFalsely : Prop := fnRunoffRow.holds Try.pinned (OpenSpec.ofChange fnRunoffWrong)

/-- 'laws.FnDrySpells': WHATEVER THE INPUT: true; the input reads as it did. -/
def fnDrySpellsSpec : ChangeSpec := { name := "fnDrySpells", fn := fun _ => fun
  | [d] => { results := [.lit (.bool true)], args := [d] }
  | _ => none }
def fnDrySpellsRow : OpenClaim := { program := "yteobejgkjjhfkaa", sum := "88d65b3d1635afebf9d9b91782b0fea5744f7c2451b8c4e5e0579d03b50cf2f0", func := "loop.example/g01032/laws.FnDrySpells", spec := "fnDrySpells", unfollowed := true, recurses := true, apart := false }
def FnDrySpellsSaid : Prop := fnDrySpellsRow.holds Try.pinned (OpenSpec.ofChange fnDrySpellsSpec)

/-- ITS FALSE NEIGHBOUR: 'it returns false'. Refute it at one input. -/
def fnDrySpellsWrong : ChangeSpec := { name := "fnDrySpells", fn := fun _ => fun
  | [d] => { results := [.lit (.bool false)], args := [d] }
  | _ => none }
def FnDrySpellsWrongFalsely : Prop := fnDrySpellsRow.holds Try.pinned (OpenSpec.ofChange fnDrySpellsWrong)

/-- 'laws.FnReturnTimes': WHATEVER THE INPUT: true; the input reads as it did. -/
def fnReturnTimesSpec : ChangeSpec := { name := "fnReturnTimes", fn := fun _ => fun
  | [d1, d2] => { results := [.lit (.bool true)], args := [d1, d2] }
  | _ => none }
def fnReturnTimesRow : OpenClaim := { program := "yteobejgkjjhfkaa", sum := "88d65b3d1635afebf9d9b91782b0fea5744f7c2451b8c4e5e0579d03b50cf2f0", func := "loop.example/g01032/laws.FnReturnTimes", spec := "fnReturnTimes", unfollowed := true, recurses := true, apart := false }
def FnReturnTimesSaid : Prop := fnReturnTimesRow.holds Try.pinned (OpenSpec.ofChange fnReturnTimesSpec)

/-- ITS FALSE NEIGHBOUR: 'it returns false'. Refute it at one input. -/
def fnReturnTimesWrong : ChangeSpec := { name := "fnReturnTimes", fn := fun _ => fun
  | [d1, d2] => { results := [.lit (.bool false)], args := [d1, d2] }
  | _ => none }
def FnReturnTimesWrongFalsely : Prop := fnReturnTimesRow.holds Try.pinned (OpenSpec.ofChange fnReturnTimesWrong)

/-- 'laws.FnTidesBelow': WHATEVER THE INPUT: true; the input reads as it did. -/
def fnTidesBelowSpec : ChangeSpec := { name := "fnTidesBelow", fn := fun _ => fun
  | [d1, d2] => { results := [.lit (.bool true)], args := [d1, d2] }
  | _ => none }
def fnTidesBelowRow : OpenClaim := { program := "yteobejgkjjhfkaa", sum := "88d65b3d1635afebf9d9b91782b0fea5744f7c2451b8c4e5e0579d03b50cf2f0", func := "loop.example/g01032/laws.FnTidesBelow", spec := "fnTidesBelow", unfollowed := true, recurses := true, apart := false }
def FnTidesBelowSaid : Prop := fnTidesBelowRow.holds Try.pinned (OpenSpec.ofChange fnTidesBelowSpec)

/-- ITS FALSE NEIGHBOUR: 'it returns false'. Refute it at one input. -/
def fnTidesBelowWrong : ChangeSpec := { name := "fnTidesBelow", fn := fun _ => fun
  | [d1, d2] => { results := [.lit (.bool false)], args := [d1, d2] }
  | _ => none }
def FnTidesBelowWrongFalsely : Prop := fnTidesBelowRow.holds Try.pinned (OpenSpec.ofChange fnTidesBelowWrong)

/-- 'laws.FnMillHours': WHATEVER THE INPUT: true; the input reads as it did. -/
def fnMillHoursSpec : ChangeSpec := { name := "fnMillHours", fn := fun _ => fun
  | [d1, d2] => { results := [.lit (.bool true)], args := [d1, d2] }
  | _ => none }
def fnMillHoursRow : OpenClaim := { program := "yteobejgkjjhfkaa", sum := "88d65b3d1635afebf9d9b91782b0fea5744f7c2451b8c4e5e0579d03b50cf2f0", func := "loop.example/g01032/laws.FnMillHours", spec := "fnMillHours", unfollowed := true, recurses := true, apart := false }
def FnMillHoursSaid : Prop := fnMillHoursRow.holds Try.pinned (OpenSpec.ofChange fnMillHoursSpec)

/-- ITS FALSE NEIGHBOUR: 'it returns false'. Refute it at one input. -/
def fnMillHoursWrong : ChangeSpec := { name := "fnMillHours", fn := fun _ => fun
  | [d1, d2] => { results := [.lit (.bool false)], args := [d1, d2] }
  | _ => none }
def FnMillHoursWrongFalsely : Prop := fnMillHoursRow.holds Try.pinned (OpenSpec.ofChange fnMillHoursWrong)

/-- 'laws.FnDitches': WHATEVER THE INPUT: true; the input reads as it did. -/
def fnDitchesSpec : ChangeSpec := { name := "fnDitches", fn := fun _ => fun
  | [d1, d2] => { results := [.lit (.bool true)], args := [d1, d2] }
  | _ => none }
def fnDitchesRow : OpenClaim := { program := "yteobejgkjjhfkaa", sum := "88d65b3d1635afebf9d9b91782b0fea5744f7c2451b8c4e5e0579d03b50cf2f0", func := "loop.example/g01032/laws.FnDitches", spec := "fnDitches", unfollowed := true, recurses := true, apart := false }
def FnDitchesSaid : Prop := fnDitchesRow.holds Try.pinned (OpenSpec.ofChange fnDitchesSpec)

/-- ITS FALSE NEIGHBOUR: 'it returns false'. Refute it at one input. -/
def fnDitchesWrong : ChangeSpec := { name := "fnDitches", fn := fun _ => fun
  | [d1, d2] => { results := [.lit (.bool false)], args := [d1, d2] }
  | _ => none }
def FnDitchesWrongFalsely : Prop := fnDitchesRow.holds Try.pinned (OpenSpec.ofChange fnDitchesWrong)

/-- 'laws.FnTideShifts': WHATEVER THE INPUT: true; the input reads as it did. -/
def fnTideShiftsSpec : ChangeSpec := { name := "fnTideShifts", fn := fun _ => fun
  | [d1, d2] => { results := [.lit (.bool true)], args := [d1, d2] }
  | _ => none }
def fnTideShiftsRow : OpenClaim := { program := "yteobejgkjjhfkaa", sum := "88d65b3d1635afebf9d9b91782b0fea5744f7c2451b8c4e5e0579d03b50cf2f0", func := "loop.example/g01032/laws.FnTideShifts", spec := "fnTideShifts", unfollowed := true, recurses := true, apart := false }
def FnTideShiftsSaid : Prop := fnTideShiftsRow.holds Try.pinned (OpenSpec.ofChange fnTideShiftsSpec)

/-- ITS FALSE NEIGHBOUR: 'it returns false'. Refute it at one input. -/
def fnTideShiftsWrong : ChangeSpec := { name := "fnTideShifts", fn := fun _ => fun
  | [d1, d2] => { results := [.lit (.bool false)], args := [d1, d2] }
  | _ => none }
def FnTideShiftsWrongFalsely : Prop := fnTideShiftsRow.holds Try.pinned (OpenSpec.ofChange fnTideShiftsWrong)

/-- 'laws.FnBestAlarm': WHATEVER THE INPUT: true; the input reads as it did. -/
def fnBestAlarmSpec : ChangeSpec := { name := "fnBestAlarm", fn := fun _ => fun
  | [d1, d2] => { results := [.lit (.bool true)], args := [d1, d2] }
  | _ => none }
def fnBestAlarmRow : OpenClaim := { program := "yteobejgkjjhfkaa", sum := "88d65b3d1635afebf9d9b91782b0fea5744f7c2451b8c4e5e0579d03b50cf2f0", func := "loop.example/g01032/laws.FnBestAlarm", spec := "fnBestAlarm", unfollowed := true, recurses := true, apart := false }
def FnBestAlarmSaid : Prop := fnBestAlarmRow.holds Try.pinned (OpenSpec.ofChange fnBestAlarmSpec)

/-- ITS FALSE NEIGHBOUR: 'it returns false'. Refute it at one input. -/
def fnBestAlarmWrong : ChangeSpec := { name := "fnBestAlarm", fn := fun _ => fun
  | [d1, d2] => { results := [.lit (.bool false)], args := [d1, d2] }
  | _ => none }
def FnBestAlarmWrongFalsely : Prop := fnBestAlarmRow.holds Try.pinned (OpenSpec.ofChange fnBestAlarmWrong)

/-- 'laws.FnMillSets': WHATEVER THE INPUT: true; the input reads as it did. -/
def fnMillSetsSpec : ChangeSpec := { name := "fnMillSets", fn := fun _ => fun
  | [d1, d2] => { results := [.lit (.bool true)], args := [d1, d2] }
  | _ => none }
def fnMillSetsRow : OpenClaim := { program := "yteobejgkjjhfkaa", sum := "88d65b3d1635afebf9d9b91782b0fea5744f7c2451b8c4e5e0579d03b50cf2f0", func := "loop.example/g01032/laws.FnMillSets", spec := "fnMillSets", unfollowed := true, recurses := true, apart := false }
def FnMillSetsSaid : Prop := fnMillSetsRow.holds Try.pinned (OpenSpec.ofChange fnMillSetsSpec)

/-- ITS FALSE NEIGHBOUR: 'it returns false'. Refute it at one input. -/
def fnMillSetsWrong : ChangeSpec := { name := "fnMillSets", fn := fun _ => fun
  | [d1, d2] => { results := [.lit (.bool false)], args := [d1, d2] }
  | _ => none }
def FnMillSetsWrongFalsely : Prop := fnMillSetsRow.holds Try.pinned (OpenSpec.ofChange fnMillSetsWrong)

/- THE SECOND FORM. 'bulk': how many values and letters a reading holds, each counted each time it is reached (what is shared counts as often as it is met; a slice's spare places count too). A statement '..UptoSaid' is the law's where the arguments, and the package variables that the reading takes, are together of bulk at most 1048576: NARROWER than '..Said'. Prove '..Said' where nothing that the law and all that it calls make is longer than what came in: it says more and counts as full. Else prove '..UptoSaid'. A law counts once. -/
mutual
def uptoBulk {H : Type} : DataW H → Nat
  | .lit (.string bytes) => bytes.length + 1
  | .lit _ => 1
  | .nil => 1
  | .ptr d => uptoBulk d + 1
  | .slice elems spare => uptoBulkAll elems + uptoBulkAll spare + 1
  | .agg parts => uptoBulkAll parts + 1
  | .iface _ d => uptoBulk d + 1
  | .map entries => uptoBulkEntries entries + 1
  | .held _ => 1
def uptoBulkAll {H : Type} : List (DataW H) → Nat
  | [] => 0
  | d :: r => uptoBulk d + uptoBulkAll r
def uptoBulkEntries {H : Type} : List (Lit × DataW H) → Nat
  | [] => 0
  | x :: r => uptoBulkEntry x + uptoBulkEntries r
def uptoBulkEntry {H : Type} : Lit × DataW H → Nat
  | (.string bytes, d) => bytes.length + uptoBulk d + 1
  | (_, d) => uptoBulk d + 1
 end
def uptoSmall : (H : Type) → List (DataW H) → Bool := fun _ ds => decide (uptoBulkAll ds ≤ 1048576)
def OpenSpec.upto (s : _root_.Go.ChangeSpec) : _root_.Go.OpenSpec := { _root_.Go.OpenSpec.ofChange s with cond := some uptoSmall }

/-- 'laws.FnRunoff', WHERE WHAT IT READS IS OF BULK AT MOST 1048576: true; the input reads as it did. -/
def fnRunoffUptoRow : OpenClaim := { program := "yteobejgkjjhfkaa", sum := "88d65b3d1635afebf9d9b91782b0fea5744f7c2451b8c4e5e0579d03b50cf2f0", func := "loop.example/g01032/laws.FnRunoff", spec := "fnRunoff", unfollowed := true, recurses := true, apart := false, narrowed := true }
def FnRunoffUptoSaid : Prop := fnRunoffUptoRow.holds Try.pinned (OpenSpec.upto fnRunoffSpec)

/-- 'laws.FnDrySpells', WHERE WHAT IT READS IS OF BULK AT MOST 1048576: true; the input reads as it did. -/
def fnDrySpellsUptoRow : OpenClaim := { program := "yteobejgkjjhfkaa", sum := "88d65b3d1635afebf9d9b91782b0fea5744f7c2451b8c4e5e0579d03b50cf2f0", func := "loop.example/g01032/laws.FnDrySpells", spec := "fnDrySpells", unfollowed := true, recurses := true, apart := false, narrowed := true }
def FnDrySpellsUptoSaid : Prop := fnDrySpellsUptoRow.holds Try.pinned (OpenSpec.upto fnDrySpellsSpec)

/-- 'laws.FnReturnTimes', WHERE WHAT IT READS IS OF BULK AT MOST 1048576: true; the input reads as it did. -/
def fnReturnTimesUptoRow : OpenClaim := { program := "yteobejgkjjhfkaa", sum := "88d65b3d1635afebf9d9b91782b0fea5744f7c2451b8c4e5e0579d03b50cf2f0", func := "loop.example/g01032/laws.FnReturnTimes", spec := "fnReturnTimes", unfollowed := true, recurses := true, apart := false, narrowed := true }
def FnReturnTimesUptoSaid : Prop := fnReturnTimesUptoRow.holds Try.pinned (OpenSpec.upto fnReturnTimesSpec)

/-- 'laws.FnTidesBelow', WHERE WHAT IT READS IS OF BULK AT MOST 1048576: true; the input reads as it did. -/
def fnTidesBelowUptoRow : OpenClaim := { program := "yteobejgkjjhfkaa", sum := "88d65b3d1635afebf9d9b91782b0fea5744f7c2451b8c4e5e0579d03b50cf2f0", func := "loop.example/g01032/laws.FnTidesBelow", spec := "fnTidesBelow", unfollowed := true, recurses := true, apart := false, narrowed := true }
def FnTidesBelowUptoSaid : Prop := fnTidesBelowUptoRow.holds Try.pinned (OpenSpec.upto fnTidesBelowSpec)

/-- 'laws.FnMillHours', WHERE WHAT IT READS IS OF BULK AT MOST 1048576: true; the input reads as it did. -/
def fnMillHoursUptoRow : OpenClaim := { program := "yteobejgkjjhfkaa", sum := "88d65b3d1635afebf9d9b91782b0fea5744f7c2451b8c4e5e0579d03b50cf2f0", func := "loop.example/g01032/laws.FnMillHours", spec := "fnMillHours", unfollowed := true, recurses := true, apart := false, narrowed := true }
def FnMillHoursUptoSaid : Prop := fnMillHoursUptoRow.holds Try.pinned (OpenSpec.upto fnMillHoursSpec)

/-- 'laws.FnDitches', WHERE WHAT IT READS IS OF BULK AT MOST 1048576: true; the input reads as it did. -/
def fnDitchesUptoRow : OpenClaim := { program := "yteobejgkjjhfkaa", sum := "88d65b3d1635afebf9d9b91782b0fea5744f7c2451b8c4e5e0579d03b50cf2f0", func := "loop.example/g01032/laws.FnDitches", spec := "fnDitches", unfollowed := true, recurses := true, apart := false, narrowed := true }
def FnDitchesUptoSaid : Prop := fnDitchesUptoRow.holds Try.pinned (OpenSpec.upto fnDitchesSpec)

/-- 'laws.FnTideShifts', WHERE WHAT IT READS IS OF BULK AT MOST 1048576: true; the input reads as it did. -/
def fnTideShiftsUptoRow : OpenClaim := { program := "yteobejgkjjhfkaa", sum := "88d65b3d1635afebf9d9b91782b0fea5744f7c2451b8c4e5e0579d03b50cf2f0", func := "loop.example/g01032/laws.FnTideShifts", spec := "fnTideShifts", unfollowed := true, recurses := true, apart := false, narrowed := true }
def FnTideShiftsUptoSaid : Prop := fnTideShiftsUptoRow.holds Try.pinned (OpenSpec.upto fnTideShiftsSpec)

/-- 'laws.FnBestAlarm', WHERE WHAT IT READS IS OF BULK AT MOST 1048576: true; the input reads as it did. -/
def fnBestAlarmUptoRow : OpenClaim := { program := "yteobejgkjjhfkaa", sum := "88d65b3d1635afebf9d9b91782b0fea5744f7c2451b8c4e5e0579d03b50cf2f0", func := "loop.example/g01032/laws.FnBestAlarm", spec := "fnBestAlarm", unfollowed := true, recurses := true, apart := false, narrowed := true }
def FnBestAlarmUptoSaid : Prop := fnBestAlarmUptoRow.holds Try.pinned (OpenSpec.upto fnBestAlarmSpec)

/-- 'laws.FnMillSets', WHERE WHAT IT READS IS OF BULK AT MOST 1048576: true; the input reads as it did. -/
def fnMillSetsUptoRow : OpenClaim := { program := "yteobejgkjjhfkaa", sum := "88d65b3d1635afebf9d9b91782b0fea5744f7c2451b8c4e5e0579d03b50cf2f0", func := "loop.example/g01032/laws.FnMillSets", spec := "fnMillSets", unfollowed := true, recurses := true, apart := false, narrowed := true }
def FnMillSetsUptoSaid : Prop := fnMillSetsUptoRow.holds Try.pinned (OpenSpec.upto fnMillSetsSpec)

end Rows
end Go.Proofs.Yteobejgkjjhfkaa
