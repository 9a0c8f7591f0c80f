/-
  No cell of these rows narrows 'for every input' (looked for: loops, veiled, ifaces, maps, wideKeys, modest, calm, conditions, laid).
  DERIVED. THE GIVEN ROWS OF THIS SEAT. 4 by the template 'for every input the law returns true; each argument reads behind the call as it read before'; 0 by the template 'total and deterministic' (their statements: YtampbbknhbhcbaaTotals.lean).
  GIVEN WITH THE SEED: the statements are not yours to turn. If you find one false, say at which input.
  Laid BY PROGRAM, IN A SANDBOX (cutbox-rows.mjs): the forced cells as the released guide's own fill.sh prints them over the translation adf8f7fe464bee74… (all of the seat's roots in one cut). By AI agents, Wed Nov 11 2026. No macro, syntax, notation, axiom, sorry.
-/
import Derived.Test.YtampbbknhbhcbaaChecked
import GoSem.Claim
import GoSem.ClaimJoined
import GoSem.ClaimMapViews
import Derived.JoinedTies
import Derived.KernelRfl
namespace Go.Proofs.Ytampbbknhbhcbaa
/- THE CELL 'sum', in the pinned program and in every row, IS THE sha256 OF THE DUMP (.gsa) THAT YtampbbknhbhcbaaProg.lean LOADS. Nothing in Lean hashes anything: it is a label: what it is worth is what the hold of that sum in a sandbox is worth. -/
noncomputable def Try.pinned : Pinned := { name := "ytampbbknhbhcbaa", sum := "adf8f7fe464bee74bfc923dfe07a51da89a8007024c9af02f2fd0c8e1f51c931", checked := Try.checked }
namespace Rows
def none {H : Type} : Left H := { results := [], args := [] }

/-- 'laws.FnExactDivideDike': WHATEVER THE INPUT: true; the input reads as it did. -/
def fnExactDivideDikeSpec : ChangeSpec := { name := "fnExactDivideDike", fn := fun _ => fun
  | [d1, d2] => { results := [.lit (.bool true)], args := [d1, d2] }
  | _ => none }
def fnExactDivideDikeRow : OpenClaim := { program := "ytampbbknhbhcbaa", sum := "adf8f7fe464bee74bfc923dfe07a51da89a8007024c9af02f2fd0c8e1f51c931", func := "loop.example/g01032/laws.FnExactDivideDike", spec := "fnExactDivideDike", inPlace := ["internal/reflectlite.ValueOf", "internal/reflectlite.Swapper", "(internal/reflectlite.Value).Len"], unfollowed := true, recurses := true, apart := false }
def FnExactDivideDikeSaid : Prop := fnExactDivideDikeRow.holds Try.pinned (OpenSpec.ofChange fnExactDivideDikeSpec)

/-- ITS FALSE NEIGHBOUR: 'it returns false'. Refute it at one input. -/
def fnExactDivideDikeWrong : ChangeSpec := { name := "fnExactDivideDike", fn := fun _ => fun
  | [d1, d2] => { results := [.lit (.bool false)], args := [d1, d2] }
  | _ => none }
def FnExactDivideDikeWrongFalsely : Prop := fnExactDivideDikeRow.holds Try.pinned (OpenSpec.ofChange fnExactDivideDikeWrong)

/-- 'laws.FnExactUnfairDuties': WHATEVER THE INPUT: true; the input reads as it did. -/
def fnExactUnfairDutiesSpec : ChangeSpec := { name := "fnExactUnfairDuties", fn := fun _ => fun
  | [d1, d2, d3] => { results := [.lit (.bool true)], args := [d1, d2, d3] }
  | _ => none }
def fnExactUnfairDutiesRow : OpenClaim := { program := "ytampbbknhbhcbaa", sum := "adf8f7fe464bee74bfc923dfe07a51da89a8007024c9af02f2fd0c8e1f51c931", func := "loop.example/g01032/laws.FnExactUnfairDuties", spec := "fnExactUnfairDuties", inPlace := ["internal/reflectlite.ValueOf", "internal/reflectlite.Swapper", "(internal/reflectlite.Value).Len"], unfollowed := true, recurses := true, apart := false }
def FnExactUnfairDutiesSaid : Prop := fnExactUnfairDutiesRow.holds Try.pinned (OpenSpec.ofChange fnExactUnfairDutiesSpec)

/-- ITS FALSE NEIGHBOUR: 'it returns false'. Refute it at one input. -/
def fnExactUnfairDutiesWrong : ChangeSpec := { name := "fnExactUnfairDuties", fn := fun _ => fun
  | [d1, d2, d3] => { results := [.lit (.bool false)], args := [d1, d2, d3] }
  | _ => none }
def FnExactUnfairDutiesWrongFalsely : Prop := fnExactUnfairDutiesRow.holds Try.pinned (OpenSpec.ofChange fnExactUnfairDutiesWrong)

/-- 'laws.FnExactDuesOfOwners': WHATEVER THE INPUT: true; the input reads as it did. -/
def fnExactDuesOfOwnersSpec : ChangeSpec := { name := "fnExactDuesOfOwners", fn := fun _ => fun
  | [d1, d2, d3] => { results := [.lit (.bool true)], args := [d1, d2, d3] }
  | _ => none }
def fnExactDuesOfOwnersRow : OpenClaim := { program := "ytampbbknhbhcbaa", sum := "adf8f7fe464bee74bfc923dfe07a51da89a8007024c9af02f2fd0c8e1f51c931", func := "loop.example/g01032/laws.FnExactDuesOfOwners", spec := "fnExactDuesOfOwners", inPlace := ["internal/reflectlite.ValueOf", "internal/reflectlite.Swapper", "(internal/reflectlite.Value).Len"], unfollowed := true, recurses := true, apart := false }
def FnExactDuesOfOwnersSaid : Prop := fnExactDuesOfOwnersRow.holds Try.pinned (OpenSpec.ofChange fnExactDuesOfOwnersSpec)

/-- ITS FALSE NEIGHBOUR: 'it returns false'. Refute it at one input. -/
def fnExactDuesOfOwnersWrong : ChangeSpec := { name := "fnExactDuesOfOwners", fn := fun _ => fun
  | [d1, d2, d3] => { results := [.lit (.bool false)], args := [d1, d2, d3] }
  | _ => none }
def FnExactDuesOfOwnersWrongFalsely : Prop := fnExactDuesOfOwnersRow.holds Try.pinned (OpenSpec.ofChange fnExactDuesOfOwnersWrong)

/-- 'laws.FnExactMakeBills': WHATEVER THE INPUT: true; the input reads as it did. -/
def fnExactMakeBillsSpec : ChangeSpec := { name := "fnExactMakeBills", fn := fun _ => fun
  | [d1, d2, d3, d4] => { results := [.lit (.bool true)], args := [d1, d2, d3, d4] }
  | _ => none }
def fnExactMakeBillsRow : OpenClaim := { program := "ytampbbknhbhcbaa", sum := "adf8f7fe464bee74bfc923dfe07a51da89a8007024c9af02f2fd0c8e1f51c931", func := "loop.example/g01032/laws.FnExactMakeBills", spec := "fnExactMakeBills", inPlace := ["internal/reflectlite.ValueOf", "internal/reflectlite.Swapper", "(internal/reflectlite.Value).Len"], unfollowed := true, recurses := true, apart := false }
def FnExactMakeBillsSaid : Prop := fnExactMakeBillsRow.holds Try.pinned (OpenSpec.ofChange fnExactMakeBillsSpec)

/-- ITS FALSE NEIGHBOUR: 'it returns false'. Refute it at one input. -/
def fnExactMakeBillsWrong : ChangeSpec := { name := "fnExactMakeBills", fn := fun _ => fun
  | [d1, d2, d3, d4] => { results := [.lit (.bool false)], args := [d1, d2, d3, d4] }
  | _ => none }
def FnExactMakeBillsWrongFalsely : Prop := fnExactMakeBillsRow.holds Try.pinned (OpenSpec.ofChange fnExactMakeBillsWrong)

/- THE SECOND FORM. 'bulk': how many values and letters a reading holds, each counted each time it is reached (what is shared counts as often as it is met; a slice's spare places count too). A statement '..UptoSaid' is the law's where the arguments, and the package variables that the reading takes, are together of bulk at most 1048576: NARROWER than '..Said'. Prove '..Said' where nothing that the law and all that it calls make is longer than what came in: it says more and counts as full. Else prove '..UptoSaid'. A law counts once. -/
mutual
def uptoBulk {H : Type} : DataW H → Nat
  | .lit (.string bytes) => bytes.length + 1
  | .lit _ => 1
  | .nil => 1
  | .ptr d => uptoBulk d + 1
  | .slice elems spare => uptoBulkAll elems + uptoBulkAll spare + 1
  | .agg parts => uptoBulkAll parts + 1
  | .iface _ d => uptoBulk d + 1
  | .map entries => uptoBulkEntries entries + 1
  | .held _ => 1
def uptoBulkAll {H : Type} : List (DataW H) → Nat
  | [] => 0
  | d :: r => uptoBulk d + uptoBulkAll r
def uptoBulkEntries {H : Type} : List (Lit × DataW H) → Nat
  | [] => 0
  | x :: r => uptoBulkEntry x + uptoBulkEntries r
def uptoBulkEntry {H : Type} : Lit × DataW H → Nat
  | (.string bytes, d) => bytes.length + uptoBulk d + 1
  | (_, d) => uptoBulk d + 1
 end
def uptoSmall : (H : Type) → List (DataW H) → Bool := fun _ ds => decide (uptoBulkAll ds ≤ 1048576)
def OpenSpec.upto (s : _root_.Go.ChangeSpec) : _root_.Go.OpenSpec := { _root_.Go.OpenSpec.ofChange s with cond := some uptoSmall }

/-- 'laws.FnExactDivideDike', WHERE WHAT IT READS IS OF BULK AT MOST 1048576: true; the input reads as it did. -/
def fnExactDivideDikeUptoRow : OpenClaim := { program := "ytampbbknhbhcbaa", sum := "adf8f7fe464bee74bfc923dfe07a51da89a8007024c9af02f2fd0c8e1f51c931", func := "loop.example/g01032/laws.FnExactDivideDike", spec := "fnExactDivideDike", inPlace := ["internal/reflectlite.ValueOf", "internal/reflectlite.Swapper", "(internal/reflectlite.Value).Len"], unfollowed := true, recurses := true, apart := false, narrowed := true }
def FnExactDivideDikeUptoSaid : Prop := fnExactDivideDikeUptoRow.holds Try.pinned (OpenSpec.upto fnExactDivideDikeSpec)

/-- 'laws.FnExactUnfairDuties', WHERE WHAT IT READS IS OF BULK AT MOST 1048576: true; the input reads as it did. -/
def fnExactUnfairDutiesUptoRow : OpenClaim := { program := "ytampbbknhbhcbaa", sum := "adf8f7fe464bee74bfc923dfe07a51da89a8007024c9af02f2fd0c8e1f51c931", func := "loop.example/g01032/laws.FnExactUnfairDuties", spec := "fnExactUnfairDuties", inPlace := ["internal/reflectlite.ValueOf", "internal/reflectlite.Swapper", "(internal/reflectlite.Value).Len"], unfollowed := true, recurses := true, apart := false, narrowed := true }
def FnExactUnfairDutiesUptoSaid : Prop := fnExactUnfairDutiesUptoRow.holds Try.pinned (OpenSpec.upto fnExactUnfairDutiesSpec)

/-- 'laws.FnExactDuesOfOwners', WHERE WHAT IT READS IS OF BULK AT MOST 1048576: true; the input reads as it did. -/
def fnExactDuesOfOwnersUptoRow : OpenClaim := { program := "ytampbbknhbhcbaa", sum := "adf8f7fe464bee74bfc923dfe07a51da89a8007024c9af02f2fd0c8e1f51c931", func := "loop.example/g01032/laws.FnExactDuesOfOwners", spec := "fnExactDuesOfOwners", inPlace := ["internal/reflectlite.ValueOf", "internal/reflectlite.Swapper", "(internal/reflectlite.Value).Len"], unfollowed := true, recurses := true, apart := false, narrowed := true }
def FnExactDuesOfOwnersUptoSaid : Prop := fnExactDuesOfOwnersUptoRow.holds Try.pinned (OpenSpec.upto fnExactDuesOfOwnersSpec)

/-- 'laws.FnExactMakeBills', WHERE WHAT IT READS IS OF BULK AT MOST 1048576: true; the input reads as it did. -/
def fnExactMakeBillsUptoRow : OpenClaim := { program := "ytampbbknhbhcbaa", sum := "adf8f7fe464bee74bfc923dfe07a51da89a8007024c9af02f2fd0c8e1f51c931", func := "loop.example/g01032/laws.FnExactMakeBills", spec := "fnExactMakeBills", inPlace := ["internal/reflectlite.ValueOf", "internal/reflectlite.Swapper", "(internal/reflectlite.Value).Len"], unfollowed := true, recurses := true, apart := false, narrowed := true }
def FnExactMakeBillsUptoSaid : Prop := fnExactMakeBillsUptoRow.holds Try.pinned (OpenSpec.upto fnExactMakeBillsSpec)

end Rows
end Go.Proofs.Ytampbbknhbhcbaa
