/-
  No cell of these rows narrows 'for every input' (looked for: loops, veiled, ifaces, maps, wideKeys, modest, calm, conditions, laid).
  DERIVED. THE GIVEN ROWS OF THIS SEAT. 10 by the template 'for every input the law returns true; each argument reads behind the call as it read before'; 0 by the template 'total and deterministic' (their statements: YtjamkomgdfgmlaaTotals.lean).
  GIVEN WITH THE SEED: the statements are not yours to turn. If you find one false, say at which input.
  Laid BY PROGRAM, IN A SANDBOX (cutbox-rows.mjs): the forced cells as the released guide's own fill.sh prints them over the translation 3f508903b4247d26… (all of the seat's roots in one cut). By AI agents, Wed Nov 11 2026. No macro, syntax, notation, axiom, sorry.
-/
import Derived.Test.YtjamkomgdfgmlaaChecked
import GoSem.Claim
import GoSem.ClaimJoined
import GoSem.ClaimMapViews
import Derived.JoinedTies
import Derived.KernelRfl
namespace Go.Proofs.Ytjamkomgdfgmlaa
/- THE CELL 'sum', in the pinned program and in every row, IS THE sha256 OF THE DUMP (.gsa) THAT YtjamkomgdfgmlaaProg.lean LOADS. Nothing in Lean hashes anything: it is a label: what it is worth is what the hold of that sum in a sandbox is worth. -/
noncomputable def Try.pinned : Pinned := { name := "ytjamkomgdfgmlaa", sum := "3f508903b4247d26289e900a3aa2b439cd8df1a0064fc8803f314273db864510", checked := Try.checked }
namespace Rows
def none {H : Type} : Left H := { results := [], args := [] }

/-- 'laws.FnExactSameDuties': WHATEVER THE INPUT: true; the input reads as it did. -/
def fnExactSameDutiesSpec : ChangeSpec := { name := "fnExactSameDuties", fn := fun _ => fun
  | [d1, d2] => { results := [.lit (.bool true)], args := [d1, d2] }
  | _ => none }
def fnExactSameDutiesRow : OpenClaim := { program := "ytjamkomgdfgmlaa", sum := "3f508903b4247d26289e900a3aa2b439cd8df1a0064fc8803f314273db864510", func := "loop.example/g01032/laws.FnExactSameDuties", spec := "fnExactSameDuties", apart := false }
def FnExactSameDutiesSaid : Prop := fnExactSameDutiesRow.holds Try.pinned (OpenSpec.ofChange fnExactSameDutiesSpec)

/-- ITS FALSE NEIGHBOUR: 'it returns false'. Refute it at one input. -/
def fnExactSameDutiesWrong : ChangeSpec := { name := "fnExactSameDuties", fn := fun _ => fun
  | [d1, d2] => { results := [.lit (.bool false)], args := [d1, d2] }
  | _ => none }
def FnExactSameDutiesWrongFalsely : Prop := fnExactSameDutiesRow.holds Try.pinned (OpenSpec.ofChange fnExactSameDutiesWrong)

/-- 'laws.FnExactValidDuties': WHATEVER THE INPUT: true; the input reads as it did. -/
def fnExactValidDutiesSpec : ChangeSpec := { name := "fnExactValidDuties", fn := fun _ => fun
  | [d1, d2] => { results := [.lit (.bool true)], args := [d1, d2] }
  | _ => none }
def fnExactValidDutiesRow : OpenClaim := { program := "ytjamkomgdfgmlaa", sum := "3f508903b4247d26289e900a3aa2b439cd8df1a0064fc8803f314273db864510", func := "loop.example/g01032/laws.FnExactValidDuties", spec := "fnExactValidDuties", apart := false }
def FnExactValidDutiesSaid : Prop := fnExactValidDutiesRow.holds Try.pinned (OpenSpec.ofChange fnExactValidDutiesSpec)

/-- ITS FALSE NEIGHBOUR: 'it returns false'. Refute it at one input. -/
def fnExactValidDutiesWrong : ChangeSpec := { name := "fnExactValidDuties", fn := fun _ => fun
  | [d1, d2] => { results := [.lit (.bool false)], args := [d1, d2] }
  | _ => none }
def FnExactValidDutiesWrongFalsely : Prop := fnExactValidDutiesRow.holds Try.pinned (OpenSpec.ofChange fnExactValidDutiesWrong)

/-- 'laws.FnExactDutyAt': WHATEVER THE INPUT: true; the input reads as it did. -/
def fnExactDutyAtSpec : ChangeSpec := { name := "fnExactDutyAt", fn := fun _ => fun
  | [d1, d2, d3] => { results := [.lit (.bool true)], args := [d1, d2, d3] }
  | _ => none }
def fnExactDutyAtRow : OpenClaim := { program := "ytjamkomgdfgmlaa", sum := "3f508903b4247d26289e900a3aa2b439cd8df1a0064fc8803f314273db864510", func := "loop.example/g01032/laws.FnExactDutyAt", spec := "fnExactDutyAt", apart := false }
def FnExactDutyAtSaid : Prop := fnExactDutyAtRow.holds Try.pinned (OpenSpec.ofChange fnExactDutyAtSpec)

/-- ITS FALSE NEIGHBOUR: 'it returns false'. Refute it at one input. -/
def fnExactDutyAtWrong : ChangeSpec := { name := "fnExactDutyAt", fn := fun _ => fun
  | [d1, d2, d3] => { results := [.lit (.bool false)], args := [d1, d2, d3] }
  | _ => none }
def FnExactDutyAtWrongFalsely : Prop := fnExactDutyAtRow.holds Try.pinned (OpenSpec.ofChange fnExactDutyAtWrong)

/-- 'laws.FnExactDutyOf': WHATEVER THE INPUT: true; the input reads as it did. -/
def fnExactDutyOfSpec : ChangeSpec := { name := "fnExactDutyOf", fn := fun _ => fun
  | [d1, d2, d3] => { results := [.lit (.bool true)], args := [d1, d2, d3] }
  | _ => none }
def fnExactDutyOfRow : OpenClaim := { program := "ytjamkomgdfgmlaa", sum := "3f508903b4247d26289e900a3aa2b439cd8df1a0064fc8803f314273db864510", func := "loop.example/g01032/laws.FnExactDutyOf", spec := "fnExactDutyOf", apart := false }
def FnExactDutyOfSaid : Prop := fnExactDutyOfRow.holds Try.pinned (OpenSpec.ofChange fnExactDutyOfSpec)

/-- ITS FALSE NEIGHBOUR: 'it returns false'. Refute it at one input. -/
def fnExactDutyOfWrong : ChangeSpec := { name := "fnExactDutyOf", fn := fun _ => fun
  | [d1, d2, d3] => { results := [.lit (.bool false)], args := [d1, d2, d3] }
  | _ => none }
def FnExactDutyOfWrongFalsely : Prop := fnExactDutyOfRow.holds Try.pinned (OpenSpec.ofChange fnExactDutyOfWrong)

/-- 'laws.FnExactCountParts': WHATEVER THE INPUT: true; the input reads as it did. -/
def fnExactCountPartsSpec : ChangeSpec := { name := "fnExactCountParts", fn := fun _ => fun
  | [d1, d2] => { results := [.lit (.bool true)], args := [d1, d2] }
  | _ => none }
def fnExactCountPartsRow : OpenClaim := { program := "ytjamkomgdfgmlaa", sum := "3f508903b4247d26289e900a3aa2b439cd8df1a0064fc8803f314273db864510", func := "loop.example/g01032/laws.FnExactCountParts", spec := "fnExactCountParts", apart := false }
def FnExactCountPartsSaid : Prop := fnExactCountPartsRow.holds Try.pinned (OpenSpec.ofChange fnExactCountPartsSpec)

/-- ITS FALSE NEIGHBOUR: 'it returns false'. Refute it at one input. -/
def fnExactCountPartsWrong : ChangeSpec := { name := "fnExactCountParts", fn := fun _ => fun
  | [d1, d2] => { results := [.lit (.bool false)], args := [d1, d2] }
  | _ => none }
def FnExactCountPartsWrongFalsely : Prop := fnExactCountPartsRow.holds Try.pinned (OpenSpec.ofChange fnExactCountPartsWrong)

/-- 'laws.FnExactExchangeDuties': WHATEVER THE INPUT: true; the input reads as it did. -/
def fnExactExchangeDutiesSpec : ChangeSpec := { name := "fnExactExchangeDuties", fn := fun _ => fun
  | [d1, d2, d3, d4] => { results := [.lit (.bool true)], args := [d1, d2, d3, d4] }
  | _ => none }
def fnExactExchangeDutiesRow : OpenClaim := { program := "ytjamkomgdfgmlaa", sum := "3f508903b4247d26289e900a3aa2b439cd8df1a0064fc8803f314273db864510", func := "loop.example/g01032/laws.FnExactExchangeDuties", spec := "fnExactExchangeDuties", apart := false }
def FnExactExchangeDutiesSaid : Prop := fnExactExchangeDutiesRow.holds Try.pinned (OpenSpec.ofChange fnExactExchangeDutiesSpec)

/-- ITS FALSE NEIGHBOUR: 'it returns false'. Refute it at one input. -/
def fnExactExchangeDutiesWrong : ChangeSpec := { name := "fnExactExchangeDuties", fn := fun _ => fun
  | [d1, d2, d3, d4] => { results := [.lit (.bool false)], args := [d1, d2, d3, d4] }
  | _ => none }
def FnExactExchangeDutiesWrongFalsely : Prop := fnExactExchangeDutiesRow.holds Try.pinned (OpenSpec.ofChange fnExactExchangeDutiesWrong)

/-- 'laws.FnExactMergeDuties': WHATEVER THE INPUT: true; the input reads as it did. -/
def fnExactMergeDutiesSpec : ChangeSpec := { name := "fnExactMergeDuties", fn := fun _ => fun
  | [d1, d2] => { results := [.lit (.bool true)], args := [d1, d2] }
  | _ => none }
def fnExactMergeDutiesRow : OpenClaim := { program := "ytjamkomgdfgmlaa", sum := "3f508903b4247d26289e900a3aa2b439cd8df1a0064fc8803f314273db864510", func := "loop.example/g01032/laws.FnExactMergeDuties", spec := "fnExactMergeDuties", apart := false }
def FnExactMergeDutiesSaid : Prop := fnExactMergeDutiesRow.holds Try.pinned (OpenSpec.ofChange fnExactMergeDutiesSpec)

/-- ITS FALSE NEIGHBOUR: 'it returns false'. Refute it at one input. -/
def fnExactMergeDutiesWrong : ChangeSpec := { name := "fnExactMergeDuties", fn := fun _ => fun
  | [d1, d2] => { results := [.lit (.bool false)], args := [d1, d2] }
  | _ => none }
def FnExactMergeDutiesWrongFalsely : Prop := fnExactMergeDutiesRow.holds Try.pinned (OpenSpec.ofChange fnExactMergeDutiesWrong)

/-- 'laws.FnExactHandOver': WHATEVER THE INPUT: true; the input reads as it did. -/
def fnExactHandOverSpec : ChangeSpec := { name := "fnExactHandOver", fn := fun _ => fun
  | [d1, d2, d3, d4, d5] => { results := [.lit (.bool true)], args := [d1, d2, d3, d4, d5] }
  | _ => none }
def fnExactHandOverRow : OpenClaim := { program := "ytjamkomgdfgmlaa", sum := "3f508903b4247d26289e900a3aa2b439cd8df1a0064fc8803f314273db864510", func := "loop.example/g01032/laws.FnExactHandOver", spec := "fnExactHandOver", unfollowed := true, recurses := true, apart := false }
def FnExactHandOverSaid : Prop := fnExactHandOverRow.holds Try.pinned (OpenSpec.ofChange fnExactHandOverSpec)

/-- ITS FALSE NEIGHBOUR: 'it returns false'. Refute it at one input. -/
def fnExactHandOverWrong : ChangeSpec := { name := "fnExactHandOver", fn := fun _ => fun
  | [d1, d2, d3, d4, d5] => { results := [.lit (.bool false)], args := [d1, d2, d3, d4, d5] }
  | _ => none }
def FnExactHandOverWrongFalsely : Prop := fnExactHandOverRow.holds Try.pinned (OpenSpec.ofChange fnExactHandOverWrong)

/-- 'laws.FnExactDivideDike': WHATEVER THE INPUT: true; the input reads as it did. -/
def fnExactDivideDikeSpec : ChangeSpec := { name := "fnExactDivideDike", fn := fun _ => fun
  | [d1, d2] => { results := [.lit (.bool true)], args := [d1, d2] }
  | _ => none }
def fnExactDivideDikeRow : OpenClaim := { program := "ytjamkomgdfgmlaa", sum := "3f508903b4247d26289e900a3aa2b439cd8df1a0064fc8803f314273db864510", func := "loop.example/g01032/laws.FnExactDivideDike", spec := "fnExactDivideDike", inPlace := ["internal/reflectlite.ValueOf", "internal/reflectlite.Swapper", "(internal/reflectlite.Value).Len"], unfollowed := true, recurses := true, apart := false }
def FnExactDivideDikeSaid : Prop := fnExactDivideDikeRow.holds Try.pinned (OpenSpec.ofChange fnExactDivideDikeSpec)

/-- ITS FALSE NEIGHBOUR: 'it returns false'. Refute it at one input. -/
def fnExactDivideDikeWrong : ChangeSpec := { name := "fnExactDivideDike", fn := fun _ => fun
  | [d1, d2] => { results := [.lit (.bool false)], args := [d1, d2] }
  | _ => none }
def FnExactDivideDikeWrongFalsely : Prop := fnExactDivideDikeRow.holds Try.pinned (OpenSpec.ofChange fnExactDivideDikeWrong)

/-- 'laws.FnExactUnfairDuties': WHATEVER THE INPUT: true; the input reads as it did. -/
def fnExactUnfairDutiesSpec : ChangeSpec := { name := "fnExactUnfairDuties", fn := fun _ => fun
  | [d1, d2, d3] => { results := [.lit (.bool true)], args := [d1, d2, d3] }
  | _ => none }
def fnExactUnfairDutiesRow : OpenClaim := { program := "ytjamkomgdfgmlaa", sum := "3f508903b4247d26289e900a3aa2b439cd8df1a0064fc8803f314273db864510", func := "loop.example/g01032/laws.FnExactUnfairDuties", spec := "fnExactUnfairDuties", inPlace := ["internal/reflectlite.ValueOf", "internal/reflectlite.Swapper", "(internal/reflectlite.Value).Len"], unfollowed := true, recurses := true, apart := false }
def FnExactUnfairDutiesSaid : Prop := fnExactUnfairDutiesRow.holds Try.pinned (OpenSpec.ofChange fnExactUnfairDutiesSpec)

/-- ITS FALSE NEIGHBOUR: 'it returns false'. Refute it at one input. -/
def fnExactUnfairDutiesWrong : ChangeSpec := { name := "fnExactUnfairDuties", fn := fun _ => fun
  | [d1, d2, d3] => { results := [.lit (.bool false)], args := [d1, d2, d3] }
  | _ => none }
def FnExactUnfairDutiesWrongFalsely : Prop := fnExactUnfairDutiesRow.holds Try.pinned (OpenSpec.ofChange fnExactUnfairDutiesWrong)

/- THE SECOND FORM. 'bulk': how many values and letters a reading holds, each counted each time it is reached (what is shared counts as often as it is met; a slice's spare places count too). A statement '..UptoSaid' is the law's where the arguments, and the package variables that the reading takes, are together of bulk at most 1048576: NARROWER than '..Said'. Prove '..Said' where nothing that the law and all that it calls make is longer than what came in: it says more and counts as full. Else prove '..UptoSaid'. A law counts once. -/
mutual
def uptoBulk {H : Type} : DataW H → Nat
  | .lit (.string bytes) => bytes.length + 1
  | .lit _ => 1
  | .nil => 1
  | .ptr d => uptoBulk d + 1
  | .slice elems spare => uptoBulkAll elems + uptoBulkAll spare + 1
  | .agg parts => uptoBulkAll parts + 1
  | .iface _ d => uptoBulk d + 1
  | .map entries => uptoBulkEntries entries + 1
  | .held _ => 1
def uptoBulkAll {H : Type} : List (DataW H) → Nat
  | [] => 0
  | d :: r => uptoBulk d + uptoBulkAll r
def uptoBulkEntries {H : Type} : List (Lit × DataW H) → Nat
  | [] => 0
  | x :: r => uptoBulkEntry x + uptoBulkEntries r
def uptoBulkEntry {H : Type} : Lit × DataW H → Nat
  | (.string bytes, d) => bytes.length + uptoBulk d + 1
  | (_, d) => uptoBulk d + 1
 end
def uptoSmall : (H : Type) → List (DataW H) → Bool := fun _ ds => decide (uptoBulkAll ds ≤ 1048576)
def OpenSpec.upto (s : _root_.Go.ChangeSpec) : _root_.Go.OpenSpec := { _root_.Go.OpenSpec.ofChange s with cond := some uptoSmall }

/-- 'laws.FnExactSameDuties', WHERE WHAT IT READS IS OF BULK AT MOST 1048576: true; the input reads as it did. -/
def fnExactSameDutiesUptoRow : OpenClaim := { program := "ytjamkomgdfgmlaa", sum := "3f508903b4247d26289e900a3aa2b439cd8df1a0064fc8803f314273db864510", func := "loop.example/g01032/laws.FnExactSameDuties", spec := "fnExactSameDuties", apart := false, narrowed := true }
def FnExactSameDutiesUptoSaid : Prop := fnExactSameDutiesUptoRow.holds Try.pinned (OpenSpec.upto fnExactSameDutiesSpec)

/-- 'laws.FnExactValidDuties', WHERE WHAT IT READS IS OF BULK AT MOST 1048576: true; the input reads as it did. -/
def fnExactValidDutiesUptoRow : OpenClaim := { program := "ytjamkomgdfgmlaa", sum := "3f508903b4247d26289e900a3aa2b439cd8df1a0064fc8803f314273db864510", func := "loop.example/g01032/laws.FnExactValidDuties", spec := "fnExactValidDuties", apart := false, narrowed := true }
def FnExactValidDutiesUptoSaid : Prop := fnExactValidDutiesUptoRow.holds Try.pinned (OpenSpec.upto fnExactValidDutiesSpec)

/-- 'laws.FnExactDutyAt', WHERE WHAT IT READS IS OF BULK AT MOST 1048576: true; the input reads as it did. -/
def fnExactDutyAtUptoRow : OpenClaim := { program := "ytjamkomgdfgmlaa", sum := "3f508903b4247d26289e900a3aa2b439cd8df1a0064fc8803f314273db864510", func := "loop.example/g01032/laws.FnExactDutyAt", spec := "fnExactDutyAt", apart := false, narrowed := true }
def FnExactDutyAtUptoSaid : Prop := fnExactDutyAtUptoRow.holds Try.pinned (OpenSpec.upto fnExactDutyAtSpec)

/-- 'laws.FnExactDutyOf', WHERE WHAT IT READS IS OF BULK AT MOST 1048576: true; the input reads as it did. -/
def fnExactDutyOfUptoRow : OpenClaim := { program := "ytjamkomgdfgmlaa", sum := "3f508903b4247d26289e900a3aa2b439cd8df1a0064fc8803f314273db864510", func := "loop.example/g01032/laws.FnExactDutyOf", spec := "fnExactDutyOf", apart := false, narrowed := true }
def FnExactDutyOfUptoSaid : Prop := fnExactDutyOfUptoRow.holds Try.pinned (OpenSpec.upto fnExactDutyOfSpec)

/-- 'laws.FnExactCountParts', WHERE WHAT IT READS IS OF BULK AT MOST 1048576: true; the input reads as it did. -/
def fnExactCountPartsUptoRow : OpenClaim := { program := "ytjamkomgdfgmlaa", sum := "3f508903b4247d26289e900a3aa2b439cd8df1a0064fc8803f314273db864510", func := "loop.example/g01032/laws.FnExactCountParts", spec := "fnExactCountParts", apart := false, narrowed := true }
def FnExactCountPartsUptoSaid : Prop := fnExactCountPartsUptoRow.holds Try.pinned (OpenSpec.upto fnExactCountPartsSpec)

/-- 'laws.FnExactExchangeDuties', WHERE WHAT IT READS IS OF BULK AT MOST 1048576: true; the input reads as it did. -/
def fnExactExchangeDutiesUptoRow : OpenClaim := { program := "ytjamkomgdfgmlaa", sum := "3f508903b4247d26289e900a3aa2b439cd8df1a0064fc8803f314273db864510", func := "loop.example/g01032/laws.FnExactExchangeDuties", spec := "fnExactExchangeDuties", apart := false, narrowed := true }
def FnExactExchangeDutiesUptoSaid : Prop := fnExactExchangeDutiesUptoRow.holds Try.pinned (OpenSpec.upto fnExactExchangeDutiesSpec)

/-- 'laws.FnExactMergeDuties', WHERE WHAT IT READS IS OF BULK AT MOST 1048576: true; the input reads as it did. -/
def fnExactMergeDutiesUptoRow : OpenClaim := { program := "ytjamkomgdfgmlaa", sum := "3f508903b4247d26289e900a3aa2b439cd8df1a0064fc8803f314273db864510", func := "loop.example/g01032/laws.FnExactMergeDuties", spec := "fnExactMergeDuties", apart := false, narrowed := true }
def FnExactMergeDutiesUptoSaid : Prop := fnExactMergeDutiesUptoRow.holds Try.pinned (OpenSpec.upto fnExactMergeDutiesSpec)

/-- 'laws.FnExactHandOver', WHERE WHAT IT READS IS OF BULK AT MOST 1048576: true; the input reads as it did. -/
def fnExactHandOverUptoRow : OpenClaim := { program := "ytjamkomgdfgmlaa", sum := "3f508903b4247d26289e900a3aa2b439cd8df1a0064fc8803f314273db864510", func := "loop.example/g01032/laws.FnExactHandOver", spec := "fnExactHandOver", unfollowed := true, recurses := true, apart := false, narrowed := true }
def FnExactHandOverUptoSaid : Prop := fnExactHandOverUptoRow.holds Try.pinned (OpenSpec.upto fnExactHandOverSpec)

/-- 'laws.FnExactDivideDike', WHERE WHAT IT READS IS OF BULK AT MOST 1048576: true; the input reads as it did. -/
def fnExactDivideDikeUptoRow : OpenClaim := { program := "ytjamkomgdfgmlaa", sum := "3f508903b4247d26289e900a3aa2b439cd8df1a0064fc8803f314273db864510", func := "loop.example/g01032/laws.FnExactDivideDike", spec := "fnExactDivideDike", inPlace := ["internal/reflectlite.ValueOf", "internal/reflectlite.Swapper", "(internal/reflectlite.Value).Len"], unfollowed := true, recurses := true, apart := false, narrowed := true }
def FnExactDivideDikeUptoSaid : Prop := fnExactDivideDikeUptoRow.holds Try.pinned (OpenSpec.upto fnExactDivideDikeSpec)

/-- 'laws.FnExactUnfairDuties', WHERE WHAT IT READS IS OF BULK AT MOST 1048576: true; the input reads as it did. -/
def fnExactUnfairDutiesUptoRow : OpenClaim := { program := "ytjamkomgdfgmlaa", sum := "3f508903b4247d26289e900a3aa2b439cd8df1a0064fc8803f314273db864510", func := "loop.example/g01032/laws.FnExactUnfairDuties", spec := "fnExactUnfairDuties", inPlace := ["internal/reflectlite.ValueOf", "internal/reflectlite.Swapper", "(internal/reflectlite.Value).Len"], unfollowed := true, recurses := true, apart := false, narrowed := true }
def FnExactUnfairDutiesUptoSaid : Prop := fnExactUnfairDutiesUptoRow.holds Try.pinned (OpenSpec.upto fnExactUnfairDutiesSpec)

end Rows
end Go.Proofs.Ytjamkomgdfgmlaa
