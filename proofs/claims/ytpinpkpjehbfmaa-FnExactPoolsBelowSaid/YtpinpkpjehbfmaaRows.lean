/-
  No cell of these rows narrows 'for every input' (looked for: loops, veiled, ifaces, maps, wideKeys, modest, calm, conditions, laid).
  DERIVED. THE GIVEN ROWS OF THIS SEAT. 11 by the template 'for every input the law returns true; each argument reads behind the call as it read before'; 0 by the template 'total and deterministic' (their statements: YtpinpkpjehbfmaaTotals.lean).
  GIVEN WITH THE SEED: the statements are not yours to turn. If you find one false, say at which input.
  Laid BY PROGRAM, IN A SANDBOX (cutbox-rows.mjs): the forced cells as the released guide's own fill.sh prints them over the translation d4288b61518353f9… (all of the seat's roots in one cut). By AI agents, Wed Nov 11 2026. No macro, syntax, notation, axiom, sorry.
-/
import Derived.Test.YtpinpkpjehbfmaaChecked
import GoSem.Claim
import GoSem.ClaimJoined
import GoSem.ClaimMapViews
import Derived.JoinedTies
import Derived.KernelRfl
namespace Go.Proofs.Ytpinpkpjehbfmaa
/- THE CELL 'sum', in the pinned program and in every row, IS THE sha256 OF THE DUMP (.gsa) THAT YtpinpkpjehbfmaaProg.lean LOADS. Nothing in Lean hashes anything: it is a label: what it is worth is what the hold of that sum in a sandbox is worth. -/
noncomputable def Try.pinned : Pinned := { name := "ytpinpkpjehbfmaa", sum := "d4288b61518353f94535bdaeff74017bff616e97cbe59f619f7f4557ff30fb93", checked := Try.checked }
namespace Rows
def none {H : Type} : Left H := { results := [], args := [] }

/-- 'laws.FnExactWayDown': WHATEVER THE INPUT: true; the input reads as it did. -/
def fnExactWayDownSpec : ChangeSpec := { name := "fnExactWayDown", fn := fun _ => fun
  | [d1, d2] => { results := [.lit (.bool true)], args := [d1, d2] }
  | _ => none }
def fnExactWayDownRow : OpenClaim := { program := "ytpinpkpjehbfmaa", sum := "d4288b61518353f94535bdaeff74017bff616e97cbe59f619f7f4557ff30fb93", func := "loop.example/g01032/laws.FnExactWayDown", spec := "fnExactWayDown", unfollowed := true, recurses := true, apart := false }
def FnExactWayDownSaid : Prop := fnExactWayDownRow.holds Try.pinned (OpenSpec.ofChange fnExactWayDownSpec)

/-- ITS FALSE NEIGHBOUR: 'it returns false'. Refute it at one input. -/
def fnExactWayDownWrong : ChangeSpec := { name := "fnExactWayDown", fn := fun _ => fun
  | [d1, d2] => { results := [.lit (.bool false)], args := [d1, d2] }
  | _ => none }
def FnExactWayDownWrongFalsely : Prop := fnExactWayDownRow.holds Try.pinned (OpenSpec.ofChange fnExactWayDownWrong)

/-- 'laws.FnExactPoolsBelow': WHATEVER THE INPUT: true; the input reads as it did. -/
def fnExactPoolsBelowSpec : ChangeSpec := { name := "fnExactPoolsBelow", fn := fun _ => fun
  | [d1, d2] => { results := [.lit (.bool true)], args := [d1, d2] }
  | _ => none }
def fnExactPoolsBelowRow : OpenClaim := { program := "ytpinpkpjehbfmaa", sum := "d4288b61518353f94535bdaeff74017bff616e97cbe59f619f7f4557ff30fb93", func := "loop.example/g01032/laws.FnExactPoolsBelow", spec := "fnExactPoolsBelow", unfollowed := true, recurses := true, apart := false }
def FnExactPoolsBelowSaid : Prop := fnExactPoolsBelowRow.holds Try.pinned (OpenSpec.ofChange fnExactPoolsBelowSpec)

/-- ITS FALSE NEIGHBOUR: 'it returns false'. Refute it at one input. -/
def fnExactPoolsBelowWrong : ChangeSpec := { name := "fnExactPoolsBelow", fn := fun _ => fun
  | [d1, d2] => { results := [.lit (.bool false)], args := [d1, d2] }
  | _ => none }
def FnExactPoolsBelowWrongFalsely : Prop := fnExactPoolsBelowRow.holds Try.pinned (OpenSpec.ofChange fnExactPoolsBelowWrong)

/-- 'laws.FnExactBestOutlet': WHATEVER THE INPUT: true; the input reads as it did. -/
def fnExactBestOutletSpec : ChangeSpec := { name := "fnExactBestOutlet", fn := fun _ => fun
  | [d] => { results := [.lit (.bool true)], args := [d] }
  | _ => none }
def fnExactBestOutletRow : OpenClaim := { program := "ytpinpkpjehbfmaa", sum := "d4288b61518353f94535bdaeff74017bff616e97cbe59f619f7f4557ff30fb93", func := "loop.example/g01032/laws.FnExactBestOutlet", spec := "fnExactBestOutlet", unfollowed := true, recurses := true, apart := false }
def FnExactBestOutletSaid : Prop := fnExactBestOutletRow.holds Try.pinned (OpenSpec.ofChange fnExactBestOutletSpec)

/-- ITS FALSE NEIGHBOUR: 'it returns false'. Refute it at one input. -/
def fnExactBestOutletWrong : ChangeSpec := { name := "fnExactBestOutlet", fn := fun _ => fun
  | [d] => { results := [.lit (.bool false)], args := [d] }
  | _ => none }
def FnExactBestOutletWrongFalsely : Prop := fnExactBestOutletRow.holds Try.pinned (OpenSpec.ofChange fnExactBestOutletWrong)

/-- 'laws.FnExactFloodLevels': WHATEVER THE INPUT: true; the input reads as it did. -/
def fnExactFloodLevelsSpec : ChangeSpec := { name := "fnExactFloodLevels", fn := fun _ => fun
  | [d1, d2] => { results := [.lit (.bool true)], args := [d1, d2] }
  | _ => none }
def fnExactFloodLevelsRow : OpenClaim := { program := "ytpinpkpjehbfmaa", sum := "d4288b61518353f94535bdaeff74017bff616e97cbe59f619f7f4557ff30fb93", func := "loop.example/g01032/laws.FnExactFloodLevels", spec := "fnExactFloodLevels", unfollowed := true, recurses := true, apart := false }
def FnExactFloodLevelsSaid : Prop := fnExactFloodLevelsRow.holds Try.pinned (OpenSpec.ofChange fnExactFloodLevelsSpec)

/-- ITS FALSE NEIGHBOUR: 'it returns false'. Refute it at one input. -/
def fnExactFloodLevelsWrong : ChangeSpec := { name := "fnExactFloodLevels", fn := fun _ => fun
  | [d1, d2] => { results := [.lit (.bool false)], args := [d1, d2] }
  | _ => none }
def FnExactFloodLevelsWrongFalsely : Prop := fnExactFloodLevelsRow.holds Try.pinned (OpenSpec.ofChange fnExactFloodLevelsWrong)

/-- 'laws.FnExactFloodOrder': WHATEVER THE INPUT: true; the input reads as it did. -/
def fnExactFloodOrderSpec : ChangeSpec := { name := "fnExactFloodOrder", fn := fun _ => fun
  | [d1, d2] => { results := [.lit (.bool true)], args := [d1, d2] }
  | _ => none }
def fnExactFloodOrderRow : OpenClaim := { program := "ytpinpkpjehbfmaa", sum := "d4288b61518353f94535bdaeff74017bff616e97cbe59f619f7f4557ff30fb93", func := "loop.example/g01032/laws.FnExactFloodOrder", spec := "fnExactFloodOrder", unfollowed := true, recurses := true, apart := false }
def FnExactFloodOrderSaid : Prop := fnExactFloodOrderRow.holds Try.pinned (OpenSpec.ofChange fnExactFloodOrderSpec)

/-- ITS FALSE NEIGHBOUR: 'it returns false'. Refute it at one input. -/
def fnExactFloodOrderWrong : ChangeSpec := { name := "fnExactFloodOrder", fn := fun _ => fun
  | [d1, d2] => { results := [.lit (.bool false)], args := [d1, d2] }
  | _ => none }
def FnExactFloodOrderWrongFalsely : Prop := fnExactFloodOrderRow.holds Try.pinned (OpenSpec.ofChange fnExactFloodOrderWrong)

/-- 'laws.FnExactFloodVolume': WHATEVER THE INPUT: true; the input reads as it did. -/
def fnExactFloodVolumeSpec : ChangeSpec := { name := "fnExactFloodVolume", fn := fun _ => fun
  | [d1, d2, d3] => { results := [.lit (.bool true)], args := [d1, d2, d3] }
  | _ => none }
def fnExactFloodVolumeRow : OpenClaim := { program := "ytpinpkpjehbfmaa", sum := "d4288b61518353f94535bdaeff74017bff616e97cbe59f619f7f4557ff30fb93", func := "loop.example/g01032/laws.FnExactFloodVolume", spec := "fnExactFloodVolume", unfollowed := true, recurses := true, apart := false }
def FnExactFloodVolumeSaid : Prop := fnExactFloodVolumeRow.holds Try.pinned (OpenSpec.ofChange fnExactFloodVolumeSpec)

/-- ITS FALSE NEIGHBOUR: 'it returns false'. Refute it at one input. -/
def fnExactFloodVolumeWrong : ChangeSpec := { name := "fnExactFloodVolume", fn := fun _ => fun
  | [d1, d2, d3] => { results := [.lit (.bool false)], args := [d1, d2, d3] }
  | _ => none }
def FnExactFloodVolumeWrongFalsely : Prop := fnExactFloodVolumeRow.holds Try.pinned (OpenSpec.ofChange fnExactFloodVolumeWrong)

/-- 'laws.FnExactFloodedCells': WHATEVER THE INPUT: true; the input reads as it did. -/
def fnExactFloodedCellsSpec : ChangeSpec := { name := "fnExactFloodedCells", fn := fun _ => fun
  | [d1, d2, d3] => { results := [.lit (.bool true)], args := [d1, d2, d3] }
  | _ => none }
def fnExactFloodedCellsRow : OpenClaim := { program := "ytpinpkpjehbfmaa", sum := "d4288b61518353f94535bdaeff74017bff616e97cbe59f619f7f4557ff30fb93", func := "loop.example/g01032/laws.FnExactFloodedCells", spec := "fnExactFloodedCells", unfollowed := true, recurses := true, apart := false }
def FnExactFloodedCellsSaid : Prop := fnExactFloodedCellsRow.holds Try.pinned (OpenSpec.ofChange fnExactFloodedCellsSpec)

/-- ITS FALSE NEIGHBOUR: 'it returns false'. Refute it at one input. -/
def fnExactFloodedCellsWrong : ChangeSpec := { name := "fnExactFloodedCells", fn := fun _ => fun
  | [d1, d2, d3] => { results := [.lit (.bool false)], args := [d1, d2, d3] }
  | _ => none }
def FnExactFloodedCellsWrongFalsely : Prop := fnExactFloodedCellsRow.holds Try.pinned (OpenSpec.ofChange fnExactFloodedCellsWrong)

/-- 'laws.FnExactSafeCells': WHATEVER THE INPUT: true; the input reads as it did. -/
def fnExactSafeCellsSpec : ChangeSpec := { name := "fnExactSafeCells", fn := fun _ => fun
  | [d1, d2, d3] => { results := [.lit (.bool true)], args := [d1, d2, d3] }
  | _ => none }
def fnExactSafeCellsRow : OpenClaim := { program := "ytpinpkpjehbfmaa", sum := "d4288b61518353f94535bdaeff74017bff616e97cbe59f619f7f4557ff30fb93", func := "loop.example/g01032/laws.FnExactSafeCells", spec := "fnExactSafeCells", unfollowed := true, recurses := true, apart := false }
def FnExactSafeCellsSaid : Prop := fnExactSafeCellsRow.holds Try.pinned (OpenSpec.ofChange fnExactSafeCellsSpec)

/-- ITS FALSE NEIGHBOUR: 'it returns false'. Refute it at one input. -/
def fnExactSafeCellsWrong : ChangeSpec := { name := "fnExactSafeCells", fn := fun _ => fun
  | [d1, d2, d3] => { results := [.lit (.bool false)], args := [d1, d2, d3] }
  | _ => none }
def FnExactSafeCellsWrongFalsely : Prop := fnExactSafeCellsRow.holds Try.pinned (OpenSpec.ofChange fnExactSafeCellsWrong)

/-- 'laws.FnExactFloodDepths': WHATEVER THE INPUT: true; the input reads as it did. -/
def fnExactFloodDepthsSpec : ChangeSpec := { name := "fnExactFloodDepths", fn := fun _ => fun
  | [d1, d2, d3] => { results := [.lit (.bool true)], args := [d1, d2, d3] }
  | _ => none }
def fnExactFloodDepthsRow : OpenClaim := { program := "ytpinpkpjehbfmaa", sum := "d4288b61518353f94535bdaeff74017bff616e97cbe59f619f7f4557ff30fb93", func := "loop.example/g01032/laws.FnExactFloodDepths", spec := "fnExactFloodDepths", unfollowed := true, recurses := true, apart := false }
def FnExactFloodDepthsSaid : Prop := fnExactFloodDepthsRow.holds Try.pinned (OpenSpec.ofChange fnExactFloodDepthsSpec)

/-- ITS FALSE NEIGHBOUR: 'it returns false'. Refute it at one input. -/
def fnExactFloodDepthsWrong : ChangeSpec := { name := "fnExactFloodDepths", fn := fun _ => fun
  | [d1, d2, d3] => { results := [.lit (.bool false)], args := [d1, d2, d3] }
  | _ => none }
def FnExactFloodDepthsWrongFalsely : Prop := fnExactFloodDepthsRow.holds Try.pinned (OpenSpec.ofChange fnExactFloodDepthsWrong)

/-- 'laws.FnExactSurfacesOf': WHATEVER THE INPUT: true; the input reads as it did. -/
def fnExactSurfacesOfSpec : ChangeSpec := { name := "fnExactSurfacesOf", fn := fun _ => fun
  | [d1, d2] => { results := [.lit (.bool true)], args := [d1, d2] }
  | _ => none }
def fnExactSurfacesOfRow : OpenClaim := { program := "ytpinpkpjehbfmaa", sum := "d4288b61518353f94535bdaeff74017bff616e97cbe59f619f7f4557ff30fb93", func := "loop.example/g01032/laws.FnExactSurfacesOf", spec := "fnExactSurfacesOf", unfollowed := true, recurses := true, apart := false }
def FnExactSurfacesOfSaid : Prop := fnExactSurfacesOfRow.holds Try.pinned (OpenSpec.ofChange fnExactSurfacesOfSpec)

/-- ITS FALSE NEIGHBOUR: 'it returns false'. Refute it at one input. -/
def fnExactSurfacesOfWrong : ChangeSpec := { name := "fnExactSurfacesOf", fn := fun _ => fun
  | [d1, d2] => { results := [.lit (.bool false)], args := [d1, d2] }
  | _ => none }
def FnExactSurfacesOfWrongFalsely : Prop := fnExactSurfacesOfRow.holds Try.pinned (OpenSpec.ofChange fnExactSurfacesOfWrong)

/-- 'laws.FnExactPondedVolume': WHATEVER THE INPUT: true; the input reads as it did. -/
def fnExactPondedVolumeSpec : ChangeSpec := { name := "fnExactPondedVolume", fn := fun _ => fun
  | [d1, d2] => { results := [.lit (.bool true)], args := [d1, d2] }
  | _ => none }
def fnExactPondedVolumeRow : OpenClaim := { program := "ytpinpkpjehbfmaa", sum := "d4288b61518353f94535bdaeff74017bff616e97cbe59f619f7f4557ff30fb93", func := "loop.example/g01032/laws.FnExactPondedVolume", spec := "fnExactPondedVolume", unfollowed := true, recurses := true, apart := false }
def FnExactPondedVolumeSaid : Prop := fnExactPondedVolumeRow.holds Try.pinned (OpenSpec.ofChange fnExactPondedVolumeSpec)

/-- ITS FALSE NEIGHBOUR: 'it returns false'. Refute it at one input. -/
def fnExactPondedVolumeWrong : ChangeSpec := { name := "fnExactPondedVolume", fn := fun _ => fun
  | [d1, d2] => { results := [.lit (.bool false)], args := [d1, d2] }
  | _ => none }
def FnExactPondedVolumeWrongFalsely : Prop := fnExactPondedVolumeRow.holds Try.pinned (OpenSpec.ofChange fnExactPondedVolumeWrong)

/- THE SECOND FORM. 'bulk': how many values and letters a reading holds, each counted each time it is reached (what is shared counts as often as it is met; a slice's spare places count too). A statement '..UptoSaid' is the law's where the arguments, and the package variables that the reading takes, are together of bulk at most 1048576: NARROWER than '..Said'. Prove '..Said' where nothing that the law and all that it calls make is longer than what came in: it says more and counts as full. Else prove '..UptoSaid'. A law counts once. -/
mutual
def uptoBulk {H : Type} : DataW H → Nat
  | .lit (.string bytes) => bytes.length + 1
  | .lit _ => 1
  | .nil => 1
  | .ptr d => uptoBulk d + 1
  | .slice elems spare => uptoBulkAll elems + uptoBulkAll spare + 1
  | .agg parts => uptoBulkAll parts + 1
  | .iface _ d => uptoBulk d + 1
  | .map entries => uptoBulkEntries entries + 1
  | .held _ => 1
def uptoBulkAll {H : Type} : List (DataW H) → Nat
  | [] => 0
  | d :: r => uptoBulk d + uptoBulkAll r
def uptoBulkEntries {H : Type} : List (Lit × DataW H) → Nat
  | [] => 0
  | x :: r => uptoBulkEntry x + uptoBulkEntries r
def uptoBulkEntry {H : Type} : Lit × DataW H → Nat
  | (.string bytes, d) => bytes.length + uptoBulk d + 1
  | (_, d) => uptoBulk d + 1
 end
def uptoSmall : (H : Type) → List (DataW H) → Bool := fun _ ds => decide (uptoBulkAll ds ≤ 1048576)
def OpenSpec.upto (s : _root_.Go.ChangeSpec) : _root_.Go.OpenSpec := { _root_.Go.OpenSpec.ofChange s with cond := some uptoSmall }

/-- 'laws.FnExactWayDown', WHERE WHAT IT READS IS OF BULK AT MOST 1048576: true; the input reads as it did. -/
def fnExactWayDownUptoRow : OpenClaim := { program := "ytpinpkpjehbfmaa", sum := "d4288b61518353f94535bdaeff74017bff616e97cbe59f619f7f4557ff30fb93", func := "loop.example/g01032/laws.FnExactWayDown", spec := "fnExactWayDown", unfollowed := true, recurses := true, apart := false, narrowed := true }
def FnExactWayDownUptoSaid : Prop := fnExactWayDownUptoRow.holds Try.pinned (OpenSpec.upto fnExactWayDownSpec)

/-- 'laws.FnExactPoolsBelow', WHERE WHAT IT READS IS OF BULK AT MOST 1048576: true; the input reads as it did. -/
def fnExactPoolsBelowUptoRow : OpenClaim := { program := "ytpinpkpjehbfmaa", sum := "d4288b61518353f94535bdaeff74017bff616e97cbe59f619f7f4557ff30fb93", func := "loop.example/g01032/laws.FnExactPoolsBelow", spec := "fnExactPoolsBelow", unfollowed := true, recurses := true, apart := false, narrowed := true }
def FnExactPoolsBelowUptoSaid : Prop := fnExactPoolsBelowUptoRow.holds Try.pinned (OpenSpec.upto fnExactPoolsBelowSpec)

/-- 'laws.FnExactBestOutlet', WHERE WHAT IT READS IS OF BULK AT MOST 1048576: true; the input reads as it did. -/
def fnExactBestOutletUptoRow : OpenClaim := { program := "ytpinpkpjehbfmaa", sum := "d4288b61518353f94535bdaeff74017bff616e97cbe59f619f7f4557ff30fb93", func := "loop.example/g01032/laws.FnExactBestOutlet", spec := "fnExactBestOutlet", unfollowed := true, recurses := true, apart := false, narrowed := true }
def FnExactBestOutletUptoSaid : Prop := fnExactBestOutletUptoRow.holds Try.pinned (OpenSpec.upto fnExactBestOutletSpec)

/-- 'laws.FnExactFloodLevels', WHERE WHAT IT READS IS OF BULK AT MOST 1048576: true; the input reads as it did. -/
def fnExactFloodLevelsUptoRow : OpenClaim := { program := "ytpinpkpjehbfmaa", sum := "d4288b61518353f94535bdaeff74017bff616e97cbe59f619f7f4557ff30fb93", func := "loop.example/g01032/laws.FnExactFloodLevels", spec := "fnExactFloodLevels", unfollowed := true, recurses := true, apart := false, narrowed := true }
def FnExactFloodLevelsUptoSaid : Prop := fnExactFloodLevelsUptoRow.holds Try.pinned (OpenSpec.upto fnExactFloodLevelsSpec)

/-- 'laws.FnExactFloodOrder', WHERE WHAT IT READS IS OF BULK AT MOST 1048576: true; the input reads as it did. -/
def fnExactFloodOrderUptoRow : OpenClaim := { program := "ytpinpkpjehbfmaa", sum := "d4288b61518353f94535bdaeff74017bff616e97cbe59f619f7f4557ff30fb93", func := "loop.example/g01032/laws.FnExactFloodOrder", spec := "fnExactFloodOrder", unfollowed := true, recurses := true, apart := false, narrowed := true }
def FnExactFloodOrderUptoSaid : Prop := fnExactFloodOrderUptoRow.holds Try.pinned (OpenSpec.upto fnExactFloodOrderSpec)

/-- 'laws.FnExactFloodVolume', WHERE WHAT IT READS IS OF BULK AT MOST 1048576: true; the input reads as it did. -/
def fnExactFloodVolumeUptoRow : OpenClaim := { program := "ytpinpkpjehbfmaa", sum := "d4288b61518353f94535bdaeff74017bff616e97cbe59f619f7f4557ff30fb93", func := "loop.example/g01032/laws.FnExactFloodVolume", spec := "fnExactFloodVolume", unfollowed := true, recurses := true, apart := false, narrowed := true }
def FnExactFloodVolumeUptoSaid : Prop := fnExactFloodVolumeUptoRow.holds Try.pinned (OpenSpec.upto fnExactFloodVolumeSpec)

/-- 'laws.FnExactFloodedCells', WHERE WHAT IT READS IS OF BULK AT MOST 1048576: true; the input reads as it did. -/
def fnExactFloodedCellsUptoRow : OpenClaim := { program := "ytpinpkpjehbfmaa", sum := "d4288b61518353f94535bdaeff74017bff616e97cbe59f619f7f4557ff30fb93", func := "loop.example/g01032/laws.FnExactFloodedCells", spec := "fnExactFloodedCells", unfollowed := true, recurses := true, apart := false, narrowed := true }
def FnExactFloodedCellsUptoSaid : Prop := fnExactFloodedCellsUptoRow.holds Try.pinned (OpenSpec.upto fnExactFloodedCellsSpec)

/-- 'laws.FnExactSafeCells', WHERE WHAT IT READS IS OF BULK AT MOST 1048576: true; the input reads as it did. -/
def fnExactSafeCellsUptoRow : OpenClaim := { program := "ytpinpkpjehbfmaa", sum := "d4288b61518353f94535bdaeff74017bff616e97cbe59f619f7f4557ff30fb93", func := "loop.example/g01032/laws.FnExactSafeCells", spec := "fnExactSafeCells", unfollowed := true, recurses := true, apart := false, narrowed := true }
def FnExactSafeCellsUptoSaid : Prop := fnExactSafeCellsUptoRow.holds Try.pinned (OpenSpec.upto fnExactSafeCellsSpec)

/-- 'laws.FnExactFloodDepths', WHERE WHAT IT READS IS OF BULK AT MOST 1048576: true; the input reads as it did. -/
def fnExactFloodDepthsUptoRow : OpenClaim := { program := "ytpinpkpjehbfmaa", sum := "d4288b61518353f94535bdaeff74017bff616e97cbe59f619f7f4557ff30fb93", func := "loop.example/g01032/laws.FnExactFloodDepths", spec := "fnExactFloodDepths", unfollowed := true, recurses := true, apart := false, narrowed := true }
def FnExactFloodDepthsUptoSaid : Prop := fnExactFloodDepthsUptoRow.holds Try.pinned (OpenSpec.upto fnExactFloodDepthsSpec)

/-- 'laws.FnExactSurfacesOf', WHERE WHAT IT READS IS OF BULK AT MOST 1048576: true; the input reads as it did. -/
def fnExactSurfacesOfUptoRow : OpenClaim := { program := "ytpinpkpjehbfmaa", sum := "d4288b61518353f94535bdaeff74017bff616e97cbe59f619f7f4557ff30fb93", func := "loop.example/g01032/laws.FnExactSurfacesOf", spec := "fnExactSurfacesOf", unfollowed := true, recurses := true, apart := false, narrowed := true }
def FnExactSurfacesOfUptoSaid : Prop := fnExactSurfacesOfUptoRow.holds Try.pinned (OpenSpec.upto fnExactSurfacesOfSpec)

/-- 'laws.FnExactPondedVolume', WHERE WHAT IT READS IS OF BULK AT MOST 1048576: true; the input reads as it did. -/
def fnExactPondedVolumeUptoRow : OpenClaim := { program := "ytpinpkpjehbfmaa", sum := "d4288b61518353f94535bdaeff74017bff616e97cbe59f619f7f4557ff30fb93", func := "loop.example/g01032/laws.FnExactPondedVolume", spec := "fnExactPondedVolume", unfollowed := true, recurses := true, apart := false, narrowed := true }
def FnExactPondedVolumeUptoSaid : Prop := fnExactPondedVolumeUptoRow.holds Try.pinned (OpenSpec.upto fnExactPondedVolumeSpec)

end Rows
end Go.Proofs.Ytpinpkpjehbfmaa
