/-
  No cell of these rows narrows 'for every input' (looked for: loops, veiled, ifaces, maps, wideKeys, modest, calm, conditions, laid).
  DERIVED. THE GIVEN ROWS OF THIS SEAT. 7 by the template 'for every input the law returns true; each argument reads behind the call as it read before'; 0 by the template 'total and deterministic' (their statements: YtgkhjikkbjmadaaTotals.lean).
  GIVEN WITH THE SEED: the statements are not yours to turn. If you find one false, say at which input.
  Laid BY PROGRAM, IN A SANDBOX (cutbox-rows.mjs): the forced cells as the released guide's own fill.sh prints them over the translation ccedaaff4744b8bc… (all of the seat's roots in one cut). By AI agents, Wed Nov 11 2026. No macro, syntax, notation, axiom, sorry.
-/
import Derived.Test.YtgkhjikkbjmadaaChecked
import GoSem.Claim
import GoSem.ClaimJoined
import GoSem.ClaimMapViews
import Derived.JoinedTies
import Derived.KernelRfl
namespace Go.Proofs.Ytgkhjikkbjmadaa
/- THE CELL 'sum', in the pinned program and in every row, IS THE sha256 OF THE DUMP (.gsa) THAT YtgkhjikkbjmadaaProg.lean LOADS. Nothing in Lean hashes anything: it is a label: what it is worth is what the hold of that sum in a sandbox is worth. -/
noncomputable def Try.pinned : Pinned := { name := "ytgkhjikkbjmadaa", sum := "ccedaaff4744b8bca92c98ee0ffc0761113a953bdf2a4956b8f03297d7432742", checked := Try.checked }
namespace Rows
def none {H : Type} : Left H := { results := [], args := [] }

/-- 'laws.FnExactSameTender': WHATEVER THE INPUT: true; the input reads as it did. -/
def fnExactSameTenderSpec : ChangeSpec := { name := "fnExactSameTender", fn := fun _ => fun
  | [d1, d2] => { results := [.lit (.bool true)], args := [d1, d2] }
  | _ => none }
def fnExactSameTenderRow : OpenClaim := { program := "ytgkhjikkbjmadaa", sum := "ccedaaff4744b8bca92c98ee0ffc0761113a953bdf2a4956b8f03297d7432742", func := "loop.example/g01032/laws.FnExactSameTender", spec := "fnExactSameTender", apart := false }
def FnExactSameTenderSaid : Prop := fnExactSameTenderRow.holds Try.pinned (OpenSpec.ofChange fnExactSameTenderSpec)

/-- ITS FALSE NEIGHBOUR: 'it returns false'. Refute it at one input. -/
def fnExactSameTenderWrong : ChangeSpec := { name := "fnExactSameTender", fn := fun _ => fun
  | [d1, d2] => { results := [.lit (.bool false)], args := [d1, d2] }
  | _ => none }
def FnExactSameTenderWrongFalsely : Prop := fnExactSameTenderRow.holds Try.pinned (OpenSpec.ofChange fnExactSameTenderWrong)

/-- 'laws.FnExactValidTender': WHATEVER THE INPUT: true; the input reads as it did. -/
def fnExactValidTenderSpec : ChangeSpec := { name := "fnExactValidTender", fn := fun _ => fun
  | [d] => { results := [.lit (.bool true)], args := [d] }
  | _ => none }
def fnExactValidTenderRow : OpenClaim := { program := "ytgkhjikkbjmadaa", sum := "ccedaaff4744b8bca92c98ee0ffc0761113a953bdf2a4956b8f03297d7432742", func := "loop.example/g01032/laws.FnExactValidTender", spec := "fnExactValidTender", unfollowed := true, recurses := true, apart := false }
def FnExactValidTenderSaid : Prop := fnExactValidTenderRow.holds Try.pinned (OpenSpec.ofChange fnExactValidTenderSpec)

/-- ITS FALSE NEIGHBOUR: 'it returns false'. Refute it at one input. -/
def fnExactValidTenderWrong : ChangeSpec := { name := "fnExactValidTender", fn := fun _ => fun
  | [d] => { results := [.lit (.bool false)], args := [d] }
  | _ => none }
def FnExactValidTenderWrongFalsely : Prop := fnExactValidTenderRow.holds Try.pinned (OpenSpec.ofChange fnExactValidTenderWrong)

/-- 'laws.FnExactAwardBound': WHATEVER THE INPUT: true; the input reads as it did. -/
def fnExactAwardBoundSpec : ChangeSpec := { name := "fnExactAwardBound", fn := fun _ => fun
  | [d] => { results := [.lit (.bool true)], args := [d] }
  | _ => none }
def fnExactAwardBoundRow : OpenClaim := { program := "ytgkhjikkbjmadaa", sum := "ccedaaff4744b8bca92c98ee0ffc0761113a953bdf2a4956b8f03297d7432742", func := "loop.example/g01032/laws.FnExactAwardBound", spec := "fnExactAwardBound", unfollowed := true, recurses := true, apart := false }
def FnExactAwardBoundSaid : Prop := fnExactAwardBoundRow.holds Try.pinned (OpenSpec.ofChange fnExactAwardBoundSpec)

/-- ITS FALSE NEIGHBOUR: 'it returns false'. Refute it at one input. -/
def fnExactAwardBoundWrong : ChangeSpec := { name := "fnExactAwardBound", fn := fun _ => fun
  | [d] => { results := [.lit (.bool false)], args := [d] }
  | _ => none }
def FnExactAwardBoundWrongFalsely : Prop := fnExactAwardBoundRow.holds Try.pinned (OpenSpec.ofChange fnExactAwardBoundWrong)

/-- 'laws.FnExactBestBid': WHATEVER THE INPUT: true; the input reads as it did. -/
def fnExactBestBidSpec : ChangeSpec := { name := "fnExactBestBid", fn := fun _ => fun
  | [d1, d2] => { results := [.lit (.bool true)], args := [d1, d2] }
  | _ => none }
def fnExactBestBidRow : OpenClaim := { program := "ytgkhjikkbjmadaa", sum := "ccedaaff4744b8bca92c98ee0ffc0761113a953bdf2a4956b8f03297d7432742", func := "loop.example/g01032/laws.FnExactBestBid", spec := "fnExactBestBid", unfollowed := true, recurses := true, apart := false }
def FnExactBestBidSaid : Prop := fnExactBestBidRow.holds Try.pinned (OpenSpec.ofChange fnExactBestBidSpec)

/-- ITS FALSE NEIGHBOUR: 'it returns false'. Refute it at one input. -/
def fnExactBestBidWrong : ChangeSpec := { name := "fnExactBestBid", fn := fun _ => fun
  | [d1, d2] => { results := [.lit (.bool false)], args := [d1, d2] }
  | _ => none }
def FnExactBestBidWrongFalsely : Prop := fnExactBestBidRow.holds Try.pinned (OpenSpec.ofChange fnExactBestBidWrong)

/-- 'laws.FnExactAwardFault': WHATEVER THE INPUT: true; the input reads as it did. -/
def fnExactAwardFaultSpec : ChangeSpec := { name := "fnExactAwardFault", fn := fun _ => fun
  | [d1, d2] => { results := [.lit (.bool true)], args := [d1, d2] }
  | _ => none }
def fnExactAwardFaultRow : OpenClaim := { program := "ytgkhjikkbjmadaa", sum := "ccedaaff4744b8bca92c98ee0ffc0761113a953bdf2a4956b8f03297d7432742", func := "loop.example/g01032/laws.FnExactAwardFault", spec := "fnExactAwardFault", unfollowed := true, recurses := true, apart := false }
def FnExactAwardFaultSaid : Prop := fnExactAwardFaultRow.holds Try.pinned (OpenSpec.ofChange fnExactAwardFaultSpec)

/-- ITS FALSE NEIGHBOUR: 'it returns false'. Refute it at one input. -/
def fnExactAwardFaultWrong : ChangeSpec := { name := "fnExactAwardFault", fn := fun _ => fun
  | [d1, d2] => { results := [.lit (.bool false)], args := [d1, d2] }
  | _ => none }
def FnExactAwardFaultWrongFalsely : Prop := fnExactAwardFaultRow.holds Try.pinned (OpenSpec.ofChange fnExactAwardFaultWrong)

/-- 'laws.FnExactSecondOffer': WHATEVER THE INPUT: true; the input reads as it did. -/
def fnExactSecondOfferSpec : ChangeSpec := { name := "fnExactSecondOffer", fn := fun _ => fun
  | [d1, d2] => { results := [.lit (.bool true)], args := [d1, d2] }
  | _ => none }
def fnExactSecondOfferRow : OpenClaim := { program := "ytgkhjikkbjmadaa", sum := "ccedaaff4744b8bca92c98ee0ffc0761113a953bdf2a4956b8f03297d7432742", func := "loop.example/g01032/laws.FnExactSecondOffer", spec := "fnExactSecondOffer", unfollowed := true, recurses := true, apart := false }
def FnExactSecondOfferSaid : Prop := fnExactSecondOfferRow.holds Try.pinned (OpenSpec.ofChange fnExactSecondOfferSpec)

/-- ITS FALSE NEIGHBOUR: 'it returns false'. Refute it at one input. -/
def fnExactSecondOfferWrong : ChangeSpec := { name := "fnExactSecondOffer", fn := fun _ => fun
  | [d1, d2] => { results := [.lit (.bool false)], args := [d1, d2] }
  | _ => none }
def FnExactSecondOfferWrongFalsely : Prop := fnExactSecondOfferRow.holds Try.pinned (OpenSpec.ofChange fnExactSecondOfferWrong)

/-- 'laws.FnExactAwardCost': WHATEVER THE INPUT: true; the input reads as it did. -/
def fnExactAwardCostSpec : ChangeSpec := { name := "fnExactAwardCost", fn := fun _ => fun
  | [d1, d2] => { results := [.lit (.bool true)], args := [d1, d2] }
  | _ => none }
def fnExactAwardCostRow : OpenClaim := { program := "ytgkhjikkbjmadaa", sum := "ccedaaff4744b8bca92c98ee0ffc0761113a953bdf2a4956b8f03297d7432742", func := "loop.example/g01032/laws.FnExactAwardCost", spec := "fnExactAwardCost", unfollowed := true, recurses := true, apart := false }
def FnExactAwardCostSaid : Prop := fnExactAwardCostRow.holds Try.pinned (OpenSpec.ofChange fnExactAwardCostSpec)

/-- ITS FALSE NEIGHBOUR: 'it returns false'. Refute it at one input. -/
def fnExactAwardCostWrong : ChangeSpec := { name := "fnExactAwardCost", fn := fun _ => fun
  | [d1, d2] => { results := [.lit (.bool false)], args := [d1, d2] }
  | _ => none }
def FnExactAwardCostWrongFalsely : Prop := fnExactAwardCostRow.holds Try.pinned (OpenSpec.ofChange fnExactAwardCostWrong)

/- THE SECOND FORM. 'bulk': how many values and letters a reading holds, each counted each time it is reached (what is shared counts as often as it is met; a slice's spare places count too). A statement '..UptoSaid' is the law's where the arguments, and the package variables that the reading takes, are together of bulk at most 1048576: NARROWER than '..Said'. Prove '..Said' where nothing that the law and all that it calls make is longer than what came in: it says more and counts as full. Else prove '..UptoSaid'. A law counts once. -/
mutual
def uptoBulk {H : Type} : DataW H → Nat
  | .lit (.string bytes) => bytes.length + 1
  | .lit _ => 1
  | .nil => 1
  | .ptr d => uptoBulk d + 1
  | .slice elems spare => uptoBulkAll elems + uptoBulkAll spare + 1
  | .agg parts => uptoBulkAll parts + 1
  | .iface _ d => uptoBulk d + 1
  | .map entries => uptoBulkEntries entries + 1
  | .held _ => 1
def uptoBulkAll {H : Type} : List (DataW H) → Nat
  | [] => 0
  | d :: r => uptoBulk d + uptoBulkAll r
def uptoBulkEntries {H : Type} : List (Lit × DataW H) → Nat
  | [] => 0
  | x :: r => uptoBulkEntry x + uptoBulkEntries r
def uptoBulkEntry {H : Type} : Lit × DataW H → Nat
  | (.string bytes, d) => bytes.length + uptoBulk d + 1
  | (_, d) => uptoBulk d + 1
 end
def uptoSmall : (H : Type) → List (DataW H) → Bool := fun _ ds => decide (uptoBulkAll ds ≤ 1048576)
def OpenSpec.upto (s : _root_.Go.ChangeSpec) : _root_.Go.OpenSpec := { _root_.Go.OpenSpec.ofChange s with cond := some uptoSmall }

/-- 'laws.FnExactSameTender', WHERE WHAT IT READS IS OF BULK AT MOST 1048576: true; the input reads as it did. -/
def fnExactSameTenderUptoRow : OpenClaim := { program := "ytgkhjikkbjmadaa", sum := "ccedaaff4744b8bca92c98ee0ffc0761113a953bdf2a4956b8f03297d7432742", func := "loop.example/g01032/laws.FnExactSameTender", spec := "fnExactSameTender", apart := false, narrowed := true }
def FnExactSameTenderUptoSaid : Prop := fnExactSameTenderUptoRow.holds Try.pinned (OpenSpec.upto fnExactSameTenderSpec)

/-- 'laws.FnExactValidTender', WHERE WHAT IT READS IS OF BULK AT MOST 1048576: true; the input reads as it did. -/
def fnExactValidTenderUptoRow : OpenClaim := { program := "ytgkhjikkbjmadaa", sum := "ccedaaff4744b8bca92c98ee0ffc0761113a953bdf2a4956b8f03297d7432742", func := "loop.example/g01032/laws.FnExactValidTender", spec := "fnExactValidTender", unfollowed := true, recurses := true, apart := false, narrowed := true }
def FnExactValidTenderUptoSaid : Prop := fnExactValidTenderUptoRow.holds Try.pinned (OpenSpec.upto fnExactValidTenderSpec)

/-- 'laws.FnExactAwardBound', WHERE WHAT IT READS IS OF BULK AT MOST 1048576: true; the input reads as it did. -/
def fnExactAwardBoundUptoRow : OpenClaim := { program := "ytgkhjikkbjmadaa", sum := "ccedaaff4744b8bca92c98ee0ffc0761113a953bdf2a4956b8f03297d7432742", func := "loop.example/g01032/laws.FnExactAwardBound", spec := "fnExactAwardBound", unfollowed := true, recurses := true, apart := false, narrowed := true }
def FnExactAwardBoundUptoSaid : Prop := fnExactAwardBoundUptoRow.holds Try.pinned (OpenSpec.upto fnExactAwardBoundSpec)

/-- 'laws.FnExactBestBid', WHERE WHAT IT READS IS OF BULK AT MOST 1048576: true; the input reads as it did. -/
def fnExactBestBidUptoRow : OpenClaim := { program := "ytgkhjikkbjmadaa", sum := "ccedaaff4744b8bca92c98ee0ffc0761113a953bdf2a4956b8f03297d7432742", func := "loop.example/g01032/laws.FnExactBestBid", spec := "fnExactBestBid", unfollowed := true, recurses := true, apart := false, narrowed := true }
def FnExactBestBidUptoSaid : Prop := fnExactBestBidUptoRow.holds Try.pinned (OpenSpec.upto fnExactBestBidSpec)

/-- 'laws.FnExactAwardFault', WHERE WHAT IT READS IS OF BULK AT MOST 1048576: true; the input reads as it did. -/
def fnExactAwardFaultUptoRow : OpenClaim := { program := "ytgkhjikkbjmadaa", sum := "ccedaaff4744b8bca92c98ee0ffc0761113a953bdf2a4956b8f03297d7432742", func := "loop.example/g01032/laws.FnExactAwardFault", spec := "fnExactAwardFault", unfollowed := true, recurses := true, apart := false, narrowed := true }
def FnExactAwardFaultUptoSaid : Prop := fnExactAwardFaultUptoRow.holds Try.pinned (OpenSpec.upto fnExactAwardFaultSpec)

/-- 'laws.FnExactSecondOffer', WHERE WHAT IT READS IS OF BULK AT MOST 1048576: true; the input reads as it did. -/
def fnExactSecondOfferUptoRow : OpenClaim := { program := "ytgkhjikkbjmadaa", sum := "ccedaaff4744b8bca92c98ee0ffc0761113a953bdf2a4956b8f03297d7432742", func := "loop.example/g01032/laws.FnExactSecondOffer", spec := "fnExactSecondOffer", unfollowed := true, recurses := true, apart := false, narrowed := true }
def FnExactSecondOfferUptoSaid : Prop := fnExactSecondOfferUptoRow.holds Try.pinned (OpenSpec.upto fnExactSecondOfferSpec)

/-- 'laws.FnExactAwardCost', WHERE WHAT IT READS IS OF BULK AT MOST 1048576: true; the input reads as it did. -/
def fnExactAwardCostUptoRow : OpenClaim := { program := "ytgkhjikkbjmadaa", sum := "ccedaaff4744b8bca92c98ee0ffc0761113a953bdf2a4956b8f03297d7432742", func := "loop.example/g01032/laws.FnExactAwardCost", spec := "fnExactAwardCost", unfollowed := true, recurses := true, apart := false, narrowed := true }
def FnExactAwardCostUptoSaid : Prop := fnExactAwardCostUptoRow.holds Try.pinned (OpenSpec.upto fnExactAwardCostSpec)

end Rows
end Go.Proofs.Ytgkhjikkbjmadaa
