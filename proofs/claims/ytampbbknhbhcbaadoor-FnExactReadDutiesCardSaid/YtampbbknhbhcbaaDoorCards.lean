/-
  DERIVED. GIVEN WITH THE SEED: THE CARDS: each row of YtampbbknhbhcbaaDoorRows.lean that lists a variable, with what it lists TIED to the program's text (the seventh form; the later family's looks); each row that meets fmt, with fmt's text TOLD by the authors' own Lean function (tested against real Go, not proved from fmt's source: count such statements apart). THE CARD IS WHAT COUNTS. Prove the row's statement (the work); the ties are given (YtampbbknhbhcbaaDoorTie.lean); close each card by the builder's one call (the guide's Derived/Test/ToyasCard.lean, 'card_holds'). Laid BY PROGRAM, IN A SANDBOX (cutbox-door.mjs). By AI agents, Wed Nov 11 2026. No macro, syntax, notation, axiom, sorry.
-/
import Derived.Test.YtampbbknhbhcbaaDoorRows
import GoSem.ClaimSeven
namespace Go.Proofs.YtampbbknhbhcbaaDoor
namespace Rows

/-- THE TIED CARD OF 'laws.FnExactDutiesText'. -/
def fnExactDutiesTextCard : Claim7 := { stood := { row := fnExactDutiesTextRow, standIns := [], harness := (true, "b2f187b5e3323d4475029cd286e9ea0c42cb59b3dc80d5817dbae9ab052b1b12"), looks := true }, kinds := [], alts := [], laidByText := true, laidKinds := [.data, .data, .data], laidTests := true, laidLooks := .later }
def FnExactDutiesTextCardSaid : Prop := Claim7.holds Tryd.pinned (.plain (OpenSpec.ofChange fnExactDutiesTextSpec)) fnExactDutiesTextCard

/-- THE TIED CARD OF 'laws.FnExactReadDuties'. -/
def fnExactReadDutiesCard : Claim7 := { stood := { row := fnExactReadDutiesRow, standIns := [], harness := (true, "b2f187b5e3323d4475029cd286e9ea0c42cb59b3dc80d5817dbae9ab052b1b12"), looks := true }, kinds := [], alts := [], laidByText := true, laidKinds := [.data, .data, .data, .sentinel, .sentinel], laidTests := true, laidLooks := .later }
def FnExactReadDutiesCardSaid : Prop := Claim7.holds Tryd.pinned (.plain (OpenSpec.ofChange fnExactReadDutiesSpec)) fnExactReadDutiesCard

/-- THE TIED CARD OF 'laws.FnExactReadBill'. -/
def fnExactReadBillCard : Claim7 := { stood := { row := fnExactReadBillRow, standIns := [], harness := (true, "b2f187b5e3323d4475029cd286e9ea0c42cb59b3dc80d5817dbae9ab052b1b12"), looks := true }, kinds := [], alts := [], laidByText := true, laidKinds := [.data, .data, .data, .sentinel, .sentinel], laidTests := true, laidLooks := .later }
def FnExactReadBillCardSaid : Prop := Claim7.holds Tryd.pinned (.plain (OpenSpec.ofChange fnExactReadBillSpec)) fnExactReadBillCard

/-- THE TIED CARD OF 'laws.FnExactBidText'. -/
def fnExactBidTextCard : Claim7 := { stood := { row := fnExactBidTextRow, standIns := [], harness := (true, "b2f187b5e3323d4475029cd286e9ea0c42cb59b3dc80d5817dbae9ab052b1b12"), looks := true }, kinds := [], alts := [], laidByText := true, laidKinds := [.data, .data, .data], laidTests := true, laidLooks := .later }
def FnExactBidTextCardSaid : Prop := Claim7.holds Tryd.pinned (.plain (OpenSpec.ofChange fnExactBidTextSpec)) fnExactBidTextCard

/-- THE TIED CARD OF 'laws.FnExactTaskText'. -/
def fnExactTaskTextCard : Claim7 := { stood := { row := fnExactTaskTextRow, standIns := [], harness := (true, "b2f187b5e3323d4475029cd286e9ea0c42cb59b3dc80d5817dbae9ab052b1b12"), looks := true }, kinds := [], alts := [], laidByText := true, laidKinds := [.data, .data, .data], laidTests := true, laidLooks := .later }
def FnExactTaskTextCardSaid : Prop := Claim7.holds Tryd.pinned (.plain (OpenSpec.ofChange fnExactTaskTextSpec)) fnExactTaskTextCard

/-- THE SECOND FORM's CARD OF 'laws.FnExactDutiesText'. -/
def fnExactDutiesTextUptoCard : Claim7 := { stood := { row := fnExactDutiesTextUptoRow, standIns := [], harness := (true, "b2f187b5e3323d4475029cd286e9ea0c42cb59b3dc80d5817dbae9ab052b1b12"), looks := true }, kinds := [], alts := [], laidByText := true, laidKinds := [.data, .data, .data], laidTests := true, laidLooks := .later }
def FnExactDutiesTextUptoCardSaid : Prop := Claim7.holds Tryd.pinned (.plain (OpenSpec.upto fnExactDutiesTextSpec)) fnExactDutiesTextUptoCard

/-- THE SECOND FORM's CARD OF 'laws.FnExactReadDuties'. -/
def fnExactReadDutiesUptoCard : Claim7 := { stood := { row := fnExactReadDutiesUptoRow, standIns := [], harness := (true, "b2f187b5e3323d4475029cd286e9ea0c42cb59b3dc80d5817dbae9ab052b1b12"), looks := true }, kinds := [], alts := [], laidByText := true, laidKinds := [.data, .data, .data, .sentinel, .sentinel], laidTests := true, laidLooks := .later }
def FnExactReadDutiesUptoCardSaid : Prop := Claim7.holds Tryd.pinned (.plain (OpenSpec.upto fnExactReadDutiesSpec)) fnExactReadDutiesUptoCard

/-- THE SECOND FORM's CARD OF 'laws.FnExactReadBill'. -/
def fnExactReadBillUptoCard : Claim7 := { stood := { row := fnExactReadBillUptoRow, standIns := [], harness := (true, "b2f187b5e3323d4475029cd286e9ea0c42cb59b3dc80d5817dbae9ab052b1b12"), looks := true }, kinds := [], alts := [], laidByText := true, laidKinds := [.data, .data, .data, .sentinel, .sentinel], laidTests := true, laidLooks := .later }
def FnExactReadBillUptoCardSaid : Prop := Claim7.holds Tryd.pinned (.plain (OpenSpec.upto fnExactReadBillSpec)) fnExactReadBillUptoCard

/-- THE SECOND FORM's CARD OF 'laws.FnExactBidText'. -/
def fnExactBidTextUptoCard : Claim7 := { stood := { row := fnExactBidTextUptoRow, standIns := [], harness := (true, "b2f187b5e3323d4475029cd286e9ea0c42cb59b3dc80d5817dbae9ab052b1b12"), looks := true }, kinds := [], alts := [], laidByText := true, laidKinds := [.data, .data, .data], laidTests := true, laidLooks := .later }
def FnExactBidTextUptoCardSaid : Prop := Claim7.holds Tryd.pinned (.plain (OpenSpec.upto fnExactBidTextSpec)) fnExactBidTextUptoCard

/-- THE SECOND FORM's CARD OF 'laws.FnExactTaskText'. -/
def fnExactTaskTextUptoCard : Claim7 := { stood := { row := fnExactTaskTextUptoRow, standIns := [], harness := (true, "b2f187b5e3323d4475029cd286e9ea0c42cb59b3dc80d5817dbae9ab052b1b12"), looks := true }, kinds := [], alts := [], laidByText := true, laidKinds := [.data, .data, .data], laidTests := true, laidLooks := .later }
def FnExactTaskTextUptoCardSaid : Prop := Claim7.holds Tryd.pinned (.plain (OpenSpec.upto fnExactTaskTextSpec)) fnExactTaskTextUptoCard
end Rows
end Go.Proofs.YtampbbknhbhcbaaDoor
