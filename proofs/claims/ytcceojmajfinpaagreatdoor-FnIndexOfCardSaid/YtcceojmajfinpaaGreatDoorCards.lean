/-
  DERIVED. GIVEN WITH THE SEED: THE CARDS: each row of YtcceojmajfinpaaGreatDoorRows.lean that lists a variable, with what it lists TIED to the program's text (the seventh form; the later family's looks); each row that meets fmt, with fmt's text TOLD by the authors' own Lean function (tested against real Go, not proved from fmt's source: count such statements apart). THE CARD IS WHAT COUNTS. Prove the row's statement (the work); the ties are given (YtcceojmajfinpaaGreatDoorTie.lean); close each card by the builder's one call (the guide's Derived/Test/ToyasCard.lean, 'card_holds'). Laid BY PROGRAM, IN A SANDBOX (cutbox-door.mjs). By AI agents, Wed Nov 11 2026. No macro, syntax, notation, axiom, sorry.
-/
import Derived.Test.YtcceojmajfinpaaGreatDoorRows
import GoSem.ClaimSeven
namespace Go.Proofs.YtcceojmajfinpaaGreatDoor
namespace Rows

/-- THE TIED CARD OF 'laws.FnExactAskSum'. -/
def fnExactAskSumCard : Claim7 := { stood := { row := fnExactAskSumRow, standIns := [], harness := (true, "18df492114f05f048a516c273473eecfc9bd9d7f2cdc101cf80181633b1abf28"), looks := true }, kinds := [], alts := [], laidByText := true, laidKinds := [.data, .data, .data, .sentinel, .sentinel], laidTests := true, laidLooks := .later }
def FnExactAskSumCardSaid : Prop := Claim7.holds Tryz.pinned (.plain (OpenSpec.ofChange fnExactAskSumSpec)) fnExactAskSumCard

/-- THE TIED CARD OF 'laws.FnAskFind'. -/
def fnAskFindCard : Claim7 := { stood := { row := fnAskFindRow, standIns := [], harness := (true, "18df492114f05f048a516c273473eecfc9bd9d7f2cdc101cf80181633b1abf28"), looks := true }, kinds := [], alts := [], laidByText := true, laidKinds := [.data, .data, .data, .sentinel, .sentinel], laidTests := true, laidLooks := .later }
def FnAskFindCardSaid : Prop := Claim7.holds Tryz.pinned (.plain (OpenSpec.ofChange fnAskFindSpec)) fnAskFindCard

/-- THE TIED CARD OF 'laws.FnAskMore'. -/
def fnAskMoreCard : Claim7 := { stood := { row := fnAskMoreRow, standIns := [], harness := (true, "18df492114f05f048a516c273473eecfc9bd9d7f2cdc101cf80181633b1abf28"), looks := true }, kinds := [], alts := [], laidByText := true, laidKinds := [.data, .data, .data, .sentinel, .sentinel], laidTests := true, laidLooks := .later }
def FnAskMoreCardSaid : Prop := Claim7.holds Tryz.pinned (.plain (OpenSpec.ofChange fnAskMoreSpec)) fnAskMoreCard

/-- THE TIED CARD OF 'laws.FnAskCols'. -/
def fnAskColsCard : Claim7 := { stood := { row := fnAskColsRow, standIns := [], harness := (true, "18df492114f05f048a516c273473eecfc9bd9d7f2cdc101cf80181633b1abf28"), looks := true }, kinds := [], alts := [], laidByText := true, laidKinds := [.data, .data, .data, .sentinel, .sentinel], laidTests := true, laidLooks := .later }
def FnAskColsCardSaid : Prop := Claim7.holds Tryz.pinned (.plain (OpenSpec.ofChange fnAskColsSpec)) fnAskColsCard

/-- THE TIED CARD OF 'laws.FnAskIds'. -/
def fnAskIdsCard : Claim7 := { stood := { row := fnAskIdsRow, standIns := [], harness := (true, "18df492114f05f048a516c273473eecfc9bd9d7f2cdc101cf80181633b1abf28"), looks := true }, kinds := [], alts := [], laidByText := true, laidKinds := [.data, .data, .data, .sentinel, .sentinel], laidTests := true, laidLooks := .later }
def FnAskIdsCardSaid : Prop := Claim7.holds Tryz.pinned (.plain (OpenSpec.ofChange fnAskIdsSpec)) fnAskIdsCard

/-- THE TIED CARD OF 'laws.FnExactAskIds'. -/
def fnExactAskIdsCard : Claim7 := { stood := { row := fnExactAskIdsRow, standIns := [], harness := (true, "18df492114f05f048a516c273473eecfc9bd9d7f2cdc101cf80181633b1abf28"), looks := true }, kinds := [], alts := [], laidByText := true, laidKinds := [.data, .data, .data, .sentinel, .sentinel], laidTests := true, laidLooks := .later }
def FnExactAskIdsCardSaid : Prop := Claim7.holds Tryz.pinned (.plain (OpenSpec.ofChange fnExactAskIdsSpec)) fnExactAskIdsCard

/-- THE TIED CARD OF 'laws.FnExactAskCols'. -/
def fnExactAskColsCard : Claim7 := { stood := { row := fnExactAskColsRow, standIns := [], harness := (true, "18df492114f05f048a516c273473eecfc9bd9d7f2cdc101cf80181633b1abf28"), looks := true }, kinds := [], alts := [], laidByText := true, laidKinds := [.data, .data, .data, .sentinel, .sentinel], laidTests := true, laidLooks := .later }
def FnExactAskColsCardSaid : Prop := Claim7.holds Tryz.pinned (.plain (OpenSpec.ofChange fnExactAskColsSpec)) fnExactAskColsCard

/-- THE TIED CARD OF 'laws.FnIndexRow'. -/
def fnIndexRowCard : Claim7 := { stood := { row := fnIndexRowRow, standIns := [], harness := (true, "18df492114f05f048a516c273473eecfc9bd9d7f2cdc101cf80181633b1abf28"), looks := true }, kinds := [], alts := [], laidByText := true, laidKinds := [.data, .data, .data, .sentinel, .sentinel], laidTests := true, laidLooks := .later }
def FnIndexRowCardSaid : Prop := Claim7.holds Tryz.pinned (.plain (OpenSpec.ofChange fnIndexRowSpec)) fnIndexRowCard

/-- THE TIED CARD OF 'laws.FnIndexKeep'. -/
def fnIndexKeepCard : Claim7 := { stood := { row := fnIndexKeepRow, standIns := [], harness := (true, "18df492114f05f048a516c273473eecfc9bd9d7f2cdc101cf80181633b1abf28"), looks := true }, kinds := [], alts := [], laidByText := true, laidKinds := [.data, .data, .data, .sentinel, .sentinel], laidTests := true, laidLooks := .later }
def FnIndexKeepCardSaid : Prop := Claim7.holds Tryz.pinned (.plain (OpenSpec.ofChange fnIndexKeepSpec)) fnIndexKeepCard

/-- THE TIED CARD OF 'laws.FnExactIndexOf'. -/
def fnExactIndexOfCard : Claim7 := { stood := { row := fnExactIndexOfRow, standIns := [], harness := (true, "18df492114f05f048a516c273473eecfc9bd9d7f2cdc101cf80181633b1abf28"), looks := true }, kinds := [], alts := [], laidByText := true, laidKinds := [.data, .data, .data, .sentinel, .sentinel], laidTests := true, laidLooks := .later }
def FnExactIndexOfCardSaid : Prop := Claim7.holds Tryz.pinned (.plain (OpenSpec.ofChange fnExactIndexOfSpec)) fnExactIndexOfCard

/-- THE TIED CARD OF 'laws.FnIndexOf'. -/
def fnIndexOfCard : Claim7 := { stood := { row := fnIndexOfRow, standIns := [], harness := (true, "18df492114f05f048a516c273473eecfc9bd9d7f2cdc101cf80181633b1abf28"), looks := true }, kinds := [], alts := [], laidByText := true, laidKinds := [.data, .data, .data, .sentinel, .sentinel], laidTests := true, laidLooks := .later }
def FnIndexOfCardSaid : Prop := Claim7.holds Tryz.pinned (.plain (OpenSpec.ofChange fnIndexOfSpec)) fnIndexOfCard

/-- THE TIED CARD OF 'laws.FnExactAskOrder'. -/
def fnExactAskOrderCard : Claim7 := { stood := { row := fnExactAskOrderRow, standIns := [], harness := (true, "18df492114f05f048a516c273473eecfc9bd9d7f2cdc101cf80181633b1abf28"), looks := true }, kinds := [], alts := [], laidByText := true, laidKinds := [.data, .data, .data, .sentinel, .sentinel], laidTests := true, laidLooks := .later }
def FnExactAskOrderCardSaid : Prop := Claim7.holds Tryz.pinned (.plain (OpenSpec.ofChange fnExactAskOrderSpec)) fnExactAskOrderCard

/-- THE SECOND FORM's CARD OF 'laws.FnExactAskSum'. -/
def fnExactAskSumUptoCard : Claim7 := { stood := { row := fnExactAskSumUptoRow, standIns := [], harness := (true, "18df492114f05f048a516c273473eecfc9bd9d7f2cdc101cf80181633b1abf28"), looks := true }, kinds := [], alts := [], laidByText := true, laidKinds := [.data, .data, .data, .sentinel, .sentinel], laidTests := true, laidLooks := .later }
def FnExactAskSumUptoCardSaid : Prop := Claim7.holds Tryz.pinned (.plain (OpenSpec.upto fnExactAskSumSpec)) fnExactAskSumUptoCard

/-- THE SECOND FORM's CARD OF 'laws.FnAskFind'. -/
def fnAskFindUptoCard : Claim7 := { stood := { row := fnAskFindUptoRow, standIns := [], harness := (true, "18df492114f05f048a516c273473eecfc9bd9d7f2cdc101cf80181633b1abf28"), looks := true }, kinds := [], alts := [], laidByText := true, laidKinds := [.data, .data, .data, .sentinel, .sentinel], laidTests := true, laidLooks := .later }
def FnAskFindUptoCardSaid : Prop := Claim7.holds Tryz.pinned (.plain (OpenSpec.upto fnAskFindSpec)) fnAskFindUptoCard

/-- THE SECOND FORM's CARD OF 'laws.FnAskMore'. -/
def fnAskMoreUptoCard : Claim7 := { stood := { row := fnAskMoreUptoRow, standIns := [], harness := (true, "18df492114f05f048a516c273473eecfc9bd9d7f2cdc101cf80181633b1abf28"), looks := true }, kinds := [], alts := [], laidByText := true, laidKinds := [.data, .data, .data, .sentinel, .sentinel], laidTests := true, laidLooks := .later }
def FnAskMoreUptoCardSaid : Prop := Claim7.holds Tryz.pinned (.plain (OpenSpec.upto fnAskMoreSpec)) fnAskMoreUptoCard

/-- THE SECOND FORM's CARD OF 'laws.FnAskCols'. -/
def fnAskColsUptoCard : Claim7 := { stood := { row := fnAskColsUptoRow, standIns := [], harness := (true, "18df492114f05f048a516c273473eecfc9bd9d7f2cdc101cf80181633b1abf28"), looks := true }, kinds := [], alts := [], laidByText := true, laidKinds := [.data, .data, .data, .sentinel, .sentinel], laidTests := true, laidLooks := .later }
def FnAskColsUptoCardSaid : Prop := Claim7.holds Tryz.pinned (.plain (OpenSpec.upto fnAskColsSpec)) fnAskColsUptoCard

/-- THE SECOND FORM's CARD OF 'laws.FnAskIds'. -/
def fnAskIdsUptoCard : Claim7 := { stood := { row := fnAskIdsUptoRow, standIns := [], harness := (true, "18df492114f05f048a516c273473eecfc9bd9d7f2cdc101cf80181633b1abf28"), looks := true }, kinds := [], alts := [], laidByText := true, laidKinds := [.data, .data, .data, .sentinel, .sentinel], laidTests := true, laidLooks := .later }
def FnAskIdsUptoCardSaid : Prop := Claim7.holds Tryz.pinned (.plain (OpenSpec.upto fnAskIdsSpec)) fnAskIdsUptoCard

/-- THE SECOND FORM's CARD OF 'laws.FnExactAskIds'. -/
def fnExactAskIdsUptoCard : Claim7 := { stood := { row := fnExactAskIdsUptoRow, standIns := [], harness := (true, "18df492114f05f048a516c273473eecfc9bd9d7f2cdc101cf80181633b1abf28"), looks := true }, kinds := [], alts := [], laidByText := true, laidKinds := [.data, .data, .data, .sentinel, .sentinel], laidTests := true, laidLooks := .later }
def FnExactAskIdsUptoCardSaid : Prop := Claim7.holds Tryz.pinned (.plain (OpenSpec.upto fnExactAskIdsSpec)) fnExactAskIdsUptoCard

/-- THE SECOND FORM's CARD OF 'laws.FnExactAskCols'. -/
def fnExactAskColsUptoCard : Claim7 := { stood := { row := fnExactAskColsUptoRow, standIns := [], harness := (true, "18df492114f05f048a516c273473eecfc9bd9d7f2cdc101cf80181633b1abf28"), looks := true }, kinds := [], alts := [], laidByText := true, laidKinds := [.data, .data, .data, .sentinel, .sentinel], laidTests := true, laidLooks := .later }
def FnExactAskColsUptoCardSaid : Prop := Claim7.holds Tryz.pinned (.plain (OpenSpec.upto fnExactAskColsSpec)) fnExactAskColsUptoCard

/-- THE SECOND FORM's CARD OF 'laws.FnIndexRow'. -/
def fnIndexRowUptoCard : Claim7 := { stood := { row := fnIndexRowUptoRow, standIns := [], harness := (true, "18df492114f05f048a516c273473eecfc9bd9d7f2cdc101cf80181633b1abf28"), looks := true }, kinds := [], alts := [], laidByText := true, laidKinds := [.data, .data, .data, .sentinel, .sentinel], laidTests := true, laidLooks := .later }
def FnIndexRowUptoCardSaid : Prop := Claim7.holds Tryz.pinned (.plain (OpenSpec.upto fnIndexRowSpec)) fnIndexRowUptoCard

/-- THE SECOND FORM's CARD OF 'laws.FnIndexKeep'. -/
def fnIndexKeepUptoCard : Claim7 := { stood := { row := fnIndexKeepUptoRow, standIns := [], harness := (true, "18df492114f05f048a516c273473eecfc9bd9d7f2cdc101cf80181633b1abf28"), looks := true }, kinds := [], alts := [], laidByText := true, laidKinds := [.data, .data, .data, .sentinel, .sentinel], laidTests := true, laidLooks := .later }
def FnIndexKeepUptoCardSaid : Prop := Claim7.holds Tryz.pinned (.plain (OpenSpec.upto fnIndexKeepSpec)) fnIndexKeepUptoCard

/-- THE SECOND FORM's CARD OF 'laws.FnExactIndexOf'. -/
def fnExactIndexOfUptoCard : Claim7 := { stood := { row := fnExactIndexOfUptoRow, standIns := [], harness := (true, "18df492114f05f048a516c273473eecfc9bd9d7f2cdc101cf80181633b1abf28"), looks := true }, kinds := [], alts := [], laidByText := true, laidKinds := [.data, .data, .data, .sentinel, .sentinel], laidTests := true, laidLooks := .later }
def FnExactIndexOfUptoCardSaid : Prop := Claim7.holds Tryz.pinned (.plain (OpenSpec.upto fnExactIndexOfSpec)) fnExactIndexOfUptoCard

/-- THE SECOND FORM's CARD OF 'laws.FnIndexOf'. -/
def fnIndexOfUptoCard : Claim7 := { stood := { row := fnIndexOfUptoRow, standIns := [], harness := (true, "18df492114f05f048a516c273473eecfc9bd9d7f2cdc101cf80181633b1abf28"), looks := true }, kinds := [], alts := [], laidByText := true, laidKinds := [.data, .data, .data, .sentinel, .sentinel], laidTests := true, laidLooks := .later }
def FnIndexOfUptoCardSaid : Prop := Claim7.holds Tryz.pinned (.plain (OpenSpec.upto fnIndexOfSpec)) fnIndexOfUptoCard

/-- THE SECOND FORM's CARD OF 'laws.FnExactAskOrder'. -/
def fnExactAskOrderUptoCard : Claim7 := { stood := { row := fnExactAskOrderUptoRow, standIns := [], harness := (true, "18df492114f05f048a516c273473eecfc9bd9d7f2cdc101cf80181633b1abf28"), looks := true }, kinds := [], alts := [], laidByText := true, laidKinds := [.data, .data, .data, .sentinel, .sentinel], laidTests := true, laidLooks := .later }
def FnExactAskOrderUptoCardSaid : Prop := Claim7.holds Tryz.pinned (.plain (OpenSpec.upto fnExactAskOrderSpec)) fnExactAskOrderUptoCard
end Rows
end Go.Proofs.YtcceojmajfinpaaGreatDoor
