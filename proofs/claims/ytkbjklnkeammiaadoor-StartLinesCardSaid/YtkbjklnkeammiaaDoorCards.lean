/-
  DERIVED. GIVEN WITH THE SEED: THE CARDS: each row of YtkbjklnkeammiaaDoorRows.lean that lists a variable, with what it lists TIED to the program's text (the seventh form; the later family's looks); each row that meets fmt, with fmt's text TOLD by the authors' own Lean function (tested against real Go, not proved from fmt's source: count such statements apart). THE CARD IS WHAT COUNTS. Prove the row's statement (the work); the ties are given (YtkbjklnkeammiaaDoorTie.lean); close each card by the builder's one call (the guide's Derived/Test/ToyasCard.lean, 'card_holds'). Laid BY PROGRAM, IN A SANDBOX (cutbox-door.mjs). By AI agents, Wed Nov 11 2026. No macro, syntax, notation, axiom, sorry.
-/
import Derived.Test.YtkbjklnkeammiaaDoorRows
import GoSem.ClaimSeven
namespace Go.Proofs.YtkbjklnkeammiaaDoor
namespace Rows

/-- THE TIED CARD OF 'stewardlaw12.RewriteHops'. -/
def rewriteHopsCard : Claim7 := { stood := { row := rewriteHopsRow, standIns := [], harness := (true, "324b88be4afb5fec41d01dcc4b11f46c89dd1f8c1b8a9cff9c7b06af70899311"), looks := true }, kinds := [], alts := [], laidByText := true, laidKinds := [.data, .data, .data, .data, .data, .widerDeep, .pinned], laidTests := true, laidLooks := .later }
def RewriteHopsCardSaid : Prop := Claim7.holds Tryd.pinned (.plain (OpenSpec.ofChange rewriteHopsSpec)) rewriteHopsCard

/-- THE TIED CARD OF 'stewardlaw05.OctetLists'. -/
def octetListsCard : Claim7 := { stood := { row := octetListsRow, standIns := [], harness := (true, "324b88be4afb5fec41d01dcc4b11f46c89dd1f8c1b8a9cff9c7b06af70899311"), looks := true }, kinds := [], alts := [], laidByText := true, laidKinds := [.data, .data, .data, .data, .sentinel, .sentinel, .pinned], laidTests := true, laidLooks := .later }
def OctetListsCardSaid : Prop := Claim7.holds Tryd.pinned (.plain (OpenSpec.ofChange octetListsSpec)) octetListsCard

/-- THE TIED CARD OF 'stewardlaw05.OctetMay'. -/
def octetMayCard : Claim7 := { stood := { row := octetMayRow, standIns := [], harness := (true, "324b88be4afb5fec41d01dcc4b11f46c89dd1f8c1b8a9cff9c7b06af70899311"), looks := true }, kinds := [], alts := [], laidByText := true, laidKinds := [.data, .data, .data, .data, .sentinel, .sentinel, .pinned], laidTests := true, laidLooks := .later }
def OctetMayCardSaid : Prop := Claim7.holds Tryd.pinned (.plain (OpenSpec.ofChange octetMaySpec)) octetMayCard

/-- THE TIED CARD OF 'stewardlaw05.OctetCases'. -/
def octetCasesCard : Claim7 := { stood := { row := octetCasesRow, standIns := [], harness := (true, "324b88be4afb5fec41d01dcc4b11f46c89dd1f8c1b8a9cff9c7b06af70899311"), looks := true }, kinds := [], alts := [], laidByText := true, laidKinds := [.data, .data, .data, .data, .sentinel, .sentinel, .pinned], laidTests := true, laidLooks := .later }
def OctetCasesCardSaid : Prop := Claim7.holds Tryd.pinned (.plain (OpenSpec.ofChange octetCasesSpec)) octetCasesCard

/-- THE TIED CARD OF 'stewardlaw05.OctetNumbers'. -/
def octetNumbersCard : Claim7 := { stood := { row := octetNumbersRow, standIns := [], harness := (true, "324b88be4afb5fec41d01dcc4b11f46c89dd1f8c1b8a9cff9c7b06af70899311"), looks := true }, kinds := [], alts := [], laidByText := true, laidKinds := [.data, .data, .data, .data, .sentinel, .sentinel, .pinned], laidTests := true, laidLooks := .later }
def OctetNumbersCardSaid : Prop := Claim7.holds Tryd.pinned (.plain (OpenSpec.ofChange octetNumbersSpec)) octetNumbersCard

/-- THE TIED CARD OF 'stewardlaw05.OctetDigits'. -/
def octetDigitsCard : Claim7 := { stood := { row := octetDigitsRow, standIns := [], harness := (true, "324b88be4afb5fec41d01dcc4b11f46c89dd1f8c1b8a9cff9c7b06af70899311"), looks := true }, kinds := [], alts := [], laidByText := true, laidKinds := [.data, .data, .data, .data, .sentinel, .sentinel, .pinned], laidTests := true, laidLooks := .later }
def OctetDigitsCardSaid : Prop := Claim7.holds Tryd.pinned (.plain (OpenSpec.ofChange octetDigitsSpec)) octetDigitsCard

/-- THE TIED CARD OF 'stewardlaw07.StartRequests'. -/
def startRequestsCard : Claim7 := { stood := { row := startRequestsRow, standIns := [], harness := (true, "324b88be4afb5fec41d01dcc4b11f46c89dd1f8c1b8a9cff9c7b06af70899311"), looks := true }, kinds := [], alts := [], laidByText := true, laidKinds := [.data, .data, .data, .data, .sentinel, .sentinel, .data, .pinned], laidTests := true, laidLooks := .later }
def StartRequestsCardSaid : Prop := Claim7.holds Tryd.pinned (.plain (OpenSpec.ofChange startRequestsSpec)) startRequestsCard

/-- THE TIED CARD OF 'stewardlaw07.StartCodes'. -/
def startCodesCard : Claim7 := { stood := { row := startCodesRow, standIns := [], harness := (true, "324b88be4afb5fec41d01dcc4b11f46c89dd1f8c1b8a9cff9c7b06af70899311"), looks := true }, kinds := [], alts := [], laidByText := true, laidKinds := [.data, .data, .data, .data, .sentinel, .sentinel, .data, .pinned], laidTests := true, laidLooks := .later }
def StartCodesCardSaid : Prop := Claim7.holds Tryd.pinned (.plain (OpenSpec.ofChange startCodesSpec)) startCodesCard

/-- THE TIED CARD OF 'stewardlaw07.StartStatuses'. -/
def startStatusesCard : Claim7 := { stood := { row := startStatusesRow, standIns := [], harness := (true, "324b88be4afb5fec41d01dcc4b11f46c89dd1f8c1b8a9cff9c7b06af70899311"), looks := true }, kinds := [], alts := [], laidByText := true, laidKinds := [.data, .data, .data, .data, .sentinel, .sentinel, .data, .pinned], laidTests := true, laidLooks := .later }
def StartStatusesCardSaid : Prop := Claim7.holds Tryd.pinned (.plain (OpenSpec.ofChange startStatusesSpec)) startStatusesCard

/-- THE TIED CARD OF 'stewardlaw07.StartLines'. -/
def startLinesCard : Claim7 := { stood := { row := startLinesRow, standIns := [], harness := (true, "324b88be4afb5fec41d01dcc4b11f46c89dd1f8c1b8a9cff9c7b06af70899311"), looks := true }, kinds := [], alts := [], laidByText := true, laidKinds := [.data, .data, .data, .data, .sentinel, .sentinel, .data, .pinned], laidTests := true, laidLooks := .later }
def StartLinesCardSaid : Prop := Claim7.holds Tryd.pinned (.plain (OpenSpec.ofChange startLinesSpec)) startLinesCard

/-- THE SECOND FORM's CARD OF 'stewardlaw12.RewriteHops'. -/
def rewriteHopsUptoCard : Claim7 := { stood := { row := rewriteHopsUptoRow, standIns := [], harness := (true, "324b88be4afb5fec41d01dcc4b11f46c89dd1f8c1b8a9cff9c7b06af70899311"), looks := true }, kinds := [], alts := [], laidByText := true, laidKinds := [.data, .data, .data, .data, .data, .widerDeep, .pinned], laidTests := true, laidLooks := .later }
def RewriteHopsUptoCardSaid : Prop := Claim7.holds Tryd.pinned (.plain (OpenSpec.upto rewriteHopsSpec)) rewriteHopsUptoCard

/-- THE SECOND FORM's CARD OF 'stewardlaw05.OctetLists'. -/
def octetListsUptoCard : Claim7 := { stood := { row := octetListsUptoRow, standIns := [], harness := (true, "324b88be4afb5fec41d01dcc4b11f46c89dd1f8c1b8a9cff9c7b06af70899311"), looks := true }, kinds := [], alts := [], laidByText := true, laidKinds := [.data, .data, .data, .data, .sentinel, .sentinel, .pinned], laidTests := true, laidLooks := .later }
def OctetListsUptoCardSaid : Prop := Claim7.holds Tryd.pinned (.plain (OpenSpec.upto octetListsSpec)) octetListsUptoCard

/-- THE SECOND FORM's CARD OF 'stewardlaw05.OctetMay'. -/
def octetMayUptoCard : Claim7 := { stood := { row := octetMayUptoRow, standIns := [], harness := (true, "324b88be4afb5fec41d01dcc4b11f46c89dd1f8c1b8a9cff9c7b06af70899311"), looks := true }, kinds := [], alts := [], laidByText := true, laidKinds := [.data, .data, .data, .data, .sentinel, .sentinel, .pinned], laidTests := true, laidLooks := .later }
def OctetMayUptoCardSaid : Prop := Claim7.holds Tryd.pinned (.plain (OpenSpec.upto octetMaySpec)) octetMayUptoCard

/-- THE SECOND FORM's CARD OF 'stewardlaw05.OctetCases'. -/
def octetCasesUptoCard : Claim7 := { stood := { row := octetCasesUptoRow, standIns := [], harness := (true, "324b88be4afb5fec41d01dcc4b11f46c89dd1f8c1b8a9cff9c7b06af70899311"), looks := true }, kinds := [], alts := [], laidByText := true, laidKinds := [.data, .data, .data, .data, .sentinel, .sentinel, .pinned], laidTests := true, laidLooks := .later }
def OctetCasesUptoCardSaid : Prop := Claim7.holds Tryd.pinned (.plain (OpenSpec.upto octetCasesSpec)) octetCasesUptoCard

/-- THE SECOND FORM's CARD OF 'stewardlaw05.OctetNumbers'. -/
def octetNumbersUptoCard : Claim7 := { stood := { row := octetNumbersUptoRow, standIns := [], harness := (true, "324b88be4afb5fec41d01dcc4b11f46c89dd1f8c1b8a9cff9c7b06af70899311"), looks := true }, kinds := [], alts := [], laidByText := true, laidKinds := [.data, .data, .data, .data, .sentinel, .sentinel, .pinned], laidTests := true, laidLooks := .later }
def OctetNumbersUptoCardSaid : Prop := Claim7.holds Tryd.pinned (.plain (OpenSpec.upto octetNumbersSpec)) octetNumbersUptoCard

/-- THE SECOND FORM's CARD OF 'stewardlaw05.OctetDigits'. -/
def octetDigitsUptoCard : Claim7 := { stood := { row := octetDigitsUptoRow, standIns := [], harness := (true, "324b88be4afb5fec41d01dcc4b11f46c89dd1f8c1b8a9cff9c7b06af70899311"), looks := true }, kinds := [], alts := [], laidByText := true, laidKinds := [.data, .data, .data, .data, .sentinel, .sentinel, .pinned], laidTests := true, laidLooks := .later }
def OctetDigitsUptoCardSaid : Prop := Claim7.holds Tryd.pinned (.plain (OpenSpec.upto octetDigitsSpec)) octetDigitsUptoCard

/-- THE SECOND FORM's CARD OF 'stewardlaw07.StartRequests'. -/
def startRequestsUptoCard : Claim7 := { stood := { row := startRequestsUptoRow, standIns := [], harness := (true, "324b88be4afb5fec41d01dcc4b11f46c89dd1f8c1b8a9cff9c7b06af70899311"), looks := true }, kinds := [], alts := [], laidByText := true, laidKinds := [.data, .data, .data, .data, .sentinel, .sentinel, .data, .pinned], laidTests := true, laidLooks := .later }
def StartRequestsUptoCardSaid : Prop := Claim7.holds Tryd.pinned (.plain (OpenSpec.upto startRequestsSpec)) startRequestsUptoCard

/-- THE SECOND FORM's CARD OF 'stewardlaw07.StartCodes'. -/
def startCodesUptoCard : Claim7 := { stood := { row := startCodesUptoRow, standIns := [], harness := (true, "324b88be4afb5fec41d01dcc4b11f46c89dd1f8c1b8a9cff9c7b06af70899311"), looks := true }, kinds := [], alts := [], laidByText := true, laidKinds := [.data, .data, .data, .data, .sentinel, .sentinel, .data, .pinned], laidTests := true, laidLooks := .later }
def StartCodesUptoCardSaid : Prop := Claim7.holds Tryd.pinned (.plain (OpenSpec.upto startCodesSpec)) startCodesUptoCard

/-- THE SECOND FORM's CARD OF 'stewardlaw07.StartStatuses'. -/
def startStatusesUptoCard : Claim7 := { stood := { row := startStatusesUptoRow, standIns := [], harness := (true, "324b88be4afb5fec41d01dcc4b11f46c89dd1f8c1b8a9cff9c7b06af70899311"), looks := true }, kinds := [], alts := [], laidByText := true, laidKinds := [.data, .data, .data, .data, .sentinel, .sentinel, .data, .pinned], laidTests := true, laidLooks := .later }
def StartStatusesUptoCardSaid : Prop := Claim7.holds Tryd.pinned (.plain (OpenSpec.upto startStatusesSpec)) startStatusesUptoCard

/-- THE SECOND FORM's CARD OF 'stewardlaw07.StartLines'. -/
def startLinesUptoCard : Claim7 := { stood := { row := startLinesUptoRow, standIns := [], harness := (true, "324b88be4afb5fec41d01dcc4b11f46c89dd1f8c1b8a9cff9c7b06af70899311"), looks := true }, kinds := [], alts := [], laidByText := true, laidKinds := [.data, .data, .data, .data, .sentinel, .sentinel, .data, .pinned], laidTests := true, laidLooks := .later }
def StartLinesUptoCardSaid : Prop := Claim7.holds Tryd.pinned (.plain (OpenSpec.upto startLinesSpec)) startLinesUptoCard
end Rows
end Go.Proofs.YtkbjklnkeammiaaDoor
