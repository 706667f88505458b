/-
  DERIVED. GIVEN WITH THE SEED: THE CARDS: each row of YtjnmakepflbnjaaDoorRows.lean that lists a variable, with what it lists TIED to the program's text (the seventh form; the later family's looks); each row that meets fmt, with fmt's text TOLD by the authors' own Lean function (tested against real Go, not proved from fmt's source: count such statements apart). THE CARD IS WHAT COUNTS. Prove the row's statement (the work); the ties are given (YtjnmakepflbnjaaDoorTie.lean); close each card by the builder's one call (the guide's Derived/Test/ToyasCard.lean, 'card_holds'). Laid BY PROGRAM, IN A SANDBOX (cutbox-door.mjs). By AI agents, Wed Nov 11 2026. No macro, syntax, notation, axiom, sorry.
-/
import Derived.Test.YtjnmakepflbnjaaDoorRows
import GoSem.ClaimSeven
namespace Go.Proofs.YtjnmakepflbnjaaDoor
namespace Rows

/-- THE TIED CARD OF 'stewardlaw30.ReportCounts'. -/
def reportCountsCard : Claim7 := { stood := { row := reportCountsRow, standIns := [], harness := (true, "a5a51837a86fe7288c26d230ca2b560a873aeab4c2106e3a9c94a0e442278cbc"), looks := true }, kinds := [], alts := [], laidByText := true, laidKinds := [.data, .data, .data, .data], laidTests := true, laidLooks := .later }
def ReportCountsCardSaid : Prop := Claim7.holds Tryd.pinned (.plain (OpenSpec.ofChange reportCountsSpec)) reportCountsCard

/-- THE TIED CARD OF 'stewardlaw19.RingBuilds'. -/
def ringBuildsCard : Claim7 := { stood := { row := ringBuildsRow, standIns := [], harness := (true, "a5a51837a86fe7288c26d230ca2b560a873aeab4c2106e3a9c94a0e442278cbc"), looks := true }, kinds := [], alts := [], laidByText := true, laidKinds := [.data, .data, .data], laidTests := true, laidLooks := .later }
def RingBuildsCardSaid : Prop := Claim7.holds Tryd.pinned (.plain (OpenSpec.ofChange ringBuildsSpec)) ringBuildsCard

/-- THE TIED CARD OF 'stewardlaw19.RingOrder'. -/
def ringOrderCard : Claim7 := { stood := { row := ringOrderRow, standIns := [], harness := (true, "a5a51837a86fe7288c26d230ca2b560a873aeab4c2106e3a9c94a0e442278cbc"), looks := true }, kinds := [], alts := [], laidByText := true, laidKinds := [.data, .data, .data], laidTests := true, laidLooks := .later }
def RingOrderCardSaid : Prop := Claim7.holds Tryd.pinned (.plain (OpenSpec.ofChange ringOrderSpec)) ringOrderCard

/-- THE TIED CARD OF 'stewardlaw19.RingPicks'. -/
def ringPicksCard : Claim7 := { stood := { row := ringPicksRow, standIns := [], harness := (true, "a5a51837a86fe7288c26d230ca2b560a873aeab4c2106e3a9c94a0e442278cbc"), looks := true }, kinds := [], alts := [], laidByText := true, laidKinds := [.data, .data, .data], laidTests := true, laidLooks := .later }
def RingPicksCardSaid : Prop := Claim7.holds Tryd.pinned (.plain (OpenSpec.ofChange ringPicksSpec)) ringPicksCard

/-- THE TIED CARD OF 'stewardlaw19.RingLittle'. -/
def ringLittleCard : Claim7 := { stood := { row := ringLittleRow, standIns := [], harness := (true, "a5a51837a86fe7288c26d230ca2b560a873aeab4c2106e3a9c94a0e442278cbc"), looks := true }, kinds := [], alts := [], laidByText := true, laidKinds := [.data, .data, .data], laidTests := true, laidLooks := .later }
def RingLittleCardSaid : Prop := Claim7.holds Tryd.pinned (.plain (OpenSpec.ofChange ringLittleSpec)) ringLittleCard

/-- THE TIED CARD OF 'stewardlaw30.ReportShares'. -/
def reportSharesCard : Claim7 := { stood := { row := reportSharesRow, standIns := [], harness := (true, "a5a51837a86fe7288c26d230ca2b560a873aeab4c2106e3a9c94a0e442278cbc"), looks := true }, kinds := [], alts := [], laidByText := true, laidKinds := [.data, .data, .data, .data], laidTests := true, laidLooks := .later }
def ReportSharesCardSaid : Prop := Claim7.holds Tryd.pinned (.plain (OpenSpec.ofChange reportSharesSpec)) reportSharesCard

/-- THE TIED CARD OF 'stewardlaw12.RewriteHops'. -/
def rewriteHopsCard : Claim7 := { stood := { row := rewriteHopsRow, standIns := [], harness := (true, "a5a51837a86fe7288c26d230ca2b560a873aeab4c2106e3a9c94a0e442278cbc"), looks := true }, kinds := [], alts := [], laidByText := true, laidKinds := [.data, .data, .data, .data, .data, .widerDeep, .pinned], laidTests := true, laidLooks := .later }
def RewriteHopsCardSaid : Prop := Claim7.holds Tryd.pinned (.plain (OpenSpec.ofChange rewriteHopsSpec)) rewriteHopsCard

/-- THE TIED CARD OF 'stewardlaw05.OctetLists'. -/
def octetListsCard : Claim7 := { stood := { row := octetListsRow, standIns := [], harness := (true, "a5a51837a86fe7288c26d230ca2b560a873aeab4c2106e3a9c94a0e442278cbc"), looks := true }, kinds := [], alts := [], laidByText := true, laidKinds := [.data, .data, .data, .data, .sentinel, .sentinel, .pinned], laidTests := true, laidLooks := .later }
def OctetListsCardSaid : Prop := Claim7.holds Tryd.pinned (.plain (OpenSpec.ofChange octetListsSpec)) octetListsCard

/-- THE TIED CARD OF 'stewardlaw05.OctetMay'. -/
def octetMayCard : Claim7 := { stood := { row := octetMayRow, standIns := [], harness := (true, "a5a51837a86fe7288c26d230ca2b560a873aeab4c2106e3a9c94a0e442278cbc"), looks := true }, kinds := [], alts := [], laidByText := true, laidKinds := [.data, .data, .data, .data, .sentinel, .sentinel, .pinned], laidTests := true, laidLooks := .later }
def OctetMayCardSaid : Prop := Claim7.holds Tryd.pinned (.plain (OpenSpec.ofChange octetMaySpec)) octetMayCard

/-- THE TIED CARD OF 'stewardlaw05.OctetCases'. -/
def octetCasesCard : Claim7 := { stood := { row := octetCasesRow, standIns := [], harness := (true, "a5a51837a86fe7288c26d230ca2b560a873aeab4c2106e3a9c94a0e442278cbc"), looks := true }, kinds := [], alts := [], laidByText := true, laidKinds := [.data, .data, .data, .data, .sentinel, .sentinel, .pinned], laidTests := true, laidLooks := .later }
def OctetCasesCardSaid : Prop := Claim7.holds Tryd.pinned (.plain (OpenSpec.ofChange octetCasesSpec)) octetCasesCard

/-- THE TIED CARD OF 'stewardlaw05.OctetNumbers'. -/
def octetNumbersCard : Claim7 := { stood := { row := octetNumbersRow, standIns := [], harness := (true, "a5a51837a86fe7288c26d230ca2b560a873aeab4c2106e3a9c94a0e442278cbc"), looks := true }, kinds := [], alts := [], laidByText := true, laidKinds := [.data, .data, .data, .data, .sentinel, .sentinel, .pinned], laidTests := true, laidLooks := .later }
def OctetNumbersCardSaid : Prop := Claim7.holds Tryd.pinned (.plain (OpenSpec.ofChange octetNumbersSpec)) octetNumbersCard

/-- THE TIED CARD OF 'stewardlaw05.OctetDigits'. -/
def octetDigitsCard : Claim7 := { stood := { row := octetDigitsRow, standIns := [], harness := (true, "a5a51837a86fe7288c26d230ca2b560a873aeab4c2106e3a9c94a0e442278cbc"), looks := true }, kinds := [], alts := [], laidByText := true, laidKinds := [.data, .data, .data, .data, .sentinel, .sentinel, .pinned], laidTests := true, laidLooks := .later }
def OctetDigitsCardSaid : Prop := Claim7.holds Tryd.pinned (.plain (OpenSpec.ofChange octetDigitsSpec)) octetDigitsCard

/-- THE TIED CARD OF 'stewardlaw07.StartRequests'. -/
def startRequestsCard : Claim7 := { stood := { row := startRequestsRow, standIns := [], harness := (true, "a5a51837a86fe7288c26d230ca2b560a873aeab4c2106e3a9c94a0e442278cbc"), looks := true }, kinds := [], alts := [], laidByText := true, laidKinds := [.data, .data, .data, .data, .sentinel, .sentinel, .data, .pinned], laidTests := true, laidLooks := .later }
def StartRequestsCardSaid : Prop := Claim7.holds Tryd.pinned (.plain (OpenSpec.ofChange startRequestsSpec)) startRequestsCard

/-- THE TIED CARD OF 'stewardlaw07.StartCodes'. -/
def startCodesCard : Claim7 := { stood := { row := startCodesRow, standIns := [], harness := (true, "a5a51837a86fe7288c26d230ca2b560a873aeab4c2106e3a9c94a0e442278cbc"), looks := true }, kinds := [], alts := [], laidByText := true, laidKinds := [.data, .data, .data, .data, .sentinel, .sentinel, .data, .pinned], laidTests := true, laidLooks := .later }
def StartCodesCardSaid : Prop := Claim7.holds Tryd.pinned (.plain (OpenSpec.ofChange startCodesSpec)) startCodesCard

/-- THE TIED CARD OF 'stewardlaw07.StartStatuses'. -/
def startStatusesCard : Claim7 := { stood := { row := startStatusesRow, standIns := [], harness := (true, "a5a51837a86fe7288c26d230ca2b560a873aeab4c2106e3a9c94a0e442278cbc"), looks := true }, kinds := [], alts := [], laidByText := true, laidKinds := [.data, .data, .data, .data, .sentinel, .sentinel, .data, .pinned], laidTests := true, laidLooks := .later }
def StartStatusesCardSaid : Prop := Claim7.holds Tryd.pinned (.plain (OpenSpec.ofChange startStatusesSpec)) startStatusesCard

/-- THE TIED CARD OF 'stewardlaw07.StartLines'. -/
def startLinesCard : Claim7 := { stood := { row := startLinesRow, standIns := [], harness := (true, "a5a51837a86fe7288c26d230ca2b560a873aeab4c2106e3a9c94a0e442278cbc"), looks := true }, kinds := [], alts := [], laidByText := true, laidKinds := [.data, .data, .data, .data, .sentinel, .sentinel, .data, .pinned], laidTests := true, laidLooks := .later }
def StartLinesCardSaid : Prop := Claim7.holds Tryd.pinned (.plain (OpenSpec.ofChange startLinesSpec)) startLinesCard

/-- THE SECOND FORM's CARD OF 'stewardlaw30.ReportCounts'. -/
def reportCountsUptoCard : Claim7 := { stood := { row := reportCountsUptoRow, standIns := [], harness := (true, "a5a51837a86fe7288c26d230ca2b560a873aeab4c2106e3a9c94a0e442278cbc"), looks := true }, kinds := [], alts := [], laidByText := true, laidKinds := [.data, .data, .data, .data], laidTests := true, laidLooks := .later }
def ReportCountsUptoCardSaid : Prop := Claim7.holds Tryd.pinned (.plain (OpenSpec.upto reportCountsSpec)) reportCountsUptoCard

/-- THE SECOND FORM's CARD OF 'stewardlaw19.RingBuilds'. -/
def ringBuildsUptoCard : Claim7 := { stood := { row := ringBuildsUptoRow, standIns := [], harness := (true, "a5a51837a86fe7288c26d230ca2b560a873aeab4c2106e3a9c94a0e442278cbc"), looks := true }, kinds := [], alts := [], laidByText := true, laidKinds := [.data, .data, .data], laidTests := true, laidLooks := .later }
def RingBuildsUptoCardSaid : Prop := Claim7.holds Tryd.pinned (.plain (OpenSpec.upto ringBuildsSpec)) ringBuildsUptoCard

/-- THE SECOND FORM's CARD OF 'stewardlaw19.RingOrder'. -/
def ringOrderUptoCard : Claim7 := { stood := { row := ringOrderUptoRow, standIns := [], harness := (true, "a5a51837a86fe7288c26d230ca2b560a873aeab4c2106e3a9c94a0e442278cbc"), looks := true }, kinds := [], alts := [], laidByText := true, laidKinds := [.data, .data, .data], laidTests := true, laidLooks := .later }
def RingOrderUptoCardSaid : Prop := Claim7.holds Tryd.pinned (.plain (OpenSpec.upto ringOrderSpec)) ringOrderUptoCard

/-- THE SECOND FORM's CARD OF 'stewardlaw19.RingPicks'. -/
def ringPicksUptoCard : Claim7 := { stood := { row := ringPicksUptoRow, standIns := [], harness := (true, "a5a51837a86fe7288c26d230ca2b560a873aeab4c2106e3a9c94a0e442278cbc"), looks := true }, kinds := [], alts := [], laidByText := true, laidKinds := [.data, .data, .data], laidTests := true, laidLooks := .later }
def RingPicksUptoCardSaid : Prop := Claim7.holds Tryd.pinned (.plain (OpenSpec.upto ringPicksSpec)) ringPicksUptoCard

/-- THE SECOND FORM's CARD OF 'stewardlaw19.RingLittle'. -/
def ringLittleUptoCard : Claim7 := { stood := { row := ringLittleUptoRow, standIns := [], harness := (true, "a5a51837a86fe7288c26d230ca2b560a873aeab4c2106e3a9c94a0e442278cbc"), looks := true }, kinds := [], alts := [], laidByText := true, laidKinds := [.data, .data, .data], laidTests := true, laidLooks := .later }
def RingLittleUptoCardSaid : Prop := Claim7.holds Tryd.pinned (.plain (OpenSpec.upto ringLittleSpec)) ringLittleUptoCard

/-- THE SECOND FORM's CARD OF 'stewardlaw30.ReportShares'. -/
def reportSharesUptoCard : Claim7 := { stood := { row := reportSharesUptoRow, standIns := [], harness := (true, "a5a51837a86fe7288c26d230ca2b560a873aeab4c2106e3a9c94a0e442278cbc"), looks := true }, kinds := [], alts := [], laidByText := true, laidKinds := [.data, .data, .data, .data], laidTests := true, laidLooks := .later }
def ReportSharesUptoCardSaid : Prop := Claim7.holds Tryd.pinned (.plain (OpenSpec.upto reportSharesSpec)) reportSharesUptoCard

/-- THE SECOND FORM's CARD OF 'stewardlaw12.RewriteHops'. -/
def rewriteHopsUptoCard : Claim7 := { stood := { row := rewriteHopsUptoRow, standIns := [], harness := (true, "a5a51837a86fe7288c26d230ca2b560a873aeab4c2106e3a9c94a0e442278cbc"), looks := true }, kinds := [], alts := [], laidByText := true, laidKinds := [.data, .data, .data, .data, .data, .widerDeep, .pinned], laidTests := true, laidLooks := .later }
def RewriteHopsUptoCardSaid : Prop := Claim7.holds Tryd.pinned (.plain (OpenSpec.upto rewriteHopsSpec)) rewriteHopsUptoCard

/-- THE SECOND FORM's CARD OF 'stewardlaw05.OctetLists'. -/
def octetListsUptoCard : Claim7 := { stood := { row := octetListsUptoRow, standIns := [], harness := (true, "a5a51837a86fe7288c26d230ca2b560a873aeab4c2106e3a9c94a0e442278cbc"), looks := true }, kinds := [], alts := [], laidByText := true, laidKinds := [.data, .data, .data, .data, .sentinel, .sentinel, .pinned], laidTests := true, laidLooks := .later }
def OctetListsUptoCardSaid : Prop := Claim7.holds Tryd.pinned (.plain (OpenSpec.upto octetListsSpec)) octetListsUptoCard

/-- THE SECOND FORM's CARD OF 'stewardlaw05.OctetMay'. -/
def octetMayUptoCard : Claim7 := { stood := { row := octetMayUptoRow, standIns := [], harness := (true, "a5a51837a86fe7288c26d230ca2b560a873aeab4c2106e3a9c94a0e442278cbc"), looks := true }, kinds := [], alts := [], laidByText := true, laidKinds := [.data, .data, .data, .data, .sentinel, .sentinel, .pinned], laidTests := true, laidLooks := .later }
def OctetMayUptoCardSaid : Prop := Claim7.holds Tryd.pinned (.plain (OpenSpec.upto octetMaySpec)) octetMayUptoCard

/-- THE SECOND FORM's CARD OF 'stewardlaw05.OctetCases'. -/
def octetCasesUptoCard : Claim7 := { stood := { row := octetCasesUptoRow, standIns := [], harness := (true, "a5a51837a86fe7288c26d230ca2b560a873aeab4c2106e3a9c94a0e442278cbc"), looks := true }, kinds := [], alts := [], laidByText := true, laidKinds := [.data, .data, .data, .data, .sentinel, .sentinel, .pinned], laidTests := true, laidLooks := .later }
def OctetCasesUptoCardSaid : Prop := Claim7.holds Tryd.pinned (.plain (OpenSpec.upto octetCasesSpec)) octetCasesUptoCard

/-- THE SECOND FORM's CARD OF 'stewardlaw05.OctetNumbers'. -/
def octetNumbersUptoCard : Claim7 := { stood := { row := octetNumbersUptoRow, standIns := [], harness := (true, "a5a51837a86fe7288c26d230ca2b560a873aeab4c2106e3a9c94a0e442278cbc"), looks := true }, kinds := [], alts := [], laidByText := true, laidKinds := [.data, .data, .data, .data, .sentinel, .sentinel, .pinned], laidTests := true, laidLooks := .later }
def OctetNumbersUptoCardSaid : Prop := Claim7.holds Tryd.pinned (.plain (OpenSpec.upto octetNumbersSpec)) octetNumbersUptoCard

/-- THE SECOND FORM's CARD OF 'stewardlaw05.OctetDigits'. -/
def octetDigitsUptoCard : Claim7 := { stood := { row := octetDigitsUptoRow, standIns := [], harness := (true, "a5a51837a86fe7288c26d230ca2b560a873aeab4c2106e3a9c94a0e442278cbc"), looks := true }, kinds := [], alts := [], laidByText := true, laidKinds := [.data, .data, .data, .data, .sentinel, .sentinel, .pinned], laidTests := true, laidLooks := .later }
def OctetDigitsUptoCardSaid : Prop := Claim7.holds Tryd.pinned (.plain (OpenSpec.upto octetDigitsSpec)) octetDigitsUptoCard

/-- THE SECOND FORM's CARD OF 'stewardlaw07.StartRequests'. -/
def startRequestsUptoCard : Claim7 := { stood := { row := startRequestsUptoRow, standIns := [], harness := (true, "a5a51837a86fe7288c26d230ca2b560a873aeab4c2106e3a9c94a0e442278cbc"), looks := true }, kinds := [], alts := [], laidByText := true, laidKinds := [.data, .data, .data, .data, .sentinel, .sentinel, .data, .pinned], laidTests := true, laidLooks := .later }
def StartRequestsUptoCardSaid : Prop := Claim7.holds Tryd.pinned (.plain (OpenSpec.upto startRequestsSpec)) startRequestsUptoCard

/-- THE SECOND FORM's CARD OF 'stewardlaw07.StartCodes'. -/
def startCodesUptoCard : Claim7 := { stood := { row := startCodesUptoRow, standIns := [], harness := (true, "a5a51837a86fe7288c26d230ca2b560a873aeab4c2106e3a9c94a0e442278cbc"), looks := true }, kinds := [], alts := [], laidByText := true, laidKinds := [.data, .data, .data, .data, .sentinel, .sentinel, .data, .pinned], laidTests := true, laidLooks := .later }
def StartCodesUptoCardSaid : Prop := Claim7.holds Tryd.pinned (.plain (OpenSpec.upto startCodesSpec)) startCodesUptoCard

/-- THE SECOND FORM's CARD OF 'stewardlaw07.StartStatuses'. -/
def startStatusesUptoCard : Claim7 := { stood := { row := startStatusesUptoRow, standIns := [], harness := (true, "a5a51837a86fe7288c26d230ca2b560a873aeab4c2106e3a9c94a0e442278cbc"), looks := true }, kinds := [], alts := [], laidByText := true, laidKinds := [.data, .data, .data, .data, .sentinel, .sentinel, .data, .pinned], laidTests := true, laidLooks := .later }
def StartStatusesUptoCardSaid : Prop := Claim7.holds Tryd.pinned (.plain (OpenSpec.upto startStatusesSpec)) startStatusesUptoCard

/-- THE SECOND FORM's CARD OF 'stewardlaw07.StartLines'. -/
def startLinesUptoCard : Claim7 := { stood := { row := startLinesUptoRow, standIns := [], harness := (true, "a5a51837a86fe7288c26d230ca2b560a873aeab4c2106e3a9c94a0e442278cbc"), looks := true }, kinds := [], alts := [], laidByText := true, laidKinds := [.data, .data, .data, .data, .sentinel, .sentinel, .data, .pinned], laidTests := true, laidLooks := .later }
def StartLinesUptoCardSaid : Prop := Claim7.holds Tryd.pinned (.plain (OpenSpec.upto startLinesSpec)) startLinesUptoCard
end Rows
end Go.Proofs.YtjnmakepflbnjaaDoor
