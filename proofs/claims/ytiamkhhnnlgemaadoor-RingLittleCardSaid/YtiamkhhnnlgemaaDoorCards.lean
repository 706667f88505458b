/-
  DERIVED. GIVEN WITH THE SEED: THE CARDS: each row of YtiamkhhnnlgemaaDoorRows.lean that lists a variable, with what it lists TIED to the program's text (the seventh form; the later family's looks); each row that meets fmt, with fmt's text TOLD by the authors' own Lean function (tested against real Go, not proved from fmt's source: count such statements apart). THE CARD IS WHAT COUNTS. Prove the row's statement (the work); the ties are given (YtiamkhhnnlgemaaDoorTie.lean); close each card by the builder's one call (the guide's Derived/Test/ToyasCard.lean, 'card_holds'). Laid BY PROGRAM, IN A SANDBOX (cutbox-door.mjs). By AI agents, Wed Nov 11 2026. No macro, syntax, notation, axiom, sorry.
-/
import Derived.Test.YtiamkhhnnlgemaaDoorRows
import GoSem.ClaimSeven
namespace Go.Proofs.YtiamkhhnnlgemaaDoor
namespace Rows

/-- THE TIED CARD OF 'stewardlaw19.RingBuilds'. -/
def ringBuildsCard : Claim7 := { stood := { row := ringBuildsRow, standIns := [], harness := (true, "61fd82f5d1609ce8fff0a8176b91aad95c639ddbb436b490f8dc165dc6ad300f"), looks := false }, kinds := [], alts := [], laidByText := true, laidKinds := [.data, .data, .data], laidTests := true, laidLooks := .later }
def RingBuildsCardSaid : Prop := Claim7.holds Tryd.pinned (.plain (OpenSpec.ofChange ringBuildsSpec)) ringBuildsCard

/-- THE TIED CARD OF 'stewardlaw19.RingOrder'. -/
def ringOrderCard : Claim7 := { stood := { row := ringOrderRow, standIns := [], harness := (true, "61fd82f5d1609ce8fff0a8176b91aad95c639ddbb436b490f8dc165dc6ad300f"), looks := false }, kinds := [], alts := [], laidByText := true, laidKinds := [.data, .data, .data], laidTests := true, laidLooks := .later }
def RingOrderCardSaid : Prop := Claim7.holds Tryd.pinned (.plain (OpenSpec.ofChange ringOrderSpec)) ringOrderCard

/-- THE TIED CARD OF 'stewardlaw19.RingPicks'. -/
def ringPicksCard : Claim7 := { stood := { row := ringPicksRow, standIns := [], harness := (true, "61fd82f5d1609ce8fff0a8176b91aad95c639ddbb436b490f8dc165dc6ad300f"), looks := false }, kinds := [], alts := [], laidByText := true, laidKinds := [.data, .data, .data], laidTests := true, laidLooks := .later }
def RingPicksCardSaid : Prop := Claim7.holds Tryd.pinned (.plain (OpenSpec.ofChange ringPicksSpec)) ringPicksCard

/-- THE TIED CARD OF 'stewardlaw19.RingLittle'. -/
def ringLittleCard : Claim7 := { stood := { row := ringLittleRow, standIns := [], harness := (true, "61fd82f5d1609ce8fff0a8176b91aad95c639ddbb436b490f8dc165dc6ad300f"), looks := false }, kinds := [], alts := [], laidByText := true, laidKinds := [.data, .data, .data], laidTests := true, laidLooks := .later }
def RingLittleCardSaid : Prop := Claim7.holds Tryd.pinned (.plain (OpenSpec.ofChange ringLittleSpec)) ringLittleCard

/-- THE SECOND FORM's CARD OF 'stewardlaw19.RingBuilds'. -/
def ringBuildsUptoCard : Claim7 := { stood := { row := ringBuildsUptoRow, standIns := [], harness := (true, "61fd82f5d1609ce8fff0a8176b91aad95c639ddbb436b490f8dc165dc6ad300f"), looks := false }, kinds := [], alts := [], laidByText := true, laidKinds := [.data, .data, .data], laidTests := true, laidLooks := .later }
def RingBuildsUptoCardSaid : Prop := Claim7.holds Tryd.pinned (.plain (OpenSpec.upto ringBuildsSpec)) ringBuildsUptoCard

/-- THE SECOND FORM's CARD OF 'stewardlaw19.RingOrder'. -/
def ringOrderUptoCard : Claim7 := { stood := { row := ringOrderUptoRow, standIns := [], harness := (true, "61fd82f5d1609ce8fff0a8176b91aad95c639ddbb436b490f8dc165dc6ad300f"), looks := false }, kinds := [], alts := [], laidByText := true, laidKinds := [.data, .data, .data], laidTests := true, laidLooks := .later }
def RingOrderUptoCardSaid : Prop := Claim7.holds Tryd.pinned (.plain (OpenSpec.upto ringOrderSpec)) ringOrderUptoCard

/-- THE SECOND FORM's CARD OF 'stewardlaw19.RingPicks'. -/
def ringPicksUptoCard : Claim7 := { stood := { row := ringPicksUptoRow, standIns := [], harness := (true, "61fd82f5d1609ce8fff0a8176b91aad95c639ddbb436b490f8dc165dc6ad300f"), looks := false }, kinds := [], alts := [], laidByText := true, laidKinds := [.data, .data, .data], laidTests := true, laidLooks := .later }
def RingPicksUptoCardSaid : Prop := Claim7.holds Tryd.pinned (.plain (OpenSpec.upto ringPicksSpec)) ringPicksUptoCard

/-- THE SECOND FORM's CARD OF 'stewardlaw19.RingLittle'. -/
def ringLittleUptoCard : Claim7 := { stood := { row := ringLittleUptoRow, standIns := [], harness := (true, "61fd82f5d1609ce8fff0a8176b91aad95c639ddbb436b490f8dc165dc6ad300f"), looks := false }, kinds := [], alts := [], laidByText := true, laidKinds := [.data, .data, .data], laidTests := true, laidLooks := .later }
def RingLittleUptoCardSaid : Prop := Claim7.holds Tryd.pinned (.plain (OpenSpec.upto ringLittleSpec)) ringLittleUptoCard
end Rows
end Go.Proofs.YtiamkhhnnlgemaaDoor
