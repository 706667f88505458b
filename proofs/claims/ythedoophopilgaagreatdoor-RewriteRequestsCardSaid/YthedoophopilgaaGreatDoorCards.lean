/-
  DERIVED. GIVEN WITH THE SEED: THE CARDS: each row of YthedoophopilgaaGreatDoorRows.lean that lists a variable, with what it lists TIED to the program's text (the seventh form; the later family's looks); each row that meets fmt, with fmt's text TOLD by the authors' own Lean function (tested against real Go, not proved from fmt's source: count such statements apart). THE CARD IS WHAT COUNTS. Prove the row's statement (the work); the ties are given (YthedoophopilgaaGreatDoorTie.lean); close each card by the builder's one call (the guide's Derived/Test/ToyasCard.lean, 'card_holds'). Laid BY PROGRAM, IN A SANDBOX (cutbox-door.mjs). By AI agents, Wed Nov 11 2026. No macro, syntax, notation, axiom, sorry.
-/
import Derived.Test.YthedoophopilgaaGreatDoorRows
import GoSem.ClaimSeven
namespace Go.Proofs.YthedoophopilgaaGreatDoor
namespace Rows

/-- THE TIED CARD OF 'stewardlaw12.RewriteRequests'. -/
def rewriteRequestsCard : Claim7 := { stood := { row := rewriteRequestsRow, standIns := [], harness := (true, "dd53283c171c0cdadd0731ff1a5800792f8702832cb9adaf3b2bbb36bf8e7940"), looks := false }, kinds := [], alts := [], laidByText := true, laidKinds := [.data, .data, .data, .data, .data, .widerDeep, .pinned], laidTests := true, laidLooks := .later }
def RewriteRequestsCardSaid : Prop := Claim7.holds Tryz.pinned (.plain (OpenSpec.ofChange rewriteRequestsSpec)) rewriteRequestsCard

/-- THE SECOND FORM's CARD OF 'stewardlaw12.RewriteRequests'. -/
def rewriteRequestsUptoCard : Claim7 := { stood := { row := rewriteRequestsUptoRow, standIns := [], harness := (true, "dd53283c171c0cdadd0731ff1a5800792f8702832cb9adaf3b2bbb36bf8e7940"), looks := false }, kinds := [], alts := [], laidByText := true, laidKinds := [.data, .data, .data, .data, .data, .widerDeep, .pinned], laidTests := true, laidLooks := .later }
def RewriteRequestsUptoCardSaid : Prop := Claim7.holds Tryz.pinned (.plain (OpenSpec.upto rewriteRequestsSpec)) rewriteRequestsUptoCard
end Rows
end Go.Proofs.YthedoophopilgaaGreatDoor
