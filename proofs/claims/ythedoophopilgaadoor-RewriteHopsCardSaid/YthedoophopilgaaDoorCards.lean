/-
  DERIVED. GIVEN WITH THE SEED: THE CARDS: each row of YthedoophopilgaaDoorRows.lean that lists a variable, with what it lists TIED to the program's text (the seventh form; the later family's looks); each row that meets fmt, with fmt's text TOLD by the authors' own Lean function (tested against real Go, not proved from fmt's source: count such statements apart). THE CARD IS WHAT COUNTS. Prove the row's statement (the work); the ties are given (YthedoophopilgaaDoorTie.lean); close each card by the builder's one call (the guide's Derived/Test/ToyasCard.lean, 'card_holds'). Laid BY PROGRAM, IN A SANDBOX (cutbox-door.mjs). By AI agents, Wed Nov 11 2026. No macro, syntax, notation, axiom, sorry.
-/
import Derived.Test.YthedoophopilgaaDoorRows
import GoSem.ClaimSeven
namespace Go.Proofs.YthedoophopilgaaDoor
namespace Rows

/-- THE TIED CARD OF 'stewardlaw12.RewriteHops'. -/
def rewriteHopsCard : Claim7 := { stood := { row := rewriteHopsRow, standIns := [], harness := (true, "1a2cb35e851c0e8f98602f83267b75966953cd4dfd098a8edcffc8e19205ed8a"), looks := false }, kinds := [], alts := [], laidByText := true, laidKinds := [.data, .data, .data, .data, .data, .widerDeep, .pinned], laidTests := true, laidLooks := .later }
def RewriteHopsCardSaid : Prop := Claim7.holds Tryd.pinned (.plain (OpenSpec.ofChange rewriteHopsSpec)) rewriteHopsCard

/-- THE SECOND FORM's CARD OF 'stewardlaw12.RewriteHops'. -/
def rewriteHopsUptoCard : Claim7 := { stood := { row := rewriteHopsUptoRow, standIns := [], harness := (true, "1a2cb35e851c0e8f98602f83267b75966953cd4dfd098a8edcffc8e19205ed8a"), looks := false }, kinds := [], alts := [], laidByText := true, laidKinds := [.data, .data, .data, .data, .data, .widerDeep, .pinned], laidTests := true, laidLooks := .later }
def RewriteHopsUptoCardSaid : Prop := Claim7.holds Tryd.pinned (.plain (OpenSpec.upto rewriteHopsSpec)) rewriteHopsUptoCard
end Rows
end Go.Proofs.YthedoophopilgaaDoor
