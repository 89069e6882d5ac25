/-
  DERIVED. GIVEN WITH THE SEED: THE CARDS: each row of YtdglbpjgadjnjaaDoorRows.lean that lists a variable, with what it lists TIED to the program's text (the seventh form; the later family's looks); each row that meets fmt, with fmt's text TOLD by the authors' own Lean function (tested against real Go, not proved from fmt's source: count such statements apart). THE CARD IS WHAT COUNTS. Prove the row's statement (the work); the ties are given (YtdglbpjgadjnjaaDoorTie.lean); close each card by the builder's one call (the guide's Derived/Test/ToyasCard.lean, 'card_holds'). Laid BY PROGRAM, IN A SANDBOX (cutbox-door.mjs). By AI agents, Wed Nov 11 2026. No macro, syntax, notation, axiom, sorry.
-/
import Derived.Test.YtdglbpjgadjnjaaDoorRows
import GoSem.ClaimSeven
namespace Go.Proofs.YtdglbpjgadjnjaaDoor
namespace Rows

/-- THE TIED CARD OF 'stewardtop.StewardFramed'. -/
def stewardFramedCard : Claim7 := { stood := { row := stewardFramedRow, standIns := [], harness := (true, "88b035dc5c3b497da6d675fcdef651fed6fcf985e787ea53be8a13c61e465c6f"), looks := true }, kinds := [], alts := [], laidByText := true, laidKinds := [.data, .data, .data, .data, .sentinel, .sentinel, .pinned], laidTests := true, laidLooks := .later }
def StewardFramedCardSaid : Prop := Claim7.holds Tryd.pinned (.plain (OpenSpec.ofChange stewardFramedSpec)) stewardFramedCard

/-- THE SECOND FORM's CARD OF 'stewardtop.StewardFramed'. -/
def stewardFramedUptoCard : Claim7 := { stood := { row := stewardFramedUptoRow, standIns := [], harness := (true, "88b035dc5c3b497da6d675fcdef651fed6fcf985e787ea53be8a13c61e465c6f"), looks := true }, kinds := [], alts := [], laidByText := true, laidKinds := [.data, .data, .data, .data, .sentinel, .sentinel, .pinned], laidTests := true, laidLooks := .later }
def StewardFramedUptoCardSaid : Prop := Claim7.holds Tryd.pinned (.plain (OpenSpec.upto stewardFramedSpec)) stewardFramedUptoCard
end Rows
end Go.Proofs.YtdglbpjgadjnjaaDoor
