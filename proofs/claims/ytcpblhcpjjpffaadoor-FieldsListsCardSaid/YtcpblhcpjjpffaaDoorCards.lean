/-
  DERIVED. GIVEN WITH THE SEED: THE CARDS: each row of YtcpblhcpjjpffaaDoorRows.lean that lists a variable, with what it lists TIED to the program's text (the seventh form; the later family's looks); each row that meets fmt, with fmt's text TOLD by the authors' own Lean function (tested against real Go, not proved from fmt's source: count such statements apart). THE CARD IS WHAT COUNTS. Prove the row's statement (the work); the ties are given (YtcpblhcpjjpffaaDoorTie.lean); close each card by the builder's one call (the guide's Derived/Test/ToyasCard.lean, 'card_holds'). Laid BY PROGRAM, IN A SANDBOX (cutbox-door.mjs). By AI agents, Wed Nov 11 2026. No macro, syntax, notation, axiom, sorry.
-/
import Derived.Test.YtcpblhcpjjpffaaDoorRows
import GoSem.ClaimSeven
namespace Go.Proofs.YtcpblhcpjjpffaaDoor
namespace Rows

/-- THE TIED CARD OF 'stewardlaw06.FieldsParse'. -/
def fieldsParseCard : Claim7 := { stood := { row := fieldsParseRow, standIns := [], harness := (true, "07aeda8488bf1b29e14108cb255592e0db00c5bbf6a893d9358bce01a10e3f89"), looks := true }, kinds := [], alts := [], laidByText := true, laidKinds := [.data, .pinned], laidTests := true, laidLooks := .later }
def FieldsParseCardSaid : Prop := Claim7.holds Tryd.pinned (.plain (OpenSpec.ofChange fieldsParseSpec)) fieldsParseCard

/-- THE TIED CARD OF 'stewardlaw06.FieldsDrops'. -/
def fieldsDropsCard : Claim7 := { stood := { row := fieldsDropsRow, standIns := [], harness := (true, "07aeda8488bf1b29e14108cb255592e0db00c5bbf6a893d9358bce01a10e3f89"), looks := true }, kinds := [], alts := [], laidByText := true, laidKinds := [.data, .pinned], laidTests := true, laidLooks := .later }
def FieldsDropsCardSaid : Prop := Claim7.holds Tryd.pinned (.plain (OpenSpec.ofChange fieldsDropsSpec)) fieldsDropsCard

/-- THE TIED CARD OF 'stewardlaw06.FieldsSame'. -/
def fieldsSameCard : Claim7 := { stood := { row := fieldsSameRow, standIns := [], harness := (true, "07aeda8488bf1b29e14108cb255592e0db00c5bbf6a893d9358bce01a10e3f89"), looks := true }, kinds := [], alts := [], laidByText := true, laidKinds := [.data, .pinned], laidTests := true, laidLooks := .later }
def FieldsSameCardSaid : Prop := Claim7.holds Tryd.pinned (.plain (OpenSpec.ofChange fieldsSameSpec)) fieldsSameCard

/-- THE TIED CARD OF 'stewardlaw09.ChunkedDecodes'. -/
def chunkedDecodesCard : Claim7 := { stood := { row := chunkedDecodesRow, standIns := [], harness := (true, "07aeda8488bf1b29e14108cb255592e0db00c5bbf6a893d9358bce01a10e3f89"), looks := true }, kinds := [], alts := [], laidByText := true, laidKinds := [.data, .data, .data, .sentinel, .sentinel], laidTests := true, laidLooks := .later }
def ChunkedDecodesCardSaid : Prop := Claim7.holds Tryd.pinned (.plain (OpenSpec.ofChange chunkedDecodesSpec)) chunkedDecodesCard

/-- THE TIED CARD OF 'stewardlaw09.ChunkedBack'. -/
def chunkedBackCard : Claim7 := { stood := { row := chunkedBackRow, standIns := [], harness := (true, "07aeda8488bf1b29e14108cb255592e0db00c5bbf6a893d9358bce01a10e3f89"), looks := true }, kinds := [], alts := [], laidByText := true, laidKinds := [.data, .data, .data, .sentinel, .sentinel], laidTests := true, laidLooks := .later }
def ChunkedBackCardSaid : Prop := Claim7.holds Tryd.pinned (.plain (OpenSpec.ofChange chunkedBackSpec)) chunkedBackCard

/-- THE TIED CARD OF 'stewardlaw09.ChunkedBig'. -/
def chunkedBigCard : Claim7 := { stood := { row := chunkedBigRow, standIns := [], harness := (true, "07aeda8488bf1b29e14108cb255592e0db00c5bbf6a893d9358bce01a10e3f89"), looks := true }, kinds := [], alts := [], laidByText := true, laidKinds := [.data, .data, .data, .sentinel, .sentinel], laidTests := true, laidLooks := .later }
def ChunkedBigCardSaid : Prop := Claim7.holds Tryd.pinned (.plain (OpenSpec.ofChange chunkedBigSpec)) chunkedBigCard

/-- THE TIED CARD OF 'stewardlaw06.FieldsLists'. -/
def fieldsListsCard : Claim7 := { stood := { row := fieldsListsRow, standIns := [], harness := (true, "07aeda8488bf1b29e14108cb255592e0db00c5bbf6a893d9358bce01a10e3f89"), looks := true }, kinds := [], alts := [], laidByText := true, laidKinds := [.data, .pinned], laidTests := true, laidLooks := .later }
def FieldsListsCardSaid : Prop := Claim7.holds Tryd.pinned (.plain (OpenSpec.ofChange fieldsListsSpec)) fieldsListsCard

/-- THE SECOND FORM's CARD OF 'stewardlaw06.FieldsParse'. -/
def fieldsParseUptoCard : Claim7 := { stood := { row := fieldsParseUptoRow, standIns := [], harness := (true, "07aeda8488bf1b29e14108cb255592e0db00c5bbf6a893d9358bce01a10e3f89"), looks := true }, kinds := [], alts := [], laidByText := true, laidKinds := [.data, .pinned], laidTests := true, laidLooks := .later }
def FieldsParseUptoCardSaid : Prop := Claim7.holds Tryd.pinned (.plain (OpenSpec.upto fieldsParseSpec)) fieldsParseUptoCard

/-- THE SECOND FORM's CARD OF 'stewardlaw06.FieldsDrops'. -/
def fieldsDropsUptoCard : Claim7 := { stood := { row := fieldsDropsUptoRow, standIns := [], harness := (true, "07aeda8488bf1b29e14108cb255592e0db00c5bbf6a893d9358bce01a10e3f89"), looks := true }, kinds := [], alts := [], laidByText := true, laidKinds := [.data, .pinned], laidTests := true, laidLooks := .later }
def FieldsDropsUptoCardSaid : Prop := Claim7.holds Tryd.pinned (.plain (OpenSpec.upto fieldsDropsSpec)) fieldsDropsUptoCard

/-- THE SECOND FORM's CARD OF 'stewardlaw06.FieldsSame'. -/
def fieldsSameUptoCard : Claim7 := { stood := { row := fieldsSameUptoRow, standIns := [], harness := (true, "07aeda8488bf1b29e14108cb255592e0db00c5bbf6a893d9358bce01a10e3f89"), looks := true }, kinds := [], alts := [], laidByText := true, laidKinds := [.data, .pinned], laidTests := true, laidLooks := .later }
def FieldsSameUptoCardSaid : Prop := Claim7.holds Tryd.pinned (.plain (OpenSpec.upto fieldsSameSpec)) fieldsSameUptoCard

/-- THE SECOND FORM's CARD OF 'stewardlaw09.ChunkedDecodes'. -/
def chunkedDecodesUptoCard : Claim7 := { stood := { row := chunkedDecodesUptoRow, standIns := [], harness := (true, "07aeda8488bf1b29e14108cb255592e0db00c5bbf6a893d9358bce01a10e3f89"), looks := true }, kinds := [], alts := [], laidByText := true, laidKinds := [.data, .data, .data, .sentinel, .sentinel], laidTests := true, laidLooks := .later }
def ChunkedDecodesUptoCardSaid : Prop := Claim7.holds Tryd.pinned (.plain (OpenSpec.upto chunkedDecodesSpec)) chunkedDecodesUptoCard

/-- THE SECOND FORM's CARD OF 'stewardlaw09.ChunkedBack'. -/
def chunkedBackUptoCard : Claim7 := { stood := { row := chunkedBackUptoRow, standIns := [], harness := (true, "07aeda8488bf1b29e14108cb255592e0db00c5bbf6a893d9358bce01a10e3f89"), looks := true }, kinds := [], alts := [], laidByText := true, laidKinds := [.data, .data, .data, .sentinel, .sentinel], laidTests := true, laidLooks := .later }
def ChunkedBackUptoCardSaid : Prop := Claim7.holds Tryd.pinned (.plain (OpenSpec.upto chunkedBackSpec)) chunkedBackUptoCard

/-- THE SECOND FORM's CARD OF 'stewardlaw09.ChunkedBig'. -/
def chunkedBigUptoCard : Claim7 := { stood := { row := chunkedBigUptoRow, standIns := [], harness := (true, "07aeda8488bf1b29e14108cb255592e0db00c5bbf6a893d9358bce01a10e3f89"), looks := true }, kinds := [], alts := [], laidByText := true, laidKinds := [.data, .data, .data, .sentinel, .sentinel], laidTests := true, laidLooks := .later }
def ChunkedBigUptoCardSaid : Prop := Claim7.holds Tryd.pinned (.plain (OpenSpec.upto chunkedBigSpec)) chunkedBigUptoCard

/-- THE SECOND FORM's CARD OF 'stewardlaw06.FieldsLists'. -/
def fieldsListsUptoCard : Claim7 := { stood := { row := fieldsListsUptoRow, standIns := [], harness := (true, "07aeda8488bf1b29e14108cb255592e0db00c5bbf6a893d9358bce01a10e3f89"), looks := true }, kinds := [], alts := [], laidByText := true, laidKinds := [.data, .pinned], laidTests := true, laidLooks := .later }
def FieldsListsUptoCardSaid : Prop := Claim7.holds Tryd.pinned (.plain (OpenSpec.upto fieldsListsSpec)) fieldsListsUptoCard
end Rows
end Go.Proofs.YtcpblhcpjjpffaaDoor
