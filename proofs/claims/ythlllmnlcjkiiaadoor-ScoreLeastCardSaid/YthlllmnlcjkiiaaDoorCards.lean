/-
  DERIVED. GIVEN WITH THE SEED: THE CARDS: each row of YthlllmnlcjkiiaaDoorRows.lean that lists a variable, with what it lists TIED to the program's text (the seventh form; the later family's looks); each row that meets fmt, with fmt's text TOLD by the authors' own Lean function (tested against real Go, not proved from fmt's source: count such statements apart). THE CARD IS WHAT COUNTS. Prove the row's statement (the work); the ties are given (YthlllmnlcjkiiaaDoorTie.lean); close each card by the builder's one call (the guide's Derived/Test/ToyasCard.lean, 'card_holds'). Laid BY PROGRAM, IN A SANDBOX (cutbox-door.mjs). By AI agents, Wed Nov 11 2026. No macro, syntax, notation, axiom, sorry.
-/
import Derived.Test.YthlllmnlcjkiiaaDoorRows
import GoSem.ClaimSeven
namespace Go.Proofs.YthlllmnlcjkiiaaDoor
namespace Rows

/-- THE TIED CARD OF 'stewardlaw13.ScoreOrders'. -/
def scoreOrdersCard : Claim7 := { stood := { row := scoreOrdersRow, standIns := [], harness := (true, "214201efcecbead52714fd7e932eb8db032bbad4b8c3dbd5331bfbf1b47d9caf"), looks := false }, kinds := [], alts := [], laidByText := true, laidKinds := [.data, .data, .data, .data, .pinned, .pinned], laidTests := true, laidLooks := .later }
def ScoreOrdersCardSaid : Prop := Claim7.holds Tryd.pinned (.plain (OpenSpec.ofChange scoreOrdersSpec)) scoreOrdersCard

/-- THE TIED CARD OF 'stewardlaw13.ScoreLeast'. -/
def scoreLeastCard : Claim7 := { stood := { row := scoreLeastRow, standIns := [], harness := (true, "214201efcecbead52714fd7e932eb8db032bbad4b8c3dbd5331bfbf1b47d9caf"), looks := false }, kinds := [], alts := [], laidByText := true, laidKinds := [.data, .data, .data, .data, .pinned, .pinned], laidTests := true, laidLooks := .later }
def ScoreLeastCardSaid : Prop := Claim7.holds Tryd.pinned (.plain (OpenSpec.ofChange scoreLeastSpec)) scoreLeastCard

/-- THE TIED CARD OF 'stewardlaw13.ScoreMeans'. -/
def scoreMeansCard : Claim7 := { stood := { row := scoreMeansRow, standIns := [], harness := (true, "214201efcecbead52714fd7e932eb8db032bbad4b8c3dbd5331bfbf1b47d9caf"), looks := false }, kinds := [], alts := [], laidByText := true, laidKinds := [.data, .data, .data, .data, .pinned, .pinned], laidTests := true, laidLooks := .later }
def ScoreMeansCardSaid : Prop := Claim7.holds Tryd.pinned (.plain (OpenSpec.ofChange scoreMeansSpec)) scoreMeansCard

/-- THE TIED CARD OF 'stewardlaw13.ScoreHalves'. -/
def scoreHalvesCard : Claim7 := { stood := { row := scoreHalvesRow, standIns := [], harness := (true, "214201efcecbead52714fd7e932eb8db032bbad4b8c3dbd5331bfbf1b47d9caf"), looks := false }, kinds := [], alts := [], laidByText := true, laidKinds := [.data, .data, .data, .data, .pinned, .pinned], laidTests := true, laidLooks := .later }
def ScoreHalvesCardSaid : Prop := Claim7.holds Tryd.pinned (.plain (OpenSpec.ofChange scoreHalvesSpec)) scoreHalvesCard

/-- THE TIED CARD OF 'stewardlaw13.ScoreTexts'. -/
def scoreTextsCard : Claim7 := { stood := { row := scoreTextsRow, standIns := [], harness := (true, "214201efcecbead52714fd7e932eb8db032bbad4b8c3dbd5331bfbf1b47d9caf"), looks := false }, kinds := [], alts := [], laidByText := true, laidKinds := [.data, .data, .data, .data, .pinned, .pinned], laidTests := true, laidLooks := .later }
def ScoreTextsCardSaid : Prop := Claim7.holds Tryd.pinned (.plain (OpenSpec.ofChange scoreTextsSpec)) scoreTextsCard

/-- THE SECOND FORM's CARD OF 'stewardlaw13.ScoreOrders'. -/
def scoreOrdersUptoCard : Claim7 := { stood := { row := scoreOrdersUptoRow, standIns := [], harness := (true, "214201efcecbead52714fd7e932eb8db032bbad4b8c3dbd5331bfbf1b47d9caf"), looks := false }, kinds := [], alts := [], laidByText := true, laidKinds := [.data, .data, .data, .data, .pinned, .pinned], laidTests := true, laidLooks := .later }
def ScoreOrdersUptoCardSaid : Prop := Claim7.holds Tryd.pinned (.plain (OpenSpec.upto scoreOrdersSpec)) scoreOrdersUptoCard

/-- THE SECOND FORM's CARD OF 'stewardlaw13.ScoreLeast'. -/
def scoreLeastUptoCard : Claim7 := { stood := { row := scoreLeastUptoRow, standIns := [], harness := (true, "214201efcecbead52714fd7e932eb8db032bbad4b8c3dbd5331bfbf1b47d9caf"), looks := false }, kinds := [], alts := [], laidByText := true, laidKinds := [.data, .data, .data, .data, .pinned, .pinned], laidTests := true, laidLooks := .later }
def ScoreLeastUptoCardSaid : Prop := Claim7.holds Tryd.pinned (.plain (OpenSpec.upto scoreLeastSpec)) scoreLeastUptoCard

/-- THE SECOND FORM's CARD OF 'stewardlaw13.ScoreMeans'. -/
def scoreMeansUptoCard : Claim7 := { stood := { row := scoreMeansUptoRow, standIns := [], harness := (true, "214201efcecbead52714fd7e932eb8db032bbad4b8c3dbd5331bfbf1b47d9caf"), looks := false }, kinds := [], alts := [], laidByText := true, laidKinds := [.data, .data, .data, .data, .pinned, .pinned], laidTests := true, laidLooks := .later }
def ScoreMeansUptoCardSaid : Prop := Claim7.holds Tryd.pinned (.plain (OpenSpec.upto scoreMeansSpec)) scoreMeansUptoCard

/-- THE SECOND FORM's CARD OF 'stewardlaw13.ScoreHalves'. -/
def scoreHalvesUptoCard : Claim7 := { stood := { row := scoreHalvesUptoRow, standIns := [], harness := (true, "214201efcecbead52714fd7e932eb8db032bbad4b8c3dbd5331bfbf1b47d9caf"), looks := false }, kinds := [], alts := [], laidByText := true, laidKinds := [.data, .data, .data, .data, .pinned, .pinned], laidTests := true, laidLooks := .later }
def ScoreHalvesUptoCardSaid : Prop := Claim7.holds Tryd.pinned (.plain (OpenSpec.upto scoreHalvesSpec)) scoreHalvesUptoCard

/-- THE SECOND FORM's CARD OF 'stewardlaw13.ScoreTexts'. -/
def scoreTextsUptoCard : Claim7 := { stood := { row := scoreTextsUptoRow, standIns := [], harness := (true, "214201efcecbead52714fd7e932eb8db032bbad4b8c3dbd5331bfbf1b47d9caf"), looks := false }, kinds := [], alts := [], laidByText := true, laidKinds := [.data, .data, .data, .data, .pinned, .pinned], laidTests := true, laidLooks := .later }
def ScoreTextsUptoCardSaid : Prop := Claim7.holds Tryd.pinned (.plain (OpenSpec.upto scoreTextsSpec)) scoreTextsUptoCard
end Rows
end Go.Proofs.YthlllmnlcjkiiaaDoor
