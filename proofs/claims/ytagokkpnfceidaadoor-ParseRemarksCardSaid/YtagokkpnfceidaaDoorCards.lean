/-
  DERIVED. GIVEN WITH THE SEED: THE CARDS: each row of YtagokkpnfceidaaDoorRows.lean that lists a variable, with what it lists TIED to the program's text (the seventh form; the later family's looks); each row that meets fmt, with fmt's text TOLD by the authors' own Lean function (tested against real Go, not proved from fmt's source: count such statements apart). THE CARD IS WHAT COUNTS. Prove the row's statement (the work); the ties are given (YtagokkpnfceidaaDoorTie.lean); close each card by the builder's one call (the guide's Derived/Test/ToyasCard.lean, 'card_holds'). Laid BY PROGRAM, IN A SANDBOX (cutbox-door.mjs). By AI agents, Wed Nov 11 2026. No macro, syntax, notation, axiom, sorry.
-/
import Derived.Test.YtagokkpnfceidaaDoorRows
import GoSem.ClaimSeven
namespace Go.Proofs.YtagokkpnfceidaaDoor
namespace Rows

/-- THE TIED CARD OF 'nunciolaw09.FoldWrites'. -/
def foldWritesCard : Claim7 := { stood := { row := foldWritesRow, standIns := [], harness := (true, "e223de49d1bbbce65b197cdbd0d8361dd8781a1917e54ab3fe65b8ceb1e69a1d"), looks := true }, kinds := [], alts := [], laidByText := true, laidKinds := [.data, .data, .pinned], laidTests := true, laidLooks := .later }
def FoldWritesCardSaid : Prop := Claim7.holds Tryd.pinned (.plain (OpenSpec.ofChange foldWritesSpec)) foldWritesCard

/-- THE TIED CARD OF 'nunciolaw09.FoldReads'. -/
def foldReadsCard : Claim7 := { stood := { row := foldReadsRow, standIns := [], harness := (true, "e223de49d1bbbce65b197cdbd0d8361dd8781a1917e54ab3fe65b8ceb1e69a1d"), looks := true }, kinds := [], alts := [], laidByText := true, laidKinds := [.data, .data, .pinned], laidTests := true, laidLooks := .later }
def FoldReadsCardSaid : Prop := Claim7.holds Tryd.pinned (.plain (OpenSpec.ofChange foldReadsSpec)) foldReadsCard

/-- THE TIED CARD OF 'nunciolaw09.FoldBack'. -/
def foldBackCard : Claim7 := { stood := { row := foldBackRow, standIns := [], harness := (true, "e223de49d1bbbce65b197cdbd0d8361dd8781a1917e54ab3fe65b8ceb1e69a1d"), looks := true }, kinds := [], alts := [], laidByText := true, laidKinds := [.data, .data, .pinned], laidTests := true, laidLooks := .later }
def FoldBackCardSaid : Prop := Claim7.holds Tryd.pinned (.plain (OpenSpec.ofChange foldBackSpec)) foldBackCard

/-- THE TIED CARD OF 'nunciolaw09.FoldLines'. -/
def foldLinesCard : Claim7 := { stood := { row := foldLinesRow, standIns := [], harness := (true, "e223de49d1bbbce65b197cdbd0d8361dd8781a1917e54ab3fe65b8ceb1e69a1d"), looks := true }, kinds := [], alts := [], laidByText := true, laidKinds := [.data, .data, .pinned], laidTests := true, laidLooks := .later }
def FoldLinesCardSaid : Prop := Claim7.holds Tryd.pinned (.plain (OpenSpec.ofChange foldLinesSpec)) foldLinesCard

/-- THE TIED CARD OF 'nunciolaw20.ParseBack'. -/
def parseBackCard : Claim7 := { stood := { row := parseBackRow, standIns := [], harness := (true, "e223de49d1bbbce65b197cdbd0d8361dd8781a1917e54ab3fe65b8ceb1e69a1d"), looks := true }, kinds := [], alts := [], laidByText := true, laidKinds := [.data, .pinned], laidTests := true, laidLooks := .later }
def ParseBackCardSaid : Prop := Claim7.holds Tryd.pinned (.plain (OpenSpec.ofChange parseBackSpec)) parseBackCard

/-- THE TIED CARD OF 'nunciolaw20.ParseRemarks'. -/
def parseRemarksCard : Claim7 := { stood := { row := parseRemarksRow, standIns := [], harness := (true, "e223de49d1bbbce65b197cdbd0d8361dd8781a1917e54ab3fe65b8ceb1e69a1d"), looks := true }, kinds := [], alts := [], laidByText := true, laidKinds := [.data, .pinned], laidTests := true, laidLooks := .later }
def ParseRemarksCardSaid : Prop := Claim7.holds Tryd.pinned (.plain (OpenSpec.ofChange parseRemarksSpec)) parseRemarksCard

/-- THE SECOND FORM's CARD OF 'nunciolaw09.FoldWrites'. -/
def foldWritesUptoCard : Claim7 := { stood := { row := foldWritesUptoRow, standIns := [], harness := (true, "e223de49d1bbbce65b197cdbd0d8361dd8781a1917e54ab3fe65b8ceb1e69a1d"), looks := true }, kinds := [], alts := [], laidByText := true, laidKinds := [.data, .data, .pinned], laidTests := true, laidLooks := .later }
def FoldWritesUptoCardSaid : Prop := Claim7.holds Tryd.pinned (.plain (OpenSpec.upto foldWritesSpec)) foldWritesUptoCard

/-- THE SECOND FORM's CARD OF 'nunciolaw09.FoldReads'. -/
def foldReadsUptoCard : Claim7 := { stood := { row := foldReadsUptoRow, standIns := [], harness := (true, "e223de49d1bbbce65b197cdbd0d8361dd8781a1917e54ab3fe65b8ceb1e69a1d"), looks := true }, kinds := [], alts := [], laidByText := true, laidKinds := [.data, .data, .pinned], laidTests := true, laidLooks := .later }
def FoldReadsUptoCardSaid : Prop := Claim7.holds Tryd.pinned (.plain (OpenSpec.upto foldReadsSpec)) foldReadsUptoCard

/-- THE SECOND FORM's CARD OF 'nunciolaw09.FoldBack'. -/
def foldBackUptoCard : Claim7 := { stood := { row := foldBackUptoRow, standIns := [], harness := (true, "e223de49d1bbbce65b197cdbd0d8361dd8781a1917e54ab3fe65b8ceb1e69a1d"), looks := true }, kinds := [], alts := [], laidByText := true, laidKinds := [.data, .data, .pinned], laidTests := true, laidLooks := .later }
def FoldBackUptoCardSaid : Prop := Claim7.holds Tryd.pinned (.plain (OpenSpec.upto foldBackSpec)) foldBackUptoCard

/-- THE SECOND FORM's CARD OF 'nunciolaw09.FoldLines'. -/
def foldLinesUptoCard : Claim7 := { stood := { row := foldLinesUptoRow, standIns := [], harness := (true, "e223de49d1bbbce65b197cdbd0d8361dd8781a1917e54ab3fe65b8ceb1e69a1d"), looks := true }, kinds := [], alts := [], laidByText := true, laidKinds := [.data, .data, .pinned], laidTests := true, laidLooks := .later }
def FoldLinesUptoCardSaid : Prop := Claim7.holds Tryd.pinned (.plain (OpenSpec.upto foldLinesSpec)) foldLinesUptoCard

/-- THE SECOND FORM's CARD OF 'nunciolaw20.ParseBack'. -/
def parseBackUptoCard : Claim7 := { stood := { row := parseBackUptoRow, standIns := [], harness := (true, "e223de49d1bbbce65b197cdbd0d8361dd8781a1917e54ab3fe65b8ceb1e69a1d"), looks := true }, kinds := [], alts := [], laidByText := true, laidKinds := [.data, .pinned], laidTests := true, laidLooks := .later }
def ParseBackUptoCardSaid : Prop := Claim7.holds Tryd.pinned (.plain (OpenSpec.upto parseBackSpec)) parseBackUptoCard

/-- THE SECOND FORM's CARD OF 'nunciolaw20.ParseRemarks'. -/
def parseRemarksUptoCard : Claim7 := { stood := { row := parseRemarksUptoRow, standIns := [], harness := (true, "e223de49d1bbbce65b197cdbd0d8361dd8781a1917e54ab3fe65b8ceb1e69a1d"), looks := true }, kinds := [], alts := [], laidByText := true, laidKinds := [.data, .pinned], laidTests := true, laidLooks := .later }
def ParseRemarksUptoCardSaid : Prop := Claim7.holds Tryd.pinned (.plain (OpenSpec.upto parseRemarksSpec)) parseRemarksUptoCard
end Rows
end Go.Proofs.YtagokkpnfceidaaDoor
