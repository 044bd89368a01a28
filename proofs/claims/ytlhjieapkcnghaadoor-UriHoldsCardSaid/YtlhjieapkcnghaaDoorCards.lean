/-
  DERIVED. GIVEN WITH THE SEED: THE CARDS: each row of YtlhjieapkcnghaaDoorRows.lean that lists a variable, with what it lists TIED to the program's text (the seventh form; the later family's looks); each row that meets fmt, with fmt's text TOLD by the authors' own Lean function (tested against real Go, not proved from fmt's source: count such statements apart). THE CARD IS WHAT COUNTS. Prove the row's statement (the work); the ties are given (YtlhjieapkcnghaaDoorTie.lean); close each card by the builder's one call (the guide's Derived/Test/ToyasCard.lean, 'card_holds'). Laid BY PROGRAM, IN A SANDBOX (cutbox-door.mjs). By AI agents, Wed Nov 11 2026. No macro, syntax, notation, axiom, sorry.
-/
import Derived.Test.YtlhjieapkcnghaaDoorRows
import GoSem.ClaimSeven
namespace Go.Proofs.YtlhjieapkcnghaaDoor
namespace Rows

/-- THE TIED CARD OF 'nunciolaw35.TruncCuts'. -/
def truncCutsCard : Claim7 := { stood := { row := truncCutsRow, standIns := [], harness := (true, "301f65b297946272cf5147e2715b9bdd08f241655c60c9a0bcde8bfac86f7cd2"), looks := false }, kinds := [], alts := [], laidByText := true, laidKinds := [.data, .pinned], laidTests := true, laidLooks := .later }
def TruncCutsCardSaid : Prop := Claim7.holds Tryd.pinned (.plain (OpenSpec.ofChange truncCutsSpec)) truncCutsCard

/-- THE TIED CARD OF 'nunciolaw35.TruncLines'. -/
def truncLinesCard : Claim7 := { stood := { row := truncLinesRow, standIns := [], harness := (true, "301f65b297946272cf5147e2715b9bdd08f241655c60c9a0bcde8bfac86f7cd2"), looks := false }, kinds := [], alts := [], laidByText := true, laidKinds := [.data, .pinned], laidTests := true, laidLooks := .later }
def TruncLinesCardSaid : Prop := Claim7.holds Tryd.pinned (.plain (OpenSpec.ofChange truncLinesSpec)) truncLinesCard

/-- THE TIED CARD OF 'nunciolaw35.TruncMiddles'. -/
def truncMiddlesCard : Claim7 := { stood := { row := truncMiddlesRow, standIns := [], harness := (true, "301f65b297946272cf5147e2715b9bdd08f241655c60c9a0bcde8bfac86f7cd2"), looks := false }, kinds := [], alts := [], laidByText := true, laidKinds := [.data, .pinned], laidTests := true, laidLooks := .later }
def TruncMiddlesCardSaid : Prop := Claim7.holds Tryd.pinned (.plain (OpenSpec.ofChange truncMiddlesSpec)) truncMiddlesCard

/-- THE TIED CARD OF 'nunciolaw12.UriParts'. -/
def uriPartsCard : Claim7 := { stood := { row := uriPartsRow, standIns := [], harness := (true, "301f65b297946272cf5147e2715b9bdd08f241655c60c9a0bcde8bfac86f7cd2"), looks := false }, kinds := [], alts := [], laidByText := true, laidKinds := [.data, .pinned], laidTests := true, laidLooks := .later }
def UriPartsCardSaid : Prop := Claim7.holds Tryd.pinned (.plain (OpenSpec.ofChange uriPartsSpec)) uriPartsCard

/-- THE TIED CARD OF 'nunciolaw12.UriHolds'. -/
def uriHoldsCard : Claim7 := { stood := { row := uriHoldsRow, standIns := [], harness := (true, "301f65b297946272cf5147e2715b9bdd08f241655c60c9a0bcde8bfac86f7cd2"), looks := false }, kinds := [], alts := [], laidByText := true, laidKinds := [.data, .pinned], laidTests := true, laidLooks := .later }
def UriHoldsCardSaid : Prop := Claim7.holds Tryd.pinned (.plain (OpenSpec.ofChange uriHoldsSpec)) uriHoldsCard

/-- THE SECOND FORM's CARD OF 'nunciolaw35.TruncCuts'. -/
def truncCutsUptoCard : Claim7 := { stood := { row := truncCutsUptoRow, standIns := [], harness := (true, "301f65b297946272cf5147e2715b9bdd08f241655c60c9a0bcde8bfac86f7cd2"), looks := false }, kinds := [], alts := [], laidByText := true, laidKinds := [.data, .pinned], laidTests := true, laidLooks := .later }
def TruncCutsUptoCardSaid : Prop := Claim7.holds Tryd.pinned (.plain (OpenSpec.upto truncCutsSpec)) truncCutsUptoCard

/-- THE SECOND FORM's CARD OF 'nunciolaw35.TruncLines'. -/
def truncLinesUptoCard : Claim7 := { stood := { row := truncLinesUptoRow, standIns := [], harness := (true, "301f65b297946272cf5147e2715b9bdd08f241655c60c9a0bcde8bfac86f7cd2"), looks := false }, kinds := [], alts := [], laidByText := true, laidKinds := [.data, .pinned], laidTests := true, laidLooks := .later }
def TruncLinesUptoCardSaid : Prop := Claim7.holds Tryd.pinned (.plain (OpenSpec.upto truncLinesSpec)) truncLinesUptoCard

/-- THE SECOND FORM's CARD OF 'nunciolaw35.TruncMiddles'. -/
def truncMiddlesUptoCard : Claim7 := { stood := { row := truncMiddlesUptoRow, standIns := [], harness := (true, "301f65b297946272cf5147e2715b9bdd08f241655c60c9a0bcde8bfac86f7cd2"), looks := false }, kinds := [], alts := [], laidByText := true, laidKinds := [.data, .pinned], laidTests := true, laidLooks := .later }
def TruncMiddlesUptoCardSaid : Prop := Claim7.holds Tryd.pinned (.plain (OpenSpec.upto truncMiddlesSpec)) truncMiddlesUptoCard

/-- THE SECOND FORM's CARD OF 'nunciolaw12.UriParts'. -/
def uriPartsUptoCard : Claim7 := { stood := { row := uriPartsUptoRow, standIns := [], harness := (true, "301f65b297946272cf5147e2715b9bdd08f241655c60c9a0bcde8bfac86f7cd2"), looks := false }, kinds := [], alts := [], laidByText := true, laidKinds := [.data, .pinned], laidTests := true, laidLooks := .later }
def UriPartsUptoCardSaid : Prop := Claim7.holds Tryd.pinned (.plain (OpenSpec.upto uriPartsSpec)) uriPartsUptoCard

/-- THE SECOND FORM's CARD OF 'nunciolaw12.UriHolds'. -/
def uriHoldsUptoCard : Claim7 := { stood := { row := uriHoldsUptoRow, standIns := [], harness := (true, "301f65b297946272cf5147e2715b9bdd08f241655c60c9a0bcde8bfac86f7cd2"), looks := false }, kinds := [], alts := [], laidByText := true, laidKinds := [.data, .pinned], laidTests := true, laidLooks := .later }
def UriHoldsUptoCardSaid : Prop := Claim7.holds Tryd.pinned (.plain (OpenSpec.upto uriHoldsSpec)) uriHoldsUptoCard
end Rows
end Go.Proofs.YtlhjieapkcnghaaDoor
