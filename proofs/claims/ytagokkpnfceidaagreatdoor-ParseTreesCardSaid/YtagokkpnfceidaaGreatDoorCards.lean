/-
  DERIVED. GIVEN WITH THE SEED: THE CARDS: each row of YtagokkpnfceidaaGreatDoorRows.lean that lists a variable, with what it lists TIED to the program's text (the seventh form; the later family's looks); each row that meets fmt, with fmt's text TOLD by the authors' own Lean function (tested against real Go, not proved from fmt's source: count such statements apart). THE CARD IS WHAT COUNTS. Prove the row's statement (the work); the ties are given (YtagokkpnfceidaaGreatDoorTie.lean); close each card by the builder's one call (the guide's Derived/Test/ToyasCard.lean, 'card_holds'). Laid BY PROGRAM, IN A SANDBOX (cutbox-door.mjs). By AI agents, Wed Nov 11 2026. No macro, syntax, notation, axiom, sorry.
-/
import Derived.Test.YtagokkpnfceidaaGreatDoorRows
import GoSem.ClaimSeven
namespace Go.Proofs.YtagokkpnfceidaaGreatDoor
namespace Rows

/-- THE TIED CARD OF 'nunciolaw20.ParseTrees'. -/
def parseTreesCard : Claim7 := { stood := { row := parseTreesRow, standIns := [], harness := (true, "4195aabf119c35576638689d6b93a74f0b75e418ca4176388f4e8b87b2315417"), looks := true }, kinds := [], alts := [], laidByText := true, laidKinds := [.data, .pinned], laidTests := true, laidLooks := .later }
def ParseTreesCardSaid : Prop := Claim7.holds Tryz.pinned (.plain (OpenSpec.ofChange parseTreesSpec)) parseTreesCard

/-- THE TIED CARD OF 'nunciolaw20.ParseBounds'. -/
def parseBoundsCard : Claim7 := { stood := { row := parseBoundsRow, standIns := [], harness := (true, "4195aabf119c35576638689d6b93a74f0b75e418ca4176388f4e8b87b2315417"), looks := true }, kinds := [], alts := [], laidByText := true, laidKinds := [.data, .pinned], laidTests := true, laidLooks := .later }
def ParseBoundsCardSaid : Prop := Claim7.holds Tryz.pinned (.plain (OpenSpec.ofChange parseBoundsSpec)) parseBoundsCard

/-- THE TIED CARD OF 'nunciolaw20.ParseExprs'. -/
def parseExprsCard : Claim7 := { stood := { row := parseExprsRow, standIns := [], harness := (true, "4195aabf119c35576638689d6b93a74f0b75e418ca4176388f4e8b87b2315417"), looks := true }, kinds := [], alts := [], laidByText := true, laidKinds := [.data, .pinned], laidTests := true, laidLooks := .later }
def ParseExprsCardSaid : Prop := Claim7.holds Tryz.pinned (.plain (OpenSpec.ofChange parseExprsSpec)) parseExprsCard

/-- THE SECOND FORM's CARD OF 'nunciolaw20.ParseTrees'. -/
def parseTreesUptoCard : Claim7 := { stood := { row := parseTreesUptoRow, standIns := [], harness := (true, "4195aabf119c35576638689d6b93a74f0b75e418ca4176388f4e8b87b2315417"), looks := true }, kinds := [], alts := [], laidByText := true, laidKinds := [.data, .pinned], laidTests := true, laidLooks := .later }
def ParseTreesUptoCardSaid : Prop := Claim7.holds Tryz.pinned (.plain (OpenSpec.upto parseTreesSpec)) parseTreesUptoCard

/-- THE SECOND FORM's CARD OF 'nunciolaw20.ParseBounds'. -/
def parseBoundsUptoCard : Claim7 := { stood := { row := parseBoundsUptoRow, standIns := [], harness := (true, "4195aabf119c35576638689d6b93a74f0b75e418ca4176388f4e8b87b2315417"), looks := true }, kinds := [], alts := [], laidByText := true, laidKinds := [.data, .pinned], laidTests := true, laidLooks := .later }
def ParseBoundsUptoCardSaid : Prop := Claim7.holds Tryz.pinned (.plain (OpenSpec.upto parseBoundsSpec)) parseBoundsUptoCard

/-- THE SECOND FORM's CARD OF 'nunciolaw20.ParseExprs'. -/
def parseExprsUptoCard : Claim7 := { stood := { row := parseExprsUptoRow, standIns := [], harness := (true, "4195aabf119c35576638689d6b93a74f0b75e418ca4176388f4e8b87b2315417"), looks := true }, kinds := [], alts := [], laidByText := true, laidKinds := [.data, .pinned], laidTests := true, laidLooks := .later }
def ParseExprsUptoCardSaid : Prop := Claim7.holds Tryz.pinned (.plain (OpenSpec.upto parseExprsSpec)) parseExprsUptoCard
end Rows
end Go.Proofs.YtagokkpnfceidaaGreatDoor
