/-
  DERIVED. GIVEN WITH THE SEED: THE CARDS: each row of YteahaflhihioaaaGreatDoorRows.lean that lists a variable, with what it lists TIED to the program's text (the seventh form; the later family's looks); each row that meets fmt, with fmt's text TOLD by the authors' own Lean function (tested against real Go, not proved from fmt's source: count such statements apart). THE CARD IS WHAT COUNTS. Prove the row's statement (the work); the ties are given (YteahaflhihioaaaGreatDoorTie.lean); close each card by the builder's one call (the guide's Derived/Test/ToyasCard.lean, 'card_holds'). Laid BY PROGRAM, IN A SANDBOX (cutbox-door.mjs). By AI agents, Wed Nov 11 2026. No macro, syntax, notation, axiom, sorry.
-/
import Derived.Test.YteahaflhihioaaaGreatDoorRows
import GoSem.ClaimSeven
namespace Go.Proofs.YteahaflhihioaaaGreatDoor
namespace Rows

/-- THE TIED CARD OF 'nunciolaw31.BuiltCalls'. -/
def builtCallsCard : Claim7 := { stood := { row := builtCallsRow, standIns := [], harness := (true, "ec4f15ccfec910e94422d6b7401a972acee7c4f7bbc5ed07750fa1c2de8686a4"), looks := false }, kinds := [], alts := [], laidByText := true, laidKinds := [.data, .pinned], laidTests := true, laidLooks := .later }
def BuiltCallsCardSaid : Prop := Claim7.holds Tryz.pinned (.plain (OpenSpec.ofChange builtCallsSpec)) builtCallsCard

/-- THE TIED CARD OF 'nunciolaw31.BuiltNumbers'. -/
def builtNumbersCard : Claim7 := { stood := { row := builtNumbersRow, standIns := [], harness := (true, "ec4f15ccfec910e94422d6b7401a972acee7c4f7bbc5ed07750fa1c2de8686a4"), looks := false }, kinds := [], alts := [], laidByText := true, laidKinds := [.data, .pinned], laidTests := true, laidLooks := .later }
def BuiltNumbersCardSaid : Prop := Claim7.holds Tryz.pinned (.plain (OpenSpec.ofChange builtNumbersSpec)) builtNumbersCard

/-- THE TIED CARD OF 'nunciolaw31.BuiltLong'. -/
def builtLongCard : Claim7 := { stood := { row := builtLongRow, standIns := [], harness := (true, "ec4f15ccfec910e94422d6b7401a972acee7c4f7bbc5ed07750fa1c2de8686a4"), looks := false }, kinds := [], alts := [], laidByText := true, laidKinds := [.data, .pinned], laidTests := true, laidLooks := .later }
def BuiltLongCardSaid : Prop := Claim7.holds Tryz.pinned (.plain (OpenSpec.ofChange builtLongSpec)) builtLongCard

/-- THE SECOND FORM's CARD OF 'nunciolaw31.BuiltCalls'. -/
def builtCallsUptoCard : Claim7 := { stood := { row := builtCallsUptoRow, standIns := [], harness := (true, "ec4f15ccfec910e94422d6b7401a972acee7c4f7bbc5ed07750fa1c2de8686a4"), looks := false }, kinds := [], alts := [], laidByText := true, laidKinds := [.data, .pinned], laidTests := true, laidLooks := .later }
def BuiltCallsUptoCardSaid : Prop := Claim7.holds Tryz.pinned (.plain (OpenSpec.upto builtCallsSpec)) builtCallsUptoCard

/-- THE SECOND FORM's CARD OF 'nunciolaw31.BuiltNumbers'. -/
def builtNumbersUptoCard : Claim7 := { stood := { row := builtNumbersUptoRow, standIns := [], harness := (true, "ec4f15ccfec910e94422d6b7401a972acee7c4f7bbc5ed07750fa1c2de8686a4"), looks := false }, kinds := [], alts := [], laidByText := true, laidKinds := [.data, .pinned], laidTests := true, laidLooks := .later }
def BuiltNumbersUptoCardSaid : Prop := Claim7.holds Tryz.pinned (.plain (OpenSpec.upto builtNumbersSpec)) builtNumbersUptoCard

/-- THE SECOND FORM's CARD OF 'nunciolaw31.BuiltLong'. -/
def builtLongUptoCard : Claim7 := { stood := { row := builtLongUptoRow, standIns := [], harness := (true, "ec4f15ccfec910e94422d6b7401a972acee7c4f7bbc5ed07750fa1c2de8686a4"), looks := false }, kinds := [], alts := [], laidByText := true, laidKinds := [.data, .pinned], laidTests := true, laidLooks := .later }
def BuiltLongUptoCardSaid : Prop := Claim7.holds Tryz.pinned (.plain (OpenSpec.upto builtLongSpec)) builtLongUptoCard
end Rows
end Go.Proofs.YteahaflhihioaaaGreatDoor
