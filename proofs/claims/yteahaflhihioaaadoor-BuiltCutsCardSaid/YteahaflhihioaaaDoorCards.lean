/-
  DERIVED. GIVEN WITH THE SEED: THE CARDS: each row of YteahaflhihioaaaDoorRows.lean that lists a variable, with what it lists TIED to the program's text (the seventh form; the later family's looks); each row that meets fmt, with fmt's text TOLD by the authors' own Lean function (tested against real Go, not proved from fmt's source: count such statements apart). THE CARD IS WHAT COUNTS. Prove the row's statement (the work); the ties are given (YteahaflhihioaaaDoorTie.lean); close each card by the builder's one call (the guide's Derived/Test/ToyasCard.lean, 'card_holds'). Laid BY PROGRAM, IN A SANDBOX (cutbox-door.mjs). By AI agents, Wed Nov 11 2026. No macro, syntax, notation, axiom, sorry.
-/
import Derived.Test.YteahaflhihioaaaDoorRows
import GoSem.ClaimSeven
namespace Go.Proofs.YteahaflhihioaaaDoor
namespace Rows

/-- THE TIED CARD OF 'nunciolaw01.OctetJoins'. -/
def octetJoinsCard : Claim7 := { stood := { row := octetJoinsRow, standIns := [], harness := (true, "15a96e0fe5f098f41134a8e964a7d901f33364f222d9d0451d1dd69b91f93a47"), looks := false }, kinds := [], alts := [], laidByText := true, laidKinds := [.data, .pinned], laidTests := true, laidLooks := .later }
def OctetJoinsCardSaid : Prop := Claim7.holds Tryd.pinned (.plain (OpenSpec.ofChange octetJoinsSpec)) octetJoinsCard

/-- THE TIED CARD OF 'nunciolaw31.BuiltCuts'. -/
def builtCutsCard : Claim7 := { stood := { row := builtCutsRow, standIns := [], harness := (true, "15a96e0fe5f098f41134a8e964a7d901f33364f222d9d0451d1dd69b91f93a47"), looks := false }, kinds := [], alts := [], laidByText := true, laidKinds := [.data, .pinned], laidTests := true, laidLooks := .later }
def BuiltCutsCardSaid : Prop := Claim7.holds Tryd.pinned (.plain (OpenSpec.ofChange builtCutsSpec)) builtCutsCard

/-- THE SECOND FORM's CARD OF 'nunciolaw01.OctetJoins'. -/
def octetJoinsUptoCard : Claim7 := { stood := { row := octetJoinsUptoRow, standIns := [], harness := (true, "15a96e0fe5f098f41134a8e964a7d901f33364f222d9d0451d1dd69b91f93a47"), looks := false }, kinds := [], alts := [], laidByText := true, laidKinds := [.data, .pinned], laidTests := true, laidLooks := .later }
def OctetJoinsUptoCardSaid : Prop := Claim7.holds Tryd.pinned (.plain (OpenSpec.upto octetJoinsSpec)) octetJoinsUptoCard

/-- THE SECOND FORM's CARD OF 'nunciolaw31.BuiltCuts'. -/
def builtCutsUptoCard : Claim7 := { stood := { row := builtCutsUptoRow, standIns := [], harness := (true, "15a96e0fe5f098f41134a8e964a7d901f33364f222d9d0451d1dd69b91f93a47"), looks := false }, kinds := [], alts := [], laidByText := true, laidKinds := [.data, .pinned], laidTests := true, laidLooks := .later }
def BuiltCutsUptoCardSaid : Prop := Claim7.holds Tryd.pinned (.plain (OpenSpec.upto builtCutsSpec)) builtCutsUptoCard
end Rows
end Go.Proofs.YteahaflhihioaaaDoor
