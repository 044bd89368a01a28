/-
  DERIVED. GIVEN WITH THE SEED: THE CARDS: each row of YtebkhehjfkmdiaaDoorRows.lean that lists a variable, with what it lists TIED to the program's text (the seventh form; the later family's looks); each row that meets fmt, with fmt's text TOLD by the authors' own Lean function (tested against real Go, not proved from fmt's source: count such statements apart). THE CARD IS WHAT COUNTS. Prove the row's statement (the work); the ties are given (YtebkhehjfkmdiaaDoorTie.lean); close each card by the builder's one call (the guide's Derived/Test/ToyasCard.lean, 'card_holds'). Laid BY PROGRAM, IN A SANDBOX (cutbox-door.mjs). By AI agents, Wed Nov 11 2026. No macro, syntax, notation, axiom, sorry.
-/
import Derived.Test.YtebkhehjfkmdiaaDoorRows
import GoSem.ClaimSeven
namespace Go.Proofs.YtebkhehjfkmdiaaDoor
namespace Rows

/-- THE TIED CARD OF 'nunciolaw35.TruncCuts'. -/
def truncCutsCard : Claim7 := { stood := { row := truncCutsRow, standIns := [], harness := (true, "f0d03f57c38ec4491ffcfafada235751d194437006748986cc863bd434d42578"), looks := false }, kinds := [], alts := [], laidByText := true, laidKinds := [.data, .pinned], laidTests := true, laidLooks := .later }
def TruncCutsCardSaid : Prop := Claim7.holds Tryd.pinned (.plain (OpenSpec.ofChange truncCutsSpec)) truncCutsCard

/-- THE TIED CARD OF 'nunciolaw35.TruncLines'. -/
def truncLinesCard : Claim7 := { stood := { row := truncLinesRow, standIns := [], harness := (true, "f0d03f57c38ec4491ffcfafada235751d194437006748986cc863bd434d42578"), looks := false }, kinds := [], alts := [], laidByText := true, laidKinds := [.data, .pinned], laidTests := true, laidLooks := .later }
def TruncLinesCardSaid : Prop := Claim7.holds Tryd.pinned (.plain (OpenSpec.ofChange truncLinesSpec)) truncLinesCard

/-- THE TIED CARD OF 'nunciolaw35.TruncMiddles'. -/
def truncMiddlesCard : Claim7 := { stood := { row := truncMiddlesRow, standIns := [], harness := (true, "f0d03f57c38ec4491ffcfafada235751d194437006748986cc863bd434d42578"), looks := false }, kinds := [], alts := [], laidByText := true, laidKinds := [.data, .pinned], laidTests := true, laidLooks := .later }
def TruncMiddlesCardSaid : Prop := Claim7.holds Tryd.pinned (.plain (OpenSpec.ofChange truncMiddlesSpec)) truncMiddlesCard

/-- THE TIED CARD OF 'nunciolaw35.TruncFairs'. -/
def truncFairsCard : Claim7 := { stood := { row := truncFairsRow, standIns := [], harness := (true, "f0d03f57c38ec4491ffcfafada235751d194437006748986cc863bd434d42578"), looks := false }, kinds := [], alts := [], laidByText := true, laidKinds := [.data, .pinned], laidTests := true, laidLooks := .later }
def TruncFairsCardSaid : Prop := Claim7.holds Tryd.pinned (.plain (OpenSpec.ofChange truncFairsSpec)) truncFairsCard

/-- THE TIED CARD OF 'nunciolaw18.LexTokens'. -/
def lexTokensCard : Claim7 := { stood := { row := lexTokensRow, standIns := [], harness := (true, "f0d03f57c38ec4491ffcfafada235751d194437006748986cc863bd434d42578"), looks := false }, kinds := [], alts := [], laidByText := true, laidKinds := [.data, .pinned], laidTests := true, laidLooks := .later }
def LexTokensCardSaid : Prop := Claim7.holds Tryd.pinned (.plain (OpenSpec.ofChange lexTokensSpec)) lexTokensCard

/-- THE TIED CARD OF 'nunciolaw18.LexLong'. -/
def lexLongCard : Claim7 := { stood := { row := lexLongRow, standIns := [], harness := (true, "f0d03f57c38ec4491ffcfafada235751d194437006748986cc863bd434d42578"), looks := false }, kinds := [], alts := [], laidByText := true, laidKinds := [.data, .pinned], laidTests := true, laidLooks := .later }
def LexLongCardSaid : Prop := Claim7.holds Tryd.pinned (.plain (OpenSpec.ofChange lexLongSpec)) lexLongCard

/-- THE TIED CARD OF 'nunciolaw18.LexSames'. -/
def lexSamesCard : Claim7 := { stood := { row := lexSamesRow, standIns := [], harness := (true, "f0d03f57c38ec4491ffcfafada235751d194437006748986cc863bd434d42578"), looks := false }, kinds := [], alts := [], laidByText := true, laidKinds := [.data, .pinned], laidTests := true, laidLooks := .later }
def LexSamesCardSaid : Prop := Claim7.holds Tryd.pinned (.plain (OpenSpec.ofChange lexSamesSpec)) lexSamesCard

/-- THE TIED CARD OF 'nunciolaw18.LexQuotes'. -/
def lexQuotesCard : Claim7 := { stood := { row := lexQuotesRow, standIns := [], harness := (true, "f0d03f57c38ec4491ffcfafada235751d194437006748986cc863bd434d42578"), looks := false }, kinds := [], alts := [], laidByText := true, laidKinds := [.data, .pinned], laidTests := true, laidLooks := .later }
def LexQuotesCardSaid : Prop := Claim7.holds Tryd.pinned (.plain (OpenSpec.ofChange lexQuotesSpec)) lexQuotesCard

/-- THE SECOND FORM's CARD OF 'nunciolaw35.TruncCuts'. -/
def truncCutsUptoCard : Claim7 := { stood := { row := truncCutsUptoRow, standIns := [], harness := (true, "f0d03f57c38ec4491ffcfafada235751d194437006748986cc863bd434d42578"), looks := false }, kinds := [], alts := [], laidByText := true, laidKinds := [.data, .pinned], laidTests := true, laidLooks := .later }
def TruncCutsUptoCardSaid : Prop := Claim7.holds Tryd.pinned (.plain (OpenSpec.upto truncCutsSpec)) truncCutsUptoCard

/-- THE SECOND FORM's CARD OF 'nunciolaw35.TruncLines'. -/
def truncLinesUptoCard : Claim7 := { stood := { row := truncLinesUptoRow, standIns := [], harness := (true, "f0d03f57c38ec4491ffcfafada235751d194437006748986cc863bd434d42578"), looks := false }, kinds := [], alts := [], laidByText := true, laidKinds := [.data, .pinned], laidTests := true, laidLooks := .later }
def TruncLinesUptoCardSaid : Prop := Claim7.holds Tryd.pinned (.plain (OpenSpec.upto truncLinesSpec)) truncLinesUptoCard

/-- THE SECOND FORM's CARD OF 'nunciolaw35.TruncMiddles'. -/
def truncMiddlesUptoCard : Claim7 := { stood := { row := truncMiddlesUptoRow, standIns := [], harness := (true, "f0d03f57c38ec4491ffcfafada235751d194437006748986cc863bd434d42578"), looks := false }, kinds := [], alts := [], laidByText := true, laidKinds := [.data, .pinned], laidTests := true, laidLooks := .later }
def TruncMiddlesUptoCardSaid : Prop := Claim7.holds Tryd.pinned (.plain (OpenSpec.upto truncMiddlesSpec)) truncMiddlesUptoCard

/-- THE SECOND FORM's CARD OF 'nunciolaw35.TruncFairs'. -/
def truncFairsUptoCard : Claim7 := { stood := { row := truncFairsUptoRow, standIns := [], harness := (true, "f0d03f57c38ec4491ffcfafada235751d194437006748986cc863bd434d42578"), looks := false }, kinds := [], alts := [], laidByText := true, laidKinds := [.data, .pinned], laidTests := true, laidLooks := .later }
def TruncFairsUptoCardSaid : Prop := Claim7.holds Tryd.pinned (.plain (OpenSpec.upto truncFairsSpec)) truncFairsUptoCard

/-- THE SECOND FORM's CARD OF 'nunciolaw18.LexTokens'. -/
def lexTokensUptoCard : Claim7 := { stood := { row := lexTokensUptoRow, standIns := [], harness := (true, "f0d03f57c38ec4491ffcfafada235751d194437006748986cc863bd434d42578"), looks := false }, kinds := [], alts := [], laidByText := true, laidKinds := [.data, .pinned], laidTests := true, laidLooks := .later }
def LexTokensUptoCardSaid : Prop := Claim7.holds Tryd.pinned (.plain (OpenSpec.upto lexTokensSpec)) lexTokensUptoCard

/-- THE SECOND FORM's CARD OF 'nunciolaw18.LexLong'. -/
def lexLongUptoCard : Claim7 := { stood := { row := lexLongUptoRow, standIns := [], harness := (true, "f0d03f57c38ec4491ffcfafada235751d194437006748986cc863bd434d42578"), looks := false }, kinds := [], alts := [], laidByText := true, laidKinds := [.data, .pinned], laidTests := true, laidLooks := .later }
def LexLongUptoCardSaid : Prop := Claim7.holds Tryd.pinned (.plain (OpenSpec.upto lexLongSpec)) lexLongUptoCard

/-- THE SECOND FORM's CARD OF 'nunciolaw18.LexSames'. -/
def lexSamesUptoCard : Claim7 := { stood := { row := lexSamesUptoRow, standIns := [], harness := (true, "f0d03f57c38ec4491ffcfafada235751d194437006748986cc863bd434d42578"), looks := false }, kinds := [], alts := [], laidByText := true, laidKinds := [.data, .pinned], laidTests := true, laidLooks := .later }
def LexSamesUptoCardSaid : Prop := Claim7.holds Tryd.pinned (.plain (OpenSpec.upto lexSamesSpec)) lexSamesUptoCard

/-- THE SECOND FORM's CARD OF 'nunciolaw18.LexQuotes'. -/
def lexQuotesUptoCard : Claim7 := { stood := { row := lexQuotesUptoRow, standIns := [], harness := (true, "f0d03f57c38ec4491ffcfafada235751d194437006748986cc863bd434d42578"), looks := false }, kinds := [], alts := [], laidByText := true, laidKinds := [.data, .pinned], laidTests := true, laidLooks := .later }
def LexQuotesUptoCardSaid : Prop := Claim7.holds Tryd.pinned (.plain (OpenSpec.upto lexQuotesSpec)) lexQuotesUptoCard
end Rows
end Go.Proofs.YtebkhehjfkmdiaaDoor
