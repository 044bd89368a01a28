/-
  NARROWER THAN 'FOR EVERY INPUT', by the rows' own cells (each row's printed sentence says how): TruncCuts: laid · TruncLines: laid · TruncMiddles: laid · UriParts: laid · UriHolds: laid.
  DERIVED. THE GIVEN ROWS OF THIS SEAT. 5 by the template 'for every input the law returns true; each argument reads behind the call as it read before'; 0 by the template 'total and deterministic' (their statements: YtlhjieapkcnghaaDoorTotals.lean).
  GIVEN WITH THE SEED: the statements are not yours to turn. If you find one false, say at which input.
  Laid BY PROGRAM, IN A SANDBOX (cutbox-rows.mjs): the forced cells as the released guide's own fill.sh prints them over the translation bcebe459250b7408… (all of the seat's roots in one cut). By AI agents, Wed Nov 11 2026. No macro, syntax, notation, axiom, sorry.
-/
import Derived.Test.YtlhjieapkcnghaaDoorChecked
import GoSem.PinnedTables
import GoSem.Claim
import GoSem.ClaimJoined
import GoSem.ClaimMapViews
import Derived.JoinedTies
import Derived.KernelRfl
namespace Go.Proofs.YtlhjieapkcnghaaDoor
/- THE CELL 'sum', in the pinned program and in every row, IS THE sha256 OF THE DUMP (.gsa) THAT YtlhjieapkcnghaaDoorProg.lean LOADS. Nothing in Lean hashes anything: it is a label: what it is worth is what the hold of that sum in a sandbox is worth. -/
noncomputable def Tryd.pinned : Pinned := { name := "ytlhjieapkcnghaadoor", sum := "bcebe459250b7408bcd73ef68435afcda805d3ce78478f8472b18fbfe726ca8c", checked := Tryd.checked }
namespace Rows
def none {H : Type} : Left H := { results := [], args := [] }

/- WHAT THE LISTED PACKAGE-LEVEL VARIABLES READ AS WHEN THE CALL BEGINS. Each datum BY PROGRAM (the guide's laid-datum.mjs) off the statement by which the dump's own 'gosem.cut.vars' lays the variable. In a bare row this is a premise. The card (YtlhjieapkcnghaaDoorCards.lean) ties it to the program's text. -/
def laid_unicode_utf8_acceptRanges {H : Type} : DataW H := .agg [.agg [.lit (.int .u8 128), .lit (.int .u8 191)], .agg [.lit (.int .u8 160), .lit (.int .u8 191)], .agg [.lit (.int .u8 128), .lit (.int .u8 159)], .agg [.lit (.int .u8 144), .lit (.int .u8 191)], .agg [.lit (.int .u8 128), .lit (.int .u8 143)], .agg [.lit (.int .u8 0), .lit (.int .u8 0)], .agg [.lit (.int .u8 0), .lit (.int .u8 0)], .agg [.lit (.int .u8 0), .lit (.int .u8 0)], .agg [.lit (.int .u8 0), .lit (.int .u8 0)], .agg [.lit (.int .u8 0), .lit (.int .u8 0)], .agg [.lit (.int .u8 0), .lit (.int .u8 0)], .agg [.lit (.int .u8 0), .lit (.int .u8 0)], .agg [.lit (.int .u8 0), .lit (.int .u8 0)], .agg [.lit (.int .u8 0), .lit (.int .u8 0)], .agg [.lit (.int .u8 0), .lit (.int .u8 0)], .agg [.lit (.int .u8 0), .lit (.int .u8 0)]]
/-- One of Go's own tables, pinned by name: the form's constant. -/
def laid_unicode_utf8_first : DataW Unit := Go.Pinned.utf8First

/-- 'nunciolaw35.TruncCuts': WHATEVER THE INPUT: true; the input reads as it did. -/
def truncCutsSpec : ChangeSpec := { name := "truncCuts", fn := fun _ => fun
  | [d1, d2] => { results := [.lit (.bool true)], args := [d1, d2] }
  | _ => none }
def truncCutsRow : OpenClaim := { program := "ytlhjieapkcnghaadoor", sum := "bcebe459250b7408bcd73ef68435afcda805d3ce78478f8472b18fbfe726ca8c", func := "nuncio/nunciolaw35.TruncCuts", spec := "truncCuts", inPlace := ["internal/bytealg.CountString", "internal/bytealg.IndexByteString", "internal/bytealg.IndexString", "internal/abi.NoEscape", "internal/bytealg.MakeNoZero"], unfollowed := true, recurses := true, named := ["unicode/utf8.first", "unicode/utf8.acceptRanges", "internal/bytealg.MaxLen"], apart := false, laid := [("unicode/utf8.acceptRanges", laid_unicode_utf8_acceptRanges), ("unicode/utf8.first", laid_unicode_utf8_first)] }
def TruncCutsSaid : Prop := truncCutsRow.holds Tryd.pinned (OpenSpec.ofChange truncCutsSpec)

/-- ITS FALSE NEIGHBOUR: 'it returns false'. Refute it at one input. -/
def truncCutsWrong : ChangeSpec := { name := "truncCuts", fn := fun _ => fun
  | [d1, d2] => { results := [.lit (.bool false)], args := [d1, d2] }
  | _ => none }
def TruncCutsWrongFalsely : Prop := truncCutsRow.holds Tryd.pinned (OpenSpec.ofChange truncCutsWrong)

/-- 'nunciolaw35.TruncLines': WHATEVER THE INPUT: true; the input reads as it did. -/
def truncLinesSpec : ChangeSpec := { name := "truncLines", fn := fun _ => fun
  | [d1, d2] => { results := [.lit (.bool true)], args := [d1, d2] }
  | _ => none }
def truncLinesRow : OpenClaim := { program := "ytlhjieapkcnghaadoor", sum := "bcebe459250b7408bcd73ef68435afcda805d3ce78478f8472b18fbfe726ca8c", func := "nuncio/nunciolaw35.TruncLines", spec := "truncLines", inPlace := ["internal/bytealg.CountString", "internal/bytealg.IndexByteString", "internal/bytealg.IndexString", "internal/abi.NoEscape", "internal/bytealg.MakeNoZero"], unfollowed := true, recurses := true, named := ["unicode/utf8.first", "unicode/utf8.acceptRanges", "internal/bytealg.MaxLen"], apart := false, laid := [("unicode/utf8.acceptRanges", laid_unicode_utf8_acceptRanges), ("unicode/utf8.first", laid_unicode_utf8_first)] }
def TruncLinesSaid : Prop := truncLinesRow.holds Tryd.pinned (OpenSpec.ofChange truncLinesSpec)

/-- ITS FALSE NEIGHBOUR: 'it returns false'. Refute it at one input. -/
def truncLinesWrong : ChangeSpec := { name := "truncLines", fn := fun _ => fun
  | [d1, d2] => { results := [.lit (.bool false)], args := [d1, d2] }
  | _ => none }
def TruncLinesWrongFalsely : Prop := truncLinesRow.holds Tryd.pinned (OpenSpec.ofChange truncLinesWrong)

/-- 'nunciolaw35.TruncMiddles': WHATEVER THE INPUT: true; the input reads as it did. -/
def truncMiddlesSpec : ChangeSpec := { name := "truncMiddles", fn := fun _ => fun
  | [d1, d2] => { results := [.lit (.bool true)], args := [d1, d2] }
  | _ => none }
def truncMiddlesRow : OpenClaim := { program := "ytlhjieapkcnghaadoor", sum := "bcebe459250b7408bcd73ef68435afcda805d3ce78478f8472b18fbfe726ca8c", func := "nuncio/nunciolaw35.TruncMiddles", spec := "truncMiddles", inPlace := ["internal/bytealg.CountString", "internal/bytealg.IndexByteString", "internal/bytealg.IndexString", "internal/abi.NoEscape", "internal/bytealg.MakeNoZero"], unfollowed := true, recurses := true, named := ["unicode/utf8.first", "unicode/utf8.acceptRanges", "internal/bytealg.MaxLen"], apart := false, laid := [("unicode/utf8.acceptRanges", laid_unicode_utf8_acceptRanges), ("unicode/utf8.first", laid_unicode_utf8_first)] }
def TruncMiddlesSaid : Prop := truncMiddlesRow.holds Tryd.pinned (OpenSpec.ofChange truncMiddlesSpec)

/-- ITS FALSE NEIGHBOUR: 'it returns false'. Refute it at one input. -/
def truncMiddlesWrong : ChangeSpec := { name := "truncMiddles", fn := fun _ => fun
  | [d1, d2] => { results := [.lit (.bool false)], args := [d1, d2] }
  | _ => none }
def TruncMiddlesWrongFalsely : Prop := truncMiddlesRow.holds Tryd.pinned (OpenSpec.ofChange truncMiddlesWrong)

/-- 'nunciolaw12.UriParts': WHATEVER THE INPUT: true; the input reads as it did. -/
def uriPartsSpec : ChangeSpec := { name := "uriParts", fn := fun _ => fun
  | [d] => { results := [.lit (.bool true)], args := [d] }
  | _ => none }
def uriPartsRow : OpenClaim := { program := "ytlhjieapkcnghaadoor", sum := "bcebe459250b7408bcd73ef68435afcda805d3ce78478f8472b18fbfe726ca8c", func := "nuncio/nunciolaw12.UriParts", spec := "uriParts", inPlace := ["internal/bytealg.CountString", "internal/bytealg.IndexByteString", "internal/bytealg.IndexString"], unfollowed := true, recurses := true, named := ["unicode/utf8.first", "unicode/utf8.acceptRanges", "internal/bytealg.MaxLen"], apart := false, laid := [("unicode/utf8.acceptRanges", laid_unicode_utf8_acceptRanges), ("unicode/utf8.first", laid_unicode_utf8_first)] }
def UriPartsSaid : Prop := uriPartsRow.holds Tryd.pinned (OpenSpec.ofChange uriPartsSpec)

/-- ITS FALSE NEIGHBOUR: 'it returns false'. Refute it at one input. -/
def uriPartsWrong : ChangeSpec := { name := "uriParts", fn := fun _ => fun
  | [d] => { results := [.lit (.bool false)], args := [d] }
  | _ => none }
def UriPartsWrongFalsely : Prop := uriPartsRow.holds Tryd.pinned (OpenSpec.ofChange uriPartsWrong)

/-- 'nunciolaw12.UriHolds': WHATEVER THE INPUT: true; the input reads as it did. -/
def uriHoldsSpec : ChangeSpec := { name := "uriHolds", fn := fun _ => fun
  | [d] => { results := [.lit (.bool true)], args := [d] }
  | _ => none }
def uriHoldsRow : OpenClaim := { program := "ytlhjieapkcnghaadoor", sum := "bcebe459250b7408bcd73ef68435afcda805d3ce78478f8472b18fbfe726ca8c", func := "nuncio/nunciolaw12.UriHolds", spec := "uriHolds", inPlace := ["internal/bytealg.IndexByteString", "internal/bytealg.IndexString", "internal/bytealg.CountString"], unfollowed := true, recurses := true, named := ["internal/bytealg.MaxLen", "unicode/utf8.first", "unicode/utf8.acceptRanges"], apart := false, laid := [("unicode/utf8.acceptRanges", laid_unicode_utf8_acceptRanges), ("unicode/utf8.first", laid_unicode_utf8_first)] }
def UriHoldsSaid : Prop := uriHoldsRow.holds Tryd.pinned (OpenSpec.ofChange uriHoldsSpec)

/-- ITS FALSE NEIGHBOUR: 'it returns false'. Refute it at one input. -/
def uriHoldsWrong : ChangeSpec := { name := "uriHolds", fn := fun _ => fun
  | [d] => { results := [.lit (.bool false)], args := [d] }
  | _ => none }
def UriHoldsWrongFalsely : Prop := uriHoldsRow.holds Tryd.pinned (OpenSpec.ofChange uriHoldsWrong)

/- THE SECOND FORM. 'bulk': how many values and letters a reading holds, each counted each time it is reached (what is shared counts as often as it is met; a slice's spare places count too). A statement '..UptoSaid' is the law's where the arguments, and the package variables that the reading takes, are together of bulk at most 1048576: NARROWER than '..Said'. Prove '..Said' where nothing that the law and all that it calls make is longer than what came in: it says more and counts as full. Else prove '..UptoSaid'. A law counts once. -/
mutual
def uptoBulk {H : Type} : DataW H → Nat
  | .lit (.string bytes) => bytes.length + 1
  | .lit _ => 1
  | .nil => 1
  | .ptr d => uptoBulk d + 1
  | .slice elems spare => uptoBulkAll elems + uptoBulkAll spare + 1
  | .agg parts => uptoBulkAll parts + 1
  | .iface _ d => uptoBulk d + 1
  | .map entries => uptoBulkEntries entries + 1
  | .held _ => 1
def uptoBulkAll {H : Type} : List (DataW H) → Nat
  | [] => 0
  | d :: r => uptoBulk d + uptoBulkAll r
def uptoBulkEntries {H : Type} : List (Lit × DataW H) → Nat
  | [] => 0
  | x :: r => uptoBulkEntry x + uptoBulkEntries r
def uptoBulkEntry {H : Type} : Lit × DataW H → Nat
  | (.string bytes, d) => bytes.length + uptoBulk d + 1
  | (_, d) => uptoBulk d + 1
 end
def uptoSmall : (H : Type) → List (DataW H) → Bool := fun _ ds => decide (uptoBulkAll ds ≤ 1048576)
def OpenSpec.upto (s : _root_.Go.ChangeSpec) : _root_.Go.OpenSpec := { _root_.Go.OpenSpec.ofChange s with cond := some uptoSmall }

/-- 'nunciolaw35.TruncCuts', WHERE WHAT IT READS IS OF BULK AT MOST 1048576: true; the input reads as it did. -/
def truncCutsUptoRow : OpenClaim := { program := "ytlhjieapkcnghaadoor", sum := "bcebe459250b7408bcd73ef68435afcda805d3ce78478f8472b18fbfe726ca8c", func := "nuncio/nunciolaw35.TruncCuts", spec := "truncCuts", inPlace := ["internal/bytealg.CountString", "internal/bytealg.IndexByteString", "internal/bytealg.IndexString", "internal/abi.NoEscape", "internal/bytealg.MakeNoZero"], unfollowed := true, recurses := true, named := ["unicode/utf8.first", "unicode/utf8.acceptRanges", "internal/bytealg.MaxLen"], apart := false, laid := [("unicode/utf8.acceptRanges", laid_unicode_utf8_acceptRanges), ("unicode/utf8.first", laid_unicode_utf8_first)], narrowed := true }
def TruncCutsUptoSaid : Prop := truncCutsUptoRow.holds Tryd.pinned (OpenSpec.upto truncCutsSpec)

/-- 'nunciolaw35.TruncLines', WHERE WHAT IT READS IS OF BULK AT MOST 1048576: true; the input reads as it did. -/
def truncLinesUptoRow : OpenClaim := { program := "ytlhjieapkcnghaadoor", sum := "bcebe459250b7408bcd73ef68435afcda805d3ce78478f8472b18fbfe726ca8c", func := "nuncio/nunciolaw35.TruncLines", spec := "truncLines", inPlace := ["internal/bytealg.CountString", "internal/bytealg.IndexByteString", "internal/bytealg.IndexString", "internal/abi.NoEscape", "internal/bytealg.MakeNoZero"], unfollowed := true, recurses := true, named := ["unicode/utf8.first", "unicode/utf8.acceptRanges", "internal/bytealg.MaxLen"], apart := false, laid := [("unicode/utf8.acceptRanges", laid_unicode_utf8_acceptRanges), ("unicode/utf8.first", laid_unicode_utf8_first)], narrowed := true }
def TruncLinesUptoSaid : Prop := truncLinesUptoRow.holds Tryd.pinned (OpenSpec.upto truncLinesSpec)

/-- 'nunciolaw35.TruncMiddles', WHERE WHAT IT READS IS OF BULK AT MOST 1048576: true; the input reads as it did. -/
def truncMiddlesUptoRow : OpenClaim := { program := "ytlhjieapkcnghaadoor", sum := "bcebe459250b7408bcd73ef68435afcda805d3ce78478f8472b18fbfe726ca8c", func := "nuncio/nunciolaw35.TruncMiddles", spec := "truncMiddles", inPlace := ["internal/bytealg.CountString", "internal/bytealg.IndexByteString", "internal/bytealg.IndexString", "internal/abi.NoEscape", "internal/bytealg.MakeNoZero"], unfollowed := true, recurses := true, named := ["unicode/utf8.first", "unicode/utf8.acceptRanges", "internal/bytealg.MaxLen"], apart := false, laid := [("unicode/utf8.acceptRanges", laid_unicode_utf8_acceptRanges), ("unicode/utf8.first", laid_unicode_utf8_first)], narrowed := true }
def TruncMiddlesUptoSaid : Prop := truncMiddlesUptoRow.holds Tryd.pinned (OpenSpec.upto truncMiddlesSpec)

/-- 'nunciolaw12.UriParts', WHERE WHAT IT READS IS OF BULK AT MOST 1048576: true; the input reads as it did. -/
def uriPartsUptoRow : OpenClaim := { program := "ytlhjieapkcnghaadoor", sum := "bcebe459250b7408bcd73ef68435afcda805d3ce78478f8472b18fbfe726ca8c", func := "nuncio/nunciolaw12.UriParts", spec := "uriParts", inPlace := ["internal/bytealg.CountString", "internal/bytealg.IndexByteString", "internal/bytealg.IndexString"], unfollowed := true, recurses := true, named := ["unicode/utf8.first", "unicode/utf8.acceptRanges", "internal/bytealg.MaxLen"], apart := false, laid := [("unicode/utf8.acceptRanges", laid_unicode_utf8_acceptRanges), ("unicode/utf8.first", laid_unicode_utf8_first)], narrowed := true }
def UriPartsUptoSaid : Prop := uriPartsUptoRow.holds Tryd.pinned (OpenSpec.upto uriPartsSpec)

/-- 'nunciolaw12.UriHolds', WHERE WHAT IT READS IS OF BULK AT MOST 1048576: true; the input reads as it did. -/
def uriHoldsUptoRow : OpenClaim := { program := "ytlhjieapkcnghaadoor", sum := "bcebe459250b7408bcd73ef68435afcda805d3ce78478f8472b18fbfe726ca8c", func := "nuncio/nunciolaw12.UriHolds", spec := "uriHolds", inPlace := ["internal/bytealg.IndexByteString", "internal/bytealg.IndexString", "internal/bytealg.CountString"], unfollowed := true, recurses := true, named := ["internal/bytealg.MaxLen", "unicode/utf8.first", "unicode/utf8.acceptRanges"], apart := false, laid := [("unicode/utf8.acceptRanges", laid_unicode_utf8_acceptRanges), ("unicode/utf8.first", laid_unicode_utf8_first)], narrowed := true }
def UriHoldsUptoSaid : Prop := uriHoldsUptoRow.holds Tryd.pinned (OpenSpec.upto uriHoldsSpec)

end Rows
end Go.Proofs.YtlhjieapkcnghaaDoor
