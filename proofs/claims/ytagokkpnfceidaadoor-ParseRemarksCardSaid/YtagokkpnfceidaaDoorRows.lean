/-
  NARROWER THAN 'FOR EVERY INPUT', by the rows' own cells (each row's printed sentence says how): FoldWrites: laid · FoldReads: laid · FoldBack: laid · FoldLines: laid · ParseBack: loops, laid · ParseRemarks: laid.
  DERIVED. THE GIVEN ROWS OF THIS SEAT. 6 by the template 'for every input the law returns true; each argument reads behind the call as it read before'; 0 by the template 'total and deterministic' (their statements: YtagokkpnfceidaaDoorTotals.lean).
  GIVEN WITH THE SEED: the statements are not yours to turn. If you find one false, say at which input.
  Laid BY PROGRAM, IN A SANDBOX (cutbox-rows.mjs): the forced cells as the released guide's own fill.sh prints them over the translation 6836563937ef3fdc… (all of the seat's roots in one cut). By AI agents, Wed Nov 11 2026. No macro, syntax, notation, axiom, sorry.
-/
import Derived.Test.YtagokkpnfceidaaDoorChecked
import GoSem.PinnedTables
import GoSem.Claim
import GoSem.ClaimJoined
import GoSem.ClaimMapViews
import Derived.JoinedTies
import Derived.KernelRfl
namespace Go.Proofs.YtagokkpnfceidaaDoor
/- THE CELL 'sum', in the pinned program and in every row, IS THE sha256 OF THE DUMP (.gsa) THAT YtagokkpnfceidaaDoorProg.lean LOADS. Nothing in Lean hashes anything: it is a label: what it is worth is what the hold of that sum in a sandbox is worth. -/
noncomputable def Tryd.pinned : Pinned := { name := "ytagokkpnfceidaadoor", sum := "6836563937ef3fdc29e742256d62569d58768bbb9f2baf04ec7a4b4c66c2e42c", checked := Tryd.checked }
namespace Rows
def none {H : Type} : Left H := { results := [], args := [] }

/- WHAT THE LISTED PACKAGE-LEVEL VARIABLES READ AS WHEN THE CALL BEGINS. Each datum BY PROGRAM (the guide's laid-datum.mjs) off the statement by which the dump's own 'gosem.cut.vars' lays the variable. In a bare row this is a premise. The card (YtagokkpnfceidaaDoorCards.lean) ties it to the program's text. -/
def laid_unicode_utf8_acceptRanges {H : Type} : DataW H := .agg [.agg [.lit (.int .u8 128), .lit (.int .u8 191)], .agg [.lit (.int .u8 160), .lit (.int .u8 191)], .agg [.lit (.int .u8 128), .lit (.int .u8 159)], .agg [.lit (.int .u8 144), .lit (.int .u8 191)], .agg [.lit (.int .u8 128), .lit (.int .u8 143)], .agg [.lit (.int .u8 0), .lit (.int .u8 0)], .agg [.lit (.int .u8 0), .lit (.int .u8 0)], .agg [.lit (.int .u8 0), .lit (.int .u8 0)], .agg [.lit (.int .u8 0), .lit (.int .u8 0)], .agg [.lit (.int .u8 0), .lit (.int .u8 0)], .agg [.lit (.int .u8 0), .lit (.int .u8 0)], .agg [.lit (.int .u8 0), .lit (.int .u8 0)], .agg [.lit (.int .u8 0), .lit (.int .u8 0)], .agg [.lit (.int .u8 0), .lit (.int .u8 0)], .agg [.lit (.int .u8 0), .lit (.int .u8 0)], .agg [.lit (.int .u8 0), .lit (.int .u8 0)]]
def laid_nuncio_b64_table {H : Type} : DataW H := .agg [.lit (.string [65, 66, 67, 68, 69, 70, 71, 72, 73, 74, 75, 76, 77, 78, 79, 80]), .lit (.string [81, 82, 83, 84, 85, 86, 87, 88, 89, 90, 97, 98, 99, 100, 101, 102]), .lit (.string [103, 104, 105, 106, 107, 108, 109, 110, 111, 112, 113, 114, 115, 116, 117, 118]), .lit (.string [119, 120, 121, 122, 48, 49, 50, 51, 52, 53, 54, 55, 56, 57, 43, 47])]
/-- One of Go's own tables, pinned by name: the form's constant. -/
def laid_unicode_utf8_first : DataW Unit := Go.Pinned.utf8First

/-- 'nunciolaw09.FoldWrites': WHATEVER THE INPUT: true; the input reads as it did. -/
def foldWritesSpec : ChangeSpec := { name := "foldWrites", fn := fun _ => fun
  | [d1, d2] => { results := [.lit (.bool true)], args := [d1, d2] }
  | _ => none }
def foldWritesRow : OpenClaim := { program := "ytagokkpnfceidaadoor", sum := "6836563937ef3fdc29e742256d62569d58768bbb9f2baf04ec7a4b4c66c2e42c", func := "nuncio/nunciolaw09.FoldWrites", spec := "foldWrites", inPlace := ["internal/abi.NoEscape", "internal/bytealg.IndexByteString", "internal/bytealg.IndexString", "internal/bytealg.CountString", "internal/bytealg.MakeNoZero"], unfollowed := true, recurses := true, named := ["nuncio/b64.table", "internal/bytealg.MaxLen", "unicode/utf8.first", "unicode/utf8.acceptRanges"], apart := false, laid := [("unicode/utf8.acceptRanges", laid_unicode_utf8_acceptRanges), ("nuncio/b64.table", laid_nuncio_b64_table), ("unicode/utf8.first", laid_unicode_utf8_first)] }
def FoldWritesSaid : Prop := foldWritesRow.holds Tryd.pinned (OpenSpec.ofChange foldWritesSpec)

/-- ITS FALSE NEIGHBOUR: 'it returns false'. Refute it at one input. -/
def foldWritesWrong : ChangeSpec := { name := "foldWrites", fn := fun _ => fun
  | [d1, d2] => { results := [.lit (.bool false)], args := [d1, d2] }
  | _ => none }
def FoldWritesWrongFalsely : Prop := foldWritesRow.holds Tryd.pinned (OpenSpec.ofChange foldWritesWrong)

/-- 'nunciolaw09.FoldReads': WHATEVER THE INPUT: true; the input reads as it did. -/
def foldReadsSpec : ChangeSpec := { name := "foldReads", fn := fun _ => fun
  | [d] => { results := [.lit (.bool true)], args := [d] }
  | _ => none }
def foldReadsRow : OpenClaim := { program := "ytagokkpnfceidaadoor", sum := "6836563937ef3fdc29e742256d62569d58768bbb9f2baf04ec7a4b4c66c2e42c", func := "nuncio/nunciolaw09.FoldReads", spec := "foldReads", inPlace := ["internal/abi.NoEscape", "internal/bytealg.IndexByteString", "internal/bytealg.IndexString", "internal/bytealg.CountString", "internal/bytealg.MakeNoZero"], unfollowed := true, recurses := true, named := ["internal/bytealg.MaxLen", "unicode/utf8.first", "unicode/utf8.acceptRanges", "nuncio/b64.table"], apart := false, laid := [("unicode/utf8.acceptRanges", laid_unicode_utf8_acceptRanges), ("nuncio/b64.table", laid_nuncio_b64_table), ("unicode/utf8.first", laid_unicode_utf8_first)] }
def FoldReadsSaid : Prop := foldReadsRow.holds Tryd.pinned (OpenSpec.ofChange foldReadsSpec)

/-- ITS FALSE NEIGHBOUR: 'it returns false'. Refute it at one input. -/
def foldReadsWrong : ChangeSpec := { name := "foldReads", fn := fun _ => fun
  | [d] => { results := [.lit (.bool false)], args := [d] }
  | _ => none }
def FoldReadsWrongFalsely : Prop := foldReadsRow.holds Tryd.pinned (OpenSpec.ofChange foldReadsWrong)

/-- 'nunciolaw09.FoldBack': WHATEVER THE INPUT: true; the input reads as it did. -/
def foldBackSpec : ChangeSpec := { name := "foldBack", fn := fun _ => fun
  | [d1, d2] => { results := [.lit (.bool true)], args := [d1, d2] }
  | _ => none }
def foldBackRow : OpenClaim := { program := "ytagokkpnfceidaadoor", sum := "6836563937ef3fdc29e742256d62569d58768bbb9f2baf04ec7a4b4c66c2e42c", func := "nuncio/nunciolaw09.FoldBack", spec := "foldBack", inPlace := ["internal/abi.NoEscape", "internal/bytealg.IndexByteString", "internal/bytealg.IndexString", "internal/bytealg.CountString", "internal/bytealg.MakeNoZero"], unfollowed := true, recurses := true, named := ["nuncio/b64.table", "internal/bytealg.MaxLen", "unicode/utf8.first", "unicode/utf8.acceptRanges"], apart := false, laid := [("unicode/utf8.acceptRanges", laid_unicode_utf8_acceptRanges), ("nuncio/b64.table", laid_nuncio_b64_table), ("unicode/utf8.first", laid_unicode_utf8_first)] }
def FoldBackSaid : Prop := foldBackRow.holds Tryd.pinned (OpenSpec.ofChange foldBackSpec)

/-- ITS FALSE NEIGHBOUR: 'it returns false'. Refute it at one input. -/
def foldBackWrong : ChangeSpec := { name := "foldBack", fn := fun _ => fun
  | [d1, d2] => { results := [.lit (.bool false)], args := [d1, d2] }
  | _ => none }
def FoldBackWrongFalsely : Prop := foldBackRow.holds Tryd.pinned (OpenSpec.ofChange foldBackWrong)

/-- 'nunciolaw09.FoldLines': WHATEVER THE INPUT: true; the input reads as it did. -/
def foldLinesSpec : ChangeSpec := { name := "foldLines", fn := fun _ => fun
  | [d1, d2] => { results := [.lit (.bool true)], args := [d1, d2] }
  | _ => none }
def foldLinesRow : OpenClaim := { program := "ytagokkpnfceidaadoor", sum := "6836563937ef3fdc29e742256d62569d58768bbb9f2baf04ec7a4b4c66c2e42c", func := "nuncio/nunciolaw09.FoldLines", spec := "foldLines", inPlace := ["internal/abi.NoEscape", "internal/bytealg.IndexByteString", "internal/bytealg.IndexString", "internal/bytealg.CountString", "internal/bytealg.MakeNoZero"], unfollowed := true, recurses := true, named := ["nuncio/b64.table", "internal/bytealg.MaxLen", "unicode/utf8.first", "unicode/utf8.acceptRanges"], apart := false, laid := [("unicode/utf8.acceptRanges", laid_unicode_utf8_acceptRanges), ("nuncio/b64.table", laid_nuncio_b64_table), ("unicode/utf8.first", laid_unicode_utf8_first)] }
def FoldLinesSaid : Prop := foldLinesRow.holds Tryd.pinned (OpenSpec.ofChange foldLinesSpec)

/-- ITS FALSE NEIGHBOUR: 'it returns false'. Refute it at one input. -/
def foldLinesWrong : ChangeSpec := { name := "foldLines", fn := fun _ => fun
  | [d1, d2] => { results := [.lit (.bool false)], args := [d1, d2] }
  | _ => none }
def FoldLinesWrongFalsely : Prop := foldLinesRow.holds Tryd.pinned (OpenSpec.ofChange foldLinesWrong)

/-- 'nunciolaw20.ParseBack': WHATEVER THE INPUT: true; the input reads as it did. -/
def parseBackSpec : ChangeSpec := { name := "parseBack", fn := fun _ => fun
  | [d] => { results := [.lit (.bool true)], args := [d] }
  | _ => none }
def parseBackRow : OpenClaim := { program := "ytagokkpnfceidaadoor", sum := "6836563937ef3fdc29e742256d62569d58768bbb9f2baf04ec7a4b4c66c2e42c", func := "nuncio/nunciolaw20.ParseBack", spec := "parseBack", inPlace := ["internal/bytealg.IndexByteString", "internal/bytealg.IndexString", "internal/abi.NoEscape"], unfollowed := true, recurses := true, named := ["internal/bytealg.MaxLen", "unicode/utf8.first", "unicode/utf8.acceptRanges"], loops := true, apart := false, laid := [("unicode/utf8.acceptRanges", laid_unicode_utf8_acceptRanges), ("unicode/utf8.first", laid_unicode_utf8_first)] }
def ParseBackSaid : Prop := parseBackRow.holds Tryd.pinned (OpenSpec.ofChange parseBackSpec)

/-- ITS FALSE NEIGHBOUR: 'it returns false'. Refute it at one input. -/
def parseBackWrong : ChangeSpec := { name := "parseBack", fn := fun _ => fun
  | [d] => { results := [.lit (.bool false)], args := [d] }
  | _ => none }
def ParseBackWrongFalsely : Prop := parseBackRow.holds Tryd.pinned (OpenSpec.ofChange parseBackWrong)

/-- 'nunciolaw20.ParseRemarks': WHATEVER THE INPUT: true; the input reads as it did. -/
def parseRemarksSpec : ChangeSpec := { name := "parseRemarks", fn := fun _ => fun
  | [d1, d2, d3] => { results := [.lit (.bool true)], args := [d1, d2, d3] }
  | _ => none }
def parseRemarksRow : OpenClaim := { program := "ytagokkpnfceidaadoor", sum := "6836563937ef3fdc29e742256d62569d58768bbb9f2baf04ec7a4b4c66c2e42c", func := "nuncio/nunciolaw20.ParseRemarks", spec := "parseRemarks", inPlace := ["internal/bytealg.IndexByteString", "internal/bytealg.IndexString", "internal/abi.NoEscape"], unfollowed := true, recurses := true, named := ["internal/bytealg.MaxLen", "unicode/utf8.first", "unicode/utf8.acceptRanges"], apart := false, laid := [("unicode/utf8.acceptRanges", laid_unicode_utf8_acceptRanges), ("unicode/utf8.first", laid_unicode_utf8_first)] }
def ParseRemarksSaid : Prop := parseRemarksRow.holds Tryd.pinned (OpenSpec.ofChange parseRemarksSpec)

/-- ITS FALSE NEIGHBOUR: 'it returns false'. Refute it at one input. -/
def parseRemarksWrong : ChangeSpec := { name := "parseRemarks", fn := fun _ => fun
  | [d1, d2, d3] => { results := [.lit (.bool false)], args := [d1, d2, d3] }
  | _ => none }
def ParseRemarksWrongFalsely : Prop := parseRemarksRow.holds Tryd.pinned (OpenSpec.ofChange parseRemarksWrong)

/- THE SECOND FORM. 'bulk': how many values and letters a reading holds, each counted each time it is reached (what is shared counts as often as it is met; a slice's spare places count too). A statement '..UptoSaid' is the law's where the arguments, and the package variables that the reading takes, are together of bulk at most 1048576: NARROWER than '..Said'. Prove '..Said' where nothing that the law and all that it calls make is longer than what came in: it says more and counts as full. Else prove '..UptoSaid'. A law counts once. -/
mutual
def uptoBulk {H : Type} : DataW H → Nat
  | .lit (.string bytes) => bytes.length + 1
  | .lit _ => 1
  | .nil => 1
  | .ptr d => uptoBulk d + 1
  | .slice elems spare => uptoBulkAll elems + uptoBulkAll spare + 1
  | .agg parts => uptoBulkAll parts + 1
  | .iface _ d => uptoBulk d + 1
  | .map entries => uptoBulkEntries entries + 1
  | .held _ => 1
def uptoBulkAll {H : Type} : List (DataW H) → Nat
  | [] => 0
  | d :: r => uptoBulk d + uptoBulkAll r
def uptoBulkEntries {H : Type} : List (Lit × DataW H) → Nat
  | [] => 0
  | x :: r => uptoBulkEntry x + uptoBulkEntries r
def uptoBulkEntry {H : Type} : Lit × DataW H → Nat
  | (.string bytes, d) => bytes.length + uptoBulk d + 1
  | (_, d) => uptoBulk d + 1
 end
def uptoSmall : (H : Type) → List (DataW H) → Bool := fun _ ds => decide (uptoBulkAll ds ≤ 1048576)
def OpenSpec.upto (s : _root_.Go.ChangeSpec) : _root_.Go.OpenSpec := { _root_.Go.OpenSpec.ofChange s with cond := some uptoSmall }

/-- 'nunciolaw09.FoldWrites', WHERE WHAT IT READS IS OF BULK AT MOST 1048576: true; the input reads as it did. -/
def foldWritesUptoRow : OpenClaim := { program := "ytagokkpnfceidaadoor", sum := "6836563937ef3fdc29e742256d62569d58768bbb9f2baf04ec7a4b4c66c2e42c", func := "nuncio/nunciolaw09.FoldWrites", spec := "foldWrites", inPlace := ["internal/abi.NoEscape", "internal/bytealg.IndexByteString", "internal/bytealg.IndexString", "internal/bytealg.CountString", "internal/bytealg.MakeNoZero"], unfollowed := true, recurses := true, named := ["nuncio/b64.table", "internal/bytealg.MaxLen", "unicode/utf8.first", "unicode/utf8.acceptRanges"], apart := false, laid := [("unicode/utf8.acceptRanges", laid_unicode_utf8_acceptRanges), ("nuncio/b64.table", laid_nuncio_b64_table), ("unicode/utf8.first", laid_unicode_utf8_first)], narrowed := true }
def FoldWritesUptoSaid : Prop := foldWritesUptoRow.holds Tryd.pinned (OpenSpec.upto foldWritesSpec)

/-- 'nunciolaw09.FoldReads', WHERE WHAT IT READS IS OF BULK AT MOST 1048576: true; the input reads as it did. -/
def foldReadsUptoRow : OpenClaim := { program := "ytagokkpnfceidaadoor", sum := "6836563937ef3fdc29e742256d62569d58768bbb9f2baf04ec7a4b4c66c2e42c", func := "nuncio/nunciolaw09.FoldReads", spec := "foldReads", inPlace := ["internal/abi.NoEscape", "internal/bytealg.IndexByteString", "internal/bytealg.IndexString", "internal/bytealg.CountString", "internal/bytealg.MakeNoZero"], unfollowed := true, recurses := true, named := ["internal/bytealg.MaxLen", "unicode/utf8.first", "unicode/utf8.acceptRanges", "nuncio/b64.table"], apart := false, laid := [("unicode/utf8.acceptRanges", laid_unicode_utf8_acceptRanges), ("nuncio/b64.table", laid_nuncio_b64_table), ("unicode/utf8.first", laid_unicode_utf8_first)], narrowed := true }
def FoldReadsUptoSaid : Prop := foldReadsUptoRow.holds Tryd.pinned (OpenSpec.upto foldReadsSpec)

/-- 'nunciolaw09.FoldBack', WHERE WHAT IT READS IS OF BULK AT MOST 1048576: true; the input reads as it did. -/
def foldBackUptoRow : OpenClaim := { program := "ytagokkpnfceidaadoor", sum := "6836563937ef3fdc29e742256d62569d58768bbb9f2baf04ec7a4b4c66c2e42c", func := "nuncio/nunciolaw09.FoldBack", spec := "foldBack", inPlace := ["internal/abi.NoEscape", "internal/bytealg.IndexByteString", "internal/bytealg.IndexString", "internal/bytealg.CountString", "internal/bytealg.MakeNoZero"], unfollowed := true, recurses := true, named := ["nuncio/b64.table", "internal/bytealg.MaxLen", "unicode/utf8.first", "unicode/utf8.acceptRanges"], apart := false, laid := [("unicode/utf8.acceptRanges", laid_unicode_utf8_acceptRanges), ("nuncio/b64.table", laid_nuncio_b64_table), ("unicode/utf8.first", laid_unicode_utf8_first)], narrowed := true }
def FoldBackUptoSaid : Prop := foldBackUptoRow.holds Tryd.pinned (OpenSpec.upto foldBackSpec)

/-- 'nunciolaw09.FoldLines', WHERE WHAT IT READS IS OF BULK AT MOST 1048576: true; the input reads as it did. -/
def foldLinesUptoRow : OpenClaim := { program := "ytagokkpnfceidaadoor", sum := "6836563937ef3fdc29e742256d62569d58768bbb9f2baf04ec7a4b4c66c2e42c", func := "nuncio/nunciolaw09.FoldLines", spec := "foldLines", inPlace := ["internal/abi.NoEscape", "internal/bytealg.IndexByteString", "internal/bytealg.IndexString", "internal/bytealg.CountString", "internal/bytealg.MakeNoZero"], unfollowed := true, recurses := true, named := ["nuncio/b64.table", "internal/bytealg.MaxLen", "unicode/utf8.first", "unicode/utf8.acceptRanges"], apart := false, laid := [("unicode/utf8.acceptRanges", laid_unicode_utf8_acceptRanges), ("nuncio/b64.table", laid_nuncio_b64_table), ("unicode/utf8.first", laid_unicode_utf8_first)], narrowed := true }
def FoldLinesUptoSaid : Prop := foldLinesUptoRow.holds Tryd.pinned (OpenSpec.upto foldLinesSpec)

/-- 'nunciolaw20.ParseBack', WHERE WHAT IT READS IS OF BULK AT MOST 1048576: true; the input reads as it did. -/
def parseBackUptoRow : OpenClaim := { program := "ytagokkpnfceidaadoor", sum := "6836563937ef3fdc29e742256d62569d58768bbb9f2baf04ec7a4b4c66c2e42c", func := "nuncio/nunciolaw20.ParseBack", spec := "parseBack", inPlace := ["internal/bytealg.IndexByteString", "internal/bytealg.IndexString", "internal/abi.NoEscape"], unfollowed := true, recurses := true, named := ["internal/bytealg.MaxLen", "unicode/utf8.first", "unicode/utf8.acceptRanges"], loops := true, apart := false, laid := [("unicode/utf8.acceptRanges", laid_unicode_utf8_acceptRanges), ("unicode/utf8.first", laid_unicode_utf8_first)], narrowed := true }
def ParseBackUptoSaid : Prop := parseBackUptoRow.holds Tryd.pinned (OpenSpec.upto parseBackSpec)

/-- 'nunciolaw20.ParseRemarks', WHERE WHAT IT READS IS OF BULK AT MOST 1048576: true; the input reads as it did. -/
def parseRemarksUptoRow : OpenClaim := { program := "ytagokkpnfceidaadoor", sum := "6836563937ef3fdc29e742256d62569d58768bbb9f2baf04ec7a4b4c66c2e42c", func := "nuncio/nunciolaw20.ParseRemarks", spec := "parseRemarks", inPlace := ["internal/bytealg.IndexByteString", "internal/bytealg.IndexString", "internal/abi.NoEscape"], unfollowed := true, recurses := true, named := ["internal/bytealg.MaxLen", "unicode/utf8.first", "unicode/utf8.acceptRanges"], apart := false, laid := [("unicode/utf8.acceptRanges", laid_unicode_utf8_acceptRanges), ("unicode/utf8.first", laid_unicode_utf8_first)], narrowed := true }
def ParseRemarksUptoSaid : Prop := parseRemarksUptoRow.holds Tryd.pinned (OpenSpec.upto parseRemarksSpec)

end Rows
end Go.Proofs.YtagokkpnfceidaaDoor
