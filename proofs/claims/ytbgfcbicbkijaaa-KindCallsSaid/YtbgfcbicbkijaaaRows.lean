/-
  No cell of these rows narrows 'for every input' (looked for: loops, veiled, ifaces, maps, wideKeys, modest, calm, conditions, laid).
  DERIVED. THE GIVEN ROWS OF THIS SEAT. 8 by the template 'for every input the law returns true; each argument reads behind the call as it read before'; 0 by the template 'total and deterministic' (their statements: YtbgfcbicbkijaaaTotals.lean).
  GIVEN WITH THE SEED: the statements are not yours to turn. If you find one false, say at which input.
  Laid BY PROGRAM, IN A SANDBOX (cutbox-rows.mjs): the forced cells as the released guide's own fill.sh prints them over the translation d93309f4e20ed7f1… (all of the seat's roots in one cut). By AI agents, Wed Nov 11 2026. No macro, syntax, notation, axiom, sorry.
-/
import Derived.Test.YtbgfcbicbkijaaaChecked
import GoSem.Claim
import GoSem.ClaimJoined
import GoSem.ClaimMapViews
import Derived.JoinedTies
import Derived.KernelRfl
namespace Go.Proofs.Ytbgfcbicbkijaaa
/- THE CELL 'sum', in the pinned program and in every row, IS THE sha256 OF THE DUMP (.gsa) THAT YtbgfcbicbkijaaaProg.lean LOADS. Nothing in Lean hashes anything: it is a label: what it is worth is what the hold of that sum in a sandbox is worth. -/
noncomputable def Try.pinned : Pinned := { name := "ytbgfcbicbkijaaa", sum := "d93309f4e20ed7f123041a9712aac0337a16df2097328e7098fe12a065a03866", checked := Try.checked }
namespace Rows
def none {H : Type} : Left H := { results := [], args := [] }

/-- 'nunciolaw01.OctetPairs': WHATEVER THE INPUT: true; the input reads as it did. -/
def octetPairsSpec : ChangeSpec := { name := "octetPairs", fn := fun _ => fun
  | [d1, d2, d3] => { results := [.lit (.bool true)], args := [d1, d2, d3] }
  | _ => none }
def octetPairsRow : OpenClaim := { program := "ytbgfcbicbkijaaa", sum := "d93309f4e20ed7f123041a9712aac0337a16df2097328e7098fe12a065a03866", func := "nuncio/nunciolaw01.OctetPairs", spec := "octetPairs", inPlace := ["internal/bytealg.IndexByteString"], unfollowed := true, recurses := true, apart := false }
def OctetPairsSaid : Prop := octetPairsRow.holds Try.pinned (OpenSpec.ofChange octetPairsSpec)

/-- ITS FALSE NEIGHBOUR: 'it returns false'. Refute it at one input. -/
def octetPairsWrong : ChangeSpec := { name := "octetPairs", fn := fun _ => fun
  | [d1, d2, d3] => { results := [.lit (.bool false)], args := [d1, d2, d3] }
  | _ => none }
def OctetPairsWrongFalsely : Prop := octetPairsRow.holds Try.pinned (OpenSpec.ofChange octetPairsWrong)

/-- 'nunciolaw01.OctetFolds': WHATEVER THE INPUT: true; the input reads as it did. -/
def octetFoldsSpec : ChangeSpec := { name := "octetFolds", fn := fun _ => fun
  | [d1, d2] => { results := [.lit (.bool true)], args := [d1, d2] }
  | _ => none }
def octetFoldsRow : OpenClaim := { program := "ytbgfcbicbkijaaa", sum := "d93309f4e20ed7f123041a9712aac0337a16df2097328e7098fe12a065a03866", func := "nuncio/nunciolaw01.OctetFolds", spec := "octetFolds", inPlace := ["internal/bytealg.IndexByteString"], unfollowed := true, recurses := true, apart := false }
def OctetFoldsSaid : Prop := octetFoldsRow.holds Try.pinned (OpenSpec.ofChange octetFoldsSpec)

/-- ITS FALSE NEIGHBOUR: 'it returns false'. Refute it at one input. -/
def octetFoldsWrong : ChangeSpec := { name := "octetFolds", fn := fun _ => fun
  | [d1, d2] => { results := [.lit (.bool false)], args := [d1, d2] }
  | _ => none }
def OctetFoldsWrongFalsely : Prop := octetFoldsRow.holds Try.pinned (OpenSpec.ofChange octetFoldsWrong)

/-- 'nunciolaw15.KindCalls': WHATEVER THE INPUT: true; the input reads as it did. -/
def kindCallsSpec : ChangeSpec := { name := "kindCalls", fn := fun _ => fun
  | [d1, d2] => { results := [.lit (.bool true)], args := [d1, d2] }
  | _ => none }
def kindCallsRow : OpenClaim := { program := "ytbgfcbicbkijaaa", sum := "d93309f4e20ed7f123041a9712aac0337a16df2097328e7098fe12a065a03866", func := "nuncio/nunciolaw15.KindCalls", spec := "kindCalls", unfollowed := true, recurses := true, apart := false }
def KindCallsSaid : Prop := kindCallsRow.holds Try.pinned (OpenSpec.ofChange kindCallsSpec)

/-- ITS FALSE NEIGHBOUR: 'it returns false'. Refute it at one input. -/
def kindCallsWrong : ChangeSpec := { name := "kindCalls", fn := fun _ => fun
  | [d1, d2] => { results := [.lit (.bool false)], args := [d1, d2] }
  | _ => none }
def KindCallsWrongFalsely : Prop := kindCallsRow.holds Try.pinned (OpenSpec.ofChange kindCallsWrong)

/-- 'nunciolaw15.KindFields': WHATEVER THE INPUT: true; the input reads as it did. -/
def kindFieldsSpec : ChangeSpec := { name := "kindFields", fn := fun _ => fun
  | [d1, d2] => { results := [.lit (.bool true)], args := [d1, d2] }
  | _ => none }
def kindFieldsRow : OpenClaim := { program := "ytbgfcbicbkijaaa", sum := "d93309f4e20ed7f123041a9712aac0337a16df2097328e7098fe12a065a03866", func := "nuncio/nunciolaw15.KindFields", spec := "kindFields", unfollowed := true, recurses := true, apart := false }
def KindFieldsSaid : Prop := kindFieldsRow.holds Try.pinned (OpenSpec.ofChange kindFieldsSpec)

/-- ITS FALSE NEIGHBOUR: 'it returns false'. Refute it at one input. -/
def kindFieldsWrong : ChangeSpec := { name := "kindFields", fn := fun _ => fun
  | [d1, d2] => { results := [.lit (.bool false)], args := [d1, d2] }
  | _ => none }
def KindFieldsWrongFalsely : Prop := kindFieldsRow.holds Try.pinned (OpenSpec.ofChange kindFieldsWrong)

/-- 'nunciolaw15.KindEach': WHATEVER THE INPUT: true; the input reads as it did. -/
def kindEachSpec : ChangeSpec := { name := "kindEach", fn := fun _ => fun
  | [d] => { results := [.lit (.bool true)], args := [d] }
  | _ => none }
def kindEachRow : OpenClaim := { program := "ytbgfcbicbkijaaa", sum := "d93309f4e20ed7f123041a9712aac0337a16df2097328e7098fe12a065a03866", func := "nuncio/nunciolaw15.KindEach", spec := "kindEach", unfollowed := true, recurses := true, apart := false }
def KindEachSaid : Prop := kindEachRow.holds Try.pinned (OpenSpec.ofChange kindEachSpec)

/-- ITS FALSE NEIGHBOUR: 'it returns false'. Refute it at one input. -/
def kindEachWrong : ChangeSpec := { name := "kindEach", fn := fun _ => fun
  | [d] => { results := [.lit (.bool false)], args := [d] }
  | _ => none }
def KindEachWrongFalsely : Prop := kindEachRow.holds Try.pinned (OpenSpec.ofChange kindEachWrong)

/-- 'nunciolaw01.OctetNumbers': WHATEVER THE INPUT: true; the input reads as it did. -/
def octetNumbersSpec : ChangeSpec := { name := "octetNumbers", fn := fun _ => fun
  | [d1, d2] => { results := [.lit (.bool true)], args := [d1, d2] }
  | _ => none }
def octetNumbersRow : OpenClaim := { program := "ytbgfcbicbkijaaa", sum := "d93309f4e20ed7f123041a9712aac0337a16df2097328e7098fe12a065a03866", func := "nuncio/nunciolaw01.OctetNumbers", spec := "octetNumbers", inPlace := ["internal/bytealg.IndexByteString"], unfollowed := true, recurses := true, apart := false }
def OctetNumbersSaid : Prop := octetNumbersRow.holds Try.pinned (OpenSpec.ofChange octetNumbersSpec)

/-- ITS FALSE NEIGHBOUR: 'it returns false'. Refute it at one input. -/
def octetNumbersWrong : ChangeSpec := { name := "octetNumbers", fn := fun _ => fun
  | [d1, d2] => { results := [.lit (.bool false)], args := [d1, d2] }
  | _ => none }
def OctetNumbersWrongFalsely : Prop := octetNumbersRow.holds Try.pinned (OpenSpec.ofChange octetNumbersWrong)

/-- 'nunciolaw15.KindNames': WHATEVER THE INPUT: true; the input reads as it did. -/
def kindNamesSpec : ChangeSpec := { name := "kindNames", fn := fun _ => fun
  | [d1, d2] => { results := [.lit (.bool true)], args := [d1, d2] }
  | _ => none }
def kindNamesRow : OpenClaim := { program := "ytbgfcbicbkijaaa", sum := "d93309f4e20ed7f123041a9712aac0337a16df2097328e7098fe12a065a03866", func := "nuncio/nunciolaw15.KindNames", spec := "kindNames", unfollowed := true, recurses := true, apart := false }
def KindNamesSaid : Prop := kindNamesRow.holds Try.pinned (OpenSpec.ofChange kindNamesSpec)

/-- ITS FALSE NEIGHBOUR: 'it returns false'. Refute it at one input. -/
def kindNamesWrong : ChangeSpec := { name := "kindNames", fn := fun _ => fun
  | [d1, d2] => { results := [.lit (.bool false)], args := [d1, d2] }
  | _ => none }
def KindNamesWrongFalsely : Prop := kindNamesRow.holds Try.pinned (OpenSpec.ofChange kindNamesWrong)

/-- 'nunciolaw01.OctetCuts': WHATEVER THE INPUT: true; the input reads as it did. -/
def octetCutsSpec : ChangeSpec := { name := "octetCuts", fn := fun _ => fun
  | [d1, d2] => { results := [.lit (.bool true)], args := [d1, d2] }
  | _ => none }
def octetCutsRow : OpenClaim := { program := "ytbgfcbicbkijaaa", sum := "d93309f4e20ed7f123041a9712aac0337a16df2097328e7098fe12a065a03866", func := "nuncio/nunciolaw01.OctetCuts", spec := "octetCuts", inPlace := ["internal/bytealg.IndexByteString", "internal/abi.NoEscape", "internal/bytealg.MakeNoZero"], unfollowed := true, recurses := true, apart := false }
def OctetCutsSaid : Prop := octetCutsRow.holds Try.pinned (OpenSpec.ofChange octetCutsSpec)

/-- ITS FALSE NEIGHBOUR: 'it returns false'. Refute it at one input. -/
def octetCutsWrong : ChangeSpec := { name := "octetCuts", fn := fun _ => fun
  | [d1, d2] => { results := [.lit (.bool false)], args := [d1, d2] }
  | _ => none }
def OctetCutsWrongFalsely : Prop := octetCutsRow.holds Try.pinned (OpenSpec.ofChange octetCutsWrong)

/- THE SECOND FORM. 'bulk': how many values and letters a reading holds, each counted each time it is reached (what is shared counts as often as it is met; a slice's spare places count too). A statement '..UptoSaid' is the law's where the arguments, and the package variables that the reading takes, are together of bulk at most 1048576: NARROWER than '..Said'. Prove '..Said' where nothing that the law and all that it calls make is longer than what came in: it says more and counts as full. Else prove '..UptoSaid'. A law counts once. -/
mutual
def uptoBulk {H : Type} : DataW H → Nat
  | .lit (.string bytes) => bytes.length + 1
  | .lit _ => 1
  | .nil => 1
  | .ptr d => uptoBulk d + 1
  | .slice elems spare => uptoBulkAll elems + uptoBulkAll spare + 1
  | .agg parts => uptoBulkAll parts + 1
  | .iface _ d => uptoBulk d + 1
  | .map entries => uptoBulkEntries entries + 1
  | .held _ => 1
def uptoBulkAll {H : Type} : List (DataW H) → Nat
  | [] => 0
  | d :: r => uptoBulk d + uptoBulkAll r
def uptoBulkEntries {H : Type} : List (Lit × DataW H) → Nat
  | [] => 0
  | x :: r => uptoBulkEntry x + uptoBulkEntries r
def uptoBulkEntry {H : Type} : Lit × DataW H → Nat
  | (.string bytes, d) => bytes.length + uptoBulk d + 1
  | (_, d) => uptoBulk d + 1
 end
def uptoSmall : (H : Type) → List (DataW H) → Bool := fun _ ds => decide (uptoBulkAll ds ≤ 1048576)
def OpenSpec.upto (s : _root_.Go.ChangeSpec) : _root_.Go.OpenSpec := { _root_.Go.OpenSpec.ofChange s with cond := some uptoSmall }

/-- 'nunciolaw01.OctetPairs', WHERE WHAT IT READS IS OF BULK AT MOST 1048576: true; the input reads as it did. -/
def octetPairsUptoRow : OpenClaim := { program := "ytbgfcbicbkijaaa", sum := "d93309f4e20ed7f123041a9712aac0337a16df2097328e7098fe12a065a03866", func := "nuncio/nunciolaw01.OctetPairs", spec := "octetPairs", inPlace := ["internal/bytealg.IndexByteString"], unfollowed := true, recurses := true, apart := false, narrowed := true }
def OctetPairsUptoSaid : Prop := octetPairsUptoRow.holds Try.pinned (OpenSpec.upto octetPairsSpec)

/-- 'nunciolaw01.OctetFolds', WHERE WHAT IT READS IS OF BULK AT MOST 1048576: true; the input reads as it did. -/
def octetFoldsUptoRow : OpenClaim := { program := "ytbgfcbicbkijaaa", sum := "d93309f4e20ed7f123041a9712aac0337a16df2097328e7098fe12a065a03866", func := "nuncio/nunciolaw01.OctetFolds", spec := "octetFolds", inPlace := ["internal/bytealg.IndexByteString"], unfollowed := true, recurses := true, apart := false, narrowed := true }
def OctetFoldsUptoSaid : Prop := octetFoldsUptoRow.holds Try.pinned (OpenSpec.upto octetFoldsSpec)

/-- 'nunciolaw15.KindCalls', WHERE WHAT IT READS IS OF BULK AT MOST 1048576: true; the input reads as it did. -/
def kindCallsUptoRow : OpenClaim := { program := "ytbgfcbicbkijaaa", sum := "d93309f4e20ed7f123041a9712aac0337a16df2097328e7098fe12a065a03866", func := "nuncio/nunciolaw15.KindCalls", spec := "kindCalls", unfollowed := true, recurses := true, apart := false, narrowed := true }
def KindCallsUptoSaid : Prop := kindCallsUptoRow.holds Try.pinned (OpenSpec.upto kindCallsSpec)

/-- 'nunciolaw15.KindFields', WHERE WHAT IT READS IS OF BULK AT MOST 1048576: true; the input reads as it did. -/
def kindFieldsUptoRow : OpenClaim := { program := "ytbgfcbicbkijaaa", sum := "d93309f4e20ed7f123041a9712aac0337a16df2097328e7098fe12a065a03866", func := "nuncio/nunciolaw15.KindFields", spec := "kindFields", unfollowed := true, recurses := true, apart := false, narrowed := true }
def KindFieldsUptoSaid : Prop := kindFieldsUptoRow.holds Try.pinned (OpenSpec.upto kindFieldsSpec)

/-- 'nunciolaw15.KindEach', WHERE WHAT IT READS IS OF BULK AT MOST 1048576: true; the input reads as it did. -/
def kindEachUptoRow : OpenClaim := { program := "ytbgfcbicbkijaaa", sum := "d93309f4e20ed7f123041a9712aac0337a16df2097328e7098fe12a065a03866", func := "nuncio/nunciolaw15.KindEach", spec := "kindEach", unfollowed := true, recurses := true, apart := false, narrowed := true }
def KindEachUptoSaid : Prop := kindEachUptoRow.holds Try.pinned (OpenSpec.upto kindEachSpec)

/-- 'nunciolaw01.OctetNumbers', WHERE WHAT IT READS IS OF BULK AT MOST 1048576: true; the input reads as it did. -/
def octetNumbersUptoRow : OpenClaim := { program := "ytbgfcbicbkijaaa", sum := "d93309f4e20ed7f123041a9712aac0337a16df2097328e7098fe12a065a03866", func := "nuncio/nunciolaw01.OctetNumbers", spec := "octetNumbers", inPlace := ["internal/bytealg.IndexByteString"], unfollowed := true, recurses := true, apart := false, narrowed := true }
def OctetNumbersUptoSaid : Prop := octetNumbersUptoRow.holds Try.pinned (OpenSpec.upto octetNumbersSpec)

/-- 'nunciolaw15.KindNames', WHERE WHAT IT READS IS OF BULK AT MOST 1048576: true; the input reads as it did. -/
def kindNamesUptoRow : OpenClaim := { program := "ytbgfcbicbkijaaa", sum := "d93309f4e20ed7f123041a9712aac0337a16df2097328e7098fe12a065a03866", func := "nuncio/nunciolaw15.KindNames", spec := "kindNames", unfollowed := true, recurses := true, apart := false, narrowed := true }
def KindNamesUptoSaid : Prop := kindNamesUptoRow.holds Try.pinned (OpenSpec.upto kindNamesSpec)

/-- 'nunciolaw01.OctetCuts', WHERE WHAT IT READS IS OF BULK AT MOST 1048576: true; the input reads as it did. -/
def octetCutsUptoRow : OpenClaim := { program := "ytbgfcbicbkijaaa", sum := "d93309f4e20ed7f123041a9712aac0337a16df2097328e7098fe12a065a03866", func := "nuncio/nunciolaw01.OctetCuts", spec := "octetCuts", inPlace := ["internal/bytealg.IndexByteString", "internal/abi.NoEscape", "internal/bytealg.MakeNoZero"], unfollowed := true, recurses := true, apart := false, narrowed := true }
def OctetCutsUptoSaid : Prop := octetCutsUptoRow.holds Try.pinned (OpenSpec.upto octetCutsSpec)

end Rows
end Go.Proofs.Ytbgfcbicbkijaaa
