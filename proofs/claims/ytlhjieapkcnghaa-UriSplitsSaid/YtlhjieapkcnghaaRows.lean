/-
  NARROWER THAN 'FOR EVERY INPUT', by the rows' own cells (each row's printed sentence says how): TreeIs: loops · TreePrints: loops · TreeSames: loops.
  DERIVED. THE GIVEN ROWS OF THIS SEAT. 7 by the template 'for every input the law returns true; each argument reads behind the call as it read before'; 0 by the template 'total and deterministic' (their statements: YtlhjieapkcnghaaTotals.lean).
  GIVEN WITH THE SEED: the statements are not yours to turn. If you find one false, say at which input.
  Laid BY PROGRAM, IN A SANDBOX (cutbox-rows.mjs): the forced cells as the released guide's own fill.sh prints them over the translation 744d88e546381072… (all of the seat's roots in one cut). By AI agents, Wed Nov 11 2026. No macro, syntax, notation, axiom, sorry.
-/
import Derived.Test.YtlhjieapkcnghaaChecked
import GoSem.Claim
import GoSem.ClaimJoined
import GoSem.ClaimMapViews
import Derived.JoinedTies
import Derived.KernelRfl
namespace Go.Proofs.Ytlhjieapkcnghaa
/- THE CELL 'sum', in the pinned program and in every row, IS THE sha256 OF THE DUMP (.gsa) THAT YtlhjieapkcnghaaProg.lean LOADS. Nothing in Lean hashes anything: it is a label: what it is worth is what the hold of that sum in a sandbox is worth. -/
noncomputable def Try.pinned : Pinned := { name := "ytlhjieapkcnghaa", sum := "744d88e5463810720883e2b9005ba7cd22f49ba9e5b5a7c93ee03637b9bdcf7d", checked := Try.checked }
namespace Rows
def none {H : Type} : Left H := { results := [], args := [] }

/-- 'nunciolaw12.UriSplits': WHATEVER THE INPUT: true; the input reads as it did. -/
def uriSplitsSpec : ChangeSpec := { name := "uriSplits", fn := fun _ => fun
  | [d] => { results := [.lit (.bool true)], args := [d] }
  | _ => none }
def uriSplitsRow : OpenClaim := { program := "ytlhjieapkcnghaa", sum := "744d88e5463810720883e2b9005ba7cd22f49ba9e5b5a7c93ee03637b9bdcf7d", func := "nuncio/nunciolaw12.UriSplits", spec := "uriSplits", inPlace := ["internal/bytealg.IndexByteString", "internal/bytealg.IndexString", "internal/abi.NoEscape"], unfollowed := true, recurses := true, named := ["internal/bytealg.MaxLen"], apart := false }
def UriSplitsSaid : Prop := uriSplitsRow.holds Try.pinned (OpenSpec.ofChange uriSplitsSpec)

/-- ITS FALSE NEIGHBOUR: 'it returns false'. Refute it at one input. -/
def uriSplitsWrong : ChangeSpec := { name := "uriSplits", fn := fun _ => fun
  | [d] => { results := [.lit (.bool false)], args := [d] }
  | _ => none }
def UriSplitsWrongFalsely : Prop := uriSplitsRow.holds Try.pinned (OpenSpec.ofChange uriSplitsWrong)

/-- 'nunciolaw12.UriTexts': WHATEVER THE INPUT: true; the input reads as it did. -/
def uriTextsSpec : ChangeSpec := { name := "uriTexts", fn := fun _ => fun
  | [d] => { results := [.lit (.bool true)], args := [d] }
  | _ => none }
def uriTextsRow : OpenClaim := { program := "ytlhjieapkcnghaa", sum := "744d88e5463810720883e2b9005ba7cd22f49ba9e5b5a7c93ee03637b9bdcf7d", func := "nuncio/nunciolaw12.UriTexts", spec := "uriTexts", inPlace := ["internal/abi.NoEscape", "internal/bytealg.IndexByteString", "internal/bytealg.IndexString"], unfollowed := true, recurses := true, named := ["internal/bytealg.MaxLen"], apart := false }
def UriTextsSaid : Prop := uriTextsRow.holds Try.pinned (OpenSpec.ofChange uriTextsSpec)

/-- ITS FALSE NEIGHBOUR: 'it returns false'. Refute it at one input. -/
def uriTextsWrong : ChangeSpec := { name := "uriTexts", fn := fun _ => fun
  | [d] => { results := [.lit (.bool false)], args := [d] }
  | _ => none }
def UriTextsWrongFalsely : Prop := uriTextsRow.holds Try.pinned (OpenSpec.ofChange uriTextsWrong)

/-- 'nunciolaw19.TreeIs': WHATEVER THE INPUT: true; the input reads as it did. -/
def treeIsSpec : ChangeSpec := { name := "treeIs", fn := fun _ => fun
  | [d1, d2] => { results := [.lit (.bool true)], args := [d1, d2] }
  | _ => none }
def treeIsRow : OpenClaim := { program := "ytlhjieapkcnghaa", sum := "744d88e5463810720883e2b9005ba7cd22f49ba9e5b5a7c93ee03637b9bdcf7d", func := "nuncio/nunciolaw19.TreeIs", spec := "treeIs", inPlace := ["internal/bytealg.IndexByteString", "internal/bytealg.IndexString", "internal/abi.NoEscape"], unfollowed := true, recurses := true, named := ["internal/bytealg.MaxLen"], loops := true, apart := false }
def TreeIsSaid : Prop := treeIsRow.holds Try.pinned (OpenSpec.ofChange treeIsSpec)

/-- ITS FALSE NEIGHBOUR: 'it returns false'. Refute it at one input. -/
def treeIsWrong : ChangeSpec := { name := "treeIs", fn := fun _ => fun
  | [d1, d2] => { results := [.lit (.bool false)], args := [d1, d2] }
  | _ => none }
def TreeIsWrongFalsely : Prop := treeIsRow.holds Try.pinned (OpenSpec.ofChange treeIsWrong)

/-- 'nunciolaw19.TreePrints': WHATEVER THE INPUT: true; the input reads as it did. -/
def treePrintsSpec : ChangeSpec := { name := "treePrints", fn := fun _ => fun
  | [d] => { results := [.lit (.bool true)], args := [d] }
  | _ => none }
def treePrintsRow : OpenClaim := { program := "ytlhjieapkcnghaa", sum := "744d88e5463810720883e2b9005ba7cd22f49ba9e5b5a7c93ee03637b9bdcf7d", func := "nuncio/nunciolaw19.TreePrints", spec := "treePrints", inPlace := ["internal/bytealg.IndexByteString", "internal/bytealg.IndexString", "internal/abi.NoEscape"], unfollowed := true, recurses := true, named := ["internal/bytealg.MaxLen"], loops := true, apart := false }
def TreePrintsSaid : Prop := treePrintsRow.holds Try.pinned (OpenSpec.ofChange treePrintsSpec)

/-- ITS FALSE NEIGHBOUR: 'it returns false'. Refute it at one input. -/
def treePrintsWrong : ChangeSpec := { name := "treePrints", fn := fun _ => fun
  | [d] => { results := [.lit (.bool false)], args := [d] }
  | _ => none }
def TreePrintsWrongFalsely : Prop := treePrintsRow.holds Try.pinned (OpenSpec.ofChange treePrintsWrong)

/-- 'nunciolaw19.TreeLong': WHATEVER THE INPUT: true; the input reads as it did. -/
def treeLongSpec : ChangeSpec := { name := "treeLong", fn := fun _ => fun
  | [d1, d2, d3] => { results := [.lit (.bool true)], args := [d1, d2, d3] }
  | _ => none }
def treeLongRow : OpenClaim := { program := "ytlhjieapkcnghaa", sum := "744d88e5463810720883e2b9005ba7cd22f49ba9e5b5a7c93ee03637b9bdcf7d", func := "nuncio/nunciolaw19.TreeLong", spec := "treeLong", inPlace := ["internal/bytealg.IndexByteString", "internal/bytealg.IndexString", "internal/abi.NoEscape"], unfollowed := true, recurses := true, named := ["internal/bytealg.MaxLen"], apart := false }
def TreeLongSaid : Prop := treeLongRow.holds Try.pinned (OpenSpec.ofChange treeLongSpec)

/-- ITS FALSE NEIGHBOUR: 'it returns false'. Refute it at one input. -/
def treeLongWrong : ChangeSpec := { name := "treeLong", fn := fun _ => fun
  | [d1, d2, d3] => { results := [.lit (.bool false)], args := [d1, d2, d3] }
  | _ => none }
def TreeLongWrongFalsely : Prop := treeLongRow.holds Try.pinned (OpenSpec.ofChange treeLongWrong)

/-- 'nunciolaw19.TreeBounds': WHATEVER THE INPUT: true; the input reads as it did. -/
def treeBoundsSpec : ChangeSpec := { name := "treeBounds", fn := fun _ => fun
  | [d1, d2, d3] => { results := [.lit (.bool true)], args := [d1, d2, d3] }
  | _ => none }
def treeBoundsRow : OpenClaim := { program := "ytlhjieapkcnghaa", sum := "744d88e5463810720883e2b9005ba7cd22f49ba9e5b5a7c93ee03637b9bdcf7d", func := "nuncio/nunciolaw19.TreeBounds", spec := "treeBounds", inPlace := ["internal/bytealg.IndexByteString", "internal/bytealg.IndexString", "internal/abi.NoEscape"], unfollowed := true, recurses := true, named := ["internal/bytealg.MaxLen"], apart := false }
def TreeBoundsSaid : Prop := treeBoundsRow.holds Try.pinned (OpenSpec.ofChange treeBoundsSpec)

/-- ITS FALSE NEIGHBOUR: 'it returns false'. Refute it at one input. -/
def treeBoundsWrong : ChangeSpec := { name := "treeBounds", fn := fun _ => fun
  | [d1, d2, d3] => { results := [.lit (.bool false)], args := [d1, d2, d3] }
  | _ => none }
def TreeBoundsWrongFalsely : Prop := treeBoundsRow.holds Try.pinned (OpenSpec.ofChange treeBoundsWrong)

/-- 'nunciolaw19.TreeSames': WHATEVER THE INPUT: true; the input reads as it did. -/
def treeSamesSpec : ChangeSpec := { name := "treeSames", fn := fun _ => fun
  | [d1, d2] => { results := [.lit (.bool true)], args := [d1, d2] }
  | _ => none }
def treeSamesRow : OpenClaim := { program := "ytlhjieapkcnghaa", sum := "744d88e5463810720883e2b9005ba7cd22f49ba9e5b5a7c93ee03637b9bdcf7d", func := "nuncio/nunciolaw19.TreeSames", spec := "treeSames", inPlace := ["internal/bytealg.IndexByteString", "internal/bytealg.IndexString", "internal/abi.NoEscape"], unfollowed := true, recurses := true, named := ["internal/bytealg.MaxLen"], loops := true, apart := false }
def TreeSamesSaid : Prop := treeSamesRow.holds Try.pinned (OpenSpec.ofChange treeSamesSpec)

/-- ITS FALSE NEIGHBOUR: 'it returns false'. Refute it at one input. -/
def treeSamesWrong : ChangeSpec := { name := "treeSames", fn := fun _ => fun
  | [d1, d2] => { results := [.lit (.bool false)], args := [d1, d2] }
  | _ => none }
def TreeSamesWrongFalsely : Prop := treeSamesRow.holds Try.pinned (OpenSpec.ofChange treeSamesWrong)

/- THE SECOND FORM. 'bulk': how many values and letters a reading holds, each counted each time it is reached (what is shared counts as often as it is met; a slice's spare places count too). A statement '..UptoSaid' is the law's where the arguments, and the package variables that the reading takes, are together of bulk at most 1048576: NARROWER than '..Said'. Prove '..Said' where nothing that the law and all that it calls make is longer than what came in: it says more and counts as full. Else prove '..UptoSaid'. A law counts once. -/
mutual
def uptoBulk {H : Type} : DataW H → Nat
  | .lit (.string bytes) => bytes.length + 1
  | .lit _ => 1
  | .nil => 1
  | .ptr d => uptoBulk d + 1
  | .slice elems spare => uptoBulkAll elems + uptoBulkAll spare + 1
  | .agg parts => uptoBulkAll parts + 1
  | .iface _ d => uptoBulk d + 1
  | .map entries => uptoBulkEntries entries + 1
  | .held _ => 1
def uptoBulkAll {H : Type} : List (DataW H) → Nat
  | [] => 0
  | d :: r => uptoBulk d + uptoBulkAll r
def uptoBulkEntries {H : Type} : List (Lit × DataW H) → Nat
  | [] => 0
  | x :: r => uptoBulkEntry x + uptoBulkEntries r
def uptoBulkEntry {H : Type} : Lit × DataW H → Nat
  | (.string bytes, d) => bytes.length + uptoBulk d + 1
  | (_, d) => uptoBulk d + 1
 end
def uptoSmall : (H : Type) → List (DataW H) → Bool := fun _ ds => decide (uptoBulkAll ds ≤ 1048576)
def OpenSpec.upto (s : _root_.Go.ChangeSpec) : _root_.Go.OpenSpec := { _root_.Go.OpenSpec.ofChange s with cond := some uptoSmall }

/-- 'nunciolaw12.UriSplits', WHERE WHAT IT READS IS OF BULK AT MOST 1048576: true; the input reads as it did. -/
def uriSplitsUptoRow : OpenClaim := { program := "ytlhjieapkcnghaa", sum := "744d88e5463810720883e2b9005ba7cd22f49ba9e5b5a7c93ee03637b9bdcf7d", func := "nuncio/nunciolaw12.UriSplits", spec := "uriSplits", inPlace := ["internal/bytealg.IndexByteString", "internal/bytealg.IndexString", "internal/abi.NoEscape"], unfollowed := true, recurses := true, named := ["internal/bytealg.MaxLen"], apart := false, narrowed := true }
def UriSplitsUptoSaid : Prop := uriSplitsUptoRow.holds Try.pinned (OpenSpec.upto uriSplitsSpec)

/-- 'nunciolaw12.UriTexts', WHERE WHAT IT READS IS OF BULK AT MOST 1048576: true; the input reads as it did. -/
def uriTextsUptoRow : OpenClaim := { program := "ytlhjieapkcnghaa", sum := "744d88e5463810720883e2b9005ba7cd22f49ba9e5b5a7c93ee03637b9bdcf7d", func := "nuncio/nunciolaw12.UriTexts", spec := "uriTexts", inPlace := ["internal/abi.NoEscape", "internal/bytealg.IndexByteString", "internal/bytealg.IndexString"], unfollowed := true, recurses := true, named := ["internal/bytealg.MaxLen"], apart := false, narrowed := true }
def UriTextsUptoSaid : Prop := uriTextsUptoRow.holds Try.pinned (OpenSpec.upto uriTextsSpec)

/-- 'nunciolaw19.TreeIs', WHERE WHAT IT READS IS OF BULK AT MOST 1048576: true; the input reads as it did. -/
def treeIsUptoRow : OpenClaim := { program := "ytlhjieapkcnghaa", sum := "744d88e5463810720883e2b9005ba7cd22f49ba9e5b5a7c93ee03637b9bdcf7d", func := "nuncio/nunciolaw19.TreeIs", spec := "treeIs", inPlace := ["internal/bytealg.IndexByteString", "internal/bytealg.IndexString", "internal/abi.NoEscape"], unfollowed := true, recurses := true, named := ["internal/bytealg.MaxLen"], loops := true, apart := false, narrowed := true }
def TreeIsUptoSaid : Prop := treeIsUptoRow.holds Try.pinned (OpenSpec.upto treeIsSpec)

/-- 'nunciolaw19.TreePrints', WHERE WHAT IT READS IS OF BULK AT MOST 1048576: true; the input reads as it did. -/
def treePrintsUptoRow : OpenClaim := { program := "ytlhjieapkcnghaa", sum := "744d88e5463810720883e2b9005ba7cd22f49ba9e5b5a7c93ee03637b9bdcf7d", func := "nuncio/nunciolaw19.TreePrints", spec := "treePrints", inPlace := ["internal/bytealg.IndexByteString", "internal/bytealg.IndexString", "internal/abi.NoEscape"], unfollowed := true, recurses := true, named := ["internal/bytealg.MaxLen"], loops := true, apart := false, narrowed := true }
def TreePrintsUptoSaid : Prop := treePrintsUptoRow.holds Try.pinned (OpenSpec.upto treePrintsSpec)

/-- 'nunciolaw19.TreeLong', WHERE WHAT IT READS IS OF BULK AT MOST 1048576: true; the input reads as it did. -/
def treeLongUptoRow : OpenClaim := { program := "ytlhjieapkcnghaa", sum := "744d88e5463810720883e2b9005ba7cd22f49ba9e5b5a7c93ee03637b9bdcf7d", func := "nuncio/nunciolaw19.TreeLong", spec := "treeLong", inPlace := ["internal/bytealg.IndexByteString", "internal/bytealg.IndexString", "internal/abi.NoEscape"], unfollowed := true, recurses := true, named := ["internal/bytealg.MaxLen"], apart := false, narrowed := true }
def TreeLongUptoSaid : Prop := treeLongUptoRow.holds Try.pinned (OpenSpec.upto treeLongSpec)

/-- 'nunciolaw19.TreeBounds', WHERE WHAT IT READS IS OF BULK AT MOST 1048576: true; the input reads as it did. -/
def treeBoundsUptoRow : OpenClaim := { program := "ytlhjieapkcnghaa", sum := "744d88e5463810720883e2b9005ba7cd22f49ba9e5b5a7c93ee03637b9bdcf7d", func := "nuncio/nunciolaw19.TreeBounds", spec := "treeBounds", inPlace := ["internal/bytealg.IndexByteString", "internal/bytealg.IndexString", "internal/abi.NoEscape"], unfollowed := true, recurses := true, named := ["internal/bytealg.MaxLen"], apart := false, narrowed := true }
def TreeBoundsUptoSaid : Prop := treeBoundsUptoRow.holds Try.pinned (OpenSpec.upto treeBoundsSpec)

/-- 'nunciolaw19.TreeSames', WHERE WHAT IT READS IS OF BULK AT MOST 1048576: true; the input reads as it did. -/
def treeSamesUptoRow : OpenClaim := { program := "ytlhjieapkcnghaa", sum := "744d88e5463810720883e2b9005ba7cd22f49ba9e5b5a7c93ee03637b9bdcf7d", func := "nuncio/nunciolaw19.TreeSames", spec := "treeSames", inPlace := ["internal/bytealg.IndexByteString", "internal/bytealg.IndexString", "internal/abi.NoEscape"], unfollowed := true, recurses := true, named := ["internal/bytealg.MaxLen"], loops := true, apart := false, narrowed := true }
def TreeSamesUptoSaid : Prop := treeSamesUptoRow.holds Try.pinned (OpenSpec.upto treeSamesSpec)

end Rows
end Go.Proofs.Ytlhjieapkcnghaa
