/-
  NARROWER THAN 'FOR EVERY INPUT', by the rows' own cells (each row's printed sentence says how): CallsChecks: loops · CallsOrders: loops · SecrecyExprs: loops · SecrecyChecks: loops · SecrecyFree: loops · InferChecks: loops · InferMore: loops.
  DERIVED. THE GIVEN ROWS OF THIS SEAT. 9 by the template 'for every input the law returns true; each argument reads behind the call as it read before'; 0 by the template 'total and deterministic' (their statements: YtfgegilhjlnohaaGreatTotals.lean).
  GIVEN WITH THE SEED: the statements are not yours to turn. If you find one false, say at which input.
  Laid BY PROGRAM, IN A SANDBOX (cutbox-rows.mjs): the forced cells as the released guide's own fill.sh prints them over the translation 39dbb3ceb76b69e8… (all of the seat's roots in one cut). By AI agents, Wed Nov 11 2026. No macro, syntax, notation, axiom, sorry.
-/
import Derived.Test.YtfgegilhjlnohaaGreatChecked
import GoSem.Claim
import GoSem.ClaimJoined
import GoSem.ClaimMapViews
import Derived.JoinedTies
import Derived.KernelRfl
namespace Go.Proofs.YtfgegilhjlnohaaGreat
/- THE CELL 'sum', in the pinned program and in every row, IS THE sha256 OF THE DUMP (.gsa) THAT YtfgegilhjlnohaaGreatProg.lean LOADS. Nothing in Lean hashes anything: it is a label: what it is worth is what the hold of that sum in a sandbox is worth. -/
noncomputable def Tryz.pinned : Pinned := { name := "ytfgegilhjlnohaagreat", sum := "39dbb3ceb76b69e8c5b7724f68000f059617f749a63039952b1b44c56be5b3a7", checked := Tryz.checked }
namespace Rows
def none {H : Type} : Left H := { results := [], args := [] }

/-- 'nunciolaw21.CallsChecks': WHATEVER THE INPUT: true; the input reads as it did. -/
def callsChecksSpec : ChangeSpec := { name := "callsChecks", fn := fun _ => fun
  | [d] => { results := [.lit (.bool true)], args := [d] }
  | _ => none }
def callsChecksRow : OpenClaim := { program := "ytfgegilhjlnohaagreat", sum := "39dbb3ceb76b69e8c5b7724f68000f059617f749a63039952b1b44c56be5b3a7", func := "nuncio/nunciolaw21.CallsChecks", spec := "callsChecks", inPlace := ["internal/bytealg.IndexByteString", "internal/bytealg.IndexString"], unfollowed := true, recurses := true, named := ["internal/bytealg.MaxLen"], loops := true, plainKeys := false, apart := false }
def CallsChecksSaid : Prop := callsChecksRow.holds Tryz.pinned (OpenSpec.ofChange callsChecksSpec)

/-- ITS FALSE NEIGHBOUR: 'it returns false'. Refute it at one input. -/
def callsChecksWrong : ChangeSpec := { name := "callsChecks", fn := fun _ => fun
  | [d] => { results := [.lit (.bool false)], args := [d] }
  | _ => none }
def CallsChecksWrongFalsely : Prop := callsChecksRow.holds Tryz.pinned (OpenSpec.ofChange callsChecksWrong)

/-- 'nunciolaw21.CallsOrders': WHATEVER THE INPUT: true; the input reads as it did. -/
def callsOrdersSpec : ChangeSpec := { name := "callsOrders", fn := fun _ => fun
  | [d1, d2] => { results := [.lit (.bool true)], args := [d1, d2] }
  | _ => none }
def callsOrdersRow : OpenClaim := { program := "ytfgegilhjlnohaagreat", sum := "39dbb3ceb76b69e8c5b7724f68000f059617f749a63039952b1b44c56be5b3a7", func := "nuncio/nunciolaw21.CallsOrders", spec := "callsOrders", inPlace := ["internal/bytealg.IndexByteString", "internal/bytealg.IndexString"], unfollowed := true, recurses := true, named := ["internal/bytealg.MaxLen"], loops := true, plainKeys := false, apart := false }
def CallsOrdersSaid : Prop := callsOrdersRow.holds Tryz.pinned (OpenSpec.ofChange callsOrdersSpec)

/-- ITS FALSE NEIGHBOUR: 'it returns false'. Refute it at one input. -/
def callsOrdersWrong : ChangeSpec := { name := "callsOrders", fn := fun _ => fun
  | [d1, d2] => { results := [.lit (.bool false)], args := [d1, d2] }
  | _ => none }
def CallsOrdersWrongFalsely : Prop := callsOrdersRow.holds Tryz.pinned (OpenSpec.ofChange callsOrdersWrong)

/-- 'nunciolaw23.SecrecyExprs': WHATEVER THE INPUT: true; the input reads as it did. -/
def secrecyExprsSpec : ChangeSpec := { name := "secrecyExprs", fn := fun _ => fun
  | [d1, d2, d3] => { results := [.lit (.bool true)], args := [d1, d2, d3] }
  | _ => none }
def secrecyExprsRow : OpenClaim := { program := "ytfgegilhjlnohaagreat", sum := "39dbb3ceb76b69e8c5b7724f68000f059617f749a63039952b1b44c56be5b3a7", func := "nuncio/nunciolaw23.SecrecyExprs", spec := "secrecyExprs", inPlace := ["internal/bytealg.IndexByteString", "internal/bytealg.IndexString"], unfollowed := true, recurses := true, named := ["internal/bytealg.MaxLen"], loops := true, plainKeys := false, apart := false }
def SecrecyExprsSaid : Prop := secrecyExprsRow.holds Tryz.pinned (OpenSpec.ofChange secrecyExprsSpec)

/-- ITS FALSE NEIGHBOUR: 'it returns false'. Refute it at one input. -/
def secrecyExprsWrong : ChangeSpec := { name := "secrecyExprs", fn := fun _ => fun
  | [d1, d2, d3] => { results := [.lit (.bool false)], args := [d1, d2, d3] }
  | _ => none }
def SecrecyExprsWrongFalsely : Prop := secrecyExprsRow.holds Tryz.pinned (OpenSpec.ofChange secrecyExprsWrong)

/-- 'nunciolaw23.SecrecyChecks': WHATEVER THE INPUT: true; the input reads as it did. -/
def secrecyChecksSpec : ChangeSpec := { name := "secrecyChecks", fn := fun _ => fun
  | [d1, d2] => { results := [.lit (.bool true)], args := [d1, d2] }
  | _ => none }
def secrecyChecksRow : OpenClaim := { program := "ytfgegilhjlnohaagreat", sum := "39dbb3ceb76b69e8c5b7724f68000f059617f749a63039952b1b44c56be5b3a7", func := "nuncio/nunciolaw23.SecrecyChecks", spec := "secrecyChecks", inPlace := ["internal/bytealg.IndexByteString", "internal/bytealg.IndexString"], unfollowed := true, recurses := true, named := ["internal/bytealg.MaxLen"], loops := true, plainKeys := false, apart := false }
def SecrecyChecksSaid : Prop := secrecyChecksRow.holds Tryz.pinned (OpenSpec.ofChange secrecyChecksSpec)

/-- ITS FALSE NEIGHBOUR: 'it returns false'. Refute it at one input. -/
def secrecyChecksWrong : ChangeSpec := { name := "secrecyChecks", fn := fun _ => fun
  | [d1, d2] => { results := [.lit (.bool false)], args := [d1, d2] }
  | _ => none }
def SecrecyChecksWrongFalsely : Prop := secrecyChecksRow.holds Tryz.pinned (OpenSpec.ofChange secrecyChecksWrong)

/-- 'nunciolaw23.SecrecyFree': WHATEVER THE INPUT: true; the input reads as it did. -/
def secrecyFreeSpec : ChangeSpec := { name := "secrecyFree", fn := fun _ => fun
  | [d1, d2] => { results := [.lit (.bool true)], args := [d1, d2] }
  | _ => none }
def secrecyFreeRow : OpenClaim := { program := "ytfgegilhjlnohaagreat", sum := "39dbb3ceb76b69e8c5b7724f68000f059617f749a63039952b1b44c56be5b3a7", func := "nuncio/nunciolaw23.SecrecyFree", spec := "secrecyFree", inPlace := ["internal/bytealg.IndexByteString", "internal/bytealg.IndexString"], unfollowed := true, recurses := true, named := ["internal/bytealg.MaxLen"], loops := true, plainKeys := false, apart := false }
def SecrecyFreeSaid : Prop := secrecyFreeRow.holds Tryz.pinned (OpenSpec.ofChange secrecyFreeSpec)

/-- ITS FALSE NEIGHBOUR: 'it returns false'. Refute it at one input. -/
def secrecyFreeWrong : ChangeSpec := { name := "secrecyFree", fn := fun _ => fun
  | [d1, d2] => { results := [.lit (.bool false)], args := [d1, d2] }
  | _ => none }
def SecrecyFreeWrongFalsely : Prop := secrecyFreeRow.holds Tryz.pinned (OpenSpec.ofChange secrecyFreeWrong)

/-- 'nunciolaw23.SecrecyHands': WHATEVER THE INPUT: true; the input reads as it did. -/
def secrecyHandsSpec : ChangeSpec := { name := "secrecyHands", fn := fun _ => fun
  | [d1, d2, d3] => { results := [.lit (.bool true)], args := [d1, d2, d3] }
  | _ => none }
def secrecyHandsRow : OpenClaim := { program := "ytfgegilhjlnohaagreat", sum := "39dbb3ceb76b69e8c5b7724f68000f059617f749a63039952b1b44c56be5b3a7", func := "nuncio/nunciolaw23.SecrecyHands", spec := "secrecyHands", inPlace := ["internal/bytealg.IndexByteString", "internal/bytealg.IndexString"], unfollowed := true, recurses := true, named := ["internal/bytealg.MaxLen"], plainKeys := false, apart := false }
def SecrecyHandsSaid : Prop := secrecyHandsRow.holds Tryz.pinned (OpenSpec.ofChange secrecyHandsSpec)

/-- ITS FALSE NEIGHBOUR: 'it returns false'. Refute it at one input. -/
def secrecyHandsWrong : ChangeSpec := { name := "secrecyHands", fn := fun _ => fun
  | [d1, d2, d3] => { results := [.lit (.bool false)], args := [d1, d2, d3] }
  | _ => none }
def SecrecyHandsWrongFalsely : Prop := secrecyHandsRow.holds Tryz.pinned (OpenSpec.ofChange secrecyHandsWrong)

/-- 'nunciolaw22.InferChecks': WHATEVER THE INPUT: true; the input reads as it did. -/
def inferChecksSpec : ChangeSpec := { name := "inferChecks", fn := fun _ => fun
  | [d1, d2, d3] => { results := [.lit (.bool true)], args := [d1, d2, d3] }
  | _ => none }
def inferChecksRow : OpenClaim := { program := "ytfgegilhjlnohaagreat", sum := "39dbb3ceb76b69e8c5b7724f68000f059617f749a63039952b1b44c56be5b3a7", func := "nuncio/nunciolaw22.InferChecks", spec := "inferChecks", inPlace := ["internal/bytealg.IndexByteString", "internal/bytealg.IndexString"], unfollowed := true, recurses := true, named := ["internal/bytealg.MaxLen"], loops := true, plainKeys := false, apart := false }
def InferChecksSaid : Prop := inferChecksRow.holds Tryz.pinned (OpenSpec.ofChange inferChecksSpec)

/-- ITS FALSE NEIGHBOUR: 'it returns false'. Refute it at one input. -/
def inferChecksWrong : ChangeSpec := { name := "inferChecks", fn := fun _ => fun
  | [d1, d2, d3] => { results := [.lit (.bool false)], args := [d1, d2, d3] }
  | _ => none }
def InferChecksWrongFalsely : Prop := inferChecksRow.holds Tryz.pinned (OpenSpec.ofChange inferChecksWrong)

/-- 'nunciolaw22.InferMore': WHATEVER THE INPUT: true; the input reads as it did. -/
def inferMoreSpec : ChangeSpec := { name := "inferMore", fn := fun _ => fun
  | [d1, d2, d3, d4] => { results := [.lit (.bool true)], args := [d1, d2, d3, d4] }
  | _ => none }
def inferMoreRow : OpenClaim := { program := "ytfgegilhjlnohaagreat", sum := "39dbb3ceb76b69e8c5b7724f68000f059617f749a63039952b1b44c56be5b3a7", func := "nuncio/nunciolaw22.InferMore", spec := "inferMore", inPlace := ["internal/bytealg.IndexByteString", "internal/bytealg.IndexString"], unfollowed := true, recurses := true, named := ["internal/bytealg.MaxLen"], loops := true, plainKeys := false, apart := false }
def InferMoreSaid : Prop := inferMoreRow.holds Tryz.pinned (OpenSpec.ofChange inferMoreSpec)

/-- ITS FALSE NEIGHBOUR: 'it returns false'. Refute it at one input. -/
def inferMoreWrong : ChangeSpec := { name := "inferMore", fn := fun _ => fun
  | [d1, d2, d3, d4] => { results := [.lit (.bool false)], args := [d1, d2, d3, d4] }
  | _ => none }
def InferMoreWrongFalsely : Prop := inferMoreRow.holds Tryz.pinned (OpenSpec.ofChange inferMoreWrong)

/-- 'nunciolaw22.InferWide': WHATEVER THE INPUT: true; the input reads as it did. -/
def inferWideSpec : ChangeSpec := { name := "inferWide", fn := fun _ => fun
  | [d1, d2] => { results := [.lit (.bool true)], args := [d1, d2] }
  | _ => none }
def inferWideRow : OpenClaim := { program := "ytfgegilhjlnohaagreat", sum := "39dbb3ceb76b69e8c5b7724f68000f059617f749a63039952b1b44c56be5b3a7", func := "nuncio/nunciolaw22.InferWide", spec := "inferWide", inPlace := ["internal/bytealg.IndexByteString", "internal/bytealg.IndexString"], unfollowed := true, recurses := true, named := ["internal/bytealg.MaxLen"], plainKeys := false, apart := false }
def InferWideSaid : Prop := inferWideRow.holds Tryz.pinned (OpenSpec.ofChange inferWideSpec)

/-- ITS FALSE NEIGHBOUR: 'it returns false'. Refute it at one input. -/
def inferWideWrong : ChangeSpec := { name := "inferWide", fn := fun _ => fun
  | [d1, d2] => { results := [.lit (.bool false)], args := [d1, d2] }
  | _ => none }
def InferWideWrongFalsely : Prop := inferWideRow.holds Tryz.pinned (OpenSpec.ofChange inferWideWrong)

/- THE SECOND FORM. 'bulk': how many values and letters a reading holds, each counted each time it is reached (what is shared counts as often as it is met; a slice's spare places count too). A statement '..UptoSaid' is the law's where the arguments, and the package variables that the reading takes, are together of bulk at most 1048576: NARROWER than '..Said'. Prove '..Said' where nothing that the law and all that it calls make is longer than what came in: it says more and counts as full. Else prove '..UptoSaid'. A law counts once. -/
mutual
def uptoBulk {H : Type} : DataW H → Nat
  | .lit (.string bytes) => bytes.length + 1
  | .lit _ => 1
  | .nil => 1
  | .ptr d => uptoBulk d + 1
  | .slice elems spare => uptoBulkAll elems + uptoBulkAll spare + 1
  | .agg parts => uptoBulkAll parts + 1
  | .iface _ d => uptoBulk d + 1
  | .map entries => uptoBulkEntries entries + 1
  | .held _ => 1
def uptoBulkAll {H : Type} : List (DataW H) → Nat
  | [] => 0
  | d :: r => uptoBulk d + uptoBulkAll r
def uptoBulkEntries {H : Type} : List (Lit × DataW H) → Nat
  | [] => 0
  | x :: r => uptoBulkEntry x + uptoBulkEntries r
def uptoBulkEntry {H : Type} : Lit × DataW H → Nat
  | (.string bytes, d) => bytes.length + uptoBulk d + 1
  | (_, d) => uptoBulk d + 1
 end
def uptoSmall : (H : Type) → List (DataW H) → Bool := fun _ ds => decide (uptoBulkAll ds ≤ 1048576)
def OpenSpec.upto (s : _root_.Go.ChangeSpec) : _root_.Go.OpenSpec := { _root_.Go.OpenSpec.ofChange s with cond := some uptoSmall }

/-- 'nunciolaw21.CallsChecks', WHERE WHAT IT READS IS OF BULK AT MOST 1048576: true; the input reads as it did. -/
def callsChecksUptoRow : OpenClaim := { program := "ytfgegilhjlnohaagreat", sum := "39dbb3ceb76b69e8c5b7724f68000f059617f749a63039952b1b44c56be5b3a7", func := "nuncio/nunciolaw21.CallsChecks", spec := "callsChecks", inPlace := ["internal/bytealg.IndexByteString", "internal/bytealg.IndexString"], unfollowed := true, recurses := true, named := ["internal/bytealg.MaxLen"], loops := true, plainKeys := false, apart := false, narrowed := true }
def CallsChecksUptoSaid : Prop := callsChecksUptoRow.holds Tryz.pinned (OpenSpec.upto callsChecksSpec)

/-- 'nunciolaw21.CallsOrders', WHERE WHAT IT READS IS OF BULK AT MOST 1048576: true; the input reads as it did. -/
def callsOrdersUptoRow : OpenClaim := { program := "ytfgegilhjlnohaagreat", sum := "39dbb3ceb76b69e8c5b7724f68000f059617f749a63039952b1b44c56be5b3a7", func := "nuncio/nunciolaw21.CallsOrders", spec := "callsOrders", inPlace := ["internal/bytealg.IndexByteString", "internal/bytealg.IndexString"], unfollowed := true, recurses := true, named := ["internal/bytealg.MaxLen"], loops := true, plainKeys := false, apart := false, narrowed := true }
def CallsOrdersUptoSaid : Prop := callsOrdersUptoRow.holds Tryz.pinned (OpenSpec.upto callsOrdersSpec)

/-- 'nunciolaw23.SecrecyExprs', WHERE WHAT IT READS IS OF BULK AT MOST 1048576: true; the input reads as it did. -/
def secrecyExprsUptoRow : OpenClaim := { program := "ytfgegilhjlnohaagreat", sum := "39dbb3ceb76b69e8c5b7724f68000f059617f749a63039952b1b44c56be5b3a7", func := "nuncio/nunciolaw23.SecrecyExprs", spec := "secrecyExprs", inPlace := ["internal/bytealg.IndexByteString", "internal/bytealg.IndexString"], unfollowed := true, recurses := true, named := ["internal/bytealg.MaxLen"], loops := true, plainKeys := false, apart := false, narrowed := true }
def SecrecyExprsUptoSaid : Prop := secrecyExprsUptoRow.holds Tryz.pinned (OpenSpec.upto secrecyExprsSpec)

/-- 'nunciolaw23.SecrecyChecks', WHERE WHAT IT READS IS OF BULK AT MOST 1048576: true; the input reads as it did. -/
def secrecyChecksUptoRow : OpenClaim := { program := "ytfgegilhjlnohaagreat", sum := "39dbb3ceb76b69e8c5b7724f68000f059617f749a63039952b1b44c56be5b3a7", func := "nuncio/nunciolaw23.SecrecyChecks", spec := "secrecyChecks", inPlace := ["internal/bytealg.IndexByteString", "internal/bytealg.IndexString"], unfollowed := true, recurses := true, named := ["internal/bytealg.MaxLen"], loops := true, plainKeys := false, apart := false, narrowed := true }
def SecrecyChecksUptoSaid : Prop := secrecyChecksUptoRow.holds Tryz.pinned (OpenSpec.upto secrecyChecksSpec)

/-- 'nunciolaw23.SecrecyFree', WHERE WHAT IT READS IS OF BULK AT MOST 1048576: true; the input reads as it did. -/
def secrecyFreeUptoRow : OpenClaim := { program := "ytfgegilhjlnohaagreat", sum := "39dbb3ceb76b69e8c5b7724f68000f059617f749a63039952b1b44c56be5b3a7", func := "nuncio/nunciolaw23.SecrecyFree", spec := "secrecyFree", inPlace := ["internal/bytealg.IndexByteString", "internal/bytealg.IndexString"], unfollowed := true, recurses := true, named := ["internal/bytealg.MaxLen"], loops := true, plainKeys := false, apart := false, narrowed := true }
def SecrecyFreeUptoSaid : Prop := secrecyFreeUptoRow.holds Tryz.pinned (OpenSpec.upto secrecyFreeSpec)

/-- 'nunciolaw23.SecrecyHands', WHERE WHAT IT READS IS OF BULK AT MOST 1048576: true; the input reads as it did. -/
def secrecyHandsUptoRow : OpenClaim := { program := "ytfgegilhjlnohaagreat", sum := "39dbb3ceb76b69e8c5b7724f68000f059617f749a63039952b1b44c56be5b3a7", func := "nuncio/nunciolaw23.SecrecyHands", spec := "secrecyHands", inPlace := ["internal/bytealg.IndexByteString", "internal/bytealg.IndexString"], unfollowed := true, recurses := true, named := ["internal/bytealg.MaxLen"], plainKeys := false, apart := false, narrowed := true }
def SecrecyHandsUptoSaid : Prop := secrecyHandsUptoRow.holds Tryz.pinned (OpenSpec.upto secrecyHandsSpec)

/-- 'nunciolaw22.InferChecks', WHERE WHAT IT READS IS OF BULK AT MOST 1048576: true; the input reads as it did. -/
def inferChecksUptoRow : OpenClaim := { program := "ytfgegilhjlnohaagreat", sum := "39dbb3ceb76b69e8c5b7724f68000f059617f749a63039952b1b44c56be5b3a7", func := "nuncio/nunciolaw22.InferChecks", spec := "inferChecks", inPlace := ["internal/bytealg.IndexByteString", "internal/bytealg.IndexString"], unfollowed := true, recurses := true, named := ["internal/bytealg.MaxLen"], loops := true, plainKeys := false, apart := false, narrowed := true }
def InferChecksUptoSaid : Prop := inferChecksUptoRow.holds Tryz.pinned (OpenSpec.upto inferChecksSpec)

/-- 'nunciolaw22.InferMore', WHERE WHAT IT READS IS OF BULK AT MOST 1048576: true; the input reads as it did. -/
def inferMoreUptoRow : OpenClaim := { program := "ytfgegilhjlnohaagreat", sum := "39dbb3ceb76b69e8c5b7724f68000f059617f749a63039952b1b44c56be5b3a7", func := "nuncio/nunciolaw22.InferMore", spec := "inferMore", inPlace := ["internal/bytealg.IndexByteString", "internal/bytealg.IndexString"], unfollowed := true, recurses := true, named := ["internal/bytealg.MaxLen"], loops := true, plainKeys := false, apart := false, narrowed := true }
def InferMoreUptoSaid : Prop := inferMoreUptoRow.holds Tryz.pinned (OpenSpec.upto inferMoreSpec)

/-- 'nunciolaw22.InferWide', WHERE WHAT IT READS IS OF BULK AT MOST 1048576: true; the input reads as it did. -/
def inferWideUptoRow : OpenClaim := { program := "ytfgegilhjlnohaagreat", sum := "39dbb3ceb76b69e8c5b7724f68000f059617f749a63039952b1b44c56be5b3a7", func := "nuncio/nunciolaw22.InferWide", spec := "inferWide", inPlace := ["internal/bytealg.IndexByteString", "internal/bytealg.IndexString"], unfollowed := true, recurses := true, named := ["internal/bytealg.MaxLen"], plainKeys := false, apart := false, narrowed := true }
def InferWideUptoSaid : Prop := inferWideUptoRow.holds Tryz.pinned (OpenSpec.upto inferWideSpec)

end Rows
end Go.Proofs.YtfgegilhjlnohaaGreat
