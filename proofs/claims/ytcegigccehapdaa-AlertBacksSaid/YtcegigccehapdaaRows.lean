/-
  NARROWER THAN 'FOR EVERY INPUT', by the rows' own cells (each row's printed sentence says how): SchemaLists: loops · SchemaGets: loops · TaintParts: loops · SchemaIs: loops · AlertBacks: loops.
  DERIVED. THE GIVEN ROWS OF THIS SEAT. 11 by the template 'for every input the law returns true; each argument reads behind the call as it read before'; 0 by the template 'total and deterministic' (their statements: YtcegigccehapdaaTotals.lean).
  GIVEN WITH THE SEED: the statements are not yours to turn. If you find one false, say at which input.
  Laid BY PROGRAM, IN A SANDBOX (cutbox-rows.mjs): the forced cells as the released guide's own fill.sh prints them over the translation deecad1b70827b9d… (all of the seat's roots in one cut). By AI agents, Wed Nov 11 2026. No macro, syntax, notation, axiom, sorry.
-/
import Derived.Test.YtcegigccehapdaaChecked
import GoSem.Claim
import GoSem.ClaimJoined
import GoSem.ClaimMapViews
import Derived.JoinedTies
import Derived.KernelRfl
namespace Go.Proofs.Ytcegigccehapdaa
/- THE CELL 'sum', in the pinned program and in every row, IS THE sha256 OF THE DUMP (.gsa) THAT YtcegigccehapdaaProg.lean LOADS. Nothing in Lean hashes anything: it is a label: what it is worth is what the hold of that sum in a sandbox is worth. -/
noncomputable def Try.pinned : Pinned := { name := "ytcegigccehapdaa", sum := "deecad1b70827b9dc1278a07c530d859eb8fb33d5736482c79c8475741d6e257", checked := Try.checked }
namespace Rows
def none {H : Type} : Left H := { results := [], args := [] }

/-- 'nunciolaw30.TaintAny': WHATEVER THE INPUT: true; the input reads as it did. -/
def taintAnySpec : ChangeSpec := { name := "taintAny", fn := fun _ => fun
  | [d] => { results := [.lit (.bool true)], args := [d] }
  | _ => none }
def taintAnyRow : OpenClaim := { program := "ytcegigccehapdaa", sum := "deecad1b70827b9dc1278a07c530d859eb8fb33d5736482c79c8475741d6e257", func := "nuncio/nunciolaw30.TaintAny", spec := "taintAny", unfollowed := true, recurses := true, apart := false }
def TaintAnySaid : Prop := taintAnyRow.holds Try.pinned (OpenSpec.ofChange taintAnySpec)

/-- ITS FALSE NEIGHBOUR: 'it returns false'. Refute it at one input. -/
def taintAnyWrong : ChangeSpec := { name := "taintAny", fn := fun _ => fun
  | [d] => { results := [.lit (.bool false)], args := [d] }
  | _ => none }
def TaintAnyWrongFalsely : Prop := taintAnyRow.holds Try.pinned (OpenSpec.ofChange taintAnyWrong)

/-- 'nunciolaw16.SchemaLists': WHATEVER THE INPUT: true; the input reads as it did. -/
def schemaListsSpec : ChangeSpec := { name := "schemaLists", fn := fun _ => fun
  | [d1, d2] => { results := [.lit (.bool true)], args := [d1, d2] }
  | _ => none }
def schemaListsRow : OpenClaim := { program := "ytcegigccehapdaa", sum := "deecad1b70827b9dc1278a07c530d859eb8fb33d5736482c79c8475741d6e257", func := "nuncio/nunciolaw16.SchemaLists", spec := "schemaLists", unfollowed := true, recurses := true, loops := true, apart := false }
def SchemaListsSaid : Prop := schemaListsRow.holds Try.pinned (OpenSpec.ofChange schemaListsSpec)

/-- ITS FALSE NEIGHBOUR: 'it returns false'. Refute it at one input. -/
def schemaListsWrong : ChangeSpec := { name := "schemaLists", fn := fun _ => fun
  | [d1, d2] => { results := [.lit (.bool false)], args := [d1, d2] }
  | _ => none }
def SchemaListsWrongFalsely : Prop := schemaListsRow.holds Try.pinned (OpenSpec.ofChange schemaListsWrong)

/-- 'nunciolaw16.SchemaLong': WHATEVER THE INPUT: true; the input reads as it did. -/
def schemaLongSpec : ChangeSpec := { name := "schemaLong", fn := fun _ => fun
  | [d] => { results := [.lit (.bool true)], args := [d] }
  | _ => none }
def schemaLongRow : OpenClaim := { program := "ytcegigccehapdaa", sum := "deecad1b70827b9dc1278a07c530d859eb8fb33d5736482c79c8475741d6e257", func := "nuncio/nunciolaw16.SchemaLong", spec := "schemaLong", unfollowed := true, recurses := true, apart := false }
def SchemaLongSaid : Prop := schemaLongRow.holds Try.pinned (OpenSpec.ofChange schemaLongSpec)

/-- ITS FALSE NEIGHBOUR: 'it returns false'. Refute it at one input. -/
def schemaLongWrong : ChangeSpec := { name := "schemaLong", fn := fun _ => fun
  | [d] => { results := [.lit (.bool false)], args := [d] }
  | _ => none }
def SchemaLongWrongFalsely : Prop := schemaLongRow.holds Try.pinned (OpenSpec.ofChange schemaLongWrong)

/-- 'nunciolaw16.SchemaGets': WHATEVER THE INPUT: true; the input reads as it did. -/
def schemaGetsSpec : ChangeSpec := { name := "schemaGets", fn := fun _ => fun
  | [d1, d2] => { results := [.lit (.bool true)], args := [d1, d2] }
  | _ => none }
def schemaGetsRow : OpenClaim := { program := "ytcegigccehapdaa", sum := "deecad1b70827b9dc1278a07c530d859eb8fb33d5736482c79c8475741d6e257", func := "nuncio/nunciolaw16.SchemaGets", spec := "schemaGets", unfollowed := true, recurses := true, loops := true, apart := false }
def SchemaGetsSaid : Prop := schemaGetsRow.holds Try.pinned (OpenSpec.ofChange schemaGetsSpec)

/-- ITS FALSE NEIGHBOUR: 'it returns false'. Refute it at one input. -/
def schemaGetsWrong : ChangeSpec := { name := "schemaGets", fn := fun _ => fun
  | [d1, d2] => { results := [.lit (.bool false)], args := [d1, d2] }
  | _ => none }
def SchemaGetsWrongFalsely : Prop := schemaGetsRow.holds Try.pinned (OpenSpec.ofChange schemaGetsWrong)

/-- 'nunciolaw16.SchemaMakes': WHATEVER THE INPUT: true; the input reads as it did. -/
def schemaMakesSpec : ChangeSpec := { name := "schemaMakes", fn := fun _ => fun
  | [d1, d2, d3, d4] => { results := [.lit (.bool true)], args := [d1, d2, d3, d4] }
  | _ => none }
def schemaMakesRow : OpenClaim := { program := "ytcegigccehapdaa", sum := "deecad1b70827b9dc1278a07c530d859eb8fb33d5736482c79c8475741d6e257", func := "nuncio/nunciolaw16.SchemaMakes", spec := "schemaMakes", unfollowed := true, recurses := true, apart := false }
def SchemaMakesSaid : Prop := schemaMakesRow.holds Try.pinned (OpenSpec.ofChange schemaMakesSpec)

/-- ITS FALSE NEIGHBOUR: 'it returns false'. Refute it at one input. -/
def schemaMakesWrong : ChangeSpec := { name := "schemaMakes", fn := fun _ => fun
  | [d1, d2, d3, d4] => { results := [.lit (.bool false)], args := [d1, d2, d3, d4] }
  | _ => none }
def SchemaMakesWrongFalsely : Prop := schemaMakesRow.holds Try.pinned (OpenSpec.ofChange schemaMakesWrong)

/-- 'nunciolaw30.TaintParts': WHATEVER THE INPUT: true; the input reads as it did. -/
def taintPartsSpec : ChangeSpec := { name := "taintParts", fn := fun _ => fun
  | [d1, d2] => { results := [.lit (.bool true)], args := [d1, d2] }
  | _ => none }
def taintPartsRow : OpenClaim := { program := "ytcegigccehapdaa", sum := "deecad1b70827b9dc1278a07c530d859eb8fb33d5736482c79c8475741d6e257", func := "nuncio/nunciolaw30.TaintParts", spec := "taintParts", unfollowed := true, recurses := true, loops := true, apart := false }
def TaintPartsSaid : Prop := taintPartsRow.holds Try.pinned (OpenSpec.ofChange taintPartsSpec)

/-- ITS FALSE NEIGHBOUR: 'it returns false'. Refute it at one input. -/
def taintPartsWrong : ChangeSpec := { name := "taintParts", fn := fun _ => fun
  | [d1, d2] => { results := [.lit (.bool false)], args := [d1, d2] }
  | _ => none }
def TaintPartsWrongFalsely : Prop := taintPartsRow.holds Try.pinned (OpenSpec.ofChange taintPartsWrong)

/-- 'nunciolaw16.SchemaIs': WHATEVER THE INPUT: true; the input reads as it did. -/
def schemaIsSpec : ChangeSpec := { name := "schemaIs", fn := fun _ => fun
  | [d1, d2] => { results := [.lit (.bool true)], args := [d1, d2] }
  | _ => none }
def schemaIsRow : OpenClaim := { program := "ytcegigccehapdaa", sum := "deecad1b70827b9dc1278a07c530d859eb8fb33d5736482c79c8475741d6e257", func := "nuncio/nunciolaw16.SchemaIs", spec := "schemaIs", unfollowed := true, recurses := true, loops := true, apart := false }
def SchemaIsSaid : Prop := schemaIsRow.holds Try.pinned (OpenSpec.ofChange schemaIsSpec)

/-- ITS FALSE NEIGHBOUR: 'it returns false'. Refute it at one input. -/
def schemaIsWrong : ChangeSpec := { name := "schemaIs", fn := fun _ => fun
  | [d1, d2] => { results := [.lit (.bool false)], args := [d1, d2] }
  | _ => none }
def SchemaIsWrongFalsely : Prop := schemaIsRow.holds Try.pinned (OpenSpec.ofChange schemaIsWrong)

/-- 'nunciolaw17.AlertFits': WHATEVER THE INPUT: true; the input reads as it did. -/
def alertFitsSpec : ChangeSpec := { name := "alertFits", fn := fun _ => fun
  | [d1, d2, d3, d4] => { results := [.lit (.bool true)], args := [d1, d2, d3, d4] }
  | _ => none }
def alertFitsRow : OpenClaim := { program := "ytcegigccehapdaa", sum := "deecad1b70827b9dc1278a07c530d859eb8fb33d5736482c79c8475741d6e257", func := "nuncio/nunciolaw17.AlertFits", spec := "alertFits", unfollowed := true, recurses := true, apart := false }
def AlertFitsSaid : Prop := alertFitsRow.holds Try.pinned (OpenSpec.ofChange alertFitsSpec)

/-- ITS FALSE NEIGHBOUR: 'it returns false'. Refute it at one input. -/
def alertFitsWrong : ChangeSpec := { name := "alertFits", fn := fun _ => fun
  | [d1, d2, d3, d4] => { results := [.lit (.bool false)], args := [d1, d2, d3, d4] }
  | _ => none }
def AlertFitsWrongFalsely : Prop := alertFitsRow.holds Try.pinned (OpenSpec.ofChange alertFitsWrong)

/-- 'nunciolaw17.AlertVals': WHATEVER THE INPUT: true; the input reads as it did. -/
def alertValsSpec : ChangeSpec := { name := "alertVals", fn := fun _ => fun
  | [d] => { results := [.lit (.bool true)], args := [d] }
  | _ => none }
def alertValsRow : OpenClaim := { program := "ytcegigccehapdaa", sum := "deecad1b70827b9dc1278a07c530d859eb8fb33d5736482c79c8475741d6e257", func := "nuncio/nunciolaw17.AlertVals", spec := "alertVals", unfollowed := true, recurses := true, apart := false }
def AlertValsSaid : Prop := alertValsRow.holds Try.pinned (OpenSpec.ofChange alertValsSpec)

/-- ITS FALSE NEIGHBOUR: 'it returns false'. Refute it at one input. -/
def alertValsWrong : ChangeSpec := { name := "alertVals", fn := fun _ => fun
  | [d] => { results := [.lit (.bool false)], args := [d] }
  | _ => none }
def AlertValsWrongFalsely : Prop := alertValsRow.holds Try.pinned (OpenSpec.ofChange alertValsWrong)

/-- 'nunciolaw17.AlertBacks': WHATEVER THE INPUT: true; the input reads as it did. -/
def alertBacksSpec : ChangeSpec := { name := "alertBacks", fn := fun _ => fun
  | [d] => { results := [.lit (.bool true)], args := [d] }
  | _ => none }
def alertBacksRow : OpenClaim := { program := "ytcegigccehapdaa", sum := "deecad1b70827b9dc1278a07c530d859eb8fb33d5736482c79c8475741d6e257", func := "nuncio/nunciolaw17.AlertBacks", spec := "alertBacks", unfollowed := true, recurses := true, loops := true, apart := false }
def AlertBacksSaid : Prop := alertBacksRow.holds Try.pinned (OpenSpec.ofChange alertBacksSpec)

/-- ITS FALSE NEIGHBOUR: 'it returns false'. Refute it at one input. -/
def alertBacksWrong : ChangeSpec := { name := "alertBacks", fn := fun _ => fun
  | [d] => { results := [.lit (.bool false)], args := [d] }
  | _ => none }
def AlertBacksWrongFalsely : Prop := alertBacksRow.holds Try.pinned (OpenSpec.ofChange alertBacksWrong)

/-- 'nunciolaw17.AlertSames': WHATEVER THE INPUT: true; the input reads as it did. -/
def alertSamesSpec : ChangeSpec := { name := "alertSames", fn := fun _ => fun
  | [d1, d2] => { results := [.lit (.bool true)], args := [d1, d2] }
  | _ => none }
def alertSamesRow : OpenClaim := { program := "ytcegigccehapdaa", sum := "deecad1b70827b9dc1278a07c530d859eb8fb33d5736482c79c8475741d6e257", func := "nuncio/nunciolaw17.AlertSames", spec := "alertSames", unfollowed := true, recurses := true, apart := false }
def AlertSamesSaid : Prop := alertSamesRow.holds Try.pinned (OpenSpec.ofChange alertSamesSpec)

/-- ITS FALSE NEIGHBOUR: 'it returns false'. Refute it at one input. -/
def alertSamesWrong : ChangeSpec := { name := "alertSames", fn := fun _ => fun
  | [d1, d2] => { results := [.lit (.bool false)], args := [d1, d2] }
  | _ => none }
def AlertSamesWrongFalsely : Prop := alertSamesRow.holds Try.pinned (OpenSpec.ofChange alertSamesWrong)

/- THE SECOND FORM. 'bulk': how many values and letters a reading holds, each counted each time it is reached (what is shared counts as often as it is met; a slice's spare places count too). A statement '..UptoSaid' is the law's where the arguments, and the package variables that the reading takes, are together of bulk at most 1048576: NARROWER than '..Said'. Prove '..Said' where nothing that the law and all that it calls make is longer than what came in: it says more and counts as full. Else prove '..UptoSaid'. A law counts once. -/
mutual
def uptoBulk {H : Type} : DataW H → Nat
  | .lit (.string bytes) => bytes.length + 1
  | .lit _ => 1
  | .nil => 1
  | .ptr d => uptoBulk d + 1
  | .slice elems spare => uptoBulkAll elems + uptoBulkAll spare + 1
  | .agg parts => uptoBulkAll parts + 1
  | .iface _ d => uptoBulk d + 1
  | .map entries => uptoBulkEntries entries + 1
  | .held _ => 1
def uptoBulkAll {H : Type} : List (DataW H) → Nat
  | [] => 0
  | d :: r => uptoBulk d + uptoBulkAll r
def uptoBulkEntries {H : Type} : List (Lit × DataW H) → Nat
  | [] => 0
  | x :: r => uptoBulkEntry x + uptoBulkEntries r
def uptoBulkEntry {H : Type} : Lit × DataW H → Nat
  | (.string bytes, d) => bytes.length + uptoBulk d + 1
  | (_, d) => uptoBulk d + 1
 end
def uptoSmall : (H : Type) → List (DataW H) → Bool := fun _ ds => decide (uptoBulkAll ds ≤ 1048576)
def OpenSpec.upto (s : _root_.Go.ChangeSpec) : _root_.Go.OpenSpec := { _root_.Go.OpenSpec.ofChange s with cond := some uptoSmall }

/-- 'nunciolaw30.TaintAny', WHERE WHAT IT READS IS OF BULK AT MOST 1048576: true; the input reads as it did. -/
def taintAnyUptoRow : OpenClaim := { program := "ytcegigccehapdaa", sum := "deecad1b70827b9dc1278a07c530d859eb8fb33d5736482c79c8475741d6e257", func := "nuncio/nunciolaw30.TaintAny", spec := "taintAny", unfollowed := true, recurses := true, apart := false, narrowed := true }
def TaintAnyUptoSaid : Prop := taintAnyUptoRow.holds Try.pinned (OpenSpec.upto taintAnySpec)

/-- 'nunciolaw16.SchemaLists', WHERE WHAT IT READS IS OF BULK AT MOST 1048576: true; the input reads as it did. -/
def schemaListsUptoRow : OpenClaim := { program := "ytcegigccehapdaa", sum := "deecad1b70827b9dc1278a07c530d859eb8fb33d5736482c79c8475741d6e257", func := "nuncio/nunciolaw16.SchemaLists", spec := "schemaLists", unfollowed := true, recurses := true, loops := true, apart := false, narrowed := true }
def SchemaListsUptoSaid : Prop := schemaListsUptoRow.holds Try.pinned (OpenSpec.upto schemaListsSpec)

/-- 'nunciolaw16.SchemaLong', WHERE WHAT IT READS IS OF BULK AT MOST 1048576: true; the input reads as it did. -/
def schemaLongUptoRow : OpenClaim := { program := "ytcegigccehapdaa", sum := "deecad1b70827b9dc1278a07c530d859eb8fb33d5736482c79c8475741d6e257", func := "nuncio/nunciolaw16.SchemaLong", spec := "schemaLong", unfollowed := true, recurses := true, apart := false, narrowed := true }
def SchemaLongUptoSaid : Prop := schemaLongUptoRow.holds Try.pinned (OpenSpec.upto schemaLongSpec)

/-- 'nunciolaw16.SchemaGets', WHERE WHAT IT READS IS OF BULK AT MOST 1048576: true; the input reads as it did. -/
def schemaGetsUptoRow : OpenClaim := { program := "ytcegigccehapdaa", sum := "deecad1b70827b9dc1278a07c530d859eb8fb33d5736482c79c8475741d6e257", func := "nuncio/nunciolaw16.SchemaGets", spec := "schemaGets", unfollowed := true, recurses := true, loops := true, apart := false, narrowed := true }
def SchemaGetsUptoSaid : Prop := schemaGetsUptoRow.holds Try.pinned (OpenSpec.upto schemaGetsSpec)

/-- 'nunciolaw16.SchemaMakes', WHERE WHAT IT READS IS OF BULK AT MOST 1048576: true; the input reads as it did. -/
def schemaMakesUptoRow : OpenClaim := { program := "ytcegigccehapdaa", sum := "deecad1b70827b9dc1278a07c530d859eb8fb33d5736482c79c8475741d6e257", func := "nuncio/nunciolaw16.SchemaMakes", spec := "schemaMakes", unfollowed := true, recurses := true, apart := false, narrowed := true }
def SchemaMakesUptoSaid : Prop := schemaMakesUptoRow.holds Try.pinned (OpenSpec.upto schemaMakesSpec)

/-- 'nunciolaw30.TaintParts', WHERE WHAT IT READS IS OF BULK AT MOST 1048576: true; the input reads as it did. -/
def taintPartsUptoRow : OpenClaim := { program := "ytcegigccehapdaa", sum := "deecad1b70827b9dc1278a07c530d859eb8fb33d5736482c79c8475741d6e257", func := "nuncio/nunciolaw30.TaintParts", spec := "taintParts", unfollowed := true, recurses := true, loops := true, apart := false, narrowed := true }
def TaintPartsUptoSaid : Prop := taintPartsUptoRow.holds Try.pinned (OpenSpec.upto taintPartsSpec)

/-- 'nunciolaw16.SchemaIs', WHERE WHAT IT READS IS OF BULK AT MOST 1048576: true; the input reads as it did. -/
def schemaIsUptoRow : OpenClaim := { program := "ytcegigccehapdaa", sum := "deecad1b70827b9dc1278a07c530d859eb8fb33d5736482c79c8475741d6e257", func := "nuncio/nunciolaw16.SchemaIs", spec := "schemaIs", unfollowed := true, recurses := true, loops := true, apart := false, narrowed := true }
def SchemaIsUptoSaid : Prop := schemaIsUptoRow.holds Try.pinned (OpenSpec.upto schemaIsSpec)

/-- 'nunciolaw17.AlertFits', WHERE WHAT IT READS IS OF BULK AT MOST 1048576: true; the input reads as it did. -/
def alertFitsUptoRow : OpenClaim := { program := "ytcegigccehapdaa", sum := "deecad1b70827b9dc1278a07c530d859eb8fb33d5736482c79c8475741d6e257", func := "nuncio/nunciolaw17.AlertFits", spec := "alertFits", unfollowed := true, recurses := true, apart := false, narrowed := true }
def AlertFitsUptoSaid : Prop := alertFitsUptoRow.holds Try.pinned (OpenSpec.upto alertFitsSpec)

/-- 'nunciolaw17.AlertVals', WHERE WHAT IT READS IS OF BULK AT MOST 1048576: true; the input reads as it did. -/
def alertValsUptoRow : OpenClaim := { program := "ytcegigccehapdaa", sum := "deecad1b70827b9dc1278a07c530d859eb8fb33d5736482c79c8475741d6e257", func := "nuncio/nunciolaw17.AlertVals", spec := "alertVals", unfollowed := true, recurses := true, apart := false, narrowed := true }
def AlertValsUptoSaid : Prop := alertValsUptoRow.holds Try.pinned (OpenSpec.upto alertValsSpec)

/-- 'nunciolaw17.AlertBacks', WHERE WHAT IT READS IS OF BULK AT MOST 1048576: true; the input reads as it did. -/
def alertBacksUptoRow : OpenClaim := { program := "ytcegigccehapdaa", sum := "deecad1b70827b9dc1278a07c530d859eb8fb33d5736482c79c8475741d6e257", func := "nuncio/nunciolaw17.AlertBacks", spec := "alertBacks", unfollowed := true, recurses := true, loops := true, apart := false, narrowed := true }
def AlertBacksUptoSaid : Prop := alertBacksUptoRow.holds Try.pinned (OpenSpec.upto alertBacksSpec)

/-- 'nunciolaw17.AlertSames', WHERE WHAT IT READS IS OF BULK AT MOST 1048576: true; the input reads as it did. -/
def alertSamesUptoRow : OpenClaim := { program := "ytcegigccehapdaa", sum := "deecad1b70827b9dc1278a07c530d859eb8fb33d5736482c79c8475741d6e257", func := "nuncio/nunciolaw17.AlertSames", spec := "alertSames", unfollowed := true, recurses := true, apart := false, narrowed := true }
def AlertSamesUptoSaid : Prop := alertSamesUptoRow.holds Try.pinned (OpenSpec.upto alertSamesSpec)

end Rows
end Go.Proofs.Ytcegigccehapdaa
