/-
  NARROWER THAN 'FOR EVERY INPUT', by the rows' own cells (each row's printed sentence says how): CallsUses: loops.
  DERIVED. THE GIVEN ROWS OF THIS SEAT. 2 by the template 'for every input the law returns true; each argument reads behind the call as it read before'; 0 by the template 'total and deterministic' (their statements: YtfgegilhjlnohaaTotals.lean).
  GIVEN WITH THE SEED: the statements are not yours to turn. If you find one false, say at which input.
  Laid BY PROGRAM, IN A SANDBOX (cutbox-rows.mjs): the forced cells as the released guide's own fill.sh prints them over the translation 5b8398eee76d2625… (all of the seat's roots in one cut). By AI agents, Wed Nov 11 2026. No macro, syntax, notation, axiom, sorry.
-/
import Derived.Test.YtfgegilhjlnohaaChecked
import GoSem.Claim
import GoSem.ClaimJoined
import GoSem.ClaimMapViews
import Derived.JoinedTies
import Derived.KernelRfl
namespace Go.Proofs.Ytfgegilhjlnohaa
/- THE CELL 'sum', in the pinned program and in every row, IS THE sha256 OF THE DUMP (.gsa) THAT YtfgegilhjlnohaaProg.lean LOADS. Nothing in Lean hashes anything: it is a label: what it is worth is what the hold of that sum in a sandbox is worth. -/
noncomputable def Try.pinned : Pinned := { name := "ytfgegilhjlnohaa", sum := "5b8398eee76d26252ec56ad5d997950019e7693dfc51395e59224c8a326ace45", checked := Try.checked }
namespace Rows
def none {H : Type} : Left H := { results := [], args := [] }

/-- 'nunciolaw21.CallsUses': WHATEVER THE INPUT: true; the input reads as it did. -/
def callsUsesSpec : ChangeSpec := { name := "callsUses", fn := fun _ => fun
  | [d1, d2] => { results := [.lit (.bool true)], args := [d1, d2] }
  | _ => none }
def callsUsesRow : OpenClaim := { program := "ytfgegilhjlnohaa", sum := "5b8398eee76d26252ec56ad5d997950019e7693dfc51395e59224c8a326ace45", func := "nuncio/nunciolaw21.CallsUses", spec := "callsUses", inPlace := ["internal/bytealg.IndexByteString", "internal/bytealg.IndexString"], unfollowed := true, recurses := true, named := ["internal/bytealg.MaxLen"], loops := true, apart := false }
def CallsUsesSaid : Prop := callsUsesRow.holds Try.pinned (OpenSpec.ofChange callsUsesSpec)

/-- ITS FALSE NEIGHBOUR: 'it returns false'. Refute it at one input. -/
def callsUsesWrong : ChangeSpec := { name := "callsUses", fn := fun _ => fun
  | [d1, d2] => { results := [.lit (.bool false)], args := [d1, d2] }
  | _ => none }
def CallsUsesWrongFalsely : Prop := callsUsesRow.holds Try.pinned (OpenSpec.ofChange callsUsesWrong)

/-- 'nunciolaw21.CallsMany': WHATEVER THE INPUT: true; the input reads as it did. -/
def callsManySpec : ChangeSpec := { name := "callsMany", fn := fun _ => fun
  | [d] => { results := [.lit (.bool true)], args := [d] }
  | _ => none }
def callsManyRow : OpenClaim := { program := "ytfgegilhjlnohaa", sum := "5b8398eee76d26252ec56ad5d997950019e7693dfc51395e59224c8a326ace45", func := "nuncio/nunciolaw21.CallsMany", spec := "callsMany", inPlace := ["internal/bytealg.IndexByteString", "internal/bytealg.IndexString"], unfollowed := true, recurses := true, named := ["internal/bytealg.MaxLen"], apart := false }
def CallsManySaid : Prop := callsManyRow.holds Try.pinned (OpenSpec.ofChange callsManySpec)

/-- ITS FALSE NEIGHBOUR: 'it returns false'. Refute it at one input. -/
def callsManyWrong : ChangeSpec := { name := "callsMany", fn := fun _ => fun
  | [d] => { results := [.lit (.bool false)], args := [d] }
  | _ => none }
def CallsManyWrongFalsely : Prop := callsManyRow.holds Try.pinned (OpenSpec.ofChange callsManyWrong)

/- THE SECOND FORM. 'bulk': how many values and letters a reading holds, each counted each time it is reached (what is shared counts as often as it is met; a slice's spare places count too). A statement '..UptoSaid' is the law's where the arguments, and the package variables that the reading takes, are together of bulk at most 1048576: NARROWER than '..Said'. Prove '..Said' where nothing that the law and all that it calls make is longer than what came in: it says more and counts as full. Else prove '..UptoSaid'. A law counts once. -/
mutual
def uptoBulk {H : Type} : DataW H → Nat
  | .lit (.string bytes) => bytes.length + 1
  | .lit _ => 1
  | .nil => 1
  | .ptr d => uptoBulk d + 1
  | .slice elems spare => uptoBulkAll elems + uptoBulkAll spare + 1
  | .agg parts => uptoBulkAll parts + 1
  | .iface _ d => uptoBulk d + 1
  | .map entries => uptoBulkEntries entries + 1
  | .held _ => 1
def uptoBulkAll {H : Type} : List (DataW H) → Nat
  | [] => 0
  | d :: r => uptoBulk d + uptoBulkAll r
def uptoBulkEntries {H : Type} : List (Lit × DataW H) → Nat
  | [] => 0
  | x :: r => uptoBulkEntry x + uptoBulkEntries r
def uptoBulkEntry {H : Type} : Lit × DataW H → Nat
  | (.string bytes, d) => bytes.length + uptoBulk d + 1
  | (_, d) => uptoBulk d + 1
 end
def uptoSmall : (H : Type) → List (DataW H) → Bool := fun _ ds => decide (uptoBulkAll ds ≤ 1048576)
def OpenSpec.upto (s : _root_.Go.ChangeSpec) : _root_.Go.OpenSpec := { _root_.Go.OpenSpec.ofChange s with cond := some uptoSmall }

/-- 'nunciolaw21.CallsUses', WHERE WHAT IT READS IS OF BULK AT MOST 1048576: true; the input reads as it did. -/
def callsUsesUptoRow : OpenClaim := { program := "ytfgegilhjlnohaa", sum := "5b8398eee76d26252ec56ad5d997950019e7693dfc51395e59224c8a326ace45", func := "nuncio/nunciolaw21.CallsUses", spec := "callsUses", inPlace := ["internal/bytealg.IndexByteString", "internal/bytealg.IndexString"], unfollowed := true, recurses := true, named := ["internal/bytealg.MaxLen"], loops := true, apart := false, narrowed := true }
def CallsUsesUptoSaid : Prop := callsUsesUptoRow.holds Try.pinned (OpenSpec.upto callsUsesSpec)

/-- 'nunciolaw21.CallsMany', WHERE WHAT IT READS IS OF BULK AT MOST 1048576: true; the input reads as it did. -/
def callsManyUptoRow : OpenClaim := { program := "ytfgegilhjlnohaa", sum := "5b8398eee76d26252ec56ad5d997950019e7693dfc51395e59224c8a326ace45", func := "nuncio/nunciolaw21.CallsMany", spec := "callsMany", inPlace := ["internal/bytealg.IndexByteString", "internal/bytealg.IndexString"], unfollowed := true, recurses := true, named := ["internal/bytealg.MaxLen"], apart := false, narrowed := true }
def CallsManyUptoSaid : Prop := callsManyUptoRow.holds Try.pinned (OpenSpec.upto callsManySpec)

end Rows
end Go.Proofs.Ytfgegilhjlnohaa
