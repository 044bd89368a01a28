/- The library's functions that have no body here, or are walked elsewhere, as functions on data. -/
import Derived.Test.YtlhjieapkcnghaaBldC
import Derived.Test.YtlhjieapkcnghaaShelf
import Derived.Test.YtlhjieapkcnghaaOctW
namespace Go.Proofs.Ytlhjieapkcnghaa
open Go.RowKit

theorem PCall.ofCallsG {P : Program} {f : FuncId} {args : List V} {r : D} {R : Value} (hn : isFn P f = true) (hr : ∀ G w, DRel G w r R)
    (h : ∀ w us, (∃ C, GlobOk C w) → us.size = args.length → (∀ (j : Nat) x u, args[j]? = some x → us[j]? = some u → ∃ C, VRel C w x u) → Calls P f us w fun e w' => e = .returned R ∧ Below w.heap.size w w') : PCall P f args r :=
  ⟨hn, fun C w us hg hs hrel => (h w us ⟨C, hg⟩ hs fun j x u hx hu => ⟨_, hrel j x u hx hu⟩).mono fun _ _ ⟨he, hb⟩ => ⟨R, he, hr _ _, hb⟩⟩
theorem given_str {C : Nat → Nat → Prop} {w : World} {l : List UInt8} {u : Value} (h : VRel C w (sV l) u) : u = .string ⟨l.toArray⟩ := by cases h; rfl
theorem given_int {C : Nat → Nat → Prop} {w : World} {k : IntKind} {n : Int} {u : Value} (h : VRel C w (.v (.int k n)) u) : u = .int k n := by cases h; rfl
theorem below_same {w w' : World} (h : w' = w) : Below w.heap.size w w' := by subst h; exact Below.refl _ _
theorem need_some {p : Prop} [Decidable p] {R : Type} {f : Unit → Option R} {r : R} (h : (need p >>= f) = some r) : p ∧ f () = some r := by
  unfold need at h
  split at h
  · exact ⟨by assumption, h⟩
  · cases h
theorem indexByte_ok (l : List UInt8) (c : Int) : PCall Try.prog 94 [sV l, nV .u8 c] (.p (iV (Lib.indexByte l c.toNat.toUInt8))) := by
  refine PCall.ofCallsG (by kernel_rfl) (fun _ _ => .p _ _ (.v _ rfl)) fun w us _ hs h => ?_
  obtain ⟨a, b, rfl⟩ := us2 hs
  obtain ⟨_, h0⟩ := h 0 _ a rfl rfl
  obtain ⟨_, h1⟩ := h 1 _ b rfl rfl
  rw [given_str h0, given_int h1]
  exact (Try.stringslite_IndexByte _ c w).mono fun e w' ⟨he, hw⟩ => ⟨he, below_same hw⟩
theorem index_ok (l s : List UInt8) (hl : l.length < 4294967281) : PCall Try.prog 119 [sV l, sV s] (.p (iV (Lib.index l s))) := by
  refine PCall.ofCallsG (by kernel_rfl) (fun _ _ => .p _ _ (.v _ rfl)) fun w us hg hs h => ?_
  obtain ⟨a, b, rfl⟩ := us2 hs
  obtain ⟨_, h0⟩ := h 0 _ a rfl rfl
  obtain ⟨_, h1⟩ := h 1 _ b rfl rfl
  obtain ⟨_, hg⟩ := hg
  obtain ⟨m, -, hm⟩ := hg 0 (by simp [globsL])
  rw [given_str h0, given_str h1]
  exact (Try.stringslite_Index _ _ m w (by show l.toArray.size < _; simpa using hl) hm).mono fun e w' ⟨he, hw⟩ => ⟨he, below_same hw⟩
theorem text_ok (n : Int) (h0 : -9223372036854775808 ≤ n) (h1 : n ≤ 9223372036854775807) : PCall Try.prog 126 [iV n] (.p (sV (textL n))) := by
  refine PCall.ofCallsG (by kernel_rfl) (fun _ _ => .p _ _ (.v _ rfl)) fun w us _ hs h => ?_
  obtain ⟨a, rfl⟩ := us1 hs
  obtain ⟨_, h0'⟩ := h 0 _ a rfl rfl
  rw [given_int h0']
  exact text_any n h0 h1 w
end Go.Proofs.Ytlhjieapkcnghaa
