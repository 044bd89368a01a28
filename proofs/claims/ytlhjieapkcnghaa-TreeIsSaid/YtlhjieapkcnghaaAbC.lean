/- The abstract layer, part 15: contracts of the elder kind as contracts on data. -/
import Derived.Test.YtlhjieapkcnghaaAbTab
import Derived.Test.YtlhjieapkcnghaaKit
namespace Go.Proofs.Ytlhjieapkcnghaa
open Go.RowKit

def sV (l : List UInt8) : V := .v (strOf l)
def iV (n : Int) : V := .v (.int .i64 n)
def bV (b : Bool) : V := .v (.bool b)
def isV (l : List Int) : List (List V) := l.map fun x => [iV x]
def ssV (l : List (List UInt8)) : List (List V) := l.map fun x => [sV x]
theorem ssV_one (l : List (List UInt8)) : ∀ x ∈ ssV l, x.length = 1 := fun x hx => by obtain ⟨y, -, rfl⟩ := List.mem_map.1 hx; rfl
theorem isV_one (l : List Int) : ∀ x ∈ isV l, x.length = 1 := fun x hx => by obtain ⟨y, -, rfl⟩ := List.mem_map.1 hx; rfl

/-- A slice of scalars as the elder contracts have it. -/
theorem VRel.toSl {α : Type} {C : Nat → Nat → Prop} {w : World} {full : Bool} (g : α → Value) (l : List α) {u : Value} (h : VRel C w (.sl full (l.map fun x => [.v (g x)])) u) (_hg : ∀ x, scal (g x) = true) : Sl w (fun _ => True) u l.length (l.map g) := by
  generalize hes : (l.map fun x => [V.v (g x)]) = es at h
  cases h with
  | sl full es a cap size b off us g1 g2 g3 g4 g5 g6 g7 g8 =>
    subst hes
    have hlen : (l.map fun x => [V.v (g x)]).length = l.length := by simp
    rw [hlen] at g1 ⊢
    refine ⟨a, cap, rfl, g1, g2, fun j u hj => ?_⟩
    rw [List.getElem?_map] at hj
    obtain ⟨x, hx, rfl⟩ := Option.map_eq_some_iff.1 hj
    have he : (l.map fun x => [V.v (g x)])[j]? = some [.v (g x)] := by rw [List.getElem?_map, hx]; rfl
    have hsz : size = 1 := (g4 _ (List.mem_of_getElem? he)).symm
    subst hsz
    obtain ⟨ha, -, hc, -⟩ := g6 j 0 _ _ he rfl
    have hv := g7 j 0 _ _ he rfl
    simp only [Nat.mul_one, Nat.add_zero] at hc hv
    refine ⟨b, off, ha, trivial, ?_⟩
    generalize us j = q at hc hv
    cases hv
    exact hc
theorem VRel.scalEq {C : Nat → Nat → Prop} {w : World} {v u : Value} (h : VRel C w (.v v) u) : u = v := by cases h; rfl
/-- A contract that hands back scalars. -/
theorem PCall.ofCalls {P : Program} {f : FuncId} {args : List V} {r : D} {R : Value} (hn : isFn P f = true) (hr : ∀ G w, DRel G w r R)
    (h : ∀ w us, us.size = args.length → (∀ (j : Nat) x u, args[j]? = some x → us[j]? = some u → ∃ C, VRel C w x u) → Calls P f us w fun e w' => e = .returned R ∧ Below w.heap.size w w') : PCall P f args r :=
  ⟨hn, fun _ w us _ hs hrel => (h w us hs fun j x u hx hu => ⟨_, hrel j x u hx hu⟩).mono fun _ _ ⟨he, hb⟩ => ⟨R, he, hr _ _, hb⟩⟩
theorem us1 {us : Array Value} (h : us.size = 1) : ∃ a, us = #[a] := by
  match us, h with
  | ⟨[a]⟩, _ => exact ⟨a, rfl⟩
theorem us2 {us : Array Value} (h : us.size = 2) : ∃ a b, us = #[a, b] := by
  match us, h with
  | ⟨[a, b]⟩, _ => exact ⟨a, b, rfl⟩
theorem us0 {us : Array Value} (h : us.size = 0) : us = #[] := Array.eq_empty_of_size_eq_zero h
theorem dtup2 {G : Gh} {w : World} {a b : Value} (ha : scal a = true) (hb : scal b = true) : DRel G w (.tup [.p (.v a), .p (.v b)]) (.tuple #[a, b]) := by
  refine .tup _ _ rfl fun j c u hc hu => ?_
  match j with
  | 0 => simp at hc hu; subst hc; subst hu; exact .p _ _ (.v _ ha)
  | 1 => simp at hc hu; subst hc; subst hu; exact .p _ _ (.v _ hb)
  | j + 2 => simp at hc
end Go.Proofs.Ytlhjieapkcnghaa
