/- Plain laws of what decompiled functions are made of. -/
import Derived.Test.YtlhjieapkcnghaaDcI
namespace Go.Proofs.Ytlhjieapkcnghaa
open Go.RowKit

abbrev mx : Nat := 9223372036854775807
@[simp] theorem idx_nat {α : Type} (l : List α) (i : Nat) : idx l (i : Int) = l[i]? := by
  unfold idx
  rw [if_pos (by omega)]
  rfl
theorem idx_lit {α : Type} (l : List α) (n : Nat) : idx l (OfNat.ofNat n : Int) = l[n]? := idx_nat l n
@[simp] theorem idx_0 {α : Type} (l : List α) : idx l 0 = l[0]? := idx_nat l 0
@[simp] theorem idx_1 {α : Type} (l : List α) : idx l 1 = l[1]? := idx_nat l 1
@[simp] theorem bind_some' {α β : Type} (x : α) (f : α → Option β) : (some x >>= f) = f x := rfl
theorem wr_in {n : Int} (h1 : -9223372036854775808 ≤ n) (h2 : n ≤ 9223372036854775807) : wr n = n := w64 h1 h2
theorem wr_succ {i : Nat} (h : i < 9223372036854775807) : wr ((i : Int) + 1) = ((i + 1 : Nat) : Int) := by rw [wr_in (by omega) (by omega)]; rfl
theorem appL_ok {α : Type} {bytes : Nat} {a b : List α} (h : (a.length + b.length) * bytes ≤ 140737488355328) (h2 : a.length + b.length ≤ 9223372036854775807) : appL bytes a b = some (a ++ b) := by
  unfold appL; rw [if_pos ⟨h, h2⟩]
theorem cutL_ok {α : Type} {l : List α} {lo hi : Int} (h1 : 0 ≤ lo) (h2 : lo ≤ hi) (h3 : hi ≤ l.length) : cutL l lo hi = some ((l.take hi.toNat).drop lo.toNat) := by
  unfold cutL; rw [if_pos ⟨h1, h2, h3⟩]
theorem need_ok {p : Prop} [Decidable p] (h : p) : need p = some () := by unfold need; rw [if_pos h]
theorem getE {α : Type} {l : List α} {i : Nat} (h : i < l.length) : l[i]? = some l[i] := List.getElem?_eq_getElem h
theorem ltI (a b : Nat) : decide ((a : Int) < (b : Int)) = decide (a < b) := by
  congr 1; exact propext Int.ofNat_lt
/-- A loop over a list's places: what holds of the tail from i on. -/
theorem upto {α : Type} {l : List α} {φ : Nat → Prop} (h0 : φ l.length) (h : ∀ i, i < l.length → φ (i + 1) → φ i) : ∀ i, i ≤ l.length → φ i := by
  have key : ∀ n i, l.length - i = n → i ≤ l.length → φ i := by
    intro n
    induction n with
    | zero => intro i h1 h2; have : i = l.length := by omega
              subst this; exact h0
    | succ n ih => intro i h1 h2; exact h i (by omega) (ih (i + 1) (by omega) (by omega))
  exact fun i hi => key _ i rfl hi
theorem dropE {α : Type} {l : List α} {i : Nat} (h : i < l.length) : l.drop i = l[i] :: l.drop (i + 1) := List.drop_eq_getElem_cons h
end Go.Proofs.Ytlhjieapkcnghaa
