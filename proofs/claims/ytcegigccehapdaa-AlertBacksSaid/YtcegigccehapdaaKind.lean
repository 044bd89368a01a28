/-
  Plain functions and tables for the layer kind, and facts about them. No program in sight.
-/
import Derived.Lib.Strings
import Derived.Below
namespace Go.Proofs.Ytcegigccehapdaa
open Go.RowKit

def kn : List (List UInt8) := [[], [116, 101, 120, 116], [110, 117, 109, 98, 101, 114], [116, 114, 117, 116, 104], [112, 97, 105, 114], [97, 108, 101, 114, 116], [103, 114, 111, 117, 112], [116, 101, 120, 116, 115], [112, 97, 105, 114, 115], [97, 108, 101, 114, 116, 115]]
def tab : List (Int × List UInt8 × Int) := [(4, [107, 101, 121], 1), (4, [118, 97, 108], 1), (5, [102, 105, 114, 105, 110, 103], 3), (5, [115, 116, 97, 114, 116, 115], 2), (5, [118, 97, 108, 117, 101], 2), (5, [108, 97, 98, 101, 108, 115], 8), (5, [110, 111, 116, 101, 115], 8), (5, [108, 105, 110, 107], 1), (6, [114, 101, 99, 101, 105, 118, 101, 114], 1), (6, [102, 105, 114, 105, 110, 103], 3), (6, [99, 111, 109, 109, 111, 110], 8), (6, [108, 105, 110, 107], 1), (6, [97, 108, 101, 114, 116, 115], 9)]
def callsL : List (List UInt8) := [[97, 100, 100], [98, 111, 116, 104], [99, 97, 116], [99, 111, 117, 110, 116], [100, 101, 102, 97, 117, 108, 116], [101, 105, 116, 104, 101, 114], [102, 105, 114, 115, 116], [103, 101, 116], [104, 97, 115], [106, 111, 105, 110], [107, 101, 121, 115], [108, 97, 115, 116], [108, 101, 115, 115], [108, 111, 119, 101, 114], [110, 111, 116], [114, 101, 112, 108, 97, 99, 101], [115, 97, 109, 101], [115, 105, 122, 101], [115, 117, 98], [116, 114, 105, 109], [117, 112, 112, 101, 114], [119, 114, 105, 116, 101]]
def rowsL : List (List UInt8 × List Int × Int) := [([117, 112, 112, 101, 114], [1], 1), ([108, 111, 119, 101, 114], [1], 1), ([116, 114, 105, 109], [1], 1), ([115, 105, 122, 101], [1], 2), ([102, 105, 114, 115, 116], [1, 2], 1), ([108, 97, 115, 116], [1, 2], 1), ([100, 101, 102, 97, 117, 108, 116], [1, 1], 1), ([99, 97, 116], [1, 1], 1), ([114, 101, 112, 108, 97, 99, 101], [1, 1, 1], 1), ([106, 111, 105, 110], [7, 1], 1), ([107, 101, 121, 115], [8], 7), ([103, 101, 116], [8, 1], 1), ([104, 97, 115], [8, 1], 3), ([99, 111, 117, 110, 116], [7], 2), ([99, 111, 117, 110, 116], [8], 2), ([99, 111, 117, 110, 116], [9], 2), ([119, 114, 105, 116, 101], [2], 1), ([119, 114, 105, 116, 101], [3], 1), ([97, 100, 100], [2, 2], 2), ([115, 117, 98], [2, 2], 2), ([108, 101, 115, 115], [2, 2], 3), ([115, 97, 109, 101], [1, 1], 3), ([115, 97, 109, 101], [2, 2], 3), ([115, 97, 109, 101], [3, 3], 3), ([98, 111, 116, 104], [3, 3], 3), ([101, 105, 116, 104, 101, 114], [3, 3], 3), ([110, 111, 116], [3], 3)]

/-- A kind's name. -/
def nameL (k : Int) : List UInt8 := if k < 0 ∨ 10 ≤ k then [] else kn.getD k.toNat []
/-- The first kind from the (10-n)th on whose name it is. -/
def ofGo (l : List UInt8) : Nat → Int × Bool
  | 0 => (0, false)
  | n + 1 => if nameL (9 - (n : Int)) = l then (9 - (n : Int), true) else ofGo l n
def ofP (l : List UInt8) : Int × Bool := ofGo l 9
def plainB (k : Int) : Bool := decide (1 ≤ k ∧ k ≤ 3)
def elemP (k : Int) : Int × Bool := if k = 7 then (1, true) else if k = 8 then (4, true) else if k = 9 then (5, true) else (0, false)
def fieldsL (k : Int) : List (List UInt8) := (tab.filter fun f => f.1 = k).map fun f => f.2.1
def fieldGo (k : Int) (l : List UInt8) : List (Int × List UInt8 × Int) → Int × Bool
  | [] => (0, false)
  | f :: t => if f.1 = k ∧ f.2.1 = l then (f.2.2, true) else fieldGo k l t
def fieldP (k : Int) (l : List UInt8) : Int × Bool := fieldGo k l tab
theorem ofP_back (l : List UInt8) (k : Int) (h : ofP l = (k, true)) : nameL k = l ∧ 1 ≤ k ∧ k ≤ 9 := by
  have key : ∀ n, n ≤ 9 → ofGo l n = (k, true) → nameL k = l ∧ 1 ≤ k ∧ k ≤ 9 := by
    intro n
    induction n with
    | zero => intro _ h; simp [ofGo] at h
    | succ n ih =>
      intro hn h
      unfold ofGo at h
      split at h
      · rename_i e; cases h; exact ⟨e, by omega, by omega⟩
      · exact ih (by omega) h
  exact key 9 (Nat.le_refl _) h
theorem ofGo_snd (l : List UInt8) : ∀ n, (ofGo l n).2 = false → ofGo l n = (0, false)
  | 0, _ => rfl
  | n + 1, h => by
    unfold ofGo at h ⊢
    split at h
    · cases h
    · rename_i e; rw [if_neg e]; exact ofGo_snd l n h
end Go.Proofs.Ytcegigccehapdaa
