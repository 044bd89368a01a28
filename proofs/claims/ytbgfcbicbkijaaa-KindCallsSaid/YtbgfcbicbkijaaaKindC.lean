/-
  What a call gives: as the program's switch says it, and as the reference's rows say it: the two are one. No program in sight.
-/
import Derived.Test.YtbgfcbicbkijaaaKind
namespace Go.Proofs.Ytbgfcbicbkijaaa
open Go.RowKit

def isP (g : Int) (want L : List Int) : Int × Bool := if want = L then (g, true) else (0, false)
def countP : List Int → Int × Bool
  | [x] => if (elemP x).2 then (2, true) else (0, false)
  | _ => (0, false)
def writeP (L : List Int) : Int × Bool := if [3] = L then (1, true) else isP 1 [2] L
def sameP : List Int → Int × Bool
  | [x, y] => if x = y && plainB x then (3, true) else (0, false)
  | _ => (0, false)
def progCall (n : List UInt8) (L : List Int) : Int × Bool :=
  if n == [117, 112, 112, 101, 114] || n == [108, 111, 119, 101, 114] || n == [116, 114, 105, 109] then isP 1 [1] L else
  if n == [115, 105, 122, 101] then isP 2 [1] L else
  if n == [102, 105, 114, 115, 116] || n == [108, 97, 115, 116] then isP 1 [1, 2] L else
  if n == [100, 101, 102, 97, 117, 108, 116] || n == [99, 97, 116] then isP 1 [1, 1] L else
  if n == [114, 101, 112, 108, 97, 99, 101] then isP 1 [1, 1, 1] L else
  if n == [106, 111, 105, 110] then isP 1 [7, 1] L else
  if n == [107, 101, 121, 115] then isP 7 [8] L else
  if n == [103, 101, 116] then isP 1 [8, 1] L else
  if n == [104, 97, 115] then isP 3 [8, 1] L else
  if n == [99, 111, 117, 110, 116] then countP L else
  if n == [119, 114, 105, 116, 101] then writeP L else
  if n == [115, 97, 109, 101] then sameP L else
  if n == [108, 101, 115, 115] then isP 3 [2, 2] L else
  if n == [97, 100, 100] then isP 2 [2, 2] L else
  if n == [115, 117, 98] then isP 2 [2, 2] L else
  if n == [98, 111, 116, 104] || n == [101, 105, 116, 104, 101, 114] then isP 3 [3, 3] L else
  if n == [110, 111, 116] then isP 3 [3] L else
  (0, false)
def rowGo (n : List UInt8) (L : List Int) : List (List UInt8 × List Int × Int) → Int × Bool
  | [] => (0, false)
  | r :: t => if r.1 = n ∧ r.2.1 = L then (r.2.2, true) else rowGo n L t
def callP (n : List UInt8) (L : List Int) : Int × Bool := rowGo n L rowsL
theorem elem_snd (x : Int) : (elemP x).2 = decide (x = 7 ∨ x = 8 ∨ x = 9) := by
  unfold elemP
  split
  · rename_i h; simp [h]
  · split
    · rename_i h; simp [h]
    · split
      · rename_i h; simp [h]
      · simp; omega
theorem count_rows (L : List Int) : countP L = if [7] = L then (2, true) else if [8] = L then (2, true) else if [9] = L then (2, true) else (0, false) := by
  unfold countP
  split
  · rename_i x
    rw [elem_snd]
    by_cases h7 : 7 = x
    · subst h7; simp
    · by_cases h8 : 8 = x
      · subst h8; simp
      · by_cases h9 : 9 = x
        · subst h9; simp
        · have : ¬ (x = 7 ∨ x = 8 ∨ x = 9) := by omega
          simp [h7, h8, h9, this]
  · rename_i h
    rw [if_neg (fun e => h _ e.symm), if_neg (fun e => h _ e.symm), if_neg (fun e => h _ e.symm)]
theorem same_rows (L : List Int) : sameP L = if [1, 1] = L then (3, true) else if [2, 2] = L then (3, true) else if [3, 3] = L then (3, true) else (0, false) := by
  unfold sameP
  split
  · rename_i x y
    by_cases hxy : x = y
    · subst hxy
      by_cases h1 : 1 = x
      · subst h1; simp [plainB]
      · by_cases h2 : 2 = x
        · subst h2; simp [plainB]
        · by_cases h3 : 3 = x
          · subst h3; simp [plainB]
          · have : plainB x = false := decide_eq_false (by omega)
            simp [h1, h2, h3, this]
    · have a1 : ¬ [1, 1] = [x, y] := by simp; omega
      have a2 : ¬ [2, 2] = [x, y] := by simp; omega
      have a3 : ¬ [3, 3] = [x, y] := by simp; omega
      rw [if_neg a1, if_neg a2, if_neg a3]; simp [hxy]
  · rename_i h
    rw [if_neg (fun e => h _ _ e.symm), if_neg (fun e => h _ _ e.symm), if_neg (fun e => h _ _ e.symm)]
set_option maxHeartbeats 4000000 in
theorem progCall_eq (n : List UInt8) (L : List Int) : progCall n L = callP n L := by
  unfold progCall callP
  simp only [rowsL, rowGo]
  by_cases h : n ∈ callsL
  · simp only [callsL, List.mem_cons, List.mem_nil_iff, or_false] at h
    rcases h with rfl | rfl | rfl | rfl | rfl | rfl | rfl | rfl | rfl | rfl | rfl | rfl | rfl | rfl | rfl | rfl | rfl | rfl | rfl | rfl | rfl | rfl
    all_goals simp [isP, writeP]
    · exact count_rows L
    · exact same_rows L
    · by_cases h2 : [2] = L
      · subst h2; simp
      · by_cases h3 : [3] = L <;> simp [h2, h3]
  · simp only [callsL, List.mem_cons, List.mem_nil_iff, or_false, not_or] at h
    obtain ⟨h0, h1, h2, h3, h4, h5, h6, h7, h8, h9, h10, h11, h12, h13, h14, h15, h16, h17, h18, h19, h20, h21⟩ := h
    simp [h0, Ne.symm h0, h1, Ne.symm h1, h2, Ne.symm h2, h3, Ne.symm h3, h4, Ne.symm h4, h5, Ne.symm h5, h6, Ne.symm h6, h7, Ne.symm h7, h8, Ne.symm h8, h9, Ne.symm h9, h10, Ne.symm h10, h11, Ne.symm h11, h12, Ne.symm h12, h13, Ne.symm h13, h14, Ne.symm h14, h15, Ne.symm h15, h16, Ne.symm h16, h17, Ne.symm h17, h18, Ne.symm h18, h19, Ne.symm h19, h20, Ne.symm h20, h21, Ne.symm h21]
end Go.Proofs.Ytbgfcbicbkijaaa
