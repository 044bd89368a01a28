/- The abstract layer at the kinds. -/
import Derived.Test.YtbgfcbicbkijaaaAbC
import Derived.Test.YtbgfcbicbkijaaaKindC
namespace Go.Proofs.Ytbgfcbicbkijaaa
open Go.RowKit

def rowV (r : List UInt8 × List Int × Int) : List V := [sV r.1, .sl true (isV r.2.1), iV r.2.2]
set_option maxRecDepth 100000 in
theorem rows_p : PCall Try.prog 49 [] (.p (.sl true (rowsL.map rowV))) := by
  refine PCall.of mixed tbOk [] Try.func49 rfl (by kernel_rfl) (Nat.zero_le _) ?_
  exact rfl
def insP (x : List UInt8) : List (List UInt8) → List (List UInt8)
  | [] => [x]
  | y :: t => if Op.bytesLess y x then y :: insP x t else if y = x then y :: t else x :: y :: t
def callsOf (t : List (List UInt8 × List Int × Int)) (o : List (List UInt8)) : List (List UInt8) := t.foldl (fun o r => insP r.1 o) o
theorem callsOf_all : callsOf rowsL [] = callsL := by decide +kernel
theorem insP_len (x : List UInt8) : ∀ o : List (List UInt8), (insP x o).length ≤ o.length + 1
  | [] => by simp [insP]
  | y :: t => by
    unfold insP
    split
    · have := insP_len x t; simp; omega
    · split <;> simp
/-- The place where x belongs: all ahead of it are less, the one there is not. -/
theorem insP_at (x : List UInt8) : ∀ (o : List (List UInt8)) (k : Nat), k ≤ o.length → (∀ m (h : m < o.length), m < k → Op.bytesLess o[m] x = true) → (∀ h : k < o.length, Op.bytesLess o[k] x = false) →
    insP x o = if o[k]? = some x then o else o.take k ++ [x] ++ o.drop k
  | [], k, hk, _, _ => by
    have : k = 0 := by simpa using hk
    subst this; rfl
  | y :: t, 0, _, _, h2 => by
    have h3 := h2 (by simp)
    simp only [List.getElem_cons_zero] at h3
    simp [insP, h3]
  | y :: t, k + 1, hk, h1, h2 => by
    have h3 := h1 0 (by simp) (by omega)
    simp only [List.getElem_cons_zero] at h3
    have ih := insP_at x t k (by simpa using hk) (fun m h hm => by have := h1 (m + 1) (by simpa using h) (by omega); simpa using this) (fun h => by have := h2 (by simpa using h); simpa using this)
    simp only [insP, h3, if_true, ih, List.getElem?_cons_succ]
    split <;> simp
set_option maxRecDepth 100000 in
theorem rcalls_p : PCall Try.prog 24 [] (.p (.sl false (ssV callsL))) := by
  refine PCall.of mixed tbOk [(0, []), (1, [1]), (2, [1, 2]), (3, [1, 2, 3]), (4, [1, 2, 3, 10]), (5, [1, 2, 3]), (6, [1, 2, 3, 4]), (7, [1, 2, 3, 4, 28]), (8, [1, 2, 3, 4]), (9, [1, 2, 3, 4, 46]), (10, [1, 2, 3]), (11, [0]), (1000004, [1, 2, 3]), (1000007, [1, 2, 3, 4])] Try.func24 rfl (by kernel_rfl) (Nat.zero_le _) ?_
  refine Exists.intro _ (Exists.intro _ (And.intro rows_p.c ?_))
  refine T_loop (fun (x : Nat × List (List UInt8)) => ⟨[(1, .p (.sl false (rowsL.map rowV))), (2, .p (.sl false (ssV x.2))), (3, .p (iV x.1))], ⟨[], []⟩⟩)
    (fun x => x.1 ≤ 27 ∧ x.2.length ≤ x.1 ∧ callsOf (rowsL.drop x.1) x.2 = callsL) (fun x => 27 - x.1) (0, []) ⟨by omega, by simp, callsOf_all⟩ ?_ ?_
  · exact Le.pure rfl
  rintro ⟨j, o⟩ ⟨hj, hoj, hO⟩
  dsimp only at hj hoj hO
  refine awp_sound mixed tbOk (lv := [(0, []), (1, [1]), (2, [1, 2]), (3, [1, 2, 3]), (4, [1, 2, 3, 10]), (5, [1, 2, 3]), (6, [1, 2, 3, 4]), (7, [1, 2, 3, 4, 28]), (8, [1, 2, 3, 4]), (9, [1, 2, 3, 4, 46]), (10, [1, 2, 3]), (11, [0]), (1000004, [1, 2, 3]), (1000007, [1, 2, 3, 4])]) _ _ _ ?_
  refine And.intro (fun h => ?_) (fun h => ?_)
  · have hl : j < rowsL.length := by have := of_decide_eq_true h; simp at this; omega
    have hlen : rowsL.length = 27 := rfl
    have hO2 : callsOf (rowsL.drop (j + 1)) (insP rowsL[j].1 o) = callsL := by rw [List.drop_eq_getElem_cons hl] at hO; exact hO
    have hrow : (rowsL.map rowV)[(j : Int).toNat]? = some (rowV rowsL[j]) := by simp [hl]
    refine T_loop (fun (k : Nat) => ⟨[(1, .p (.sl false (rowsL.map rowV))), (2, .p (.sl false (ssV o))), (3, .p (iV j)), (4, .p (iV k))], ⟨[], []⟩⟩)
      (fun k => k ≤ o.length ∧ ∀ m (h : m < o.length), m < k → Op.bytesLess o[m] rowsL[j].1 = true) (fun k => o.length - k) 0 ⟨by omega, fun m h hm => by omega⟩ (Le.pure rfl) ?_
    rintro k ⟨hk, hK⟩
    refine awp_sound mixed tbOk (lv := [(0, []), (1, [1]), (2, [1, 2]), (3, [1, 2, 3]), (4, [1, 2, 3, 10]), (5, [1, 2, 3]), (6, [1, 2, 3, 4]), (7, [1, 2, 3, 4, 28]), (8, [1, 2, 3, 4]), (9, [1, 2, 3, 4, 46]), (10, [1, 2, 3]), (11, [0]), (1000004, [1, 2, 3]), (1000007, [1, 2, 3, 4])]) _ _ _ ?_
    refine And.intro (by decide +kernel) (And.intro rfl (And.intro (fun h2 => ?_) (fun h2 => ?_)))
    · have hk2 : k < o.length := by have := of_decide_eq_true h2; simp [ssV] at this; omega
      refine Exists.intro _ (And.intro (by omega) (And.intro (show _ = some [sV o[k]] from by simp [ssV, hk2]) (And.intro rfl (And.intro (by decide) ?_))))
      refine Exists.intro _ (And.intro (by omega) (And.intro hrow (And.intro rfl (And.intro (by decide) ?_))))
      refine And.intro (fun h3 => ?_) (fun h3 => ?_)
      · exact ⟨k + 1, ⟨by omega, fun m hm hmk => by
          by_cases h2 : m < k
          · exact hK m hm h2
          · have : m = k := by omega
            subst this; exact h3⟩, by omega, Le.pure (Eq.trans (b := some [(1, _), (2, _), (3, _), (4, .p (iV (IntKind.i64.wrap ((k : Int) + 1))))]) rfl (by rw [w64 (by omega) (by omega)]; rfl))⟩
      · -- found a name that is not less
        have hle : Op.bytesLess o[k] rowsL[j].1 = false := h3
        have hins := insP_at rowsL[j].1 o k hk hK (fun _ => hle)
        refine And.intro (by decide +kernel) (And.intro rfl (And.intro (fun h4 => ?_) (fun h4 => ?_)))
        · refine Exists.intro _ (And.intro (by omega) (And.intro (show _ = some [sV o[k]] from by simp [ssV, hk2]) (And.intro rfl (And.intro (by decide) ?_))))
          refine Exists.intro _ (And.intro (by omega) (And.intro hrow (And.intro rfl (And.intro (by decide) ?_))))
          refine And.intro (fun h5 => ?_) (fun h5 => ?_)
          · have he : o[k] = rowsL[j].1 := eq_of_beq h5
            have hI : insP rowsL[j].1 o = o := by rw [hins, if_pos (by rw [List.getElem?_eq_getElem hk2, he])]
            exact ⟨(j + 1, o), ⟨by omega, by dsimp only; omega, by rw [hI] at hO2; exact hO2⟩, by dsimp only; omega, Le.pure (Eq.trans (b := some [(1, _), (2, _), (3, .p (iV (IntKind.i64.wrap ((j : Int) + 1))))]) rfl (by rw [w64 (by omega) (by omega)]; rfl))⟩
          · have he : o[k] ≠ rowsL[j].1 := by have h6 : (o[k] == rowsL[j].1) = false := h5; simpa using h6
            have hI : insP rowsL[j].1 o = o.take k ++ [rowsL[j].1] ++ o.drop k := by rw [hins, if_neg (by rw [List.getElem?_eq_getElem hk2]; simpa using he)]
            rw [hI] at hO2
            refine And.intro (by decide +kernel) (And.intro rfl ?_)
            refine And.intro ⟨by decide, by show (0 : Int) ≤ k; omega, by show (k : Int) ≤ (ssV o).length; simp [ssV]; omega⟩ (And.intro (.inl rfl) ?_)
            refine And.intro (fun x hx => by cases hx) (And.intro ⟨fun x hx => ssV_one o x (List.mem_of_mem_take (List.mem_of_mem_drop hx)), ?_, ?_⟩ ?_)
            · show ((0 : Nat) + _) * 16 ≤ _; simp [ssV]; omega
            · show ((0 : Nat) + _) ≤ _; simp [ssV]; omega
            refine Exists.intro _ (And.intro (by omega) (And.intro hrow (And.intro rfl (And.intro (by decide) ?_))))
            refine And.intro rfl (And.intro ⟨ssV_one [rowsL[j].1], ?_, ?_⟩ ?_)
            · show (_ + 1) * 16 ≤ _; simp [ssV, chunk]; omega
            · show (_ + 1) ≤ _; simp [ssV, chunk]; omega
            refine And.intro ⟨by show (0 : Int) ≤ k; omega, by show (k : Int) ≤ (ssV o).length; simp [ssV]; omega, by show ((ssV o).length : Int) ≤ _; omega⟩ (And.intro (.inr (ssV_one o)) ?_)
            refine And.intro rfl (And.intro ⟨fun x hx => ssV_one o x (List.mem_of_mem_take (List.mem_of_mem_drop hx)), ?_, ?_⟩ ?_)
            · simp [ssV, chunk]; omega
            · simp [ssV, chunk]; omega
            exact ⟨(j + 1, o.take k ++ [rowsL[j].1] ++ o.drop k), ⟨by omega, by simp; omega, hO2⟩, by dsimp only; omega, Le.pure (Eq.trans (b := some [(1, .p (.sl false (rowsL.map rowV))), (2, .p (.sl false ((([] : List (List V)) ++ (ssV o).take k) ++ [[sV rowsL[j].1]] ++ ((ssV o).take (ssV o).length).drop k))), (3, .p (iV (IntKind.i64.wrap ((j : Int) + 1))))]) rfl (by rw [w64 (by omega) (by omega), List.take_length]; simp [ssV, iV]))⟩
        · exact absurd h2 (by rw [h4]; simp)
    · have hk2 : k = o.length := by have := of_decide_eq_false h2; simp [ssV] at this; omega
      have hI : insP rowsL[j].1 o = o.take k ++ [rowsL[j].1] ++ o.drop k := by rw [insP_at rowsL[j].1 o k hk hK (fun h => by omega), if_neg (by rw [List.getElem?_eq_none (by omega)]; simp)]
      rw [hI] at hO2
      refine And.intro (fun e => nomatch e) (fun _ => ?_)
      refine And.intro (by decide +kernel) (And.intro rfl (And.intro (fun h4 => ?_) (fun h4 => ?_)))
      · exact absurd (h4.symm.trans h2) (by simp)
      · refine And.intro (fun e => nomatch e) (fun _ => ?_)
        refine And.intro (by decide +kernel) (And.intro rfl ?_)
        refine And.intro ⟨by decide, by show (0 : Int) ≤ k; omega, by show (k : Int) ≤ (ssV o).length; simp [ssV]; omega⟩ (And.intro (.inl rfl) ?_)
        refine And.intro (fun x hx => by cases hx) (And.intro ⟨fun x hx => ssV_one o x (List.mem_of_mem_take (List.mem_of_mem_drop hx)), ?_, ?_⟩ ?_)
        · show ((0 : Nat) + _) * 16 ≤ _; simp [ssV]; omega
        · show ((0 : Nat) + _) ≤ _; simp [ssV]; omega
        refine Exists.intro _ (And.intro (by omega) (And.intro hrow (And.intro rfl (And.intro (by decide) ?_))))
        refine And.intro rfl (And.intro ⟨ssV_one [rowsL[j].1], ?_, ?_⟩ ?_)
        · show (_ + 1) * 16 ≤ _; simp [ssV, chunk]; omega
        · show (_ + 1) ≤ _; simp [ssV, chunk]; omega
        refine And.intro ⟨by show (0 : Int) ≤ k; omega, by show (k : Int) ≤ (ssV o).length; simp [ssV]; omega, by show ((ssV o).length : Int) ≤ _; omega⟩ (And.intro (.inr (ssV_one o)) ?_)
        refine And.intro rfl (And.intro ⟨fun x hx => ssV_one o x (List.mem_of_mem_take (List.mem_of_mem_drop hx)), ?_, ?_⟩ ?_)
        · simp [ssV, chunk]; omega
        · simp [ssV, chunk]; omega
        exact ⟨(j + 1, o.take k ++ [rowsL[j].1] ++ o.drop k), ⟨by omega, by simp; omega, hO2⟩, by dsimp only; omega, Le.pure (Eq.trans (b := some [(1, .p (.sl false (rowsL.map rowV))), (2, .p (.sl false ((([] : List (List V)) ++ (ssV o).take k) ++ [[sV rowsL[j].1]] ++ ((ssV o).take (ssV o).length).drop k))), (3, .p (iV (IntKind.i64.wrap ((j : Int) + 1))))]) rfl (by rw [w64 (by omega) (by omega), List.take_length]; simp [ssV, iV]))⟩
  · have hj2 : j = 27 := by have := of_decide_eq_false h; simp at this; have : rowsL.length = 27 := rfl; omega
    subst hj2
    have hE : o = callsL := hO
    subst hE
    exact rfl
end Go.Proofs.Ytbgfcbicbkijaaa
