/- Chapter 17 in plain terms: the check, values of groups. -/
import Derived.Test.YtcegigccehapdaaP16c
import Derived.Test.YtcegigccehapdaaD17
namespace Go.Proofs.Ytcegigccehapdaa
open Go.RowKit

/-! ### rows and texts -/
def rowsOf (l : List api_Alert) : List (List api_Pair) := l.flatMap fun a => [a.Labels, a.Notes]
def rowsG (g : api_Group) : List (List api_Pair) := g.Common :: rowsOf g.Alerts
def rowT (l : List api_Pair) : List (List UInt8) := l.flatMap fun p => [p.Key, p.Val]
def tsum : List (List UInt8) → Nat
  | [] => 0
  | x :: r => x.length + tsum r
theorem tsum_app (a b : List (List UInt8)) : tsum (a ++ b) = tsum a + tsum b := by
  induction a with
  | nil => simp [tsum]
  | cons x r ih => simp [tsum, ih]; omega
def textsA (g : api_Group) : List (List UInt8) := g.Receiver :: g.Link :: ((rowsG g).flatMap rowT ++ g.Alerts.map (·.Link))
def textsB (g : api_Group) : List (List UInt8) := (([g.Receiver, g.Link] ++ g.Alerts.map (·.Link)) ++ (rowsG g).flatMap rowT)
theorem tsum_ab (g : api_Group) : tsum (textsA g) = tsum (textsB g) := by
  simp [textsA, textsB, tsum, tsum_app]; omega
/-- Of a size that can be reckoned with. -/
structure okG (g : api_Group) : Prop where
  al : g.Alerts.length ≤ 70
  row : ∀ l ∈ rowsG g, l.length ≤ 100
  sum : tsum (textsA g) ≤ 1000000000
theorem rowsOf_len (l : List api_Alert) : (rowsOf l).length = 2 * l.length := by
  induction l with
  | nil => rfl
  | cons a r ih => simp [rowsOf] at ih ⊢; omega
theorem rowsG_len (g : api_Group) (h : okG g) : (rowsG g).length ≤ 141 := by
  have := h.al
  simp [rowsG, rowsOf_len]; omega
theorem flat_len (l : List (List api_Pair)) (h : ∀ r ∈ l, r.length ≤ 100) : (l.flatMap rowT).length ≤ 200 * l.length := by
  induction l with
  | nil => simp
  | cons a r ih =>
    have h1 := h a (by simp)
    have h2 := ih fun x hx => h x (by simp [hx])
    have h3 : (rowT a).length = 2 * a.length := by
      clear h1 h2 ih h
      induction a with
      | nil => rfl
      | cons p q ih => simp [rowT] at ih ⊢; omega
    simp [h3] at h2 ⊢; omega
theorem rowsOf_snoc (l : List api_Alert) (a : api_Alert) : rowsOf (l ++ [a]) = rowsOf l ++ [a.Labels, a.Notes] := by simp [rowsOf]
theorem rowT_snoc (l : List api_Pair) (p : api_Pair) : rowT (l ++ [p]) = rowT l ++ [p.Key, p.Val] := by simp [rowT]
theorem aRowsL (g : api_Group) (h : okG g) : ∀ i, i ≤ g.Alerts.length → alert_rows_L1 g (g.Common :: rowsOf (g.Alerts.take i)) i = some (rowsG g) := by
  have hal := h.al
  refine upto ?_ fun i hi ih => ?_
  · rw [alert_rows_L1]; simp [rowsG]
  · rw [alert_rows_L1, wr_succ (by omega)]
    simp only [ltI, hi, decide_true, if_true, idx_nat, getE hi, bind_some']
    rw [appL_ok (by simp [rowsOf_len]; omega) (by simp [rowsOf_len]; omega), bind_some']
    rw [List.take_succ_eq_append_getElem hi, rowsOf_snoc] at ih
    exact ih
theorem aRows (g : api_Group) (h : okG g) : alert_rows g = some (rowsG g) := by
  have := aRowsL g h 0 (by omega)
  rw [alert_rows]
  simp only [List.take_zero, rowsOf, List.flatMap_nil] at this
  rw [show ((0 : Nat) : Int) = 0 from rfl] at this
  rw [this]; rfl
theorem rListsL (g : api_Group) (h : okG g) : ∀ i, i ≤ g.Alerts.length → R17_lists_L1 g (g.Common :: rowsOf (g.Alerts.take i)) i = some (rowsG g) := by
  have hal := h.al
  refine upto ?_ fun i hi ih => ?_
  · rw [R17_lists_L1]; simp [rowsG]
  · rw [R17_lists_L1, wr_succ (by omega)]
    simp only [ltI, hi, decide_true, if_true, idx_nat, getE hi, bind_some']
    rw [appL_ok (by simp [rowsOf_len]; omega) (by simp [rowsOf_len]; omega), bind_some']
    rw [appL_ok (by simp [rowsOf_len]; omega) (by simp [rowsOf_len]; omega), bind_some']
    rw [List.take_succ_eq_append_getElem hi, rowsOf_snoc] at ih
    rw [List.append_assoc]
    exact ih
theorem rLists (g : api_Group) (h : okG g) : R17_lists g = some (rowsG g) := by
  have := rListsL g h 0 (by omega)
  rw [R17_lists]
  simp only [List.take_zero, rowsOf, List.flatMap_nil] at this
  rw [show ((0 : Nat) : Int) = 0 from rfl] at this
  rw [this]; rfl
def long (l : List (List api_Pair)) : Bool := l.any fun r => decide (32 < r.length)
theorem aLong (l : List (List api_Pair)) (hl : l.length ≤ 65536) : ∀ i, i ≤ l.length → ∃ o, slices_IndexFunc_api_Pair_api_Pair_alert_Check_1_L1 l i = some o ∧ (match o with | .inl _ => long (l.drop i) = false | .inr j => 0 ≤ j ∧ long (l.drop i) = true) := by
  refine upto ?_ fun i hi ih => ?_
  · rw [slices_IndexFunc_api_Pair_api_Pair_alert_Check_1_L1]
    exact ⟨.inl (), by simp, by simp [long]⟩
  · rw [slices_IndexFunc_api_Pair_api_Pair_alert_Check_1_L1, wr_succ (by omega), dropE hi]
    obtain ⟨o, ho, hk⟩ := ih
    simp only [ltI, hi, decide_true, if_true, idx_nat, getE hi, bind_some', alert_Check_1, long, List.any_cons]
    by_cases h1 : 32 < l[i].length
    · have e1 : decide ((l[i].length : Int) > 32) = true := by simp; omega
      simp only [e1, if_true, h1, decide_true, Bool.true_or]
      exact ⟨.inr i, rfl, by simp⟩
    · have e1 : decide ((l[i].length : Int) > 32) = false := by simp; omega
      simp only [e1, Bool.false_eq_true, if_false, h1, decide_false, Bool.false_or]
      exact ⟨o, ho, hk⟩
theorem aLongs (l : List (List api_Pair)) (hl : l.length ≤ 65536) : slices_ContainsFunc_api_Pair_api_Pair_alert_Check_1 l = some (long l) := by
  rw [slices_ContainsFunc_api_Pair_api_Pair_alert_Check_1, slices_IndexFunc_api_Pair_api_Pair_alert_Check_1]
  obtain ⟨o, ho, hk⟩ := aLong l hl 0 (by omega)
  rw [show (0 : Int) = ((0 : Nat) : Int) from rfl, ho]
  rw [List.drop_zero] at hk
  cases o with
  | inl y => simp only [bind_some', hk]; rfl
  | inr j => simp only [bind_some', hk.2]; simp [hk.1]
theorem rLong (g : api_Group) (l : List (List api_Pair)) (hl : l.length ≤ 65536) : ∀ i, i ≤ l.length → R17_Check_L1 g l i = some (if long (l.drop i) then .inr () else .inl ()) := by
  refine upto ?_ fun i hi ih => ?_
  · rw [R17_Check_L1]; simp [long]
  · rw [R17_Check_L1, wr_succ (by omega), dropE hi]
    simp only [ltI, hi, decide_true, if_true, idx_nat, getE hi, bind_some', long, List.any_cons]
    by_cases h1 : 32 < l[i].length
    · have e1 : decide ((l[i].length : Int) > 32) = true := by simp; omega
      simp only [e1, if_true, h1, decide_true, Bool.true_or]
    · have e1 : decide ((l[i].length : Int) > 32) = false := by simp; omega
      simp only [e1, Bool.false_eq_true, if_false, h1, decide_false, Bool.false_or]
      exact ih
/-! ### the texts that are gone through -/
theorem tL2 (g : api_Group) (x1 : List (List api_Pair)) (v : Int) (l : List api_Pair) (hl : l.length ≤ 65536) : ∀ i, i ≤ l.length → alert_texts_1_L2 g x1 v l i = some (rowT (l.drop i), ()) := by
  refine upto ?_ fun i hi ih => ?_
  · rw [alert_texts_1_L2]; simp [rowT]
  · have e : rowT (l.drop i) = l[i].Key :: l[i].Val :: rowT (l.drop (i + 1)) := by rw [dropE hi]; rfl
    rw [alert_texts_1_L2, wr_succ (by omega), e]
    simp only [ltI, hi, decide_true, if_true, idx_nat, getE hi, bind_some', ih]
theorem tL1 (g : api_Group) (l : List (List api_Pair)) (hl : l.length ≤ 65536) (hr : ∀ r ∈ l, r.length ≤ 100) : ∀ i, i ≤ l.length → alert_texts_1_L1 g l i = some ((l.drop i).flatMap rowT, ()) := by
  refine upto ?_ fun i hi ih => ?_
  · rw [alert_texts_1_L1]; simp
  · have hm := tL2 g l i l[i] (by have := hr _ (List.getElem_mem hi); omega) 0 (by omega)
    rw [show ((0 : Nat) : Int) = 0 from rfl, List.drop_zero] at hm
    rw [alert_texts_1_L1, wr_succ (by omega), dropE hi]
    simp only [ltI, hi, decide_true, if_true, idx_nat, getE hi, bind_some', ih, hm, List.flatMap_cons]
theorem tL3 (g : api_Group) (h : okG g) : ∀ i, i ≤ g.Alerts.length → alert_texts_1_L3 g i = some ((g.Alerts.drop i).map (·.Link), ()) := by
  have hal := h.al
  refine upto ?_ fun i hi ih => ?_
  · rw [alert_texts_1_L3]; simp
  · rw [alert_texts_1_L3, wr_succ (by omega), dropE hi]
    simp only [ltI, hi, decide_true, if_true, idx_nat, getE hi, bind_some', ih, List.map_cons]
theorem aTexts (g : api_Group) (h : okG g) : alert_texts_1 g = some (textsA g, ()) := by
  have h1 := tL1 g (rowsG g) (by have := rowsG_len g h; omega) h.row 0 (by omega)
  have h3 := tL3 g h 0 (by omega)
  rw [show ((0 : Nat) : Int) = 0 from rfl, List.drop_zero] at h1 h3
  unfold alert_texts_1
  simp only [aRows g h, bind_some', h1, h3, textsA, List.append_nil]
theorem aSum (g x4 : api_Group) : ∀ (l : List (List UInt8)) (n : Int), 0 ≤ n → n ≤ 1000000000 → tsum l ≤ 1000000000 → ∃ o, alert_Check_L1 g x4 l n = some o ∧ (match o with | .inl _ => (tsum l : Int) ≤ n | .inr _ => n < tsum l)
  | [], n, h0, h1, h2 => by
    rw [alert_Check_L1.eq_def]
    exact ⟨.inl n, rfl, by simpa [tsum] using h0⟩
  | x :: r, n, h0, h1, h2 => by
    rw [alert_Check_L1.eq_def]
    simp only [tsum] at h2
    dsimp only
    rw [wr_in (by omega) (by omega)]
    by_cases h3 : n - (x.length : Int) < 0
    · simp only [h3, decide_true, if_true]
      exact ⟨.inr _, rfl, by simp [tsum]; omega⟩
    · simp only [h3, decide_false, Bool.false_eq_true, if_false]
      obtain ⟨o, ho, hk⟩ := aSum g x4 r (n - x.length) (by omega) (by omega) (by omega)
      refine ⟨o, ho, ?_⟩
      cases o with
      | inl _ => simp [tsum] at hk ⊢; omega
      | inr _ => simp [tsum] at hk ⊢; omega
def chk (g : api_Group) : Int := if 64 < g.Alerts.length ∨ long (rowsG g) = true then 5 else if tsum (textsA g) ≤ 65536 then 0 else 6
theorem aCheck (g : api_Group) (h : okG g) : alert_Check g = some (chk g) := by
  unfold alert_Check chk
  rw [aRows g h]
  have hl := rowsG_len g h
  by_cases h1 : 64 < g.Alerts.length
  · have e1 : decide ((g.Alerts.length : Int) > 64) = true := by simp; omega
    simp [e1, h1]
  · have e1 : decide ((g.Alerts.length : Int) > 64) = false := by simp; omega
    simp only [e1, Bool.false_eq_true, if_false, bind_some', aLongs _ (show (rowsG g).length ≤ 65536 by omega), h1, false_or]
    cases h2 : long (rowsG g) with
    | true => simp
    | false =>
      simp only [Bool.false_eq_true, if_false, alert_texts, bind_some', aTexts g h]
      obtain ⟨o, ho, hk⟩ := aSum g g (textsA g) 65536 (by omega) (by omega) h.sum
      rw [ho]
      cases o with
      | inl _ => simp only [bind_some']; rw [if_pos (by simp at hk; omega)]
      | inr _ => simp only [bind_some']; rw [if_neg (by simp at hk; omega)]
/-! ### the reference's check -/
theorem rL2 (g : api_Group) (x1 : List (List api_Pair)) (h : okG g) : ∀ i, i ≤ g.Alerts.length → R17_Check_L2 g x1 ([g.Receiver, g.Link] ++ (g.Alerts.take i).map (·.Link)) i = some ([g.Receiver, g.Link] ++ g.Alerts.map (·.Link)) := by
  have hal := h.al
  refine upto ?_ fun i hi ih => ?_
  · rw [R17_Check_L2]; simp
  · rw [R17_Check_L2, wr_succ (by omega)]
    simp only [ltI, hi, decide_true, if_true, idx_nat, getE hi, bind_some']
    rw [appL_ok (by simp; omega) (by simp; omega), bind_some']
    rw [List.take_succ_eq_append_getElem hi, List.map_append, ← List.append_assoc] at ih
    exact ih
theorem rL4 (g : api_Group) (x1 : List (List api_Pair)) (k : Nat) (l : List api_Pair) (hk : x1[k]? = some l) (hl : l.length ≤ 100) (o : List (List UInt8)) (ho : o.length ≤ 1000000) : ∀ i, i ≤ l.length → R17_Check_L4 g x1 k (o ++ rowT (l.take i)) i = some (o ++ rowT l) := by
  have hT : ∀ m : List api_Pair, (rowT m).length = 2 * m.length := fun m => by
    induction m with
    | nil => rfl
    | cons p q ih => simp [rowT] at ih ⊢; omega
  refine upto ?_ fun i hi ih => ?_
  · rw [R17_Check_L4]; simp [hk]
  · rw [R17_Check_L4, wr_succ (by omega)]
    simp only [idx_nat, hk, bind_some', ltI, hi, decide_true, if_true, getE hi]
    rw [appL_ok (by simp [hT]; omega) (by simp [hT]; omega), bind_some']
    rw [appL_ok (by simp [hT]; omega) (by simp [hT]; omega), bind_some']
    rw [List.take_succ_eq_append_getElem hi, rowT_snoc, ← List.append_assoc] at ih
    rw [List.append_assoc (o ++ rowT (l.take i))]
    exact ih
theorem rL3 (g : api_Group) (l : List (List api_Pair)) (hl : l.length ≤ 141) (hr : ∀ r ∈ l, r.length ≤ 100) (o : List (List UInt8)) (ho : o.length ≤ 1000) : ∀ i, i ≤ l.length → R17_Check_L3 g l (o ++ (l.take i).flatMap rowT) i = some (o ++ l.flatMap rowT) := by
  refine upto ?_ fun i hi ih => ?_
  · rw [R17_Check_L3]; simp
  · have hf := flat_len (l.take i) fun r hr' => hr r (List.mem_of_mem_take hr')
    have hti : (l.take i).length ≤ 141 := by simp; omega
    have h4 := rL4 g l i l[i] (getE hi) (hr _ (List.getElem_mem hi)) (o ++ (l.take i).flatMap rowT) (by rw [List.length_append]; omega) 0 (by omega)
    have e0 : rowT (l[i].take 0) = [] := rfl
    rw [e0, List.append_nil] at h4
    rw [show ((0 : Nat) : Int) = 0 from rfl] at h4
    rw [R17_Check_L3, wr_succ (by omega)]
    simp only [ltI, hi, decide_true, if_true]
    rw [h4, bind_some']
    have e1 : (l.take i ++ [l[i]]).flatMap rowT = (l.take i).flatMap rowT ++ rowT l[i] := by rw [List.flatMap_append]; simp
    rw [List.take_succ_eq_append_getElem hi, e1, ← List.append_assoc] at ih
    exact ih
theorem rSum (g : api_Group) (l : List (List UInt8)) (hl : l.length ≤ 1000000000) : ∀ i, i ≤ l.length → ∀ n : Int, 0 ≤ n → n ≤ 1000000000 → R17_Check_L5 g l n i = some (if (tsum (l.drop i) : Int) ≤ n then .inl () else .inr ()) := by
  refine upto (φ := fun i => ∀ n : Int, 0 ≤ n → n ≤ 1000000000 → R17_Check_L5 g l n i = some (if (tsum (l.drop i) : Int) ≤ n then .inl () else .inr ())) ?_ fun i hi ih => ?_
  · intro n h0 h1
    rw [R17_Check_L5]; simp [tsum, h0]
  · intro n h0 h1
    have et : tsum (l.drop i) = l[i].length + tsum (l.drop (i + 1)) := by rw [dropE hi]; rfl
    rw [R17_Check_L5, wr_succ (by omega), et]
    simp only [ltI, hi, decide_true, if_true, idx_nat, getE hi, bind_some']
    by_cases h3 : (l[i].length : Int) > n
    · simp only [h3, decide_true, if_true]
      rw [if_neg (by omega)]
    · simp only [h3, decide_false, Bool.false_eq_true, if_false]
      rw [wr_in (by omega) (by omega), ih _ (by omega) (by omega)]
      congr 1
      by_cases h4 : (tsum (l.drop (i + 1)) : Int) ≤ n - l[i].length
      · rw [if_pos h4, if_pos (by omega)]
      · rw [if_neg h4, if_neg (by omega)]
theorem rCheck (g : api_Group) (h : okG g) : R17_Check g = some (chk g) := by
  unfold R17_Check chk
  rw [rLists g h]
  have hl := rowsG_len g h
  have hal := h.al
  by_cases h1 : 64 < g.Alerts.length
  · have e1 : decide ((g.Alerts.length : Int) > 64) = true := by simp; omega
    simp [e1, h1]
  · have e1 : decide ((g.Alerts.length : Int) > 64) = false := by simp; omega
    have hL := rLong g (rowsG g) (by omega) 0 (by omega)
    have h2 := rL2 g (rowsG g) h 0 (by omega)
    have h3 := rL3 g (rowsG g) hl h.row ([g.Receiver, g.Link] ++ g.Alerts.map (·.Link)) (by simp; omega) 0 (by omega)
    simp only [List.take_zero, List.map_nil, List.append_nil, List.flatMap_nil, List.drop_zero] at hL h2 h3
    rw [show ((0 : Nat) : Int) = 0 from rfl] at hL h2 h3
    simp only [e1, Bool.false_eq_true, if_false, bind_some', hL, h1, false_or]
    cases hlg : long (rowsG g) with
    | true => simp
    | false =>
      have hf := flat_len (rowsG g) h.row
      have h5 := rSum g (textsB g) (by simp only [textsB, List.length_append, List.length_map, List.length_cons, List.length_nil]; omega) 0 (by omega) 65536 (by omega) (by omega)
      rw [show ((0 : Nat) : Int) = 0 from rfl, List.drop_zero, ← tsum_ab] at h5
      simp only [Bool.false_eq_true, if_false, bind_some', h2, h3]
      have h5' : R17_Check_L5 g ([g.Receiver, g.Link] ++ g.Alerts.map (·.Link) ++ (rowsG g).flatMap rowT) 65536 0 = _ := h5
      rw [h5', bind_some']
      by_cases h6 : tsum (textsA g) ≤ 65536
      · rw [if_pos h6, if_pos (by omega)]
      · rw [if_neg h6, if_neg (by omega)]
end Go.Proofs.Ytcegigccehapdaa
