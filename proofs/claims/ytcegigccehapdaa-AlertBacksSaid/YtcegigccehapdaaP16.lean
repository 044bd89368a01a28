/- Chapter 16 (and the kinds it leans on) in plain terms: what the decompiled functions hand back. -/
import Derived.Test.YtcegigccehapdaaD16
import Derived.Test.YtcegigccehapdaaPl
import Derived.Test.YtcegigccehapdaaKind
namespace Go.Proofs.Ytcegigccehapdaa
open Go.RowKit

/-! ### kinds -/
theorem kPlain (k : Int) : kind_Plain k = some (plainB k) := by
  unfold kind_Plain plainB
  by_cases h : k ≥ 1
  · simp [h]
  · simp [h]
theorem rPlain (k : Int) : R15_Plain k = some (plainB k) := by
  unfold R15_Plain plainB
  by_cases h1 : k = 1
  · simp [h1]
  · by_cases h2 : k = 2
    · simp [h2]
    · simp [h1, h2]
      rw [Bool.eq_iff_iff]; simp; omega
theorem kElem (k : Int) : kind_Elem k = some (elemP k) := by
  unfold kind_Elem elemP
  simp only [beq_iff_eq]
  split
  · rfl
  · split
    · rfl
    · split <;> rfl
theorem rElem (k : Int) : R15_Elem k = some (elemP k) := by
  unfold R15_Elem elemP
  simp only [beq_iff_eq]
  split
  · rfl
  · split
    · rfl
    · split <;> rfl
def ktab : List kind_field := tab.map fun f => ⟨f.1, f.2.1, f.2.2⟩
theorem kTable : kind_table = some ktab := rfl
theorem kFieldL (k : Int) (l : List UInt8) : ∀ (t : List (Int × List UInt8 × Int)), t.length ≤ mx → ∀ i, i ≤ t.length → kind_Field_L1 k l (t.map fun f => ⟨f.1, f.2.1, f.2.2⟩) i = some (if (fieldGo k l (t.drop i)).2 then .inr (fieldGo k l (t.drop i)).1 else .inl ()) := by
  intro t ht
  refine upto ?_ fun i hi ih => ?_
  · rw [kind_Field_L1]
    simp [fieldGo]
  · rw [kind_Field_L1, wr_succ (by simp only [mx] at ht; omega), ih]
    rw [dropE hi]
    by_cases h1 : t[i].1 = k
    · by_cases h2 : t[i].2.1 = l
      · simp [hi, h1, h2, fieldGo]
      · simp [hi, h1, h2, fieldGo]
    · simp [hi, h1, fieldGo]
theorem fieldGo_no (k : Int) (l : List UInt8) : ∀ t, (fieldGo k l t).2 = false → fieldGo k l t = (0, false)
  | [], _ => rfl
  | f :: t, h => by
    unfold fieldGo at h ⊢
    split at h
    · cases h
    · rename_i hn; rw [if_neg hn]; exact fieldGo_no k l t h
theorem kField (k : Int) (l : List UInt8) : kind_Field k l = some (fieldP k l) := by
  have := kFieldL k l tab (by decide) 0 (by omega)
  unfold kind_Field
  rw [kTable]
  simp only [bind_some']
  rw [show (0 : Int) = ((0 : Nat) : Int) from rfl, show ktab = tab.map fun f => (⟨f.1, f.2.1, f.2.2⟩ : kind_field) from rfl, this, List.drop_zero]
  unfold fieldP
  cases h : (fieldGo k l tab).2 with
  | true => simp only [bind_some', if_true]; rw [← h]
  | false => simp only [bind_some', Bool.false_eq_true, if_false]; rw [fieldGo_no k l tab h]; rfl
def fieldsFrom (k : Int) (t : List (Int × List UInt8 × Int)) : List (List UInt8) := (t.filter fun f => f.1 = k).map fun f => f.2.1
theorem fieldsFrom_cons (k : Int) (f : Int × List UInt8 × Int) (t : List (Int × List UInt8 × Int)) : fieldsFrom k (f :: t) = if f.1 = k then f.2.1 :: fieldsFrom k t else fieldsFrom k t := by
  unfold fieldsFrom
  by_cases h : f.1 = k <;> simp [h]
theorem kFieldsL (k : Int) (t : List (Int × List UInt8 × Int)) (ht : t.length ≤ 1000) : ∀ i, i ≤ t.length → ∀ o : List (List UInt8), o.length + (t.length - i) ≤ 1000 → kind_Fields_L1 k (t.map fun f => ⟨f.1, f.2.1, f.2.2⟩) o i = some (o ++ fieldsFrom k (t.drop i)) := by
  refine upto ?_ fun i hi ih => ?_
  · intro o ho
    rw [kind_Fields_L1]
    simp [fieldsFrom]
  · intro o ho
    rw [kind_Fields_L1, wr_succ (by omega), dropE hi, fieldsFrom_cons]
    simp only [List.length_map, ltI, hi, decide_true, if_true, idx_nat, List.getElem?_map, getE hi, Option.map_some, bind_some']
    by_cases h1 : t[i].1 = k
    · rw [if_pos (by simpa using h1), if_pos h1, appL_ok (by simp; omega) (by simp; omega), bind_some', ih _ (by simp; omega)]
      simp
    · rw [if_neg (by simpa using h1), if_neg h1, ih _ (by omega)]
theorem kFields (k : Int) : kind_Fields k = some (fieldsL k) := by
  have := kFieldsL k tab (by decide) 0 (by omega) [] (by decide)
  unfold kind_Fields
  rw [kTable]
  simp only [bind_some']
  rw [show (0 : Int) = ((0 : Nat) : Int) from rfl, show ktab = tab.map fun f => (⟨f.1, f.2.1, f.2.2⟩ : kind_field) from rfl, this]
  rfl
def kindsL (k : Int) : List Int := (tab.filter fun f => f.1 = k).map fun f => f.2.2
theorem fields_none (k : Int) (h4 : k ≠ 4) (h5 : k ≠ 5) (h6 : k ≠ 6) : fieldsL k = [] ∧ kindsL k = [] := by
  have : tab.filter (fun f => f.1 = k) = [] := by
    rw [List.filter_eq_nil_iff]
    intro f hf
    have : ∀ f ∈ tab, f.1 = 4 ∨ f.1 = 5 ∨ f.1 = 6 := by decide
    have := this f hf
    simp; omega
  simp [fieldsL, kindsL, this]
theorem r_fields (k : Int) : R15_fields k = some (fieldsL k, kindsL k) := by
  unfold R15_fields
  by_cases h4 : k = 4
  · subst h4; rfl
  · by_cases h5 : k = 5
    · subst h5; rfl
    · by_cases h6 : k = 6
      · subst h6; rfl
      · simp [h4, h5, h6, fields_none k h4 h5 h6]
theorem rFields (k : Int) : R15_Fields k = some (fieldsL k) := by
  unfold R15_Fields; rw [r_fields]; rfl
def lkP (l : List UInt8) : List (List UInt8) → List Int → Int × Bool
  | n :: ns, x :: xs => if n = l then (x, true) else lkP l ns xs
  | _, _ => (0, false)
theorem fieldGo_lk (k : Int) (l : List UInt8) : ∀ t : List (Int × List UInt8 × Int), fieldGo k l t = lkP l ((t.filter fun f => f.1 = k).map fun f => f.2.1) ((t.filter fun f => f.1 = k).map fun f => f.2.2)
  | [] => rfl
  | f :: t => by
    unfold fieldGo
    by_cases h1 : f.1 = k
    · by_cases h2 : f.2.1 = l
      · simp [h1, h2, lkP]
      · simp only [h1, h2, and_false, if_false, List.filter_cons, decide_true, if_true, List.map_cons, lkP]
        exact fieldGo_lk k l t
    · simp only [h1, false_and, if_false, List.filter_cons, decide_false, Bool.false_eq_true]
      exact fieldGo_lk k l t
theorem rFieldL (l : List UInt8) (ns : List (List UInt8)) (xs : List Int) (hl : ns.length = xs.length) (hn : ns.length ≤ mx) : ∀ i, i ≤ ns.length → R15_Field_L1 l (ns, xs) i = some (if (lkP l (ns.drop i) (xs.drop i)).2 then .inr (lkP l (ns.drop i) (xs.drop i)).1 else .inl ()) := by
  refine upto ?_ fun i hi ih => ?_
  · rw [R15_Field_L1]
    simp [lkP]
  · have hi2 : i < xs.length := by omega
    rw [R15_Field_L1, wr_succ (by simp only [mx] at hn; omega), ih, dropE hi, dropE hi2]
    by_cases h1 : ns[i] = l
    · simp [hi, hi2, h1, lkP]
    · simp [hi, h1, lkP]
theorem kinds_len (k : Int) : (fieldsL k).length = (kindsL k).length := by simp [kindsL, fieldsL]
theorem fieldsL_len (k : Int) : (fieldsL k).length ≤ 13 := by
  simp only [fieldsL, List.length_map]
  exact Nat.le_trans (List.length_filter_le _ _) (by decide)
theorem rField (k : Int) (l : List UInt8) : R15_Field k l = some (fieldP k l) := by
  have := rFieldL l (fieldsL k) (kindsL k) (kinds_len k) (by have := fieldsL_len k; simp only [mx]; omega) 0 (by omega)
  unfold R15_Field
  rw [r_fields]
  simp only [bind_some']
  rw [show (0 : Int) = ((0 : Nat) : Int) from rfl, this, List.drop_zero, List.drop_zero]
  have e : fieldP k l = lkP l (fieldsL k) (kindsL k) := fieldGo_lk k l tab
  rw [← e]
  cases h : (fieldP k l).2 with
  | true => simp only [bind_some', if_true]; rw [← h]
  | false => simp only [bind_some', Bool.false_eq_true, if_false]; rw [show fieldP k l = (0, false) from fieldGo_no k l tab h]; rfl
end Go.Proofs.Ytcegigccehapdaa
