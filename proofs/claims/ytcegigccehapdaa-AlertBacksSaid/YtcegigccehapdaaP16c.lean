/- Chapter 16 in plain terms: weight, the same, copies, fields, lists; the laws. -/
import Derived.Test.YtcegigccehapdaaP16b
namespace Go.Proofs.Ytcegigccehapdaa
open Go.RowKit

/-! ### weight -/
mutual
def wt : api_Val → Int
  | ⟨_, _, _, _, l⟩ => wts 1 l
def wts : Int → List api_Val → Int
  | n, [] => n
  | n, v :: r => wts (wr (n + wt v)) r
end
theorem wt_eq (v : api_Val) : wt v = wts 1 v.L := by cases v; rw [wt]
theorem sWtL {N : Nat} (IH : ∀ v, sz v ≤ N → few v → schema_Weight v = some (wt v)) (v : api_Val) (hs : szs v.L ≤ N) (hf : fews v.L) (hb : v.L.length ≤ 65536) :
    ∀ i, i ≤ v.L.length → ∀ n, schema_Weight_L1 v n i = some (wts n (v.L.drop i)) := by
  refine upto ?_ fun i hi ih => ?_
  · intro n; rw [schema_Weight_L1]; simp [wts]
  · intro n
    have hm := List.getElem_mem hi
    rw [schema_Weight_L1, wr_succ (by omega), dropE hi, wts]
    simp only [ltI, hi, decide_true, if_true, idx_nat, getE hi, bind_some', IH v.L[i] (by have := sz_mem hm; omega) (fews_mem hf _ hm), ih]
theorem sWt_n : ∀ (N : Nat) (v : api_Val), sz v ≤ N → few v → schema_Weight v = some (wt v) := by
  intro N
  induction N with
  | zero => intro v h; rw [sz_eq] at h; omega
  | succ N IH =>
    intro v hN hf
    obtain ⟨hl, hfs⟩ := (few_eq v).1 hf
    rw [schema_Weight, show (0 : Int) = ((0 : Nat) : Int) from rfl, sWtL IH v (by rw [sz_eq] at hN; omega) hfs hl 0 (by omega), wt_eq]
    rfl
theorem sWt (v : api_Val) (h : few v) : schema_Weight v = some (wt v) := sWt_n _ v (Nat.le_refl _) h
theorem rWtL {N : Nat} (IH : ∀ v, sz v ≤ N → few v → R16_Weight v = some (wt v)) (v : api_Val) (hs : szs v.L ≤ N) (hf : fews v.L) (hb : v.L.length ≤ 65536) :
    ∀ i, i ≤ v.L.length → ∀ n, R16_Weight_L1 v n i = some (wts n (v.L.drop i)) := by
  refine upto ?_ fun i hi ih => ?_
  · intro n; rw [R16_Weight_L1]; simp [wts]
  · intro n
    have hm := List.getElem_mem hi
    rw [R16_Weight_L1, wr_succ (by omega), dropE hi, wts]
    simp only [ltI, hi, decide_true, if_true, idx_nat, getE hi, bind_some', IH v.L[i] (by have := sz_mem hm; omega) (fews_mem hf _ hm), ih]
theorem rWt_n : ∀ (N : Nat) (v : api_Val), sz v ≤ N → few v → R16_Weight v = some (wt v) := by
  intro N
  induction N with
  | zero => intro v h; rw [sz_eq] at h; omega
  | succ N IH =>
    intro v hN hf
    obtain ⟨hl, hfs⟩ := (few_eq v).1 hf
    rw [R16_Weight, show (0 : Int) = ((0 : Nat) : Int) from rfl, rWtL IH v (by rw [sz_eq] at hN; omega) hfs hl 0 (by omega), wt_eq]
    rfl
theorem rWt (v : api_Val) (h : few v) : R16_Weight v = some (wt v) := rWt_n _ v (Nat.le_refl _) h

/-! ### the same -/
mutual
def sme : api_Val → api_Val → Bool
  | ⟨k, s, n, b, l⟩, v => k == v.K && s == v.S && n == v.N && b == v.B && smes l v.L
def smes : List api_Val → List api_Val → Bool
  | [], [] => true
  | v :: r, v' :: r' => sme v v' && smes r r'
  | _, _ => false
end
theorem sme_eq (a b : api_Val) : sme a b = (a.K == b.K && a.S == b.S && a.N == b.N && a.B == b.B && smes a.L b.L) := by cases a; rw [sme]
theorem smes_len : ∀ l m : List api_Val, smes l m = true → l.length = m.length
  | [], [], _ => rfl
  | [], _ :: _, h => by simp [smes] at h
  | _ :: _, [], h => by simp [smes] at h
  | v :: r, v' :: r', h => by simp only [smes, Bool.and_eq_true] at h; simp [smes_len r r' h.2]
mutual
theorem sme_refl : ∀ a : api_Val, sme a a = true
  | ⟨k, s, n, b, l⟩ => by rw [sme]; simp [smes_refl l]
theorem smes_refl : ∀ l : List api_Val, smes l l = true
  | [] => rfl
  | v :: r => by rw [smes, sme_refl v, smes_refl r]; rfl
end
theorem sSmL {N : Nat} (IH : ∀ a b, sz a ≤ N → few a → schema_Same a b = some (sme a b)) (l m : List api_Val) (hs : szs l ≤ N) (hf : fews l) (hb : l.length ≤ 65536) (hl : l.length = m.length) :
    ∀ i, i ≤ l.length → slices_EqualFunc_api_Val_api_Val_api_Val_api_Val_schema_Same_L1 l m i = some (if smes (l.drop i) (m.drop i) then .inl () else .inr ()) := by
  refine upto ?_ fun i hi ih => ?_
  · rw [slices_EqualFunc_api_Val_api_Val_api_Val_api_Val_schema_Same_L1]
    have : m.drop l.length = [] := by rw [hl]; simp
    simp [this, smes]
  · have hi2 : i < m.length := by omega
    have hm := List.getElem_mem hi
    rw [slices_EqualFunc_api_Val_api_Val_api_Val_api_Val_schema_Same_L1, wr_succ (by omega), ih, dropE hi, dropE hi2, smes]
    simp only [ltI, hi, decide_true, if_true, idx_nat, getE hi, getE hi2, bind_some', IH l[i] m[i] (by have := sz_mem hm; omega) (fews_mem hf _ hm)]
    cases sme l[i] m[i] <;> simp
theorem lenNe (l m : List api_Val) : ((l.length : Int) != (m.length : Int)) = !decide (l.length = m.length) := by
  by_cases h : l.length = m.length
  · simp [h]
  · simp [h]; omega
theorem sSm_n : ∀ (N : Nat) (a b : api_Val), sz a ≤ N → few a → schema_Same a b = some (sme a b) := by
  intro N
  induction N with
  | zero => intro v b h; rw [sz_eq] at h; omega
  | succ N IH =>
    intro a b hN hf
    obtain ⟨hl, hfs⟩ := (few_eq a).1 hf
    have hs : szs a.L ≤ N := by rw [sz_eq] at hN; omega
    rw [schema_Same, sme_eq]
    have e : slices_EqualFunc_api_Val_api_Val_api_Val_api_Val_schema_Same a.L b.L = some (smes a.L b.L) := by
      rw [slices_EqualFunc_api_Val_api_Val_api_Val_api_Val_schema_Same, lenNe]
      by_cases h : a.L.length = b.L.length
      · rw [show (0 : Int) = ((0 : Nat) : Int) from rfl, sSmL IH a.L b.L hs hfs hl h 0 (by omega)]
        cases h2 : smes a.L b.L <;> simp [h, h2]
      · have : smes a.L b.L = false := by
          cases h2 : smes a.L b.L with
          | false => rfl
          | true => exact absurd (smes_len _ _ h2) h
        simp [h, this]
    rw [e]
    by_cases h1 : a.K = b.K
    · by_cases h2 : a.S = b.S
      · by_cases h3 : a.N = b.N
        · by_cases h4 : a.B = b.B
          · simp [h1, h2, h3, h4]
          · simp [h1, h2, h3, h4]
        · simp [h1, h2, h3]
      · simp [h1, h2]
    · simp [h1]
theorem sSm (a b : api_Val) (h : few a) : schema_Same a b = some (sme a b) := sSm_n _ a b (Nat.le_refl _) h
theorem rSmL {N : Nat} (IH : ∀ a b, sz a ≤ N → few a → R16_Same a b = some (sme a b)) (a b : api_Val) (hs : szs a.L ≤ N) (hf : fews a.L) (hb : a.L.length ≤ 65536) (hl : a.L.length = b.L.length) :
    ∀ i, i ≤ a.L.length → R16_Same_L1 a b i = some (if smes (a.L.drop i) (b.L.drop i) then .inl () else .inr ()) := by
  refine upto ?_ fun i hi ih => ?_
  · rw [R16_Same_L1]
    have : b.L.drop a.L.length = [] := by rw [hl]; simp
    simp [this, smes]
  · have hi2 : i < b.L.length := by omega
    have hm := List.getElem_mem hi
    rw [R16_Same_L1, wr_succ (by omega), ih, dropE hi, dropE hi2, smes]
    simp only [ltI, hi, decide_true, if_true, idx_nat, getE hi, getE hi2, bind_some', IH a.L[i] b.L[i] (by have := sz_mem hm; omega) (fews_mem hf _ hm)]
    cases sme a.L[i] b.L[i] <;> simp
theorem rSm_n : ∀ (N : Nat) (a b : api_Val), sz a ≤ N → few a → R16_Same a b = some (sme a b) := by
  intro N
  induction N with
  | zero => intro v b h; rw [sz_eq] at h; omega
  | succ N IH =>
    intro a b hN hf
    obtain ⟨hl, hfs⟩ := (few_eq a).1 hf
    have hs : szs a.L ≤ N := by rw [sz_eq] at hN; omega
    rw [R16_Same, sme_eq, lenNe]
    by_cases h1 : a.K = b.K
    · by_cases h2 : a.S = b.S
      · by_cases h3 : a.N = b.N
        · by_cases h4 : a.B = b.B
          · by_cases h : a.L.length = b.L.length
            · rw [show (0 : Int) = ((0 : Nat) : Int) from rfl, rSmL IH a b hs hfs hl h 0 (by omega)]
              cases h5 : smes a.L b.L <;> simp [h1, h2, h3, h4, h, h5]
            · have : smes a.L b.L = false := by
                cases h5 : smes a.L b.L with
                | false => rfl
                | true => exact absurd (smes_len _ _ h5) h
              simp [h1, h2, h3, h4, h, this]
          · simp [h1, h2, h3, h4]
        · simp [h1, h2, h3]
      · simp [h1, h2]
    · simp [h1]
theorem rSm (a b : api_Val) (h : few a) : R16_Same a b = some (sme a b) := rSm_n _ a b (Nat.le_refl _) h

/-! ### copies -/
@[simp] theorem val_eta (v : api_Val) : api_Val.mk v.K v.S v.N v.B v.L = v := by cases v; rfl
theorem cpL {N : Nat} (IH : ∀ v, sz v ≤ N → few v → schema_copied v = some v) (v : api_Val) (hs : szs v.L ≤ N) (hf : fews v.L) (hb : v.L.length ≤ 65536) :
    ∀ i, i ≤ v.L.length → schema_copied_L1 v i (v.L.take i) = some v.L := by
  refine upto ?_ fun i hi ih => ?_
  · rw [schema_copied_L1]; simp
  · have hm := List.getElem_mem hi
    rw [schema_copied_L1, wr_succ (by omega)]
    simp only [ltI, hi, decide_true, if_true, idx_nat, getE hi, bind_some', IH v.L[i] (by have := sz_mem hm; omega) (fews_mem hf _ hm)]
    rw [appL_ok (by simp; omega) (by simp; omega), bind_some', ← List.take_succ_eq_append_getElem hi, ih]
theorem cp_n : ∀ (N : Nat) (v : api_Val), sz v ≤ N → few v → schema_copied v = some v := by
  intro N
  induction N with
  | zero => intro v h; rw [sz_eq] at h; omega
  | succ N IH =>
    intro v hN hf
    obtain ⟨hl, hfs⟩ := (few_eq v).1 hf
    have := cpL IH v (by rw [sz_eq] at hN; omega) hfs hl 0 (by omega)
    rw [schema_copied, show (0 : Int) = ((0 : Nat) : Int) from rfl]
    rw [List.take_zero] at this
    rw [this]
    simp
theorem cp (v : api_Val) (h : few v) : schema_copied v = some v := cp_n _ v (Nat.le_refl _) h

/-! ### fields -/
def ixF (s : List UInt8) : List (List UInt8) → Option Nat
  | [] => none
  | x :: r => if x = s then some 0 else (ixF s r).map (· + 1)
theorem ixF_lt (s : List UInt8) : ∀ (l : List (List UInt8)) (j : Nat), ixF s l = some j → j < l.length
  | [], j, h => by simp [ixF] at h
  | x :: r, j, h => by
    unfold ixF at h
    split at h
    · cases h; simp
    · obtain ⟨k, hk, rfl⟩ := Option.map_eq_some_iff.1 h
      have := ixF_lt s r k hk
      simp; omega
theorem ixF_at (s : List UInt8) : ∀ (l : List (List UInt8)) (j : Nat), ixF s l = some j → l[j]? = some s
  | [], j, h => by simp [ixF] at h
  | x :: r, j, h => by
    unfold ixF at h
    split at h
    · rename_i e; cases h; simp [e]
    · obtain ⟨k, hk, rfl⟩ := Option.map_eq_some_iff.1 h
      simpa using ixF_at s r k hk
theorem sIxL (l : List (List UInt8)) (s : List UInt8) (hb : l.length ≤ 65536) : ∀ i, i ≤ l.length → slices_Index_string_string_L1 l s i = some (match ixF s (l.drop i) with | some j => .inr ((i + j : Nat) : Int) | none => .inl ()) := by
  refine upto ?_ fun i hi ih => ?_
  · rw [slices_Index_string_string_L1]; simp [ixF]
  · rw [slices_Index_string_string_L1, wr_succ (by omega), ih, dropE hi, ixF]
    simp only [ltI, hi, decide_true, if_true, idx_nat, getE hi, bind_some']
    by_cases h : l[i] = s
    · simp [h]
    · have h2 : ¬ (s = l[i]) := fun e => h e.symm
      simp only [h, if_false, beq_iff_eq, h2]
      cases ixF s (l.drop (i + 1)) with
      | none => rfl
      | some j => simp; omega
theorem sIx (l : List (List UInt8)) (s : List UInt8) (hb : l.length ≤ 65536) : slices_Index_string_string l s = some (match ixF s l with | some j => (j : Int) | none => -1) := by
  rw [slices_Index_string_string, show (0 : Int) = ((0 : Nat) : Int) from rfl, sIxL l s hb 0 (by omega), List.drop_zero]
  cases ixF s l <;> simp
abbrev val0 : api_Val := ⟨0, [], 0, false, []⟩
theorem cnf_len (v : api_Val) (h : cnf v = true) (hk : fieldsL v.K ≠ []) : (fieldsL v.K).length = v.L.length := by
  have h4 : v.K = 4 ∨ v.K = 5 ∨ v.K = 6 := by
    by_cases h4 : v.K = 4
    · exact .inl h4
    · by_cases h5 : v.K = 5
      · exact .inr (.inl h5)
      · by_cases h6 : v.K = 6
        · exact .inr (.inr h6)
        · exact absurd (fields_none v.K h4 h5 h6).1 hk
  rw [cnf_eq] at h
  simp only [Bool.and_eq_true] at h
  obtain ⟨-, h⟩ := h
  have hp : plainB v.K = false := by rcases h4 with e | e | e <;> rw [e] <;> rfl
  have he : (elemP v.K).2 = false := by rcases h4 with e | e | e <;> rw [e] <;> rfl
  simp only [hp, he, Bool.false_eq_true, if_false, Bool.and_eq_true, decide_eq_true_eq] at h
  exact h.1.2
def getP (v : api_Val) (s : List UInt8) : api_Val × Bool := if cnf v then match ixF s (fieldsL v.K) with | some j => (v.L.getD j val0, true) | none => (val0, false) else (val0, false)
theorem sGet (v : api_Val) (s : List UInt8) (h : few v) : schema_Get v s = some (getP v s) := by
  obtain ⟨hl, hfs⟩ := (few_eq v).1 h
  unfold schema_Get getP
  rw [kFields]
  simp only [bind_some']
  rw [sIx _ _ (by have := fieldsL_len v.K; omega), sIs v h]
  simp only [bind_some']
  cases hx : ixF s (fieldsL v.K) with
  | none => simp
  | some j =>
    simp only
    cases hc : cnf v with
    | false => simp [show ¬ ((j : Int) < 0) by omega]
    | true =>
      have hj := ixF_lt s _ j hx
      have hlen := cnf_len v hc (by intro e; rw [e] at hj; simp at hj)
      have hjl : j < v.L.length := by omega
      simp [show ¬ ((j : Int) < 0) by omega, getE hjl, cp v.L[j] (fews_mem hfs _ (List.getElem_mem hjl)), List.getD]
theorem rGetL (v : api_Val) (s : List UInt8) (ns : List (List UInt8)) (hb : ns.length ≤ 65536) (hl : ns.length ≤ v.L.length) : ∀ i, i ≤ ns.length → R16_Get_L1 v s ns i = some (match ixF s (ns.drop i) with | some j => .inr ((v.L.getD (i + j) val0).K, (v.L.getD (i + j) val0).S, (v.L.getD (i + j) val0).N, (v.L.getD (i + j) val0).B, (v.L.getD (i + j) val0).L) | none => .inl ()) := by
  refine upto ?_ fun i hi ih => ?_
  · rw [R16_Get_L1]; simp [ixF]
  · have hi2 : i < v.L.length := by omega
    rw [R16_Get_L1, wr_succ (by omega), ih, dropE hi, ixF]
    simp only [ltI, hi, decide_true, if_true, idx_nat, getE hi, getE hi2, bind_some']
    by_cases h : ns[i] = s
    · simp [h, List.getD, getE hi2]
    · simp only [h, if_false, beq_iff_eq]
      cases ixF s (ns.drop (i + 1)) with
      | none => rfl
      | some j => simp only [Option.map_some]; rw [show i + 1 + j = i + (j + 1) by omega]
theorem rGet (v : api_Val) (s : List UInt8) (h : few v) : R16_Get v s = some (getP v s) := by
  unfold R16_Get getP
  rw [rIs v h, rFields]
  simp only [bind_some']
  cases hc : cnf v with
  | false => simp
  | true =>
    have hle : (fieldsL v.K).length ≤ v.L.length := by
      by_cases e : fieldsL v.K = []
      · simp [e]
      · exact Nat.le_of_eq (cnf_len v hc e)
    rw [show R16_Get_L1 v s (fieldsL v.K) 0 = _ from rGetL v s (fieldsL v.K) (by have := fieldsL_len v.K; omega) hle 0 (by omega), List.drop_zero]
    cases ixF s (fieldsL v.K) <;> simp
/-! ### pairs by key -/
theorem pair_two (p : api_Val) (hc : cnf p = true) (hk : p.K = 4) : ∃ a b, p.L = [a, b] := by
  have h5 : (fieldsL p.K).length = 2 := by rw [hk]; rfl
  have h2 := cnf_len p hc (by rw [hk]; decide)
  rw [h5] at h2
  match hl : p.L, h2 with
  | [a, b], _ => exact ⟨a, b, rfl⟩
theorem cnfA_mem (e : Int) : ∀ l : List api_Val, cnfA e l = true → ∀ v ∈ l, v.K = e ∧ cnf v = true
  | [], _, v, hv => by cases hv
  | x :: r, h, v, hv => by
    simp only [cnfA, Bool.and_eq_true, beq_iff_eq] at h
    rcases List.mem_cons.1 hv with rfl | hv
    · exact ⟨h.1.1, h.1.2⟩
    · exact cnfA_mem e r h.2 v hv
theorem cnf_pairs (v : api_Val) (hk : v.K = 8) (hc : cnf v = true) : ∀ p ∈ v.L, ∃ a b, p.L = [a, b] := by
  rw [cnf_eq] at hc
  simp only [Bool.and_eq_true] at hc
  have hp : plainB v.K = false := by rw [hk]; rfl
  have he : elemP v.K = (4, true) := by rw [hk]; rfl
  simp only [hp, he, Bool.false_eq_true, if_false, if_true, Bool.and_eq_true] at hc
  intro p hp
  obtain ⟨h1, h2⟩ := cnfA_mem 4 v.L hc.2.2 p hp
  exact pair_two p h2 h1
def findL (s : List UInt8) : List api_Val → Option (List UInt8)
  | [] => none
  | p :: r => if (p.L.getD 0 val0).S = s then some (p.L.getD 1 val0).S else findL s r
def findP (v : api_Val) (s : List UInt8) : List UInt8 × Bool := if v.K = 8 ∧ cnf v = true then match findL s v.L with | some t => (t, true) | none => ([], false) else ([], false)
theorem sFindL (v : api_Val) (s : List UInt8) (hb : v.L.length ≤ 65536) (hp : ∀ p ∈ v.L, ∃ a b, p.L = [a, b]) : ∀ i, i ≤ v.L.length → schema_Find_L1 v s i = some (match findL s (v.L.drop i) with | some t => .inr t | none => .inl ()) := by
  refine upto ?_ fun i hi ih => ?_
  · rw [schema_Find_L1]; simp [findL]
  · obtain ⟨a, b, hab⟩ := hp _ (List.getElem_mem hi)
    rw [schema_Find_L1, wr_succ (by omega), ih, dropE hi, findL]
    simp only [ltI, hi, decide_true, if_true, idx_nat, getE hi, bind_some', hab, idx_0, idx_1]
    by_cases h : a.S = s
    · simp [h]
    · simp [h]
theorem sFind (v : api_Val) (s : List UInt8) (h : few v) : schema_Find v s = some (findP v s) := by
  unfold schema_Find findP
  by_cases hk : v.K = 8
  · rw [sIs v h]
    cases hc : cnf v with
    | false => simp [hk]
    | true =>
      rw [show schema_Find_L1 v s 0 = _ from sFindL v s ((few_eq v).1 h).1 (cnf_pairs v hk hc) 0 (by omega), List.drop_zero]
      cases findL s v.L <;> simp [hk]
  · simp [hk]
theorem rFindL (v : api_Val) (s : List UInt8) (hb : v.L.length ≤ 65536) (hp : ∀ p ∈ v.L, ∃ a b, p.L = [a, b]) : ∀ i, i ≤ v.L.length → R16_Find_L1 v s i = some (match findL s (v.L.drop i) with | some t => .inr t | none => .inl ()) := by
  refine upto ?_ fun i hi ih => ?_
  · rw [R16_Find_L1]; simp [findL]
  · obtain ⟨a, b, hab⟩ := hp _ (List.getElem_mem hi)
    rw [R16_Find_L1, wr_succ (by omega), ih, dropE hi, findL]
    simp only [ltI, hi, decide_true, if_true, idx_nat, getE hi, bind_some', hab, idx_0, idx_1]
    by_cases h : a.S = s
    · simp [h]
    · simp [h]
theorem rFind (v : api_Val) (s : List UInt8) (h : few v) : R16_Find v s = some (findP v s) := by
  unfold R16_Find findP
  by_cases hk : v.K = 8
  · rw [rIs v h]
    cases hc : cnf v with
    | false => simp [hk]
    | true =>
      rw [show R16_Find_L1 v s 0 = _ from rFindL v s ((few_eq v).1 h).1 (cnf_pairs v hk hc) 0 (by omega), List.drop_zero]
      cases findL s v.L <;> simp [hk]
  · simp [hk]

/-! ### lists -/
def listP (k : Int) (l : List api_Val) : api_Val × Bool := if (elemP k).2 = true ∧ cnf ⟨k, [], 0, false, l⟩ = true then (⟨k, [], 0, false, l⟩, true) else (val0, false)
theorem few_mk (k : Int) (s : List UInt8) (n : Int) (b : Bool) (l : List api_Val) : few ⟨k, s, n, b, l⟩ ↔ l.length ≤ 65536 ∧ fews l := by rw [few]
theorem sList (k : Int) (l : List api_Val) (h1 : l.length ≤ 65536) (h2 : fews l) : schema_List k l = some (listP k l) := by
  have hf := (few_mk k [] 0 false l).2 ⟨h1, h2⟩
  unfold schema_List listP
  rw [kElem, sIs _ hf, cp _ hf]
  cases he : (elemP k).2 with
  | false => simp [he]
  | true => cases hc : cnf ⟨k, [], 0, false, l⟩ <;> simp [he]
theorem rList (k : Int) (l : List api_Val) (h1 : l.length ≤ 65536) (h2 : fews l) : R16_List k l = some (listP k l) := by
  have hf := (few_mk k [] 0 false l).2 ⟨h1, h2⟩
  unfold R16_List listP
  rw [rElem, rIs _ hf]
  cases he : (elemP k).2 with
  | false => simp [he]
  | true => cases hc : cnf ⟨k, [], 0, false, l⟩ <;> simp [he]

/-! ### light values -/
def light : Nat → api_Val → api_Val
  | 0, v => ⟨v.K, v.S.take 60, v.N, v.B, []⟩
  | d + 1, v => ⟨v.K, v.S.take 60, v.N, v.B, (v.L.take 7).map (light d)⟩
def lights : Nat → List api_Val → List api_Val
  | 0, _ => []
  | d + 1, l => (l.take 7).map (light d)
theorem light_eq (d : Nat) (v : api_Val) : light d v = ⟨v.K, v.S.take 60, v.N, v.B, lights d v.L⟩ := by cases d <;> rfl
theorem lights_len (d : Nat) (l : List api_Val) : (lights d l).length ≤ 7 := by
  cases d with
  | zero => simp [lights]
  | succ d => simp [lights]; omega
theorem light_few : ∀ (d : Nat) (v : api_Val), few (light d v)
  | 0, v => by rw [light, few_mk]; exact ⟨by simp, trivial⟩
  | d + 1, v => by
    rw [light, few_mk]
    refine ⟨by simp; omega, fews_of fun x hx => ?_⟩
    obtain ⟨y, -, rfl⟩ := List.mem_map.1 hx
    exact light_few d y
theorem lightL (d : Nat) (IH : ∀ v, nunciolaw16_Light v d = some (light d v)) (hd : d ≤ 1000) (v : api_Val) (x1 : List UInt8) (m : Nat) (hm : m = min v.L.length 7) : ∀ i, i ≤ m → ∀ o : List api_Val, o = (v.L.take i).map (light d) →
    nunciolaw16_Light_L1 v ((d + 1 : Nat) : Int) x1 i o = some ((v.L.take m).map (light d)) := by
  have hmr : m = (List.range m).length := by simp
  intro i hi
  revert i
  rw [hmr]
  refine upto (φ := fun i => ∀ o : List api_Val, o = (v.L.take i).map (light d) → nunciolaw16_Light_L1 v ((d + 1 : Nat) : Int) x1 i o = some ((v.L.take (List.range m).length).map (light d))) ?_ fun i hi ih => ?_
  · intro o ho
    rw [← hmr]
    rw [← hmr] at ho
    rw [nunciolaw16_Light_L1]
    by_cases h1 : m < v.L.length
    · have h7 : m = 7 := by omega
      subst h7
      simp [ho, h1]
    · simp [ho, h1]
  · intro o ho
    rw [← hmr] at hi
    have h1 : i < v.L.length := by omega
    have h2 : i < 7 := by omega
    rw [nunciolaw16_Light_L1, wr_succ (by omega)]
    have e1 : wr (((d + 1 : Nat) : Int) - 1) = (d : Int) := by
      have : ((d + 1 : Nat) : Int) - 1 = (d : Int) := by omega
      rw [this, wr_in (by omega) (by omega)]
    have e2 : decide ((i : Int) < 7) = true := by simp; omega
    have e3 : decide (((d + 1 : Nat) : Int) > 0) = true := decide_eq_true (by omega)
    simp only [ltI, h1, decide_true, if_true, e2, e3, bind_some', idx_nat, getE h1, e1, IH]
    rw [appL_ok (by rw [ho]; simp; omega) (by rw [ho]; simp; omega), bind_some']
    refine ih _ ?_
    rw [ho, List.take_succ_eq_append_getElem h1, List.map_append]; rfl
theorem cut60 (s : List UInt8) : cutL s 0 (if 60 < (s.length : Int) then 60 else (s.length : Int)) = some (s.take 60) := by
  by_cases h : 60 < (s.length : Int)
  · rw [if_pos h, cutL_ok (by omega) (by omega) (by omega)]; rfl
  · rw [if_neg h, cutL_ok (by omega) (by omega) (by omega)]
    simp only [Int.toNat_natCast, List.take_length, Int.toNat_zero, List.drop_zero]
    rw [List.take_of_length_le (by omega)]
theorem lightP : ∀ (d : Nat), d ≤ 1000 → ∀ v, nunciolaw16_Light v d = some (light d v)
  | 0, _, v => by
    rw [nunciolaw16_Light, cut60, bind_some', nunciolaw16_Light_L1]
    simp [light]
  | d + 1, hd, v => by
    have := lightL d (lightP d (by omega)) (by omega) v (v.S.take 60) _ rfl 0 (by omega) [] rfl
    rw [nunciolaw16_Light, cut60, bind_some']
    rw [show ((0 : Nat) : Int) = 0 from rfl] at this
    rw [this, bind_some', light]
    congr 2
    by_cases h : v.L.length ≤ 7
    · rw [Nat.min_eq_left h, List.take_of_length_le (Nat.le_refl _), List.take_of_length_le h]
    · rw [Nat.min_eq_right (by omega)]
theorem light5 (v : api_Val) : nunciolaw16_Light v 5 = some (light 5 v) := lightP 5 (by decide) v
theorem light4 (v : api_Val) : nunciolaw16_Light v 4 = some (light 4 v) := lightP 4 (by decide) v

/-! ### the page's example -/
theorem few_pair (a b : List UInt8) : few ⟨4, [], 0, false, [⟨1, a, 0, false, []⟩, ⟨1, b, 0, false, []⟩]⟩ := by simp [few, fews]
theorem sPair (a b : List UInt8) : schema_Pair a b = some ⟨4, [], 0, false, [⟨1, a, 0, false, []⟩, ⟨1, b, 0, false, []⟩]⟩ := by
  unfold schema_Pair schema_Text; rfl
theorem awake16 : nunciolaw16_awake = some true := by
  unfold nunciolaw16_awake
  simp only [sPair, bind_some', schema_Number]
  rw [sGet _ _ (few_pair _ _), bind_some', sList _ _ (by simp) (by simp [few, fews]), bind_some', sFind _ _ (by
    show few (listP 8 _).1
    rw [show listP 8 [(⟨4, [], 0, false, [⟨1, [97], 0, false, []⟩, ⟨1, [98], 0, false, []⟩]⟩ : api_Val), ⟨4, [], 0, false, [⟨1, [97], 0, false, []⟩, ⟨1, [99], 0, false, []⟩]⟩] = (⟨8, [], 0, false, [⟨4, [], 0, false, [⟨1, [97], 0, false, []⟩, ⟨1, [98], 0, false, []⟩]⟩, ⟨4, [], 0, false, [⟨1, [97], 0, false, []⟩, ⟨1, [99], 0, false, []⟩]⟩]⟩, true) from by unfold listP; rw [if_pos (by decide +kernel)]]
    simp [few, fews]), bind_some', sList _ _ (by simp) (by simp [few, fews]), bind_some']
  decide +kernel

/-! ### the laws -/
theorem lawIs (a b : api_Val) : nunciolaw16_SchemaIs a b = some true := by
  unfold nunciolaw16_SchemaIs
  have ha := light_few 5 a
  rw [light5, light5]
  simp only [bind_some', sIs _ ha, rIs _ ha, sWt _ ha, rWt _ ha, sSm _ _ ha, rSm _ _ ha, beq_self_eq_true, if_true, sme_refl, awake16]
theorem cnfF_at (k : Int) : ∀ (ns : List (List UInt8)) (l : List api_Val), cnfF k ns l = true → ∀ (j : Nat) n v, ns[j]? = some n → l[j]? = some v → v.K = (fieldP k n).1 ∧ cnf v = true
  | [], _, _, j, n, v, hn, _ => by simp at hn
  | _ :: _, [], _, j, n, v, _, hv => by simp at hv
  | n' :: ns, v' :: l, h, j, n, v, hn, hv => by
    simp only [cnfF, Bool.and_eq_true, beq_iff_eq] at h
    cases j with
    | zero => simp at hn hv; subst hn; subst hv; exact ⟨h.1.1, h.1.2⟩
    | succ j => exact cnfF_at k ns l h.2 j n v (by simpa using hn) (by simpa using hv)
theorem fieldGo_mem (k : Int) (s : List UInt8) : ∀ t : List (Int × List UInt8 × Int), s ∈ fieldsFrom k t → (fieldGo k s t).2 = true
  | [], h => by simp [fieldsFrom] at h
  | f :: t, h => by
    rw [fieldsFrom_cons] at h
    unfold fieldGo
    split
    · rfl
    · rename_i hn
      refine fieldGo_mem k s t ?_
      by_cases h1 : f.1 = k
      · rw [if_pos h1] at h
        rcases List.mem_cons.1 h with h | h
        · exact absurd ⟨h1, h.symm⟩ hn
        · exact h
      · rw [if_neg h1] at h; exact h
theorem getP_yes (v : api_Val) (s : List UInt8) (h : (getP v s).2 = true) : (fieldP v.K s).2 = true ∧ (getP v s).1.K = (fieldP v.K s).1 ∧ cnf (getP v s).1 = true := by
  unfold getP at h ⊢
  cases hc : cnf v with
  | false => rw [hc] at h; simp at h
  | true =>
    rw [hc] at h
    cases hx : ixF s (fieldsL v.K) with
    | none => rw [hx] at h; simp at h
    | some j =>
      have hj := ixF_lt s _ j hx
      have hne : fieldsL v.K ≠ [] := by intro e; rw [e] at hj; simp at hj
      have hlen := cnf_len v hc hne
      have hjl : j < v.L.length := by omega
      have hat := ixF_at s _ j hx
      have hc' := hc
      rw [cnf_eq] at hc'
      simp only [Bool.and_eq_true] at hc'
      obtain ⟨-, hc'⟩ := hc'
      have h4 : v.K = 4 ∨ v.K = 5 ∨ v.K = 6 := by
        by_cases h4 : v.K = 4
        · exact .inl h4
        · by_cases h5 : v.K = 5
          · exact .inr (.inl h5)
          · by_cases h6 : v.K = 6
            · exact .inr (.inr h6)
            · exact absurd (fields_none v.K h4 h5 h6).1 hne
      have hp : plainB v.K = false := by rcases h4 with e | e | e <;> rw [e] <;> rfl
      have he : (elemP v.K).2 = false := by rcases h4 with e | e | e <;> rw [e] <;> rfl
      simp only [hp, he, Bool.false_eq_true, if_false, Bool.and_eq_true, decide_eq_true_eq] at hc'
      obtain ⟨q1, q2⟩ := cnfF_at v.K _ _ hc'.2 j s _ hat (getE hjl)
      have hd : v.L.getD j val0 = v.L[j] := by simp [List.getD, getE hjl]
      simp only [if_true]
      rw [hd]
      exact ⟨fieldGo_mem v.K s tab (List.mem_of_getElem? hat), q1, q2⟩
theorem few0 : few val0 := by simp [few, fews]
theorem getP_few (v : api_Val) (s : List UInt8) (h : few v) : few (getP v s).1 := by
  unfold getP
  split
  · split
    · rename_i j _
      by_cases hj : j < v.L.length
      · have hd : v.L.getD j val0 = v.L[j] := by simp [List.getD, getE hj]
        show few (v.L.getD j val0)
        rw [hd]
        exact fews_mem ((few_eq v).1 h).2 _ (List.getElem_mem hj)
      · have hd : v.L.getD j val0 = val0 := by simp [List.getD, List.getElem?_eq_none (Nat.le_of_not_lt hj)]
        show few (v.L.getD j val0)
        rw [hd]; exact few0
    · exact few0
  · exact few0
theorem lawGets (v : api_Val) (s : List UInt8) : nunciolaw16_SchemaGets v s = some true := by
  unfold nunciolaw16_SchemaGets
  have hv := light_few 5 v
  have hg := getP_few (light 5 v) s hv
  rw [light5]
  simp only [bind_some', sGet _ _ hv, rGet _ _ hv, sFind _ _ hv, rFind _ _ hv, rField, rSm _ _ hg, sme_refl, sIs _ hg]
  cases h : (getP (light 5 v) s).2 with
  | false => simp [awake16]
  | true =>
    obtain ⟨h1, h2, h3⟩ := getP_yes _ _ h
    simp [h1, h2, h3, awake16]
theorem listP_few (k : Int) (l : List api_Val) (h1 : l.length ≤ 65536) (h2 : fews l) : few (listP k l).1 := by
  unfold listP
  split
  · exact (few_mk _ _ _ _ _).2 ⟨h1, h2⟩
  · exact few0
theorem cnf0 : cnf val0 = false := is_not val0 (by decide)
theorem listP_cnf (k : Int) (l : List api_Val) : cnf (listP k l).1 = (listP k l).2 := by
  unfold listP
  split
  · rename_i h; exact h.2
  · exact cnf0
theorem listsL (k : Int) (l : List api_Val) (m : Nat) (hm : m = min l.length 7) : ∀ i, i ≤ m → ∀ o : List api_Val, o = (l.take i).map (light 4) → nunciolaw16_SchemaLists_L1 k l o i = some ((l.take m).map (light 4)) := by
  have hmr : m = (List.range m).length := by simp
  intro i hi
  revert i
  rw [hmr]
  refine upto (φ := fun i => ∀ o : List api_Val, o = (l.take i).map (light 4) → nunciolaw16_SchemaLists_L1 k l o i = some ((l.take (List.range m).length).map (light 4))) ?_ fun i hi ih => ?_
  · intro o ho
    rw [← hmr]
    rw [← hmr] at ho
    rw [nunciolaw16_SchemaLists_L1]
    by_cases h1 : m < l.length
    · have h7 : m = 7 := by omega
      subst h7
      simp [ho]
    · simp [ho, h1]
  · intro o ho
    rw [← hmr] at hi
    have h1 : i < l.length := by omega
    have h2 : i < 7 := by omega
    rw [nunciolaw16_SchemaLists_L1, wr_succ (by omega)]
    have e2 : decide ((i : Int) < 7) = true := by simp; omega
    simp only [ltI, h1, decide_true, if_true, e2, bind_some', idx_nat, getE h1, light4]
    rw [appL_ok (by rw [ho]; simp; omega) (by rw [ho]; simp; omega), bind_some']
    refine ih _ ?_
    rw [ho, List.take_succ_eq_append_getElem h1, List.map_append]; rfl
theorem lawLists (k : Int) (l : List api_Val) : nunciolaw16_SchemaLists k l = some true := by
  unfold nunciolaw16_SchemaLists
  have hL := listsL k l _ rfl 0 (by omega) [] rfl
  rw [show ((0 : Nat) : Int) = 0 from rfl] at hL
  have h1 : ((l.take (min l.length 7)).map (light 4)).length ≤ 65536 := by simp; omega
  have h2 : fews ((l.take (min l.length 7)).map (light 4)) := fews_of fun x hx => by
    obtain ⟨y, -, rfl⟩ := List.mem_map.1 hx
    exact light_few 4 y
  have hf := listP_few k _ h1 h2
  rw [hL]
  simp only [bind_some', sList k _ h1 h2, rList k _ h1 h2, rSm _ _ hf, sme_refl, sIs _ hf, listP_cnf, beq_self_eq_true, if_true, awake16]
theorem makesL (l : List api_Val) (h4 : l.length = 4) (hf : ∀ v ∈ l, few v) (hc : ∀ v ∈ l, cnf v = true) : ∀ i, i ≤ l.length → nunciolaw16_SchemaMakes_L1 l l i = some (.inl ()) := by
  refine upto ?_ fun i hi ih => ?_
  · rw [nunciolaw16_SchemaMakes_L1, h4]; rfl
  · have hm := List.getElem_mem hi
    rw [nunciolaw16_SchemaMakes_L1, wr_succ (by omega), ih]
    have e2 : decide ((i : Int) < 4) = true := by simp; omega
    simp only [e2, if_true, idx_nat, getE hi, bind_some', rSm _ _ (hf _ hm), sme_refl, sIs _ (hf _ hm), hc _ hm, Bool.not_true, Bool.false_eq_true, if_false]
theorem lawMakes (s t : List UInt8) (n : Int) (b : Bool) : nunciolaw16_SchemaMakes s t n b = some true := by
  unfold nunciolaw16_SchemaMakes
  have e1 : schema_Text s = some ⟨1, s, 0, false, []⟩ := rfl
  have e2 : schema_Number n = some ⟨2, [], n, false, []⟩ := rfl
  have e3 : schema_Truth b = some ⟨3, [], 0, b, []⟩ := rfl
  have e5 : R16_Text s = some ⟨1, s, 0, false, []⟩ := rfl
  have e6 : R16_Pair s t = some ⟨4, [], 0, false, [⟨1, s, 0, false, []⟩, ⟨1, t, 0, false, []⟩]⟩ := by unfold R16_Pair R16_Text; rfl
  have hl := makesL [⟨1, s, 0, false, []⟩, ⟨2, [], n, false, []⟩, ⟨3, [], 0, b, []⟩, ⟨4, [], 0, false, [⟨1, s, 0, false, []⟩, ⟨1, t, 0, false, []⟩]⟩] rfl (fun v hv => by
    simp only [List.mem_cons, List.not_mem_nil, or_false] at hv
    rcases hv with rfl | rfl | rfl | rfl <;> simp [few, fews]) (fun v hv => by
    simp only [List.mem_cons, List.not_mem_nil, or_false] at hv
    rcases hv with rfl | rfl | rfl | rfl
    · simp [cnf, plainB]
    · simp [cnf, plainB]
    · simp [cnf, plainB]
    · have h1 : (fieldsL 4) = [[107, 101, 121], [118, 97, 108]] := rfl
      have h2 : fieldP 4 [107, 101, 121] = (1, true) := by decide +kernel
      have h3 : fieldP 4 [118, 97, 108] = (1, true) := by decide +kernel
      simp [cnf, cnfF, plainB, elemP, h1, h2, h3]) 0 (by simp)
  rw [show ((0 : Nat) : Int) = 0 from rfl] at hl
  simp only [e1, e2, e3, sPair, e5, e6, bind_some', hl, awake16]
abbrev t1 : api_Val := ⟨1, [], 0, false, []⟩
theorem longL (p : Int) (n : Nat) (hn : (wr p).tmod 4200 = (n : Int)) (hb : n ≤ 4200) : ∀ j i, i + j = n → nunciolaw16_SchemaLong_L1 p (List.replicate i t1) i = some (List.replicate n t1)
  | 0, i, h => by
    rw [nunciolaw16_SchemaLong_L1, hn]
    have : i = n := by omega
    subst this
    simp
  | j + 1, i, h => by
    rw [nunciolaw16_SchemaLong_L1, hn, wr_succ (by omega)]
    have e : decide ((i : Int) < (n : Int)) = true := by simp; omega
    rw [e, if_pos rfl, appL_ok (by simp; omega) (by simp; omega), bind_some', show List.replicate i t1 ++ [t1] = List.replicate (i + 1) t1 by rw [List.replicate_succ']]
    exact longL p n hn hb j (i + 1) (by omega)
theorem all_rep (n : Nat) : cnfA 1 (List.replicate n t1) = true := by
  induction n with
  | zero => rfl
  | succ n ih => rw [List.replicate_succ, cnfA, ih]; simp [cnf, plainB]
theorem lawLong (p : Int) (h0 : 0 ≤ p) (h1 : p < 65536) : nunciolaw16_SchemaLong p = some true := by
  obtain ⟨q, rfl⟩ := Int.eq_ofNat_of_zero_le h0
  have hn : (wr (q : Int)).tmod 4200 = ((q % 4200 : Nat) : Int) := by
    rw [wr_in (by omega) (by omega)]
    exact (Int.ofNat_tmod q 4200)
  have hL := longL q (q % 4200) hn (by omega) (q % 4200) 0 (by omega)
  rw [List.replicate_zero, show ((0 : Nat) : Int) = 0 from rfl] at hL
  generalize hnn : q % 4200 = n at hL
  have hb : n < 4200 := by omega
  have a1 : (List.replicate n t1).length ≤ 65536 := by simp; omega
  have a2 : fews (List.replicate n t1) := fews_of fun x hx => by
    obtain ⟨-, rfl⟩ := List.mem_replicate.1 hx
    simp [few, fews]
  have hf := listP_few 7 _ a1 a2
  unfold nunciolaw16_SchemaLong
  rw [hL]
  have hc : cnf ⟨7, [], 0, false, List.replicate n t1⟩ = decide (n ≤ 4096) := by
    have h2 : (elemP 7) = (1, true) := rfl
    simp [cnf, plainB, h2, all_rep]
  simp only [bind_some', sList 7 _ a1 a2, sIs _ hf, listP_cnf, List.length_replicate]
  unfold listP
  rw [hc]
  by_cases h4 : n ≤ 4096
  · have h5 : ((n : Int) ≤ 4096) := by omega
    simp [h4, h5, elemP, awake16]
  · have h5 : ¬ ((n : Int) ≤ 4096) := by omega
    simp [h4, h5, awake16]
end Go.Proofs.Ytcegigccehapdaa
