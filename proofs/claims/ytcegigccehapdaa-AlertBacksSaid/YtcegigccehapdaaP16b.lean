/- Chapter 16 in plain terms: which values conform, weight, the same, copies. -/
import Derived.Test.YtcegigccehapdaaP16
namespace Go.Proofs.Ytcegigccehapdaa
open Go.RowKit

mutual
def sz : api_Val → Nat
  | ⟨_, _, _, _, l⟩ => 1 + szs l
def szs : List api_Val → Nat
  | [] => 0
  | v :: r => 1 + sz v + szs r
end
theorem sz_eq (v : api_Val) : sz v = 1 + szs v.L := by cases v; rw [sz]
theorem sz_mem : ∀ {l : List api_Val} {v : api_Val}, v ∈ l → sz v < szs l
  | x :: r, v, h => by
    rcases List.mem_cons.1 h with rfl | h
    · simp [szs]; omega
    · have := sz_mem h; simp [szs]; omega
/- Lists that are not long, at any depth. -/
mutual
def few : api_Val → Prop
  | ⟨_, _, _, _, l⟩ => l.length ≤ 65536 ∧ fews l
def fews : List api_Val → Prop
  | [] => True
  | v :: r => few v ∧ fews r
end
theorem few_eq (v : api_Val) : few v ↔ v.L.length ≤ 65536 ∧ fews v.L := by cases v; rw [few]
theorem fews_mem : ∀ {l : List api_Val}, fews l → ∀ v ∈ l, few v
  | x :: r, h, v, hv => by
    rcases List.mem_cons.1 hv with rfl | hv
    · exact h.1
    · exact fews_mem h.2 v hv
theorem fews_of : ∀ {l : List api_Val}, (∀ v ∈ l, few v) → fews l
  | [], _ => True.intro
  | x :: r, h => ⟨h x (by simp), fews_of fun v hv => h v (by simp [hv])⟩
mutual
def cnf : api_Val → Bool
  | ⟨k, s, n, b, l⟩ => (k == 1 || s == []) && (k == 2 || n == 0) && (k == 3 || !b) &&
    (if plainB k then l.isEmpty else if (elemP k).2 then decide (l.length ≤ 4096) && cnfA (elemP k).1 l
      else decide (fieldsL k ≠ []) && decide ((fieldsL k).length = l.length) && cnfF k (fieldsL k) l)
def cnfA : Int → List api_Val → Bool
  | _, [] => true
  | e, v :: r => v.K == e && cnf v && cnfA e r
def cnfF : Int → List (List UInt8) → List api_Val → Bool
  | _, _, [] => true
  | _, [], _ :: _ => true
  | k, n :: ns, v :: r => v.K == (fieldP k n).1 && cnf v && cnfF k ns r
end
theorem cnf_eq (v : api_Val) : cnf v = ((v.K == 1 || v.S == []) && (v.K == 2 || v.N == 0) && (v.K == 3 || !v.B) &&
    (if plainB v.K then v.L.isEmpty else if (elemP v.K).2 then decide (v.L.length ≤ 4096) && cnfA (elemP v.K).1 v.L
      else decide (fieldsL v.K ≠ []) && decide ((fieldsL v.K).length = v.L.length) && cnfF v.K (fieldsL v.K) v.L)) := by cases v; rw [cnf]
theorem len0I (l : List api_Val) : ((l.length : Int) == 0) = l.isEmpty := by cases l <;> simp; omega
theorem isIdx {N : Nat} (IH : ∀ v, sz v ≤ N → few v → schema_Is v = some (cnf v)) (e : Int) (l : List api_Val) (hs : szs l ≤ N) (hf : fews l) (hl : l.length ≤ 65536) :
    ∀ i, i ≤ l.length → ∃ o, slices_IndexFunc_api_Val_api_Val_schema_Is_1_L1 l e i = some o ∧ (match o with | .inl _ => cnfA e (l.drop i) = true | .inr j => 0 ≤ j ∧ cnfA e (l.drop i) = false) := by
  refine upto ?_ fun i hi ih => ?_
  · rw [slices_IndexFunc_api_Val_api_Val_schema_Is_1_L1]
    refine ⟨.inl (), by simp, by simp [cnfA]⟩
  · rw [slices_IndexFunc_api_Val_api_Val_schema_Is_1_L1, wr_succ (by omega), dropE hi]
    obtain ⟨o, ho, hk⟩ := ih
    have hm := List.getElem_mem hi
    have hv := IH l[i] (by have := sz_mem hm; omega) (fews_mem hf _ hm)
    simp only [ltI, hi, decide_true, if_true, idx_nat, getE hi, bind_some', schema_Is_1, cnfA]
    by_cases h1 : l[i].K = e
    · simp only [h1, bne_self_eq_false, Bool.false_eq_true, if_false, hv, bind_some', beq_self_eq_true, Bool.true_and]
      cases h2 : cnf l[i] with
      | true =>
        simp only [Bool.not_true, Bool.false_eq_true, if_false, Bool.true_and]
        exact ⟨o, ho, hk⟩
      | false =>
        simp only [Bool.not_false, if_true, Bool.false_and]
        exact ⟨.inr i, rfl, by simp⟩
    · have hb : (l[i].K != e) = true := by simpa using h1
      have hb2 : (l[i].K == e) = false := by simpa using h1
      simp only [hb, if_true, bind_some', hb2, Bool.false_and]
      exact ⟨.inr i, rfl, by simp⟩
theorem isCont {N : Nat} (IH : ∀ v, sz v ≤ N → few v → schema_Is v = some (cnf v)) (e : Int) (l : List api_Val) (hs : szs l ≤ N) (hf : fews l) (hl : l.length ≤ 65536) :
    slices_ContainsFunc_api_Val_api_Val_schema_Is_1 l e = some (!cnfA e l) := by
  rw [slices_ContainsFunc_api_Val_api_Val_schema_Is_1, slices_IndexFunc_api_Val_api_Val_schema_Is_1]
  obtain ⟨o, ho, hk⟩ := isIdx IH e l hs hf hl 0 (by omega)
  rw [show (0 : Int) = ((0 : Nat) : Int) from rfl, ho]
  rw [List.drop_zero] at hk
  cases o with
  | inl y => simp only [bind_some', hk]; rfl
  | inr j => simp only [bind_some', hk.2, decide_eq_true hk.1]; simp [hk.1]
theorem isFs {N : Nat} (IH : ∀ v, sz v ≤ N → few v → schema_Is v = some (cnf v)) (v : api_Val) (o1 : List UInt8 × Int × Bool) (x4 : Int × Bool) (ns : List (List UInt8)) (hs : szs v.L ≤ N) (hf : fews v.L) (hl : ns.length = v.L.length) (hb : v.L.length ≤ 65536) :
    ∀ i, i ≤ ns.length → schema_Is_L1 v o1 x4 ns i = some (if cnfF v.K (ns.drop i) (v.L.drop i) then .inl () else .inr ()) := by
  refine upto ?_ fun i hi ih => ?_
  · rw [schema_Is_L1]
    have : v.L.drop ns.length = [] := by rw [hl]; simp
    simp [this, cnfF]
  · have hi2 : i < v.L.length := by omega
    have hm := List.getElem_mem hi2
    have hv := IH v.L[i] (by have := sz_mem hm; omega) (fews_mem hf _ hm)
    rw [schema_Is_L1, wr_succ (by omega), ih, dropE hi, dropE hi2, cnfF]
    simp only [ltI, hi, decide_true, if_true, idx_nat, getE hi, getE hi2, bind_some', kField, hv]
    by_cases h1 : v.L[i].K = (fieldP v.K ns[i]).1
    · simp only [h1, bne_self_eq_false, Bool.false_eq_true, if_false, bind_some', beq_self_eq_true, Bool.true_and]
      cases cnf v.L[i] <;> simp
    · have h2 : (v.L[i].K == (fieldP v.K ns[i]).1) = false := by simpa using h1
      have h3 : (v.L[i].K != (fieldP v.K ns[i]).1) = true := by simpa using h1
      simp [h3, h2]
theorem sIs_n : ∀ (N : Nat) (v : api_Val), sz v ≤ N → few v → schema_Is v = some (cnf v) := by
  intro N
  induction N with
  | zero => intro v h; rw [sz_eq] at h; omega
  | succ N IH =>
    intro v hN hf
    obtain ⟨hl, hfs⟩ := (few_eq v).1 hf
    have hs : szs v.L ≤ N := by rw [sz_eq] at hN; omega
    rw [schema_Is, cnf_eq]
    have e1 : (if (v.K == 1) = true then some (v.S, (0 : Int), false) else if (v.K == 2) = true then some ([], v.N, false) else if (v.K == 3) = true then some ([], 0, v.B) else some ([], 0, false)) = some (if v.K = 1 then v.S else [], if v.K = 2 then v.N else 0, if v.K = 3 then v.B else false) := by
      by_cases h1 : v.K = 1
      · simp [h1]
      · by_cases h2 : v.K = 2
        · simp [h2]
        · by_cases h3 : v.K = 3
          · simp [h3]
          · simp [h1, h2, h3]
    rw [e1]
    simp only [bind_some']
    have e2 : (if (!((if v.K = 1 then v.S else []) == v.S)) = true then some true else if ((if v.K = 2 then v.N else 0) != v.N) = true then some true else some ((if v.K = 3 then v.B else false) != v.B)) = some (!((v.K == 1 || v.S == []) && (v.K == 2 || v.N == 0) && (v.K == 3 || !v.B))) := by
      by_cases h1 : v.K = 1
      · by_cases hn : v.N = 0
        · cases hb : v.B <;> simp [h1, hn]
        · have : ¬ (0 = v.N) := fun h => hn h.symm
          cases hb : v.B <;> simp [h1, hn, this]
      · by_cases hS : v.S = []
        · by_cases h2 : v.K = 2
          · simp only [h2, hS]; cases hb : v.B <;> simp
          · by_cases hn : v.N = 0
            · by_cases h3 : v.K = 3
              · simp [h3, hS, hn]
              · cases hb : v.B <;> simp [h1, h2, h3, hS, hn]
            · have : ¬ (0 = v.N) := fun h => hn h.symm
              simp [h1, h2, hS, hn, this]
        · have : ¬ ([] = v.S) := fun h => hS h.symm
          simp [h1, hS, this]
    rw [e2]
    simp only [bind_some', kPlain, kElem, kFields]
    cases hc : ((v.K == 1 || v.S == []) && (v.K == 2 || v.N == 0) && (v.K == 3 || !v.B)) with
    | false => simp
    | true =>
      simp only [Bool.not_true, Bool.false_eq_true, if_false, Bool.true_and]
      cases hp : plainB v.K with
      | true => simp only [if_true]; rw [len0I]
      | false =>
        simp only [Bool.false_eq_true, if_false]
        cases he : (elemP v.K).2 with
        | true =>
          simp only [if_true]
          rw [isCont IH _ _ hs hfs hl]
          by_cases h4 : v.L.length ≤ 4096
          · have : ((v.L.length : Int) ≤ 4096) := by omega
            simp [this, h4]
          · have : ¬ ((v.L.length : Int) ≤ 4096) := by omega
            simp [this, h4]
        | false =>
          simp only [Bool.false_eq_true, if_false]
          by_cases h5 : fieldsL v.K = []
          · simp [h5]
          · have h6 : (((fieldsL v.K).length : Int) == 0) = false := by
              cases hq : fieldsL v.K with
              | nil => exact absurd hq h5
              | cons x r => simp; omega
            by_cases h7 : (fieldsL v.K).length = v.L.length
            · rw [show (0 : Int) = ((0 : Nat) : Int) from rfl] at h6 ⊢
              rw [isFs IH v _ _ _ hs hfs h7 hl 0 (by omega)]
              have h8 : (((fieldsL v.K).length : Int) != (v.L.length : Int)) = false := by rw [h7]; simp
              simp only [h6, Bool.false_eq_true, if_false, bind_some', h8, List.drop_zero]
              cases hq : cnfF v.K (fieldsL v.K) v.L <;> simp [h5, h7]
            · have h8 : (((fieldsL v.K).length : Int) != (v.L.length : Int)) = true := by simp; omega
              simp only [h6, Bool.false_eq_true, if_false, bind_some', h8, if_true, h7, decide_false, Bool.and_false, Bool.false_and]
theorem sIs (v : api_Val) (h : few v) : schema_Is v = some (cnf v) := sIs_n _ v (Nat.le_refl _) h
theorem is_not (v : api_Val) (h : ¬ (1 ≤ v.K ∧ v.K ≤ 9)) : cnf v = false := by
  rw [cnf_eq]
  have h1 : plainB v.K = false := by simp [plainB]; omega
  have h2 : elemP v.K = (0, false) := by unfold elemP; rw [if_neg (by omega), if_neg (by omega), if_neg (by omega)]
  have h3 : fieldsL v.K = [] := (fields_none v.K (by omega) (by omega) (by omega)).1
  simp [h1, h2, h3]
theorem isL {N : Nat} (IH : ∀ v, sz v ≤ N → few v → R16_Is v = some (cnf v)) (v : api_Val) (x4 : Int × Bool) (ns : List (List UInt8)) (hs : szs v.L ≤ N) (hf : fews v.L) (hb : v.L.length ≤ 65536) (hl : x4.2 = false → ns.length = v.L.length) :
    ∀ i, i ≤ v.L.length → R16_Is_L1 v x4 ns i = some (if (if x4.2 then cnfA x4.1 (v.L.drop i) else cnfF v.K (ns.drop i) (v.L.drop i)) then .inl () else .inr ()) := by
  refine upto ?_ fun i hi ih => ?_
  · rw [R16_Is_L1]
    cases x4.2 <;> simp [cnfA, cnfF]
  · have hm := List.getElem_mem hi
    have hv := IH v.L[i] (by have := sz_mem hm; omega) (fews_mem hf _ hm)
    rw [R16_Is_L1, wr_succ (by omega), ih, dropE hi]
    cases h4 : x4.2 with
    | true =>
      simp only [ltI, hi, decide_true, if_true, idx_nat, getE hi, bind_some', hv, Bool.not_true, Bool.false_eq_true, if_false, cnfA]
      by_cases h1 : v.L[i].K = x4.1
      · cases hV : cnf v.L[i] <;> simp [h1]
      · simp [h1]
    | false =>
      have hi2 : i < ns.length := by rw [hl h4]; exact hi
      rw [dropE hi2, cnfF]
      simp only [ltI, hi, decide_true, if_true, idx_nat, getE hi, getE hi2, bind_some', hv, Bool.not_false, rField, Bool.false_eq_true, if_false]
      by_cases h1 : v.L[i].K = (fieldP v.K ns[i]).1
      · cases hV : cnf v.L[i] <;> simp [h1]
      · simp [h1]
theorem rIs_n : ∀ (N : Nat) (v : api_Val), sz v ≤ N → few v → R16_Is v = some (cnf v) := by
  intro N
  induction N with
  | zero => intro v h; rw [sz_eq] at h; omega
  | succ N IH =>
    intro v hN hf
    obtain ⟨hl, hfs⟩ := (few_eq v).1 hf
    have hs : szs v.L ≤ N := by rw [sz_eq] at hN; omega
    rw [R16_Is]
    by_cases hr : 1 ≤ v.K ∧ v.K ≤ 9
    · have e0 : (if decide (v.K < 1) = true then some true else some (decide (v.K > 9))) = some false := by
        rw [if_neg (by simp; omega)]; simp; omega
      rw [e0]
      simp only [bind_some', Bool.false_eq_true, if_false]
      rw [cnf_eq]
      have e2 : (if (v.K != 1) = true then if (!(v.S == [])) = true then some true else if (v.K != 2) = true then if (v.N != 0) = true then some true else if (v.K != 3) = true then some v.B else some false else if (v.K != 3) = true then some v.B else some false
          else if (v.K != 2) = true then if (v.N != 0) = true then some true else if (v.K != 3) = true then some v.B else some false else if (v.K != 3) = true then some v.B else some false) = some (!((v.K == 1 || v.S == []) && (v.K == 2 || v.N == 0) && (v.K == 3 || !v.B))) := by
        by_cases h1 : v.K = 1
        · by_cases hn : v.N = 0 <;> simp [h1, hn]
        · by_cases hS : v.S = []
          · by_cases h2 : v.K = 2
            · simp [h2, hS]
            · by_cases hn : v.N = 0
              · by_cases h3 : v.K = 3
                · simp [h3, hS, hn]
                · simp [h1, h2, h3, hS, hn]
              · simp [h1, h2, hS, hn]
          · simp [h1, hS]
      rw [e2]
      simp only [bind_some', rPlain, rElem, rFields]
      cases hc : ((v.K == 1 || v.S == []) && (v.K == 2 || v.N == 0) && (v.K == 3 || !v.B)) with
      | false => simp
      | true =>
        simp only [Bool.not_true, Bool.false_eq_true, if_false, Bool.true_and]
        cases hp : plainB v.K with
        | true => simp only [if_true]; rw [len0I]
        | false =>
          simp only [Bool.false_eq_true, if_false]
          cases he : (elemP v.K).2 with
          | true =>
            simp only [if_true, Bool.not_true, Bool.false_eq_true, if_false]
            by_cases h4 : v.L.length ≤ 4096
            · have h5 : ¬ ((v.L.length : Int) > 4096) := by omega
              rw [show (0 : Int) = ((0 : Nat) : Int) from rfl, isL IH v _ _ hs hfs hl (fun h => by rw [he] at h; cases h) 0 (by omega)]
              simp only [h5, decide_false, Bool.false_eq_true, if_false, bind_some', he, if_true, List.drop_zero, h4, decide_true, Bool.true_and]
              cases cnfA (elemP v.K).1 v.L <;> simp
            · have h5 : ((v.L.length : Int) > 4096) := by omega
              simp [h5, h4]
          | false =>
            simp only [Bool.not_false, Bool.false_eq_true, if_false, if_true]
            have h5 : fieldsL v.K ≠ [] := by
              have hk : v.K = 4 ∨ v.K = 5 ∨ v.K = 6 := by
                have h1 : ¬ v.K ≤ 3 := fun h => by simp [plainB] at hp; omega
                have h7 : v.K ≠ 7 := fun h => by rw [h] at he; cases he
                have h8 : v.K ≠ 8 := fun h => by rw [h] at he; cases he
                have h9 : v.K ≠ 9 := fun h => by rw [h] at he; cases he
                omega
              rcases hk with hk | hk | hk <;> rw [hk] <;> decide
            by_cases h7 : (fieldsL v.K).length = v.L.length
            · have h8 : ((v.L.length : Int) != ((fieldsL v.K).length : Int)) = false := by rw [h7]; simp
              rw [show (0 : Int) = ((0 : Nat) : Int) from rfl, isL IH v _ _ hs hfs hl (fun _ => h7) 0 (by omega)]
              simp only [bind_some', h8, Bool.false_eq_true, if_false, he, List.drop_zero, h5, ne_eq, not_false_eq_true, decide_true, h7, Bool.true_and]
              cases cnfF v.K (fieldsL v.K) v.L <;> simp
            · have h8 : ((v.L.length : Int) != ((fieldsL v.K).length : Int)) = true := by simp; omega
              simp [h8, h7]
    · have e0 : (if decide (v.K < 1) = true then some true else some (decide (v.K > 9))) = some true := by
        by_cases h : v.K < 1
        · rw [if_pos (by simpa using h)]
        · rw [if_neg (by simpa using h)]; simp; omega
      rw [e0, is_not v hr]; rfl
theorem rIs (v : api_Val) (h : few v) : R16_Is v = some (cnf v) := rIs_n _ v (Nat.le_refl _) h
end Go.Proofs.Ytcegigccehapdaa
