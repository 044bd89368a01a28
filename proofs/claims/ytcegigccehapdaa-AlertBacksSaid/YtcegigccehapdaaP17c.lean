/- Chapter 17 in plain terms: groups as values, and back; the laws. -/
import Derived.Test.YtcegigccehapdaaP17b
namespace Go.Proofs.Ytcegigccehapdaa
open Go.RowKit

def vT (s : List UInt8) : api_Val := ⟨1, s, 0, false, []⟩
def vN (n : Int) : api_Val := ⟨2, [], n, false, []⟩
def vB (b : Bool) : api_Val := ⟨3, [], 0, b, []⟩
def pairV (p : api_Pair) : api_Val := ⟨4, [], 0, false, [vT p.Key, vT p.Val]⟩
def pairsV (l : List api_Pair) : api_Val := ⟨8, [], 0, false, l.map pairV⟩
def alertV (a : api_Alert) : api_Val := ⟨5, [], 0, false, [vB a.Firing, vN a.Starts, vN a.Value, pairsV a.Labels, pairsV a.Notes, vT a.Link]⟩
def alertsV (l : List api_Alert) : api_Val := ⟨9, [], 0, false, l.map alertV⟩
def groupV (g : api_Group) : api_Val := ⟨6, [], 0, false, [vT g.Receiver, vB g.Firing, pairsV g.Common, vT g.Link, alertsV g.Alerts]⟩
/-! ### values -/
theorem recPairsL (l : List api_Pair) (h0 : List api_Val) (hl : l.length ≤ 100) : ∀ i, i ≤ l.length → alert_record_pairs_L1 l h0 i ((l.take i).map pairV) = some (l.map pairV) := by
  refine upto ?_ fun i hi ih => ?_
  · rw [alert_record_pairs_L1]; simp
  · rw [alert_record_pairs_L1, wr_succ (by omega)]
    simp only [ltI, hi, decide_true, if_true, idx_nat, getE hi, bind_some', sPair]
    rw [appL_ok (by simp; omega) (by simp; omega), bind_some']
    rw [List.take_succ_eq_append_getElem hi, List.map_append] at ih
    exact ih
theorem recPairs (l : List api_Pair) (h0 : List api_Val) (hl : l.length ≤ 100) (hh : h0.length ≤ 100) : alert_record_pairs l h0 = some (h0 ++ [pairsV l]) := by
  have h := recPairsL l h0 hl 0 (by omega)
  rw [List.take_zero, List.map_nil, show ((0 : Nat) : Int) = 0 from rfl] at h
  unfold alert_record_pairs
  rw [h, bind_some', appL_ok (by simp; omega) (by simp; omega), bind_some']
  rfl
theorem oneVal (a : api_Alert) (h1 : a.Labels.length ≤ 100) (h2 : a.Notes.length ≤ 100) : alert_one_val a [] = some (alertV a, (alertV a).L) := by
  unfold alert_one_val
  simp only [schema_Truth, schema_Number, schema_Text, bind_some', alert_record_put, alert_record_put_2]
  rw [appL_ok (by simp) (by simp)]
  simp only [bind_some', List.nil_append]
  rw [recPairs _ _ h1 (by simp)]
  simp only [bind_some', List.cons_append, List.nil_append]
  rw [recPairs _ _ h2 (by simp)]
  simp only [bind_some', List.cons_append, List.nil_append]
  rw [appL_ok (by simp) (by simp)]
  rfl
theorem aValL (g : api_Group) (h : okG g) : ∀ i, i ≤ g.Alerts.length → alert_Val_L1 g i ((g.Alerts.take i).map alertV) = some (g.Alerts.map alertV) := by
  have hal := h.al
  refine upto ?_ fun i hi ih => ?_
  · rw [alert_Val_L1]; simp
  · have hm := (okG_rows h).2 _ (List.getElem_mem hi)
    rw [alert_Val_L1, wr_succ (by omega)]
    simp only [ltI, hi, decide_true, if_true, idx_nat, getE hi, bind_some', oneVal _ hm.1 hm.2]
    rw [appL_ok (by simp; omega) (by simp; omega), bind_some']
    rw [List.take_succ_eq_append_getElem hi, List.map_append] at ih
    exact ih
def valP (g : api_Group) : api_Val × Int := if chk g = 0 then (groupV g, 0) else (val0, chk g)
theorem aVal (g : api_Group) (h : okG g) : alert_Val g = some (valP g) := by
  obtain ⟨h1, h2⟩ := okG_rows h
  have hL := aValL g h 0 (by omega)
  rw [List.take_zero, List.map_nil, show ((0 : Nat) : Int) = 0 from rfl] at hL
  unfold alert_Val valP
  rw [aCheck g h, bind_some']
  by_cases hc : chk g = 0
  · have e : (chk g != 0) = false := by simp [hc]
    simp only [e, hc, if_true, Bool.false_eq_true, if_false, hL, schema_Text, schema_Truth, bind_some', alert_record_put, alert_record_put_2]
    rw [appL_ok (by simp) (by simp)]
    simp only [bind_some', List.nil_append]
    rw [recPairs _ _ h1 (by simp)]
    simp only [bind_some', List.cons_append, List.nil_append]
    rw [appL_ok (by simp) (by simp)]
    rfl
  · have e : (chk g != 0) = true := by simp [hc]
    simp [hc, val0]
theorem rPairVL (l : List api_Pair) (hl : l.length ≤ 100) : ∀ i, i ≤ l.length → R17_pairs_L1 l i ((l.take i).map pairV) = some (l.map pairV) := by
  refine upto ?_ fun i hi ih => ?_
  · rw [R17_pairs_L1]; simp
  · rw [R17_pairs_L1, wr_succ (by omega)]
    simp only [ltI, hi, decide_true, if_true, idx_nat, getE hi, bind_some', R16_Pair, R16_Text]
    rw [appL_ok (by simp; omega) (by simp; omega), bind_some']
    rw [List.take_succ_eq_append_getElem hi, List.map_append] at ih
    exact ih
theorem rPairV (l : List api_Pair) (hl : l.length ≤ 100) : R17_pairs l = some (pairsV l) := by
  have h := rPairVL l hl 0 (by omega)
  rw [List.take_zero, List.map_nil, show ((0 : Nat) : Int) = 0 from rfl] at h
  unfold R17_pairs
  rw [h]; rfl
theorem rValL (g : api_Group) (h : okG g) : ∀ i, i ≤ g.Alerts.length → R17_Val_L1 g i ((g.Alerts.take i).map alertV) = some (g.Alerts.map alertV) := by
  have hal := h.al
  refine upto ?_ fun i hi ih => ?_
  · rw [R17_Val_L1]; simp
  · have hm := (okG_rows h).2 _ (List.getElem_mem hi)
    rw [R17_Val_L1, wr_succ (by omega)]
    simp only [ltI, hi, decide_true, if_true, idx_nat, getE hi, bind_some', R17_truth, R17_number, R16_Text, rPairV _ hm.1, rPairV _ hm.2]
    rw [appL_ok (by simp; omega) (by simp; omega), bind_some']
    rw [List.take_succ_eq_append_getElem hi, List.map_append] at ih
    exact ih
theorem rVal (g : api_Group) (h : okG g) : R17_Val g = some (valP g) := by
  obtain ⟨h1, h2⟩ := okG_rows h
  have hL := rValL g h 0 (by omega)
  rw [List.take_zero, List.map_nil, show ((0 : Nat) : Int) = 0 from rfl] at hL
  unfold R17_Val valP
  rw [rCheck g h, bind_some']
  by_cases hc : chk g = 0
  · have e : (chk g != 0) = false := by simp [hc]
    simp only [e, hc, if_true, Bool.false_eq_true, if_false, hL, R16_Text, R17_truth, bind_some', rPairV _ h1]
    rfl
  · have e : (chk g != 0) = true := by simp [hc]
    simp [hc, val0]
/-! ### they conform -/
theorem few_v (v : api_Val) (h : v.L = []) : few v := (few_eq v).2 (by rw [h]; exact ⟨by simp, trivial⟩)
theorem few_pairV (p : api_Pair) : few (pairV p) := few_pair p.Key p.Val
theorem few_pairsV (l : List api_Pair) (hl : l.length ≤ 100) : few (pairsV l) := (few_eq _).2 ⟨by simp [pairsV]; omega, fews_of fun v hv => by
  obtain ⟨p, -, rfl⟩ := List.mem_map.1 (show v ∈ l.map pairV from hv)
  exact few_pairV p⟩
theorem few_alertV (a : api_Alert) (h1 : a.Labels.length ≤ 100) (h2 : a.Notes.length ≤ 100) : few (alertV a) :=
  (few_eq _).2 ⟨by simp [alertV], few_v _ rfl, few_v _ rfl, few_v _ rfl, few_pairsV _ h1, few_pairsV _ h2, few_v _ rfl, trivial⟩
theorem few_groupV (g : api_Group) (h : okG g) : few (groupV g) := by
  obtain ⟨h1, h2⟩ := okG_rows h
  have hal := h.al
  refine (few_eq _).2 ⟨by simp [groupV], few_v _ rfl, few_v _ rfl, few_pairsV _ h1, few_v _ rfl, (few_eq _).2 ⟨by simp [alertsV]; omega, fews_of fun v hv => ?_⟩, trivial⟩
  obtain ⟨a, ha, rfl⟩ := List.mem_map.1 (show v ∈ g.Alerts.map alertV from hv)
  exact few_alertV a (h2 a ha).1 (h2 a ha).2
theorem cnf_vT (s : List UInt8) : cnf (vT s) = true := by rw [cnf_eq]; simp [vT, plainB]
theorem cnf_vN (n : Int) : cnf (vN n) = true := by rw [cnf_eq]; simp [vN, plainB]
theorem cnf_vB (b : Bool) : cnf (vB b) = true := by rw [cnf_eq]; simp [vB, plainB]
/-- What a value of fields is made of. -/
theorem cnfF_map (k : Int) : ∀ (ns : List (List UInt8)) (l : List api_Val), ns.length = l.length → (cnfF k ns l = true ↔ l.map (·.K) = ns.map (fun n => (fieldP k n).1) ∧ ∀ v ∈ l, cnf v = true)
  | [], [], _ => by simp [cnfF]
  | n :: ns, v :: r, h => by
    have ih := cnfF_map k ns r (by simpa using h)
    simp only [cnfF, Bool.and_eq_true, beq_iff_eq, ih, List.map_cons, List.cons.injEq, List.mem_cons, forall_eq_or_imp]
    constructor
    · rintro ⟨⟨h1, h2⟩, h3, h4⟩; exact ⟨⟨h1, h3⟩, h2, h4⟩
    · rintro ⟨⟨h1, h3⟩, h2, h4⟩; exact ⟨⟨h1, h2⟩, h3, h4⟩
theorem kinds4 : (fieldsL 4).map (fun n => (fieldP 4 n).1) = [1, 1] := by decide
theorem kinds5 : (fieldsL 5).map (fun n => (fieldP 5 n).1) = [3, 2, 2, 8, 8, 1] := by decide
theorem kinds6 : (fieldsL 6).map (fun n => (fieldP 6 n).1) = [1, 3, 8, 1, 9] := by decide
theorem cnf_fields (k : Int) (ks : List Int) (hk : (fieldsL k).map (fun n => (fieldP k n).1) = ks) (hks : ks ≠ []) (hp : plainB k = false) (he : (elemP k).2 = false) (h123 : k ≠ 1 ∧ k ≠ 2 ∧ k ≠ 3) (v : api_Val) (hvk : v.K = k) :
    cnf v = true ↔ v.S = [] ∧ v.N = 0 ∧ v.B = false ∧ v.L.map (·.K) = ks ∧ ∀ x ∈ v.L, cnf x = true := by
  rw [cnf_eq, hvk, hp, he]
  have e1 : (k == 1) = false := by simpa using h123.1
  have e2 : (k == 2) = false := by simpa using h123.2.1
  have e3 : (k == 3) = false := by simpa using h123.2.2
  have hne : fieldsL k ≠ [] := fun h0 => hks (by rw [← hk, h0]; rfl)
  simp only [e1, e2, e3, Bool.false_or, Bool.false_eq_true, if_false, Bool.and_eq_true, beq_iff_eq, Bool.not_eq_true', decide_eq_true_eq]
  constructor
  · rintro ⟨⟨⟨h1, h2⟩, h3⟩, ⟨h4, h5⟩, h6⟩
    obtain ⟨a, b⟩ := (cnfF_map k _ _ h5).1 h6
    exact ⟨h1, h2, h3, by rw [a, hk], b⟩
  · rintro ⟨h1, h2, h3, h4, h5⟩
    have hl : (fieldsL k).length = v.L.length := by
      have := congrArg List.length (h4.trans hk.symm)
      simpa using this.symm
    exact ⟨⟨⟨h1, h2⟩, h3⟩, ⟨hne, hl⟩, (cnfF_map k _ _ hl).2 ⟨by rw [h4, hk], h5⟩⟩
theorem cnfA_iff (e : Int) : ∀ l : List api_Val, cnfA e l = true ↔ ∀ v ∈ l, v.K = e ∧ cnf v = true
  | [] => by simp [cnfA]
  | v :: r => by simp [cnfA, cnfA_iff e r]
theorem cnf_elems (k e : Int) (hp : plainB k = false) (he : elemP k = (e, true)) (h123 : k ≠ 1 ∧ k ≠ 2 ∧ k ≠ 3) (v : api_Val) (hvk : v.K = k) :
    cnf v = true ↔ v.S = [] ∧ v.N = 0 ∧ v.B = false ∧ v.L.length ≤ 4096 ∧ ∀ x ∈ v.L, x.K = e ∧ cnf x = true := by
  rw [cnf_eq, hvk, hp, he]
  have e1 : (k == 1) = false := by simpa using h123.1
  have e2 : (k == 2) = false := by simpa using h123.2.1
  have e3 : (k == 3) = false := by simpa using h123.2.2
  simp only [e1, e2, e3, Bool.false_or, Bool.false_eq_true, if_false, if_true, Bool.and_eq_true, beq_iff_eq, Bool.not_eq_true', decide_eq_true_eq, cnfA_iff]
  constructor
  · rintro ⟨⟨⟨h1, h2⟩, h3⟩, h4, h5⟩; exact ⟨h1, h2, h3, h4, h5⟩
  · rintro ⟨h1, h2, h3, h4, h5⟩; exact ⟨⟨⟨h1, h2⟩, h3⟩, h4, h5⟩
theorem cnf4 (v : api_Val) (h : v.K = 4) : cnf v = true ↔ v.S = [] ∧ v.N = 0 ∧ v.B = false ∧ v.L.map (·.K) = [1, 1] ∧ ∀ x ∈ v.L, cnf x = true := cnf_fields 4 _ kinds4 (by decide) (by decide) (by decide) (by decide) v h
theorem cnf5 (v : api_Val) (h : v.K = 5) : cnf v = true ↔ v.S = [] ∧ v.N = 0 ∧ v.B = false ∧ v.L.map (·.K) = [3, 2, 2, 8, 8, 1] ∧ ∀ x ∈ v.L, cnf x = true := cnf_fields 5 _ kinds5 (by decide) (by decide) (by decide) (by decide) v h
theorem cnf6 (v : api_Val) (h : v.K = 6) : cnf v = true ↔ v.S = [] ∧ v.N = 0 ∧ v.B = false ∧ v.L.map (·.K) = [1, 3, 8, 1, 9] ∧ ∀ x ∈ v.L, cnf x = true := cnf_fields 6 _ kinds6 (by decide) (by decide) (by decide) (by decide) v h
theorem cnf8 (v : api_Val) (h : v.K = 8) : cnf v = true ↔ v.S = [] ∧ v.N = 0 ∧ v.B = false ∧ v.L.length ≤ 4096 ∧ ∀ x ∈ v.L, x.K = 4 ∧ cnf x = true := cnf_elems 8 4 (by decide) (by decide) (by decide) v h
theorem cnf9 (v : api_Val) (h : v.K = 9) : cnf v = true ↔ v.S = [] ∧ v.N = 0 ∧ v.B = false ∧ v.L.length ≤ 4096 ∧ ∀ x ∈ v.L, x.K = 5 ∧ cnf x = true := cnf_elems 9 5 (by decide) (by decide) (by decide) v h
theorem cnf_pairV (p : api_Pair) : cnf (pairV p) = true := (cnf4 _ rfl).2 ⟨rfl, rfl, rfl, rfl, by simp [pairV, cnf_vT]⟩
theorem cnf_pairsV (l : List api_Pair) (hl : l.length ≤ 100) : cnf (pairsV l) = true := (cnf8 _ rfl).2 ⟨rfl, rfl, rfl, by simp [pairsV]; omega, fun x hx => by
  obtain ⟨p, -, rfl⟩ := List.mem_map.1 (show x ∈ l.map pairV from hx)
  exact ⟨rfl, cnf_pairV p⟩⟩
theorem cnf_alertV (a : api_Alert) (h1 : a.Labels.length ≤ 100) (h2 : a.Notes.length ≤ 100) : cnf (alertV a) = true :=
  (cnf5 _ rfl).2 ⟨rfl, rfl, rfl, rfl, by simp [alertV, cnf_vT, cnf_vN, cnf_vB, cnf_pairsV _ h1, cnf_pairsV _ h2]⟩
theorem cnf_groupV (g : api_Group) (h : okG g) : cnf (groupV g) = true := by
  obtain ⟨h1, h2⟩ := okG_rows h
  have hal := h.al
  have h9 : cnf (alertsV g.Alerts) = true := (cnf9 _ rfl).2 ⟨rfl, rfl, rfl, by simp [alertsV]; omega, fun x hx => by
    obtain ⟨a, ha, rfl⟩ := List.mem_map.1 (show x ∈ g.Alerts.map alertV from hx)
    exact ⟨rfl, cnf_alertV a (h2 a ha).1 (h2 a ha).2⟩⟩
  exact (cnf6 _ rfl).2 ⟨rfl, rfl, rfl, rfl, by simp [groupV, cnf_vT, cnf_vB, cnf_pairsV _ h1, h9]⟩
/-! ### and back -/
theorem aRowL (l : List api_Pair) (hl : l.length ≤ 100) : ∀ i, i ≤ l.length → alert_row_L1 (pairsV l) (l.take i) i = some l := by
  refine upto ?_ fun i hi ih => ?_
  · rw [alert_row_L1]; simp [pairsV]
  · rw [alert_row_L1, wr_succ (by omega)]
    simp only [pairsV, List.length_map, ltI, hi, decide_true, if_true, idx_nat, List.getElem?_map, getE hi, Option.map_some, bind_some', pairV, vT, idx_0, idx_1, List.getElem?_cons_zero, List.getElem?_cons_succ]
    rw [appL_ok (by simp; omega) (by simp; omega), bind_some']
    rw [List.take_succ_eq_append_getElem hi] at ih
    exact ih
theorem aRow (l : List api_Pair) (hl : l.length ≤ 100) : alert_row (pairsV l) = some l := by
  have h := aRowL l hl 0 (by omega)
  rw [List.take_zero, show ((0 : Nat) : Int) = 0 from rfl] at h
  rw [alert_row, h]; rfl
theorem rRowL (l : List api_Pair) (hl : l.length ≤ 100) : ∀ i, i ≤ l.length → R17_row_L1 (pairsV l) (l.take i) i = some l := by
  refine upto ?_ fun i hi ih => ?_
  · rw [R17_row_L1]; simp [pairsV]
  · rw [R17_row_L1, wr_succ (by omega)]
    simp only [pairsV, List.length_map, ltI, hi, decide_true, if_true, idx_nat, List.getElem?_map, getE hi, Option.map_some, bind_some', pairV, vT, idx_0, idx_1, List.getElem?_cons_zero, List.getElem?_cons_succ]
    rw [appL_ok (by simp; omega) (by simp; omega), bind_some']
    rw [List.take_succ_eq_append_getElem hi] at ih
    exact ih
theorem rRow (l : List api_Pair) (hl : l.length ≤ 100) : R17_row (pairsV l) = some l := by
  have h := rRowL l hl 0 (by omega)
  rw [List.take_zero, show ((0 : Nat) : Int) = 0 from rfl] at h
  rw [R17_row, h]; rfl
theorem idx_2 {α : Type} (l : List α) : idx l 2 = l[2]? := idx_lit l 2
theorem idx_3 {α : Type} (l : List α) : idx l 3 = l[3]? := idx_lit l 3
theorem idx_4 {α : Type} (l : List α) : idx l 4 = l[4]? := idx_lit l 4
theorem idx_5 {α : Type} (l : List α) : idx l 5 = l[5]? := idx_lit l 5
theorem aBackL (g : api_Group) (h : okG g) (p0 x3 x4 : api_Val) (x6 : List api_Pair) (x7 : api_Val) : ∀ i, i ≤ g.Alerts.length → alert_Back_L1 p0 x3 x4 x6 x7 (alertsV g.Alerts) i (g.Alerts.take i) = some g.Alerts := by
  have hal := h.al
  refine upto ?_ fun i hi ih => ?_
  · rw [alert_Back_L1]; simp [alertsV]
  · have hm := (okG_rows h).2 _ (List.getElem_mem hi)
    rw [alert_Back_L1, wr_succ (by omega)]
    simp only [alertsV, List.length_map, ltI, hi, decide_true, if_true, idx_nat, List.getElem?_map, getE hi, Option.map_some, bind_some', alertV, idx_0, idx_1, idx_2, idx_3, idx_4, idx_5, List.getElem?_cons_zero, List.getElem?_cons_succ, aRow _ hm.1, aRow _ hm.2, vB, vN, vT]
    rw [appL_ok (by simp; omega) (by simp; omega), bind_some']
    rw [List.take_succ_eq_append_getElem hi] at ih
    exact ih
def zeroG : api_Group := ⟨[], false, [], [], []⟩
def backP (g : api_Group) : api_Group × Bool := if chk g = 0 then (g, true) else (zeroG, false)
theorem aBack (g : api_Group) (h : okG g) : alert_Back (groupV g) = some (backP g) := by
  obtain ⟨h1, h2⟩ := okG_rows h
  have hL := fun p0 x3 x4 x6 x7 => aBackL g h p0 x3 x4 x6 x7 0 (by omega)
  simp only [List.take_zero, show ((0 : Nat) : Int) = 0 from rfl] at hL
  unfold alert_Back backP
  rw [sIs _ (few_groupV g h), cnf_groupV g h]
  have e0 : ((groupV g).K != 6) = false := rfl
  simp only [e0, Bool.false_eq_true, if_false, bind_some', Bool.not_true, groupV, idx_0, idx_1, idx_2, idx_3, idx_4, List.getElem?_cons_zero, List.getElem?_cons_succ, aRow _ h1, hL, vT, vB]
  have hc : alert_Check ⟨g.Receiver, g.Firing, g.Common, g.Link, g.Alerts⟩ = some (chk g) := aCheck g h
  rw [hc, bind_some']
  by_cases hz : chk g = 0
  · simp [hz]
  · have e : (chk g != 0) = true := by simp [hz]
    simp only [e, hz, if_true, if_false]; rfl
theorem rBackL (g : api_Group) (h : okG g) (x3 x4 : api_Val) (x6 : List api_Pair) (x7 : api_Val) : ∀ i, i ≤ g.Alerts.length → R17_Back_L1 (groupV g) x3 x4 x6 x7 i (g.Alerts.take i) = some g.Alerts := by
  have hal := h.al
  refine upto ?_ fun i hi ih => ?_
  · rw [R17_Back_L1]; simp [groupV, alertsV, idx_4]
  · have hm := (okG_rows h).2 _ (List.getElem_mem hi)
    rw [R17_Back_L1, wr_succ (by omega)]
    simp only [groupV, idx_4, List.getElem?_cons_zero, List.getElem?_cons_succ, alertsV, List.length_map, ltI, hi, decide_true, if_true, idx_nat, List.getElem?_map, getE hi, Option.map_some, bind_some', alertV, idx_0, idx_1, idx_2, idx_3, idx_5, rRow _ hm.1, rRow _ hm.2, vB, vN, vT]
    rw [appL_ok (by simp; omega) (by simp; omega), bind_some']
    rw [List.take_succ_eq_append_getElem hi] at ih
    exact ih
theorem rBack (g : api_Group) (h : okG g) : R17_Back (groupV g) = some (backP g) := by
  obtain ⟨h1, h2⟩ := okG_rows h
  have hL := fun x3 x4 x6 x7 => rBackL g h x3 x4 x6 x7 0 (by omega)
  simp only [List.take_zero, show ((0 : Nat) : Int) = 0 from rfl] at hL
  have i0 : idx (groupV g).L 0 = some (vT g.Receiver) := rfl
  have i1 : idx (groupV g).L 1 = some (vB g.Firing) := rfl
  have i2 : idx (groupV g).L 2 = some (pairsV g.Common) := rfl
  have i3 : idx (groupV g).L 3 = some (vT g.Link) := rfl
  unfold R17_Back backP
  rw [rIs _ (few_groupV g h), cnf_groupV g h]
  have e0 : ((groupV g).K != 6) = false := rfl
  simp only [e0, Bool.false_eq_true, if_false, bind_some', Bool.not_true, i0, i1, i2, i3, rRow _ h1, hL, vT, vB]
  have hc : R17_Check ⟨g.Receiver, g.Firing, g.Common, g.Link, g.Alerts⟩ = some (chk g) := rCheck g h
  rw [hc, bind_some']
  by_cases hz : chk g = 0
  · simp [hz]
  · have e : (chk g != 0) = true := by simp [hz]
    simp only [e, hz, if_true, if_false]; rfl
theorem aBack_no (v : api_Val) (hf : few v) (h : v.K ≠ 6 ∨ cnf v = false) : alert_Back v = some (zeroG, false) := by
  unfold alert_Back
  rw [sIs v hf]
  by_cases hk : v.K = 6
  · have hc := h.resolve_left (fun h => h hk)
    simp [hk, hc, zeroG]
  · have e : (v.K != 6) = true := by simpa using hk
    simp [e, zeroG]
theorem rBack_no (v : api_Val) (hf : few v) (h : v.K ≠ 6 ∨ cnf v = false) : R17_Back v = some (zeroG, false) := by
  unfold R17_Back
  rw [rIs v hf]
  by_cases hk : v.K = 6
  · have hc := h.resolve_left (fun h => h hk)
    simp [hk, hc, zeroG]
  · have e : (v.K != 6) = true := by simpa using hk
    simp [e, zeroG]
/-! ### what conforms is of a group -/
def atV (v : api_Val) (i : Nat) : api_Val := v.L.getD i val0
def pairOf (v : api_Val) : api_Pair := ⟨(atV v 0).S, (atV v 1).S⟩
def alertOf (v : api_Val) : api_Alert := ⟨(atV v 0).B, (atV v 1).N, (atV v 2).N, (atV v 3).L.map pairOf, (atV v 4).L.map pairOf, (atV v 5).S⟩
def groupOf (v : api_Val) : api_Group := ⟨(atV v 0).S, (atV v 1).B, (atV v 2).L.map pairOf, (atV v 3).S, (atV v 4).L.map alertOf⟩
theorem is1 (v : api_Val) (hk : v.K = 1) (h : cnf v = true) : v = vT v.S := by
  rw [cnf_eq, hk] at h
  simp [plainB] at h
  obtain ⟨k, s, n, b, l⟩ := v
  simp only at hk h
  simp [vT, hk, h]
theorem is2 (v : api_Val) (hk : v.K = 2) (h : cnf v = true) : v = vN v.N := by
  rw [cnf_eq, hk] at h
  simp [plainB] at h
  obtain ⟨k, s, n, b, l⟩ := v
  simp only at hk h
  simp [vN, hk, h]
theorem is3 (v : api_Val) (hk : v.K = 3) (h : cnf v = true) : v = vB v.B := by
  rw [cnf_eq, hk] at h
  simp [plainB] at h
  obtain ⟨k, s, n, b, l⟩ := v
  simp only at hk h
  simp [vB, hk, h]
theorem is4 (v : api_Val) (hk : v.K = 4) (h : cnf v = true) : v = pairV (pairOf v) := by
  obtain ⟨h1, h2, h3, h4, h5⟩ := (cnf4 v hk).1 h
  obtain ⟨k, s, n, b, l⟩ := v
  simp only at hk h1 h2 h3 h4 h5
  have hl : l.length = 2 := by have := congrArg List.length h4; simpa using this
  match l, hl, h4, h5 with
  | [x, y], _, h4, h5 =>
    simp only [List.map_cons, List.map_nil, List.cons.injEq, and_true] at h4
    have ex := is1 x h4.1 (h5 x (by simp))
    have ey := is1 y h4.2 (h5 y (by simp))
    subst hk; subst h1; subst h2; subst h3
    simp only [pairV, pairOf, atV, List.getD_cons_zero, List.getD_cons_succ]
    rw [← ex, ← ey]
theorem is8 (v : api_Val) (hk : v.K = 8) (h : cnf v = true) : v = pairsV (v.L.map pairOf) := by
  obtain ⟨h1, h2, h3, h4, h5⟩ := (cnf8 v hk).1 h
  obtain ⟨k, s, n, b, l⟩ := v
  simp only at hk h1 h2 h3 h4 h5
  subst hk; subst h1; subst h2; subst h3
  simp only [pairsV, List.map_map, api_Val.mk.injEq, true_and]
  exact ((List.map_congr_left (g := id) fun x hx => (is4 x (h5 x hx).1 (h5 x hx).2).symm).trans (List.map_id l)).symm
theorem is5 (v : api_Val) (hk : v.K = 5) (h : cnf v = true) : v = alertV (alertOf v) := by
  obtain ⟨h1, h2, h3, h4, h5⟩ := (cnf5 v hk).1 h
  obtain ⟨k, s, n, b, l⟩ := v
  simp only at hk h1 h2 h3 h4 h5
  have hl : l.length = 6 := by have := congrArg List.length h4; simpa using this
  match l, hl, h4, h5 with
  | [a0, a1, a2, a3, a4, a5], _, h4, h5 =>
    simp only [List.map_cons, List.map_nil, List.cons.injEq, and_true] at h4
    have e0 := is3 a0 h4.1 (h5 a0 (by simp))
    have e1 := is2 a1 h4.2.1 (h5 a1 (by simp))
    have e2 := is2 a2 h4.2.2.1 (h5 a2 (by simp))
    have e3 := is8 a3 h4.2.2.2.1 (h5 a3 (by simp))
    have e4 := is8 a4 h4.2.2.2.2.1 (h5 a4 (by simp))
    have e5 := is1 a5 h4.2.2.2.2.2 (h5 a5 (by simp))
    subst hk; subst h1; subst h2; subst h3
    simp only [alertV, alertOf, atV, List.getD_cons_zero, List.getD_cons_succ]
    rw [← e0, ← e1, ← e2, ← e3, ← e4, ← e5]
theorem is9 (v : api_Val) (hk : v.K = 9) (h : cnf v = true) : v = alertsV (v.L.map alertOf) := by
  obtain ⟨h1, h2, h3, h4, h5⟩ := (cnf9 v hk).1 h
  obtain ⟨k, s, n, b, l⟩ := v
  simp only at hk h1 h2 h3 h4 h5
  subst hk; subst h1; subst h2; subst h3
  simp only [alertsV, List.map_map, api_Val.mk.injEq, true_and]
  exact ((List.map_congr_left (g := id) fun x hx => (is5 x (h5 x hx).1 (h5 x hx).2).symm).trans (List.map_id l)).symm
theorem is6 (v : api_Val) (hk : v.K = 6) (h : cnf v = true) : v = groupV (groupOf v) := by
  obtain ⟨h1, h2, h3, h4, h5⟩ := (cnf6 v hk).1 h
  obtain ⟨k, s, n, b, l⟩ := v
  simp only at hk h1 h2 h3 h4 h5
  have hl : l.length = 5 := by have := congrArg List.length h4; simpa using this
  match l, hl, h4, h5 with
  | [a0, a1, a2, a3, a4], _, h4, h5 =>
    simp only [List.map_cons, List.map_nil, List.cons.injEq, and_true] at h4
    have e0 := is1 a0 h4.1 (h5 a0 (by simp))
    have e1 := is3 a1 h4.2.1 (h5 a1 (by simp))
    have e2 := is8 a2 h4.2.2.1 (h5 a2 (by simp))
    have e3 := is1 a3 h4.2.2.2.1 (h5 a3 (by simp))
    have e4 := is9 a4 h4.2.2.2.2 (h5 a4 (by simp))
    subst hk; subst h1; subst h2; subst h3
    simp only [groupV, groupOf, atV, List.getD_cons_zero, List.getD_cons_succ]
    rw [← e0, ← e1, ← e2, ← e3, ← e4]
/-! ### the laws -/
theorem ok_zero : okG zeroG := ⟨by simp [zeroG], by simp [zeroG, rowsG, rowsOf], by simp [zeroG, textsA, rowsG, rowsOf, rowT, tsum]⟩
theorem awake17 : nunciolaw17_awake = some true := by
  have hc : chk zeroG = 0 := by decide
  have hv : alert_Val ⟨[], false, [], [], []⟩ = some (groupV zeroG, 0) := by
    have := aVal zeroG ok_zero
    rw [valP, if_pos hc] at this
    exact this
  have hw : wt (groupV zeroG) = 6 := by decide
  unfold nunciolaw17_awake
  rw [hv]
  simp only [bind_some', sIs _ (few_groupV _ ok_zero), cnf_groupV _ ok_zero, sWt _ (few_groupV _ ok_zero), hw]
  rfl
theorem lawSames (a b : api_Group) : nunciolaw17_AlertSames a b = some true := by
  unfold nunciolaw17_AlertSames
  simp only [fewGs, bind_some', aSame _ _ (few_ok a).1, rSame _ _ (few_ok a).1, sgroup_refl, beq_self_eq_true, if_true, awake17]
theorem lawVals (g : api_Group) : nunciolaw17_AlertVals g = some true := by
  have h := (few_ok g).1
  unfold nunciolaw17_AlertVals
  simp only [fewGs, bind_some', aVal _ h, rVal _ h, aCheck _ h, valP]
  by_cases hc : chk (fewG g) = 0
  · have hs := rSm _ (groupV (fewG g)) (few_groupV _ h)
    simp [hc, hs, sme_refl, aBack _ h, backP, sIs _ (few_groupV _ h), cnf_groupV _ h, rSame _ _ h, sgroup_refl, awake17]
  · have hs := rSm val0 val0 few0
    have hb := aBack_no val0 few0 (.inl (by decide))
    have e : (chk (fewG g) != 0) = true := by simp [hc]
    simp [hc, hs, sme_refl, hb, awake17]
end Go.Proofs.Ytcegigccehapdaa
