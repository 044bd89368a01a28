/- Chapter 17 in plain terms: groups that are the same; groups as values, and back; the laws. -/
import Derived.Test.YtcegigccehapdaaP17
namespace Go.Proofs.Ytcegigccehapdaa
open Go.RowKit

/-! ### the same -/
def spair (p q : api_Pair) : Bool := p.Key == q.Key && p.Val == q.Val
def spairs : List api_Pair → List api_Pair → Bool
  | [], [] => true
  | p :: r, q :: s => spair p q && spairs r s
  | _, _ => false
theorem spairs_len : ∀ l m : List api_Pair, spairs l m = true → l.length = m.length
  | [], [], _ => rfl
  | p :: r, q :: s, h => by simp [spairs] at h; simp [spairs_len r s h.2]
  | [], q :: s, h => by cases h
  | p :: r, [], h => by cases h
theorem spairs_refl : ∀ l : List api_Pair, spairs l l = true
  | [] => rfl
  | p :: r => by simp [spairs, spair, spairs_refl r]
theorem rPairsL (l m : List api_Pair) (hl : l.length = m.length) (hb : l.length ≤ 65536) : ∀ i, i ≤ l.length → R17_samePairs_L1 l m i = some (if spairs (l.drop i) (m.drop i) then .inl () else .inr ()) := by
  refine upto ?_ fun i hi ih => ?_
  · have e : m.drop l.length = [] := by rw [hl]; exact List.drop_length
    rw [R17_samePairs_L1]; simp [e, spairs]
  · have hj : i < m.length := by omega
    have e : spairs (l.drop i) (m.drop i) = ((l[i].Key == m[i].Key && l[i].Val == m[i].Val) && spairs (l.drop (i + 1)) (m.drop (i + 1))) := by rw [dropE hi, dropE hj]; rfl
    rw [R17_samePairs_L1, wr_succ (by omega), e]
    simp only [ltI, hi, decide_true, if_true, idx_nat, getE hi, getE hj, bind_some', ih]
    cases h1 : (l[i].Key == m[i].Key) <;> cases h2 : (l[i].Val == m[i].Val) <;> simp
theorem rPairs (l m : List api_Pair) (hb : l.length ≤ 65536) : R17_samePairs l m = some (spairs l m) := by
  unfold R17_samePairs
  by_cases hl : l.length = m.length
  · have h := rPairsL l m hl hb 0 (by omega)
    rw [show ((0 : Nat) : Int) = 0 from rfl, List.drop_zero, List.drop_zero] at h
    have e : ((l.length : Int) != (m.length : Int)) = false := by simp [hl]
    rw [e, h]
    cases hs : spairs l m <;> simp
  · have e : ((l.length : Int) != (m.length : Int)) = true := by simp; omega
    rw [e]
    cases hs : spairs l m with
    | true => exact (hl (spairs_len l m hs)).elim
    | false => rfl
theorem aPairsL (l m : List api_Pair) (hl : l.length = m.length) (hb : l.length ≤ 65536) : ∀ i, i ≤ l.length → slices_Equal_api_Pair_api_Pair_L1 l m i = some (if spairs (l.drop i) (m.drop i) then .inl () else .inr ()) := by
  refine upto ?_ fun i hi ih => ?_
  · have e : m.drop l.length = [] := by rw [hl]; exact List.drop_length
    rw [slices_Equal_api_Pair_api_Pair_L1]; simp [e, spairs]
  · have hj : i < m.length := by omega
    have e : spairs (l.drop i) (m.drop i) = ((l[i].Key == m[i].Key && l[i].Val == m[i].Val) && spairs (l.drop (i + 1)) (m.drop (i + 1))) := by rw [dropE hi, dropE hj]; rfl
    rw [slices_Equal_api_Pair_api_Pair_L1, wr_succ (by omega), e]
    simp only [ltI, hi, decide_true, if_true, idx_nat, getE hi, getE hj, bind_some', ih]
    cases h1 : (l[i].Key == m[i].Key) <;> cases h2 : (l[i].Val == m[i].Val) <;> simp
theorem aPairs (l m : List api_Pair) (hb : l.length ≤ 65536) : slices_Equal_api_Pair_api_Pair l m = some (spairs l m) := by
  unfold slices_Equal_api_Pair_api_Pair
  by_cases hl : l.length = m.length
  · have h := aPairsL l m hl hb 0 (by omega)
    rw [show ((0 : Nat) : Int) = 0 from rfl, List.drop_zero, List.drop_zero] at h
    have e : ((l.length : Int) != (m.length : Int)) = false := by simp [hl]
    rw [e, h]
    cases hs : spairs l m <;> simp
  · have e : ((l.length : Int) != (m.length : Int)) = true := by simp; omega
    rw [e]
    cases hs : spairs l m with
    | true => exact (hl (spairs_len l m hs)).elim
    | false => rfl
def salert (x y : api_Alert) : Bool := x.Firing == y.Firing && x.Starts == y.Starts && x.Value == y.Value && x.Link == y.Link && spairs x.Labels y.Labels && spairs x.Notes y.Notes
def salerts : List api_Alert → List api_Alert → Bool
  | [], [] => true
  | p :: r, q :: s => salert p q && salerts r s
  | _, _ => false
theorem salerts_len : ∀ l m : List api_Alert, salerts l m = true → l.length = m.length
  | [], [], _ => rfl
  | p :: r, q :: s, h => by simp [salerts] at h; simp [salerts_len r s h.2]
  | [], q :: s, h => by cases h
  | p :: r, [], h => by cases h
theorem salert_refl (x : api_Alert) : salert x x = true := by simp [salert, spairs_refl]
theorem salerts_refl : ∀ l : List api_Alert, salerts l l = true
  | [] => rfl
  | p :: r => by simp [salerts, salert_refl, salerts_refl r]
theorem aAlert (x y : api_Alert) (h1 : x.Labels.length ≤ 100) (h2 : x.Notes.length ≤ 100) : alert_Same_1 x y = some (salert x y) := by
  unfold alert_Same_1 salert
  rw [aPairs _ _ (show x.Labels.length ≤ 65536 by omega), aPairs _ _ (show x.Notes.length ≤ 65536 by omega)]
  cases e1 : (x.Firing == y.Firing) <;> cases e2 : (x.Starts == y.Starts) <;> cases e3 : (x.Value == y.Value) <;> cases e4 : (x.Link == y.Link) <;> cases e5 : spairs x.Labels y.Labels <;> cases e6 : spairs x.Notes y.Notes <;> simp
theorem aAlertsL (l m : List api_Alert) (hr : ∀ x ∈ l, x.Labels.length ≤ 100 ∧ x.Notes.length ≤ 100) (hl : l.length = m.length) (hb : l.length ≤ 65536) :
    ∀ i, i ≤ l.length → slices_EqualFunc_api_Alert_api_Alert_api_Alert_api_Alert_alert_Same_1_L1 l m i = some (if salerts (l.drop i) (m.drop i) then .inl () else .inr ()) := by
  refine upto ?_ fun i hi ih => ?_
  · have e : m.drop l.length = [] := by rw [hl]; exact List.drop_length
    rw [slices_EqualFunc_api_Alert_api_Alert_api_Alert_api_Alert_alert_Same_1_L1]; simp [e, salerts]
  · have hj : i < m.length := by omega
    have hm := hr _ (List.getElem_mem hi)
    have e : salerts (l.drop i) (m.drop i) = (salert l[i] m[i] && salerts (l.drop (i + 1)) (m.drop (i + 1))) := by rw [dropE hi, dropE hj]; rfl
    rw [slices_EqualFunc_api_Alert_api_Alert_api_Alert_api_Alert_alert_Same_1_L1, wr_succ (by omega), e]
    simp only [ltI, hi, decide_true, if_true, idx_nat, getE hi, getE hj, bind_some', ih, aAlert _ _ hm.1 hm.2]
    cases h1 : salert l[i] m[i] <;> simp
theorem aAlerts (l m : List api_Alert) (hr : ∀ x ∈ l, x.Labels.length ≤ 100 ∧ x.Notes.length ≤ 100) (hb : l.length ≤ 65536) : slices_EqualFunc_api_Alert_api_Alert_api_Alert_api_Alert_alert_Same_1 l m = some (salerts l m) := by
  unfold slices_EqualFunc_api_Alert_api_Alert_api_Alert_api_Alert_alert_Same_1
  by_cases hl : l.length = m.length
  · have h := aAlertsL l m hr hl hb 0 (by omega)
    rw [show ((0 : Nat) : Int) = 0 from rfl, List.drop_zero, List.drop_zero] at h
    have e : ((l.length : Int) != (m.length : Int)) = false := by simp [hl]
    rw [e, h]
    cases hs : salerts l m <;> simp
  · have e : ((l.length : Int) != (m.length : Int)) = true := by simp; omega
    rw [e]
    cases hs : salerts l m with
    | true => exact (hl (salerts_len l m hs)).elim
    | false => rfl
def sgroup (a b : api_Group) : Bool := a.Receiver == b.Receiver && a.Firing == b.Firing && a.Link == b.Link && spairs a.Common b.Common && salerts a.Alerts b.Alerts
theorem sgroup_refl (g : api_Group) : sgroup g g = true := by simp [sgroup, spairs_refl, salerts_refl]
theorem okG_rows {g : api_Group} (h : okG g) : g.Common.length ≤ 100 ∧ ∀ x ∈ g.Alerts, x.Labels.length ≤ 100 ∧ x.Notes.length ≤ 100 := by
  refine ⟨h.row _ (by simp [rowsG]), fun x hx => ⟨h.row _ ?_, h.row _ ?_⟩⟩
  · simp only [rowsG, rowsOf, List.mem_cons, List.mem_flatMap]
    exact .inr ⟨x, hx, by simp⟩
  · simp only [rowsG, rowsOf, List.mem_cons, List.mem_flatMap]
    exact .inr ⟨x, hx, by simp⟩
theorem aSame (a b : api_Group) (h : okG a) : alert_Same a b = some (sgroup a b) := by
  obtain ⟨h1, h2⟩ := okG_rows h
  have hal := h.al
  unfold alert_Same sgroup
  rw [aPairs _ _ (show a.Common.length ≤ 65536 by omega), aAlerts _ _ h2 (by omega)]
  cases e1 : (a.Receiver == b.Receiver) <;> cases e2 : (a.Firing == b.Firing) <;> cases e3 : (a.Link == b.Link) <;> cases e4 : spairs a.Common b.Common <;> cases e5 : salerts a.Alerts b.Alerts <;> simp
theorem rAlertsL (a b : api_Group) (hr : ∀ x ∈ a.Alerts, x.Labels.length ≤ 100 ∧ x.Notes.length ≤ 100) (hl : a.Alerts.length = b.Alerts.length) (hb : a.Alerts.length ≤ 65536) :
    ∀ i, i ≤ a.Alerts.length → R17_Same_L1 a b i = some (if salerts (a.Alerts.drop i) (b.Alerts.drop i) then .inl () else .inr ()) := by
  refine upto ?_ fun i hi ih => ?_
  · have e : b.Alerts.drop a.Alerts.length = [] := by rw [hl]; exact List.drop_length
    rw [R17_Same_L1]; simp [e, salerts]
  · have hj : i < b.Alerts.length := by omega
    have hm := hr _ (List.getElem_mem hi)
    have e : salerts (a.Alerts.drop i) (b.Alerts.drop i) = ((a.Alerts[i].Firing == b.Alerts[i].Firing && a.Alerts[i].Starts == b.Alerts[i].Starts && a.Alerts[i].Value == b.Alerts[i].Value && a.Alerts[i].Link == b.Alerts[i].Link && spairs a.Alerts[i].Labels b.Alerts[i].Labels && spairs a.Alerts[i].Notes b.Alerts[i].Notes) && salerts (a.Alerts.drop (i + 1)) (b.Alerts.drop (i + 1))) := by rw [dropE hi, dropE hj]; rfl
    rw [R17_Same_L1, wr_succ (by omega), e]
    simp only [ltI, hi, decide_true, if_true, idx_nat, getE hi, getE hj, bind_some', ih, rPairs _ _ (show a.Alerts[i].Labels.length ≤ 65536 by omega), rPairs _ _ (show a.Alerts[i].Notes.length ≤ 65536 by omega)]
    have n1 : (a.Alerts[i].Firing != b.Alerts[i].Firing) = !(a.Alerts[i].Firing == b.Alerts[i].Firing) := rfl
    have n2 : (a.Alerts[i].Starts != b.Alerts[i].Starts) = !(a.Alerts[i].Starts == b.Alerts[i].Starts) := rfl
    have n3 : (a.Alerts[i].Value != b.Alerts[i].Value) = !(a.Alerts[i].Value == b.Alerts[i].Value) := rfl
    rw [n1, n2, n3]
    cases e1 : (a.Alerts[i].Firing == b.Alerts[i].Firing) <;> cases e2 : (a.Alerts[i].Starts == b.Alerts[i].Starts) <;> cases e3 : (a.Alerts[i].Value == b.Alerts[i].Value) <;> cases e4 : (a.Alerts[i].Link == b.Alerts[i].Link) <;> cases e5 : spairs a.Alerts[i].Labels b.Alerts[i].Labels <;> cases e6 : spairs a.Alerts[i].Notes b.Alerts[i].Notes <;> simp
theorem rSame (a b : api_Group) (h : okG a) : R17_Same a b = some (sgroup a b) := by
  obtain ⟨h1, h2⟩ := okG_rows h
  have hal := h.al
  unfold R17_Same sgroup
  rw [rPairs _ _ (show a.Common.length ≤ 65536 by omega)]
  have n1 : (a.Firing != b.Firing) = !(a.Firing == b.Firing) := rfl
  rw [n1]
  by_cases hl : a.Alerts.length = b.Alerts.length
  · have hL := rAlertsL a b h2 hl (by omega) 0 (by omega)
    rw [show ((0 : Nat) : Int) = 0 from rfl, List.drop_zero, List.drop_zero] at hL
    have e : ((a.Alerts.length : Int) != (b.Alerts.length : Int)) = false := by simp [hl]
    rw [hL, e]
    cases e1 : (a.Receiver == b.Receiver) <;> cases e2 : (a.Firing == b.Firing) <;> cases e3 : (a.Link == b.Link) <;> cases e4 : spairs a.Common b.Common <;> cases e5 : salerts a.Alerts b.Alerts <;> simp
  · have e : ((a.Alerts.length : Int) != (b.Alerts.length : Int)) = true := by simp; omega
    have e5 : salerts a.Alerts b.Alerts = false := by
      cases hs : salerts a.Alerts b.Alerts with
      | true => exact (hl (salerts_len _ _ hs)).elim
      | false => rfl
    rw [e, e5]
    cases e1 : (a.Receiver == b.Receiver) <;> cases e2 : (a.Firing == b.Firing) <;> cases e3 : (a.Link == b.Link) <;> cases e4 : spairs a.Common b.Common <;> simp
/-! ### few -/
def fewP (l : List api_Pair) : List api_Pair := (l.take 40).map fun p => ⟨p.Key.take 40, p.Val.take 40⟩
def fewA (a : api_Alert) : api_Alert := ⟨a.Firing, a.Starts, a.Value, fewP a.Labels, fewP a.Notes, a.Link.take 40⟩
def fewG (g : api_Group) : api_Group := ⟨g.Receiver.take 40, g.Firing, fewP g.Common, g.Link.take 40, (g.Alerts.take 6).map fewA⟩
theorem cut40 (s : List UInt8) : cutL s 0 (if 40 < (s.length : Int) then 40 else (s.length : Int)) = some (s.take 40) := by
  by_cases h : 40 < s.length
  · rw [if_pos (by omega), cutL_ok (by omega) (by omega) (by omega)]; rfl
  · rw [if_neg (by omega), cutL_ok (by omega) (by omega) (by omega), List.take_of_length_le (show s.length ≤ 40 by omega), List.take_of_length_le (by omega)]
    rfl
theorem fewPL (l : List api_Pair) (m : Nat) (hm : m = min l.length 40) : ∀ i, i ≤ m → nunciolaw17_pairs_L1 l ((l.take i).map fun p => ⟨p.Key.take 40, p.Val.take 40⟩) i = some ((l.take m).map fun p => ⟨p.Key.take 40, p.Val.take 40⟩) := by
  have hmr : m = (List.range m).length := by simp
  intro i hi
  revert i
  rw [hmr]
  refine upto (φ := fun i => nunciolaw17_pairs_L1 l ((l.take i).map fun p => ⟨p.Key.take 40, p.Val.take 40⟩) i = some ((l.take (List.range m).length).map fun p => ⟨p.Key.take 40, p.Val.take 40⟩)) ?_ fun i hi ih => ?_
  · rw [← hmr, nunciolaw17_pairs_L1]
    by_cases h1 : m < l.length
    · have h7 : m = 40 := by omega
      subst h7
      simp
    · simp [h1]
  · rw [← hmr] at hi ih ⊢
    have h1 : i < l.length := by omega
    have e2 : decide ((i : Int) < 40) = true := by simp; omega
    rw [nunciolaw17_pairs_L1, wr_succ (by omega)]
    simp only [ltI, h1, decide_true, if_true, e2, bind_some', idx_nat, getE h1, cut40]
    rw [appL_ok (by simp; omega) (by simp; omega), bind_some']
    rw [List.take_succ_eq_append_getElem h1, List.map_append] at ih
    exact ih
theorem fewPs (l : List api_Pair) : nunciolaw17_pairs l = some (fewP l) := by
  have h := fewPL l _ rfl 0 (by omega)
  rw [List.take_zero, List.map_nil, show ((0 : Nat) : Int) = 0 from rfl] at h
  rw [nunciolaw17_pairs, h, bind_some']
  unfold fewP
  congr 2
  by_cases h4 : l.length ≤ 40
  · rw [List.take_of_length_le (by omega), List.take_of_length_le (by omega)]
  · congr 1; omega
theorem fewGL (g : api_Group) (x1 : List UInt8) (x2 : List api_Pair) (x3 : List UInt8) (m : Nat) (hm : m = min g.Alerts.length 6) : ∀ i, i ≤ m → nunciolaw17_Few_L1 g x1 x2 x3 i ((g.Alerts.take i).map fewA) = some ((g.Alerts.take m).map fewA) := by
  have hmr : m = (List.range m).length := by simp
  intro i hi
  revert i
  rw [hmr]
  refine upto (φ := fun i => nunciolaw17_Few_L1 g x1 x2 x3 i ((g.Alerts.take i).map fewA) = some ((g.Alerts.take (List.range m).length).map fewA)) ?_ fun i hi ih => ?_
  · rw [← hmr, nunciolaw17_Few_L1]
    by_cases h1 : m < g.Alerts.length
    · have h7 : m = 6 := by omega
      subst h7
      simp
    · simp [h1]
  · rw [← hmr] at hi ih ⊢
    have h1 : i < g.Alerts.length := by omega
    have e2 : decide ((i : Int) < 6) = true := by simp; omega
    rw [nunciolaw17_Few_L1, wr_succ (by omega)]
    simp only [ltI, h1, decide_true, if_true, e2, bind_some', idx_nat, getE h1, cut40, fewPs]
    rw [appL_ok (by simp; omega) (by simp; omega), bind_some']
    rw [List.take_succ_eq_append_getElem h1, List.map_append] at ih
    exact ih
theorem fewGs (g : api_Group) : nunciolaw17_Few g = some (fewG g) := by
  unfold nunciolaw17_Few
  simp only [cut40, fewPs, bind_some']
  have h := fewGL g (g.Receiver.take 40) (fewP g.Common) (g.Link.take 40) _ rfl 0 (by omega)
  rw [List.take_zero, List.map_nil, show ((0 : Nat) : Int) = 0 from rfl] at h
  rw [h, bind_some']
  unfold fewG
  congr 2
  by_cases h4 : g.Alerts.length ≤ 6
  · rw [List.take_of_length_le (by omega), List.take_of_length_le (by omega)]
  · congr 2; omega
theorem fewP_len (l : List api_Pair) : (fewP l).length ≤ 40 := by simp [fewP]; omega
theorem tsum_le (n : Nat) : ∀ l : List (List UInt8), (∀ x ∈ l, x.length ≤ n) → tsum l ≤ n * l.length
  | [], _ => by simp [tsum]
  | x :: r, h => by
    have h1 := h x (by simp)
    have h2 := tsum_le n r fun y hy => h y (by simp [hy])
    simp only [tsum, List.length_cons, Nat.mul_add, Nat.mul_one]; omega
theorem few_texts (g : api_Group) : ∀ x ∈ textsA (fewG g), x.length ≤ 40 := by
  have hP : ∀ (l : List api_Pair), ∀ x ∈ rowT (fewP l), x.length ≤ 40 := fun l x hx => by
    simp only [rowT, fewP, List.mem_flatMap, List.mem_map] at hx
    obtain ⟨p, ⟨q, -, rfl⟩, hx⟩ := hx
    simp only [List.mem_cons, List.not_mem_nil, or_false] at hx
    rcases hx with rfl | rfl <;> (simp; omega)
  intro x hx
  simp only [textsA, List.mem_cons, List.mem_append, List.mem_flatMap, List.mem_map] at hx
  rcases hx with rfl | rfl | ⟨r, hr, hx⟩ | ⟨a, ha, rfl⟩
  · simp [fewG]; omega
  · simp [fewG]; omega
  · simp only [rowsG, fewG, List.mem_cons, rowsOf, List.mem_flatMap, List.mem_map] at hr
    rcases hr with rfl | ⟨a, ⟨b, -, rfl⟩, hr⟩
    · exact hP _ x hx
    · simp only [fewA, List.mem_cons, List.not_mem_nil, or_false] at hr
      rcases hr with rfl | rfl <;> exact hP _ x hx
  · simp only [fewG, List.mem_map] at ha
    obtain ⟨b, -, rfl⟩ := ha
    simp [fewA]; omega
theorem few_ok (g : api_Group) : okG (fewG g) ∧ tsum (textsA (fewG g)) ≤ 65536 ∧ (fewG g).Alerts.length ≤ 6 := by
  have hal : (fewG g).Alerts.length ≤ 6 := by simp [fewG]; omega
  have hrow : ∀ l ∈ rowsG (fewG g), l.length ≤ 40 := fun l hl => by
    simp only [rowsG, fewG, List.mem_cons, rowsOf, List.mem_flatMap, List.mem_map] at hl
    rcases hl with rfl | ⟨a, ⟨b, -, rfl⟩, hr⟩
    · exact fewP_len _
    · simp only [fewA, List.mem_cons, List.not_mem_nil, or_false] at hr
      rcases hr with rfl | rfl <;> exact fewP_len _
  have hf : ((rowsG (fewG g)).flatMap rowT).length ≤ 80 * (rowsG (fewG g)).length := by
    generalize rowsG (fewG g) = L at hrow
    induction L with
    | nil => simp
    | cons a r ih =>
      have h1 := hrow a (by simp)
      have h2 := ih fun x hx => hrow x (by simp [hx])
      have h3 : (rowT a).length = 2 * a.length := by
        clear h1 h2 ih hrow
        induction a with
        | nil => rfl
        | cons p q ih => simp only [rowT, List.flatMap_cons, List.length_append, List.length_cons, List.length_nil] at ih ⊢; omega
      simp only [List.flatMap_cons, List.length_append, List.length_cons, h3]; omega
  have hrl : (rowsG (fewG g)).length ≤ 13 := by simp only [rowsG, List.length_cons, rowsOf_len]; omega
  have hs := tsum_le 40 (textsA (fewG g)) (few_texts g)
  have hl : (textsA (fewG g)).length ≤ 1048 := by
    simp only [textsA, List.length_cons, List.length_append, List.length_map]; omega
  exact ⟨⟨by omega, fun l hl => by have := hrow l hl; omega, by omega⟩, by omega, hal⟩
end Go.Proofs.Ytcegigccehapdaa
