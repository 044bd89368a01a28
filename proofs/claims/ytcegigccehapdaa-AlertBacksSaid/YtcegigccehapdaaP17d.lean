/- Chapter 17 in plain terms: the law of what comes back. -/
import Derived.Test.YtcegigccehapdaaP17c
namespace Go.Proofs.Ytcegigccehapdaa
open Go.RowKit

/- Short texts and short lists, at any depth. -/
mutual
def lm : api_Val → Prop
  | ⟨_, s, _, _, l⟩ => s.length ≤ 60 ∧ l.length ≤ 7 ∧ lms l
def lms : List api_Val → Prop
  | [] => True
  | v :: r => lm v ∧ lms r
end
theorem lm_eq (v : api_Val) : lm v ↔ v.S.length ≤ 60 ∧ v.L.length ≤ 7 ∧ lms v.L := by cases v; rw [lm]
theorem lms_mem : ∀ {l : List api_Val}, lms l → ∀ v ∈ l, lm v
  | x :: r, h, v, hv => by
    rcases List.mem_cons.1 hv with rfl | hv
    · exact h.1
    · exact lms_mem h.2 v hv
theorem lms_of : ∀ {l : List api_Val}, (∀ v ∈ l, lm v) → lms l
  | [], _ => True.intro
  | x :: r, h => ⟨h x (by simp), lms_of fun v hv => h v (by simp [hv])⟩
theorem light_lm : ∀ (d : Nat) (v : api_Val), lm (light d v)
  | 0, v => (lm_eq _).2 ⟨by simp [light]; omega, by simp [light], trivial⟩
  | d + 1, v => (lm_eq _).2 ⟨by simp [light]; omega, by simp [light]; omega, lms_of fun x hx => by
    obtain ⟨y, -, rfl⟩ := List.mem_map.1 (show x ∈ (v.L.take 7).map (light d) from hx)
    exact light_lm d y⟩
theorem lm0 : lm val0 := (lm_eq _).2 ⟨by simp [val0], by simp [val0], trivial⟩
theorem lm_at (v : api_Val) (h : lm v) (i : Nat) : lm (atV v i) := by
  unfold atV
  rw [List.getD_eq_getElem?_getD]
  cases hq : v.L[i]? with
  | none => exact lm0
  | some x => exact lms_mem ((lm_eq v).1 h).2.2 x (List.mem_of_getElem? hq)
theorem lm_S (v : api_Val) (h : lm v) : v.S.length ≤ 60 := ((lm_eq v).1 h).1
theorem lm_L (v : api_Val) (h : lm v) : v.L.length ≤ 7 := ((lm_eq v).1 h).2.1
theorem lm_mem (v : api_Val) (h : lm v) : ∀ x ∈ v.L, lm x := lms_mem ((lm_eq v).1 h).2.2
theorem rowT_lm (v : api_Val) (h : lm v) : (v.L.map pairOf).length ≤ 7 ∧ ∀ x ∈ rowT (v.L.map pairOf), x.length ≤ 60 := by
  refine ⟨by simpa using lm_L v h, fun x hx => ?_⟩
  simp only [rowT, List.mem_flatMap, List.mem_map] at hx
  obtain ⟨p, ⟨y, hy, rfl⟩, hx⟩ := hx
  have hy := lm_mem v h y hy
  simp only [pairOf, List.mem_cons, List.not_mem_nil, or_false] at hx
  rcases hx with rfl | rfl
  · exact lm_S _ (lm_at y hy 0)
  · exact lm_S _ (lm_at y hy 1)
theorem ok_of (v : api_Val) (h : lm v) : okG (groupOf v) := by
  have hal : (groupOf v).Alerts.length ≤ 7 := by simpa [groupOf] using lm_L _ (lm_at v h 4)
  have hrow : ∀ l ∈ rowsG (groupOf v), l.length ≤ 7 ∧ ∀ x ∈ rowT l, x.length ≤ 60 := fun l hl => by
    simp only [rowsG, groupOf, List.mem_cons, rowsOf, List.mem_flatMap, List.mem_map] at hl
    rcases hl with rfl | ⟨a, ⟨b, hb, rfl⟩, hr⟩
    · exact rowT_lm _ (lm_at v h 2)
    · have hb := lm_mem _ (lm_at v h 4) b hb
      simp only [alertOf, List.mem_cons, List.not_mem_nil, or_false] at hr
      rcases hr with rfl | rfl
      · exact rowT_lm _ (lm_at b hb 3)
      · exact rowT_lm _ (lm_at b hb 4)
  have hf := flat_len (rowsG (groupOf v)) fun r hr => by have := (hrow r hr).1; omega
  have hrl : (rowsG (groupOf v)).length ≤ 15 := by simp only [rowsG, List.length_cons, rowsOf_len]; omega
  have hs := tsum_le 60 (textsA (groupOf v)) fun x hx => by
    simp only [textsA, List.mem_cons, List.mem_append, List.mem_flatMap, List.mem_map] at hx
    rcases hx with rfl | rfl | ⟨r, hr, hx⟩ | ⟨a, ha, rfl⟩
    · exact lm_S _ (lm_at v h 0)
    · exact lm_S _ (lm_at v h 3)
    · exact (hrow r hr).2 x hx
    · simp only [groupOf, List.mem_map] at ha
      obtain ⟨b, hb, rfl⟩ := ha
      exact lm_S _ (lm_at b (lm_mem _ (lm_at v h 4) b hb) 5)
  have hl : (textsA (groupOf v)).length ≤ 3009 := by
    simp only [textsA, List.length_cons, List.length_append, List.length_map]; omega
  exact ⟨by omega, fun l hl => by have := (hrow l hl).1; omega, by omega⟩
theorem lawBacks (v : api_Val) : nunciolaw17_AlertBacks v = some true := by
  unfold nunciolaw17_AlertBacks
  rw [light5]
  have hf := light_few 5 v
  have hl := light_lm 5 v
  generalize light 5 v = u at hf hl
  have hzv := aVal zeroG ok_zero
  have hzs := rSame zeroG zeroG ok_zero
  rw [sgroup_refl] at hzs
  by_cases hc : u.K = 6 ∧ cnf u = true
  · have hu := is6 u hc.1 hc.2
    have ho := ok_of u hl
    have h1 := aBack _ ho
    have h2 := rBack _ ho
    have h3 := rSame _ (groupOf u) ho
    have h4 := aVal _ ho
    have h5 := rSm (groupV (groupOf u)) (groupV (groupOf u)) (few_groupV _ ho)
    rw [sgroup_refl] at h3
    rw [sme_refl] at h5
    rw [hu]
    generalize groupOf u = g at ho h1 h2 h3 h4 h5
    rw [bind_some', h1, h2]
    by_cases hz : chk g = 0
    · simp [backP, hz, h3, h4, valP, h5, awake17]
    · simp [backP, hz, hzs, hzv, awake17]
  · have hno : u.K ≠ 6 ∨ cnf u = false := by
      by_cases hk : u.K = 6
      · exact .inr (by cases hq : cnf u with
          | true => exact (hc ⟨hk, hq⟩).elim
          | false => rfl)
      · exact .inl hk
    simp [aBack_no u hf hno, rBack_no u hf hno, hzs, hzv, awake17]
end Go.Proofs.Ytcegigccehapdaa
