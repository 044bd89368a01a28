/- Chapter 30 in plain terms; the laws. -/
import Derived.Test.YtcegigccehapdaaP16c
import Derived.Test.YtcegigccehapdaaD30
namespace Go.Proofs.Ytcegigccehapdaa
open Go.RowKit

theorem all1_none : taint_Env_all_1_L1 none = some ([], ()) := by rw [taint_Env_all_1_L1]; rfl
theorem all1_some (x : taint_link) (l : List (Option taint_link)) (h : taint_Env_all_1_L1 x.ahead_ = some (l, ())) : taint_Env_all_1_L1 (some x) = some (some x :: l, ()) := by
  rw [taint_Env_all_1_L1]; simp [h]
theorem lookHit (e : taint_Env) (n : List UInt8) (x1 : taint_Env) (x : taint_link) (r : List (Option taint_link)) (h : x.name_ = n) : taint_Env_Look_L1 e n x1 (some x :: r) = some (.inr (x.t_.V.K, x.t_.V.S, x.t_.V.N, x.t_.V.B, x.t_.V.L, x.t_.Secret)) := by
  rw [taint_Env_Look_L1.eq_def]
  simp [h]
theorem awake30 : nunciolaw30_awake = some true := by
  have h1 := all1_some ⟨[97], ⟨⟨2, [], 1, false, []⟩, false⟩, none⟩ [] all1_none
  have h2 := all1_some ⟨[97], ⟨⟨2, [], 2, false, []⟩, true⟩, some ⟨[97], ⟨⟨2, [], 1, false, []⟩, false⟩, none⟩⟩ _ h1
  have w1 : wr (0 + 1) = 1 := by decide
  have w2 : wr (1 + 1) = 2 := by decide
  unfold nunciolaw30_awake
  simp only [taint_Env_With, taint_Env_Look, taint_Env_all, taint_Env_all_1, taint_Env_Len, bind_some', h1, h2, w1, w2, List.append_nil]
  have k1 := fun e x1 r => lookHit e [97] x1 ⟨[97], ⟨⟨2, [], 1, false, []⟩, false⟩, none⟩ r rfl
  have k2 := fun e x1 r => lookHit e [97] x1 ⟨[97], ⟨⟨2, [], 2, false, []⟩, true⟩, some ⟨[97], ⟨⟨2, [], 1, false, []⟩, false⟩, none⟩⟩ r rfl
  simp [k1, k2]

/-! ### one of some -/
def tOf (b : Bool) : taint_T := ⟨⟨0, [], 0, false, []⟩, b⟩
theorem anyIdx (l : List Bool) (hl : l.length ≤ 20) : ∀ i, i ≤ l.length → ∃ o, slices_IndexFunc_taint_T_taint_T_taint_Any_1_L1 (l.map tOf) i = some o ∧ (match o with | .inl _ => (l.drop i).any id = false | .inr j => 0 ≤ j ∧ (l.drop i).any id = true) := by
  refine upto ?_ fun i hi ih => ?_
  · rw [slices_IndexFunc_taint_T_taint_T_taint_Any_1_L1]
    exact ⟨.inl (), by simp, by simp⟩
  · rw [slices_IndexFunc_taint_T_taint_T_taint_Any_1_L1, wr_succ (by omega), dropE hi]
    obtain ⟨o, ho, hk⟩ := ih
    simp only [List.length_map, ltI, hi, decide_true, if_true, idx_nat, List.getElem?_map, getE hi, Option.map_some, bind_some', taint_Any_1, tOf, List.any_cons, id]
    cases l[i] with
    | true => exact ⟨.inr i, rfl, by simp⟩
    | false => simp only [Bool.false_eq_true, if_false, Bool.false_or]; exact ⟨o, ho, hk⟩
theorem anyIs (l : List Bool) (hl : l.length ≤ 20) : taint_Any (l.map tOf) = some (l.any id) := by
  rw [taint_Any, slices_ContainsFunc_taint_T_taint_T_taint_Any_1, slices_IndexFunc_taint_T_taint_T_taint_Any_1]
  obtain ⟨o, ho, hk⟩ := anyIdx l hl 0 (by omega)
  rw [show (0 : Int) = ((0 : Nat) : Int) from rfl, ho]
  rw [List.drop_zero] at hk
  cases o with
  | inl y => simp only [bind_some', hk]; rfl
  | inr j => simp only [bind_some', hk.2]; simp [hk.1]
theorem anyL (l : List Bool) (m : Nat) (hm : m = min l.length 20) : ∀ i, i ≤ m → nunciolaw30_TaintAny_L1 l ((l.take i).map tOf) ((l.take i).any id) i = some ((l.take m).map tOf, (l.take m).any id) := by
  have hmr : m = (List.range m).length := by simp
  intro i hi
  revert i
  rw [hmr]
  refine upto (φ := fun i => nunciolaw30_TaintAny_L1 l ((l.take i).map tOf) ((l.take i).any id) i = some ((l.take (List.range m).length).map tOf, (l.take (List.range m).length).any id)) ?_ fun i hi ih => ?_
  · rw [← hmr, nunciolaw30_TaintAny_L1]
    by_cases h1 : m < l.length
    · have h7 : m = 20 := by omega
      subst h7
      simp
    · simp [h1]
  · rw [← hmr] at hi ih ⊢
    have h1 : i < l.length := by omega
    have e2 : decide ((i : Int) < 20) = true := by simp; omega
    rw [nunciolaw30_TaintAny_L1, wr_succ (by omega)]
    simp only [ltI, h1, decide_true, if_true, e2, bind_some', idx_nat, getE h1]
    rw [appL_ok (by simp; omega) (by simp; omega), bind_some']
    rw [List.take_succ_eq_append_getElem h1, List.map_append, List.any_append] at ih
    simp only [List.map_cons, List.map_nil, List.any_cons, List.any_nil, Bool.or_false, id] at ih
    cases h : (l.take i).any id with
    | true =>
      rw [h, Bool.true_or] at ih
      simpa [tOf] using ih
    | false =>
      rw [h, Bool.false_or] at ih
      simpa [tOf] using ih
theorem lawAny (l : List Bool) : nunciolaw30_TaintAny l = some true := by
  unfold nunciolaw30_TaintAny
  have h := anyL l _ rfl 0 (by omega)
  simp only [List.take_zero, List.map_nil, List.any_nil] at h
  rw [show ((0 : Nat) : Int) = 0 from rfl] at h
  rw [h]
  simp only [bind_some', anyIs (l.take (min l.length 20)) (by simp; omega), beq_self_eq_true, if_true, awake30]

/-! ### parts -/
theorem tcpL {N : Nat} (IH : ∀ v, sz v ≤ N → few v → taint_copied v = some v) (v : api_Val) (hs : szs v.L ≤ N) (hf : fews v.L) (hb : v.L.length ≤ 65536) :
    ∀ i, i ≤ v.L.length → taint_copied_L1 v i (v.L.take i) = some v.L := by
  refine upto ?_ fun i hi ih => ?_
  · rw [taint_copied_L1]; simp
  · have hm := List.getElem_mem hi
    rw [taint_copied_L1, wr_succ (by omega)]
    simp only [ltI, hi, decide_true, if_true, idx_nat, getE hi, bind_some', IH v.L[i] (by have := sz_mem hm; omega) (fews_mem hf _ hm)]
    rw [appL_ok (by simp; omega) (by simp; omega), bind_some', ← List.take_succ_eq_append_getElem hi, ih]
theorem tcp_n : ∀ (N : Nat) (v : api_Val), sz v ≤ N → few v → taint_copied v = some v := by
  intro N
  induction N with
  | zero => intro v h; rw [sz_eq] at h; omega
  | succ N IH =>
    intro v hN hf
    obtain ⟨hl, hfs⟩ := (few_eq v).1 hf
    have := tcpL IH v (by rw [sz_eq] at hN; omega) hfs hl 0 (by omega)
    rw [taint_copied, show (0 : Int) = ((0 : Nat) : Int) from rfl]
    rw [List.take_zero] at this
    rw [this]
    simp
theorem tcp (v : api_Val) (h : few v) : taint_copied v = some v := tcp_n _ v (Nat.le_refl _) h
theorem tElemsL (t : taint_T) (h : few t.V) : ∀ i, i ≤ t.V.L.length → taint_Elems_L1 t ((t.V.L.take i).map fun v => ⟨v, t.Secret⟩) i = some (t.V.L.map fun v => ⟨v, t.Secret⟩) := by
  obtain ⟨hl, hfs⟩ := (few_eq _).1 h
  refine upto ?_ fun i hi ih => ?_
  · rw [taint_Elems_L1]; simp
  · have hm := List.getElem_mem hi
    rw [taint_Elems_L1, wr_succ (by omega)]
    simp only [ltI, hi, decide_true, if_true, idx_nat, getE hi, bind_some', tcp _ (fews_mem hfs _ hm)]
    rw [appL_ok (by simp; omega) (by simp; omega), bind_some']
    rw [List.take_succ_eq_append_getElem hi, List.map_append] at ih
    exact ih
theorem rElemsL (t : R30_T) (h : few t.V) : ∀ i, i ≤ t.V.L.length → R30_Elems_L1 t ((t.V.L.take i).map fun v => ⟨v, t.Secret⟩) i = some (t.V.L.map fun v => ⟨v, t.Secret⟩) := by
  obtain ⟨hl, hfs⟩ := (few_eq _).1 h
  refine upto ?_ fun i hi ih => ?_
  · rw [R30_Elems_L1]; simp
  · rw [R30_Elems_L1, wr_succ (by omega)]
    simp only [ltI, hi, decide_true, if_true, idx_nat, getE hi, bind_some']
    rw [appL_ok (by simp; omega) (by simp; omega), bind_some']
    rw [List.take_succ_eq_append_getElem hi, List.map_append] at ih
    exact ih
def elemsP (v : api_Val) : List api_Val := if (elemP v.K).2 && cnf v then v.L else []
theorem tElems (t : taint_T) (h : few t.V) : taint_Elems t = some ((elemsP t.V).map fun v => ⟨v, t.Secret⟩) := by
  have hL := tElemsL t h 0 (by omega)
  rw [List.take_zero, List.map_nil, show ((0 : Nat) : Int) = 0 from rfl] at hL
  unfold taint_Elems elemsP
  rw [kElem, sIs _ h, hL]
  cases he : (elemP t.V.K).2 with
  | false => simp [he]
  | true => cases hc : cnf t.V <;> simp [he]
theorem rElems (t : R30_T) (h : few t.V) : R30_Elems t = some ((elemsP t.V).map fun v => ⟨v, t.Secret⟩) := by
  have hL := rElemsL t h 0 (by omega)
  rw [List.take_zero, List.map_nil, show ((0 : Nat) : Int) = 0 from rfl] at hL
  unfold R30_Elems elemsP
  rw [rElem, rIs _ h, hL]
  cases he : (elemP t.V.K).2 with
  | false => simp [he]
  | true => cases hc : cnf t.V <;> simp [he]
theorem elemsP_few (v : api_Val) (h : few v) : fews (elemsP v) ∧ (elemsP v).length ≤ 65536 := by
  obtain ⟨hl, hfs⟩ := (few_eq v).1 h
  unfold elemsP
  split
  · exact ⟨hfs, hl⟩
  · exact ⟨fews_of fun x hx => by simp at hx, by simp⟩
theorem same30 (v : api_Val) (b : Bool) (h : few v) : R30_Same ⟨v, b⟩ ⟨v, b⟩ = some true := by
  unfold R30_Same
  simp [rSm v v h, sme_refl]
theorem partsL (p0 : R30_T) (x1 : api_Val) (x3 : taint_T × Bool) (x4 : R30_T × Bool) (l : List api_Val) (b : Bool) (hf : fews l) (hl : l.length ≤ 65536) :
    ∀ i, i ≤ l.length → nunciolaw30_TaintParts_L1 p0 x1 x3 x4 (l.map fun v => ⟨v, b⟩) (l.map fun v => ⟨v, b⟩) i = some (.inl ()) := by
  refine upto ?_ fun i hi ih => ?_
  · rw [nunciolaw30_TaintParts_L1]; simp
  · have hm := List.getElem_mem hi
    rw [nunciolaw30_TaintParts_L1, wr_succ (by omega)]
    simp only [List.length_map, ltI, hi, decide_true, if_true, idx_nat, List.getElem?_map, getE hi, Option.map_some, bind_some', nunciolaw30_its, same30 _ b (fews_mem hf _ hm), Bool.not_true, Bool.false_eq_true, if_false]
    exact ih
theorem getP_no (v : api_Val) (s : List UInt8) (h : (getP v s).2 = false) : (getP v s).1 = val0 := by
  unfold getP at h ⊢
  split
  · rename_i hc
    rw [if_pos hc] at h
    split
    · rename_i j hj; rw [hj] at h; cases h
    · rfl
  · rfl
theorem lawParts (t : R30_T) (s : List UInt8) : nunciolaw30_TaintParts t s = some true := by
  unfold nunciolaw30_TaintParts
  have hv := light_few 5 t.V
  have hg := getP_few (light 5 t.V) s hv
  obtain ⟨he, hel⟩ := elemsP_few (light 5 t.V) hv
  have hL := fun p0 x1 x3 x4 => partsL p0 x1 x3 x4 (elemsP (light 5 t.V)) t.Secret he hel 0 (by omega)
  rw [show ((0 : Nat) : Int) = 0 from rfl] at hL
  rw [light5]
  simp only [bind_some', nunciolaw30_mine, taint_Field, R30_Field, sGet _ _ hv, rGet _ _ hv, tElems ⟨light 5 t.V, t.Secret⟩ hv, rElems ⟨light 5 t.V, t.Secret⟩ hv, nunciolaw30_its]
  cases h : (getP (light 5 t.V) s).2 with
  | true => simp [same30 _ t.Secret hg, hL, awake30]
  | false =>
    rw [getP_no _ _ h]
    have := same30 val0 false few0
    simp only [val0] at this
    simp [val0, this, hL, awake30]
end Go.Proofs.Ytcegigccehapdaa
