/- Chapter 19 in plain terms: depth, number of nodes, templates. -/
import Derived.Test.YtlhjieapkcnghaaP19d
namespace Go.Proofs.Ytlhjieapkcnghaa
open Go.RowKit

/-! ### how deep, how many: by the loop over all -/
def maxD (l : List (api_Node × Int)) (m : Int) : Int := l.foldl (fun m x => if x.2 > m then x.2 else m) m
theorem maxD_app (a b : List (api_Node × Int)) (m : Int) : maxD (a ++ b) m = maxD b (maxD a m) := by unfold maxD; rw [List.foldl_append]
theorem tDeepL (x1 : List api_Node × Int) : ∀ (l : List (api_Node × Int)) (m : Int), tree_Deep_L1 x1 l m = some (maxD l m)
  | [], m => by rw [tree_Deep_L1]; rfl
  | x :: r, m => by rw [tree_Deep_L1, tDeepL x1 r]; rfl
theorem tCountL (x1 : List api_Node × Int) : ∀ (l : List (api_Node × Int)) (m : Nat), m + l.length < 9223372036854775807 → tree_Count_L1 x1 l m = some ((m + l.length : Nat) : Int)
  | [], m, _ => by rw [tree_Count_L1]; rfl
  | x :: r, m, h => by
    simp at h
    rw [tree_Count_L1, wr_succ (by omega), tCountL x1 r (m + 1) (by omega)]
    simp; omega
theorem tAll3 (p0 : List api_Node) (p1 v12 : Int) (x3 : api_Node) (v28 : Int) (x7 : List api_Node × Int) : ∀ l : List (api_Node × Int), tree_all_1_L3 p0 p1 v12 x3 v28 x7 l = some (l, ())
  | [] => by rw [tree_all_1_L3]
  | x :: r => by
    obtain ⟨⟨k, s, t, n, a, b, c⟩, d⟩ := x
    rw [tree_all_1_L3, tAll3 p0 p1 v12 x3 v28 x7 r]; rfl
/-- What the loop over all hands out. -/
def AllIs (d : Nat) (k dep : Nat) (o : Option (List (api_Node × Int) × Unit)) : Prop := ∃ out, o = some (out, ()) ∧ out.length = k ∧ ∀ m : Int, (d : Int) - 1 ≤ m → maxD out m = max m ((d : Int) - 1 + dep)
section
variable (n : Nat) (ih : ∀ (l : List api_Node) (d : Nat), nns l ≤ n → n + d ≤ 1000000000 → AllIs d (nns l) (dps l) (tree_all_1 l d))
include ih
theorem tAll2 (l : List api_Node) (d : Nat) (v : Int) (x : api_Node) (hx : nn x ≤ n + 1) (hd : n + 1 + d ≤ 1000000000) :
    AllIs (d + 1) (nns x.L + nns x.Then + nns x.Else) (max (dps x.L) (max (dps x.Then) (dps x.Else))) (tree_all_1_L2 l d v x 0) := by
  rw [nn_eq] at hx
  have ed : wr ((d : Int) + 1) = ((d + 1 : Nat) : Int) := wr_succ (by omega)
  obtain ⟨o1, a1, a2, a3⟩ := ih x.L (d + 1) (by omega) (by omega)
  obtain ⟨o2, b1, b2, b3⟩ := ih x.Then (d + 1) (by omega) (by omega)
  obtain ⟨o3, c1, c2, c3⟩ := ih x.Else (d + 1) (by omega) (by omega)
  have s3 : tree_all_1_L2 l d v x 3 = some ([], ()) := by rw [tree_all_1_L2]; rfl
  have s2 : tree_all_1_L2 l d v x 2 = some (o3 ++ [], ()) := by
    rw [tree_all_1_L2]
    have e : wr ((2 : Int) + 1) = 3 := by rw [wr_in (by omega) (by omega)]; rfl
    have g : idx ([x.L, x.Then, x.Else] : List (List api_Node)) 2 = some x.Else := idx_lit _ 2
    rw [g, e, s3]
    simp only [bind_some', tree_all, ed, c1, tAll3, show decide ((2 : Int) < 3) = true from rfl, if_true]
  have s1 : tree_all_1_L2 l d v x 1 = some (o2 ++ (o3 ++ []), ()) := by
    rw [tree_all_1_L2]
    have e : wr ((1 : Int) + 1) = 2 := by rw [wr_in (by omega) (by omega)]; rfl
    have g : idx ([x.L, x.Then, x.Else] : List (List api_Node)) 1 = some x.Then := idx_lit _ 1
    rw [g, e, s2]
    simp only [bind_some', tree_all, ed, b1, tAll3, show decide ((1 : Int) < 3) = true from rfl, if_true]
  have s0 : tree_all_1_L2 l d v x 0 = some (o1 ++ (o2 ++ (o3 ++ [])), ()) := by
    rw [tree_all_1_L2]
    have e : wr ((0 : Int) + 1) = 1 := by rw [wr_in (by omega) (by omega)]; rfl
    have g : idx ([x.L, x.Then, x.Else] : List (List api_Node)) 0 = some x.L := idx_lit _ 0
    rw [g, e, s1]
    simp only [bind_some', tree_all, ed, a1, tAll3, show decide ((0 : Int) < 3) = true from rfl, if_true]
  refine ⟨_, s0, by simp; omega, fun m hm => ?_⟩
  rw [List.append_nil, maxD_app, maxD_app, a3 m hm, b3 _ (by omega), c3 _ (by omega)]
  omega
theorem tAll1 (l : List api_Node) (d : Nat) (hl : nns l ≤ n + 1) (hd : n + 1 + d ≤ 1000000000) : ∀ k, k ≤ l.length → AllIs d (nns (l.drop k)) (dps (l.drop k)) (tree_all_1_L1 l d k) := by
  have hlen := nns_len l
  refine upto ?_ fun k hk ihk => ?_
  · rw [tree_all_1_L1, List.drop_length]
    refine ⟨[], by simp, by simp [nns], fun m hm => ?_⟩
    simp [maxD, dps]; omega
  · have hx := nns_mem (List.getElem_mem hk)
    obtain ⟨o1, a1, a2, a3⟩ := tAll2 n ih l d k l[k] (by omega) hd
    obtain ⟨o2, b1, b2, b3⟩ := ihk
    rw [tree_all_1_L1, wr_succ (by omega)]
    simp only [ltI, hk, decide_true, if_true, idx_nat, getE hk, bind_some', a1, b1]
    rw [dropE hk]
    refine ⟨_, rfl, ?_, fun m hm => ?_⟩
    · simp [nns, nn_eq, a2, b2]; omega
    · show maxD ([(l[k], (d : Int))] ++ (o1 ++ o2)) m = _
      have e0 : maxD [(l[k], (d : Int))] m = max m d := by
        show (if (d : Int) > m then (d : Int) else m) = _
        split <;> omega
      rw [maxD_app, maxD_app, e0, a3 _ (by omega), b3 _ (by omega), dps, dp_eq]
      omega
end
theorem tAll : ∀ n (l : List api_Node) (d : Nat), nns l ≤ n → n + d ≤ 1000000000 → AllIs d (nns l) (dps l) (tree_all_1 l d) := by
  intro n
  induction n with
  | zero =>
    intro l d h _
    have hl : l = [] := List.eq_nil_of_length_eq_zero (by have := nns_len l; omega)
    subst hl
    rw [tree_all_1, tree_all_1_L1]
    refine ⟨[], by simp, by simp [nns], fun m hm => ?_⟩
    simp [maxD, dps]; omega
  | succ n ih =>
    intro l d h hd
    obtain ⟨o, a1, a2, a3⟩ := tAll1 n ih l d h hd 0 (by omega)
    rw [List.drop_zero] at a2 a3
    refine ⟨o, ?_, a2, a3⟩
    rw [tree_all_1, show (0 : Int) = ((0 : Nat) : Int) from rfl, a1]
    simp
theorem tDeep (l : List api_Node) (h : nns l ≤ 900000000) : tree_Deep l = some (dps l : Int) := by
  obtain ⟨o, a1, a2, a3⟩ := tAll 900000000 l 1 h (by omega)
  rw [tree_Deep, tree_all]
  simp only [bind_some']
  rw [show (1 : Int) = ((1 : Nat) : Int) from rfl, a1]
  simp only [bind_some', tDeepL]
  rw [a3 0 (by omega)]
  congr 1
  omega
theorem tCount (l : List api_Node) (h : nns l ≤ 900000000) : tree_Count l = some (nns l : Int) := by
  obtain ⟨o, a1, a2, a3⟩ := tAll 900000000 l 1 h (by omega)
  have := tCountL (l, ((1 : Nat) : Int)) o 0 (by omega)
  rw [tree_Count, tree_all]
  simp only [bind_some']
  rw [show (1 : Int) = ((1 : Nat) : Int) from rfl, a1]
  simp only [bind_some']
  rw [show (0 : Int) = ((0 : Nat) : Int) from rfl, this]
  simp [a2]
/-! ### the reference's -/
theorem dps_le : ∀ m (l : List api_Node), nns l ≤ m → dps l ≤ nns l := by
  intro m
  induction m with
  | zero =>
    intro l h
    have hl : l = [] := List.eq_nil_of_length_eq_zero (by have := nns_len l; omega)
    subst hl; simp [dps]
  | succ m ihm =>
    intro l
    induction l with
    | nil => intro _; simp [dps]
    | cons x r ihr =>
      intro h
      rw [nns, nn_eq] at h
      have h1 := ihm x.L (by omega)
      have h2 := ihm x.Then (by omega)
      have h3 := ihm x.Else (by omega)
      have h4 := ihr (by omega)
      rw [dps, dp_eq, nns, nn_eq]
      omega
section
variable (n : Nat) (hn : n ≤ 900000000) (ih : ∀ l : List api_Node, nns l ≤ n → R19_Deep l = some (dps l : Int) ∧ R19_Count l = some (nns l : Int))
include hn ih
theorem rDeepL (l : List api_Node) (h : nns l ≤ n + 1) : ∀ k, k ≤ l.length → ∀ v : Nat, v ≤ 1000000000 → R19_Deep_L1 l v k = some ((max v (dps (l.drop k)) : Nat) : Int) := by
  have hl := nns_len l
  refine upto ?_ fun k hk ihk => ?_
  · intro v _; rw [R19_Deep_L1]; simp [dps]
  · intro v hv
    have hx := nns_mem (List.getElem_mem hk)
    rw [nn_eq] at hx
    have d1 := dps_le _ l[k].L (Nat.le_refl _)
    have d2 := dps_le _ l[k].Then (Nat.le_refl _)
    have d3 := dps_le _ l[k].Else (Nat.le_refl _)
    have em : (if (dps l[k].Else : Int) > (if (dps l[k].Then : Int) > (dps l[k].L : Int) then (dps l[k].Then : Int) else (dps l[k].L : Int)) then (dps l[k].Else : Int) else (if (dps l[k].Then : Int) > (dps l[k].L : Int) then (dps l[k].Then : Int) else (dps l[k].L : Int))) = ((max (dps l[k].L) (max (dps l[k].Then) (dps l[k].Else)) : Nat) : Int) := by
      split <;> split at * <;> omega
    rw [R19_Deep_L1, wr_succ (by omega)]
    simp only [ltI, hk, decide_true, if_true, idx_nat, getE hk, bind_some', (ih l[k].L (by omega)).1, (ih l[k].Then (by omega)).1, (ih l[k].Else (by omega)).1]
    rw [em]
    have ew : wr (1 + ((max (dps l[k].L) (max (dps l[k].Then) (dps l[k].Else)) : Nat) : Int)) = ((dp l[k] : Nat) : Int) := by
      rw [wr_in (by omega) (by omega), dp_eq]; omega
    rw [ew]
    have ei : (if ((dp l[k] : Nat) : Int) > (v : Int) then ((dp l[k] : Nat) : Int) else (v : Int)) = ((max v (dp l[k]) : Nat) : Int) := by split <;> omega
    have hdp : dp l[k] ≤ 1000000000 := by rw [dp_eq]; omega
    rw [ei, ihk (max v (dp l[k])) (by omega), dropE hk, dps]
    congr 2
    omega
theorem rCountL (l : List api_Node) (h : nns l ≤ n + 1) : ∀ k, k ≤ l.length → ∀ v : Nat, v + nns (l.drop k) ≤ 1000000000 → R19_Count_L1 l v k = some ((v + nns (l.drop k) : Nat) : Int) := by
  have hl := nns_len l
  refine upto ?_ fun k hk ihk => ?_
  · intro v _; rw [R19_Count_L1]; simp [nns]
  · intro v hv
    have hx := nns_mem (List.getElem_mem hk)
    rw [nn_eq] at hx
    rw [dropE hk, nns, nn_eq] at hv
    rw [R19_Count_L1, wr_succ (i := k) (by omega)]
    simp only [ltI, hk, decide_true, if_true, idx_nat, getE hk, bind_some', (ih l[k].L (by omega)).2, (ih l[k].Then (by omega)).2, (ih l[k].Else (by omega)).2]
    have ew : wr ((wr ((wr ((wr ((v : Int) + 1)) + (nns l[k].L : Int))) + (nns l[k].Then : Int))) + (nns l[k].Else : Int)) = ((v + nn l[k] : Nat) : Int) := by
      rw [wr_in (n := (v : Int) + 1) (by omega) (by omega), wr_in (n := (v : Int) + 1 + (nns l[k].L : Int)) (by omega) (by omega), wr_in (n := (v : Int) + 1 + (nns l[k].L : Int) + (nns l[k].Then : Int)) (by omega) (by omega), wr_in (by omega) (by omega), nn_eq]
      omega
    rw [ew, ihk (v + nn l[k]) (by rw [nn_eq]; omega), dropE hk, nns]
    congr 2
    omega
end
theorem rDC : ∀ n (l : List api_Node), n ≤ 900000000 → nns l ≤ n → R19_Deep l = some (dps l : Int) ∧ R19_Count l = some (nns l : Int) := by
  intro n
  induction n with
  | zero =>
    intro l _ h
    have hl : l = [] := List.eq_nil_of_length_eq_zero (by have := nns_len l; omega)
    subst hl
    rw [R19_Deep, R19_Count, R19_Deep_L1, R19_Count_L1]
    simp [dps, nns]
  | succ n ih =>
    intro l hn h
    have h1 := rDeepL n (by omega) (fun l hl => ih l (by omega) hl) l h 0 (by omega) 0 (by omega)
    have h2 := rCountL n (by omega) (fun l hl => ih l (by omega) hl) l h 0 (by omega) 0 (by rw [List.drop_zero]; omega)
    rw [R19_Deep, R19_Count, show (0 : Int) = ((0 : Nat) : Int) from rfl, h1, h2]
    simp
noncomputable def isP (l : List api_Node) : Bool := decide (dps l ≤ 12) && (decide (nns l ≤ 1024) && blockP l false)
theorem tIs (l : List api_Node) (h : nns l ≤ 800000000) (ho : allL okT l) : tree_Is l = some (isP l) := by
  have e1 : decide ((dps l : Int) ≤ 12) = decide (dps l ≤ 12) := leN _ 12
  have e2 : decide ((nns l : Int) ≤ 1024) = decide (nns l ≤ 1024) := leN _ 1024
  have hb := tBlock 800000000 (by omega) (fun x hx => tStmt 800000000 x (by omega) hx) l h ho true
  rw [tree_Is, tDeep l (by omega), tCount l (by omega), hb, isP]
  simp only [bind_some', e1, e2]
  cases decide (dps l ≤ 12) <;> cases decide (nns l ≤ 1024) <;> rfl
theorem rIs (l : List api_Node) (h : nns l ≤ 800000000) (ho : allL okT l) : R19_Is l = some (isP l) := by
  have e1 : decide ((dps l : Int) ≤ 12) = decide (dps l ≤ 12) := leN _ 12
  have e2 : decide ((nns l : Int) ≤ 1024) = decide (nns l ≤ 1024) := leN _ 1024
  have hb := rBlock 800000000 (by omega) (fun x hx => rStmt 800000000 x (by omega) hx) l h ho false
  obtain ⟨hd, hc⟩ := rDC 800000000 l (by omega) h
  rw [R19_Is, hd, hc, hb, isP]
  simp only [bind_some', e1, e2]
  cases decide (dps l ≤ 12) <;> cases decide (nns l ≤ 1024) <;> cases blockP l false <;> rfl
end Go.Proofs.Ytlhjieapkcnghaa
