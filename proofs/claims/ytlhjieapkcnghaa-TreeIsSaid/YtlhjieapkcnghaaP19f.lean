/- Chapter 19 in plain terms: how templates are written. -/
import Derived.Test.YtlhjieapkcnghaaP19e
namespace Go.Proofs.Ytlhjieapkcnghaa
open Go.RowKit

theorem s2b_app (a b : List UInt8) : s2b (a ++ b) = s2b a ++ s2b b := by simp [s2b]
theorem s2b_len (a : List UInt8) : (s2b a).length = a.length := by simp [s2b]
theorem b2s_s2b (l : List UInt8) : b2s (s2b l) = some l := by
  unfold b2s s2b
  rw [if_pos]
  · rw [List.map_map]
    congr 1
    have : ∀ c : UInt8, ((fun n : Int => UInt8.ofNat n.toNat) ∘ fun c : UInt8 => (c.toNat : Int)) c = c := fun c => by simp
    rw [show ((fun n : Int => UInt8.ofNat n.toNat) ∘ fun c : UInt8 => (c.toNat : Int)) = id from funext this, List.map_id]
  · rw [List.all_eq_true]
    intro n hn
    obtain ⟨c, -, rfl⟩ := List.mem_map.1 hn
    have := c.toNat_lt
    simp only [decide_eq_true_eq]
    omega
/-- What a writer does: it puts bytes behind those that are there. -/
def Puts (w : List UInt8) (acc : List Int) (o : Option (Bool × List Int)) : Prop := ∃ f, o = some (f, acc ++ s2b w)
abbrev room : Nat := 100000000000
theorem wrStr (p : List UInt8) (f : Bool) (acc : List Int) (h : acc.length + p.length ≤ room) : strings_Builder_WriteString_2 p f acc = some ((p.length : Int), (), true, acc ++ s2b p) := by
  have hroom : room = 100000000000 := rfl
  rw [strings_Builder_WriteString_2, strings_Builder_copyCheck_2, appL_ok (by rw [s2b_len]; omega) (by rw [s2b_len]; omega)]
  rfl
theorem putL (l : List (List UInt8)) (hl : l.length < 1000) : ∀ k, k ≤ l.length → ∀ f acc, acc.length + (l.drop k).flatten.length ≤ room → Puts (l.drop k).flatten acc (tree_printer_put_2_L1 l k f acc) := by
  refine upto ?_ fun k hk ih => ?_
  · intro f acc _
    rw [tree_printer_put_2_L1]
    exact ⟨f, by simp [s2b]⟩
  · intro f acc h
    rw [dropE hk, List.flatten_cons, List.length_append] at h
    rw [tree_printer_put_2_L1, wr_succ (by omega)]
    simp only [ltI, hk, decide_true, if_true, idx_nat, getE hk, bind_some', wrStr l[k] f acc (by omega)]
    obtain ⟨f', hf⟩ := ih true (acc ++ s2b l[k]) (by rw [List.length_append, s2b_len]; omega)
    refine ⟨f', ?_⟩
    rw [hf, dropE hk, List.flatten_cons, s2b_app, List.append_assoc]
theorem put (l : List (List UInt8)) (hl : l.length < 1000) (f : Bool) (acc : List Int) (h : acc.length + l.flatten.length ≤ room) : Puts l.flatten acc (tree_printer_put_2 l f acc) := by
  obtain ⟨f', hf⟩ := putL l hl 0 (by omega) f acc (by rw [List.drop_zero]; exact h)
  rw [List.drop_zero] at hf
  rw [tree_printer_put_2, show (0 : Int) = ((0 : Nat) : Int) from rfl, hf]
  exact ⟨f', rfl⟩
theorem Puts.seq {w1 w2 : List UInt8} {acc : List Int} {o : Option (Bool × List Int)} {g : Bool × List Int → Option (Bool × List Int)} (h : Puts w1 acc o) (k : ∀ f, Puts w2 (acc ++ s2b w1) (g (f, acc ++ s2b w1))) : Puts (w1 ++ w2) acc (o >>= g) := by
  obtain ⟨f, rfl⟩ := h
  obtain ⟨f', hf⟩ := k f
  refine ⟨f', ?_⟩
  rw [bind_some', hf, s2b_app, List.append_assoc]
theorem Puts.ret {w : List UInt8} {acc : List Int} {o : Option (Bool × List Int)} (h : Puts w acc o) : Puts w acc (o >>= fun x => some (x.1, x.2)) := by
  obtain ⟨f, rfl⟩ := h
  exact ⟨f, rfl⟩
/-! ### expressions -/
mutual
noncomputable def exprW : api_Node → List UInt8
  | ⟨k, s, t, n, a, _, _⟩ =>
    if k == 1 then (quoteP t).1 else
    if k == 2 then textL n else
    if k == 3 then (if n == 1 then [116, 114, 117, 101] else [102, 97, 108, 115, 101]) else
    if k == 4 then s else
    if k == 7 then [115, 101, 99, 114, 101, 116, 40, 34] ++ (s ++ [34, 41]) else
    if k == 5 then headW a ++ ([46] ++ s) else
    if k == 6 then (s ++ [40]) ++ (argsW a false ++ [41]) else []
noncomputable def headW : List api_Node → List UInt8
  | [] => []
  | x :: _ => exprW x
noncomputable def argsW : List api_Node → Bool → List UInt8
  | [], _ => []
  | x :: r, more => (if more then [44, 32] else []) ++ (exprW x ++ argsW r true)
end
theorem exprW_eq (x : api_Node) : exprW x =
    if x.Kind == 1 then (quoteP x.Text).1 else
    if x.Kind == 2 then textL x.N else
    if x.Kind == 3 then (if x.N == 1 then [116, 114, 117, 101] else [102, 97, 108, 115, 101]) else
    if x.Kind == 4 then x.Name else
    if x.Kind == 7 then [115, 101, 99, 114, 101, 116, 40, 34] ++ (x.Name ++ [34, 41]) else
    if x.Kind == 5 then headW x.L ++ ([46] ++ x.Name) else
    if x.Kind == 6 then (x.Name ++ [40]) ++ (argsW x.L false ++ [41]) else [] := by cases x; rw [exprW]
section
variable (n : Nat) (ih : ∀ (x : api_Node) (f : Bool) (acc : List Int), nn x ≤ n → allN okT x → exprP x = true → acc.length + (exprW x).length ≤ room → Puts (exprW x) acc (tree_printer_expr_2 x f acc))
include ih
theorem putArgs (p : api_Node) (h : nns p.L ≤ n) (ho : allL okT p.L) (hl : p.L.length < 9223372036854775807) : ∀ k, k ≤ p.L.length → exprsP (p.L.drop k) = true → ∀ f acc, acc.length + (argsW (p.L.drop k) (decide (0 < k))).length ≤ room →
    Puts (argsW (p.L.drop k) (decide (0 < k))) acc (tree_printer_expr_2_L1 p k f acc) := by
  refine upto ?_ fun k hk ihk => ?_
  · intro _ f acc _
    rw [tree_printer_expr_2_L1, List.drop_length]
    exact ⟨f, by simp [argsW, s2b]⟩
  · intro he f acc hr
    rw [dropE hk, exprsP, Bool.and_eq_true] at he
    rw [dropE hk, argsW, List.length_append, List.length_append] at hr
    have hx := nns_mem (List.getElem_mem hk)
    have hxo := allL_mem (List.getElem_mem hk) ho
    have e1 : decide (0 < k + 1) = true := decide_eq_true (by omega)
    rw [e1] at ihk
    rw [tree_printer_expr_2_L1, wr_succ (by omega), dropE hk, argsW]
    simp only [ltI, hk, decide_true, if_true, idx_nat, getE hk, bind_some']
    have e2 : decide ((k : Int) > 0) = decide (0 < k) := by
      by_cases h0 : 0 < k
      · rw [decide_eq_true h0, decide_eq_true (by omega)]
      · rw [decide_eq_false h0, decide_eq_false (by omega)]
    rw [e2]
    cases hd : decide (0 < k) with
    | false =>
      rw [hd] at hr
      simp only [Bool.false_eq_true, if_false, List.nil_append, List.length_nil] at hr ⊢
      exact (ih p.L[k] f acc (by omega) hxo he.1 (by omega)).seq fun f' => ihk he.2 f' _ (by rw [List.length_append, s2b_len]; omega)
    | true =>
      rw [hd] at hr
      simp only [if_true, List.length_cons, List.length_nil] at hr ⊢
      refine (put [[44, 32]] (by decide) f acc (by simp; omega)).seq fun f' => ?_
      refine (ih p.L[k] f' _ (by omega) hxo he.1 (by rw [List.length_append, s2b_len]; simp; omega)).seq fun f'' => ihk he.2 f'' _ (by simp only [List.length_append, s2b_len]; simp; omega)
end
theorem putExpr : ∀ n (x : api_Node) (f : Bool) (acc : List Int), n ≤ 900000000 → nn x ≤ n → allN okT x → exprP x = true → acc.length + (exprW x).length ≤ room → Puts (exprW x) acc (tree_printer_expr_2 x f acc) := by
  intro n
  induction n with
  | zero => intro x f acc _ h; have := nn_pos x; omega
  | succ n ih =>
    intro x f acc hn h ho he hr
    rw [nn_eq] at h
    obtain ⟨hq, ho1, -, -⟩ := (allN_eq okT x).1 ho
    rw [exprW_eq] at hr ⊢
    rw [exprP_eq] at he
    rw [tree_printer_expr_2]
    have one : ∀ w : List UInt8, acc.length + w.length ≤ room → Puts w acc (tree_printer_put_2 [w] f acc >>= fun x => some (x.1, x.2)) := fun w hw => by
      have := put [w] (by simp) f acc (by simpa using hw)
      rw [List.flatten_cons, List.flatten_nil, List.append_nil] at this
      exact this.ret
    by_cases k1 : x.Kind = 1
    · obtain ⟨q, q1, q2⟩ := hq.qt k1
      simp only [k1, beq_self_eq_true, if_true] at hr ⊢
      have e : quoteP x.Text = q := by rw [quoteP, q1]; rfl
      rw [q1, bind_some']
      rw [e] at hr ⊢
      exact one q.1 hr
    have b1 : (x.Kind == 1) = false := beq_eq_false_iff_ne.2 k1
    simp only [b1, Bool.false_eq_true, if_false] at hr he ⊢
    by_cases k2 : x.Kind = 2
    · simp only [k2, beq_self_eq_true, if_true] at hr ⊢
      rw [octet_Text, need_ok hq.rg.1, bind_some', need_ok hq.rg.2, bind_some', bind_some']
      exact one _ hr
    have b2 : (x.Kind == 2) = false := beq_eq_false_iff_ne.2 k2
    simp only [b2, Bool.false_eq_true, if_false] at hr he ⊢
    by_cases k3 : x.Kind = 3
    · simp only [k3, beq_self_eq_true, if_true] at hr ⊢
      cases hN : (x.N == 1) with
      | true => rw [hN] at hr; exact one _ hr
      | false => rw [hN] at hr; exact one _ hr
    have b3 : (x.Kind == 3) = false := beq_eq_false_iff_ne.2 k3
    simp only [b3, Bool.false_eq_true, if_false] at hr he ⊢
    by_cases k4 : x.Kind = 4
    · simp only [k4, beq_self_eq_true, if_true] at hr ⊢
      exact one _ hr
    have b4 : (x.Kind == 4) = false := beq_eq_false_iff_ne.2 k4
    simp only [b4, Bool.false_eq_true, if_false] at hr he ⊢
    by_cases k7 : x.Kind = 7
    · simp only [k7, beq_self_eq_true, if_true] at hr ⊢
      have := put [[115, 101, 99, 114, 101, 116, 40, 34], x.Name, [34, 41]] (by simp) f acc (by simpa using hr)
      simp only [List.flatten_cons, List.flatten_nil, List.append_nil] at this
      exact this.ret
    have b7 : (x.Kind == 7) = false := beq_eq_false_iff_ne.2 k7
    simp only [b7, Bool.false_eq_true, if_false] at hr he ⊢
    by_cases k5 : x.Kind = 5
    · simp only [k5, beq_self_eq_true, if_true, Bool.and_eq_true] at hr he ⊢
      obtain ⟨-, hl, hex, -⟩ := he
      obtain ⟨y, hy⟩ := List.length_eq_one_iff.1 (by simpa using hl : x.L.length = 1)
      have hy1 : nn y ≤ n := by have := nns_mem (show y ∈ x.L by rw [hy]; simp); omega
      have hy2 : allN okT y := allL_mem (show y ∈ x.L by rw [hy]; simp) ho1
      have hy3 : exprP y = true := by rw [hy, exprsP, Bool.and_eq_true] at hex; exact hex.1
      rw [hy, headW, List.length_append] at hr
      rw [hy, headW]
      simp only [idx_0, List.getElem?_cons_zero, bind_some']
      refine (ih y f acc (by omega) hy1 hy2 hy3 (by omega)).seq fun f' => ?_
      have := put [[46], x.Name] (by simp) f' (acc ++ s2b (exprW y)) (by rw [List.length_append, s2b_len]; simp at hr ⊢; omega)
      simp only [List.flatten_cons, List.flatten_nil, List.append_nil] at this
      exact this.ret
    have b5 : (x.Kind == 5) = false := beq_eq_false_iff_ne.2 k5
    simp only [b5, Bool.false_eq_true, if_false] at hr he ⊢
    by_cases k6 : x.Kind = 6
    · simp only [k6, beq_self_eq_true, if_true, Bool.and_eq_true] at hr he ⊢
      obtain ⟨-, -, hex, -⟩ := he
      have hll := nns_len x.L
      rw [List.length_append, List.length_append, List.length_append] at hr
      simp only [List.length_cons, List.length_nil] at hr
      have p1 := put [x.Name, [40]] (by simp) f acc (by simp; omega)
      simp only [List.flatten_cons, List.flatten_nil, List.append_nil] at p1
      refine p1.seq fun f' => ?_
      have p2 := putArgs n (fun y f acc => ih y f acc (by omega)) x (by omega) ho1 (by omega) 0 (by omega) (by rw [List.drop_zero]; exact hex) f' (acc ++ s2b (x.Name ++ [40])) (by
        rw [List.length_append, s2b_len, List.drop_zero, List.length_append]
        simp only [List.length_cons, List.length_nil, show decide (0 < 0) = false from rfl]
        omega)
      rw [List.drop_zero] at p2
      refine Puts.seq (w1 := argsW x.L false) p2 fun f'' => ?_
      have p3 := put [[41]] (by simp) f'' (acc ++ s2b (x.Name ++ [40]) ++ s2b (argsW x.L false)) (by
        simp only [List.length_append, s2b_len, List.length_cons, List.length_nil, List.flatten_cons, List.flatten_nil]
        omega)
      simp only [List.flatten_cons, List.flatten_nil, List.append_nil] at p3
      exact p3.ret
    have b6 : (x.Kind == 6) = false := beq_eq_false_iff_ne.2 k6
    simp only [b6, Bool.false_eq_true, if_false] at he
end Go.Proofs.Ytlhjieapkcnghaa
