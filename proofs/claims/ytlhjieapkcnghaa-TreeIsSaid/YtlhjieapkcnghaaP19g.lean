/- Chapter 19 in plain terms: how templates are written; the laws. -/
import Derived.Test.YtlhjieapkcnghaaP19f
namespace Go.Proofs.Ytlhjieapkcnghaa
open Go.RowKit

/-- The words of an action. -/
def wordsW (k : Int) (s : List UInt8) : List UInt8 :=
  if k == 9 then [] else if k == 13 then ([117, 115, 101, 32] ++ s) ++ [32] else if k == 10 then [105, 102, 32] else if k == 11 then ([101, 97, 99, 104, 32] ++ s) ++ [32, 105, 110, 32] else ([108, 101, 116, 32] ++ s) ++ [32, 61, 32]
noncomputable def actW (k : Int) (s : List UInt8) (a : List api_Node) : List UInt8 := ([123, 123, 32] ++ wordsW k s) ++ (headW a ++ [32, 125, 125])
mutual
noncomputable def stmtW : api_Node → List UInt8
  | ⟨k, s, t, _, a, b, c⟩ =>
    if k == 8 then t else
    if k == 9 || k == 13 then actW k s a else
    actW k s a ++ (blockW b ++ ((if zl c then [] else [123, 123, 32, 101, 108, 115, 101, 32, 125, 125] ++ blockW c) ++ [123, 123, 32, 101, 110, 100, 32, 125, 125]))
noncomputable def blockW : List api_Node → List UInt8
  | [] => []
  | x :: r => stmtW x ++ blockW r
end
theorem stmtW_eq (x : api_Node) : stmtW x =
    if x.Kind == 8 then x.Text else
    if x.Kind == 9 || x.Kind == 13 then actW x.Kind x.Name x.L else
    actW x.Kind x.Name x.L ++ (blockW x.Then ++ ((if zl x.Else then [] else [123, 123, 32, 101, 108, 115, 101, 32, 125, 125] ++ blockW x.Else) ++ [123, 123, 32, 101, 110, 100, 32, 125, 125])) := by cases x; rw [stmtW]
theorem putAct (n : Nat) (hn : n ≤ 900000000) (w : List UInt8) (y : api_Node) (hy : nn y ≤ n) (ho : allN okT y) (he : exprP y = true) (f : Bool) (acc : List Int) (hr : acc.length + (([123, 123, 32] ++ w) ++ (exprW y ++ [32, 125, 125])).length ≤ room) :
    Puts (([123, 123, 32] ++ w) ++ (exprW y ++ [32, 125, 125])) acc (tree_printer_action_2 w y f acc) := by
  simp only [List.length_append, List.length_cons, List.length_nil] at hr
  rw [tree_printer_action_2]
  have p1 := put [[123, 123, 32], w] (by simp) f acc (by simp; omega)
  simp only [List.flatten_cons, List.flatten_nil, List.append_nil] at p1
  refine p1.seq fun f' => ?_
  refine (putExpr n y f' _ hn hy ho he (by simp only [List.length_append, s2b_len, List.length_cons, List.length_nil]; omega)).seq fun f'' => ?_
  have p3 := put [[32, 125, 125]] (by simp) f'' (acc ++ s2b ([123, 123, 32] ++ w) ++ s2b (exprW y)) (by simp only [List.length_append, s2b_len, List.length_cons, List.length_nil, List.flatten_cons, List.flatten_nil]; omega)
  simp only [List.flatten_cons, List.flatten_nil, List.append_nil] at p3
  exact p3.ret
/-- What one statement's round does: how it goes on. -/
theorem putStmt (n : Nat) (hn : n ≤ 800000000) (x : api_Node) (hx : nn x ≤ n + 1) (ho : allN okT x) (hs : stmtP x = true) (f : Bool) (acc : List Int) (hr : acc.length + (stmtW x).length ≤ room)
    (ih : ∀ (l : List api_Node) (b : Bool) (f : Bool) (acc : List Int), nns l ≤ n → allL okT l → blockP l b = true → acc.length + (blockW l).length ≤ room → Puts (blockW l) acc (tree_printer_block_2 l f acc))
    (g : Bool → List Int → Option (Bool × List Int)) {w : List UInt8} (k : ∀ f, Puts w (acc ++ s2b (stmtW x)) (g f (acc ++ s2b (stmtW x)))) :
    Puts (stmtW x ++ w) acc (( if (x.Kind == 8) then
        tree_printer_put_2 [x.Text] f acc >>= fun x6 =>
        some (.inr (x6.1, x6.2))
      else
        if (x.Kind == 9) then
          idx x.L 0 >>= fun x7 =>
          tree_printer_action_2 [] x7 f acc >>= fun x8 =>
          some (.inr (x8.1, x8.2))
        else
          if (x.Kind == 13) then
            need ([117, 115, 101, 32].length + x.Name.length ≤ 9223372036854775807) >>= fun _ =>
            need (([117, 115, 101, 32] ++ x.Name).length + [32].length ≤ 9223372036854775807) >>= fun _ =>
            idx x.L 0 >>= fun x9 =>
            tree_printer_action_2 (([117, 115, 101, 32] ++ x.Name) ++ [32]) x9 f acc >>= fun x10 =>
            some (.inr (x10.1, x10.2))
          else
            if (x.Kind == 10) then
              idx x.L 0 >>= fun x11 =>
              tree_printer_action_2 [105, 102, 32] x11 f acc >>= fun x12 =>
              some (.inl (x12.1, x12.2))
            else
              if (x.Kind == 11) then
                need ([101, 97, 99, 104, 32].length + x.Name.length ≤ 9223372036854775807) >>= fun _ =>
                need (([101, 97, 99, 104, 32] ++ x.Name).length + [32, 105, 110, 32].length ≤ 9223372036854775807) >>= fun _ =>
                idx x.L 0 >>= fun x13 =>
                tree_printer_action_2 (([101, 97, 99, 104, 32] ++ x.Name) ++ [32, 105, 110, 32]) x13 f acc >>= fun x14 =>
                some (.inl (x14.1, x14.2))
              else
                if (x.Kind == 12) then
                  need ([108, 101, 116, 32].length + x.Name.length ≤ 9223372036854775807) >>= fun _ =>
                  need (([108, 101, 116, 32] ++ x.Name).length + [32, 61, 32].length ≤ 9223372036854775807) >>= fun _ =>
                  idx x.L 0 >>= fun x15 =>
                  tree_printer_action_2 (([108, 101, 116, 32] ++ x.Name) ++ [32, 61, 32]) x15 f acc >>= fun x16 =>
                  some (.inl (x16.1, x16.2))
                else
                  some (.inl (f, acc)) : Option ((Bool × (List Int)) ⊕ (Bool × (List Int)))) >>= fun o3 =>
    match o3 with
    | .inl y4 =>
      tree_printer_block_2 x.Then y4.1 y4.2 >>= fun x17 =>
      ( if (decide ((x.Else.length : Int) > 0)) then
          tree_printer_put_2 ([[123, 123, 32, 101, 108, 115, 101, 32, 125, 125]]) x17.1 x17.2 >>= fun x19 =>
          tree_printer_block_2 x.Else x19.1 x19.2 >>= fun x20 =>
          some (x20.1, x20.2)
        else
          some (x17.1, x17.2) : Option ((Bool × (List Int)))) >>= fun o18 =>
      tree_printer_put_2 ([[123, 123, 32, 101, 110, 100, 32, 125, 125]]) o18.1 o18.2 >>= fun x21 =>
      g x21.1 x21.2
    | .inr y5 =>
      g y5.1 y5.2) := by
  rw [nn_eq] at hx
  obtain ⟨hq, ho1, ho2, ho3⟩ := (allN_eq okT x).1 ho
  have hnm := hq.nm
  by_cases k8 : x.Kind = 8
  · rw [stmtW_eq] at hr k ⊢
    simp only [k8, beq_self_eq_true, if_true] at hr k ⊢
    have p1 := put [x.Text] (by simp) f acc (by simpa using hr)
    simp only [List.flatten_cons, List.flatten_nil, List.append_nil] at p1
    obtain ⟨f', hf⟩ := p1
    obtain ⟨f'', hg⟩ := k f'
    refine ⟨f'', ?_⟩
    rw [hf]
    simp only [bind_some', hg, s2b_app, List.append_assoc]
  have b8 : (x.Kind == 8) = false := beq_eq_false_iff_ne.2 k8
  rw [stmtP_eq] at hs
  simp only [b8, Bool.false_eq_true, if_false] at hs
  -- the one expression
  have hone : ∃ y, x.L = [y] ∧ exprP y = true := by
    have : (x.L.length == 1 && exprsP x.L) = true := by
      revert hs
      generalize (x.L.length == 1 && exprsP x.L) = b
      cases b with
      | true => intro _; rfl
      | false =>
        cases (x.Kind == 9) <;> cases (x.Kind == 10) <;> cases (x.Kind == 11 || x.Kind == 12) <;> cases (x.Kind == 13) <;> cases nameP x.Name <;> intro h <;> first | cases h | simp at h
    rw [Bool.and_eq_true] at this
    obtain ⟨y, hy⟩ := List.length_eq_one_iff.1 (by simpa using this.1 : x.L.length = 1)
    refine ⟨y, hy, ?_⟩
    have h2 := this.2
    rw [hy, exprsP, Bool.and_eq_true] at h2
    exact h2.1
  obtain ⟨y, hy, hye⟩ := hone
  have hy1 : nn y ≤ n := by have := nns_mem (show y ∈ x.L by rw [hy]; simp); omega
  have hy2 : allN okT y := allL_mem (show y ∈ x.L by rw [hy]; simp) ho1
  have hidx : ∀ {β : Type} (g : api_Node → Option β), (idx x.L 0 >>= g) = g y := fun g => by rw [hy]; rfl
  have hact : ∀ k, actW k x.Name x.L = ([123, 123, 32] ++ wordsW k x.Name) ++ (exprW y ++ [32, 125, 125]) := fun k => by rw [actW, hy, headW]
  have act : acc.length + (actW x.Kind x.Name x.L).length ≤ room → ∃ f', tree_printer_action_2 (wordsW x.Kind x.Name) y f acc = some (f', acc ++ s2b (actW x.Kind x.Name x.L)) := fun h => by
    rw [hact] at h ⊢
    exact putAct n (by omega) _ y hy1 hy2 hye f acc h
  rw [stmtW_eq] at hr k ⊢
  simp only [b8, Bool.false_eq_true, if_false, hidx] at hr k ⊢
  have n1 : need ([117, 115, 101, 32].length + x.Name.length ≤ 9223372036854775807) = some () := need_ok (by simp; omega)
  have n2 : need (([117, 115, 101, 32] ++ x.Name).length + [32].length ≤ 9223372036854775807) = some () := need_ok (by simp; omega)
  have n3 : need ([101, 97, 99, 104, 32].length + x.Name.length ≤ 9223372036854775807) = some () := need_ok (by simp; omega)
  have n4 : need (([101, 97, 99, 104, 32] ++ x.Name).length + [32, 105, 110, 32].length ≤ 9223372036854775807) = some () := need_ok (by simp; omega)
  have n5 : need ([108, 101, 116, 32].length + x.Name.length ≤ 9223372036854775807) = some () := need_ok (by simp; omega)
  have n6 : need (([108, 101, 116, 32] ++ x.Name).length + [32, 61, 32].length ≤ 9223372036854775807) = some () := need_ok (by simp; omega)
  simp only [n1, n2, n3, n4, n5, n6, bind_some']
  by_cases k9 : x.Kind = 9
  · simp only [k9, beq_self_eq_true, if_true, Bool.true_or] at hr k act ⊢
    obtain ⟨f', hf⟩ := act hr
    have ew : wordsW 9 x.Name = [] := rfl
    rw [ew] at hf
    obtain ⟨f'', hg⟩ := k f'
    refine ⟨f'', ?_⟩
    rw [hf]
    simp only [bind_some', hg, s2b_app, List.append_assoc]
  have b9 : (x.Kind == 9) = false := beq_eq_false_iff_ne.2 k9
  simp only [b9, Bool.false_eq_true, if_false, Bool.false_or] at hr k hs ⊢
  by_cases k13 : x.Kind = 13
  · simp only [k13, beq_self_eq_true, if_true] at hr k act ⊢
    obtain ⟨f', hf⟩ := act hr
    have ew : wordsW 13 x.Name = ([117, 115, 101, 32] ++ x.Name) ++ [32] := rfl
    rw [ew] at hf
    obtain ⟨f'', hg⟩ := k f'
    refine ⟨f'', ?_⟩
    rw [hf]
    simp only [bind_some', hg, s2b_app, List.append_assoc]
  have b13 : (x.Kind == 13) = false := beq_eq_false_iff_ne.2 k13
  simp only [b13, Bool.false_eq_true, if_false] at hr k hs ⊢
  -- blocks
  have hbl : blockP x.Then true = true ∧ (zl x.Else = false → blockP x.Else true = true) ∧ (x.Kind = 10 ∨ x.Kind = 11 ∨ x.Kind = 12) := by
    by_cases k10 : x.Kind = 10
    · simp only [k10, beq_self_eq_true, if_true, Bool.and_eq_true] at hs
      exact ⟨hs.2.1.1, fun _ => hs.2.1.2, .inl k10⟩
    · have b10 : (x.Kind == 10) = false := beq_eq_false_iff_ne.2 k10
      simp only [b10, Bool.false_eq_true, if_false] at hs
      cases h11 : (x.Kind == 11 || x.Kind == 12) with
      | false => rw [h11] at hs; cases hs
      | true =>
        rw [h11] at hs
        simp only [if_true, Bool.and_eq_true] at hs
        refine ⟨hs.2.2.1, fun hz => ?_, .inr (by simpa using h11)⟩
        have := hs.2.2.2.2.2
        rw [hz] at this; cases this
  obtain ⟨hb1, hb2, hk⟩ := hbl
  simp only [List.length_append, List.length_cons, List.length_nil] at hr
  obtain ⟨f1, hf1⟩ := act (by omega)
  have e1 : ∀ {β : Type} (h : (Bool × List Int) ⊕ (Bool × List Int) → Option β), ((if (x.Kind == 10) = true then tree_printer_action_2 [105, 102, 32] y f acc >>= fun x12 => some (.inl (x12.1, x12.2)) else
      if (x.Kind == 11) = true then tree_printer_action_2 (([101, 97, 99, 104, 32] ++ x.Name) ++ [32, 105, 110, 32]) y f acc >>= fun x14 => some (.inl (x14.1, x14.2)) else
      if (x.Kind == 12) = true then tree_printer_action_2 (([108, 101, 116, 32] ++ x.Name) ++ [32, 61, 32]) y f acc >>= fun x16 => some (.inl (x16.1, x16.2)) else some (.inl (f, acc)) : Option ((Bool × List Int) ⊕ (Bool × List Int))) >>= h) =
      h (.inl (f1, acc ++ s2b (actW x.Kind x.Name x.L))) := fun h => by
    rcases hk with hk | hk | hk <;> rw [hk] at hf1 ⊢
    · have ew : wordsW 10 x.Name = [105, 102, 32] := rfl
      rw [ew] at hf1
      rw [if_pos (by rfl), hf1]; rfl
    · have ew : wordsW 11 x.Name = ([101, 97, 99, 104, 32] ++ x.Name) ++ [32, 105, 110, 32] := rfl
      rw [ew] at hf1
      rw [if_neg (by decide), if_pos (by rfl), hf1]; rfl
    · have ew : wordsW 12 x.Name = ([108, 101, 116, 32] ++ x.Name) ++ [32, 61, 32] := rfl
      rw [ew] at hf1
      rw [if_neg (by decide), if_neg (by decide), if_pos (by rfl), hf1]; rfl
  rw [e1]
  simp only
  rw [List.append_assoc, List.append_assoc]
  refine Puts.seq (w1 := actW x.Kind x.Name x.L) (g := fun p => tree_printer_block_2 x.Then p.1 p.2 >>= _) ⟨f1, rfl⟩ fun f2 => ?_
  refine (ih x.Then true f2 _ (by omega) ho2 hb1 (by simp only [List.length_append, s2b_len]; omega)).seq fun f3 => ?_
  rw [List.append_assoc]
  refine Puts.seq (w1 := if zl x.Else = true then [] else [123, 123, 32, 101, 108, 115, 101, 32, 125, 125] ++ blockW x.Else) (g := fun o18 => tree_printer_put_2 ([[123, 123, 32, 101, 110, 100, 32, 125, 125]]) o18.1 o18.2 >>= fun x21 => g x21.1 x21.2) ?_ fun f4 => ?_
  · rw [gI]
    cases hz : zl x.Else with
    | true => exact ⟨f3, by simp [s2b]⟩
    | false =>
      rw [hz] at hr
      simp only [Bool.false_eq_true, if_false, List.length_append, List.length_cons, List.length_nil] at hr
      simp only [Bool.not_false, if_true, Bool.false_eq_true, if_false]
      have p1 := put [[123, 123, 32, 101, 108, 115, 101, 32, 125, 125]] (by simp) f3 (acc ++ s2b (actW x.Kind x.Name x.L) ++ s2b (blockW x.Then)) (by simp only [List.length_append, s2b_len, List.length_cons, List.length_nil, List.flatten_cons, List.flatten_nil]; omega)
      simp only [List.flatten_cons, List.flatten_nil, List.append_nil] at p1
      refine p1.seq fun f5 => ?_
      exact (ih x.Else true f5 _ (by omega) ho3 (hb2 hz) (by simp only [List.length_append, s2b_len, List.length_cons, List.length_nil]; omega)).ret
  · have p1 := put [[123, 123, 32, 101, 110, 100, 32, 125, 125]] (by simp) f4 (acc ++ s2b (actW x.Kind x.Name x.L) ++ s2b (blockW x.Then) ++ s2b (if zl x.Else = true then [] else [123, 123, 32, 101, 108, 115, 101, 32, 125, 125] ++ blockW x.Else)) (by
      simp only [List.length_append, s2b_len, List.length_cons, List.length_nil, List.flatten_cons, List.flatten_nil]
      revert hr
      cases zl x.Else <;> intro hr <;> simp only [Bool.false_eq_true, if_false, if_true, List.length_append, List.length_cons, List.length_nil] at hr ⊢ <;> omega)
    simp only [List.flatten_cons, List.flatten_nil, List.append_nil] at p1
    refine p1.seq fun f5 => ?_
    have := k f5
    simp only [s2b_app, List.append_assoc] at this ⊢
    exact this
theorem putBlock : ∀ n (l : List api_Node) (b : Bool) (f : Bool) (acc : List Int), n ≤ 800000000 → nns l ≤ n → allL okT l → blockP l b = true → acc.length + (blockW l).length ≤ room → Puts (blockW l) acc (tree_printer_block_2 l f acc) := by
  intro n
  induction n with
  | zero =>
    intro l b f acc _ h
    have hl : l = [] := List.eq_nil_of_length_eq_zero (by have := nns_len l; omega)
    subst hl
    intro _ _ _
    rw [tree_printer_block_2, tree_printer_block_2_L1]
    exact ⟨f, by simp [blockW, s2b]⟩
  | succ n ih =>
    intro l b f acc hn h ho hb hr
    have hl := nns_len l
    have key : ∀ k, k ≤ l.length → blockP (l.drop k) b = true → ∀ f acc, acc.length + (blockW (l.drop k)).length ≤ room → Puts (blockW (l.drop k)) acc (tree_printer_block_2_L1 l k f acc) := by
      refine upto ?_ fun k hk ihk => ?_
      · intro _ f acc _
        rw [tree_printer_block_2_L1, List.drop_length]
        exact ⟨f, by simp [blockW, s2b]⟩
      · intro hb f acc hr
        have hx := nns_mem (List.getElem_mem hk)
        have hxo := allL_mem (List.getElem_mem hk) ho
        rw [dropE hk, blockP, Bool.and_eq_true, Bool.and_eq_true] at hb
        rw [dropE hk, blockW, List.length_append] at hr
        rw [dropE hk, blockW, tree_printer_block_2_L1, wr_succ (by omega)]
        simp only [ltI, hk, decide_true, if_true, idx_nat, getE hk, bind_some']
        exact putStmt n (by omega) l[k] (by omega) hxo hb.1 f acc (by omega) (fun l b f acc => ih l b f acc (by omega)) (fun f a => tree_printer_block_2_L1 l ((k + 1 : Nat) : Int) f a) fun f' => ihk hb.2.2 f' _ (by rw [List.length_append, s2b_len]; omega)
    obtain ⟨f', hf⟩ := key 0 (by omega) (by rw [List.drop_zero]; exact hb) f acc (by rw [List.drop_zero]; exact hr)
    rw [List.drop_zero] at hf
    rw [tree_printer_block_2, show (0 : Int) = ((0 : Nat) : Int) from rfl, hf]
    exact ⟨f', rfl⟩
theorem putTop (n : Nat) (hn : n ≤ 800000000) (l : List api_Node) (b : Bool) (h : nns l ≤ n) (ho : allL okT l) (hb : blockP l b = true) (hr : (blockW l).length ≤ room) : Puts (blockW l) [] (tree_printer_block l false) := by
  have hl := nns_len l
  have key : ∀ k, k ≤ l.length → blockP (l.drop k) b = true → ∀ f acc, acc.length + (blockW (l.drop k)).length ≤ room → Puts (blockW (l.drop k)) acc (tree_printer_block_L1 l k f acc) := by
    refine upto ?_ fun k hk ihk => ?_
    · intro _ f acc _
      rw [tree_printer_block_L1, List.drop_length]
      exact ⟨f, by simp [blockW, s2b]⟩
    · intro hb f acc hr
      have hx := nns_mem (List.getElem_mem hk)
      have hxo := allL_mem (List.getElem_mem hk) ho
      rw [dropE hk, blockP, Bool.and_eq_true, Bool.and_eq_true] at hb
      rw [dropE hk, blockW, List.length_append] at hr
      rw [dropE hk, blockW, tree_printer_block_L1, wr_succ (by omega)]
      simp only [ltI, hk, decide_true, if_true, idx_nat, getE hk, bind_some']
      exact putStmt n (by omega) l[k] (by omega) hxo hb.1 f acc (by omega) (fun l b f acc h1 => putBlock n l b f acc hn h1) (fun f a => tree_printer_block_L1 l ((k + 1 : Nat) : Int) f a) fun f' => ihk hb.2.2 f' _ (by rw [List.length_append, s2b_len]; omega)
  obtain ⟨f', hf⟩ := key 0 (by omega) (by rw [List.drop_zero]; exact hb) false [] (by rw [List.drop_zero]; simpa using hr)
  rw [List.drop_zero] at hf
  rw [tree_printer_block, show (0 : Int) = ((0 : Nat) : Int) from rfl, hf]
  exact ⟨f', rfl⟩
/-- What Print hands back. -/
noncomputable def printP (l : List api_Node) : List UInt8 × Bool := if isP l = true then (if (blockW l).length ≤ 65536 then (blockW l, true) else ([], false)) else ([], false)
theorem tPrint (l : List api_Node) (h : nns l ≤ 800000000) (ho : allL okT l) (hr : isP l = true → (blockW l).length ≤ room) : tree_Print l = some (printP l) := by
  rw [tree_Print, tIs l h ho, printP]
  cases hi : isP l with
  | false => rfl
  | true =>
    have hb : blockP l false = true := by
      have := hi
      rw [isP, Bool.and_eq_true, Bool.and_eq_true] at this
      exact this.2.2
    obtain ⟨f, hf⟩ := putTop 800000000 (by omega) l false h ho hb (hr hi)
    have e : decide ((((s2b (blockW l)).length : Nat) : Int) > 65536) = !decide ((blockW l).length ≤ 65536) := by
      rw [s2b_len]
      by_cases h1 : (blockW l).length ≤ 65536
      · rw [decide_eq_true h1, decide_eq_false (by omega)]; rfl
      · rw [decide_eq_false h1, decide_eq_true (by omega)]; rfl
    simp only [bind_some', Bool.not_true, Bool.false_eq_true, if_false, hf, List.nil_append, strings_Builder_Len_2, e, strings_Builder_String_2, b2s_s2b, if_true]
    by_cases h1 : (blockW l).length ≤ 65536
    · rw [decide_eq_true h1, if_pos h1]; rfl
    · rw [decide_eq_false h1, if_neg h1]; rfl
/-! ### the page's examples -/
theorem okT_of {x : api_Node} (h1 : x.Name.length ≤ 1000000) (h2 : x.Text.length ≤ 1000000) (h3 : x.Kind ≠ 1) (h4 : -9223372036854775808 ≤ x.N) (h5 : x.N ≤ 9223372036854775807) : okT x := ⟨h1, h2, ⟨h4, h5⟩, fun h => absurd h h3⟩
def ex1 : List api_Node := [(api_Node.mk 9 [] [] 0 ([(api_Node.mk 5 [108, 97, 98, 101, 108, 115] [] 0 ([(api_Node.mk 4 [97] [] 0 [] [] [])]) [] [])]) [] [])]
def ex2 : List api_Node := [(api_Node.mk 10 [] [] 0 ([(api_Node.mk 3 [] [] 1 [] [] [])]) ([(api_Node.mk 8 [] [120] 0 [] [] [])]) [])]
theorem awake19 : nunciolaw19_awake = some true := by
  have o1 : allL okT ex1 := by
    simp only [ex1, allL, allN, and_true]
    refine ⟨?_, ?_, ?_⟩ <;> exact okT_of (by simp) (by simp) (by decide) (by decide) (by decide)
  have o2 : allL okT ex2 := by
    simp only [ex2, allL, allN, and_true]
    refine ⟨?_, ?_, ?_⟩ <;> exact okT_of (by simp) (by simp) (by decide) (by decide) (by decide)
  have i1 : isP ex1 = true := by simp [isP, ex1, dps, dp, nns, nn, blockP, stmtP_eq, exprsP, exprP_eq, badB, zl, wordP, nameP, kws, headB, letB, smallB, digB]
  have i2 : isP ex2 = true := by simp [isP, ex2, dps, dp, nns, nn, blockP, stmtP_eq, exprsP, exprP_eq, badB, zl, wordP, nameP, kws, headB, letB, smallB, digB, hasB, litB, endB]
  have w1 : blockW ex1 = [123, 123, 32, 97, 46, 108, 97, 98, 101, 108, 115, 32, 125, 125] := by simp [ex1, blockW, stmtW_eq, actW, wordsW, headW, exprW_eq]
  have w2 : blockW ex2 = [123, 123, 32, 105, 102, 32, 116, 114, 117, 101, 32, 125, 125, 120, 123, 123, 32, 101, 110, 100, 32, 125, 125] := by simp [ex2, blockW, stmtW_eq, actW, wordsW, headW, exprW_eq, zl]
  have p1 := tPrint ex1 (by simp [ex1, nns, nn]) o1 (fun _ => by rw [w1]; decide)
  have p2 := tPrint ex2 (by simp [ex2, nns, nn]) o2 (fun _ => by rw [w2]; decide)
  rw [printP, if_pos i1, w1, if_pos (by decide)] at p1
  rw [printP, if_pos i2, w2, if_pos (by decide)] at p2
  unfold nunciolaw19_awake
  show (tree_Print ex1 >>= fun x1 => tree_Print ex2 >>= fun x2 => _) = _
  rw [p1, p2]
  rfl
/-! ### TreeSames -/
theorem lawTreeSames (a b : List api_Node) : nunciolaw19_TreeSames a b = some true := by
  obtain ⟨h1, -, -⟩ := light_small a
  rw [nunciolaw19_TreeSames, light_some, light_some]
  simp only [bind_some']
  rw [tSame 60 _ _ (by omega) h1, rSame 60 _ _ (by omega) h1, tSame 60 _ _ (by omega) h1, awake19]
  simp only [bind_some', beq_self_eq_true, if_true, sameL_refl 60 _ h1]
end Go.Proofs.Ytlhjieapkcnghaa
