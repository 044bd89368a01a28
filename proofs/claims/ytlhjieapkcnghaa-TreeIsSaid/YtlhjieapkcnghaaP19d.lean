/- Chapter 19 in plain terms: blocks, depth, number of nodes, templates. -/
import Derived.Test.YtlhjieapkcnghaaP19c
namespace Go.Proofs.Ytlhjieapkcnghaa
open Go.RowKit

theorem litB_at (l : List api_Node) (k : Nat) (h : k + 1 < l.length) : litB (l.drop (k + 1)) = (l[k + 1].Kind == 8) := by
  rw [dropE h]; rfl
section
variable (n : Nat) (hn : n < 900000000) (ih : ∀ x : api_Node, nn x ≤ n → allN okT x → tree_stmt x = some (stmtP x))
include hn ih
theorem tBlockL (l : List api_Node) (h : nns l ≤ n) (ho : allL okT l) (top : Bool) : ∀ k, k ≤ l.length → tree_block_L1 l top k = some (if blockP (l.drop k) (!top) then .inl () else .inr ()) := by
  have hl := nns_len l
  refine upto ?_ fun k hk ihk => ?_
  · rw [tree_block_L1]; simp [blockP]
  · have hx := nns_mem (List.getElem_mem hk)
    have ha := allL_mem (List.getElem_mem hk) ho
    have htx := ((allN_eq okT l[k]).1 ha).1.tx
    rw [tree_block_L1, wr_succ (by omega), ihk]
    simp only [ltI, hk, decide_true, if_true, idx_nat, getE hk, bind_some', ih l[k] (by omega) ha, lastI k l.length hk (by omega), tEnd l[k].Text (by omega)]
    rw [dropE hk, blockP, badB]
    rw [dropNil hk]
    cases hs : stmtP l[k] with
    | false => rfl
    | true =>
      cases h8 : (l[k].Kind == 8) with
      | false => simp
      | true =>
        by_cases hlast : k + 1 = l.length
        · have e1 : (k + 1 == l.length) = true := beq_iff_eq.2 hlast
          have e2 : litB (l.drop (k + 1)) = false := by rw [List.drop_eq_nil_of_le (by omega)]; rfl
          rw [e1, e2]
          cases top <;> cases endB l[k].Text <;> simp
        · have e1 : (k + 1 == l.length) = false := beq_eq_false_iff_ne.2 hlast
          have hk1 : k + 1 < l.length := by omega
          rw [e1, litB_at l k hk1, getE hk1]
          simp only [bind_some']
          cases (l[k + 1].Kind == 8) <;> cases endB l[k].Text <;> cases top <;> simp
theorem tBlock (l : List api_Node) (h : nns l ≤ n) (ho : allL okT l) (top : Bool) : tree_block l top = some (blockP l (!top)) := by
  have := tBlockL n hn ih l h ho top 0 (by omega)
  rw [tree_block, show (0 : Int) = ((0 : Nat) : Int) from rfl, this, List.drop_zero]
  cases blockP l (!top) <;> rfl
end
theorem tStmt : ∀ n (x : api_Node), n < 900000000 → nn x ≤ n → allN okT x → tree_stmt x = some (stmtP x) := by
  intro n
  induction n with
  | zero => intro x _ h; have := nn_pos x; omega
  | succ n ih =>
    intro x hb h ho
    rw [nn_eq] at h
    obtain ⟨hq, ho1, ho2, ho3⟩ := (allN_eq okT x).1 ho
    have hnm := hq.nm
    have htx := hq.tx
    have ih' := fun y => ih y (by omega)
    have t1 := tBlock n (by omega) ih' x.Then (by omega) ho2 false
    have t2 := tBlock n (by omega) ih' x.Else (by omega) ho3 false
    have e2 : (x.N != 0) = !(x.N == 0) := rfl
    rw [tree_stmt, tree_planned, stmtP_eq, tName x.Name (by omega), tHas x.Text (by omega), t1, t2]
    simp only [bind_some', gI, e2, zI, oneI]
    -- the one expression
    obtain ⟨ex, hex, hex2⟩ : ∃ ex : Bool, exprsP x.L = ex ∧ (x.L.length == 1 → (idx x.L 0 >>= fun y => tree_expr y) = some ex) := by
      refine ⟨_, rfl, fun hl => ?_⟩
      obtain ⟨y, hy⟩ := List.length_eq_one_iff.1 (by simpa using hl : x.L.length = 1)
      have hy1 : nn y ≤ n := by have := nns_mem (show y ∈ x.L by rw [hy]; simp); omega
      have hy2 : allN okT y := allL_mem (show y ∈ x.L by rw [hy]; simp) ho1
      rw [hy]
      simp only [idx_0, List.getElem?_cons_zero, bind_some', tExpr n y (by omega) hy1 hy2, exprsP, Bool.and_true]
    rw [hex]
    have hidx : ∀ (f : Bool → Option Bool) (g : api_Node → Option Bool), x.L.length = 1 → (∀ y, g y = tree_expr y >>= f) → (idx x.L 0 >>= g) = f ex := fun f g hl hg => by
      have := hex2 (by simpa using hl)
      obtain ⟨y, hy⟩ := List.length_eq_one_iff.1 hl
      rw [hy] at this ⊢
      simp only [idx_0, List.getElem?_cons_zero, bind_some'] at this ⊢
      rw [hg, this, bind_some']
    have nw : nameP x.Name = true → (x.Name == []) = false := fun h => word_ne (name_word h)
    by_cases k8 : x.Kind = 8
    · simp only [k8, beq_self_eq_true, if_true]
      generalize (x.Name == []) = a1
      generalize (x.Text == []) = a2
      generalize (x.N == 0) = a3
      generalize zl x.L = a4
      generalize zl x.Then = a5
      generalize zl x.Else = a6
      generalize hasB x.Text = hh
      cases a1 <;> (try (cases a2 <;> cases hh <;> rfl)) <;> cases a2 <;> (try (cases hh <;> rfl)) <;> cases a3 <;> (try (cases hh <;> rfl)) <;> cases a4 <;> (try (cases hh <;> rfl)) <;> cases a5 <;> (try (cases hh <;> rfl)) <;> cases a6 <;> cases hh <;> rfl
    have b8 : (x.Kind == 8) = false := beq_eq_false_iff_ne.2 k8
    have hE : x.L.length = 1 → (idx x.L 0 >>= fun y => tree_expr y >>= fun b => if b = true then if blockP x.Then (!false) = true then some (blockP x.Else (!false)) else some false else some false) = some (ex && (blockP x.Then true && blockP x.Else true)) := fun hl => by
      rw [hidx (fun b => if b = true then if blockP x.Then (!false) = true then some (blockP x.Else (!false)) else some false else some false) _ hl fun y => rfl]
      show (if ex = true then if blockP x.Then true = true then some (blockP x.Else true) else some false else some false) = _
      cases ex <;> cases blockP x.Then true <;> rfl
    have hb5 : zl x.Then = true → blockP x.Then true = true := fun h => by rw [zl_nil h, block_nil]
    have hb6 : zl x.Else = true → blockP x.Else true = true := fun h => by rw [zl_nil h, block_nil]
    -- the second half
    have half : ∀ w th ot nmd : Bool, (if (w == nmd) = true then if ((!x.Name == []) == w && ((!x.Text == []) == false && ((!x.N == 0) == false && ((!zl x.Then) == th && ((!zl x.Else) == ot && (x.L.length == 1 && true)))))) = true then
        idx x.L 0 >>= fun y => tree_expr y >>= fun b => if b = true then if blockP x.Then (!false) = true then some (blockP x.Else (!false)) else some false else some false else some false else some false) =
        some ((w == nmd) && (((!x.Name == []) == w) && ((x.Text == []) && ((x.N == 0) && (((!zl x.Then) == th) && (((!zl x.Else) == ot) && ((x.L.length == 1) && (ex && (blockP x.Then true && blockP x.Else true))))))))) := fun w th ot nmd => by
      have e0 : ∀ b : Bool, ((!b) == false) = b := fun b => by cases b <;> rfl
      simp only [e0]
      cases hl : (x.L.length == 1) with
      | true =>
        rw [hE (by simpa using hl)]
        generalize (ex && (blockP x.Then true && blockP x.Else true)) = q
        generalize ((!x.Name == []) == w) = q1
        generalize (x.Text == []) = q2
        generalize (x.N == 0) = q3
        generalize ((!zl x.Then) == th) = q4
        generalize ((!zl x.Else) == ot) = q5
        generalize (w == nmd) = q6
        cases q6 <;> (try rfl) <;> cases q1 <;> (try rfl) <;> cases q2 <;> (try rfl) <;> cases q3 <;> (try rfl) <;> cases q4 <;> (try rfl) <;> cases q5 <;> rfl
      | false =>
        generalize ((!x.Name == []) == w) = q1
        generalize (x.Text == []) = q2
        generalize (x.N == 0) = q3
        generalize ((!zl x.Then) == th) = q4
        generalize ((!zl x.Else) == ot) = q5
        generalize (w == nmd) = q6
        cases q6 <;> (try rfl) <;> cases q1 <;> (try rfl) <;> cases q2 <;> (try rfl) <;> cases q3 <;> (try rfl) <;> cases q4 <;> (try rfl) <;> cases q5 <;> rfl
    have bnd : ∀ m : Option Bool, (m >>= fun o => some o) = m := fun m => by cases m <;> rfl
    simp only [b8, Bool.false_eq_true, if_false]
    by_cases k9 : x.Kind = 9
    · simp only [k9, beq_self_eq_true, if_true, bind_some', show ((9 : Int) == 11) = false from rfl, show ((9 : Int) == 12) = false from rfl, show ((9 : Int) == 13) = false from rfl, Bool.false_eq_true, if_false, bnd]
      have hh := half false false false false
      simp only [beq_self_eq_true, if_true, Bool.true_and] at hh
      rw [hh]
      have e0 : ∀ b : Bool, ((!b) == false) = b := fun b => by cases b <;> rfl
      simp only [e0]
      cases h5 : zl x.Then with
      | false => generalize (x.Name == []) = a1; generalize (x.Text == []) = a2; generalize (x.N == 0) = a3; cases a1 <;> cases a2 <;> cases a3 <;> simp
      | true => cases h6 : zl x.Else with
        | false => generalize (x.Name == []) = a1; generalize (x.Text == []) = a2; generalize (x.N == 0) = a3; cases a1 <;> cases a2 <;> cases a3 <;> simp
        | true =>
          rw [hb5 h5, hb6 h6]
          generalize (x.Name == []) = a1; generalize (x.Text == []) = a2; generalize (x.N == 0) = a3; generalize (x.L.length == 1) = l1
          cases a1 <;> cases a2 <;> cases a3 <;> cases l1 <;> cases ex <;> rfl
    have b9 : (x.Kind == 9) = false := beq_eq_false_iff_ne.2 k9
    simp only [b9, Bool.false_eq_true, if_false]
    by_cases k10 : x.Kind = 10
    · simp only [k10, beq_self_eq_true, if_true, bind_some', show ((10 : Int) == 11) = false from rfl, show ((10 : Int) == 12) = false from rfl, show ((10 : Int) == 13) = false from rfl, Bool.false_eq_true, if_false, bnd]
      have hh := half false (!zl x.Then) (!zl x.Else) false
      simp only [beq_self_eq_true, if_true, Bool.true_and] at hh ⊢
      rw [hh]
      have e0 : ∀ b : Bool, ((!b) == false) = b := fun b => by cases b <;> rfl
      simp only [e0]
      generalize (x.Name == []) = a1; generalize (x.Text == []) = a2; generalize (x.N == 0) = a3; generalize (x.L.length == 1) = l1; generalize zl x.Then = a5; generalize zl x.Else = a6; generalize blockP x.Then true = bt; generalize blockP x.Else true = be
      cases a5 <;> cases a6 <;> cases a1 <;> cases a2 <;> cases a3 <;> cases l1 <;> cases ex <;> cases bt <;> cases be <;> rfl
    have b10 : (x.Kind == 10) = false := beq_eq_false_iff_ne.2 k10
    simp only [b10, Bool.false_eq_true, if_false]
    have e11 : (if (x.Kind == 11) = true then some (x.Kind == 11) else some (x.Kind == 12) : Option Bool) = some (x.Kind == 11 || x.Kind == 12) := by cases (x.Kind == 11) <;> rfl
    rw [e11]
    cases h11 : (x.Kind == 11 || x.Kind == 12) with
    | true =>
      have e12 : (if (x.Kind == 11) = true then some true else if (x.Kind == 12) = true then some true else some (x.Kind == 13) : Option Bool) = some true := by
        revert h11; cases (x.Kind == 11) <;> cases (x.Kind == 12) <;> intro h <;> first | rfl | cases h
      rw [e12]
      simp only [bind_some', if_true, bnd]
      rw [half (nameP x.Name) (!zl x.Then) false true]
      have e0 : ∀ b : Bool, ((!b) == false) = b := fun b => by cases b <;> rfl
      simp only [e0]
      cases hn : nameP x.Name with
      | false => rfl
      | true =>
        rw [nw hn]
        cases h6 : zl x.Else with
        | false => generalize (x.Text == []) = a2; generalize (x.N == 0) = a3; generalize zl x.Then = a5; cases a2 <;> cases a3 <;> cases a5 <;> simp
        | true =>
          rw [hb6 h6]
          generalize (x.Text == []) = a2; generalize (x.N == 0) = a3; generalize (x.L.length == 1) = l1; generalize zl x.Then = a5; generalize blockP x.Then true = bt
          cases a5 <;> cases a2 <;> cases a3 <;> cases l1 <;> cases ex <;> cases bt <;> rfl
    | false =>
      have e12 : (if (x.Kind == 11) = true then some true else if (x.Kind == 12) = true then some true else some (x.Kind == 13) : Option Bool) = some (x.Kind == 13) := by
        revert h11; cases (x.Kind == 11) <;> cases (x.Kind == 12) <;> intro h <;> first | rfl | cases h
      rw [e12]
      simp only [bind_some', Bool.false_eq_true, if_false]
      by_cases k13 : x.Kind = 13
      · simp only [k13, beq_self_eq_true, if_true, bind_some', bnd]
        rw [half (nameP x.Name) false false true]
        have e0 : ∀ b : Bool, ((!b) == false) = b := fun b => by cases b <;> rfl
        simp only [e0]
        cases hn : nameP x.Name with
        | false => rfl
        | true =>
          rw [nw hn]
          cases h5 : zl x.Then with
          | false => generalize (x.Text == []) = a2; generalize (x.N == 0) = a3; cases a2 <;> cases a3 <;> simp
          | true => cases h6 : zl x.Else with
            | false => generalize (x.Text == []) = a2; generalize (x.N == 0) = a3; cases a2 <;> cases a3 <;> simp
            | true =>
              rw [hb5 h5, hb6 h6]
              generalize (x.Text == []) = a2; generalize (x.N == 0) = a3; generalize (x.L.length == 1) = l1
              cases a2 <;> cases a3 <;> cases l1 <;> cases ex <;> rfl
      · have b13 : (x.Kind == 13) = false := beq_eq_false_iff_ne.2 k13
        simp only [b13, Bool.false_eq_true, if_false, bind_some']
/-! ### the reference's statements -/
section
variable (n : Nat) (hn : n < 900000000) (ih : ∀ x : api_Node, nn x ≤ n → allN okT x → R19_stmt x = some (stmtP x))
include hn ih
theorem rBlockL (l : List api_Node) (h : nns l ≤ n) (ho : allL okT l) (inn : Bool) : ∀ k, k ≤ l.length → R19_block_L1 l inn k = some (if blockP (l.drop k) inn then .inl () else .inr ()) := by
  have hl := nns_len l
  refine upto ?_ fun k hk ihk => ?_
  · rw [R19_block_L1]; simp [blockP]
  · have hx := nns_mem (List.getElem_mem hk)
    have ha := allL_mem (List.getElem_mem hk) ho
    have htx := ((allN_eq okT l[k]).1 ha).1.tx
    rw [R19_block_L1, wr_succ (by omega), ihk]
    simp only [ltI, hk, decide_true, if_true, idx_nat, getE hk, bind_some', ih l[k] (by omega) ha, lastI k l.length hk (by omega)]
    rw [dropE hk, blockP, badB]
    rw [dropNil hk]
    cases hs : stmtP l[k] with
    | false => rfl
    | true =>
      cases h8 : (l[k].Kind == 8) with
      | false =>
        have : (l[k].Kind != 8) = true := by rw [bne, h8]; rfl
        rw [this]
        simp
      | true =>
        have h8' : (l[k].Kind != 8) = false := by rw [bne, h8]; rfl
        rw [h8', rEnd l[k].Text (by omega) (stmt_text hs (by simpa using h8))]
        by_cases hlast : k + 1 = l.length
        · have e1 : (k + 1 == l.length) = true := beq_iff_eq.2 hlast
          have e2 : litB (l.drop (k + 1)) = false := by rw [List.drop_eq_nil_of_le (by omega)]; rfl
          rw [e1, e2]
          cases inn <;> cases endB l[k].Text <;> simp
        · have e1 : (k + 1 == l.length) = false := beq_eq_false_iff_ne.2 hlast
          have hk1 : k + 1 < l.length := by omega
          rw [e1, litB_at l k hk1, getE hk1]
          simp only [bind_some']
          cases (l[k + 1].Kind == 8) <;> cases endB l[k].Text <;> cases inn <;> simp
theorem rBlock (l : List api_Node) (h : nns l ≤ n) (ho : allL okT l) (inn : Bool) : R19_block l inn = some (blockP l inn) := by
  have := rBlockL n hn ih l h ho inn 0 (by omega)
  rw [R19_block, show (0 : Int) = ((0 : Nat) : Int) from rfl, this, List.drop_zero]
  cases blockP l inn <;> rfl
end
theorem rStmt : ∀ n (x : api_Node), n < 900000000 → nn x ≤ n → allN okT x → R19_stmt x = some (stmtP x) := by
  intro n
  induction n with
  | zero => intro x _ h; have := nn_pos x; omega
  | succ n ih =>
    intro x hb h ho
    rw [nn_eq] at h
    obtain ⟨hq, ho1, ho2, ho3⟩ := (allN_eq okT x).1 ho
    have hnm := hq.nm
    have htx := hq.tx
    have hll := nns_len x.L
    have ih' := fun y => ih y (by omega)
    have t1 := rBlock n (by omega) ih' x.Then (by omega) ho2 true
    have t2 := rBlock n (by omega) ih' x.Else (by omega) ho3 true
    have hex := rExprs n (fun y hy => rExpr n y (by omega) hy) x.L (by omega) ho1 (by omega)
    rw [R19_stmt, stmtP_eq, rName x.Name (by omega), rStands x.Text (by omega), t1, t2, hex]
    simp only [bind_some', oneI, rBare, bareB]
    have e1 : (if (x.L.length == 1) = true then some (exprsP x.L) else some false : Option Bool) = some (x.L.length == 1 && exprsP x.L) := by cases (x.L.length == 1) <;> rfl
    rw [e1]
    simp only [bind_some']
    generalize (x.L.length == 1 && exprsP x.L) = one
    by_cases k8 : x.Kind = 8
    · have e10 : (x.Kind == 10) = false := beq_eq_false_iff_ne.2 (by omega)
      simp only [e10]
      simp only [k8, beq_self_eq_true, if_true]
      generalize (x.Name == []) = a1
      generalize (x.Text == []) = a2
      generalize (x.N == 0) = a3
      generalize zl x.L = a4
      generalize zl x.Then = a5
      generalize zl x.Else = a6
      generalize hasB x.Text = hh
      cases a2 <;> (try rfl) <;> cases hh <;> (try rfl) <;> cases a1 <;> (try rfl) <;> cases a3 <;> rfl
    have b8 : (x.Kind == 8) = false := beq_eq_false_iff_ne.2 k8
    simp only [b8, Bool.false_eq_true, if_false]
    by_cases k10 : x.Kind = 10
    · simp only [k10, beq_self_eq_true, if_true, show ((10 : Int) == 9) = false from rfl, Bool.false_eq_true, if_false]
      generalize (x.Name == []) = a1
      generalize (x.Text == []) = a2
      generalize (x.N == 0) = a3
      generalize blockP x.Then true = bt
      generalize blockP x.Else true = be
      generalize zl x.L = a4
      generalize zl x.Then = a5
      generalize zl x.Else = a6
      cases one <;> (try rfl) <;> cases bt <;> (try rfl) <;> cases be <;> (try rfl) <;> cases a1 <;> (try rfl) <;> cases a2 <;> (try rfl) <;> cases a3 <;> rfl
    have b10 : (x.Kind == 10) = false := beq_eq_false_iff_ne.2 k10
    simp only [b10, Bool.false_eq_true, if_false]
    have e11 : (if (x.Kind == 11) = true then some (x.Kind == 11) else some (x.Kind == 12) : Option Bool) = some (x.Kind == 11 || x.Kind == 12) := by cases (x.Kind == 11) <;> rfl
    rw [e11]
    simp only [bind_some']
    have nw : nameP x.Name = true → (x.Name == []) = false := fun h => word_ne (name_word h)
    generalize (x.Kind == 9) = k9
    generalize (x.Kind == 11 || x.Kind == 12) = k11
    generalize (x.Kind == 13) = k13
    generalize (x.Name == []) = a1
    generalize nameP x.Name = nm
    generalize (x.Text == []) = a2
    generalize (x.N == 0) = a3
    generalize blockP x.Then true = bt
    generalize blockP x.Else true = be
    generalize zl x.L = a4
    generalize zl x.Then = a5
    generalize zl x.Else = a6
    cases k9
    · cases k11
      · cases k13
        · rfl
        · cases nm <;> (try rfl) <;> cases one <;> (try rfl) <;> cases a2 <;> (try rfl) <;> cases a3 <;> rfl
      · cases nm <;> (try rfl) <;> cases one <;> (try rfl) <;> cases bt <;> (try rfl) <;> cases a2 <;> (try rfl) <;> cases a3 <;> rfl
    · cases one <;> (try rfl) <;> cases a1 <;> (try rfl) <;> cases a2 <;> (try rfl) <;> cases a3 <;> rfl
end Go.Proofs.Ytlhjieapkcnghaa
