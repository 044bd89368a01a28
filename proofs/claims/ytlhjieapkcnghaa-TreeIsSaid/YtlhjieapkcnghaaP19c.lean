/- Chapter 19 in plain terms: which nodes are expressions, statements, a template; how deep and how many. -/
import Derived.Test.YtlhjieapkcnghaaP19b
namespace Go.Proofs.Ytlhjieapkcnghaa
open Go.RowKit

mutual
def allN (Q : api_Node → Prop) : api_Node → Prop
  | ⟨k, s, t, n, a, b, c⟩ => Q ⟨k, s, t, n, a, b, c⟩ ∧ allL Q a ∧ allL Q b ∧ allL Q c
def allL (Q : api_Node → Prop) : List api_Node → Prop
  | [] => True
  | x :: r => allN Q x ∧ allL Q r
end
theorem allN_eq (Q : api_Node → Prop) (x : api_Node) : allN Q x ↔ (Q x ∧ allL Q x.L ∧ allL Q x.Then ∧ allL Q x.Else) := by cases x; rw [allN]
theorem allL_mem {Q : api_Node → Prop} : ∀ {l : List api_Node} {x : api_Node}, x ∈ l → allL Q l → allN Q x
  | y :: r, x, h, hs => by
    rw [allL] at hs
    rcases List.mem_cons.1 h with rfl | h
    · exact hs.1
    · exact allL_mem h hs.2
theorem allL_app {Q : api_Node → Prop} : ∀ a b : List api_Node, allL Q (a ++ b) ↔ (allL Q a ∧ allL Q b)
  | [], b => by simp [allL]
  | x :: r, b => by simp [allL, allL_app r b, and_assoc]
theorem sms_all {R Q : api_Node → Prop} (h : ∀ x : api_Node, x.Name.length ≤ 40 → x.Text.length ≤ 60 → R x → Q x) : ∀ n (l : List api_Node), nns l ≤ n → sms l → allL R l → allL Q l := by
  intro n
  induction n with
  | zero => intro l hn _; cases l with
    | nil => intro _; rw [allL]; trivial
    | cons x r => have := nn_pos x; simp [nns] at hn; omega
  | succ n ih =>
    intro l
    induction l with
    | nil => intro _ _ _; rw [allL]; trivial
    | cons x r ihr =>
      intro hn hs hr
      rw [nns, nn_eq] at hn
      rw [sms, sm_eq] at hs
      obtain ⟨⟨h1, h2, h3, h4, h5⟩, h6⟩ := hs
      rw [allL, allN_eq] at hr ⊢
      obtain ⟨⟨g1, g2, g3, g4⟩, g5⟩ := hr
      exact ⟨⟨h x h1 h2 g1, ih _ (by omega) h3 g2, ih _ (by omega) h4 g3, ih _ (by omega) h5 g4⟩, ihr (by omega) h6 g5⟩
/-- A node that can be reckoned with. -/
structure okT (x : api_Node) : Prop where
  nm : x.Name.length ≤ 1000000
  tx : x.Text.length ≤ 1000000
  rg : -9223372036854775808 ≤ x.N ∧ x.N ≤ 9223372036854775807
  qt : x.Kind = 1 → ∃ q, lex_Quote x.Text = some q ∧ R18_Quote x.Text = some q
noncomputable def quoteP (s : List UInt8) : List UInt8 × Bool := (lex_Quote s).getD ([], false)

/-! ### expressions -/
def zl (l : List api_Node) : Bool := l.length == 0
mutual
noncomputable def exprP : api_Node → Bool
  | ⟨k, s, t, n, a, b, c⟩ =>
    if k == 1 then (quoteP t).2 && (s == [] && (n == 0 && (zl a && (zl b && zl c)))) else
    if k == 2 then s == [] && (t == [] && (zl a && (zl b && zl c))) else
    if k == 3 then (n == 0 || n == 1) && (s == [] && (t == [] && (zl a && (zl b && zl c)))) else
    if k == 4 then nameP s && (t == [] && (n == 0 && (zl a && (zl b && zl c)))) else
    if k == 5 then wordP s && (a.length == 1 && (exprsP a && (t == [] && (n == 0 && (zl b && zl c))))) else
    if k == 6 then nameP s && (decide (a.length ≤ 3) && (exprsP a && (t == [] && (n == 0 && (zl b && zl c))))) else
    if k == 7 then wordP s && (t == [] && (n == 0 && (zl a && (zl b && zl c)))) else false
noncomputable def exprsP : List api_Node → Bool
  | [] => true
  | x :: r => exprP x && exprsP r
end
theorem exprP_eq (x : api_Node) : exprP x =
    if x.Kind == 1 then (quoteP x.Text).2 && (x.Name == [] && (x.N == 0 && (zl x.L && (zl x.Then && zl x.Else)))) else
    if x.Kind == 2 then x.Name == [] && (x.Text == [] && (zl x.L && (zl x.Then && zl x.Else))) else
    if x.Kind == 3 then (x.N == 0 || x.N == 1) && (x.Name == [] && (x.Text == [] && (zl x.L && (zl x.Then && zl x.Else)))) else
    if x.Kind == 4 then nameP x.Name && (x.Text == [] && (x.N == 0 && (zl x.L && (zl x.Then && zl x.Else)))) else
    if x.Kind == 5 then wordP x.Name && (x.L.length == 1 && (exprsP x.L && (x.Text == [] && (x.N == 0 && (zl x.Then && zl x.Else))))) else
    if x.Kind == 6 then nameP x.Name && (decide (x.L.length ≤ 3) && (exprsP x.L && (x.Text == [] && (x.N == 0 && (zl x.Then && zl x.Else))))) else
    if x.Kind == 7 then wordP x.Name && (x.Text == [] && (x.N == 0 && (zl x.L && (zl x.Then && zl x.Else)))) else false := by cases x; rw [exprP]
theorem zI (l : List api_Node) : ((l.length : Int) == 0) = zl l := eqN l.length 0
theorem gI (l : List api_Node) : decide ((l.length : Int) > 0) = !zl l := by
  unfold zl
  by_cases h : l.length = 0
  · rw [h]; rfl
  · rw [beq_eq_false_iff_ne.2 h, decide_eq_true (by omega)]; rfl
theorem oneI (l : List api_Node) : ((l.length : Int) == 1) = (l.length == 1) := eqN l.length 1
theorem low1 (a : BitVec 64) : a &&& ~~~1#64 = 0#64 ↔ (a = 0#64 ∨ a = 1#64) := by
  constructor
  · intro h
    have hb : ∀ i, 0 < i → a.getLsbD i = false := fun i hi => by
      have := congrArg (fun x : BitVec 64 => x.getLsbD i) h
      simp only [BitVec.getLsbD_and, BitVec.getLsbD_not, BitVec.getLsbD_zero] at this
      by_cases h64 : i < 64
      · have h1 : (1#64).getLsbD i = false := by simp [BitVec.getLsbD_one]; omega
        rw [h1] at this
        simpa [h64] using this
      · exact BitVec.getLsbD_of_ge a i (by omega)
    cases h0 : a.getLsbD 0 with
    | false =>
      left
      apply BitVec.eq_of_getLsbD_eq
      intro i _
      by_cases hi : i = 0
      · subst hi; rw [h0]; simp
      · rw [hb i (by omega)]; simp
    | true =>
      right
      apply BitVec.eq_of_getLsbD_eq
      intro i _
      by_cases hi : i = 0
      · subst hi; rw [h0]; simp
      · rw [hb i (by omega)]; simp [BitVec.getLsbD_one]; omega
  · rintro (h | h) <;> subst h <;> decide
theorem ofI {n : Int} (h1 : -9223372036854775808 ≤ n) (h2 : n ≤ 9223372036854775807) (m : Int) (h3 : 0 ≤ m) (h4 : m ≤ 1) : BitVec.ofInt 64 n = BitVec.ofInt 64 m ↔ n = m := by
  constructor
  · intro h
    have := congrArg BitVec.toInt h
    rw [BitVec.toInt_ofInt, BitVec.toInt_ofInt, Int.bmod_def, Int.bmod_def] at this
    simp only [show (((2 : Nat) ^ 64 : Nat) : Int) = 18446744073709551616 from rfl] at this
    split at this <;> split at this <;> omega
  · intro h; rw [h]
theorem wrap0 (m : Nat) (h : m < 18446744073709551616) : (IntKind.i64.wrap (m : Int) = 0) ↔ m = 0 := by
  rw [IntKind.wrap_i64]
  omega
theorem truthI (n : Int) (h1 : -9223372036854775808 ≤ n) (h2 : n ≤ 9223372036854775807) : ((bits .andNot .i64 n 1) == 0) = (n == 0 || n == 1) := by
  have hw := wrap0 (BitVec.ofInt 64 n &&& ~~~(BitVec.ofInt 64 1)).toNat (BitVec.isLt _)
  have e : bits .andNot .i64 n 1 = IntKind.i64.wrap ((BitVec.ofInt 64 n &&& ~~~(BitVec.ofInt 64 1)).toNat : Int) := rfl
  have e2 : (BitVec.ofInt 64 n &&& ~~~(BitVec.ofInt 64 1)).toNat = 0 ↔ (n = 0 ∨ n = 1) := by
    have z : (BitVec.ofInt 64 n &&& ~~~(BitVec.ofInt 64 1)).toNat = 0 ↔ BitVec.ofInt 64 n &&& ~~~1#64 = 0#64 := by
      constructor
      · intro h; exact BitVec.eq_of_toNat_eq h
      · intro h; exact congrArg BitVec.toNat h
    rw [z, low1]
    have a0 := ofI h1 h2 0 (by omega) (by omega)
    have a1 := ofI h1 h2 1 (by omega) (by omega)
    rw [← a0, ← a1]
    exact Iff.rfl
  rw [e2] at hw
  rw [e]
  by_cases h : n = 0 ∨ n = 1
  · rw [hw.2 h]
    rcases h with h | h <;> subst h <;> rfl
  · have : ¬ IntKind.i64.wrap ((BitVec.ofInt 64 n &&& ~~~(BitVec.ofInt 64 1)).toNat : Int) = 0 := fun k => h (hw.1 k)
    rw [beq_eq_false_iff_ne.2 this]
    simp only [not_or] at h
    rw [beq_eq_false_iff_ne.2 h.1, beq_eq_false_iff_ne.2 h.2]
    rfl
theorem expr1 {x : api_Node} {r : List api_Node} : exprsP [x] = exprP x := by rw [exprsP, exprsP, Bool.and_true]
section
variable (n : Nat) (ih : ∀ x : api_Node, nn x ≤ n → allN okT x → tree_expr x = some (exprP x))
include ih
theorem tExprL (l : List api_Node) (h : nns l ≤ n) (ho : allL okT l) (hl : l.length < 9223372036854775807) : ∀ k, k ≤ l.length → ∃ r, slices_IndexFunc_api_Node_api_Node_tree_expr_1_L1 l k = some r ∧
    (match r with | .inl _ => exprsP (l.drop k) = true | .inr v => 0 ≤ v ∧ exprsP (l.drop k) = false) := by
  refine upto ?_ fun k hk ihk => ?_
  · rw [slices_IndexFunc_api_Node_api_Node_tree_expr_1_L1]
    refine ⟨.inl (), by simp, ?_⟩
    simp [exprsP]
  · have hx := nns_mem (List.getElem_mem hk)
    rw [slices_IndexFunc_api_Node_api_Node_tree_expr_1_L1, wr_succ (by omega)]
    simp only [ltI, hk, decide_true, if_true, idx_nat, getE hk, bind_some', tree_expr_1, ih l[k] (by omega) (allL_mem (List.getElem_mem hk) ho)]
    rw [dropE hk]
    simp only [exprsP]
    cases he : exprP l[k] with
    | true =>
      obtain ⟨r, h1, h2⟩ := ihk
      refine ⟨r, by simpa using h1, ?_⟩
      simpa using h2
    | false => exact ⟨.inr k, by simp, by omega, rfl⟩
end
theorem tExpr : ∀ n (x : api_Node), n < 1000000000 → nn x ≤ n → allN okT x → tree_expr x = some (exprP x) := by
  intro n
  induction n with
  | zero => intro x _ h; have := nn_pos x; omega
  | succ n ih =>
    intro x hb h ho
    rw [nn_eq] at h
    obtain ⟨hq, ho1, -, -⟩ := (allN_eq okT x).1 ho
    have hnm := hq.nm
    rw [tree_expr, tree_planned, exprP_eq, tName x.Name (by omega), lWord x.Name (by omega)]
    simp only [bind_some', gI, truthI _ hq.rg.1 hq.rg.2]
    have e2 : (x.N != 0) = !(x.N == 0) := rfl
    have e3 : ((x.L.length : Int) == 0) = zl x.L := zI x.L
    have e4 : ((x.L.length : Int) == 1) = (x.L.length == 1) := oneI x.L
    simp only [e2, e3, e4]
    by_cases k1 : x.Kind = 1
    · obtain ⟨q, q1, q2⟩ := hq.qt k1
      simp only [k1, beq_self_eq_true, if_true, q1, bind_some', quoteP, Option.getD_some]
      generalize (x.Name == []) = a1
      generalize (x.Text == []) = a2
      generalize (x.N == 0) = a3
      generalize zl x.L = a4
      generalize zl x.Then = a5
      generalize zl x.Else = a6
      cases q.2 <;> cases a1 <;> cases a2 <;> cases a3 <;> cases a4 <;> cases a5 <;> cases a6 <;> rfl
    by_cases k2 : x.Kind = 2
    · simp only [k2, beq_self_eq_true, if_true, show ((2 : Int) == 1) = false from rfl, Bool.false_eq_true, if_false]
      generalize (x.Name == []) = a1
      generalize (x.Text == []) = a2
      generalize (x.N == 0) = a3
      generalize zl x.L = a4
      generalize zl x.Then = a5
      generalize zl x.Else = a6
      cases a1 <;> cases a2 <;> cases a3 <;> cases a4 <;> cases a5 <;> cases a6 <;> rfl
    by_cases k3 : x.Kind = 3
    · simp only [k3, beq_self_eq_true, if_true, show ((3 : Int) == 1) = false from rfl, show ((3 : Int) == 2) = false from rfl, Bool.false_eq_true, if_false]
      generalize (x.N == 0 || x.N == 1) = a0
      generalize (x.Name == []) = a1
      generalize (x.Text == []) = a2
      generalize (x.N == 0) = a3
      generalize zl x.L = a4
      generalize zl x.Then = a5
      generalize zl x.Else = a6
      cases a0 <;> cases a1 <;> cases a2 <;> cases a3 <;> cases a4 <;> cases a5 <;> cases a6 <;> rfl
    have nw : nameP x.Name = true → (x.Name == []) = false := fun h => word_ne (name_word h)
    have ww : wordP x.Name = true → (x.Name == []) = false := fun h => word_ne h
    by_cases k4 : x.Kind = 4
    · simp only [k4, beq_self_eq_true, if_true, show ((4 : Int) == 1) = false from rfl, show ((4 : Int) == 2) = false from rfl, show ((4 : Int) == 3) = false from rfl, Bool.false_eq_true, if_false]
      cases hn : nameP x.Name with
      | false => rfl
      | true =>
        rw [nw hn]
        generalize (x.Text == []) = a2
        generalize (x.N == 0) = a3
        generalize zl x.L = a4
        generalize zl x.Then = a5
        generalize zl x.Else = a6
        cases a2 <;> cases a3 <;> cases a4 <;> cases a5 <;> cases a6 <;> rfl
    by_cases k7 : x.Kind = 7
    · simp only [k7, beq_self_eq_true, if_true, show ((7 : Int) == 1) = false from rfl, show ((7 : Int) == 2) = false from rfl, show ((7 : Int) == 3) = false from rfl, show ((7 : Int) == 4) = false from rfl, show ((7 : Int) == 5) = false from rfl, show ((7 : Int) == 6) = false from rfl, Bool.false_eq_true, if_false]
      cases hn : wordP x.Name with
      | false => rfl
      | true =>
        rw [ww hn]
        generalize (x.Text == []) = a2
        generalize (x.N == 0) = a3
        generalize zl x.L = a4
        generalize zl x.Then = a5
        generalize zl x.Else = a6
        cases a2 <;> cases a3 <;> cases a4 <;> cases a5 <;> cases a6 <;> rfl
    have b1 : (x.Kind == 1) = false := beq_eq_false_iff_ne.2 k1
    have b2 : (x.Kind == 2) = false := beq_eq_false_iff_ne.2 k2
    have b3 : (x.Kind == 3) = false := beq_eq_false_iff_ne.2 k3
    have b4 : (x.Kind == 4) = false := beq_eq_false_iff_ne.2 k4
    have b7 : (x.Kind == 7) = false := beq_eq_false_iff_ne.2 k7
    simp only [b1, b2, b3, b4, b7, Bool.false_eq_true, if_false]
    by_cases k5 : x.Kind = 5
    · simp only [k5, beq_self_eq_true, if_true]
      cases hn : wordP x.Name with
      | false => rfl
      | true =>
        rw [ww hn]
        cases hl : (x.L.length == 1) with
        | false =>
          generalize (x.Text == []) = a2
          generalize (x.N == 0) = a3
          generalize zl x.Then = a5
          generalize zl x.Else = a6
          cases a2 <;> cases a3 <;> cases a5 <;> cases a6 <;> rfl
        | true =>
          have hl1 : x.L.length = 1 := by simpa using hl
          obtain ⟨y, hy⟩ := List.length_eq_one_iff.1 hl1
          have hy1 : nn y ≤ n := by have := nns_mem (show y ∈ x.L by rw [hy]; simp); omega
          have hy2 : allN okT y := allL_mem (show y ∈ x.L by rw [hy]; simp) ho1
          rw [hy]
          simp only [idx_0, List.getElem?_cons_zero, bind_some', ih y (by omega) hy1 hy2, exprsP, Bool.and_true]
          generalize (x.Text == []) = a2
          generalize (x.N == 0) = a3
          generalize zl x.Then = a5
          generalize zl x.Else = a6
          generalize exprP y = a7
          cases a2 <;> cases a3 <;> cases a5 <;> cases a6 <;> cases a7 <;> rfl
    by_cases k6 : x.Kind = 6
    · simp only [k6, beq_self_eq_true, if_true, show ((6 : Int) == 5) = false from rfl, Bool.false_eq_true, if_false]
      cases hn : nameP x.Name with
      | false => rfl
      | true =>
        rw [nw hn]
        have hmin : ((x.L.length : Int) == (if 3 < (x.L.length : Int) then 3 else (x.L.length : Int))) = decide (x.L.length ≤ 3) := by
          by_cases h3 : x.L.length ≤ 3
          · rw [if_neg (by omega), decide_eq_true h3]; simp
          · rw [if_pos (by omega), decide_eq_false h3, beq_eq_false_iff_ne.2 (by omega)]
        rw [hmin]
        have hll := nns_len x.L
        obtain ⟨r, hr, hp⟩ := tExprL n (fun y => ih y (by omega)) x.L (by omega) ho1 (by omega) 0 (by omega)
        rw [slices_ContainsFunc_api_Node_api_Node_tree_expr_1, slices_IndexFunc_api_Node_api_Node_tree_expr_1, show (0 : Int) = ((0 : Nat) : Int) from rfl, hr]
        rw [List.drop_zero] at hp
        cases r with
        | inl u =>
          simp only at hp
          rw [hp]
          generalize (x.Text == []) = a2
          generalize (x.N == ((0 : Nat) : Int)) = a3
          generalize zl x.Then = a5
          generalize zl x.Else = a6
          generalize decide (x.L.length ≤ 3) = a7
          cases a2 <;> cases a3 <;> cases a5 <;> cases a6 <;> cases a7 <;> rfl
        | inr v =>
          simp only at hp
          have hv : decide (v ≥ ((0 : Nat) : Int)) = true := decide_eq_true (by omega)
          simp only [hp.2, bind_some', hv]
          generalize (x.Text == []) = a2
          generalize (x.N == ((0 : Nat) : Int)) = a3
          generalize zl x.Then = a5
          generalize zl x.Else = a6
          generalize decide (x.L.length ≤ 3) = a7
          cases a2 <;> cases a3 <;> cases a5 <;> cases a6 <;> cases a7 <;> rfl
    have b5 : (x.Kind == 5) = false := beq_eq_false_iff_ne.2 k5
    have b6 : (x.Kind == 6) = false := beq_eq_false_iff_ne.2 k6
    simp only [b5, b6, Bool.false_eq_true, if_false]

/-! ### the reference's -/
def bareB (x : api_Node) (p1 p2 p3 p4 p5 : Bool) : Bool := (p1 || x.Name == []) && ((p2 || x.Text == []) && ((p3 || x.N == 0) && ((p4 || zl x.L) && ((p5 || zl x.Then) && (x.Kind == 10 || zl x.Else)))))
theorem rBare (x : api_Node) (p1 p2 p3 p4 p5 : Bool) : R19_bare x p1 p2 p3 p4 p5 = some (bareB x p1 p2 p3 p4 p5) := by
  unfold R19_bare bareB
  simp only [zI]
  generalize (x.Name == []) = a1
  generalize (x.Text == []) = a2
  generalize (x.N == 0) = a3
  generalize zl x.L = a4
  generalize zl x.Then = a5
  generalize zl x.Else = a6
  generalize (x.Kind == 10) = a7
  have e : ∀ b : Bool, (if a7 = true then some true else some b : Option Bool) = some (a7 || b) := fun b => by cases a7 <;> rfl
  simp only [e]
  generalize (a7 || a6) = a8
  cases p1 <;> cases p2 <;> cases p3 <;> cases p4 <;> cases p5 <;> cases a1 <;> (try rfl) <;> cases a2 <;> (try rfl) <;> cases a3 <;> (try rfl) <;> cases a4 <;> (try rfl) <;> cases a5 <;> rfl
section
variable (n : Nat) (ih : ∀ x : api_Node, nn x ≤ n → allN okT x → R19_expr x = some (exprP x))
include ih
theorem rExprsL (l : List api_Node) (h : nns l ≤ n) (ho : allL okT l) (hl : l.length < 9223372036854775807) : ∀ k, k ≤ l.length → R19_exprs_L1 l k = some (if exprsP (l.drop k) then .inl () else .inr ()) := by
  refine upto ?_ fun k hk ihk => ?_
  · rw [R19_exprs_L1]; simp [exprsP]
  · have hx := nns_mem (List.getElem_mem hk)
    rw [R19_exprs_L1, wr_succ (by omega), ihk]
    simp only [ltI, hk, decide_true, if_true, idx_nat, getE hk, bind_some', ih l[k] (by omega) (allL_mem (List.getElem_mem hk) ho)]
    rw [dropE hk, exprsP]
    cases exprP l[k] <;> rfl
theorem rExprs (l : List api_Node) (h : nns l ≤ n) (ho : allL okT l) (hl : l.length < 9223372036854775807) : R19_exprs l = some (exprsP l) := by
  have := rExprsL n ih l h ho hl 0 (by omega)
  rw [R19_exprs, show (0 : Int) = ((0 : Nat) : Int) from rfl, this, List.drop_zero]
  cases exprsP l <;> rfl
end
theorem rExpr : ∀ n (x : api_Node), n < 1000000000 → nn x ≤ n → allN okT x → R19_expr x = some (exprP x) := by
  intro n
  induction n with
  | zero => intro x _ h; have := nn_pos x; omega
  | succ n ih =>
    intro x hb h ho
    rw [nn_eq] at h
    obtain ⟨hq, ho1, -, -⟩ := (allN_eq okT x).1 ho
    have hnm := hq.nm
    have hll := nns_len x.L
    have hex := rExprs n (fun y => ih y (by omega)) x.L (by omega) ho1 (by omega)
    have el : decide ((x.L.length : Int) ≤ 3) = decide (x.L.length ≤ 3) := leN x.L.length 3
    rw [R19_expr, exprP_eq, rName x.Name (by omega), rWord x.Name (by omega), hex]
    simp only [bind_some', rBare, bareB, oneI, el]
    by_cases k1 : x.Kind = 1
    · obtain ⟨q, q1, q2⟩ := hq.qt k1
      have e10 : (x.Kind == 10) = false := beq_eq_false_iff_ne.2 (by omega)
      simp only [e10]
      simp only [k1, beq_self_eq_true, if_true, q2, q1, bind_some', quoteP, Option.getD_some]
      generalize (x.Name == []) = a1
      generalize (x.N == 0) = a3
      generalize zl x.L = a4
      generalize zl x.Then = a5
      generalize zl x.Else = a6
      cases q.2 <;> cases a1 <;> cases a3 <;> cases a4 <;> cases a5 <;> cases a6 <;> rfl
    have b1 : (x.Kind == 1) = false := beq_eq_false_iff_ne.2 k1
    by_cases h10 : x.Kind = 10
    · simp only [h10]; rfl
    have e10 : (x.Kind == 10) = false := beq_eq_false_iff_ne.2 h10
    simp only [e10, b1, Bool.false_eq_true, if_false, Bool.false_or, Bool.true_or, Bool.true_and]
    generalize (x.Kind == 2) = k2
    generalize (x.Kind == 3) = k3
    generalize (x.Kind == 4) = k4
    generalize (x.Kind == 5) = k5
    generalize (x.Kind == 6) = k6
    generalize (x.Kind == 7) = k7
    generalize (x.Name == []) = a1
    generalize (x.Text == []) = a2
    generalize (x.N == 0) = a3
    generalize (x.N == 1) = a8
    generalize zl x.L = a4
    generalize zl x.Then = a5
    generalize zl x.Else = a6
    generalize nameP x.Name = n1
    generalize wordP x.Name = n2
    generalize (x.L.length == 1) = l1
    generalize decide (x.L.length ≤ 3) = l3
    generalize exprsP x.L = ex
    cases k2
    · cases k3
      · cases k4
        · cases k5
          · cases k6
            · cases k7
              · rfl
              · cases n2 <;> rfl
            · cases n1 <;> (try rfl) <;> cases l3 <;> (try rfl) <;> cases ex <;> rfl
          · cases n2 <;> (try rfl) <;> cases l1 <;> (try rfl) <;> cases ex <;> rfl
        · cases n1 <;> rfl
      · cases a3 <;> (try rfl) <;> cases a8 <;> rfl
    · rfl
/-! ### statements -/
def litB : List api_Node → Bool
  | [] => false
  | x :: _ => x.Kind == 8
/-- What may not stand so: a literal, and behind it another, or at whose end there is an open one. -/
def badB (x : api_Node) (r : List api_Node) (inn : Bool) : Bool := x.Kind == 8 && (litB r || ((!r.isEmpty || inn) && endB x.Text))
mutual
noncomputable def stmtP : api_Node → Bool
  | ⟨k, s, t, n, a, b, c⟩ =>
    if k == 8 then !(t == []) && (!(hasB t) && (s == [] && (n == 0 && (zl a && (zl b && zl c))))) else
    if k == 9 then (a.length == 1 && exprsP a) && (s == [] && (t == [] && (n == 0 && (zl b && zl c)))) else
    if k == 10 then (a.length == 1 && exprsP a) && ((blockP b true && blockP c true) && (s == [] && (t == [] && n == 0))) else
    if k == 11 || k == 12 then nameP s && ((a.length == 1 && exprsP a) && (blockP b true && (t == [] && (n == 0 && zl c)))) else
    if k == 13 then nameP s && ((a.length == 1 && exprsP a) && (t == [] && (n == 0 && (zl b && zl c)))) else false
noncomputable def blockP : List api_Node → Bool → Bool
  | [], _ => true
  | x :: r, inn => stmtP x && (!(badB x r inn) && blockP r inn)
end
theorem stmtP_eq (x : api_Node) : stmtP x =
    if x.Kind == 8 then !(x.Text == []) && (!(hasB x.Text) && (x.Name == [] && (x.N == 0 && (zl x.L && (zl x.Then && zl x.Else))))) else
    if x.Kind == 9 then (x.L.length == 1 && exprsP x.L) && (x.Name == [] && (x.Text == [] && (x.N == 0 && (zl x.Then && zl x.Else)))) else
    if x.Kind == 10 then (x.L.length == 1 && exprsP x.L) && ((blockP x.Then true && blockP x.Else true) && (x.Name == [] && (x.Text == [] && x.N == 0))) else
    if x.Kind == 11 || x.Kind == 12 then nameP x.Name && ((x.L.length == 1 && exprsP x.L) && (blockP x.Then true && (x.Text == [] && (x.N == 0 && zl x.Else)))) else
    if x.Kind == 13 then nameP x.Name && ((x.L.length == 1 && exprsP x.L) && (x.Text == [] && (x.N == 0 && (zl x.Then && zl x.Else)))) else false := by cases x; rw [stmtP]
theorem zl_nil {l : List api_Node} (h : zl l = true) : l = [] := List.eq_nil_of_length_eq_zero (by simpa [zl] using h)
theorem block_nil (b : Bool) : blockP [] b = true := by rw [blockP]
theorem stmt_text {x : api_Node} (h : stmtP x = true) (hk : x.Kind = 8) : (x.Text == []) = false := by
  rw [stmtP_eq, hk] at h
  simp only [beq_self_eq_true, if_true] at h
  cases ht : (x.Text == []) with
  | false => rfl
  | true => rw [ht] at h; cases h
theorem lastI (k n : Nat) (hk : k < n) (hn : n < 9223372036854775807) : ((k : Int) == wr ((n : Int) - 1)) = (k + 1 == n) := by
  have e : wr ((n : Int) - 1) = ((n - 1 : Nat) : Int) := by rw [wr_in (by omega) (by omega)]; omega
  rw [e, eqN]
  by_cases h : k + 1 = n
  · rw [beq_iff_eq.2 h, beq_iff_eq.2 (by omega)]
  · rw [beq_eq_false_iff_ne.2 h, beq_eq_false_iff_ne.2 (by omega)]
theorem dropNil {l : List api_Node} {k : Nat} (hk : k < l.length) : (l.drop (k + 1)).isEmpty = (k + 1 == l.length) := by
  by_cases h : k + 1 = l.length
  · rw [List.drop_eq_nil_of_le (by omega), beq_iff_eq.2 h]; rfl
  · rw [beq_eq_false_iff_ne.2 h, dropE (by omega : k + 1 < l.length)]; rfl
end Go.Proofs.Ytlhjieapkcnghaa
