/- Chapter 19 in plain terms: how long what is written is; law TreeBounds. -/
import Derived.Test.YtlhjieapkcnghaaP19g
namespace Go.Proofs.Ytlhjieapkcnghaa
open Go.RowKit

structure smB (B : Nat) (x : api_Node) : Prop where
  nm : x.Name.length ≤ B
  tx : x.Text.length ≤ B
  qt : x.Kind = 1 → (quoteP x.Text).1.length ≤ B
  rg : -9223372036854775808 ≤ x.N ∧ x.N ≤ 9223372036854775807
theorem textL_le (n : Int) (h1 : -9223372036854775808 ≤ n) (h2 : n ≤ 9223372036854775807) : (textL n).length ≤ 20 := by
  have := digs_len n.natAbs 18 (by omega)
  unfold textL
  split <;> simp <;> omega
theorem exprW_len (B : Nat) : ∀ n (x : api_Node), nn x ≤ n → allN (smB B) x → (exprW x).length + 2 ≤ (B + 30) * nn x := by
  intro n
  induction n with
  | zero => intro x h; have := nn_pos x; omega
  | succ n ih =>
    intro x h ho
    rw [nn_eq] at h
    obtain ⟨hq, ho1, -, -⟩ := (allN_eq _ x).1 ho
    have hnm := hq.nm
    have args : ∀ (l : List api_Node) (more : Bool), nns l ≤ n → allL (smB B) l → (argsW l more).length ≤ (B + 30) * nns l := by
      intro l
      induction l with
      | nil => intro more _ _; simp [argsW]
      | cons y r ihr =>
        intro more hl ho
        rw [nns] at hl
        rw [allL] at ho
        have h1 := ih y (by omega) ho.1
        have h2 := ihr true (by omega) ho.2
        rw [argsW, nns, Nat.mul_add]
        cases more <;> simp <;> omega
    have head : ∀ (l : List api_Node), nns l ≤ n → allL (smB B) l → (headW l).length ≤ (B + 30) * nns l := by
      intro l hl ho
      cases l with
      | nil => simp [headW]
      | cons y r =>
        rw [nns] at hl
        rw [allL] at ho
        have h1 := ih y (by omega) ho.1
        rw [headW, nns, Nat.mul_add]
        omega
    have ha := args x.L false (by omega) ho1
    have hh := head x.L (by omega) ho1
    have ht := textL_le x.N hq.rg.1 hq.rg.2
    rw [exprW_eq, nn_eq]
    have e : (B + 30) * (1 + nns x.L + nns x.Then + nns x.Else) = (B + 30) + (B + 30) * nns x.L + (B + 30) * nns x.Then + (B + 30) * nns x.Else := by
      rw [Nat.mul_add, Nat.mul_add, Nat.mul_add, Nat.mul_one]
    rw [e]
    by_cases k1 : x.Kind = 1
    · have := hq.qt k1
      simp only [k1, beq_self_eq_true, if_true]; omega
    have b1 : (x.Kind == 1) = false := beq_eq_false_iff_ne.2 k1
    simp only [b1, Bool.false_eq_true, if_false]
    cases (x.Kind == 2) with
    | true => simp only [if_true]; omega
    | false =>
      cases (x.Kind == 3) with
      | true => cases (x.N == 1) <;> simp <;> omega
      | false =>
        cases (x.Kind == 4) with
        | true => simp; omega
        | false =>
          cases (x.Kind == 7) with
          | true => simp; omega
          | false =>
            cases (x.Kind == 5) with
            | true => simp; omega
            | false =>
              cases (x.Kind == 6) with
              | true => simp; omega
              | false => simp; omega
theorem actW_len (B : Nat) (k : Int) (s : List UInt8) (l : List api_Node) (hs : s.length ≤ B) (ho : allL (smB B) l) : (actW k s l).length ≤ B + 16 + (B + 30) * nns l := by
  have hh : (headW l).length ≤ (B + 30) * nns l := by
    cases l with
    | nil => simp [headW]
    | cons y r =>
      rw [allL] at ho
      have h1 := exprW_len B (nn y) y (Nat.le_refl _) ho.1
      rw [headW, nns, Nat.mul_add]
      omega
  have hw : (wordsW k s).length ≤ B + 9 := by
    unfold wordsW
    cases (k == 9) <;> cases (k == 13) <;> cases (k == 10) <;> cases (k == 11) <;> simp <;> omega
  unfold actW
  simp only [List.length_append, List.length_cons, List.length_nil]
  omega
theorem blockW_len (B : Nat) : ∀ n (l : List api_Node), nns l ≤ n → allL (smB B) l → (blockW l).length ≤ (B + 60) * nns l := by
  intro n
  induction n with
  | zero => intro l h _; cases l with
    | nil => simp [blockW]
    | cons x r => have := nn_pos x; simp [nns] at h; omega
  | succ n ih =>
    intro l
    induction l with
    | nil => intro _ _; simp [blockW]
    | cons x r ihr =>
      intro h ho
      rw [nns, nn_eq] at h
      rw [allL, allN_eq] at ho
      obtain ⟨⟨hq, ho1, ho2, ho3⟩, ho4⟩ := ho
      have hr := ihr (by omega) ho4
      have ht := ih x.Then (by omega) ho2
      have he := ih x.Else (by omega) ho3
      have ha := actW_len B x.Kind x.Name x.L hq.nm ho1
      have htx := hq.tx
      have hm : (B + 30) * nns x.L ≤ (B + 60) * nns x.L := Nat.mul_le_mul_right _ (by omega)
      have e : (B + 60) * (1 + nns x.L + nns x.Then + nns x.Else + nns r) = (B + 60) + (B + 60) * nns x.L + (B + 60) * nns x.Then + (B + 60) * nns x.Else + (B + 60) * nns r := by
        rw [Nat.mul_add, Nat.mul_add, Nat.mul_add, Nat.mul_add, Nat.mul_one]
      rw [blockW, stmtW_eq, nns, nn_eq, e, List.length_append]
      cases (x.Kind == 8) with
      | true => simp only [if_true]; omega
      | false =>
        cases (x.Kind == 9 || x.Kind == 13) with
        | true => simp only [if_true, Bool.false_eq_true, if_false]; omega
        | false => cases zl x.Else <;> simp <;> omega
/-! ### law TreeBounds -/
theorem okT_plain {k : Int} {s : List UInt8} {n : Int} {a b c : List api_Node} (hk : k ≠ 1) (hs : s.length ≤ 3) (h1 : 0 ≤ n) (h2 : n ≤ 100000) : okT ⟨k, s, [], n, a, b, c⟩ ∧ smB 3 ⟨k, s, [], n, a, b, c⟩ :=
  ⟨⟨by show s.length ≤ _; omega, by simp, ⟨by show _ ≤ n; omega, by show n ≤ _; omega⟩, fun h => absurd h hk⟩, ⟨hs, by simp, fun h => absurd h hk, ⟨by show _ ≤ n; omega, by show n ≤ _; omega⟩⟩⟩
def Good (Q : api_Node → Prop) : Prop := ∀ (k : Int) (s : List UInt8) (n : Int) (a b c : List api_Node), k ≠ 1 → s.length ≤ 3 → 0 ≤ n → n ≤ 100000 → Q ⟨k, s, [], n, a, b, c⟩
theorem bounds1 {Q : api_Node → Prop} (hg : Good Q) (p0 p1 : Int) (p2 : Bool) (m : Nat) (hm : (wr p0).tmod 16 = m) (hm2 : m ≤ 15) : ∀ d i, i + d = m → ∀ (k : Int) (s : List UInt8) (a : List api_Node), k ≠ 1 → s.length ≤ 3 → allL Q a → nns a ≤ i →
    ∃ r : Int × List UInt8 × List api_Node, nunciolaw19_TreeBounds_L1 p0 p1 p2 i k s a = some r ∧ r.1 ≠ 1 ∧ r.2.1.length ≤ 3 ∧ allL Q r.2.2 ∧ nns r.2.2 ≤ m := by
  intro d
  induction d with
  | zero =>
    intro i hi k s a hk hs ha hn
    rw [nunciolaw19_TreeBounds_L1, hm]
    have : decide ((i : Int) < (m : Int)) = false := decide_eq_false (by omega)
    simp only [this, Bool.false_eq_true, if_false]
    exact ⟨_, rfl, hk, hs, ha, by show nns a ≤ m; omega⟩
  | succ d ih =>
    intro i hi k s a hk hs ha hn
    rw [nunciolaw19_TreeBounds_L1, hm]
    have : decide ((i : Int) < (m : Int)) = true := decide_eq_true (by omega)
    simp only [this, if_true]
    rw [wr_succ (by omega)]
    have h1 : allL Q [(⟨k, s, [], 0, a, [], []⟩ : api_Node)] := by
      rw [allL, allN_eq]
      refine ⟨⟨hg _ _ _ _ _ _ hk hs (by omega) (by omega), ha, ?_, ?_⟩, ?_⟩ <;> (rw [allL]; trivial)
    have h2 : nns [(⟨k, s, [], 0, a, [], []⟩ : api_Node)] ≤ i + 1 := by simp [nns, nn]; omega
    cases p2 with
    | true => exact ih (i + 1) (by omega) 5 [98] _ (by decide) (by decide) h1 h2
    | false => exact ih (i + 1) (by omega) 6 [110, 111, 116] _ (by decide) (by decide) h1 h2
theorem bounds2 {Q : api_Node → Prop} (hg : Good Q) (p1 : Int) (o1 : Int × List UInt8 × List api_Node) (m : Nat) (hm : (wr p1).tmod 600 = m) (hm2 : m ≤ 600) : ∀ d i, i + d = m → ∀ l : List api_Node, allL Q l → nns l ≤ 20 + 2 * i →
    ∃ r, nunciolaw19_TreeBounds_L2 p1 o1 l i = some r ∧ allL Q r ∧ nns r ≤ 20 + 2 * m := by
  intro d
  induction d with
  | zero =>
    intro i hi l ha hn
    rw [nunciolaw19_TreeBounds_L2, hm]
    have : decide ((i : Int) < (m : Int)) = false := decide_eq_false (by omega)
    simp only [this, Bool.false_eq_true, if_false]
    exact ⟨_, rfl, ha, by omega⟩
  | succ d ih =>
    intro i hi l ha hn
    have hl := nns_len l
    rw [nunciolaw19_TreeBounds_L2, hm]
    have : decide ((i : Int) < (m : Int)) = true := decide_eq_true (by omega)
    simp only [this, if_true]
    rw [wr_succ (by omega), appL_ok (by simp; omega) (by simp; omega), bind_some']
    have nl : allL Q [] := by rw [allL]; trivial
    refine ih (i + 1) (by omega) _ ((allL_app _ _).2 ⟨ha, ?_⟩) ?_
    · rw [allL, allN_eq]
      refine ⟨⟨hg _ _ _ _ _ _ (by decide) (by simp) (by omega) (by omega), ?_, nl, nl⟩, nl⟩
      show allL Q [_]
      rw [allL, allN_eq]
      exact ⟨⟨hg _ _ _ _ _ _ (by decide) (by simp) (by omega) (by omega), nl, nl, nl⟩, nl⟩
    · rw [nns_app]; simp [nns, nn]; omega
theorem allL_and {Q R : api_Node → Prop} (l : List api_Node) (h : allL (fun x => Q x ∧ R x) l) : allL Q l ∧ allL R l := by
  have key : ∀ n (l : List api_Node), nns l ≤ n → allL (fun x => Q x ∧ R x) l → allL Q l ∧ allL R l := by
    intro n
    induction n with
    | zero => intro l h _; cases l with
      | nil => simp [allL]
      | cons x r => have := nn_pos x; simp [nns] at h; omega
    | succ n ih =>
      intro l
      induction l with
      | nil => intro _ _; simp [allL]
      | cons x r ihr =>
        intro h ho
        rw [nns, nn_eq] at h
        rw [allL, allN_eq] at ho
        obtain ⟨⟨hq, h1, h2, h3⟩, h4⟩ := ho
        have a1 := ih x.L (by omega) h1
        have a2 := ih x.Then (by omega) h2
        have a3 := ih x.Else (by omega) h3
        have a4 := ihr (by omega) h4
        rw [allL, allL, allN_eq, allN_eq]
        exact ⟨⟨⟨hq.1, a1.1, a2.1, a3.1⟩, a4.1⟩, ⟨⟨hq.2, a1.2, a2.2, a3.2⟩, a4.2⟩⟩
  exact key _ l (Nat.le_refl _) h
theorem lawTreeBounds (p0 p1 : Int) (p2 : Bool) (h0 : 0 ≤ p0) (h1 : p0 ≤ 255) (h2 : 0 ≤ p1) (h3 : p1 ≤ 65535) : nunciolaw19_TreeBounds p0 p1 p2 = some true := by
  have hg : Good (fun x => okT x ∧ smB 3 x) := fun k s n a b c hk hs h1 h2 => okT_plain hk hs h1 h2
  have e0 : (wr p0).tmod 16 = ((p0.toNat % 16 : Nat) : Int) := by
    rw [wr_in (by omega) (by omega), Int.tmod_eq_emod_of_nonneg h0]; omega
  have e1 : (wr p1).tmod 600 = ((p1.toNat % 600 : Nat) : Int) := by
    rw [wr_in (by omega) (by omega), Int.tmod_eq_emod_of_nonneg h2]; omega
  have nl : allL (fun x => okT x ∧ smB 3 x) [] := by rw [allL]; trivial
  obtain ⟨r, r1, r2, r3, r4, r5⟩ := bounds1 hg p0 p1 p2 _ e0 (by omega) _ 0 (Nat.zero_add _) 4 [97] [] (by decide) (by decide) nl (by simp [nns])
  have hl0 : allL (fun x => okT x ∧ smB 3 x) [(api_Node.mk 9 [] [] 0 ([(api_Node.mk r.1 r.2.1 [] 0 r.2.2 [] [])]) [] [])] := by
    rw [allL, allN_eq]
    refine ⟨⟨hg _ _ _ _ _ _ (by decide) (by simp) (by omega) (by omega), ?_, nl, nl⟩, nl⟩
    show allL _ [_]
    rw [allL, allN_eq]
    exact ⟨⟨hg _ _ _ _ _ _ r2 r3 (by omega) (by omega), r4, nl, nl⟩, nl⟩
  obtain ⟨l, l1, l2, l3⟩ := bounds2 hg p1 r _ e1 (by omega) _ 0 (Nat.zero_add _) [(api_Node.mk 9 [] [] 0 ([(api_Node.mk r.1 r.2.1 [] 0 r.2.2 [] [])]) [] [])] hl0 (by simp [nns, nn]; omega)
  obtain ⟨o1, o2⟩ := allL_and l l2
  have hn : nns l ≤ 800000000 := by omega
  have hw := blockW_len 3 _ l (Nat.le_refl _) o2
  have hp := tPrint l hn o1 (fun _ => by show _ ≤ 100000000000; omega)
  have hok : (printP l).2 = isP l := by
    rw [printP]
    cases hi : isP l with
    | false => rfl
    | true =>
      have : nns l ≤ 1024 := by
        have h := hi
        rw [isP, Bool.and_eq_true, Bool.and_eq_true] at h
        exact of_decide_eq_true h.2.1
      rw [if_pos rfl, if_pos (by omega)]
  rw [nunciolaw19_TreeBounds]
  have r1 : nunciolaw19_TreeBounds_L1 p0 p1 p2 0 4 [97] [] = some r := r1
  have l1 : nunciolaw19_TreeBounds_L2 p1 r [(api_Node.mk 9 [] [] 0 ([(api_Node.mk r.1 r.2.1 [] 0 r.2.2 [] [])]) [] [])] 0 = some l := l1
  rw [r1, bind_some', l1, bind_some', hp, tIs l hn o1, rIs l hn o1]
  simp only [bind_some', hok, beq_self_eq_true, if_true, awake19]
end Go.Proofs.Ytlhjieapkcnghaa
