/- Texts without bad bytes, and quotes: the program's and the reference's are the same. -/
import Derived.Test.YtlhjieapkcnghaaP02b
import Derived.Test.YtlhjieapkcnghaaP19f
namespace Go.Proofs.Ytlhjieapkcnghaa
open Go.RowKit

theorem nextP_size (l : List UInt8) (h : l ≠ []) : 1 ≤ (nextP l).2 ∧ (nextP l).2 ≤ l.length := by
  cases l with
  | nil => exact absurd rfl h
  | cons c r =>
    rw [nextP]
    unfold nextC
    split
    · simp
    · split
      · split
        · split <;> simp
        · simp
      · split
        · split
          · split <;> simp
          · simp
        · split
          · split
            · split <;> simp
            · simp
          · simp
def utfF : Nat → List UInt8 → Bool
  | 0, _ => true
  | n + 1, l => match l with
    | [] => true
    | _ :: _ => if (nextP l).1 = 65533 ∧ (nextP l).2 = 1 then false else utfF n (l.drop (nextP l).2)
theorem utfF_step (n : Nat) (l : List UInt8) (h : l ≠ []) : utfF (n + 1) l = if (nextP l).1 = 65533 ∧ (nextP l).2 = 1 then false else utfF n (l.drop (nextP l).2) := by
  cases l with
  | nil => exact absurd rfl h
  | cons c r => rfl
theorem badI (p : Nat × Nat) : (if (((p.1 : Nat) : Int) == 65533) = true then some (((p.2 : Nat) : Int) == 1) else some false : Option Bool) = some (decide (p.1 = 65533 ∧ p.2 = 1)) := by
  have a := eqN p.1 65533
  have b := eqN p.2 1
  rw [show (65533 : Int) = ((65533 : Nat) : Int) from rfl, show (1 : Int) = ((1 : Nat) : Int) from rfl, a, b]
  by_cases h1 : p.1 = 65533
  · rw [beq_iff_eq.2 h1, if_pos rfl]
    by_cases h2 : p.2 = 1
    · rw [beq_iff_eq.2 h2, decide_eq_true ⟨h1, h2⟩]
    · rw [beq_eq_false_iff_ne.2 h2, decide_eq_false (fun h => h2 h.2)]
  · rw [beq_eq_false_iff_ne.2 h1, if_neg (by decide), decide_eq_false (fun h => h1 h.1)]
theorem rIsU (s : List UInt8) (hs : s.length < 9000000000000) : ∀ n k, k ≤ s.length → s.length - k ≤ n → R02_Is_L1 s k = some (if utfF n (s.drop k) = true then .inl () else .inr ()) := by
  intro n
  induction n with
  | zero =>
    intro k h1 h2
    rw [R02_Is_L1, ltI, decide_eq_false (by omega : ¬ k < s.length)]
    rfl
  | succ n ih =>
    intro k h1 h2
    by_cases hk : k < s.length
    · have hne : s.drop k ≠ [] := by rw [dropE hk]; exact List.cons_ne_nil _ _
      obtain ⟨z1, z2⟩ := nextP_size _ hne
      rw [List.length_drop] at z2
      have ew : wr ((k : Int) + ((nextP (s.drop k)).2 : Int)) = ((k + (nextP (s.drop k)).2 : Nat) : Int) := by rw [wr_in (by omega) (by omega)]; rfl
      rw [R02_Is_L1, ltI, decide_eq_true hk, rNext s k hk hs]
      simp only [if_true, bind_some']
      rw [badI (nextP (s.drop k)), ew, ih _ (by omega) (by omega), utfF_step n _ hne, List.drop_drop]
      by_cases hb : (nextP (s.drop k)).1 = 65533 ∧ (nextP (s.drop k)).2 = 1
      · rw [decide_eq_true hb, if_pos hb]; rfl
      · rw [decide_eq_false hb, if_neg hb]; rfl
    · rw [R02_Is_L1, ltI, decide_eq_false hk, List.drop_eq_nil_of_le (by omega)]
      rfl
theorem tIsU (s : List UInt8) (x1 : List UInt8) (hs : s.length < 9000000000000) : ∀ n k, k ≤ s.length → s.length - k ≤ n → ∃ out, utf_all_1_L1 s k = some (out, ()) ∧ utf_Is_L1 x1 out = some (if utfF n (s.drop k) = true then .inl () else .inr ()) := by
  intro n
  induction n with
  | zero =>
    intro k h1 h2
    rw [utf_all_1_L1, ltI, decide_eq_false (by omega : ¬ k < s.length)]
    refine ⟨[], rfl, ?_⟩
    rw [utf_Is_L1]; rfl
  | succ n ih =>
    intro k h1 h2
    by_cases hk : k < s.length
    · have hne : s.drop k ≠ [] := by rw [dropE hk]; exact List.cons_ne_nil _ _
      obtain ⟨z1, z2⟩ := nextP_size _ hne
      rw [List.length_drop] at z2
      have ew : wr ((k : Int) + ((nextP (s.drop k)).2 : Int)) = ((k + (nextP (s.drop k)).2 : Nat) : Int) := by rw [wr_in (by omega) (by omega)]; rfl
      obtain ⟨out, o1, o2⟩ := ih (k + (nextP (s.drop k)).2) (by omega) (by omega)
      rw [utf_all_1_L1, ltI, decide_eq_true hk, tNext s k hk (by omega)]
      simp only [if_true, bind_some']
      rw [ew, o1]
      refine ⟨_, rfl, ?_⟩
      rw [utf_Is_L1]
      simp only
      rw [badI (nextP (s.drop k)), o2, utfF_step n _ hne, List.drop_drop]
      by_cases hb : (nextP (s.drop k)).1 = 65533 ∧ (nextP (s.drop k)).2 = 1
      · rw [decide_eq_true hb, if_pos hb]; rfl
      · rw [decide_eq_false hb, if_neg hb]; rfl
    · rw [utf_all_1_L1, ltI, decide_eq_false hk, List.drop_eq_nil_of_le (by omega)]
      refine ⟨[], rfl, ?_⟩
      rw [utf_Is_L1]; rfl
theorem rUtf (s : List UInt8) (hs : s.length < 9000000000000) : R02_Is s = some (utfF s.length s) := by
  have := rIsU s hs s.length 0 (by omega) (by omega)
  rw [R02_Is, show (0 : Int) = ((0 : Nat) : Int) from rfl, this, List.drop_zero]
  cases utfF s.length s <;> rfl
theorem tUtf (s : List UInt8) (hs : s.length < 9000000000000) : utf_Is s = some (utfF s.length s) := by
  obtain ⟨out, o1, o2⟩ := tIsU s s hs s.length 0 (by omega) (by omega)
  rw [List.drop_zero] at o2
  rw [utf_Is, utf_all]
  simp only [bind_some']
  rw [utf_all_1, show (0 : Int) = ((0 : Nat) : Int) from rfl, o1]
  simp only [bind_some', List.append_nil, o2]
  cases utfF s.length s <;> rfl
/-! ### quotes -/
def qb (c : UInt8) : List UInt8 := if c = 10 then [92, 110] else if c = 9 then [92, 116] else if c = 34 ∨ c = 92 then [92, c] else [c]
def qs (s : List UInt8) : List UInt8 := s.flatMap qb
theorem qb_len (c : UInt8) : (qb c).length ≤ 2 := by unfold qb; split; simp; split; simp; split <;> simp
theorem qs_len : ∀ s : List UInt8, (qs s).length ≤ 2 * s.length
  | [] => by simp [qs]
  | c :: r => by
    have := qs_len r
    have := qb_len c
    simp [qs] at *
    omega
theorem eqC (c : UInt8) (k : Nat) (hk : k < 256) : ((c.toNat : Int) == (k : Int)) = decide (c = UInt8.ofNat k) := by
  rw [eqN]
  by_cases h : c.toNat = k
  · rw [beq_iff_eq.2 h, decide_eq_true]
    apply UInt8.toNat_inj.1
    rw [h, UInt8.toNat_ofNat', Nat.mod_eq_of_lt hk]
  · rw [beq_eq_false_iff_ne.2 h, decide_eq_false]
    intro e; apply h; rw [e, UInt8.toNat_ofNat', Nat.mod_eq_of_lt hk]
theorem tQuoteL (s : List UInt8) (hs : s.length ≤ 1000000) : ∀ k, k ≤ s.length → ∀ acc : List Int, acc.length ≤ 2 * k + 1 → lex_Quote_L1 s acc k = some (acc ++ s2b (qs (s.drop k))) := by
  refine upto ?_ fun k hk ih => ?_
  · intro acc _
    rw [lex_Quote_L1]; simp [qs, s2b]
  · intro acc ha
    have e10 := eqC s[k] 10 (by omega)
    have e9 := eqC s[k] 9 (by omega)
    have e34 := eqC s[k] 34 (by omega)
    have e92 := eqC s[k] 92 (by omega)
    rw [lex_Quote_L1, wr_succ (by omega)]
    simp only [ltI, hk, decide_true, if_true, idx_nat, getE hk, bind_some']
    rw [show (10 : Int) = ((10 : Nat) : Int) from rfl, show (9 : Int) = ((9 : Nat) : Int) from rfl, show (34 : Int) = ((34 : Nat) : Int) from rfl, show (92 : Int) = ((92 : Nat) : Int) from rfl, e10, e9, e34, e92]
    have eq : qs (s.drop k) = qb s[k] ++ qs (s.drop (k + 1)) := by rw [dropE hk]; rfl
    have step : ∀ w : List UInt8, qb s[k] = w → (appL 1 acc (s2b w) >>= fun x => lex_Quote_L1 s x ((k + 1 : Nat) : Int)) = some (acc ++ s2b (qs (s.drop k))) := fun w hw => by
      have hl : w.length ≤ 2 := by rw [← hw]; exact qb_len _
      rw [appL_ok (by rw [s2b_len]; omega) (by rw [s2b_len]; omega), bind_some', ih _ (by rw [List.length_append, s2b_len]; omega), eq, hw, s2b_app, List.append_assoc]
    by_cases h10 : s[k] = 10
    · rw [decide_eq_true (show s[k] = UInt8.ofNat 10 from h10)]
      exact step [92, 110] (by unfold qb; rw [if_pos h10])
    have h10' : decide (s[k] = UInt8.ofNat 10) = false := decide_eq_false h10
    rw [h10']
    by_cases h9 : s[k] = 9
    · rw [decide_eq_true (show s[k] = UInt8.ofNat 9 from h9)]
      exact step [92, 116] (by unfold qb; rw [if_neg h10, if_pos h9])
    have h9' : decide (s[k] = UInt8.ofNat 9) = false := decide_eq_false h9
    rw [h9']
    have e : (if decide (s[k] = UInt8.ofNat 34) = true then some (decide (s[k] = UInt8.ofNat 34)) else some (decide (s[k] = UInt8.ofNat 92)) : Option Bool) = some (decide (s[k] = 34 ∨ s[k] = 92)) := by
      by_cases h : s[k] = 34
      · rw [decide_eq_true (show s[k] = UInt8.ofNat 34 from h), decide_eq_true (show s[k] = 34 ∨ s[k] = 92 from .inl h)]; rfl
      · rw [decide_eq_false (show ¬ s[k] = UInt8.ofNat 34 from h)]
        by_cases h' : s[k] = 92
        · rw [decide_eq_true (show s[k] = UInt8.ofNat 92 from h'), decide_eq_true (show s[k] = 34 ∨ s[k] = 92 from .inr h')]; rfl
        · rw [decide_eq_false (show ¬ s[k] = UInt8.ofNat 92 from h'), decide_eq_false (show ¬ (s[k] = 34 ∨ s[k] = 92) from fun q => q.elim h h')]; rfl
    simp only [Bool.false_eq_true, if_false]
    rw [e]
    simp only [bind_some']
    by_cases h34 : s[k] = 34 ∨ s[k] = 92
    · rw [decide_eq_true h34]
      exact step [92, s[k]] (by unfold qb; rw [if_neg h10, if_neg h9, if_pos h34])
    · rw [decide_eq_false h34]
      exact step [s[k]] (by unfold qb; rw [if_neg h10, if_neg h9, if_neg h34])
theorem rQuoteL (s : List UInt8) (hs : s.length ≤ 1000000) : ∀ k, k ≤ s.length → ∀ acc : List UInt8, acc.length ≤ 2 * k + 1 → R18_Quote_L1 s acc k = some (if (s.drop k).any (· == 13) = true then .inr () else .inl (acc ++ qs (s.drop k))) := by
  refine upto ?_ fun k hk ih => ?_
  · intro acc _
    rw [R18_Quote_L1]; simp [qs]
  · intro acc ha
    have ec : cutL s k (wr ((k : Int) + 1)) = some [s[k]] := by
      rw [wr_succ (by omega), cutL_ok (by omega) (by omega) (by omega), Int.toNat_natCast, Int.toNat_natCast]
      congr 1
      rw [List.drop_take, dropE hk]
      have : k + 1 - k = 1 := by omega
      rw [this]; rfl
    have eq : qs (s.drop k) = qb s[k] ++ qs (s.drop (k + 1)) := by rw [dropE hk]; rfl
    have eany : (s.drop k).any (· == 13) = (s[k] == 13 || (s.drop (k + 1)).any (· == 13)) := by rw [dropE hk]; rfl
    have e1 : ∀ b : UInt8, (([s[k]] : List UInt8) == [b]) = decide (s[k] = b) := fun b => by
      rw [List.cons_beq_cons]
      by_cases h : s[k] = b
      · rw [decide_eq_true h, beq_iff_eq.2 h]; rfl
      · rw [decide_eq_false h, beq_eq_false_iff_ne.2 h]; rfl
    have hq := qb_len s[k]
    rw [R18_Quote_L1, ec, wr_succ (by omega), eany, eq]
    simp only [ltI, hk, decide_true, if_true, bind_some', e1]
    by_cases h13 : s[k] = 13
    · rw [decide_eq_true h13, beq_iff_eq.2 h13]; rfl
    rw [decide_eq_false h13, beq_eq_false_iff_ne.2 h13]
    have n1 : need (([92] : List UInt8).length + [s[k]].length ≤ 9223372036854775807) = some () := need_ok (by simp)
    have step : ∀ w : List UInt8, qb s[k] = w → (need (acc.length + w.length ≤ 9223372036854775807) >>= fun _ => R18_Quote_L1 s (acc ++ w) ((k + 1 : Nat) : Int)) = some (if (s.drop (k + 1)).any (· == 13) = true then .inr () else .inl (acc ++ (qb s[k] ++ qs (s.drop (k + 1))))) := fun w hw => by
      rw [need_ok (by rw [← hw]; omega), bind_some', ih _ (by rw [List.length_append, ← hw]; omega), hw, List.append_assoc]
    simp only [Bool.false_eq_true, if_false, Bool.false_or, n1, bind_some']
    by_cases h10 : s[k] = 10
    · rw [decide_eq_true h10]
      exact step [92, 110] (by unfold qb; rw [if_pos h10])
    rw [decide_eq_false h10]
    by_cases h9 : s[k] = 9
    · rw [decide_eq_true h9]
      exact step [92, 116] (by unfold qb; rw [if_neg h10, if_pos h9])
    rw [decide_eq_false h9]
    by_cases h34 : s[k] = 34
    · rw [decide_eq_true h34]
      exact step ([92] ++ [s[k]]) (by unfold qb; rw [if_neg h10, if_neg h9, if_pos (show s[k] = 34 ∨ s[k] = 92 from .inl h34)]; rfl)
    rw [decide_eq_false h34]
    by_cases h92 : s[k] = 92
    · rw [decide_eq_true h92]
      exact step ([92] ++ [s[k]]) (by unfold qb; rw [if_neg h10, if_neg h9, if_pos (show s[k] = 34 ∨ s[k] = 92 from .inr h92)]; rfl)
    · rw [decide_eq_false h92]
      exact step [s[k]] (by unfold qb; rw [if_neg h10, if_neg h9, if_neg (show ¬ (s[k] = 34 ∨ s[k] = 92) from fun q => q.elim h34 h92)])
theorem idx13 : ∀ s : List UInt8, decide (Lib.indexByte s 13 ≥ 0) = s.any (· == 13)
  | [] => rfl
  | c :: r => by
    have ih := idx13 r
    have hg := Lib.indexByte_ge r 13
    unfold Lib.indexByte
    rw [List.any_cons]
    cases hc : (c == 13) with
    | true => rfl
    | false =>
      simp only [Bool.false_eq_true, if_false, Bool.false_or]
      rw [← ih]
      by_cases h1 : Lib.indexByte r 13 = -1
      · rw [h1]; rfl
      · rw [if_neg (by simpa using h1), decide_eq_true (by omega), decide_eq_true (by omega)]
/-- A text between quotes, both ways. -/
theorem quoteBoth (s : List UInt8) (hs : s.length ≤ 1000000) : ∃ q, lex_Quote s = some q ∧ R18_Quote s = some q ∧ q.1.length ≤ 2 * s.length + 2 := by
  have hl := qs_len s
  have t := tQuoteL s hs 0 (by omega) [34] (by simp)
  have r := rQuoteL s hs 0 (by omega) [34] (by simp)
  rw [List.drop_zero] at t r
  have e13 : decide (Lib.indexByte s (13 : Int).toNat.toUInt8 ≥ 0) = s.any (· == 13) := idx13 s
  refine ⟨if utfF s.length s = true ∧ s.any (· == 13) = false then ([34] ++ qs s ++ [34], true) else ([], false), ?_, ?_, ?_⟩
  · rw [lex_Quote, tUtf s (by omega), strings_IndexByte, internal_stringslite_IndexByte]
    simp only [bind_some', e13]
    cases hu : utfF s.length s with
    | false => rfl
    | true =>
      cases ha : s.any (· == 13) with
      | true => rfl
      | false =>
        simp only [Bool.not_true, Bool.false_eq_true, if_false, bind_some', if_true, and_self]
        rw [show (0 : Int) = ((0 : Nat) : Int) from rfl, t]
        simp only [bind_some']
        rw [appL_ok (by simp [s2b_len]; omega) (by simp [s2b_len]; omega), bind_some']
        have e : [34] ++ s2b (qs s) ++ [34] = s2b ([34] ++ qs s ++ [34]) := by simp [s2b]
        rw [e, b2s_s2b]
        rfl
  · rw [R18_Quote, rUtf s (by omega)]
    cases hu : utfF s.length s with
    | false => rfl
    | true =>
      simp only [bind_some', Bool.not_true, Bool.false_eq_true, if_false]
      rw [show (0 : Int) = ((0 : Nat) : Int) from rfl, r]
      cases ha : s.any (· == 13) with
      | true => rfl
      | false =>
        simp only [Bool.false_eq_true, if_false, bind_some', and_self, if_true]
        rw [need_ok (by simp; omega)]
        rfl
  · split
    · simp; omega
    · simp
end Go.Proofs.Ytlhjieapkcnghaa
