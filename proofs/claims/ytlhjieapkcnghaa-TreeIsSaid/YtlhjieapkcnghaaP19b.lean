/- Chapter 19 in plain terms: words, names, expressions, statements; how many and how deep. -/
import Derived.Test.YtlhjieapkcnghaaP19
namespace Go.Proofs.Ytlhjieapkcnghaa
open Go.RowKit

/-! ### words and names -/
def smallB (c : UInt8) : Bool := decide (97 ≤ c.toNat) && decide (c.toNat ≤ 122)
def digB (c : UInt8) : Bool := decide (48 ≤ c.toNat) && decide (c.toNat ≤ 57)
def letB (c : UInt8) : Bool := smallB c || (digB c || c.toNat == 95)
def headB : List UInt8 → Bool
  | [] => false
  | c :: _ => decide (97 ≤ c.toNat)
theorem headB_cons (c : UInt8) (r : List UInt8) : headB (c :: r) = decide (97 ≤ c.toNat) := rfl
def wordP (s : List UInt8) : Bool := !(s == []) && (decide (s.length ≤ 32) && (headB s && s.all letB))
theorem geN (n k : Nat) : decide ((n : Int) ≥ (k : Int)) = decide (k ≤ n) := by
  by_cases h : k ≤ n
  · rw [decide_eq_true h, decide_eq_true (by omega : (n : Int) ≥ k)]
  · rw [decide_eq_false h, decide_eq_false (by omega)]
theorem leN (n k : Nat) : decide ((n : Int) ≤ (k : Int)) = decide (n ≤ k) := by
  by_cases h : n ≤ k
  · rw [decide_eq_true h, decide_eq_true (by omega : (n : Int) ≤ k)]
  · rw [decide_eq_false h, decide_eq_false (by omega)]
theorem eqN (n k : Nat) : ((n : Int) == (k : Int)) = (n == k) := by
  by_cases h : n = k
  · subst h; simp
  · rw [beq_eq_false_iff_ne.2 h, beq_eq_false_iff_ne.2 (by omega)]
theorem lDigit (c : UInt8) : lex_digit (c.toNat : Int) = some (digB c) := by
  have a := geN c.toNat 48
  have b := leN c.toNat 57
  rw [lex_digit]
  rw [show (48 : Int) = ((48 : Nat) : Int) from rfl, show (57 : Int) = ((57 : Nat) : Int) from rfl, a, b, digB]
  cases decide (48 ≤ c.toNat) <;> rfl
theorem rDigit (c : UInt8) : R18_digit (c.toNat : Int) = some (digB c) := by
  have a := geN c.toNat 48
  have b := leN c.toNat 57
  rw [R18_digit]
  rw [show (48 : Int) = ((48 : Nat) : Int) from rfl, show (57 : Int) = ((57 : Nat) : Int) from rfl, a, b, digB]
  cases decide (48 ≤ c.toNat) <;> rfl
theorem rSmall (c : UInt8) : R18_small (c.toNat : Int) = some (smallB c) := by
  have a := geN c.toNat 97
  have b := leN c.toNat 122
  rw [R18_small]
  rw [show (97 : Int) = ((97 : Nat) : Int) from rfl, show (122 : Int) = ((122 : Nat) : Int) from rfl, a, b, smallB]
  cases decide (97 ≤ c.toNat) <;> rfl
theorem lLetter (c : UInt8) : lex_letter (c.toNat : Int) = some (letB c) := by
  have a := geN c.toNat 97
  have b := leN c.toNat 122
  have d := eqN c.toNat 95
  rw [lex_letter, lDigit]
  rw [show (97 : Int) = ((97 : Nat) : Int) from rfl, show (122 : Int) = ((122 : Nat) : Int) from rfl, show (95 : Int) = ((95 : Nat) : Int) from rfl, a, b, d, letB, smallB]
  simp only [bind_some']
  cases decide (97 ≤ c.toNat) <;> cases decide (c.toNat ≤ 122) <;> cases digB c <;> cases (c.toNat == 95) <;> rfl
theorem lWordL (s : List UInt8) (hs : s.length < 9223372036854775807) : ∀ k, k ≤ s.length → lex_Word_L1 s k = some (if (s.drop k).all letB then .inl () else .inr ()) := by
  refine upto ?_ fun k hk ih => ?_
  · rw [lex_Word_L1]; simp
  · rw [lex_Word_L1, wr_succ (by omega), ih]
    simp only [ltI, hk, decide_true, if_true, idx_nat, getE hk, bind_some', lLetter]
    rw [dropE hk, List.all_cons]
    cases letB s[k] <;> rfl
theorem lWord (s : List UInt8) (hs : s.length < 9223372036854775807) : lex_Word s = some (wordP s) := by
  have h := lWordL s hs 0 (by omega)
  rw [lex_Word, show (0 : Int) = ((0 : Nat) : Int) from rfl, h, List.drop_zero, wordP]
  have e := leN s.length 32
  rw [show (32 : Int) = ((32 : Nat) : Int) from rfl, e]
  cases ha : s.all letB with
  | false => cases (s == []) <;> cases decide (s.length ≤ 32) <;> cases headB s <;> rfl
  | true =>
    cases s with
    | nil => rfl
    | cons c r =>
      have g := geN c.toNat 97
      rw [show (97 : Int) = ((97 : Nat) : Int) from rfl]
      simp only [if_true, bind_some', idx_nat, List.getElem?_cons_zero, g, headB_cons]
      have e0 : ((c :: r) == ([] : List UInt8)) = false := rfl
      rw [e0]
      cases decide ((c :: r).length ≤ 32) <;> simp
theorem letSmall {c : UInt8} (h : letB c = true) : smallB c = decide (97 ≤ c.toNat) := by
  unfold letB smallB digB at *
  by_cases h1 : 97 ≤ c.toNat
  · rw [decide_eq_true h1] at h ⊢
    simp at h ⊢
    omega
  · rw [decide_eq_false h1]; rfl
theorem rWordL (s : List UInt8) (hs : s.length < 9223372036854775807) : ∀ k, k ≤ s.length → R18_Word_L1 s k = some (if (s.drop k).all letB then .inl () else .inr ()) := by
  refine upto ?_ fun k hk ih => ?_
  · rw [R18_Word_L1]; simp
  · have d := eqN s[k].toNat 95
    rw [R18_Word_L1, wr_succ (by omega), ih]
    simp only [ltI, hk, decide_true, if_true, idx_nat, getE hk, bind_some', rSmall, rDigit]
    rw [dropE hk, List.all_cons, letB]
    have e : (((s[k].toNat : Nat) : Int) != 95) = !(s[k].toNat == 95) := by rw [← d]; rfl
    rw [e]
    cases smallB s[k] <;> cases digB s[k] <;> cases (s[k].toNat == 95) <;> rfl
theorem rWord (s : List UInt8) (hs : s.length < 9223372036854775807) : R18_Word s = some (wordP s) := by
  have h := rWordL s hs 0 (by omega)
  rw [R18_Word, show (0 : Int) = ((0 : Nat) : Int) from rfl, h, List.drop_zero, wordP]
  cases s with
  | nil => rfl
  | cons c r =>
    have e1 : decide ((((c :: r).length : Nat) : Int) < 1) = false := decide_eq_false (by simp; omega)
    have e2 : decide ((((c :: r).length : Nat) : Int) > 32) = !(decide ((c :: r).length ≤ 32)) := by
      by_cases h : (c :: r).length ≤ 32
      · rw [decide_eq_true h, decide_eq_false (by omega)]; rfl
      · rw [decide_eq_false h, decide_eq_true (by omega)]; rfl
    simp only [e1, e2, Bool.false_eq_true, if_false, idx_nat, List.getElem?_cons_zero, bind_some', rSmall, headB_cons]
    have e0 : ((c :: r) == ([] : List UInt8)) = false := rfl
    rw [e0]
    cases ha : (c :: r).all letB with
    | true =>
      have hl : letB c = true := by rw [List.all_cons, Bool.and_eq_true] at ha; exact ha.1
      rw [letSmall hl]
      cases decide ((c :: r).length ≤ 32) <;> cases decide (97 ≤ c.toNat) <;> rfl
    | false => cases decide ((c :: r).length ≤ 32) <;> cases decide (97 ≤ c.toNat) <;> cases smallB c <;> rfl
def kws : List (List UInt8) := [[105, 102], [101, 108, 115, 101], [101, 110, 100], [101, 97, 99, 104], [105, 110], [108, 101, 116], [117, 115, 101], [116, 114, 117, 101], [102, 97, 108, 115, 101], [115, 101, 99, 114, 101, 116]]
def nameP (s : List UInt8) : Bool := !(kws.any (· == s)) && wordP s
theorem tName (s : List UInt8) (hs : s.length < 9223372036854775807) : tree_Name s = some (nameP s) := by
  have c : ∀ a : List UInt8, (a == s) = (s == a) := fun a => by rw [Bool.beq_comm]
  rw [tree_Name, lWord s hs, nameP]
  simp only [kws, List.any_cons, List.any_nil, c]
  generalize (s == [105, 102]) = a1
  generalize (s == [101, 108, 115, 101]) = a2
  generalize (s == [101, 110, 100]) = a3
  generalize (s == [101, 97, 99, 104]) = a4
  generalize (s == [105, 110]) = a5
  generalize (s == [108, 101, 116]) = a6
  generalize (s == [117, 115, 101]) = a7
  generalize (s == [116, 114, 117, 101]) = a8
  generalize (s == [102, 97, 108, 115, 101]) = a9
  generalize (s == [115, 101, 99, 114, 101, 116]) = a10
  generalize wordP s = b
  cases a1
  · cases a2
    · cases a3
      · cases a4
        · cases a5
          · cases a6
            · cases a7
              · cases a8
                · cases a9
                  · cases a10 <;> cases b <;> rfl
                  · rfl
                · rfl
              · rfl
            · rfl
          · rfl
        · rfl
      · rfl
    · rfl
  · rfl
theorem rNameL (s : List UInt8) (l : List (List UInt8)) (hl : l.length < 9223372036854775807) : ∀ k, k ≤ l.length → R19_Name_L1 s l k = some (if (l.drop k).any (· == s) then .inr () else .inl ()) := by
  refine upto ?_ fun k hk ih => ?_
  · rw [R19_Name_L1]; simp
  · rw [R19_Name_L1, wr_succ (by omega), ih]
    simp only [ltI, hk, decide_true, if_true, idx_nat, getE hk, bind_some']
    rw [dropE hk, List.any_cons]
    cases (l[k] == s) <;> rfl
theorem rName (s : List UInt8) (hs : s.length < 9223372036854775807) : R19_Name s = some (nameP s) := by
  have h := rNameL s kws (by decide) 0 (by omega)
  rw [R19_Name, R19_Words]
  simp only [bind_some', rWord s hs]
  rw [show (0 : Int) = ((0 : Nat) : Int) from rfl]
  show (R19_Name_L1 s kws _ >>= _) = _
  rw [h, List.drop_zero, nameP]
  cases kws.any (· == s) <;> rfl
theorem word_ne {s : List UInt8} (h : wordP s = true) : (s == []) = false := by
  unfold wordP at h
  cases hs : (s == []) with
  | false => rfl
  | true => rw [hs] at h; cases h
theorem name_word {s : List UInt8} (h : nameP s = true) : wordP s = true := by
  unfold nameP at h
  cases hw : wordP s with
  | true => rfl
  | false => rw [hw] at h; simp at h

/-! ### what stands in a text -/
def hasB : List UInt8 → Bool
  | [] => false
  | c :: r => (c == 123 && r.head? == some 123) || hasB r
theorem pre2 (l : List UInt8) : ([123, 123] : List UInt8).isPrefixOf l = (match l with | [] => false | c :: r => c == 123 && r.head? == some 123) := by
  match l with
  | [] => rfl
  | [c] => simp [List.isPrefixOf]
  | c :: d :: r =>
    simp only [List.isPrefixOf, List.head?_cons]
    have e1 : (123 == c) = (c == 123) := Bool.beq_comm
    have e2 : (123 == d) = (d == 123) := Bool.beq_comm
    rw [e1, e2]
    cases (c == 123) <;> cases hd : (d == 123) <;> simp_all
theorem has_index : ∀ l : List UInt8, decide (Lib.index l [123, 123] ≥ 0) = hasB l
  | [] => rfl
  | c :: r => by
    have ih := has_index r
    have hg := Lib.index_ge r [123, 123]
    have hp2 : ([123, 123] : List UInt8).isPrefixOf (c :: r) = (c == 123 && r.head? == some 123) := pre2 (c :: r)
    unfold Lib.index
    rw [hp2, hasB]
    generalize (c == 123 && r.head? == some 123) = b
    cases b with
    | true => rfl
    | false =>
      simp only [Bool.false_or]
      by_cases h1 : Lib.index r [123, 123] = -1
      · rw [h1] at ih ⊢
        rw [← ih]; rfl
      · rw [if_neg (by decide), if_neg (by simpa using h1), ← ih, decide_eq_true (by omega), decide_eq_true (by omega)]
theorem tHas (s : List UInt8) (hs : s.length < 4294967281) : strings_Contains s [123, 123] = some (hasB s) := by
  rw [strings_Contains, strings_Index, internal_stringslite_Index, need_ok hs]
  simp only [bind_some', has_index]
theorem rBegins (s : List UInt8) (k : Nat) (hk : k < s.length) (hs : s.length < 4294967281) : R01_Begins s [123, 123] k = some (match s.drop k with | [] => false | c :: r => c == 123 && r.head? == some 123) := by
  have e1 : decide ((k : Int) ≥ 0) = true := decide_eq_true (by omega)
  have e2 : decide ((k : Int) ≤ (s.length : Int)) = true := decide_eq_true (by omega)
  have e3 : wr ((s.length : Int) - k) = ((s.length - k : Nat) : Int) := by rw [wr_in (by omega) (by omega)]; omega
  have e4 : wr ((k : Int) + (([123, 123] : List UInt8).length : Int)) = ((k + 2 : Nat) : Int) := by rw [wr_in (by simp; omega) (by simp; omega)]; simp
  rw [R01_Begins, e1, e2, e3, e4]
  simp only [if_true]
  by_cases h2 : 2 ≤ s.length - k
  · have e5 : decide (((([123, 123] : List UInt8).length : Nat) : Int) ≤ ((s.length - k : Nat) : Int)) = true := decide_eq_true (by simp; omega)
    rw [e5, cutL_ok (by omega) (by omega) (by omega)]
    simp only [if_true, bind_some']
    have hk1 : k + 1 < s.length := by omega
    have e6 : (s.take (k + 2)).drop k = [s[k], s[k + 1]] := by
      apply List.ext_getElem
      · simp; omega
      · intro i h1 h2
        simp at h1 h2
        match i, h2 with
        | 0, _ => simp
        | 1, _ => simp
    rw [Int.toNat_natCast, Int.toNat_natCast, e6, dropE hk, dropE hk1]
    simp only [List.head?_cons]
    have : (([s[k], s[k + 1]] : List UInt8) == [123, 123]) = (s[k] == 123 && (some s[k + 1] == some 123)) := by
      have e : (some s[k + 1] == some (123 : UInt8)) = (s[k + 1] == 123) := rfl
      rw [e, List.cons_beq_cons, List.cons_beq_cons]
      show (s[k] == 123 && (s[k + 1] == 123 && true)) = _
      rw [Bool.and_true]
    rw [this]
  · have e5 : decide (((([123, 123] : List UInt8).length : Nat) : Int) ≤ ((s.length - k : Nat) : Int)) = false := decide_eq_false (by simp; omega)
    rw [e5, dropE hk]
    have : s.drop (k + 1) = [] := List.drop_eq_nil_of_le (by omega)
    rw [this]
    simp
theorem rStandsL (s : List UInt8) (hs : s.length < 4294967281) : ∀ k, k ≤ s.length → R19_stands_L1 s [123, 123] k = some (if hasB (s.drop k) then .inr () else .inl ()) := by
  refine upto ?_ fun k hk ih => ?_
  · rw [R19_stands_L1]; simp [hasB]
  · rw [R19_stands_L1, wr_succ (by omega), ih, rBegins s k hk hs]
    simp only [ltI, hk, decide_true, if_true, bind_some']
    rw [dropE hk, hasB]
    show (if (s[k] == 123 && (s.drop (k + 1)).head? == some 123) = true then _ else _) = _
    generalize (s[k] == 123 && (s.drop (k + 1)).head? == some 123) = b
    cases b <;> rfl
theorem rStands (s : List UInt8) (hs : s.length < 4294967281) : R19_stands s [123, 123] = some (hasB s) := by
  have h := rStandsL s hs 0 (by omega)
  rw [R19_stands, show (0 : Int) = ((0 : Nat) : Int) from rfl, h, List.drop_zero]
  cases hasB s <;> rfl
def endB (s : List UInt8) : Bool := s.getLast? == some 123
theorem tEnd (s : List UInt8) (hs : s.length < 4294967281) : strings_HasSuffix s [123] = some (endB s) := by
  rw [strings_HasSuffix, internal_stringslite_HasSuffix, endB]
  cases hl : s.getLast? with
  | none =>
    have : s = [] := List.getLast?_eq_none_iff.1 hl
    subst this
    rfl
  | some c =>
    have hne : s ≠ [] := fun h => by subst h; cases hl
    have hpos : 0 < s.length := List.length_pos_iff.2 hne
    have e1 : decide ((s.length : Int) ≥ ((([123] : List UInt8).length : Nat) : Int)) = true := decide_eq_true (by simp; omega)
    have e2 : wr ((s.length : Int) - ((([123] : List UInt8).length : Nat) : Int)) = ((s.length - 1 : Nat) : Int) := by rw [wr_in (by simp; omega) (by simp; omega)]; simp; omega
    rw [e1, e2, cutL_ok (by omega) (by omega) (by omega)]
    simp only [if_true, bind_some', Int.toNat_natCast, List.take_length]
    have e3 : s.drop (s.length - 1) = [c] := by
      have h1 : s.length - 1 < s.length := by omega
      rw [dropE h1, List.drop_eq_nil_of_le (by omega)]
      rw [List.getLast?_eq_getElem?, getE h1] at hl
      cases hl; rfl
    rw [e3]
    simp
theorem rEnd (s : List UInt8) (hs : s.length < 4294967281) (hne : (s == []) = false) : (idx s (wr ((s.length : Int) - 1)) >>= fun x => some ((x.toNat : Int) == 123)) = some (endB s) := by
  have hne : s ≠ [] := fun h => by subst h; cases hne
  have hpos : 0 < s.length := List.length_pos_iff.2 hne
  have e2 : wr ((s.length : Int) - 1) = ((s.length - 1 : Nat) : Int) := by rw [wr_in (by omega) (by omega)]; omega
  have h1 : s.length - 1 < s.length := by omega
  rw [e2, idx_nat, getE h1, bind_some', endB, List.getLast?_eq_getElem?, getE h1]
  have d := eqN s[s.length - 1].toNat 123
  rw [show (123 : Int) = ((123 : Nat) : Int) from rfl, d]
  congr 1
  by_cases h : s[s.length - 1] = 123
  · rw [h]; rfl
  · have : s[s.length - 1].toNat ≠ 123 := fun e => h (UInt8.toNat_inj.1 (by rw [e]; rfl))
    rw [beq_eq_false_iff_ne.2 this]
    symm
    rw [beq_eq_false_iff_ne]
    intro e; exact h (Option.some.inj e)
end Go.Proofs.Ytlhjieapkcnghaa
