/- The proof's texts, part 7 of 9: the walks by a logic in which data are by value, the plain laws, and at the end the law, for every input. -/
import Derived.Test.YtlhjieapkcnghaaMgTreePrints6
import Derived.Deep.DeepCutAuto
import Derived.Deep.CutRange

section
namespace Go.Proofs.Ytlhjieapkcnghaa
open Go.RowKit

mutual
/-- How many nodes. -/
def nn : api_Node → Nat
  | ⟨_, _, _, _, a, b, c⟩ => 1 + nns a + nns b + nns c
def nns : List api_Node → Nat
  | [] => 0
  | x :: r => nn x + nns r
end
mutual
/-- How deep. -/
def dp : api_Node → Nat
  | ⟨_, _, _, _, a, b, c⟩ => 1 + max (dps a) (max (dps b) (dps c))
def dps : List api_Node → Nat
  | [] => 0
  | x :: r => max (dp x) (dps r)
end
mutual
/-- Texts of a size that is looked at. -/
def sm : api_Node → Prop
  | ⟨_, s, t, _, a, b, c⟩ => s.length ≤ 40 ∧ t.length ≤ 60 ∧ sms a ∧ sms b ∧ sms c
def sms : List api_Node → Prop
  | [] => True
  | x :: r => sm x ∧ sms r
end
theorem nn_eq (x : api_Node) : nn x = 1 + nns x.L + nns x.Then + nns x.Else := by cases x; rw [nn]
theorem dp_eq (x : api_Node) : dp x = 1 + max (dps x.L) (max (dps x.Then) (dps x.Else)) := by cases x; rw [dp]
theorem sm_eq (x : api_Node) : sm x ↔ (x.Name.length ≤ 40 ∧ x.Text.length ≤ 60 ∧ sms x.L ∧ sms x.Then ∧ sms x.Else) := by cases x; rw [sm]
theorem nn_pos (x : api_Node) : 1 ≤ nn x := by rw [nn_eq]; omega
theorem nns_len : ∀ l : List api_Node, l.length ≤ nns l
  | [] => by simp [nns]
  | x :: r => by have := nns_len r; have := nn_pos x; simp [nns]; omega
theorem nns_mem : ∀ {l : List api_Node} {x : api_Node}, x ∈ l → nn x ≤ nns l
  | y :: r, x, h => by
    rcases List.mem_cons.1 h with rfl | h
    · simp [nns]
    · have := nns_mem h; simp [nns]; omega
def lightG (g : List api_Node → Nat → List api_Node × Nat) : List api_Node → Nat → List api_Node × Nat
  | [], n => ([], n)
  | x :: r, n => if n = 0 then ([], 0) else
    (⟨x.Kind, x.Name.take 40, x.Text.take 60, x.N, (g x.L (n - 1)).1, (g x.Then (g x.L (n - 1)).2).1, (g x.Else (g x.Then (g x.L (n - 1)).2).2).1⟩ ::
      (lightG g r (g x.Else (g x.Then (g x.L (n - 1)).2).2).2).1, (lightG g r (g x.Else (g x.Then (g x.L (n - 1)).2).2).2).2)
def lightP : Nat → List api_Node → Nat → List api_Node × Nat
  | 0, _, n => ([], n)
  | d + 1, l, n => lightG (lightP d) l n
def LG (d : Nat) (g : List api_Node → Nat → List api_Node × Nat) : Prop := ∀ (l : List api_Node) (n : Nat), nns (g l n).1 + (g l n).2 = n ∧ dps (g l n).1 ≤ d ∧ sms (g l n).1
theorem lightG_ok {d : Nat} {g : List api_Node → Nat → List api_Node × Nat} (hg : LG d g) : LG (d + 1) (lightG g) := fun l => by
  induction l with
  | nil => intro n; simp [lightG, nns, dps, sms]
  | cons x r ih =>
    intro n
    unfold lightG
    split
    · subst_vars; simp [nns, dps, sms]
    · obtain ⟨a1, a2, a3⟩ := hg x.L (n - 1)
      obtain ⟨b1, b2, b3⟩ := hg x.Then (g x.L (n - 1)).2
      obtain ⟨c1, c2, c3⟩ := hg x.Else (g x.Then (g x.L (n - 1)).2).2
      obtain ⟨d1, d2, d3⟩ := ih (g x.Else (g x.Then (g x.L (n - 1)).2).2).2
      simp only [nns, nn_eq, dps, dp_eq, sms, sm_eq]
      refine ⟨by omega, by omega, ⟨?_, ?_, a3, b3, c3⟩, d3⟩
      · simp; omega
      · simp; omega
theorem lightP_ok : ∀ d, LG d (lightP d)
  | 0 => fun l n => by simp [lightP, nns, dps, sms]
  | d + 1 => lightG_ok (lightP_ok d)
theorem takeMin {l : List UInt8} {k : Nat} : (l.take (if (k : Int) < (l.length : Int) then (k : Int) else (l.length : Int)).toNat).drop (0 : Int).toNat = l.take k := by
  split
  · simp
  · simp
    rw [List.take_of_length_le (by omega)]
theorem cutMin (l : List UInt8) (k : Nat) : cutL l 0 (if (k : Int) < (l.length : Int) then (k : Int) else (l.length : Int)) = some (l.take k) := by
  rw [cutL_ok (by omega) (by split <;> omega) (by split <;> omega), takeMin]
def LIs (g : List api_Node → Nat → List api_Node × Nat) (f : List api_Node → Int → Option (List api_Node × Int)) : Prop := ∀ (l : List api_Node) (n : Nat), n ≤ 60 → f l n = some ((g l n).1, ((g l n).2 : Int))
theorem light_L1 {d : Nat} (hd : d + 1 ≤ 15) (hf : LIs (lightP d) (fun l n => nunciolaw19_Light l d n)) (l : List api_Node) : ∀ k, k ≤ l.length → ∀ (n : Nat) (acc : List api_Node), acc.length = k → k + n ≤ 60 →
    nunciolaw19_Light_L1 l ((d + 1 : Nat) : Int) n acc k = some (((lightG (lightP d) (l.drop k) n).2 : Int), acc ++ (lightG (lightP d) (l.drop k) n).1) := by
  refine upto ?_ fun k hk ih => ?_
  · intro n acc _ _
    rw [nunciolaw19_Light_L1]
    simp [lightG]
  · intro n acc ha hn
    rw [nunciolaw19_Light_L1, dropE hk]
    have h40 := cutMin (l[k].Name) 40
    have h60 := cutMin (l[k].Text) 60
    simp only [ltI, hk, decide_true, if_true]
    by_cases h0 : n = 0
    · subst h0
      simp [lightG]
    · have e1 : wr (((d + 1 : Nat) : Int) - 1) = d := by rw [wr_in (by omega) (by omega)]; omega
      have e2 : wr ((n : Int) - 1) = ((n - 1 : Nat) : Int) := by rw [wr_in (by omega) (by omega)]; omega
      have hpos : decide ((n : Int) > 0) = true := decide_eq_true (by omega)
      have hpos2 : decide (((d + 1 : Nat) : Int) > 0) = true := decide_eq_true (by omega)
      simp only [hpos, hpos2, if_true, bind_some', idx_nat, getE hk, e1, e2]
      rw [show (40 : Int) = ((40 : Nat) : Int) from rfl, h40, bind_some', show (60 : Int) = ((60 : Nat) : Int) from rfl, h60, bind_some']
      obtain ⟨a1, -, -⟩ := lightP_ok d l[k].L (n - 1)
      have f1 := hf l[k].L (n - 1) (by omega)
      obtain ⟨b1, -, -⟩ := lightP_ok d l[k].Then (lightP d l[k].L (n - 1)).2
      have f2 := hf l[k].Then (lightP d l[k].L (n - 1)).2 (by omega)
      obtain ⟨c1, -, -⟩ := lightP_ok d l[k].Else (lightP d l[k].Then (lightP d l[k].L (n - 1)).2).2
      have f3 := hf l[k].Else (lightP d l[k].Then (lightP d l[k].L (n - 1)).2).2 (by omega)
      simp only at f1 f2 f3
      simp only [f1, f2, f3, bind_some']
      rw [appL_ok (by simp; omega) (by simp; omega), bind_some', wr_succ (by omega)]
      rw [ih _ _ (by simp [ha]) (by omega), lightG, if_neg h0]
      simp
theorem light_is : ∀ d, d ≤ 15 → LIs (lightP d) (fun l n => nunciolaw19_Light l (d : Nat) n)
  | 0, _ => fun l n hn => by
    have h0 : decide (((0 : Nat) : Int) > 0) = false := rfl
    show nunciolaw19_Light l ((0 : Nat) : Int) n = _
    rw [nunciolaw19_Light, nunciolaw19_Light_L1]
    simp only [h0, bind_some']
    have e : ∀ b c : Bool, (if b = true then if c = true then some false else some false else some false : Option Bool) = some false := fun b c => by cases b <;> cases c <;> rfl
    rw [e]
    rfl
  | d + 1, h => fun l n hn => by
    have := light_L1 h (light_is d (by omega)) l 0 (by omega) n [] rfl (by omega)
    show nunciolaw19_Light l ((d + 1 : Nat) : Int) n = _
    rw [nunciolaw19_Light]
    rw [show ((0 : Nat) : Int) = 0 from rfl] at this
    rw [this]
    simp [lightP]
theorem light_some (l : List api_Node) : nunciolaw19_light l = some (lightP 15 l 60).1 := by
  have := light_is 15 (by omega) l 60 (by omega)
  rw [nunciolaw19_light]
  simp only at this
  rw [show (15 : Int) = ((15 : Nat) : Int) from rfl, show (60 : Int) = ((60 : Nat) : Int) from rfl, this]
  rfl
/-- What is looked at is small. -/
theorem light_small (l : List api_Node) : nns (lightP 15 l 60).1 ≤ 60 ∧ dps (lightP 15 l 60).1 ≤ 15 ∧ sms (lightP 15 l 60).1 := by
  obtain ⟨h1, h2, h3⟩ := lightP_ok 15 l 60
  exact ⟨by omega, h2, h3⟩

mutual
def sameN : api_Node → api_Node → Bool
  | ⟨k, s, t, n, a, b, c⟩, y => k == y.Kind && (s == y.Name && (t == y.Text && (n == y.N && (sameL a y.L && (sameL b y.Then && sameL c y.Else)))))
def sameL : List api_Node → List api_Node → Bool
  | [], m => m.isEmpty
  | x :: r, m => match m with
    | [] => false
    | y :: q => sameN x y && sameL r q
end
section
variable (n : Nat) (ih : ∀ a b : List api_Node, nns a ≤ n → tree_Same a b = some (sameL a b))
include ih
end
section
variable (n : Nat) (ih : ∀ a b : List api_Node, nns a ≤ n → R19_Same a b = some (sameL a b))
include ih
end
end Go.Proofs.Ytlhjieapkcnghaa
end

section
namespace Go.Proofs.Ytlhjieapkcnghaa
open Go.RowKit

def smallB (c : UInt8) : Bool := decide (97 ≤ c.toNat) && decide (c.toNat ≤ 122)
def digB (c : UInt8) : Bool := decide (48 ≤ c.toNat) && decide (c.toNat ≤ 57)
def letB (c : UInt8) : Bool := smallB c || (digB c || c.toNat == 95)
def headB : List UInt8 → Bool
  | [] => false
  | c :: _ => decide (97 ≤ c.toNat)
theorem headB_cons (c : UInt8) (r : List UInt8) : headB (c :: r) = decide (97 ≤ c.toNat) := rfl
def wordP (s : List UInt8) : Bool := !(s == []) && (decide (s.length ≤ 32) && (headB s && s.all letB))
theorem geN (n k : Nat) : decide ((n : Int) ≥ (k : Int)) = decide (k ≤ n) := by
  by_cases h : k ≤ n
  · rw [decide_eq_true h, decide_eq_true (by omega : (n : Int) ≥ k)]
  · rw [decide_eq_false h, decide_eq_false (by omega)]
theorem leN (n k : Nat) : decide ((n : Int) ≤ (k : Int)) = decide (n ≤ k) := by
  by_cases h : n ≤ k
  · rw [decide_eq_true h, decide_eq_true (by omega : (n : Int) ≤ k)]
  · rw [decide_eq_false h, decide_eq_false (by omega)]
theorem eqN (n k : Nat) : ((n : Int) == (k : Int)) = (n == k) := by
  by_cases h : n = k
  · subst h; simp
  · rw [beq_eq_false_iff_ne.2 h, beq_eq_false_iff_ne.2 (by omega)]
theorem lDigit (c : UInt8) : lex_digit (c.toNat : Int) = some (digB c) := by
  have a := geN c.toNat 48
  have b := leN c.toNat 57
  rw [lex_digit]
  rw [show (48 : Int) = ((48 : Nat) : Int) from rfl, show (57 : Int) = ((57 : Nat) : Int) from rfl, a, b, digB]
  cases decide (48 ≤ c.toNat) <;> rfl
theorem rDigit (c : UInt8) : R18_digit (c.toNat : Int) = some (digB c) := by
  have a := geN c.toNat 48
  have b := leN c.toNat 57
  rw [R18_digit]
  rw [show (48 : Int) = ((48 : Nat) : Int) from rfl, show (57 : Int) = ((57 : Nat) : Int) from rfl, a, b, digB]
  cases decide (48 ≤ c.toNat) <;> rfl
theorem rSmall (c : UInt8) : R18_small (c.toNat : Int) = some (smallB c) := by
  have a := geN c.toNat 97
  have b := leN c.toNat 122
  rw [R18_small]
  rw [show (97 : Int) = ((97 : Nat) : Int) from rfl, show (122 : Int) = ((122 : Nat) : Int) from rfl, a, b, smallB]
  cases decide (97 ≤ c.toNat) <;> rfl
theorem lLetter (c : UInt8) : lex_letter (c.toNat : Int) = some (letB c) := by
  have a := geN c.toNat 97
  have b := leN c.toNat 122
  have d := eqN c.toNat 95
  rw [lex_letter, lDigit]
  rw [show (97 : Int) = ((97 : Nat) : Int) from rfl, show (122 : Int) = ((122 : Nat) : Int) from rfl, show (95 : Int) = ((95 : Nat) : Int) from rfl, a, b, d, letB, smallB]
  simp only [bind_some']
  cases decide (97 ≤ c.toNat) <;> cases decide (c.toNat ≤ 122) <;> cases digB c <;> cases (c.toNat == 95) <;> rfl
theorem lWordL (s : List UInt8) (hs : s.length < 9223372036854775807) : ∀ k, k ≤ s.length → lex_Word_L1 s k = some (if (s.drop k).all letB then .inl () else .inr ()) := by
  refine upto ?_ fun k hk ih => ?_
  · rw [lex_Word_L1]; simp
  · rw [lex_Word_L1, wr_succ (by omega), ih]
    simp only [ltI, hk, decide_true, if_true, idx_nat, getE hk, bind_some', lLetter]
    rw [dropE hk, List.all_cons]
    cases letB s[k] <;> rfl
theorem lWord (s : List UInt8) (hs : s.length < 9223372036854775807) : lex_Word s = some (wordP s) := by
  have h := lWordL s hs 0 (by omega)
  rw [lex_Word, show (0 : Int) = ((0 : Nat) : Int) from rfl, h, List.drop_zero, wordP]
  have e := leN s.length 32
  rw [show (32 : Int) = ((32 : Nat) : Int) from rfl, e]
  cases ha : s.all letB with
  | false => cases (s == []) <;> cases decide (s.length ≤ 32) <;> cases headB s <;> rfl
  | true =>
    cases s with
    | nil => rfl
    | cons c r =>
      have g := geN c.toNat 97
      rw [show (97 : Int) = ((97 : Nat) : Int) from rfl]
      simp only [if_true, bind_some', idx_nat, List.getElem?_cons_zero, g, headB_cons]
      have e0 : ((c :: r) == ([] : List UInt8)) = false := rfl
      rw [e0]
      cases decide ((c :: r).length ≤ 32) <;> simp
theorem letSmall {c : UInt8} (h : letB c = true) : smallB c = decide (97 ≤ c.toNat) := by
  unfold letB smallB digB at *
  by_cases h1 : 97 ≤ c.toNat
  · rw [decide_eq_true h1] at h ⊢
    simp at h ⊢
    omega
  · rw [decide_eq_false h1]; rfl
theorem rWordL (s : List UInt8) (hs : s.length < 9223372036854775807) : ∀ k, k ≤ s.length → R18_Word_L1 s k = some (if (s.drop k).all letB then .inl () else .inr ()) := by
  refine upto ?_ fun k hk ih => ?_
  · rw [R18_Word_L1]; simp
  · have d := eqN s[k].toNat 95
    rw [R18_Word_L1, wr_succ (by omega), ih]
    simp only [ltI, hk, decide_true, if_true, idx_nat, getE hk, bind_some', rSmall, rDigit]
    rw [dropE hk, List.all_cons, letB]
    have e : (((s[k].toNat : Nat) : Int) != 95) = !(s[k].toNat == 95) := by rw [← d]; rfl
    rw [e]
    cases smallB s[k] <;> cases digB s[k] <;> cases (s[k].toNat == 95) <;> rfl
theorem rWord (s : List UInt8) (hs : s.length < 9223372036854775807) : R18_Word s = some (wordP s) := by
  have h := rWordL s hs 0 (by omega)
  rw [R18_Word, show (0 : Int) = ((0 : Nat) : Int) from rfl, h, List.drop_zero, wordP]
  cases s with
  | nil => rfl
  | cons c r =>
    have e1 : decide ((((c :: r).length : Nat) : Int) < 1) = false := decide_eq_false (by simp; omega)
    have e2 : decide ((((c :: r).length : Nat) : Int) > 32) = !(decide ((c :: r).length ≤ 32)) := by
      by_cases h : (c :: r).length ≤ 32
      · rw [decide_eq_true h, decide_eq_false (by omega)]; rfl
      · rw [decide_eq_false h, decide_eq_true (by omega)]; rfl
    simp only [e1, e2, Bool.false_eq_true, if_false, idx_nat, List.getElem?_cons_zero, bind_some', rSmall, headB_cons]
    have e0 : ((c :: r) == ([] : List UInt8)) = false := rfl
    rw [e0]
    cases ha : (c :: r).all letB with
    | true =>
      have hl : letB c = true := by rw [List.all_cons, Bool.and_eq_true] at ha; exact ha.1
      rw [letSmall hl]
      cases decide ((c :: r).length ≤ 32) <;> cases decide (97 ≤ c.toNat) <;> rfl
    | false => cases decide ((c :: r).length ≤ 32) <;> cases decide (97 ≤ c.toNat) <;> cases smallB c <;> rfl
def kws : List (List UInt8) := [[105, 102], [101, 108, 115, 101], [101, 110, 100], [101, 97, 99, 104], [105, 110], [108, 101, 116], [117, 115, 101], [116, 114, 117, 101], [102, 97, 108, 115, 101], [115, 101, 99, 114, 101, 116]]
def nameP (s : List UInt8) : Bool := !(kws.any (· == s)) && wordP s
theorem tName (s : List UInt8) (hs : s.length < 9223372036854775807) : tree_Name s = some (nameP s) := by
  have c : ∀ a : List UInt8, (a == s) = (s == a) := fun a => by rw [Bool.beq_comm]
  rw [tree_Name, lWord s hs, nameP]
  simp only [kws, List.any_cons, List.any_nil, c]
  generalize (s == [105, 102]) = a1
  generalize (s == [101, 108, 115, 101]) = a2
  generalize (s == [101, 110, 100]) = a3
  generalize (s == [101, 97, 99, 104]) = a4
  generalize (s == [105, 110]) = a5
  generalize (s == [108, 101, 116]) = a6
  generalize (s == [117, 115, 101]) = a7
  generalize (s == [116, 114, 117, 101]) = a8
  generalize (s == [102, 97, 108, 115, 101]) = a9
  generalize (s == [115, 101, 99, 114, 101, 116]) = a10
  generalize wordP s = b
  cases a1
  · cases a2
    · cases a3
      · cases a4
        · cases a5
          · cases a6
            · cases a7
              · cases a8
                · cases a9
                  · cases a10 <;> cases b <;> rfl
                  · rfl
                · rfl
              · rfl
            · rfl
          · rfl
        · rfl
      · rfl
    · rfl
  · rfl
theorem rNameL (s : List UInt8) (l : List (List UInt8)) (hl : l.length < 9223372036854775807) : ∀ k, k ≤ l.length → R19_Name_L1 s l k = some (if (l.drop k).any (· == s) then .inr () else .inl ()) := by
  refine upto ?_ fun k hk ih => ?_
  · rw [R19_Name_L1]; simp
  · rw [R19_Name_L1, wr_succ (by omega), ih]
    simp only [ltI, hk, decide_true, if_true, idx_nat, getE hk, bind_some']
    rw [dropE hk, List.any_cons]
    cases (l[k] == s) <;> rfl
theorem rName (s : List UInt8) (hs : s.length < 9223372036854775807) : R19_Name s = some (nameP s) := by
  have h := rNameL s kws (by decide) 0 (by omega)
  rw [R19_Name, R19_Words]
  simp only [bind_some', rWord s hs]
  rw [show (0 : Int) = ((0 : Nat) : Int) from rfl]
  show (R19_Name_L1 s kws _ >>= _) = _
  rw [h, List.drop_zero, nameP]
  cases kws.any (· == s) <;> rfl
theorem word_ne {s : List UInt8} (h : wordP s = true) : (s == []) = false := by
  unfold wordP at h
  cases hs : (s == []) with
  | false => rfl
  | true => rw [hs] at h; cases h
theorem name_word {s : List UInt8} (h : nameP s = true) : wordP s = true := by
  unfold nameP at h
  cases hw : wordP s with
  | true => rfl
  | false => rw [hw] at h; simp at h

def hasB : List UInt8 → Bool
  | [] => false
  | c :: r => (c == 123 && r.head? == some 123) || hasB r
theorem pre2 (l : List UInt8) : ([123, 123] : List UInt8).isPrefixOf l = (match l with | [] => false | c :: r => c == 123 && r.head? == some 123) := by
  match l with
  | [] => rfl
  | [c] => simp [List.isPrefixOf]
  | c :: d :: r =>
    simp only [List.isPrefixOf, List.head?_cons]
    have e1 : (123 == c) = (c == 123) := Bool.beq_comm
    have e2 : (123 == d) = (d == 123) := Bool.beq_comm
    rw [e1, e2]
    cases (c == 123) <;> cases hd : (d == 123) <;> simp_all
theorem has_index : ∀ l : List UInt8, decide (Lib.index l [123, 123] ≥ 0) = hasB l
  | [] => rfl
  | c :: r => by
    have ih := has_index r
    have hg := Lib.index_ge r [123, 123]
    have hp2 : ([123, 123] : List UInt8).isPrefixOf (c :: r) = (c == 123 && r.head? == some 123) := pre2 (c :: r)
    unfold Lib.index
    rw [hp2, hasB]
    generalize (c == 123 && r.head? == some 123) = b
    cases b with
    | true => rfl
    | false =>
      simp only [Bool.false_or]
      by_cases h1 : Lib.index r [123, 123] = -1
      · rw [h1] at ih ⊢
        rw [← ih]; rfl
      · rw [if_neg (by decide), if_neg (by simpa using h1), ← ih, decide_eq_true (by omega), decide_eq_true (by omega)]
theorem tHas (s : List UInt8) (hs : s.length < 4294967281) : strings_Contains s [123, 123] = some (hasB s) := by
  rw [strings_Contains, strings_Index, internal_stringslite_Index, need_ok hs]
  simp only [bind_some', has_index]
theorem rBegins (s : List UInt8) (k : Nat) (hk : k < s.length) (hs : s.length < 4294967281) : R01_Begins s [123, 123] k = some (match s.drop k with | [] => false | c :: r => c == 123 && r.head? == some 123) := by
  have e1 : decide ((k : Int) ≥ 0) = true := decide_eq_true (by omega)
  have e2 : decide ((k : Int) ≤ (s.length : Int)) = true := decide_eq_true (by omega)
  have e3 : wr ((s.length : Int) - k) = ((s.length - k : Nat) : Int) := by rw [wr_in (by omega) (by omega)]; omega
  have e4 : wr ((k : Int) + (([123, 123] : List UInt8).length : Int)) = ((k + 2 : Nat) : Int) := by rw [wr_in (by simp; omega) (by simp; omega)]; simp
  rw [R01_Begins, e1, e2, e3, e4]
  simp only [if_true]
  by_cases h2 : 2 ≤ s.length - k
  · have e5 : decide (((([123, 123] : List UInt8).length : Nat) : Int) ≤ ((s.length - k : Nat) : Int)) = true := decide_eq_true (by simp; omega)
    rw [e5, cutL_ok (by omega) (by omega) (by omega)]
    simp only [if_true, bind_some']
    have hk1 : k + 1 < s.length := by omega
    have e6 : (s.take (k + 2)).drop k = [s[k], s[k + 1]] := by
      apply List.ext_getElem
      · simp; omega
      · intro i h1 h2
        simp at h1 h2
        match i, h2 with
        | 0, _ => simp
        | 1, _ => simp
    rw [Int.toNat_natCast, Int.toNat_natCast, e6, dropE hk, dropE hk1]
    simp only [List.head?_cons]
    have : (([s[k], s[k + 1]] : List UInt8) == [123, 123]) = (s[k] == 123 && (some s[k + 1] == some 123)) := by
      have e : (some s[k + 1] == some (123 : UInt8)) = (s[k + 1] == 123) := rfl
      rw [e, List.cons_beq_cons, List.cons_beq_cons]
      show (s[k] == 123 && (s[k + 1] == 123 && true)) = _
      rw [Bool.and_true]
    rw [this]
  · have e5 : decide (((([123, 123] : List UInt8).length : Nat) : Int) ≤ ((s.length - k : Nat) : Int)) = false := decide_eq_false (by simp; omega)
    rw [e5, dropE hk]
    have : s.drop (k + 1) = [] := List.drop_eq_nil_of_le (by omega)
    rw [this]
    simp
theorem rStandsL (s : List UInt8) (hs : s.length < 4294967281) : ∀ k, k ≤ s.length → R19_stands_L1 s [123, 123] k = some (if hasB (s.drop k) then .inr () else .inl ()) := by
  refine upto ?_ fun k hk ih => ?_
  · rw [R19_stands_L1]; simp [hasB]
  · rw [R19_stands_L1, wr_succ (by omega), ih, rBegins s k hk hs]
    simp only [ltI, hk, decide_true, if_true, bind_some']
    rw [dropE hk, hasB]
    show (if (s[k] == 123 && (s.drop (k + 1)).head? == some 123) = true then _ else _) = _
    generalize (s[k] == 123 && (s.drop (k + 1)).head? == some 123) = b
    cases b <;> rfl
theorem rStands (s : List UInt8) (hs : s.length < 4294967281) : R19_stands s [123, 123] = some (hasB s) := by
  have h := rStandsL s hs 0 (by omega)
  rw [R19_stands, show (0 : Int) = ((0 : Nat) : Int) from rfl, h, List.drop_zero]
  cases hasB s <;> rfl
def endB (s : List UInt8) : Bool := s.getLast? == some 123
theorem tEnd (s : List UInt8) (hs : s.length < 4294967281) : strings_HasSuffix s [123] = some (endB s) := by
  rw [strings_HasSuffix, internal_stringslite_HasSuffix, endB]
  cases hl : s.getLast? with
  | none =>
    have : s = [] := List.getLast?_eq_none_iff.1 hl
    subst this
    rfl
  | some c =>
    have hne : s ≠ [] := fun h => by subst h; cases hl
    have hpos : 0 < s.length := List.length_pos_iff.2 hne
    have e1 : decide ((s.length : Int) ≥ ((([123] : List UInt8).length : Nat) : Int)) = true := decide_eq_true (by simp; omega)
    have e2 : wr ((s.length : Int) - ((([123] : List UInt8).length : Nat) : Int)) = ((s.length - 1 : Nat) : Int) := by rw [wr_in (by simp; omega) (by simp; omega)]; simp; omega
    rw [e1, e2, cutL_ok (by omega) (by omega) (by omega)]
    simp only [if_true, bind_some', Int.toNat_natCast, List.take_length]
    have e3 : s.drop (s.length - 1) = [c] := by
      have h1 : s.length - 1 < s.length := by omega
      rw [dropE h1, List.drop_eq_nil_of_le (by omega)]
      rw [List.getLast?_eq_getElem?, getE h1] at hl
      cases hl; rfl
    rw [e3]
    simp
theorem rEnd (s : List UInt8) (hs : s.length < 4294967281) (hne : (s == []) = false) : (idx s (wr ((s.length : Int) - 1)) >>= fun x => some ((x.toNat : Int) == 123)) = some (endB s) := by
  have hne : s ≠ [] := fun h => by subst h; cases hne
  have hpos : 0 < s.length := List.length_pos_iff.2 hne
  have e2 : wr ((s.length : Int) - 1) = ((s.length - 1 : Nat) : Int) := by rw [wr_in (by omega) (by omega)]; omega
  have h1 : s.length - 1 < s.length := by omega
  rw [e2, idx_nat, getE h1, bind_some', endB, List.getLast?_eq_getElem?, getE h1]
  have d := eqN s[s.length - 1].toNat 123
  rw [show (123 : Int) = ((123 : Nat) : Int) from rfl, d]
  congr 1
  by_cases h : s[s.length - 1] = 123
  · rw [h]; rfl
  · have : s[s.length - 1].toNat ≠ 123 := fun e => h (UInt8.toNat_inj.1 (by rw [e]; rfl))
    rw [beq_eq_false_iff_ne.2 this]
    symm
    rw [beq_eq_false_iff_ne]
    intro e; exact h (Option.some.inj e)
end Go.Proofs.Ytlhjieapkcnghaa
end

section
namespace Go.Proofs.Ytlhjieapkcnghaa
open Go.RowKit

def bytesN (n : Nat) : List Nat :=
  if n < 128 then [n] else if n < 2048 then [192 + n / 64, 128 + n % 64] else if n < 65536 then [224 + n / 4096, 128 + n / 64 % 64, 128 + n % 64] else [240 + n / 262144, 128 + n / 4096 % 64, 128 + n / 64 % 64, 128 + n % 64]
theorem bytes_eq (l : List Nat) (h : ∀ x ∈ l, x < 256) (m : List UInt8) : (l.map UInt8.ofNat == m) = decide (l = m.map UInt8.toNat) := by
  have key : l.map UInt8.ofNat = m ↔ l = m.map UInt8.toNat := by
    constructor
    · intro e
      subst e
      rw [List.map_map]
      conv => lhs; rw [← List.map_id l]
      refine List.map_congr_left fun x hx => ?_
      have := h x hx
      show x = (UInt8.ofNat x).toNat
      rw [UInt8.toNat_ofNat', Nat.mod_eq_of_lt this]
    · intro e
      subst e
      rw [List.map_map]
      conv => rhs; rw [← List.map_id m]
      exact List.map_congr_left fun x _ => by simp
  by_cases he : l.map UInt8.ofNat = m
  · rw [decide_eq_true (key.1 he), beq_iff_eq]; exact he
  · rw [decide_eq_false (fun k => he (key.2 k)), beq_eq_false_iff_ne]; exact he
theorem b2s_ok (l : List Nat) (h : ∀ x ∈ l, x < 256) : b2s (l.map fun x : Nat => (x : Int)) = some (l.map UInt8.ofNat) := by
  unfold b2s
  rw [if_pos]
  · rw [List.map_map]; rfl
  · rw [List.all_eq_true]
    intro n hn
    obtain ⟨x, hx, rfl⟩ := List.mem_map.1 hn
    have := h x hx
    simp only [decide_eq_true_eq]
    omega
theorem td (n k : Nat) : ((n : Int).tdiv (k : Int)) = ((n / k : Nat) : Int) := by rw [Int.tdiv_eq_ediv_of_nonneg (by omega)]; rfl
theorem tm (n k : Nat) : ((n : Int).tmod (k : Int)) = ((n % k : Nat) : Int) := by rw [Int.tmod_eq_emod_of_nonneg (by omega)]; rfl
theorem wrN (n : Nat) (h : n < 9000000000000) : wr (n : Int) = (n : Int) := wr_in (by omega) (by omega)
theorem u8N (n : Nat) (h : n < 256) : IntKind.u8.wrap (n : Int) = (n : Int) := u8_in (by omega) (by omega)
set_option maxRecDepth 20000 in
theorem rBytes (n : Nat) (h : runeB n = true) : R02_Bytes (n : Int) = some ((bytesN n).map UInt8.ofNat) := by
  have hn : n ≤ 1114111 := by unfold runeB at h; rw [Bool.and_eq_true] at h; exact of_decide_eq_true h.1
  have a1 : decide ((n : Int) < 128) = decide (n < 128) := ltI n 128
  have a2 : decide ((n : Int) < 2048) = decide (n < 2048) := ltI n 2048
  have a3 : decide ((n : Int) < 65536) = decide (n < 65536) := ltI n 65536
  have d64 : (n : Int).tdiv 64 = ((n / 64 : Nat) : Int) := td n 64
  have m64 : (n : Int).tmod 64 = ((n % 64 : Nat) : Int) := tm n 64
  have d4096 : (n : Int).tdiv 4096 = ((n / 4096 : Nat) : Int) := td n 4096
  have d262 : (n : Int).tdiv 262144 = ((n / 262144 : Nat) : Int) := td n 262144
  have w1 : ∀ a b : Nat, a + b < 256 → IntKind.u8.wrap (wr ((a : Int) + (b : Int))) = ((a + b : Nat) : Int) := fun a b h => by
    rw [wr_in (by omega) (by omega), u8_in (by omega) (by omega)]; rfl
  rw [R02_Bytes, rIsR, h]
  simp only [bind_some', Bool.not_true, Bool.false_eq_true, if_false, a1, a2, a3, d64, m64, d4096, d262]
  rw [wrN (n / 64) (by omega), wrN (n / 4096) (by omega), wrN (n / 262144) (by omega)]
  have t64 : (((n / 64 : Nat) : Int)).tmod 64 = ((n / 64 % 64 : Nat) : Int) := tm (n / 64) 64
  have t4096 : (((n / 4096 : Nat) : Int)).tmod 64 = ((n / 4096 % 64 : Nat) : Int) := tm (n / 4096) 64
  rw [t64, t4096]
  unfold bytesN
  by_cases h1 : n < 128
  · rw [decide_eq_true h1, if_pos h1, u8N n (by omega)]
    simp only [if_true]
    have := b2s_ok [n] (by simp; omega)
    simp only [List.map_cons, List.map_nil] at this
    rw [this]; rfl
  rw [decide_eq_false h1, if_neg h1]
  by_cases h2 : n < 2048
  · rw [decide_eq_true h2, if_pos h2]
    have e1 := w1 192 (n / 64) (by omega)
    have e2 := w1 128 (n % 64) (by omega)
    have := b2s_ok [192 + n / 64, 128 + n % 64] (by simp; omega)
    simp only [List.map_cons, List.map_nil] at this
    simp only [Bool.false_eq_true, if_false, if_true]
    rw [show (192 : Int) = ((192 : Nat) : Int) from rfl, show (128 : Int) = ((128 : Nat) : Int) from rfl, e1, e2, this]; rfl
  rw [decide_eq_false h2, if_neg h2]
  by_cases h3 : n < 65536
  · rw [decide_eq_true h3, if_pos h3]
    have e1 := w1 224 (n / 4096) (by omega)
    have e2 := w1 128 (n / 64 % 64) (by omega)
    have e3 := w1 128 (n % 64) (by omega)
    have := b2s_ok [224 + n / 4096, 128 + n / 64 % 64, 128 + n % 64] (by simp; omega)
    simp only [List.map_cons, List.map_nil] at this
    simp only [Bool.false_eq_true, if_false, if_true]
    rw [show (224 : Int) = ((224 : Nat) : Int) from rfl, show (128 : Int) = ((128 : Nat) : Int) from rfl, e1, e2, e3, this]; rfl
  rw [decide_eq_false h3, if_neg h3]
  have e0 := w1 240 (n / 262144) (by omega)
  have e1 := w1 128 (n / 4096 % 64) (by omega)
  have e2 := w1 128 (n / 64 % 64) (by omega)
  have e3 := w1 128 (n % 64) (by omega)
  have := b2s_ok [240 + n / 262144, 128 + n / 4096 % 64, 128 + n / 64 % 64, 128 + n % 64] (by simp; omega)
  simp only [List.map_cons, List.map_nil] at this
  simp only [Bool.false_eq_true, if_false]
  rw [show (240 : Int) = ((240 : Nat) : Int) from rfl, show (128 : Int) = ((128 : Nat) : Int) from rfl, e0, e1, e2, e3, this]; rfl
theorem bytesN_lt (n : Nat) (h : n ≤ 1114111) : ∀ x ∈ bytesN n, x < 256 := by
  unfold bytesN
  split
  · simp; omega
  · split
    · simp; omega
    · split <;> simp <;> omega
theorem rTest (s : List UInt8) (k m : Nat) (hm : k + m ≤ s.length) (hs : s.length < 9000000000000) (n : Int) :
    ( if (decide (n ≥ 0)) = true then
        R02_Rune n >>= fun x11 =>
        if x11 = true then
          R02_Bytes n >>= fun x12 =>
          cutL s k (wr ((k : Int) + m)) >>= fun x13 =>
          some (x12 == x13)
        else
          some false
      else
        some false : Option Bool) = some (decide (0 ≤ n) && (runeB n.toNat && decide (bytesN n.toNat = ((s.take (k + m)).drop k).map UInt8.toNat))) := by
  have e : wr ((k : Int) + m) = ((k + m : Nat) : Int) := by rw [wr_in (by omega) (by omega)]; rfl
  by_cases h : 0 ≤ n
  · obtain ⟨v, rfl⟩ : ∃ v : Nat, n = v := ⟨n.toNat, by omega⟩
    rw [decide_eq_true (show (v : Int) ≥ 0 by omega), rIsR, e, cutL_ok (by omega) (by omega) (by omega)]
    simp only [if_true, bind_some', Int.toNat_natCast, Bool.true_and]
    cases hr : runeB v with
    | false => rfl
    | true =>
      have hv : v ≤ 1114111 := by unfold runeB at hr; rw [Bool.and_eq_true] at hr; exact of_decide_eq_true hr.1
      rw [rBytes v hr]
      simp only [if_true, bind_some', bytes_eq _ (bytesN_lt v hv), Bool.true_and]
  · rw [decide_eq_false (show ¬ n ≥ 0 from h)]; rfl

theorem wr64 (a b : Int) (ha : -3000000 ≤ a) (ha2 : a ≤ 3000000) (hb : 0 ≤ b) (hb2 : b ≤ 255) : wr ((wr ((wr (64 * a)) + (wr b))) - 128) = 64 * a + b - 128 := by
  rw [wr_in (n := 64 * a) (by omega) (by omega), wr_in (n := b) (by omega) (by omega), wr_in (n := 64 * a + b) (by omega) (by omega), wr_in (by omega) (by omega)]
/-- What the next byte adds. -/
def addN (a : Int) (c : UInt8) : Int := 64 * a + c.toNat - 128
theorem rL2 (s : List UInt8) (k : Nat) (v6 : List Int) (m : Nat) (hm : k + m ≤ s.length) (hm4 : m ≤ 4) (hs : s.length < 9000000000000) : ∀ d (i : Nat) (v : Int), i + d = m → 1 ≤ i → (i = 1 → -300 ≤ v ∧ v ≤ 300) → (i = 2 → -30000 ≤ v ∧ v ≤ 30000) → (i = 3 → -3000000 ≤ v ∧ v ≤ 3000000) →
    R02_Next_L2 s k v6 m v i = some (((s.drop (k + i)).take d).foldl addN v) := by
  intro d
  induction d with
  | zero =>
    intro i v hi _ _ _ _
    rw [R02_Next_L2, ltI, decide_eq_false (by omega : ¬ i < m)]
    simp
  | succ d ih =>
    intro i v hi hi1 h1 h2 h3
    have hk : k + i < s.length := by omega
    have e1 : wr ((k : Int) + i) = ((k + i : Nat) : Int) := by rw [wr_in (by omega) (by omega)]; rfl
    have hc := s[k + i].toNat_lt
    have hb : -3000000 ≤ v ∧ v ≤ 3000000 := by omega
    rw [R02_Next_L2, ltI, decide_eq_true (by omega : i < m), e1, wr_succ (by omega)]
    simp only [if_true, idx_nat, getE hk, bind_some']
    rw [wr64 v _ hb.1 hb.2 (by omega) (by omega), dropE hk, List.take_succ_cons, List.foldl_cons]
    exact ih (i + 1) (addN v s[k + i]) (by omega) (by omega) (by omega) (by unfold addN; omega) (by unfold addN; omega)
def leadL : List Int := [0, 0, 192, 224, 240]
/-- The number that so many bytes would be. -/
def numN (c : UInt8) (r : List UInt8) (m : Nat) : Int := (r.take (m - 1)).foldl addN ((c.toNat : Int) - (leadL[m]?.getD 0))
def tstB (c : UInt8) (r : List UInt8) (m : Nat) : Bool := decide (0 ≤ numN c r m) && (runeB (numN c r m).toNat && decide (bytesN (numN c r m).toNat = ((c :: r).take m).map UInt8.toNat))
theorem rL1 (s : List UInt8) (k : Nat) (hk : k < s.length) (hs : s.length < 9000000000000) (m : Nat) (h1 : 1 ≤ m) (h4 : m ≤ 4) :
    R02_Next_L1 s k leadL m = if k + m ≤ s.length then (if tstB s[k] (s.drop (k + 1)) m = true then some (.inr (numN s[k] (s.drop (k + 1)) m, (m : Int))) else R02_Next_L1 s k leadL ((m + 1 : Nat) : Int)) else some (.inl ()) := by
  have e0 : wr ((s.length : Int) - k) = ((s.length - k : Nat) : Int) := by rw [wr_in (by omega) (by omega)]; omega
  have a4 : decide ((m : Int) ≤ 4) = true := decide_eq_true (by omega)
  have hc := s[k].toNat_lt
  rw [R02_Next_L1, e0, a4]
  by_cases hm : k + m ≤ s.length
  · have a5 : decide ((m : Int) ≤ ((s.length - k : Nat) : Int)) = true := decide_eq_true (by omega)
    obtain ⟨ld, hld, hl0, hl1⟩ : ∃ ld : Int, leadL[m]? = some ld ∧ 0 ≤ ld ∧ ld ≤ 240 := by
      match m, h1, h4 with
      | 1, _, _ => exact ⟨0, rfl, by omega, by omega⟩
      | 2, _, _ => exact ⟨192, rfl, by omega, by omega⟩
      | 3, _, _ => exact ⟨224, rfl, by omega, by omega⟩
      | 4, _, _ => exact ⟨240, rfl, by omega, by omega⟩
    have ew : wr ((wr (s[k].toNat : Int)) - ld) = (s[k].toNat : Int) - ld := by rw [wr_in (n := (s[k].toNat : Int)) (by omega) (by omega), wr_in (by omega) (by omega)]
    have h2 := rL2 s k leadL m hm h4 hs (m - 1) 1 ((s[k].toNat : Int) - ld) (by omega) (by omega) (by omega) (by omega) (by omega)
    have en : numN s[k] (s.drop (k + 1)) m = ((s.drop (k + 1)).take (m - 1)).foldl addN ((s[k].toNat : Int) - ld) := by rw [numN, hld]; rfl
    rw [← en, show ((1 : Nat) : Int) = 1 from rfl] at h2
    have ht := rTest s k m hm hs (numN s[k] (s.drop (k + 1)) m)
    have et : ((s.take (k + m)).drop k) = ((s[k] :: s.drop (k + 1)).take m) := by rw [← dropE hk, List.drop_take]; congr 1; omega
    rw [et] at ht
    rw [a5, if_pos hm, wr_succ (by omega)]
    simp only [if_true, bind_some', idx_nat, getE hk, hld, ew, h2]
    rw [ht]
    rfl
  · have a5 : decide ((m : Int) ≤ ((s.length - k : Nat) : Int)) = false := decide_eq_false (by omega)
    rw [a5, if_neg hm]
    rfl
theorem tst1 (c : UInt8) (r : List UInt8) : tstB c r 1 = decide (c.toNat < 128) ∧ numN c r 1 = (c.toNat : Int) := by
  have hc := c.toNat_lt
  have en : numN c r 1 = (c.toNat : Int) := by simp [numN, leadL]
  refine ⟨?_, en⟩
  have hr : runeB c.toNat = true := by unfold runeB; rw [decide_eq_true (by omega), decide_eq_false (by omega)]; rfl
  rw [tstB, en, decide_eq_true (by omega), Int.toNat_natCast, hr]
  simp only [Bool.true_and, List.take_succ_cons, List.take_zero, List.map_cons, List.map_nil]
  unfold bytesN
  by_cases h : c.toNat < 128
  · rw [decide_eq_true h, if_pos h]; simp
  · rw [decide_eq_false h, if_neg h, if_pos (by omega)]
    simp
theorem tst2 (c c1 : UInt8) (r : List UInt8) : tstB c (c1 :: r) 2 = decide ((192 ≤ c.toNat ∧ c.toNat < 224) ∧ contB c1 = true ∧ 128 ≤ (c.toNat - 192) * 64 + (c1.toNat - 128)) ∧ numN c (c1 :: r) 2 = 64 * ((c.toNat : Int) - 192) + c1.toNat - 128 := by
  have hc := c.toNat_lt
  have hc1 := c1.toNat_lt
  have en : numN c (c1 :: r) 2 = 64 * ((c.toNat : Int) - 192) + c1.toNat - 128 := by simp [numN, leadL, addN]
  refine ⟨?_, en⟩
  rw [tstB, en]
  simp only [List.take_succ_cons, List.take_zero, List.map_cons, List.map_nil]
  have hcont : contB c1 = true ↔ (128 ≤ c1.toNat ∧ c1.toNat < 192) := by unfold contB; simp
  by_cases hn : 0 ≤ 64 * ((c.toNat : Int) - 192) + c1.toNat - 128
  · obtain ⟨n, hn2⟩ : ∃ n : Nat, 64 * ((c.toNat : Int) - 192) + c1.toNat - 128 = n := ⟨(64 * ((c.toNat : Int) - 192) + c1.toNat - 128).toNat, by omega⟩
    rw [hn2, Int.toNat_natCast, decide_eq_true (by omega), Bool.true_and]
    have hlt : n < 5000 := by omega
    have hr : runeB n = true := by unfold runeB; rw [decide_eq_true (by omega), decide_eq_false (by omega)]; rfl
    rw [hr, Bool.true_and]
    congr 1
    apply propext
    rw [hcont]
    unfold bytesN
    by_cases h1 : n < 128
    · rw [if_pos h1]
      constructor
      · intro h; simp at h
      · intro h; omega
    · rw [if_neg h1]
      by_cases h2 : n < 2048
      · rw [if_pos h2]
        simp only [List.cons.injEq, and_true]
        omega
      · rw [if_neg h2, if_pos (by omega)]
        constructor
        · intro h; simp at h
        · intro h; omega
  · rw [decide_eq_false hn, Bool.false_and, decide_eq_false]
    rw [hcont]; omega
theorem tst3 (c c1 c2 : UInt8) (r : List UInt8) : tstB c (c1 :: c2 :: r) 3 = decide ((224 ≤ c.toNat ∧ c.toNat < 240) ∧ contB c1 = true ∧ contB c2 = true ∧ 2048 ≤ ((c.toNat - 224) * 64 + (c1.toNat - 128)) * 64 + (c2.toNat - 128) ∧ runeB (((c.toNat - 224) * 64 + (c1.toNat - 128)) * 64 + (c2.toNat - 128)) = true) ∧
    numN c (c1 :: c2 :: r) 3 = 64 * (64 * ((c.toNat : Int) - 224) + c1.toNat - 128) + c2.toNat - 128 := by
  have hc := c.toNat_lt
  have hc1 := c1.toNat_lt
  have hc2 := c2.toNat_lt
  have en : numN c (c1 :: c2 :: r) 3 = 64 * (64 * ((c.toNat : Int) - 224) + c1.toNat - 128) + c2.toNat - 128 := by simp [numN, leadL, addN]
  refine ⟨?_, en⟩
  rw [tstB, en]
  simp only [List.take_succ_cons, List.take_zero, List.map_cons, List.map_nil]
  have hcont : contB c1 = true ↔ (128 ≤ c1.toNat ∧ c1.toNat < 192) := by unfold contB; simp
  have hcont2 : contB c2 = true ↔ (128 ≤ c2.toNat ∧ c2.toNat < 192) := by unfold contB; simp
  by_cases hn : 0 ≤ 64 * (64 * ((c.toNat : Int) - 224) + c1.toNat - 128) + c2.toNat - 128
  · obtain ⟨n, hn2⟩ : ∃ n : Nat, 64 * (64 * ((c.toNat : Int) - 224) + c1.toNat - 128) + c2.toNat - 128 = n := ⟨(64 * (64 * ((c.toNat : Int) - 224) + c1.toNat - 128) + c2.toNat - 128).toNat, by omega⟩
    rw [hn2, Int.toNat_natCast, decide_eq_true (by omega), Bool.true_and]
    have hlt : n < 200000 := by omega
    have key : bytesN n = [c.toNat, c1.toNat, c2.toNat] ↔ ((224 ≤ c.toNat ∧ c.toNat < 240) ∧ (128 ≤ c1.toNat ∧ c1.toNat < 192) ∧ (128 ≤ c2.toNat ∧ c2.toNat < 192) ∧ 2048 ≤ n) := by
      unfold bytesN
      by_cases h1 : n < 128
      · rw [if_pos h1]
        exact ⟨fun h => by simp at h, fun h => by omega⟩
      rw [if_neg h1]
      by_cases h2 : n < 2048
      · rw [if_pos h2]
        exact ⟨fun h => by simp at h, fun h => by omega⟩
      rw [if_neg h2]
      by_cases h3 : n < 65536
      · rw [if_pos h3]
        simp only [List.cons.injEq, and_true]
        omega
      · rw [if_neg h3]
        exact ⟨fun h => by simp at h, fun h => by omega⟩
    rw [Bool.eq_iff_iff]
    simp only [Bool.and_eq_true, decide_eq_true_eq]
    rw [key, hcont, hcont2]
    constructor
    · rintro ⟨hr, a, b, c', d⟩
      have e : ((c.toNat - 224) * 64 + (c1.toNat - 128)) * 64 + (c2.toNat - 128) = n := by omega
      exact ⟨a, b, c', by omega, by rw [e]; exact hr⟩
    · rintro ⟨a, b, c', d, hr⟩
      have e : ((c.toNat - 224) * 64 + (c1.toNat - 128)) * 64 + (c2.toNat - 128) = n := by omega
      rw [e] at hr d
      exact ⟨hr, a, b, c', d⟩
  · rw [decide_eq_false hn, Bool.false_and, decide_eq_false]
    rw [hcont, hcont2]; omega
theorem tst4 (c c1 c2 c3 : UInt8) (r : List UInt8) : tstB c (c1 :: c2 :: c3 :: r) 4 = decide ((240 ≤ c.toNat ∧ c.toNat < 248) ∧ contB c1 = true ∧ contB c2 = true ∧ contB c3 = true ∧ 65536 ≤ (((c.toNat - 240) * 64 + (c1.toNat - 128)) * 64 + (c2.toNat - 128)) * 64 + (c3.toNat - 128) ∧ runeB ((((c.toNat - 240) * 64 + (c1.toNat - 128)) * 64 + (c2.toNat - 128)) * 64 + (c3.toNat - 128)) = true) ∧
    numN c (c1 :: c2 :: c3 :: r) 4 = 64 * (64 * (64 * ((c.toNat : Int) - 240) + c1.toNat - 128) + c2.toNat - 128) + c3.toNat - 128 := by
  have hc := c.toNat_lt
  have hc1 := c1.toNat_lt
  have hc2 := c2.toNat_lt
  have hc3 := c3.toNat_lt
  have en : numN c (c1 :: c2 :: c3 :: r) 4 = 64 * (64 * (64 * ((c.toNat : Int) - 240) + c1.toNat - 128) + c2.toNat - 128) + c3.toNat - 128 := by simp [numN, leadL, addN]
  refine ⟨?_, en⟩
  rw [tstB, en]
  simp only [List.take_succ_cons, List.take_zero, List.map_cons, List.map_nil]
  have hcont : contB c1 = true ↔ (128 ≤ c1.toNat ∧ c1.toNat < 192) := by unfold contB; simp
  have hcont2 : contB c2 = true ↔ (128 ≤ c2.toNat ∧ c2.toNat < 192) := by unfold contB; simp
  have hcont3 : contB c3 = true ↔ (128 ≤ c3.toNat ∧ c3.toNat < 192) := by unfold contB; simp
  by_cases hn : 0 ≤ 64 * (64 * (64 * ((c.toNat : Int) - 240) + c1.toNat - 128) + c2.toNat - 128) + c3.toNat - 128
  · obtain ⟨n, hn2⟩ : ∃ n : Nat, 64 * (64 * (64 * ((c.toNat : Int) - 240) + c1.toNat - 128) + c2.toNat - 128) + c3.toNat - 128 = n := ⟨(64 * (64 * (64 * ((c.toNat : Int) - 240) + c1.toNat - 128) + c2.toNat - 128) + c3.toNat - 128).toNat, by omega⟩
    rw [hn2, Int.toNat_natCast, decide_eq_true (by omega), Bool.true_and]
    have key : runeB n = true → (bytesN n = [c.toNat, c1.toNat, c2.toNat, c3.toNat] ↔ ((240 ≤ c.toNat ∧ c.toNat < 248) ∧ (128 ≤ c1.toNat ∧ c1.toNat < 192) ∧ (128 ≤ c2.toNat ∧ c2.toNat < 192) ∧ (128 ≤ c3.toNat ∧ c3.toNat < 192) ∧ 65536 ≤ n)) := fun hr => by
      have hlt : n ≤ 1114111 := by unfold runeB at hr; rw [Bool.and_eq_true] at hr; exact of_decide_eq_true hr.1
      unfold bytesN
      by_cases h1 : n < 128
      · rw [if_pos h1]
        exact ⟨fun h => by simp at h, fun h => by omega⟩
      rw [if_neg h1]
      by_cases h2 : n < 2048
      · rw [if_pos h2]
        exact ⟨fun h => by simp at h, fun h => by omega⟩
      rw [if_neg h2]
      by_cases h3 : n < 65536
      · rw [if_pos h3]
        exact ⟨fun h => by simp at h, fun h => by omega⟩
      · rw [if_neg h3]
        simp only [List.cons.injEq, and_true]
        omega
    rw [Bool.eq_iff_iff]
    simp only [Bool.and_eq_true, decide_eq_true_eq]
    rw [hcont, hcont2, hcont3]
    constructor
    · rintro ⟨hr, hb⟩
      obtain ⟨a, b, c', d', d⟩ := (key hr).1 hb
      have e : (((c.toNat - 240) * 64 + (c1.toNat - 128)) * 64 + (c2.toNat - 128)) * 64 + (c3.toNat - 128) = n := by omega
      exact ⟨a, b, c', d', by omega, by rw [e]; exact hr⟩
    · rintro ⟨a, b, c', d', d, hr⟩
      have e : (((c.toNat - 240) * 64 + (c1.toNat - 128)) * 64 + (c2.toNat - 128)) * 64 + (c3.toNat - 128) = n := by omega
      rw [e] at hr d
      exact ⟨hr, (key hr).2 ⟨a, b, c', d', d⟩⟩
  · rw [decide_eq_false hn, Bool.false_and, decide_eq_false]
    rw [hcont, hcont2, hcont3]; omega
theorem rNext (s : List UInt8) (k : Nat) (hk : k < s.length) (hs : s.length < 9000000000000) : R02_Next s k = some (((nextP (s.drop k)).1 : Int), ((nextP (s.drop k)).2 : Int)) := by
  have d1 : decide ((k : Int) < 0) = false := decide_eq_false (by omega)
  have d2 : decide ((k : Int) ≥ (s.length : Int)) = false := decide_eq_false (by omega)
  have hc := s[k].toNat_lt
  have l1 := rL1 s k hk hs 1 (by omega) (by omega)
  have l2 := rL1 s k hk hs 2 (by omega) (by omega)
  have l3 := rL1 s k hk hs 3 (by omega) (by omega)
  have l4 := rL1 s k hk hs 4 (by omega) (by omega)
  have l5 : R02_Next_L1 s k leadL ((4 + 1 : Nat) : Int) = some (.inl ()) := by
    rw [R02_Next_L1, show decide (((4 + 1 : Nat) : Int) ≤ 4) = false from rfl]
    simp only [Bool.false_eq_true, if_false, bind_some']
  have hdl : (s.drop (k + 1)).length = s.length - (k + 1) := List.length_drop
  rw [R02_Next, d1, d2, dropE hk, nextP]
  show (R02_Next_L1 s k leadL ((1 : Nat) : Int) >>= _) = _
  rw [l1, if_pos (by omega), (tst1 _ _).1, (tst1 _ _).2, l2]
  unfold nextC
  by_cases h1 : s[k].toNat < 128
  · rw [decide_eq_true h1, if_pos rfl, if_pos h1]; rfl
  rw [decide_eq_false h1, if_neg (by decide), if_neg h1]
  generalize hr : s.drop (k + 1) = r at *
  match r with
  | [] =>
    simp at hdl
    rw [if_neg (by omega)]
    simp
  | [c1] =>
    simp at hdl
    have hc1 := c1.toNat_lt
    rw [if_pos (by omega), (tst2 _ _ _).1, (tst2 _ _ _).2, l3, if_neg (by omega : ¬ k + 3 ≤ s.length)]
    dsimp only
    by_cases h2 : 192 ≤ s[k].toNat ∧ s[k].toNat < 224
    · rw [if_pos h2]
      by_cases h3 : contB c1 = true ∧ 128 ≤ (s[k].toNat - 192) * 64 + (c1.toNat - 128)
      · have h4 : 128 ≤ c1.toNat := by have := h3.1; unfold contB at this; simp at this; exact this.1
        rw [decide_eq_true ⟨h2, h3⟩, if_pos rfl, if_pos h3]
        simp only [bind_some']
        congr 2
        omega
      · rw [decide_eq_false (fun h => h3 h.2), if_neg (by decide), if_neg h3]; rfl
    · rw [decide_eq_false (fun h => h2 h.1), if_neg (by decide), if_neg h2]
      simp
  | [c1, c2] =>
    simp at hdl
    have hc1 := c1.toNat_lt
    have hc2 := c2.toNat_lt
    rw [if_pos (by omega), (tst2 _ _ _).1, (tst2 _ _ _).2, l3, if_pos (by omega : k + 3 ≤ s.length), (tst3 _ _ _ _).1, (tst3 _ _ _ _).2, l4, if_neg (by omega : ¬ k + 4 ≤ s.length)]
    dsimp only
    by_cases h2 : 192 ≤ s[k].toNat ∧ s[k].toNat < 224
    · rw [if_pos h2]
      by_cases h3 : contB c1 = true ∧ 128 ≤ (s[k].toNat - 192) * 64 + (c1.toNat - 128)
      · have h4 : 128 ≤ c1.toNat := by have := h3.1; unfold contB at this; simp at this; exact this.1
        rw [decide_eq_true ⟨h2, h3⟩, if_pos rfl, if_pos h3]
        simp only [bind_some']
        congr 2
        omega
      · rw [decide_eq_false (fun h => h3 h.2), if_neg (by decide), if_neg h3, decide_eq_false (fun h => by have := h.1; omega), if_neg (by decide)]; rfl
    · rw [decide_eq_false (fun h => h2 h.1), if_neg (by decide), if_neg h2]
      by_cases h5 : 224 ≤ s[k].toNat ∧ s[k].toNat < 240
      · rw [if_pos h5]
        by_cases h6 : contB c1 = true ∧ contB c2 = true ∧ 2048 ≤ ((s[k].toNat - 224) * 64 + (c1.toNat - 128)) * 64 + (c2.toNat - 128) ∧ runeB (((s[k].toNat - 224) * 64 + (c1.toNat - 128)) * 64 + (c2.toNat - 128)) = true
        · have h4 : 128 ≤ c1.toNat := by have := h6.1; unfold contB at this; simp at this; exact this.1
          have h4' : 128 ≤ c2.toNat := by have := h6.2.1; unfold contB at this; simp at this; exact this.1
          rw [decide_eq_true ⟨h5, h6⟩, if_pos rfl, if_pos h6]
          simp only [bind_some']
          congr 2
          omega
        · rw [decide_eq_false (fun h => h6 h.2), if_neg (by decide), if_neg h6]; rfl
      · rw [decide_eq_false (fun h => h5 h.1), if_neg (by decide), if_neg h5]
        simp
  | c1 :: c2 :: c3 :: r =>
    simp at hdl
    have hc1 := c1.toNat_lt
    have hc2 := c2.toNat_lt
    have hc3 := c3.toNat_lt
    rw [if_pos (by omega), (tst2 _ _ _).1, (tst2 _ _ _).2, l3, if_pos (by omega : k + 3 ≤ s.length), (tst3 _ _ _ _).1, (tst3 _ _ _ _).2, l4, if_pos (by omega : k + 4 ≤ s.length), (tst4 _ _ _ _ _).1, (tst4 _ _ _ _ _).2, l5]
    dsimp only
    by_cases h2 : 192 ≤ s[k].toNat ∧ s[k].toNat < 224
    · rw [if_pos h2]
      by_cases h3 : contB c1 = true ∧ 128 ≤ (s[k].toNat - 192) * 64 + (c1.toNat - 128)
      · have h4 : 128 ≤ c1.toNat := by have := h3.1; unfold contB at this; simp at this; exact this.1
        rw [decide_eq_true ⟨h2, h3⟩, if_pos rfl, if_pos h3]
        simp only [bind_some']
        congr 2
        omega
      · rw [decide_eq_false (fun h => h3 h.2), if_neg (by decide), if_neg h3, decide_eq_false (fun h => by have := h.1; omega), if_neg (by decide), decide_eq_false (fun h => by have := h.1; omega), if_neg (by decide)]; rfl
    · rw [decide_eq_false (fun h => h2 h.1), if_neg (by decide), if_neg h2]
      by_cases h5 : 224 ≤ s[k].toNat ∧ s[k].toNat < 240
      · rw [if_pos h5]
        by_cases h6 : contB c1 = true ∧ contB c2 = true ∧ 2048 ≤ ((s[k].toNat - 224) * 64 + (c1.toNat - 128)) * 64 + (c2.toNat - 128) ∧ runeB (((s[k].toNat - 224) * 64 + (c1.toNat - 128)) * 64 + (c2.toNat - 128)) = true
        · have h4 : 128 ≤ c1.toNat := by have := h6.1; unfold contB at this; simp at this; exact this.1
          have h4' : 128 ≤ c2.toNat := by have := h6.2.1; unfold contB at this; simp at this; exact this.1
          rw [decide_eq_true ⟨h5, h6⟩, if_pos rfl, if_pos h6]
          simp only [bind_some']
          congr 2
          omega
        · rw [decide_eq_false (fun h => h6 h.2), if_neg (by decide), if_neg h6, decide_eq_false (fun h => by have := h.1; omega), if_neg (by decide)]; rfl
      · rw [decide_eq_false (fun h => h5 h.1), if_neg (by decide), if_neg h5]
        by_cases h7 : 240 ≤ s[k].toNat ∧ s[k].toNat < 248
        · rw [if_pos h7]
          by_cases h8 : contB c1 = true ∧ contB c2 = true ∧ contB c3 = true ∧ 65536 ≤ (((s[k].toNat - 240) * 64 + (c1.toNat - 128)) * 64 + (c2.toNat - 128)) * 64 + (c3.toNat - 128) ∧ runeB ((((s[k].toNat - 240) * 64 + (c1.toNat - 128)) * 64 + (c2.toNat - 128)) * 64 + (c3.toNat - 128)) = true
          · have h4 : 128 ≤ c1.toNat := by have := h8.1; unfold contB at this; simp at this; exact this.1
            have h4' : 128 ≤ c2.toNat := by have := h8.2.1; unfold contB at this; simp at this; exact this.1
            have h4'' : 128 ≤ c3.toNat := by have := h8.2.2.1; unfold contB at this; simp at this; exact this.1
            rw [decide_eq_true ⟨h7, h8⟩, if_pos rfl, if_pos h8]
            simp only [bind_some']
            congr 2
            omega
          · rw [decide_eq_false (fun h => h8 h.2), if_neg (by decide), if_neg h8]; rfl
        · rw [decide_eq_false (fun h => h7 h.1), if_neg (by decide), if_neg h7]
          rfl
end Go.Proofs.Ytlhjieapkcnghaa
end

section
namespace Go.Proofs.Ytlhjieapkcnghaa
open Go.RowKit

mutual
def allN (Q : api_Node → Prop) : api_Node → Prop
  | ⟨k, s, t, n, a, b, c⟩ => Q ⟨k, s, t, n, a, b, c⟩ ∧ allL Q a ∧ allL Q b ∧ allL Q c
def allL (Q : api_Node → Prop) : List api_Node → Prop
  | [] => True
  | x :: r => allN Q x ∧ allL Q r
end
theorem allN_eq (Q : api_Node → Prop) (x : api_Node) : allN Q x ↔ (Q x ∧ allL Q x.L ∧ allL Q x.Then ∧ allL Q x.Else) := by cases x; rw [allN]
theorem allL_mem {Q : api_Node → Prop} : ∀ {l : List api_Node} {x : api_Node}, x ∈ l → allL Q l → allN Q x
  | y :: r, x, h, hs => by
    rw [allL] at hs
    rcases List.mem_cons.1 h with rfl | h
    · exact hs.1
    · exact allL_mem h hs.2
theorem sms_all {R Q : api_Node → Prop} (h : ∀ x : api_Node, x.Name.length ≤ 40 → x.Text.length ≤ 60 → R x → Q x) : ∀ n (l : List api_Node), nns l ≤ n → sms l → allL R l → allL Q l := by
  intro n
  induction n with
  | zero => intro l hn _; cases l with
    | nil => intro _; rw [allL]; trivial
    | cons x r => have := nn_pos x; simp [nns] at hn; omega
  | succ n ih =>
    intro l
    induction l with
    | nil => intro _ _ _; rw [allL]; trivial
    | cons x r ihr =>
      intro hn hs hr
      rw [nns, nn_eq] at hn
      rw [sms, sm_eq] at hs
      obtain ⟨⟨h1, h2, h3, h4, h5⟩, h6⟩ := hs
      rw [allL, allN_eq] at hr ⊢
      obtain ⟨⟨g1, g2, g3, g4⟩, g5⟩ := hr
      exact ⟨⟨h x h1 h2 g1, ih _ (by omega) h3 g2, ih _ (by omega) h4 g3, ih _ (by omega) h5 g4⟩, ihr (by omega) h6 g5⟩
/-- A node that can be reckoned with. -/
structure okT (x : api_Node) : Prop where
  nm : x.Name.length ≤ 1000000
  tx : x.Text.length ≤ 1000000
  rg : -9223372036854775808 ≤ x.N ∧ x.N ≤ 9223372036854775807
  qt : x.Kind = 1 → ∃ q, lex_Quote x.Text = some q ∧ R18_Quote x.Text = some q
noncomputable def quoteP (s : List UInt8) : List UInt8 × Bool := (lex_Quote s).getD ([], false)

def zl (l : List api_Node) : Bool := l.length == 0
mutual
noncomputable def exprP : api_Node → Bool
  | ⟨k, s, t, n, a, b, c⟩ =>
    if k == 1 then (quoteP t).2 && (s == [] && (n == 0 && (zl a && (zl b && zl c)))) else
    if k == 2 then s == [] && (t == [] && (zl a && (zl b && zl c))) else
    if k == 3 then (n == 0 || n == 1) && (s == [] && (t == [] && (zl a && (zl b && zl c)))) else
    if k == 4 then nameP s && (t == [] && (n == 0 && (zl a && (zl b && zl c)))) else
    if k == 5 then wordP s && (a.length == 1 && (exprsP a && (t == [] && (n == 0 && (zl b && zl c))))) else
    if k == 6 then nameP s && (decide (a.length ≤ 3) && (exprsP a && (t == [] && (n == 0 && (zl b && zl c))))) else
    if k == 7 then wordP s && (t == [] && (n == 0 && (zl a && (zl b && zl c)))) else false
noncomputable def exprsP : List api_Node → Bool
  | [] => true
  | x :: r => exprP x && exprsP r
end
theorem exprP_eq (x : api_Node) : exprP x =
    if x.Kind == 1 then (quoteP x.Text).2 && (x.Name == [] && (x.N == 0 && (zl x.L && (zl x.Then && zl x.Else)))) else
    if x.Kind == 2 then x.Name == [] && (x.Text == [] && (zl x.L && (zl x.Then && zl x.Else))) else
    if x.Kind == 3 then (x.N == 0 || x.N == 1) && (x.Name == [] && (x.Text == [] && (zl x.L && (zl x.Then && zl x.Else)))) else
    if x.Kind == 4 then nameP x.Name && (x.Text == [] && (x.N == 0 && (zl x.L && (zl x.Then && zl x.Else)))) else
    if x.Kind == 5 then wordP x.Name && (x.L.length == 1 && (exprsP x.L && (x.Text == [] && (x.N == 0 && (zl x.Then && zl x.Else))))) else
    if x.Kind == 6 then nameP x.Name && (decide (x.L.length ≤ 3) && (exprsP x.L && (x.Text == [] && (x.N == 0 && (zl x.Then && zl x.Else))))) else
    if x.Kind == 7 then wordP x.Name && (x.Text == [] && (x.N == 0 && (zl x.L && (zl x.Then && zl x.Else)))) else false := by cases x; rw [exprP]
theorem zI (l : List api_Node) : ((l.length : Int) == 0) = zl l := eqN l.length 0
theorem gI (l : List api_Node) : decide ((l.length : Int) > 0) = !zl l := by
  unfold zl
  by_cases h : l.length = 0
  · rw [h]; rfl
  · rw [beq_eq_false_iff_ne.2 h, decide_eq_true (by omega)]; rfl
theorem oneI (l : List api_Node) : ((l.length : Int) == 1) = (l.length == 1) := eqN l.length 1
theorem low1 (a : BitVec 64) : a &&& ~~~1#64 = 0#64 ↔ (a = 0#64 ∨ a = 1#64) := by
  constructor
  · intro h
    have hb : ∀ i, 0 < i → a.getLsbD i = false := fun i hi => by
      have := congrArg (fun x : BitVec 64 => x.getLsbD i) h
      simp only [BitVec.getLsbD_and, BitVec.getLsbD_not, BitVec.getLsbD_zero] at this
      by_cases h64 : i < 64
      · have h1 : (1#64).getLsbD i = false := by simp [BitVec.getLsbD_one]; omega
        rw [h1] at this
        simpa [h64] using this
      · exact BitVec.getLsbD_of_ge a i (by omega)
    cases h0 : a.getLsbD 0 with
    | false =>
      left
      apply BitVec.eq_of_getLsbD_eq
      intro i _
      by_cases hi : i = 0
      · subst hi; rw [h0]; simp
      · rw [hb i (by omega)]; simp
    | true =>
      right
      apply BitVec.eq_of_getLsbD_eq
      intro i _
      by_cases hi : i = 0
      · subst hi; rw [h0]; simp
      · rw [hb i (by omega)]; simp [BitVec.getLsbD_one]; omega
  · rintro (h | h) <;> subst h <;> decide
theorem ofI {n : Int} (h1 : -9223372036854775808 ≤ n) (h2 : n ≤ 9223372036854775807) (m : Int) (h3 : 0 ≤ m) (h4 : m ≤ 1) : BitVec.ofInt 64 n = BitVec.ofInt 64 m ↔ n = m := by
  constructor
  · intro h
    have := congrArg BitVec.toInt h
    rw [BitVec.toInt_ofInt, BitVec.toInt_ofInt, Int.bmod_def, Int.bmod_def] at this
    simp only [show (((2 : Nat) ^ 64 : Nat) : Int) = 18446744073709551616 from rfl] at this
    split at this <;> split at this <;> omega
  · intro h; rw [h]
theorem wrap0 (m : Nat) (h : m < 18446744073709551616) : (IntKind.i64.wrap (m : Int) = 0) ↔ m = 0 := by
  rw [IntKind.wrap_i64]
  omega
theorem truthI (n : Int) (h1 : -9223372036854775808 ≤ n) (h2 : n ≤ 9223372036854775807) : ((bits .andNot .i64 n 1) == 0) = (n == 0 || n == 1) := by
  have hw := wrap0 (BitVec.ofInt 64 n &&& ~~~(BitVec.ofInt 64 1)).toNat (BitVec.isLt _)
  have e : bits .andNot .i64 n 1 = IntKind.i64.wrap ((BitVec.ofInt 64 n &&& ~~~(BitVec.ofInt 64 1)).toNat : Int) := rfl
  have e2 : (BitVec.ofInt 64 n &&& ~~~(BitVec.ofInt 64 1)).toNat = 0 ↔ (n = 0 ∨ n = 1) := by
    have z : (BitVec.ofInt 64 n &&& ~~~(BitVec.ofInt 64 1)).toNat = 0 ↔ BitVec.ofInt 64 n &&& ~~~1#64 = 0#64 := by
      constructor
      · intro h; exact BitVec.eq_of_toNat_eq h
      · intro h; exact congrArg BitVec.toNat h
    rw [z, low1]
    have a0 := ofI h1 h2 0 (by omega) (by omega)
    have a1 := ofI h1 h2 1 (by omega) (by omega)
    rw [← a0, ← a1]
    exact Iff.rfl
  rw [e2] at hw
  rw [e]
  by_cases h : n = 0 ∨ n = 1
  · rw [hw.2 h]
    rcases h with h | h <;> subst h <;> rfl
  · have : ¬ IntKind.i64.wrap ((BitVec.ofInt 64 n &&& ~~~(BitVec.ofInt 64 1)).toNat : Int) = 0 := fun k => h (hw.1 k)
    rw [beq_eq_false_iff_ne.2 this]
    simp only [not_or] at h
    rw [beq_eq_false_iff_ne.2 h.1, beq_eq_false_iff_ne.2 h.2]
    rfl
section
variable (n : Nat) (ih : ∀ x : api_Node, nn x ≤ n → allN okT x → tree_expr x = some (exprP x))
include ih
theorem tExprL (l : List api_Node) (h : nns l ≤ n) (ho : allL okT l) (hl : l.length < 9223372036854775807) : ∀ k, k ≤ l.length → ∃ r, slices_IndexFunc_api_Node_api_Node_tree_expr_1_L1 l k = some r ∧
    (match r with | .inl _ => exprsP (l.drop k) = true | .inr v => 0 ≤ v ∧ exprsP (l.drop k) = false) := by
  refine upto ?_ fun k hk ihk => ?_
  · rw [slices_IndexFunc_api_Node_api_Node_tree_expr_1_L1]
    refine ⟨.inl (), by simp, ?_⟩
    simp [exprsP]
  · have hx := nns_mem (List.getElem_mem hk)
    rw [slices_IndexFunc_api_Node_api_Node_tree_expr_1_L1, wr_succ (by omega)]
    simp only [ltI, hk, decide_true, if_true, idx_nat, getE hk, bind_some', tree_expr_1, ih l[k] (by omega) (allL_mem (List.getElem_mem hk) ho)]
    rw [dropE hk]
    simp only [exprsP]
    cases he : exprP l[k] with
    | true =>
      obtain ⟨r, h1, h2⟩ := ihk
      refine ⟨r, by simpa using h1, ?_⟩
      simpa using h2
    | false => exact ⟨.inr k, by simp, by omega, rfl⟩
end
theorem tExpr : ∀ n (x : api_Node), n < 1000000000 → nn x ≤ n → allN okT x → tree_expr x = some (exprP x) := by
  intro n
  induction n with
  | zero => intro x _ h; have := nn_pos x; omega
  | succ n ih =>
    intro x hb h ho
    rw [nn_eq] at h
    obtain ⟨hq, ho1, -, -⟩ := (allN_eq okT x).1 ho
    have hnm := hq.nm
    rw [tree_expr, tree_planned, exprP_eq, tName x.Name (by omega), lWord x.Name (by omega)]
    simp only [bind_some', gI, truthI _ hq.rg.1 hq.rg.2]
    have e2 : (x.N != 0) = !(x.N == 0) := rfl
    have e3 : ((x.L.length : Int) == 0) = zl x.L := zI x.L
    have e4 : ((x.L.length : Int) == 1) = (x.L.length == 1) := oneI x.L
    simp only [e2, e3, e4]
    by_cases k1 : x.Kind = 1
    · obtain ⟨q, q1, q2⟩ := hq.qt k1
      simp only [k1, beq_self_eq_true, if_true, q1, bind_some', quoteP, Option.getD_some]
      generalize (x.Name == []) = a1
      generalize (x.Text == []) = a2
      generalize (x.N == 0) = a3
      generalize zl x.L = a4
      generalize zl x.Then = a5
      generalize zl x.Else = a6
      cases q.2 <;> cases a1 <;> cases a2 <;> cases a3 <;> cases a4 <;> cases a5 <;> cases a6 <;> rfl
    by_cases k2 : x.Kind = 2
    · simp only [k2, beq_self_eq_true, if_true, show ((2 : Int) == 1) = false from rfl, Bool.false_eq_true, if_false]
      generalize (x.Name == []) = a1
      generalize (x.Text == []) = a2
      generalize (x.N == 0) = a3
      generalize zl x.L = a4
      generalize zl x.Then = a5
      generalize zl x.Else = a6
      cases a1 <;> cases a2 <;> cases a3 <;> cases a4 <;> cases a5 <;> cases a6 <;> rfl
    by_cases k3 : x.Kind = 3
    · simp only [k3, beq_self_eq_true, if_true, show ((3 : Int) == 1) = false from rfl, show ((3 : Int) == 2) = false from rfl, Bool.false_eq_true, if_false]
      generalize (x.N == 0 || x.N == 1) = a0
      generalize (x.Name == []) = a1
      generalize (x.Text == []) = a2
      generalize (x.N == 0) = a3
      generalize zl x.L = a4
      generalize zl x.Then = a5
      generalize zl x.Else = a6
      cases a0 <;> cases a1 <;> cases a2 <;> cases a3 <;> cases a4 <;> cases a5 <;> cases a6 <;> rfl
    have nw : nameP x.Name = true → (x.Name == []) = false := fun h => word_ne (name_word h)
    have ww : wordP x.Name = true → (x.Name == []) = false := fun h => word_ne h
    by_cases k4 : x.Kind = 4
    · simp only [k4, beq_self_eq_true, if_true, show ((4 : Int) == 1) = false from rfl, show ((4 : Int) == 2) = false from rfl, show ((4 : Int) == 3) = false from rfl, Bool.false_eq_true, if_false]
      cases hn : nameP x.Name with
      | false => rfl
      | true =>
        rw [nw hn]
        generalize (x.Text == []) = a2
        generalize (x.N == 0) = a3
        generalize zl x.L = a4
        generalize zl x.Then = a5
        generalize zl x.Else = a6
        cases a2 <;> cases a3 <;> cases a4 <;> cases a5 <;> cases a6 <;> rfl
    by_cases k7 : x.Kind = 7
    · simp only [k7, beq_self_eq_true, if_true, show ((7 : Int) == 1) = false from rfl, show ((7 : Int) == 2) = false from rfl, show ((7 : Int) == 3) = false from rfl, show ((7 : Int) == 4) = false from rfl, show ((7 : Int) == 5) = false from rfl, show ((7 : Int) == 6) = false from rfl, Bool.false_eq_true, if_false]
      cases hn : wordP x.Name with
      | false => rfl
      | true =>
        rw [ww hn]
        generalize (x.Text == []) = a2
        generalize (x.N == 0) = a3
        generalize zl x.L = a4
        generalize zl x.Then = a5
        generalize zl x.Else = a6
        cases a2 <;> cases a3 <;> cases a4 <;> cases a5 <;> cases a6 <;> rfl
    have b1 : (x.Kind == 1) = false := beq_eq_false_iff_ne.2 k1
    have b2 : (x.Kind == 2) = false := beq_eq_false_iff_ne.2 k2
    have b3 : (x.Kind == 3) = false := beq_eq_false_iff_ne.2 k3
    have b4 : (x.Kind == 4) = false := beq_eq_false_iff_ne.2 k4
    have b7 : (x.Kind == 7) = false := beq_eq_false_iff_ne.2 k7
    simp only [b1, b2, b3, b4, b7, Bool.false_eq_true, if_false]
    by_cases k5 : x.Kind = 5
    · simp only [k5, beq_self_eq_true, if_true]
      cases hn : wordP x.Name with
      | false => rfl
      | true =>
        rw [ww hn]
        cases hl : (x.L.length == 1) with
        | false =>
          generalize (x.Text == []) = a2
          generalize (x.N == 0) = a3
          generalize zl x.Then = a5
          generalize zl x.Else = a6
          cases a2 <;> cases a3 <;> cases a5 <;> cases a6 <;> rfl
        | true =>
          have hl1 : x.L.length = 1 := by simpa using hl
          obtain ⟨y, hy⟩ := List.length_eq_one_iff.1 hl1
          have hy1 : nn y ≤ n := by have := nns_mem (show y ∈ x.L by rw [hy]; simp); omega
          have hy2 : allN okT y := allL_mem (show y ∈ x.L by rw [hy]; simp) ho1
          rw [hy]
          simp only [idx_0, List.getElem?_cons_zero, bind_some', ih y (by omega) hy1 hy2, exprsP, Bool.and_true]
          generalize (x.Text == []) = a2
          generalize (x.N == 0) = a3
          generalize zl x.Then = a5
          generalize zl x.Else = a6
          generalize exprP y = a7
          cases a2 <;> cases a3 <;> cases a5 <;> cases a6 <;> cases a7 <;> rfl
    by_cases k6 : x.Kind = 6
    · simp only [k6, beq_self_eq_true, if_true, show ((6 : Int) == 5) = false from rfl, Bool.false_eq_true, if_false]
      cases hn : nameP x.Name with
      | false => rfl
      | true =>
        rw [nw hn]
        have hmin : ((x.L.length : Int) == (if 3 < (x.L.length : Int) then 3 else (x.L.length : Int))) = decide (x.L.length ≤ 3) := by
          by_cases h3 : x.L.length ≤ 3
          · rw [if_neg (by omega), decide_eq_true h3]; simp
          · rw [if_pos (by omega), decide_eq_false h3, beq_eq_false_iff_ne.2 (by omega)]
        rw [hmin]
        have hll := nns_len x.L
        obtain ⟨r, hr, hp⟩ := tExprL n (fun y => ih y (by omega)) x.L (by omega) ho1 (by omega) 0 (by omega)
        rw [slices_ContainsFunc_api_Node_api_Node_tree_expr_1, slices_IndexFunc_api_Node_api_Node_tree_expr_1, show (0 : Int) = ((0 : Nat) : Int) from rfl, hr]
        rw [List.drop_zero] at hp
        cases r with
        | inl u =>
          simp only at hp
          rw [hp]
          generalize (x.Text == []) = a2
          generalize (x.N == ((0 : Nat) : Int)) = a3
          generalize zl x.Then = a5
          generalize zl x.Else = a6
          generalize decide (x.L.length ≤ 3) = a7
          cases a2 <;> cases a3 <;> cases a5 <;> cases a6 <;> cases a7 <;> rfl
        | inr v =>
          simp only at hp
          have hv : decide (v ≥ ((0 : Nat) : Int)) = true := decide_eq_true (by omega)
          simp only [hp.2, bind_some', hv]
          generalize (x.Text == []) = a2
          generalize (x.N == ((0 : Nat) : Int)) = a3
          generalize zl x.Then = a5
          generalize zl x.Else = a6
          generalize decide (x.L.length ≤ 3) = a7
          cases a2 <;> cases a3 <;> cases a5 <;> cases a6 <;> cases a7 <;> rfl
    have b5 : (x.Kind == 5) = false := beq_eq_false_iff_ne.2 k5
    have b6 : (x.Kind == 6) = false := beq_eq_false_iff_ne.2 k6
    simp only [b5, b6, Bool.false_eq_true, if_false]

def bareB (x : api_Node) (p1 p2 p3 p4 p5 : Bool) : Bool := (p1 || x.Name == []) && ((p2 || x.Text == []) && ((p3 || x.N == 0) && ((p4 || zl x.L) && ((p5 || zl x.Then) && (x.Kind == 10 || zl x.Else)))))
theorem rBare (x : api_Node) (p1 p2 p3 p4 p5 : Bool) : R19_bare x p1 p2 p3 p4 p5 = some (bareB x p1 p2 p3 p4 p5) := by
  unfold R19_bare bareB
  simp only [zI]
  generalize (x.Name == []) = a1
  generalize (x.Text == []) = a2
  generalize (x.N == 0) = a3
  generalize zl x.L = a4
  generalize zl x.Then = a5
  generalize zl x.Else = a6
  generalize (x.Kind == 10) = a7
  have e : ∀ b : Bool, (if a7 = true then some true else some b : Option Bool) = some (a7 || b) := fun b => by cases a7 <;> rfl
  simp only [e]
  generalize (a7 || a6) = a8
  cases p1 <;> cases p2 <;> cases p3 <;> cases p4 <;> cases p5 <;> cases a1 <;> (try rfl) <;> cases a2 <;> (try rfl) <;> cases a3 <;> (try rfl) <;> cases a4 <;> (try rfl) <;> cases a5 <;> rfl
section
variable (n : Nat) (ih : ∀ x : api_Node, nn x ≤ n → allN okT x → R19_expr x = some (exprP x))
include ih
theorem rExprsL (l : List api_Node) (h : nns l ≤ n) (ho : allL okT l) (hl : l.length < 9223372036854775807) : ∀ k, k ≤ l.length → R19_exprs_L1 l k = some (if exprsP (l.drop k) then .inl () else .inr ()) := by
  refine upto ?_ fun k hk ihk => ?_
  · rw [R19_exprs_L1]; simp [exprsP]
  · have hx := nns_mem (List.getElem_mem hk)
    rw [R19_exprs_L1, wr_succ (by omega), ihk]
    simp only [ltI, hk, decide_true, if_true, idx_nat, getE hk, bind_some', ih l[k] (by omega) (allL_mem (List.getElem_mem hk) ho)]
    rw [dropE hk, exprsP]
    cases exprP l[k] <;> rfl
theorem rExprs (l : List api_Node) (h : nns l ≤ n) (ho : allL okT l) (hl : l.length < 9223372036854775807) : R19_exprs l = some (exprsP l) := by
  have := rExprsL n ih l h ho hl 0 (by omega)
  rw [R19_exprs, show (0 : Int) = ((0 : Nat) : Int) from rfl, this, List.drop_zero]
  cases exprsP l <;> rfl
end
theorem rExpr : ∀ n (x : api_Node), n < 1000000000 → nn x ≤ n → allN okT x → R19_expr x = some (exprP x) := by
  intro n
  induction n with
  | zero => intro x _ h; have := nn_pos x; omega
  | succ n ih =>
    intro x hb h ho
    rw [nn_eq] at h
    obtain ⟨hq, ho1, -, -⟩ := (allN_eq okT x).1 ho
    have hnm := hq.nm
    have hll := nns_len x.L
    have hex := rExprs n (fun y => ih y (by omega)) x.L (by omega) ho1 (by omega)
    have el : decide ((x.L.length : Int) ≤ 3) = decide (x.L.length ≤ 3) := leN x.L.length 3
    rw [R19_expr, exprP_eq, rName x.Name (by omega), rWord x.Name (by omega), hex]
    simp only [bind_some', rBare, bareB, oneI, el]
    by_cases k1 : x.Kind = 1
    · obtain ⟨q, q1, q2⟩ := hq.qt k1
      have e10 : (x.Kind == 10) = false := beq_eq_false_iff_ne.2 (by omega)
      simp only [e10]
      simp only [k1, beq_self_eq_true, if_true, q2, q1, bind_some', quoteP, Option.getD_some]
      generalize (x.Name == []) = a1
      generalize (x.N == 0) = a3
      generalize zl x.L = a4
      generalize zl x.Then = a5
      generalize zl x.Else = a6
      cases q.2 <;> cases a1 <;> cases a3 <;> cases a4 <;> cases a5 <;> cases a6 <;> rfl
    have b1 : (x.Kind == 1) = false := beq_eq_false_iff_ne.2 k1
    by_cases h10 : x.Kind = 10
    · simp only [h10]; rfl
    have e10 : (x.Kind == 10) = false := beq_eq_false_iff_ne.2 h10
    simp only [e10, b1, Bool.false_eq_true, if_false, Bool.false_or, Bool.true_or, Bool.true_and]
    generalize (x.Kind == 2) = k2
    generalize (x.Kind == 3) = k3
    generalize (x.Kind == 4) = k4
    generalize (x.Kind == 5) = k5
    generalize (x.Kind == 6) = k6
    generalize (x.Kind == 7) = k7
    generalize (x.Name == []) = a1
    generalize (x.Text == []) = a2
    generalize (x.N == 0) = a3
    generalize (x.N == 1) = a8
    generalize zl x.L = a4
    generalize zl x.Then = a5
    generalize zl x.Else = a6
    generalize nameP x.Name = n1
    generalize wordP x.Name = n2
    generalize (x.L.length == 1) = l1
    generalize decide (x.L.length ≤ 3) = l3
    generalize exprsP x.L = ex
    cases k2
    · cases k3
      · cases k4
        · cases k5
          · cases k6
            · cases k7
              · rfl
              · cases n2 <;> rfl
            · cases n1 <;> (try rfl) <;> cases l3 <;> (try rfl) <;> cases ex <;> rfl
          · cases n2 <;> (try rfl) <;> cases l1 <;> (try rfl) <;> cases ex <;> rfl
        · cases n1 <;> rfl
      · cases a3 <;> (try rfl) <;> cases a8 <;> rfl
    · rfl
def litB : List api_Node → Bool
  | [] => false
  | x :: _ => x.Kind == 8
/-- What may not stand so: a literal, and behind it another, or at whose end there is an open one. -/
def badB (x : api_Node) (r : List api_Node) (inn : Bool) : Bool := x.Kind == 8 && (litB r || ((!r.isEmpty || inn) && endB x.Text))
mutual
noncomputable def stmtP : api_Node → Bool
  | ⟨k, s, t, n, a, b, c⟩ =>
    if k == 8 then !(t == []) && (!(hasB t) && (s == [] && (n == 0 && (zl a && (zl b && zl c))))) else
    if k == 9 then (a.length == 1 && exprsP a) && (s == [] && (t == [] && (n == 0 && (zl b && zl c)))) else
    if k == 10 then (a.length == 1 && exprsP a) && ((blockP b true && blockP c true) && (s == [] && (t == [] && n == 0))) else
    if k == 11 || k == 12 then nameP s && ((a.length == 1 && exprsP a) && (blockP b true && (t == [] && (n == 0 && zl c)))) else
    if k == 13 then nameP s && ((a.length == 1 && exprsP a) && (t == [] && (n == 0 && (zl b && zl c)))) else false
noncomputable def blockP : List api_Node → Bool → Bool
  | [], _ => true
  | x :: r, inn => stmtP x && (!(badB x r inn) && blockP r inn)
end
theorem stmtP_eq (x : api_Node) : stmtP x =
    if x.Kind == 8 then !(x.Text == []) && (!(hasB x.Text) && (x.Name == [] && (x.N == 0 && (zl x.L && (zl x.Then && zl x.Else))))) else
    if x.Kind == 9 then (x.L.length == 1 && exprsP x.L) && (x.Name == [] && (x.Text == [] && (x.N == 0 && (zl x.Then && zl x.Else)))) else
    if x.Kind == 10 then (x.L.length == 1 && exprsP x.L) && ((blockP x.Then true && blockP x.Else true) && (x.Name == [] && (x.Text == [] && x.N == 0))) else
    if x.Kind == 11 || x.Kind == 12 then nameP x.Name && ((x.L.length == 1 && exprsP x.L) && (blockP x.Then true && (x.Text == [] && (x.N == 0 && zl x.Else)))) else
    if x.Kind == 13 then nameP x.Name && ((x.L.length == 1 && exprsP x.L) && (x.Text == [] && (x.N == 0 && (zl x.Then && zl x.Else)))) else false := by cases x; rw [stmtP]
theorem zl_nil {l : List api_Node} (h : zl l = true) : l = [] := List.eq_nil_of_length_eq_zero (by simpa [zl] using h)
theorem block_nil (b : Bool) : blockP [] b = true := by rw [blockP]
theorem stmt_text {x : api_Node} (h : stmtP x = true) (hk : x.Kind = 8) : (x.Text == []) = false := by
  rw [stmtP_eq, hk] at h
  simp only [beq_self_eq_true, if_true] at h
  cases ht : (x.Text == []) with
  | false => rfl
  | true => rw [ht] at h; cases h
theorem lastI (k n : Nat) (hk : k < n) (hn : n < 9223372036854775807) : ((k : Int) == wr ((n : Int) - 1)) = (k + 1 == n) := by
  have e : wr ((n : Int) - 1) = ((n - 1 : Nat) : Int) := by rw [wr_in (by omega) (by omega)]; omega
  rw [e, eqN]
  by_cases h : k + 1 = n
  · rw [beq_iff_eq.2 h, beq_iff_eq.2 (by omega)]
  · rw [beq_eq_false_iff_ne.2 h, beq_eq_false_iff_ne.2 (by omega)]
theorem dropNil {l : List api_Node} {k : Nat} (hk : k < l.length) : (l.drop (k + 1)).isEmpty = (k + 1 == l.length) := by
  by_cases h : k + 1 = l.length
  · rw [List.drop_eq_nil_of_le (by omega), beq_iff_eq.2 h]; rfl
  · rw [beq_eq_false_iff_ne.2 h, dropE (by omega : k + 1 < l.length)]; rfl
end Go.Proofs.Ytlhjieapkcnghaa
end

section
namespace Go.Proofs.Ytlhjieapkcnghaa
open Go.RowKit

theorem litB_at (l : List api_Node) (k : Nat) (h : k + 1 < l.length) : litB (l.drop (k + 1)) = (l[k + 1].Kind == 8) := by
  rw [dropE h]; rfl
section
variable (n : Nat) (hn : n < 900000000) (ih : ∀ x : api_Node, nn x ≤ n → allN okT x → tree_stmt x = some (stmtP x))
include hn ih
theorem tBlockL (l : List api_Node) (h : nns l ≤ n) (ho : allL okT l) (top : Bool) : ∀ k, k ≤ l.length → tree_block_L1 l top k = some (if blockP (l.drop k) (!top) then .inl () else .inr ()) := by
  have hl := nns_len l
  refine upto ?_ fun k hk ihk => ?_
  · rw [tree_block_L1]; simp [blockP]
  · have hx := nns_mem (List.getElem_mem hk)
    have ha := allL_mem (List.getElem_mem hk) ho
    have htx := ((allN_eq okT l[k]).1 ha).1.tx
    rw [tree_block_L1, wr_succ (by omega), ihk]
    simp only [ltI, hk, decide_true, if_true, idx_nat, getE hk, bind_some', ih l[k] (by omega) ha, lastI k l.length hk (by omega), tEnd l[k].Text (by omega)]
    rw [dropE hk, blockP, badB]
    rw [dropNil hk]
    cases hs : stmtP l[k] with
    | false => rfl
    | true =>
      cases h8 : (l[k].Kind == 8) with
      | false => simp
      | true =>
        by_cases hlast : k + 1 = l.length
        · have e1 : (k + 1 == l.length) = true := beq_iff_eq.2 hlast
          have e2 : litB (l.drop (k + 1)) = false := by rw [List.drop_eq_nil_of_le (by omega)]; rfl
          rw [e1, e2]
          cases top <;> cases endB l[k].Text <;> simp
        · have e1 : (k + 1 == l.length) = false := beq_eq_false_iff_ne.2 hlast
          have hk1 : k + 1 < l.length := by omega
          rw [e1, litB_at l k hk1, getE hk1]
          simp only [bind_some']
          cases (l[k + 1].Kind == 8) <;> cases endB l[k].Text <;> cases top <;> simp
theorem tBlock (l : List api_Node) (h : nns l ≤ n) (ho : allL okT l) (top : Bool) : tree_block l top = some (blockP l (!top)) := by
  have := tBlockL n hn ih l h ho top 0 (by omega)
  rw [tree_block, show (0 : Int) = ((0 : Nat) : Int) from rfl, this, List.drop_zero]
  cases blockP l (!top) <;> rfl
end
theorem tStmt : ∀ n (x : api_Node), n < 900000000 → nn x ≤ n → allN okT x → tree_stmt x = some (stmtP x) := by
  intro n
  induction n with
  | zero => intro x _ h; have := nn_pos x; omega
  | succ n ih =>
    intro x hb h ho
    rw [nn_eq] at h
    obtain ⟨hq, ho1, ho2, ho3⟩ := (allN_eq okT x).1 ho
    have hnm := hq.nm
    have htx := hq.tx
    have ih' := fun y => ih y (by omega)
    have t1 := tBlock n (by omega) ih' x.Then (by omega) ho2 false
    have t2 := tBlock n (by omega) ih' x.Else (by omega) ho3 false
    have e2 : (x.N != 0) = !(x.N == 0) := rfl
    rw [tree_stmt, tree_planned, stmtP_eq, tName x.Name (by omega), tHas x.Text (by omega), t1, t2]
    simp only [bind_some', gI, e2, zI, oneI]
    -- the one expression
    obtain ⟨ex, hex, hex2⟩ : ∃ ex : Bool, exprsP x.L = ex ∧ (x.L.length == 1 → (idx x.L 0 >>= fun y => tree_expr y) = some ex) := by
      refine ⟨_, rfl, fun hl => ?_⟩
      obtain ⟨y, hy⟩ := List.length_eq_one_iff.1 (by simpa using hl : x.L.length = 1)
      have hy1 : nn y ≤ n := by have := nns_mem (show y ∈ x.L by rw [hy]; simp); omega
      have hy2 : allN okT y := allL_mem (show y ∈ x.L by rw [hy]; simp) ho1
      rw [hy]
      simp only [idx_0, List.getElem?_cons_zero, bind_some', tExpr n y (by omega) hy1 hy2, exprsP, Bool.and_true]
    rw [hex]
    have hidx : ∀ (f : Bool → Option Bool) (g : api_Node → Option Bool), x.L.length = 1 → (∀ y, g y = tree_expr y >>= f) → (idx x.L 0 >>= g) = f ex := fun f g hl hg => by
      have := hex2 (by simpa using hl)
      obtain ⟨y, hy⟩ := List.length_eq_one_iff.1 hl
      rw [hy] at this ⊢
      simp only [idx_0, List.getElem?_cons_zero, bind_some'] at this ⊢
      rw [hg, this, bind_some']
    have nw : nameP x.Name = true → (x.Name == []) = false := fun h => word_ne (name_word h)
    by_cases k8 : x.Kind = 8
    · simp only [k8, beq_self_eq_true, if_true]
      generalize (x.Name == []) = a1
      generalize (x.Text == []) = a2
      generalize (x.N == 0) = a3
      generalize zl x.L = a4
      generalize zl x.Then = a5
      generalize zl x.Else = a6
      generalize hasB x.Text = hh
      cases a1 <;> (try (cases a2 <;> cases hh <;> rfl)) <;> cases a2 <;> (try (cases hh <;> rfl)) <;> cases a3 <;> (try (cases hh <;> rfl)) <;> cases a4 <;> (try (cases hh <;> rfl)) <;> cases a5 <;> (try (cases hh <;> rfl)) <;> cases a6 <;> cases hh <;> rfl
    have b8 : (x.Kind == 8) = false := beq_eq_false_iff_ne.2 k8
    have hE : x.L.length = 1 → (idx x.L 0 >>= fun y => tree_expr y >>= fun b => if b = true then if blockP x.Then (!false) = true then some (blockP x.Else (!false)) else some false else some false) = some (ex && (blockP x.Then true && blockP x.Else true)) := fun hl => by
      rw [hidx (fun b => if b = true then if blockP x.Then (!false) = true then some (blockP x.Else (!false)) else some false else some false) _ hl fun y => rfl]
      show (if ex = true then if blockP x.Then true = true then some (blockP x.Else true) else some false else some false) = _
      cases ex <;> cases blockP x.Then true <;> rfl
    have hb5 : zl x.Then = true → blockP x.Then true = true := fun h => by rw [zl_nil h, block_nil]
    have hb6 : zl x.Else = true → blockP x.Else true = true := fun h => by rw [zl_nil h, block_nil]
    -- the second half
    have half : ∀ w th ot nmd : Bool, (if (w == nmd) = true then if ((!x.Name == []) == w && ((!x.Text == []) == false && ((!x.N == 0) == false && ((!zl x.Then) == th && ((!zl x.Else) == ot && (x.L.length == 1 && true)))))) = true then
        idx x.L 0 >>= fun y => tree_expr y >>= fun b => if b = true then if blockP x.Then (!false) = true then some (blockP x.Else (!false)) else some false else some false else some false else some false) =
        some ((w == nmd) && (((!x.Name == []) == w) && ((x.Text == []) && ((x.N == 0) && (((!zl x.Then) == th) && (((!zl x.Else) == ot) && ((x.L.length == 1) && (ex && (blockP x.Then true && blockP x.Else true))))))))) := fun w th ot nmd => by
      have e0 : ∀ b : Bool, ((!b) == false) = b := fun b => by cases b <;> rfl
      simp only [e0]
      cases hl : (x.L.length == 1) with
      | true =>
        rw [hE (by simpa using hl)]
        generalize (ex && (blockP x.Then true && blockP x.Else true)) = q
        generalize ((!x.Name == []) == w) = q1
        generalize (x.Text == []) = q2
        generalize (x.N == 0) = q3
        generalize ((!zl x.Then) == th) = q4
        generalize ((!zl x.Else) == ot) = q5
        generalize (w == nmd) = q6
        cases q6 <;> (try rfl) <;> cases q1 <;> (try rfl) <;> cases q2 <;> (try rfl) <;> cases q3 <;> (try rfl) <;> cases q4 <;> (try rfl) <;> cases q5 <;> rfl
      | false =>
        generalize ((!x.Name == []) == w) = q1
        generalize (x.Text == []) = q2
        generalize (x.N == 0) = q3
        generalize ((!zl x.Then) == th) = q4
        generalize ((!zl x.Else) == ot) = q5
        generalize (w == nmd) = q6
        cases q6 <;> (try rfl) <;> cases q1 <;> (try rfl) <;> cases q2 <;> (try rfl) <;> cases q3 <;> (try rfl) <;> cases q4 <;> (try rfl) <;> cases q5 <;> rfl
    have bnd : ∀ m : Option Bool, (m >>= fun o => some o) = m := fun m => by cases m <;> rfl
    simp only [b8, Bool.false_eq_true, if_false]
    by_cases k9 : x.Kind = 9
    · simp only [k9, beq_self_eq_true, if_true, bind_some', show ((9 : Int) == 11) = false from rfl, show ((9 : Int) == 12) = false from rfl, show ((9 : Int) == 13) = false from rfl, Bool.false_eq_true, if_false, bnd]
      have hh := half false false false false
      simp only [beq_self_eq_true, if_true, Bool.true_and] at hh
      rw [hh]
      have e0 : ∀ b : Bool, ((!b) == false) = b := fun b => by cases b <;> rfl
      simp only [e0]
      cases h5 : zl x.Then with
      | false => generalize (x.Name == []) = a1; generalize (x.Text == []) = a2; generalize (x.N == 0) = a3; cases a1 <;> cases a2 <;> cases a3 <;> simp
      | true => cases h6 : zl x.Else with
        | false => generalize (x.Name == []) = a1; generalize (x.Text == []) = a2; generalize (x.N == 0) = a3; cases a1 <;> cases a2 <;> cases a3 <;> simp
        | true =>
          rw [hb5 h5, hb6 h6]
          generalize (x.Name == []) = a1; generalize (x.Text == []) = a2; generalize (x.N == 0) = a3; generalize (x.L.length == 1) = l1
          cases a1 <;> cases a2 <;> cases a3 <;> cases l1 <;> cases ex <;> rfl
    have b9 : (x.Kind == 9) = false := beq_eq_false_iff_ne.2 k9
    simp only [b9, Bool.false_eq_true, if_false]
    by_cases k10 : x.Kind = 10
    · simp only [k10, beq_self_eq_true, if_true, bind_some', show ((10 : Int) == 11) = false from rfl, show ((10 : Int) == 12) = false from rfl, show ((10 : Int) == 13) = false from rfl, Bool.false_eq_true, if_false, bnd]
      have hh := half false (!zl x.Then) (!zl x.Else) false
      simp only [beq_self_eq_true, if_true, Bool.true_and] at hh ⊢
      rw [hh]
      have e0 : ∀ b : Bool, ((!b) == false) = b := fun b => by cases b <;> rfl
      simp only [e0]
      generalize (x.Name == []) = a1; generalize (x.Text == []) = a2; generalize (x.N == 0) = a3; generalize (x.L.length == 1) = l1; generalize zl x.Then = a5; generalize zl x.Else = a6; generalize blockP x.Then true = bt; generalize blockP x.Else true = be
      cases a5 <;> cases a6 <;> cases a1 <;> cases a2 <;> cases a3 <;> cases l1 <;> cases ex <;> cases bt <;> cases be <;> rfl
    have b10 : (x.Kind == 10) = false := beq_eq_false_iff_ne.2 k10
    simp only [b10, Bool.false_eq_true, if_false]
    have e11 : (if (x.Kind == 11) = true then some (x.Kind == 11) else some (x.Kind == 12) : Option Bool) = some (x.Kind == 11 || x.Kind == 12) := by cases (x.Kind == 11) <;> rfl
    rw [e11]
    cases h11 : (x.Kind == 11 || x.Kind == 12) with
    | true =>
      have e12 : (if (x.Kind == 11) = true then some true else if (x.Kind == 12) = true then some true else some (x.Kind == 13) : Option Bool) = some true := by
        revert h11; cases (x.Kind == 11) <;> cases (x.Kind == 12) <;> intro h <;> first | rfl | cases h
      rw [e12]
      simp only [bind_some', if_true, bnd]
      rw [half (nameP x.Name) (!zl x.Then) false true]
      have e0 : ∀ b : Bool, ((!b) == false) = b := fun b => by cases b <;> rfl
      simp only [e0]
      cases hn : nameP x.Name with
      | false => rfl
      | true =>
        rw [nw hn]
        cases h6 : zl x.Else with
        | false => generalize (x.Text == []) = a2; generalize (x.N == 0) = a3; generalize zl x.Then = a5; cases a2 <;> cases a3 <;> cases a5 <;> simp
        | true =>
          rw [hb6 h6]
          generalize (x.Text == []) = a2; generalize (x.N == 0) = a3; generalize (x.L.length == 1) = l1; generalize zl x.Then = a5; generalize blockP x.Then true = bt
          cases a5 <;> cases a2 <;> cases a3 <;> cases l1 <;> cases ex <;> cases bt <;> rfl
    | false =>
      have e12 : (if (x.Kind == 11) = true then some true else if (x.Kind == 12) = true then some true else some (x.Kind == 13) : Option Bool) = some (x.Kind == 13) := by
        revert h11; cases (x.Kind == 11) <;> cases (x.Kind == 12) <;> intro h <;> first | rfl | cases h
      rw [e12]
      simp only [bind_some', Bool.false_eq_true, if_false]
      by_cases k13 : x.Kind = 13
      · simp only [k13, beq_self_eq_true, if_true, bind_some', bnd]
        rw [half (nameP x.Name) false false true]
        have e0 : ∀ b : Bool, ((!b) == false) = b := fun b => by cases b <;> rfl
        simp only [e0]
        cases hn : nameP x.Name with
        | false => rfl
        | true =>
          rw [nw hn]
          cases h5 : zl x.Then with
          | false => generalize (x.Text == []) = a2; generalize (x.N == 0) = a3; cases a2 <;> cases a3 <;> simp
          | true => cases h6 : zl x.Else with
            | false => generalize (x.Text == []) = a2; generalize (x.N == 0) = a3; cases a2 <;> cases a3 <;> simp
            | true =>
              rw [hb5 h5, hb6 h6]
              generalize (x.Text == []) = a2; generalize (x.N == 0) = a3; generalize (x.L.length == 1) = l1
              cases a2 <;> cases a3 <;> cases l1 <;> cases ex <;> rfl
      · have b13 : (x.Kind == 13) = false := beq_eq_false_iff_ne.2 k13
        simp only [b13, Bool.false_eq_true, if_false, bind_some']
section
variable (n : Nat) (hn : n < 900000000) (ih : ∀ x : api_Node, nn x ≤ n → allN okT x → R19_stmt x = some (stmtP x))
include hn ih
theorem rBlockL (l : List api_Node) (h : nns l ≤ n) (ho : allL okT l) (inn : Bool) : ∀ k, k ≤ l.length → R19_block_L1 l inn k = some (if blockP (l.drop k) inn then .inl () else .inr ()) := by
  have hl := nns_len l
  refine upto ?_ fun k hk ihk => ?_
  · rw [R19_block_L1]; simp [blockP]
  · have hx := nns_mem (List.getElem_mem hk)
    have ha := allL_mem (List.getElem_mem hk) ho
    have htx := ((allN_eq okT l[k]).1 ha).1.tx
    rw [R19_block_L1, wr_succ (by omega), ihk]
    simp only [ltI, hk, decide_true, if_true, idx_nat, getE hk, bind_some', ih l[k] (by omega) ha, lastI k l.length hk (by omega)]
    rw [dropE hk, blockP, badB]
    rw [dropNil hk]
    cases hs : stmtP l[k] with
    | false => rfl
    | true =>
      cases h8 : (l[k].Kind == 8) with
      | false =>
        have : (l[k].Kind != 8) = true := by rw [bne, h8]; rfl
        rw [this]
        simp
      | true =>
        have h8' : (l[k].Kind != 8) = false := by rw [bne, h8]; rfl
        rw [h8', rEnd l[k].Text (by omega) (stmt_text hs (by simpa using h8))]
        by_cases hlast : k + 1 = l.length
        · have e1 : (k + 1 == l.length) = true := beq_iff_eq.2 hlast
          have e2 : litB (l.drop (k + 1)) = false := by rw [List.drop_eq_nil_of_le (by omega)]; rfl
          rw [e1, e2]
          cases inn <;> cases endB l[k].Text <;> simp
        · have e1 : (k + 1 == l.length) = false := beq_eq_false_iff_ne.2 hlast
          have hk1 : k + 1 < l.length := by omega
          rw [e1, litB_at l k hk1, getE hk1]
          simp only [bind_some']
          cases (l[k + 1].Kind == 8) <;> cases endB l[k].Text <;> cases inn <;> simp
theorem rBlock (l : List api_Node) (h : nns l ≤ n) (ho : allL okT l) (inn : Bool) : R19_block l inn = some (blockP l inn) := by
  have := rBlockL n hn ih l h ho inn 0 (by omega)
  rw [R19_block, show (0 : Int) = ((0 : Nat) : Int) from rfl, this, List.drop_zero]
  cases blockP l inn <;> rfl
end
theorem rStmt : ∀ n (x : api_Node), n < 900000000 → nn x ≤ n → allN okT x → R19_stmt x = some (stmtP x) := by
  intro n
  induction n with
  | zero => intro x _ h; have := nn_pos x; omega
  | succ n ih =>
    intro x hb h ho
    rw [nn_eq] at h
    obtain ⟨hq, ho1, ho2, ho3⟩ := (allN_eq okT x).1 ho
    have hnm := hq.nm
    have htx := hq.tx
    have hll := nns_len x.L
    have ih' := fun y => ih y (by omega)
    have t1 := rBlock n (by omega) ih' x.Then (by omega) ho2 true
    have t2 := rBlock n (by omega) ih' x.Else (by omega) ho3 true
    have hex := rExprs n (fun y hy => rExpr n y (by omega) hy) x.L (by omega) ho1 (by omega)
    rw [R19_stmt, stmtP_eq, rName x.Name (by omega), rStands x.Text (by omega), t1, t2, hex]
    simp only [bind_some', oneI, rBare, bareB]
    have e1 : (if (x.L.length == 1) = true then some (exprsP x.L) else some false : Option Bool) = some (x.L.length == 1 && exprsP x.L) := by cases (x.L.length == 1) <;> rfl
    rw [e1]
    simp only [bind_some']
    generalize (x.L.length == 1 && exprsP x.L) = one
    by_cases k8 : x.Kind = 8
    · have e10 : (x.Kind == 10) = false := beq_eq_false_iff_ne.2 (by omega)
      simp only [e10]
      simp only [k8, beq_self_eq_true, if_true]
      generalize (x.Name == []) = a1
      generalize (x.Text == []) = a2
      generalize (x.N == 0) = a3
      generalize zl x.L = a4
      generalize zl x.Then = a5
      generalize zl x.Else = a6
      generalize hasB x.Text = hh
      cases a2 <;> (try rfl) <;> cases hh <;> (try rfl) <;> cases a1 <;> (try rfl) <;> cases a3 <;> rfl
    have b8 : (x.Kind == 8) = false := beq_eq_false_iff_ne.2 k8
    simp only [b8, Bool.false_eq_true, if_false]
    by_cases k10 : x.Kind = 10
    · simp only [k10, beq_self_eq_true, if_true, show ((10 : Int) == 9) = false from rfl, Bool.false_eq_true, if_false]
      generalize (x.Name == []) = a1
      generalize (x.Text == []) = a2
      generalize (x.N == 0) = a3
      generalize blockP x.Then true = bt
      generalize blockP x.Else true = be
      generalize zl x.L = a4
      generalize zl x.Then = a5
      generalize zl x.Else = a6
      cases one <;> (try rfl) <;> cases bt <;> (try rfl) <;> cases be <;> (try rfl) <;> cases a1 <;> (try rfl) <;> cases a2 <;> (try rfl) <;> cases a3 <;> rfl
    have b10 : (x.Kind == 10) = false := beq_eq_false_iff_ne.2 k10
    simp only [b10, Bool.false_eq_true, if_false]
    have e11 : (if (x.Kind == 11) = true then some (x.Kind == 11) else some (x.Kind == 12) : Option Bool) = some (x.Kind == 11 || x.Kind == 12) := by cases (x.Kind == 11) <;> rfl
    rw [e11]
    simp only [bind_some']
    have nw : nameP x.Name = true → (x.Name == []) = false := fun h => word_ne (name_word h)
    generalize (x.Kind == 9) = k9
    generalize (x.Kind == 11 || x.Kind == 12) = k11
    generalize (x.Kind == 13) = k13
    generalize (x.Name == []) = a1
    generalize nameP x.Name = nm
    generalize (x.Text == []) = a2
    generalize (x.N == 0) = a3
    generalize blockP x.Then true = bt
    generalize blockP x.Else true = be
    generalize zl x.L = a4
    generalize zl x.Then = a5
    generalize zl x.Else = a6
    cases k9
    · cases k11
      · cases k13
        · rfl
        · cases nm <;> (try rfl) <;> cases one <;> (try rfl) <;> cases a2 <;> (try rfl) <;> cases a3 <;> rfl
      · cases nm <;> (try rfl) <;> cases one <;> (try rfl) <;> cases bt <;> (try rfl) <;> cases a2 <;> (try rfl) <;> cases a3 <;> rfl
    · cases one <;> (try rfl) <;> cases a1 <;> (try rfl) <;> cases a2 <;> (try rfl) <;> cases a3 <;> rfl
end Go.Proofs.Ytlhjieapkcnghaa
end

section
namespace Go.Proofs.Ytlhjieapkcnghaa
open Go.RowKit

def maxD (l : List (api_Node × Int)) (m : Int) : Int := l.foldl (fun m x => if x.2 > m then x.2 else m) m
theorem maxD_app (a b : List (api_Node × Int)) (m : Int) : maxD (a ++ b) m = maxD b (maxD a m) := by unfold maxD; rw [List.foldl_append]
theorem tDeepL (x1 : List api_Node × Int) : ∀ (l : List (api_Node × Int)) (m : Int), tree_Deep_L1 x1 l m = some (maxD l m)
  | [], m => by rw [tree_Deep_L1]; rfl
  | x :: r, m => by rw [tree_Deep_L1, tDeepL x1 r]; rfl
theorem tCountL (x1 : List api_Node × Int) : ∀ (l : List (api_Node × Int)) (m : Nat), m + l.length < 9223372036854775807 → tree_Count_L1 x1 l m = some ((m + l.length : Nat) : Int)
  | [], m, _ => by rw [tree_Count_L1]; rfl
  | x :: r, m, h => by
    simp at h
    rw [tree_Count_L1, wr_succ (by omega), tCountL x1 r (m + 1) (by omega)]
    simp; omega
theorem tAll3 (p0 : List api_Node) (p1 v12 : Int) (x3 : api_Node) (v28 : Int) (x7 : List api_Node × Int) : ∀ l : List (api_Node × Int), tree_all_1_L3 p0 p1 v12 x3 v28 x7 l = some (l, ())
  | [] => by rw [tree_all_1_L3]
  | x :: r => by
    obtain ⟨⟨k, s, t, n, a, b, c⟩, d⟩ := x
    rw [tree_all_1_L3, tAll3 p0 p1 v12 x3 v28 x7 r]; rfl
/-- What the loop over all hands out. -/
def AllIs (d : Nat) (k dep : Nat) (o : Option (List (api_Node × Int) × Unit)) : Prop := ∃ out, o = some (out, ()) ∧ out.length = k ∧ ∀ m : Int, (d : Int) - 1 ≤ m → maxD out m = max m ((d : Int) - 1 + dep)
section
variable (n : Nat) (ih : ∀ (l : List api_Node) (d : Nat), nns l ≤ n → n + d ≤ 1000000000 → AllIs d (nns l) (dps l) (tree_all_1 l d))
include ih
theorem tAll2 (l : List api_Node) (d : Nat) (v : Int) (x : api_Node) (hx : nn x ≤ n + 1) (hd : n + 1 + d ≤ 1000000000) :
    AllIs (d + 1) (nns x.L + nns x.Then + nns x.Else) (max (dps x.L) (max (dps x.Then) (dps x.Else))) (tree_all_1_L2 l d v x 0) := by
  rw [nn_eq] at hx
  have ed : wr ((d : Int) + 1) = ((d + 1 : Nat) : Int) := wr_succ (by omega)
  obtain ⟨o1, a1, a2, a3⟩ := ih x.L (d + 1) (by omega) (by omega)
  obtain ⟨o2, b1, b2, b3⟩ := ih x.Then (d + 1) (by omega) (by omega)
  obtain ⟨o3, c1, c2, c3⟩ := ih x.Else (d + 1) (by omega) (by omega)
  have s3 : tree_all_1_L2 l d v x 3 = some ([], ()) := by rw [tree_all_1_L2]; rfl
  have s2 : tree_all_1_L2 l d v x 2 = some (o3 ++ [], ()) := by
    rw [tree_all_1_L2]
    have e : wr ((2 : Int) + 1) = 3 := by rw [wr_in (by omega) (by omega)]; rfl
    have g : idx ([x.L, x.Then, x.Else] : List (List api_Node)) 2 = some x.Else := idx_lit _ 2
    rw [g, e, s3]
    simp only [bind_some', tree_all, ed, c1, tAll3, show decide ((2 : Int) < 3) = true from rfl, if_true]
  have s1 : tree_all_1_L2 l d v x 1 = some (o2 ++ (o3 ++ []), ()) := by
    rw [tree_all_1_L2]
    have e : wr ((1 : Int) + 1) = 2 := by rw [wr_in (by omega) (by omega)]; rfl
    have g : idx ([x.L, x.Then, x.Else] : List (List api_Node)) 1 = some x.Then := idx_lit _ 1
    rw [g, e, s2]
    simp only [bind_some', tree_all, ed, b1, tAll3, show decide ((1 : Int) < 3) = true from rfl, if_true]
  have s0 : tree_all_1_L2 l d v x 0 = some (o1 ++ (o2 ++ (o3 ++ [])), ()) := by
    rw [tree_all_1_L2]
    have e : wr ((0 : Int) + 1) = 1 := by rw [wr_in (by omega) (by omega)]; rfl
    have g : idx ([x.L, x.Then, x.Else] : List (List api_Node)) 0 = some x.L := idx_lit _ 0
    rw [g, e, s1]
    simp only [bind_some', tree_all, ed, a1, tAll3, show decide ((0 : Int) < 3) = true from rfl, if_true]
  refine ⟨_, s0, by simp; omega, fun m hm => ?_⟩
  rw [List.append_nil, maxD_app, maxD_app, a3 m hm, b3 _ (by omega), c3 _ (by omega)]
  omega
theorem tAll1 (l : List api_Node) (d : Nat) (hl : nns l ≤ n + 1) (hd : n + 1 + d ≤ 1000000000) : ∀ k, k ≤ l.length → AllIs d (nns (l.drop k)) (dps (l.drop k)) (tree_all_1_L1 l d k) := by
  have hlen := nns_len l
  refine upto ?_ fun k hk ihk => ?_
  · rw [tree_all_1_L1, List.drop_length]
    refine ⟨[], by simp, by simp [nns], fun m hm => ?_⟩
    simp [maxD, dps]; omega
  · have hx := nns_mem (List.getElem_mem hk)
    obtain ⟨o1, a1, a2, a3⟩ := tAll2 n ih l d k l[k] (by omega) hd
    obtain ⟨o2, b1, b2, b3⟩ := ihk
    rw [tree_all_1_L1, wr_succ (by omega)]
    simp only [ltI, hk, decide_true, if_true, idx_nat, getE hk, bind_some', a1, b1]
    rw [dropE hk]
    refine ⟨_, rfl, ?_, fun m hm => ?_⟩
    · simp [nns, nn_eq, a2, b2]; omega
    · show maxD ([(l[k], (d : Int))] ++ (o1 ++ o2)) m = _
      have e0 : maxD [(l[k], (d : Int))] m = max m d := by
        show (if (d : Int) > m then (d : Int) else m) = _
        split <;> omega
      rw [maxD_app, maxD_app, e0, a3 _ (by omega), b3 _ (by omega), dps, dp_eq]
      omega
end
theorem tAll : ∀ n (l : List api_Node) (d : Nat), nns l ≤ n → n + d ≤ 1000000000 → AllIs d (nns l) (dps l) (tree_all_1 l d) := by
  intro n
  induction n with
  | zero =>
    intro l d h _
    have hl : l = [] := List.eq_nil_of_length_eq_zero (by have := nns_len l; omega)
    subst hl
    rw [tree_all_1, tree_all_1_L1]
    refine ⟨[], by simp, by simp [nns], fun m hm => ?_⟩
    simp [maxD, dps]; omega
  | succ n ih =>
    intro l d h hd
    obtain ⟨o, a1, a2, a3⟩ := tAll1 n ih l d h hd 0 (by omega)
    rw [List.drop_zero] at a2 a3
    refine ⟨o, ?_, a2, a3⟩
    rw [tree_all_1, show (0 : Int) = ((0 : Nat) : Int) from rfl, a1]
    simp
theorem tDeep (l : List api_Node) (h : nns l ≤ 900000000) : tree_Deep l = some (dps l : Int) := by
  obtain ⟨o, a1, a2, a3⟩ := tAll 900000000 l 1 h (by omega)
  rw [tree_Deep, tree_all]
  simp only [bind_some']
  rw [show (1 : Int) = ((1 : Nat) : Int) from rfl, a1]
  simp only [bind_some', tDeepL]
  rw [a3 0 (by omega)]
  congr 1
  omega
theorem tCount (l : List api_Node) (h : nns l ≤ 900000000) : tree_Count l = some (nns l : Int) := by
  obtain ⟨o, a1, a2, a3⟩ := tAll 900000000 l 1 h (by omega)
  have := tCountL (l, ((1 : Nat) : Int)) o 0 (by omega)
  rw [tree_Count, tree_all]
  simp only [bind_some']
  rw [show (1 : Int) = ((1 : Nat) : Int) from rfl, a1]
  simp only [bind_some']
  rw [show (0 : Int) = ((0 : Nat) : Int) from rfl, this]
  simp [a2]
theorem dps_le : ∀ m (l : List api_Node), nns l ≤ m → dps l ≤ nns l := by
  intro m
  induction m with
  | zero =>
    intro l h
    have hl : l = [] := List.eq_nil_of_length_eq_zero (by have := nns_len l; omega)
    subst hl; simp [dps]
  | succ m ihm =>
    intro l
    induction l with
    | nil => intro _; simp [dps]
    | cons x r ihr =>
      intro h
      rw [nns, nn_eq] at h
      have h1 := ihm x.L (by omega)
      have h2 := ihm x.Then (by omega)
      have h3 := ihm x.Else (by omega)
      have h4 := ihr (by omega)
      rw [dps, dp_eq, nns, nn_eq]
      omega
section
variable (n : Nat) (hn : n ≤ 900000000) (ih : ∀ l : List api_Node, nns l ≤ n → R19_Deep l = some (dps l : Int) ∧ R19_Count l = some (nns l : Int))
include hn ih
theorem rDeepL (l : List api_Node) (h : nns l ≤ n + 1) : ∀ k, k ≤ l.length → ∀ v : Nat, v ≤ 1000000000 → R19_Deep_L1 l v k = some ((max v (dps (l.drop k)) : Nat) : Int) := by
  have hl := nns_len l
  refine upto ?_ fun k hk ihk => ?_
  · intro v _; rw [R19_Deep_L1]; simp [dps]
  · intro v hv
    have hx := nns_mem (List.getElem_mem hk)
    rw [nn_eq] at hx
    have d1 := dps_le _ l[k].L (Nat.le_refl _)
    have d2 := dps_le _ l[k].Then (Nat.le_refl _)
    have d3 := dps_le _ l[k].Else (Nat.le_refl _)
    have em : (if (dps l[k].Else : Int) > (if (dps l[k].Then : Int) > (dps l[k].L : Int) then (dps l[k].Then : Int) else (dps l[k].L : Int)) then (dps l[k].Else : Int) else (if (dps l[k].Then : Int) > (dps l[k].L : Int) then (dps l[k].Then : Int) else (dps l[k].L : Int))) = ((max (dps l[k].L) (max (dps l[k].Then) (dps l[k].Else)) : Nat) : Int) := by
      split <;> split at * <;> omega
    rw [R19_Deep_L1, wr_succ (by omega)]
    simp only [ltI, hk, decide_true, if_true, idx_nat, getE hk, bind_some', (ih l[k].L (by omega)).1, (ih l[k].Then (by omega)).1, (ih l[k].Else (by omega)).1]
    rw [em]
    have ew : wr (1 + ((max (dps l[k].L) (max (dps l[k].Then) (dps l[k].Else)) : Nat) : Int)) = ((dp l[k] : Nat) : Int) := by
      rw [wr_in (by omega) (by omega), dp_eq]; omega
    rw [ew]
    have ei : (if ((dp l[k] : Nat) : Int) > (v : Int) then ((dp l[k] : Nat) : Int) else (v : Int)) = ((max v (dp l[k]) : Nat) : Int) := by split <;> omega
    have hdp : dp l[k] ≤ 1000000000 := by rw [dp_eq]; omega
    rw [ei, ihk (max v (dp l[k])) (by omega), dropE hk, dps]
    congr 2
    omega
theorem rCountL (l : List api_Node) (h : nns l ≤ n + 1) : ∀ k, k ≤ l.length → ∀ v : Nat, v + nns (l.drop k) ≤ 1000000000 → R19_Count_L1 l v k = some ((v + nns (l.drop k) : Nat) : Int) := by
  have hl := nns_len l
  refine upto ?_ fun k hk ihk => ?_
  · intro v _; rw [R19_Count_L1]; simp [nns]
  · intro v hv
    have hx := nns_mem (List.getElem_mem hk)
    rw [nn_eq] at hx
    rw [dropE hk, nns, nn_eq] at hv
    rw [R19_Count_L1, wr_succ (i := k) (by omega)]
    simp only [ltI, hk, decide_true, if_true, idx_nat, getE hk, bind_some', (ih l[k].L (by omega)).2, (ih l[k].Then (by omega)).2, (ih l[k].Else (by omega)).2]
    have ew : wr ((wr ((wr ((wr ((v : Int) + 1)) + (nns l[k].L : Int))) + (nns l[k].Then : Int))) + (nns l[k].Else : Int)) = ((v + nn l[k] : Nat) : Int) := by
      rw [wr_in (n := (v : Int) + 1) (by omega) (by omega), wr_in (n := (v : Int) + 1 + (nns l[k].L : Int)) (by omega) (by omega), wr_in (n := (v : Int) + 1 + (nns l[k].L : Int) + (nns l[k].Then : Int)) (by omega) (by omega), wr_in (by omega) (by omega), nn_eq]
      omega
    rw [ew, ihk (v + nn l[k]) (by rw [nn_eq]; omega), dropE hk, nns]
    congr 2
    omega
end
theorem rDC : ∀ n (l : List api_Node), n ≤ 900000000 → nns l ≤ n → R19_Deep l = some (dps l : Int) ∧ R19_Count l = some (nns l : Int) := by
  intro n
  induction n with
  | zero =>
    intro l _ h
    have hl : l = [] := List.eq_nil_of_length_eq_zero (by have := nns_len l; omega)
    subst hl
    rw [R19_Deep, R19_Count, R19_Deep_L1, R19_Count_L1]
    simp [dps, nns]
  | succ n ih =>
    intro l hn h
    have h1 := rDeepL n (by omega) (fun l hl => ih l (by omega) hl) l h 0 (by omega) 0 (by omega)
    have h2 := rCountL n (by omega) (fun l hl => ih l (by omega) hl) l h 0 (by omega) 0 (by rw [List.drop_zero]; omega)
    rw [R19_Deep, R19_Count, show (0 : Int) = ((0 : Nat) : Int) from rfl, h1, h2]
    simp
noncomputable def isP (l : List api_Node) : Bool := decide (dps l ≤ 12) && (decide (nns l ≤ 1024) && blockP l false)
theorem tIs (l : List api_Node) (h : nns l ≤ 800000000) (ho : allL okT l) : tree_Is l = some (isP l) := by
  have e1 : decide ((dps l : Int) ≤ 12) = decide (dps l ≤ 12) := leN _ 12
  have e2 : decide ((nns l : Int) ≤ 1024) = decide (nns l ≤ 1024) := leN _ 1024
  have hb := tBlock 800000000 (by omega) (fun x hx => tStmt 800000000 x (by omega) hx) l h ho true
  rw [tree_Is, tDeep l (by omega), tCount l (by omega), hb, isP]
  simp only [bind_some', e1, e2]
  cases decide (dps l ≤ 12) <;> cases decide (nns l ≤ 1024) <;> rfl
theorem rIs (l : List api_Node) (h : nns l ≤ 800000000) (ho : allL okT l) : R19_Is l = some (isP l) := by
  have e1 : decide ((dps l : Int) ≤ 12) = decide (dps l ≤ 12) := leN _ 12
  have e2 : decide ((nns l : Int) ≤ 1024) = decide (nns l ≤ 1024) := leN _ 1024
  have hb := rBlock 800000000 (by omega) (fun x hx => rStmt 800000000 x (by omega) hx) l h ho false
  obtain ⟨hd, hc⟩ := rDC 800000000 l (by omega) h
  rw [R19_Is, hd, hc, hb, isP]
  simp only [bind_some', e1, e2]
  cases decide (dps l ≤ 12) <;> cases decide (nns l ≤ 1024) <;> cases blockP l false <;> rfl
end Go.Proofs.Ytlhjieapkcnghaa
end

section
namespace Go.Proofs.Ytlhjieapkcnghaa
open Go.RowKit

theorem s2b_app (a b : List UInt8) : s2b (a ++ b) = s2b a ++ s2b b := by simp [s2b]
theorem s2b_len (a : List UInt8) : (s2b a).length = a.length := by simp [s2b]
theorem b2s_s2b (l : List UInt8) : b2s (s2b l) = some l := by
  unfold b2s s2b
  rw [if_pos]
  · rw [List.map_map]
    congr 1
    have : ∀ c : UInt8, ((fun n : Int => UInt8.ofNat n.toNat) ∘ fun c : UInt8 => (c.toNat : Int)) c = c := fun c => by simp
    rw [show ((fun n : Int => UInt8.ofNat n.toNat) ∘ fun c : UInt8 => (c.toNat : Int)) = id from funext this, List.map_id]
  · rw [List.all_eq_true]
    intro n hn
    obtain ⟨c, -, rfl⟩ := List.mem_map.1 hn
    have := c.toNat_lt
    simp only [decide_eq_true_eq]
    omega
/-- What a writer does: it puts bytes behind those that are there. -/
def Puts (w : List UInt8) (acc : List Int) (o : Option (Bool × List Int)) : Prop := ∃ f, o = some (f, acc ++ s2b w)
abbrev room : Nat := 100000000000
theorem wrStr (p : List UInt8) (f : Bool) (acc : List Int) (h : acc.length + p.length ≤ room) : strings_Builder_WriteString_2 p f acc = some ((p.length : Int), (), true, acc ++ s2b p) := by
  have hroom : room = 100000000000 := rfl
  rw [strings_Builder_WriteString_2, strings_Builder_copyCheck_2, appL_ok (by rw [s2b_len]; omega) (by rw [s2b_len]; omega)]
  rfl
theorem putL (l : List (List UInt8)) (hl : l.length < 1000) : ∀ k, k ≤ l.length → ∀ f acc, acc.length + (l.drop k).flatten.length ≤ room → Puts (l.drop k).flatten acc (tree_printer_put_2_L1 l k f acc) := by
  refine upto ?_ fun k hk ih => ?_
  · intro f acc _
    rw [tree_printer_put_2_L1]
    exact ⟨f, by simp [s2b]⟩
  · intro f acc h
    rw [dropE hk, List.flatten_cons, List.length_append] at h
    rw [tree_printer_put_2_L1, wr_succ (by omega)]
    simp only [ltI, hk, decide_true, if_true, idx_nat, getE hk, bind_some', wrStr l[k] f acc (by omega)]
    obtain ⟨f', hf⟩ := ih true (acc ++ s2b l[k]) (by rw [List.length_append, s2b_len]; omega)
    refine ⟨f', ?_⟩
    rw [hf, dropE hk, List.flatten_cons, s2b_app, List.append_assoc]
theorem put (l : List (List UInt8)) (hl : l.length < 1000) (f : Bool) (acc : List Int) (h : acc.length + l.flatten.length ≤ room) : Puts l.flatten acc (tree_printer_put_2 l f acc) := by
  obtain ⟨f', hf⟩ := putL l hl 0 (by omega) f acc (by rw [List.drop_zero]; exact h)
  rw [List.drop_zero] at hf
  rw [tree_printer_put_2, show (0 : Int) = ((0 : Nat) : Int) from rfl, hf]
  exact ⟨f', rfl⟩
theorem Puts.seq {w1 w2 : List UInt8} {acc : List Int} {o : Option (Bool × List Int)} {g : Bool × List Int → Option (Bool × List Int)} (h : Puts w1 acc o) (k : ∀ f, Puts w2 (acc ++ s2b w1) (g (f, acc ++ s2b w1))) : Puts (w1 ++ w2) acc (o >>= g) := by
  obtain ⟨f, rfl⟩ := h
  obtain ⟨f', hf⟩ := k f
  refine ⟨f', ?_⟩
  rw [bind_some', hf, s2b_app, List.append_assoc]
theorem Puts.ret {w : List UInt8} {acc : List Int} {o : Option (Bool × List Int)} (h : Puts w acc o) : Puts w acc (o >>= fun x => some (x.1, x.2)) := by
  obtain ⟨f, rfl⟩ := h
  exact ⟨f, rfl⟩
mutual
noncomputable def exprW : api_Node → List UInt8
  | ⟨k, s, t, n, a, _, _⟩ =>
    if k == 1 then (quoteP t).1 else
    if k == 2 then textL n else
    if k == 3 then (if n == 1 then [116, 114, 117, 101] else [102, 97, 108, 115, 101]) else
    if k == 4 then s else
    if k == 7 then [115, 101, 99, 114, 101, 116, 40, 34] ++ (s ++ [34, 41]) else
    if k == 5 then headW a ++ ([46] ++ s) else
    if k == 6 then (s ++ [40]) ++ (argsW a false ++ [41]) else []
noncomputable def headW : List api_Node → List UInt8
  | [] => []
  | x :: _ => exprW x
noncomputable def argsW : List api_Node → Bool → List UInt8
  | [], _ => []
  | x :: r, more => (if more then [44, 32] else []) ++ (exprW x ++ argsW r true)
end
theorem exprW_eq (x : api_Node) : exprW x =
    if x.Kind == 1 then (quoteP x.Text).1 else
    if x.Kind == 2 then textL x.N else
    if x.Kind == 3 then (if x.N == 1 then [116, 114, 117, 101] else [102, 97, 108, 115, 101]) else
    if x.Kind == 4 then x.Name else
    if x.Kind == 7 then [115, 101, 99, 114, 101, 116, 40, 34] ++ (x.Name ++ [34, 41]) else
    if x.Kind == 5 then headW x.L ++ ([46] ++ x.Name) else
    if x.Kind == 6 then (x.Name ++ [40]) ++ (argsW x.L false ++ [41]) else [] := by cases x; rw [exprW]
section
variable (n : Nat) (ih : ∀ (x : api_Node) (f : Bool) (acc : List Int), nn x ≤ n → allN okT x → exprP x = true → acc.length + (exprW x).length ≤ room → Puts (exprW x) acc (tree_printer_expr_2 x f acc))
include ih
theorem putArgs (p : api_Node) (h : nns p.L ≤ n) (ho : allL okT p.L) (hl : p.L.length < 9223372036854775807) : ∀ k, k ≤ p.L.length → exprsP (p.L.drop k) = true → ∀ f acc, acc.length + (argsW (p.L.drop k) (decide (0 < k))).length ≤ room →
    Puts (argsW (p.L.drop k) (decide (0 < k))) acc (tree_printer_expr_2_L1 p k f acc) := by
  refine upto ?_ fun k hk ihk => ?_
  · intro _ f acc _
    rw [tree_printer_expr_2_L1, List.drop_length]
    exact ⟨f, by simp [argsW, s2b]⟩
  · intro he f acc hr
    rw [dropE hk, exprsP, Bool.and_eq_true] at he
    rw [dropE hk, argsW, List.length_append, List.length_append] at hr
    have hx := nns_mem (List.getElem_mem hk)
    have hxo := allL_mem (List.getElem_mem hk) ho
    have e1 : decide (0 < k + 1) = true := decide_eq_true (by omega)
    rw [e1] at ihk
    rw [tree_printer_expr_2_L1, wr_succ (by omega), dropE hk, argsW]
    simp only [ltI, hk, decide_true, if_true, idx_nat, getE hk, bind_some']
    have e2 : decide ((k : Int) > 0) = decide (0 < k) := by
      by_cases h0 : 0 < k
      · rw [decide_eq_true h0, decide_eq_true (by omega)]
      · rw [decide_eq_false h0, decide_eq_false (by omega)]
    rw [e2]
    cases hd : decide (0 < k) with
    | false =>
      rw [hd] at hr
      simp only [Bool.false_eq_true, if_false, List.nil_append, List.length_nil] at hr ⊢
      exact (ih p.L[k] f acc (by omega) hxo he.1 (by omega)).seq fun f' => ihk he.2 f' _ (by rw [List.length_append, s2b_len]; omega)
    | true =>
      rw [hd] at hr
      simp only [if_true, List.length_cons, List.length_nil] at hr ⊢
      refine (put [[44, 32]] (by decide) f acc (by simp; omega)).seq fun f' => ?_
      refine (ih p.L[k] f' _ (by omega) hxo he.1 (by rw [List.length_append, s2b_len]; simp; omega)).seq fun f'' => ihk he.2 f'' _ (by simp only [List.length_append, s2b_len]; simp; omega)
end
theorem putExpr : ∀ n (x : api_Node) (f : Bool) (acc : List Int), n ≤ 900000000 → nn x ≤ n → allN okT x → exprP x = true → acc.length + (exprW x).length ≤ room → Puts (exprW x) acc (tree_printer_expr_2 x f acc) := by
  intro n
  induction n with
  | zero => intro x f acc _ h; have := nn_pos x; omega
  | succ n ih =>
    intro x f acc hn h ho he hr
    rw [nn_eq] at h
    obtain ⟨hq, ho1, -, -⟩ := (allN_eq okT x).1 ho
    rw [exprW_eq] at hr ⊢
    rw [exprP_eq] at he
    rw [tree_printer_expr_2]
    have one : ∀ w : List UInt8, acc.length + w.length ≤ room → Puts w acc (tree_printer_put_2 [w] f acc >>= fun x => some (x.1, x.2)) := fun w hw => by
      have := put [w] (by simp) f acc (by simpa using hw)
      rw [List.flatten_cons, List.flatten_nil, List.append_nil] at this
      exact this.ret
    by_cases k1 : x.Kind = 1
    · obtain ⟨q, q1, q2⟩ := hq.qt k1
      simp only [k1, beq_self_eq_true, if_true] at hr ⊢
      have e : quoteP x.Text = q := by rw [quoteP, q1]; rfl
      rw [q1, bind_some']
      rw [e] at hr ⊢
      exact one q.1 hr
    have b1 : (x.Kind == 1) = false := beq_eq_false_iff_ne.2 k1
    simp only [b1, Bool.false_eq_true, if_false] at hr he ⊢
    by_cases k2 : x.Kind = 2
    · simp only [k2, beq_self_eq_true, if_true] at hr ⊢
      rw [octet_Text, need_ok hq.rg.1, bind_some', need_ok hq.rg.2, bind_some', bind_some']
      exact one _ hr
    have b2 : (x.Kind == 2) = false := beq_eq_false_iff_ne.2 k2
    simp only [b2, Bool.false_eq_true, if_false] at hr he ⊢
    by_cases k3 : x.Kind = 3
    · simp only [k3, beq_self_eq_true, if_true] at hr ⊢
      cases hN : (x.N == 1) with
      | true => rw [hN] at hr; exact one _ hr
      | false => rw [hN] at hr; exact one _ hr
    have b3 : (x.Kind == 3) = false := beq_eq_false_iff_ne.2 k3
    simp only [b3, Bool.false_eq_true, if_false] at hr he ⊢
    by_cases k4 : x.Kind = 4
    · simp only [k4, beq_self_eq_true, if_true] at hr ⊢
      exact one _ hr
    have b4 : (x.Kind == 4) = false := beq_eq_false_iff_ne.2 k4
    simp only [b4, Bool.false_eq_true, if_false] at hr he ⊢
    by_cases k7 : x.Kind = 7
    · simp only [k7, beq_self_eq_true, if_true] at hr ⊢
      have := put [[115, 101, 99, 114, 101, 116, 40, 34], x.Name, [34, 41]] (by simp) f acc (by simpa using hr)
      simp only [List.flatten_cons, List.flatten_nil, List.append_nil] at this
      exact this.ret
    have b7 : (x.Kind == 7) = false := beq_eq_false_iff_ne.2 k7
    simp only [b7, Bool.false_eq_true, if_false] at hr he ⊢
    by_cases k5 : x.Kind = 5
    · simp only [k5, beq_self_eq_true, if_true, Bool.and_eq_true] at hr he ⊢
      obtain ⟨-, hl, hex, -⟩ := he
      obtain ⟨y, hy⟩ := List.length_eq_one_iff.1 (by simpa using hl : x.L.length = 1)
      have hy1 : nn y ≤ n := by have := nns_mem (show y ∈ x.L by rw [hy]; simp); omega
      have hy2 : allN okT y := allL_mem (show y ∈ x.L by rw [hy]; simp) ho1
      have hy3 : exprP y = true := by rw [hy, exprsP, Bool.and_eq_true] at hex; exact hex.1
      rw [hy, headW, List.length_append] at hr
      rw [hy, headW]
      simp only [idx_0, List.getElem?_cons_zero, bind_some']
      refine (ih y f acc (by omega) hy1 hy2 hy3 (by omega)).seq fun f' => ?_
      have := put [[46], x.Name] (by simp) f' (acc ++ s2b (exprW y)) (by rw [List.length_append, s2b_len]; simp at hr ⊢; omega)
      simp only [List.flatten_cons, List.flatten_nil, List.append_nil] at this
      exact this.ret
    have b5 : (x.Kind == 5) = false := beq_eq_false_iff_ne.2 k5
    simp only [b5, Bool.false_eq_true, if_false] at hr he ⊢
    by_cases k6 : x.Kind = 6
    · simp only [k6, beq_self_eq_true, if_true, Bool.and_eq_true] at hr he ⊢
      obtain ⟨-, -, hex, -⟩ := he
      have hll := nns_len x.L
      rw [List.length_append, List.length_append, List.length_append] at hr
      simp only [List.length_cons, List.length_nil] at hr
      have p1 := put [x.Name, [40]] (by simp) f acc (by simp; omega)
      simp only [List.flatten_cons, List.flatten_nil, List.append_nil] at p1
      refine p1.seq fun f' => ?_
      have p2 := putArgs n (fun y f acc => ih y f acc (by omega)) x (by omega) ho1 (by omega) 0 (by omega) (by rw [List.drop_zero]; exact hex) f' (acc ++ s2b (x.Name ++ [40])) (by
        rw [List.length_append, s2b_len, List.drop_zero, List.length_append]
        simp only [List.length_cons, List.length_nil, show decide (0 < 0) = false from rfl]
        omega)
      rw [List.drop_zero] at p2
      refine Puts.seq (w1 := argsW x.L false) p2 fun f'' => ?_
      have p3 := put [[41]] (by simp) f'' (acc ++ s2b (x.Name ++ [40]) ++ s2b (argsW x.L false)) (by
        simp only [List.length_append, s2b_len, List.length_cons, List.length_nil, List.flatten_cons, List.flatten_nil]
        omega)
      simp only [List.flatten_cons, List.flatten_nil, List.append_nil] at p3
      exact p3.ret
    have b6 : (x.Kind == 6) = false := beq_eq_false_iff_ne.2 k6
    simp only [b6, Bool.false_eq_true, if_false] at he
end Go.Proofs.Ytlhjieapkcnghaa
end

section
namespace Go.Proofs.Ytlhjieapkcnghaa
open Go.RowKit

theorem nextP_size (l : List UInt8) (h : l ≠ []) : 1 ≤ (nextP l).2 ∧ (nextP l).2 ≤ l.length := by
  cases l with
  | nil => exact absurd rfl h
  | cons c r =>
    rw [nextP]
    unfold nextC
    split
    · simp
    · split
      · split
        · split <;> simp
        · simp
      · split
        · split
          · split <;> simp
          · simp
        · split
          · split
            · split <;> simp
            · simp
          · simp
def utfF : Nat → List UInt8 → Bool
  | 0, _ => true
  | n + 1, l => match l with
    | [] => true
    | _ :: _ => if (nextP l).1 = 65533 ∧ (nextP l).2 = 1 then false else utfF n (l.drop (nextP l).2)
theorem utfF_step (n : Nat) (l : List UInt8) (h : l ≠ []) : utfF (n + 1) l = if (nextP l).1 = 65533 ∧ (nextP l).2 = 1 then false else utfF n (l.drop (nextP l).2) := by
  cases l with
  | nil => exact absurd rfl h
  | cons c r => rfl
theorem badI (p : Nat × Nat) : (if (((p.1 : Nat) : Int) == 65533) = true then some (((p.2 : Nat) : Int) == 1) else some false : Option Bool) = some (decide (p.1 = 65533 ∧ p.2 = 1)) := by
  have a := eqN p.1 65533
  have b := eqN p.2 1
  rw [show (65533 : Int) = ((65533 : Nat) : Int) from rfl, show (1 : Int) = ((1 : Nat) : Int) from rfl, a, b]
  by_cases h1 : p.1 = 65533
  · rw [beq_iff_eq.2 h1, if_pos rfl]
    by_cases h2 : p.2 = 1
    · rw [beq_iff_eq.2 h2, decide_eq_true ⟨h1, h2⟩]
    · rw [beq_eq_false_iff_ne.2 h2, decide_eq_false (fun h => h2 h.2)]
  · rw [beq_eq_false_iff_ne.2 h1, if_neg (by decide), decide_eq_false (fun h => h1 h.1)]
theorem rIsU (s : List UInt8) (hs : s.length < 9000000000000) : ∀ n k, k ≤ s.length → s.length - k ≤ n → R02_Is_L1 s k = some (if utfF n (s.drop k) = true then .inl () else .inr ()) := by
  intro n
  induction n with
  | zero =>
    intro k h1 h2
    rw [R02_Is_L1, ltI, decide_eq_false (by omega : ¬ k < s.length)]
    rfl
  | succ n ih =>
    intro k h1 h2
    by_cases hk : k < s.length
    · have hne : s.drop k ≠ [] := by rw [dropE hk]; exact List.cons_ne_nil _ _
      obtain ⟨z1, z2⟩ := nextP_size _ hne
      rw [List.length_drop] at z2
      have ew : wr ((k : Int) + ((nextP (s.drop k)).2 : Int)) = ((k + (nextP (s.drop k)).2 : Nat) : Int) := by rw [wr_in (by omega) (by omega)]; rfl
      rw [R02_Is_L1, ltI, decide_eq_true hk, rNext s k hk hs]
      simp only [if_true, bind_some']
      rw [badI (nextP (s.drop k)), ew, ih _ (by omega) (by omega), utfF_step n _ hne, List.drop_drop]
      by_cases hb : (nextP (s.drop k)).1 = 65533 ∧ (nextP (s.drop k)).2 = 1
      · rw [decide_eq_true hb, if_pos hb]; rfl
      · rw [decide_eq_false hb, if_neg hb]; rfl
    · rw [R02_Is_L1, ltI, decide_eq_false hk, List.drop_eq_nil_of_le (by omega)]
      rfl
theorem tIsU (s : List UInt8) (x1 : List UInt8) (hs : s.length < 9000000000000) : ∀ n k, k ≤ s.length → s.length - k ≤ n → ∃ out, utf_all_1_L1 s k = some (out, ()) ∧ utf_Is_L1 x1 out = some (if utfF n (s.drop k) = true then .inl () else .inr ()) := by
  intro n
  induction n with
  | zero =>
    intro k h1 h2
    rw [utf_all_1_L1, ltI, decide_eq_false (by omega : ¬ k < s.length)]
    refine ⟨[], rfl, ?_⟩
    rw [utf_Is_L1]; rfl
  | succ n ih =>
    intro k h1 h2
    by_cases hk : k < s.length
    · have hne : s.drop k ≠ [] := by rw [dropE hk]; exact List.cons_ne_nil _ _
      obtain ⟨z1, z2⟩ := nextP_size _ hne
      rw [List.length_drop] at z2
      have ew : wr ((k : Int) + ((nextP (s.drop k)).2 : Int)) = ((k + (nextP (s.drop k)).2 : Nat) : Int) := by rw [wr_in (by omega) (by omega)]; rfl
      obtain ⟨out, o1, o2⟩ := ih (k + (nextP (s.drop k)).2) (by omega) (by omega)
      rw [utf_all_1_L1, ltI, decide_eq_true hk, tNext s k hk (by omega)]
      simp only [if_true, bind_some']
      rw [ew, o1]
      refine ⟨_, rfl, ?_⟩
      rw [utf_Is_L1]
      simp only
      rw [badI (nextP (s.drop k)), o2, utfF_step n _ hne, List.drop_drop]
      by_cases hb : (nextP (s.drop k)).1 = 65533 ∧ (nextP (s.drop k)).2 = 1
      · rw [decide_eq_true hb, if_pos hb]; rfl
      · rw [decide_eq_false hb, if_neg hb]; rfl
    · rw [utf_all_1_L1, ltI, decide_eq_false hk, List.drop_eq_nil_of_le (by omega)]
      refine ⟨[], rfl, ?_⟩
      rw [utf_Is_L1]; rfl
theorem rUtf (s : List UInt8) (hs : s.length < 9000000000000) : R02_Is s = some (utfF s.length s) := by
  have := rIsU s hs s.length 0 (by omega) (by omega)
  rw [R02_Is, show (0 : Int) = ((0 : Nat) : Int) from rfl, this, List.drop_zero]
  cases utfF s.length s <;> rfl
theorem tUtf (s : List UInt8) (hs : s.length < 9000000000000) : utf_Is s = some (utfF s.length s) := by
  obtain ⟨out, o1, o2⟩ := tIsU s s hs s.length 0 (by omega) (by omega)
  rw [List.drop_zero] at o2
  rw [utf_Is, utf_all]
  simp only [bind_some']
  rw [utf_all_1, show (0 : Int) = ((0 : Nat) : Int) from rfl, o1]
  simp only [bind_some', List.append_nil, o2]
  cases utfF s.length s <;> rfl
def qb (c : UInt8) : List UInt8 := if c = 10 then [92, 110] else if c = 9 then [92, 116] else if c = 34 ∨ c = 92 then [92, c] else [c]
def qs (s : List UInt8) : List UInt8 := s.flatMap qb
theorem qb_len (c : UInt8) : (qb c).length ≤ 2 := by unfold qb; split; simp; split; simp; split <;> simp
theorem qs_len : ∀ s : List UInt8, (qs s).length ≤ 2 * s.length
  | [] => by simp [qs]
  | c :: r => by
    have := qs_len r
    have := qb_len c
    simp [qs] at *
    omega
theorem eqC (c : UInt8) (k : Nat) (hk : k < 256) : ((c.toNat : Int) == (k : Int)) = decide (c = UInt8.ofNat k) := by
  rw [eqN]
  by_cases h : c.toNat = k
  · rw [beq_iff_eq.2 h, decide_eq_true]
    apply UInt8.toNat_inj.1
    rw [h, UInt8.toNat_ofNat', Nat.mod_eq_of_lt hk]
  · rw [beq_eq_false_iff_ne.2 h, decide_eq_false]
    intro e; apply h; rw [e, UInt8.toNat_ofNat', Nat.mod_eq_of_lt hk]
theorem tQuoteL (s : List UInt8) (hs : s.length ≤ 1000000) : ∀ k, k ≤ s.length → ∀ acc : List Int, acc.length ≤ 2 * k + 1 → lex_Quote_L1 s acc k = some (acc ++ s2b (qs (s.drop k))) := by
  refine upto ?_ fun k hk ih => ?_
  · intro acc _
    rw [lex_Quote_L1]; simp [qs, s2b]
  · intro acc ha
    have e10 := eqC s[k] 10 (by omega)
    have e9 := eqC s[k] 9 (by omega)
    have e34 := eqC s[k] 34 (by omega)
    have e92 := eqC s[k] 92 (by omega)
    rw [lex_Quote_L1, wr_succ (by omega)]
    simp only [ltI, hk, decide_true, if_true, idx_nat, getE hk, bind_some']
    rw [show (10 : Int) = ((10 : Nat) : Int) from rfl, show (9 : Int) = ((9 : Nat) : Int) from rfl, show (34 : Int) = ((34 : Nat) : Int) from rfl, show (92 : Int) = ((92 : Nat) : Int) from rfl, e10, e9, e34, e92]
    have eq : qs (s.drop k) = qb s[k] ++ qs (s.drop (k + 1)) := by rw [dropE hk]; rfl
    have step : ∀ w : List UInt8, qb s[k] = w → (appL 1 acc (s2b w) >>= fun x => lex_Quote_L1 s x ((k + 1 : Nat) : Int)) = some (acc ++ s2b (qs (s.drop k))) := fun w hw => by
      have hl : w.length ≤ 2 := by rw [← hw]; exact qb_len _
      rw [appL_ok (by rw [s2b_len]; omega) (by rw [s2b_len]; omega), bind_some', ih _ (by rw [List.length_append, s2b_len]; omega), eq, hw, s2b_app, List.append_assoc]
    by_cases h10 : s[k] = 10
    · rw [decide_eq_true (show s[k] = UInt8.ofNat 10 from h10)]
      exact step [92, 110] (by unfold qb; rw [if_pos h10])
    have h10' : decide (s[k] = UInt8.ofNat 10) = false := decide_eq_false h10
    rw [h10']
    by_cases h9 : s[k] = 9
    · rw [decide_eq_true (show s[k] = UInt8.ofNat 9 from h9)]
      exact step [92, 116] (by unfold qb; rw [if_neg h10, if_pos h9])
    have h9' : decide (s[k] = UInt8.ofNat 9) = false := decide_eq_false h9
    rw [h9']
    have e : (if decide (s[k] = UInt8.ofNat 34) = true then some (decide (s[k] = UInt8.ofNat 34)) else some (decide (s[k] = UInt8.ofNat 92)) : Option Bool) = some (decide (s[k] = 34 ∨ s[k] = 92)) := by
      by_cases h : s[k] = 34
      · rw [decide_eq_true (show s[k] = UInt8.ofNat 34 from h), decide_eq_true (show s[k] = 34 ∨ s[k] = 92 from .inl h)]; rfl
      · rw [decide_eq_false (show ¬ s[k] = UInt8.ofNat 34 from h)]
        by_cases h' : s[k] = 92
        · rw [decide_eq_true (show s[k] = UInt8.ofNat 92 from h'), decide_eq_true (show s[k] = 34 ∨ s[k] = 92 from .inr h')]; rfl
        · rw [decide_eq_false (show ¬ s[k] = UInt8.ofNat 92 from h'), decide_eq_false (show ¬ (s[k] = 34 ∨ s[k] = 92) from fun q => q.elim h h')]; rfl
    simp only [Bool.false_eq_true, if_false]
    rw [e]
    simp only [bind_some']
    by_cases h34 : s[k] = 34 ∨ s[k] = 92
    · rw [decide_eq_true h34]
      exact step [92, s[k]] (by unfold qb; rw [if_neg h10, if_neg h9, if_pos h34])
    · rw [decide_eq_false h34]
      exact step [s[k]] (by unfold qb; rw [if_neg h10, if_neg h9, if_neg h34])
theorem rQuoteL (s : List UInt8) (hs : s.length ≤ 1000000) : ∀ k, k ≤ s.length → ∀ acc : List UInt8, acc.length ≤ 2 * k + 1 → R18_Quote_L1 s acc k = some (if (s.drop k).any (· == 13) = true then .inr () else .inl (acc ++ qs (s.drop k))) := by
  refine upto ?_ fun k hk ih => ?_
  · intro acc _
    rw [R18_Quote_L1]; simp [qs]
  · intro acc ha
    have ec : cutL s k (wr ((k : Int) + 1)) = some [s[k]] := by
      rw [wr_succ (by omega), cutL_ok (by omega) (by omega) (by omega), Int.toNat_natCast, Int.toNat_natCast]
      congr 1
      rw [List.drop_take, dropE hk]
      have : k + 1 - k = 1 := by omega
      rw [this]; rfl
    have eq : qs (s.drop k) = qb s[k] ++ qs (s.drop (k + 1)) := by rw [dropE hk]; rfl
    have eany : (s.drop k).any (· == 13) = (s[k] == 13 || (s.drop (k + 1)).any (· == 13)) := by rw [dropE hk]; rfl
    have e1 : ∀ b : UInt8, (([s[k]] : List UInt8) == [b]) = decide (s[k] = b) := fun b => by
      rw [List.cons_beq_cons]
      by_cases h : s[k] = b
      · rw [decide_eq_true h, beq_iff_eq.2 h]; rfl
      · rw [decide_eq_false h, beq_eq_false_iff_ne.2 h]; rfl
    have hq := qb_len s[k]
    rw [R18_Quote_L1, ec, wr_succ (by omega), eany, eq]
    simp only [ltI, hk, decide_true, if_true, bind_some', e1]
    by_cases h13 : s[k] = 13
    · rw [decide_eq_true h13, beq_iff_eq.2 h13]; rfl
    rw [decide_eq_false h13, beq_eq_false_iff_ne.2 h13]
    have n1 : need (([92] : List UInt8).length + [s[k]].length ≤ 9223372036854775807) = some () := need_ok (by simp)
    have step : ∀ w : List UInt8, qb s[k] = w → (need (acc.length + w.length ≤ 9223372036854775807) >>= fun _ => R18_Quote_L1 s (acc ++ w) ((k + 1 : Nat) : Int)) = some (if (s.drop (k + 1)).any (· == 13) = true then .inr () else .inl (acc ++ (qb s[k] ++ qs (s.drop (k + 1))))) := fun w hw => by
      rw [need_ok (by rw [← hw]; omega), bind_some', ih _ (by rw [List.length_append, ← hw]; omega), hw, List.append_assoc]
    simp only [Bool.false_eq_true, if_false, Bool.false_or, n1, bind_some']
    by_cases h10 : s[k] = 10
    · rw [decide_eq_true h10]
      exact step [92, 110] (by unfold qb; rw [if_pos h10])
    rw [decide_eq_false h10]
    by_cases h9 : s[k] = 9
    · rw [decide_eq_true h9]
      exact step [92, 116] (by unfold qb; rw [if_neg h10, if_pos h9])
    rw [decide_eq_false h9]
    by_cases h34 : s[k] = 34
    · rw [decide_eq_true h34]
      exact step ([92] ++ [s[k]]) (by unfold qb; rw [if_neg h10, if_neg h9, if_pos (show s[k] = 34 ∨ s[k] = 92 from .inl h34)]; rfl)
    rw [decide_eq_false h34]
    by_cases h92 : s[k] = 92
    · rw [decide_eq_true h92]
      exact step ([92] ++ [s[k]]) (by unfold qb; rw [if_neg h10, if_neg h9, if_pos (show s[k] = 34 ∨ s[k] = 92 from .inr h92)]; rfl)
    · rw [decide_eq_false h92]
      exact step [s[k]] (by unfold qb; rw [if_neg h10, if_neg h9, if_neg (show ¬ (s[k] = 34 ∨ s[k] = 92) from fun q => q.elim h34 h92)])
theorem idx13 : ∀ s : List UInt8, decide (Lib.indexByte s 13 ≥ 0) = s.any (· == 13)
  | [] => rfl
  | c :: r => by
    have ih := idx13 r
    have hg := Lib.indexByte_ge r 13
    unfold Lib.indexByte
    rw [List.any_cons]
    cases hc : (c == 13) with
    | true => rfl
    | false =>
      simp only [Bool.false_eq_true, if_false, Bool.false_or]
      rw [← ih]
      by_cases h1 : Lib.indexByte r 13 = -1
      · rw [h1]; rfl
      · rw [if_neg (by simpa using h1), decide_eq_true (by omega), decide_eq_true (by omega)]
/-- A text between quotes, both ways. -/
theorem quoteBoth (s : List UInt8) (hs : s.length ≤ 1000000) : ∃ q, lex_Quote s = some q ∧ R18_Quote s = some q ∧ q.1.length ≤ 2 * s.length + 2 := by
  have hl := qs_len s
  have t := tQuoteL s hs 0 (by omega) [34] (by simp)
  have r := rQuoteL s hs 0 (by omega) [34] (by simp)
  rw [List.drop_zero] at t r
  have e13 : decide (Lib.indexByte s (13 : Int).toNat.toUInt8 ≥ 0) = s.any (· == 13) := idx13 s
  refine ⟨if utfF s.length s = true ∧ s.any (· == 13) = false then ([34] ++ qs s ++ [34], true) else ([], false), ?_, ?_, ?_⟩
  · rw [lex_Quote, tUtf s (by omega), strings_IndexByte, internal_stringslite_IndexByte]
    simp only [bind_some', e13]
    cases hu : utfF s.length s with
    | false => rfl
    | true =>
      cases ha : s.any (· == 13) with
      | true => rfl
      | false =>
        simp only [Bool.not_true, Bool.false_eq_true, if_false, bind_some', if_true, and_self]
        rw [show (0 : Int) = ((0 : Nat) : Int) from rfl, t]
        simp only [bind_some']
        rw [appL_ok (by simp [s2b_len]; omega) (by simp [s2b_len]; omega), bind_some']
        have e : [34] ++ s2b (qs s) ++ [34] = s2b ([34] ++ qs s ++ [34]) := by simp [s2b]
        rw [e, b2s_s2b]
        rfl
  · rw [R18_Quote, rUtf s (by omega)]
    cases hu : utfF s.length s with
    | false => rfl
    | true =>
      simp only [bind_some', Bool.not_true, Bool.false_eq_true, if_false]
      rw [show (0 : Int) = ((0 : Nat) : Int) from rfl, r]
      cases ha : s.any (· == 13) with
      | true => rfl
      | false =>
        simp only [Bool.false_eq_true, if_false, bind_some', and_self, if_true]
        rw [need_ok (by simp; omega)]
        rfl
  · split
    · simp; omega
    · simp
end Go.Proofs.Ytlhjieapkcnghaa
end

section
namespace Go.Proofs.Ytlhjieapkcnghaa
open Go.RowKit

theorem conv1 {P : Program} (src dst e : TypeId) (hs : P.underlying src = some (.slice e)) (he : P.underlying e = some (.int .u8)) (hd : P.underlying dst = some .string)
   (x : Int) (y : UInt8) (hxy : x = y.toNat) (b c : Nat) (W : World) (h0 : W.cell? ⟨b, 0, none⟩ = some (.int .u8 x)) :
   (convert src dst (.slice (some ⟨b, 0, none⟩) 1 c)).run P W = .ok (.string ⟨#[y]⟩) W := by
  subst hxy
  have := run_convert_bytes_back (P := P) W src dst e ⟨b, 0, none⟩ c [y] hs he hd (by
    intro j hj
    have hj2 : j = 0 := by simp at hj; omega
    subst hj2
    simpa [Addr.add] using h0)
  exact this
theorem bs_app (a b : List UInt8) : (⟨a.toArray⟩ : ByteArray) ++ (⟨b.toArray⟩ : ByteArray) = ⟨(a ++ b).toArray⟩ := by
  rw [← Lib.mk_data (_ ++ _)]; simp
set_option maxHeartbeats 800000 in
theorem digits_any (m : Nat) (h : m < 18446744073709551616) (w : World) :
    Calls Try.prog 128 #[.int .u64 m] w fun e w' => e = .returned (.string ⟨(digs m).toArray⟩) ∧ Below w.heap.size w w' := by
  go_enter Try.func128, Try.ntmps128
  go_wp2
  go_loopw [0, 3] (fun n s wr => ∃ (u : Nat) (suf : List UInt8), u < 18446744073709551616 ∧ n = .int .u64 u ∧ s = .string ⟨suf.toArray⟩ ∧ digs m = digs u ++ suf ∧ Below w.heap.size w wr) (fun n _ _ => (intOf n).toNat)
  case atStart => exact ⟨m, [], h, rfl, rfl, by simp, Below.refl _ _⟩
  case round =>
    obtain ⟨u, suf, hu, rfl, rfl, hd, hb⟩ := hrel
    have hsl : suf.length ≤ 20 := by
      have e := congrArg List.length hd
      have := digs_len m 19 (by omega)
      simp at e; omega
    have HD := Lib.hid hd; clear hd
    have HB := Lib.hid hb; clear hb
    by_cases hlt : 9 < u
    · have kc := conv1 (P := Try.prog) 49 9 5 Try.underlying49 Try.underlying5 Try.underlying9 (48 + (u : Int) % 10) (UInt8.ofNat (48 + u % 10)) (dig_byte u).symm
      go_wp2
      go_roundw
      case rel => exact ⟨u / 10, (48 + UInt8.ofNat (u % 10)) :: suf, by omega, by simp, congrArg Value.string (bs_app [_] suf), by rw [HD.out, digs_ge u (by omega)]; simp, HB.out.trans ((Below.refl _ _).alloc HB.out.size _)⟩
      case measure => simp [intOf]; omega
    · have kc := conv1 (P := Try.prog) 49 9 5 Try.underlying49 Try.underlying5 Try.underlying9 (48 + (u : Int)) (UInt8.ofNat (48 + u)) (by simp; omega)
      go_wp2
      go_ret
      refine ⟨ret_str ?_, HB.out.trans ((Below.refl _ _).alloc HB.out.size _)⟩
      rw [HD.out, digs_lt u (by omega)]
      rw [show UInt8.ofNat (48 + u) = 48 + UInt8.ofNat u from by simp]
      exact bs_app [_] suf
set_option maxHeartbeats 800000 in
theorem rtext_any (n : Int) (h0 : -9223372036854775808 ≤ n) (h1 : n ≤ 9223372036854775807) (w : World) :
    Calls Try.prog 112 #[.int .i64 n] w fun e w' => e = .returned (.string ⟨(textL n).toArray⟩) ∧ Below w.heap.size w w' := by
  rcases Int.lt_or_le n 0 with hn | hn
  · obtain ⟨m, rfl⟩ : ∃ m : Nat, n = -((m : Int) + 1) := ⟨(-n - 1).toNat, by omega⟩
    have ht : textL (-((m : Int) + 1)) = 45 :: digs (m + 1) := by
      rw [textL, if_pos hn]; congr 2
    have hdg := fun w => digits_any (m + 1) (by omega) w
    have hl : (digs (m + 1)).length ≤ 20 := digs_len _ 19 (by omega)
    rw [ht]; clear ht
    generalize digs (m + 1) = D at hdg hl
    have HG := Lib.hid hdg; clear hdg
    go_enter Try.func112, Try.ntmps112
    go_wp2_with fail
    rw [show -(-((m : Int) + 1) + 1) + 1 = ((m + 1 : Nat) : Int) from by omega]
    refine (HG.out _).mono ?_
    rintro e w' ⟨rfl, hb⟩
    go_wp2_with fail
    go_ret
    exact ⟨ret_str (bs_app [45] _), hb⟩
  · obtain ⟨m, rfl⟩ := Int.eq_ofNat_of_zero_le hn
    have ht : textL (m : Int) = digs m := by
      rw [textL, if_neg (by omega), Int.natAbs_natCast]
    rw [ht]; clear ht
    have hdg := fun w => digits_any m (by omega) w
    generalize digs m = D at hdg
    have HG := Lib.hid hdg; clear hdg
    go_enter Try.func112, Try.ntmps112
    go_wp2_with fail
    refine (HG.out _).mono ?_
    rintro e w' ⟨rfl, hb⟩
    go_wp2_with fail
    go_ret
    exact ⟨rfl, hb⟩
end Go.Proofs.Ytlhjieapkcnghaa
end

section
namespace Go.Proofs.Ytlhjieapkcnghaa
open Go.RowKit

def rFold (neg : Bool) (n : Int) (c : UInt8) : Int := if neg then wrap64 (wrap64 (10 * n) - ((c.toNat : Int) - 48)) else wrap64 (wrap64 (10 * n) + ((c.toNat : Int) - 48))
def rnumP (l : List UInt8) : Int × Bool :=
  if l.length < 1 ∨ 20 < l.length then (0, false)
  else
    let neg := l.head? == some 45
    let rest := if neg then l.tail else l
    if rest.all isD then
      let n := rest.foldl (rFold neg) 0
      if textL n = l then (n, true) else (0, false)
    else (0, false)
theorem wrap64_rng (n : Int) : -9223372036854775808 ≤ wrap64 n ∧ wrap64 n ≤ 9223372036854775807 := by
  simp [wrap64]; omega
theorem all_at (rs : ByteArray) (k : Nat) (h : k < rs.size) : (rs.data.toList.drop k).all isD = (isD rs[k] && (rs.data.toList.drop (k + 1)).all isD) := by
  have h' : k < rs.data.toList.length := by rw [← size_len]; exact h
  rw [List.drop_eq_getElem_cons h']; rfl
theorem fold_at (neg : Bool) (rs : ByteArray) (k : Nat) (h : k < rs.size) (n : Int) : (rs.data.toList.drop k).foldl (rFold neg) n = (rs.data.toList.drop (k + 1)).foldl (rFold neg) (rFold neg n rs[k]) := by
  have h' : k < rs.data.toList.length := by rw [← size_len]; exact h
  rw [List.drop_eq_getElem_cons h']; rfl
theorem isD_int (c : UInt8) : isD c = decide ((48 : Int) ≤ (c.toNat : Int) ∧ (c.toNat : Int) ≤ 57) := by
  rw [Bool.eq_iff_iff]; simp [isD]; omega
set_option maxHeartbeats 4000000 in
theorem rnumber_any (s : ByteArray) (hs : s.size ≤ maxLen) (w : World) :
    Calls Try.prog 89 #[.string s] w fun e w' => e = .returned (.tuple #[.int .i64 (rnumP s.data.toList).1, .bool (rnumP s.data.toList).2]) ∧ Below w.heap.size w w' := by
  unfold maxLen at hs
  by_cases hlen : s.data.toList.length < 1 ∨ 20 < s.data.toList.length
  · have hr : rnumP s.data.toList = (0, false) := by rw [rnumP, if_pos hlen]
    rw [hr]; clear hr
    rw [← size_len] at hlen
    go_enter Try.func89, Try.ntmps89
    go_wp2_with fail
    all_goals (go_ret2; exact ⟨rfl, Below.refl _ _⟩)
  · have hl1 : 0 < s.size := by rw [size_len]; omega
    have hl2 : s.size ≤ 20 := by rw [size_len]; omega
    have hneg : (s.data.toList.head? == some 45) = decide ((s[0].toNat : Int) = 45) := by
      rw [getElem_data]
      cases hl : s.data.toList with
      | nil => rw [size_len, hl] at hl1; simp at hl1
      | cons a t => rw [Bool.eq_iff_iff]; simp [← UInt8.toNat_inj]; omega
    have hr : rnumP s.data.toList = (if (if (s.data.toList.head? == some 45) then s.data.toList.tail else s.data.toList).all isD then
      (if textL ((if (s.data.toList.head? == some 45) then s.data.toList.tail else s.data.toList).foldl (rFold (s.data.toList.head? == some 45)) 0) = s.data.toList then ((if (s.data.toList.head? == some 45) then s.data.toList.tail else s.data.toList).foldl (rFold (s.data.toList.head? == some 45)) 0, true) else (0, false)) else (0, false)) := by
      rw [rnumP, if_neg hlen]
    rw [hneg] at hr
    by_cases h45 : (s[0].toNat : Int) = 45
    · rw [decide_eq_true h45] at hr
      simp only [↓reduceIte, ← List.drop_one] at hr
      have HR := Lib.hid hr; clear hr
      clear hneg hlen
      go_enter Try.func89, Try.ntmps89
      go_wp2_with fail
      go_loop [5, 6] (fun n i => ∃ (k : Nat) (m : Int), k ≤ s.size ∧ i = .int .i64 k ∧ n = .int .i64 m ∧ -9223372036854775808 ≤ m ∧ m ≤ 9223372036854775807 ∧ (s.data.toList.drop 1).all isD = (s.data.toList.drop k).all isD ∧ (s.data.toList.drop 1).foldl (rFold true) 0 = (s.data.toList.drop k).foldl (rFold true) m) (fun _ i => s.size - (intOf i).toNat)
      case atStart => exact ⟨1, 0, by omega, rfl, rfl, by omega, by omega, rfl, rfl⟩
      case round =>
        obtain ⟨k, m, hk, rfl, rfl, hm0, hm1, hal, hfo⟩ := hrel
        have HA := Lib.hid hal; clear hal
        have HF := Lib.hid hfo; clear hfo
        by_cases hlt : k < s.size
        · have HS1 := Lib.hid (all_at s k hlt)
          have HS2 := Lib.hid (fold_at true s k hlt m)
          have hwr := wrap64_rng (wrap64 (10 * m) - ((s[k].toNat : Int) - 48))
          have HW := Lib.hid hwr; clear hwr
          generalize hck : s[k] = c at HS1 HS2 HW
          have hck2 : s[k] = c := hck
          clear hck
          by_cases hd : (48 : Int) ≤ (c.toNat : Int) ∧ (c.toNat : Int) ≤ 57
          · obtain ⟨g1, g2⟩ := hd
            go_wp2
            go_round
            case rel => exact ⟨k + 1, _, by omega, by go_num, rfl, HW.out.1, HW.out.2, by rw [HA.out, HS1.out, isD_int, decide_eq_true ⟨g1, g2⟩]; rfl, by rw [HF.out, HS2.out]; rfl⟩
            case measure => simp [intOf]; omega
          · have hbad : (s.data.toList.drop 1).all isD = false := by
              rw [HA.out, HS1.out, isD_int, decide_eq_false hd]; rfl
            have HB := Lib.hid hbad; clear hbad
            go_wp2
            all_goals
              go_ret2
              exact ⟨ret_ib (by rw [HR.out, HB.out]; rfl) (by rw [HR.out, HB.out]; rfl), Below.refl _ _⟩
        · have hge : s.size ≤ k := by omega
          have hz : s.data.toList.drop k = [] := List.drop_of_length_le (by rw [← size_len]; exact hge)
          have hall : (s.data.toList.drop 1).all isD = true := by rw [HA.out, hz]; rfl
          have hfin : (s.data.toList.drop 1).foldl (rFold true) 0 = m := by rw [HF.out, hz]; rfl
          clear hz
          have HB := Lib.hid hall; clear hall
          have HC := Lib.hid hfin; clear hfin
          by_cases hq : textL m = s.data.toList
          · have hqb : (textL m == s.toList) = true := by rw [Lib.toList_data]; simpa using hq
            have HQ := Lib.hid hq; clear hq
            go_wp2_with fail
            refine (rtext_any m hm0 hm1 _).mono ?_
            rintro e w' ⟨rfl, hb⟩
            go_wp2_with fail
            go_ret2
            exact ⟨ret_ib (by rw [HR.out, HB.out, HC.out, if_pos HQ.out]; rfl) (by rw [HR.out, HB.out, HC.out, if_pos HQ.out]; rfl), hb⟩
          · have hqb : (textL m == s.toList) = false := by rw [Lib.toList_data]; simpa using hq
            have HQ := Lib.hid hq; clear hq
            go_wp2_with fail
            refine (rtext_any m hm0 hm1 _).mono ?_
            rintro e w' ⟨rfl, hb⟩
            go_wp2_with fail
            go_ret2
            exact ⟨ret_ib (by rw [HR.out, HB.out, HC.out, if_neg HQ.out]; rfl) (by rw [HR.out, HB.out, HC.out, if_neg HQ.out]; rfl), hb⟩
    · rw [decide_eq_false h45] at hr
      simp only [Bool.false_eq_true, ↓reduceIte] at hr
      have HR := Lib.hid hr; clear hr
      have hb45 : ((s[0].toNat : Int) == 45) = false := by simpa using h45
      clear hneg hlen
      go_enter Try.func89, Try.ntmps89
      go_wp2_with fail
      go_loop [5, 6] (fun n i => ∃ (k : Nat) (m : Int), k ≤ s.size ∧ i = .int .i64 k ∧ n = .int .i64 m ∧ -9223372036854775808 ≤ m ∧ m ≤ 9223372036854775807 ∧ s.data.toList.all isD = (s.data.toList.drop k).all isD ∧ s.data.toList.foldl (rFold false) 0 = (s.data.toList.drop k).foldl (rFold false) m) (fun _ i => s.size - (intOf i).toNat)
      case atStart => exact ⟨0, 0, by omega, rfl, rfl, by omega, by omega, rfl, rfl⟩
      case round =>
        obtain ⟨k, m, hk, rfl, rfl, hm0, hm1, hal, hfo⟩ := hrel
        have HA := Lib.hid hal; clear hal
        have HF := Lib.hid hfo; clear hfo
        by_cases hlt : k < s.size
        · have HS1 := Lib.hid (all_at s k hlt)
          have HS2 := Lib.hid (fold_at false s k hlt m)
          have hwr := wrap64_rng (wrap64 (10 * m) + ((s[k].toNat : Int) - 48))
          have HW := Lib.hid hwr; clear hwr
          generalize hck : s[k] = c at HS1 HS2 HW
          have hck2 : s[k] = c := hck
          clear hck
          by_cases hd : (48 : Int) ≤ (c.toNat : Int) ∧ (c.toNat : Int) ≤ 57
          · obtain ⟨g1, g2⟩ := hd
            go_wp2
            go_round
            case rel => exact ⟨k + 1, _, by omega, by go_num, rfl, HW.out.1, HW.out.2, by rw [HA.out, HS1.out, isD_int, decide_eq_true ⟨g1, g2⟩]; rfl, by rw [HF.out, HS2.out]; rfl⟩
            case measure => simp [intOf]; omega
          · have hbad : s.data.toList.all isD = false := by
              rw [HA.out, HS1.out, isD_int, decide_eq_false hd]; rfl
            have HB := Lib.hid hbad; clear hbad
            go_wp2
            all_goals
              go_ret2
              exact ⟨ret_ib (by rw [HR.out, HB.out]; rfl) (by rw [HR.out, HB.out]; rfl), Below.refl _ _⟩
        · have hge : s.size ≤ k := by omega
          have hz : s.data.toList.drop k = [] := List.drop_of_length_le (by rw [← size_len]; exact hge)
          have hall : s.data.toList.all isD = true := by rw [HA.out, hz]; rfl
          have hfin : s.data.toList.foldl (rFold false) 0 = m := by rw [HF.out, hz]; rfl
          clear hz
          have HB := Lib.hid hall; clear hall
          have HC := Lib.hid hfin; clear hfin
          by_cases hq : textL m = s.data.toList
          · have hqb : (textL m == s.toList) = true := by rw [Lib.toList_data]; simpa using hq
            have HQ := Lib.hid hq; clear hq
            go_wp2_with fail
            refine (rtext_any m hm0 hm1 _).mono ?_
            rintro e w' ⟨rfl, hb⟩
            go_wp2_with fail
            go_ret2
            exact ⟨ret_ib (by rw [HR.out, HB.out, HC.out, if_pos HQ.out]; rfl) (by rw [HR.out, HB.out, HC.out, if_pos HQ.out]; rfl), hb⟩
          · have hqb : (textL m == s.toList) = false := by rw [Lib.toList_data]; simpa using hq
            have HQ := Lib.hid hq; clear hq
            go_wp2_with fail
            refine (rtext_any m hm0 hm1 _).mono ?_
            rintro e w' ⟨rfl, hb⟩
            go_wp2_with fail
            go_ret2
            exact ⟨ret_ib (by rw [HR.out, HB.out, HC.out, if_neg HQ.out]; rfl) (by rw [HR.out, HB.out, HC.out, if_neg HQ.out]; rfl), hb⟩

theorem wrap64_off (x : Int) : ∃ k : Int, wrap64 x = x - 18446744073709551616 * k := ⟨(x + 9223372036854775808) / 18446744073709551616, by simp only [wrap64]; omega⟩
theorem wrap64_add (x k : Int) : wrap64 (x - 18446744073709551616 * k) = wrap64 x := by simp only [wrap64]; omega
theorem wrap_step_neg (x d : Int) : wrap64 (wrap64 (10 * wrap64 x) - d) = wrap64 (10 * x - d) := by
  obtain ⟨k, hk⟩ := wrap64_off x
  obtain ⟨j, hj⟩ := wrap64_off (10 * wrap64 x)
  rw [hj, hk, ← wrap64_add (10 * x - d) (10 * k + j)]
  congr 1; omega
theorem wrap_step_pos (x d : Int) : wrap64 (wrap64 (10 * wrap64 x) + d) = wrap64 (10 * x + d) := by
  obtain ⟨k, hk⟩ := wrap64_off x
  obtain ⟨j, hj⟩ := wrap64_off (10 * wrap64 x)
  rw [hj, hk, ← wrap64_add (10 * x + d) (10 * k + j)]
  congr 1; omega
theorem fold_gen (W : Nat → Int) (g : Int → UInt8 → Int) (hs : ∀ v c, isD c = true → g (W v) c = W (v * 10 + dv c)) (l : List UInt8) (h : l.all isD = true) :
    ∀ v : Nat, l.foldl g (W v) = W (l.foldl (fun u c => u * 10 + dv c) v) := by
  induction l with
  | nil => intro v; rfl
  | cons c t ih =>
    intro v
    simp only [List.all_cons, Bool.and_eq_true] at h
    simp only [List.foldl_cons]
    rw [hs v c h.1, ih h.2]
def Wneg (v : Nat) : Int := wrap64 (-(v : Int))
def Wpos (v : Nat) : Int := wrap64 (v : Int)
theorem step_neg (v : Nat) (c : UInt8) (h : isD c = true) : rFold true (Wneg v) c = Wneg (v * 10 + dv c) := by
  have hc : (10 * (-(v : Int)) - ((c.toNat : Int) - 48)) = -((v * 10 + dv c : Nat) : Int) := by
    simp [isD] at h; unfold dv; omega
  unfold Wneg
  rw [← hc, ← wrap_step_neg, rFold, if_pos rfl]
theorem step_pos (v : Nat) (c : UInt8) (h : isD c = true) : rFold false (Wpos v) c = Wpos (v * 10 + dv c) := by
  have hc : (10 * (v : Int) + ((c.toNat : Int) - 48)) = ((v * 10 + dv c : Nat) : Int) := by
    simp [isD] at h; unfold dv; omega
  unfold Wpos
  rw [← hc, ← wrap_step_pos, rFold, if_neg (by simp)]
theorem wrap64_id (n : Int) (h : inI64 n) : wrap64 n = n := by
  obtain ⟨a, b⟩ := h; simp only [wrap64]; omega
theorem fold_rng (neg : Bool) (l : List UInt8) (n : Int) (h : inI64 n) : inI64 (l.foldl (rFold neg) n) := by
  induction l generalizing n with
  | nil => exact h
  | cons c t ih =>
    refine ih _ ?_
    unfold rFold
    split <;> exact wrap64_rng _
theorem rnumP_eq (l : List UInt8) : rnumP l = numP l := by
  by_cases hx : ∃ n, inI64 n ∧ l = textL n
  · obtain ⟨n, hn, rfl⟩ := hx
    rw [numP_text n hn]
    obtain ⟨l1, l2⟩ := textL_len n hn
    rw [rnumP, if_neg (by omega)]
    rcases Int.lt_or_le n 0 with h | h
    · have ht : textL n = 45 :: digs n.natAbs := by rw [textL, if_pos h]
      have hf := fold_gen Wneg (rFold true) step_neg (digs n.natAbs) (digs_all _) 0
      have hv : (digs n.natAbs).foldl (fun u c => u * 10 + dv c) 0 = n.natAbs := digs_val _
      have h0 : Wneg 0 = 0 := by simp [Wneg, wrap64]
      rw [hv, h0, Wneg, show (-(n.natAbs : Int)) = n by omega, wrap64_id n hn] at hf
      have e : ((textL n).head? == some 45) = true := by rw [ht]; rfl
      simp only [e, ↓reduceIte]
      have et : (textL n).tail = digs n.natAbs := by rw [ht]; rfl
      rw [et, hf, digs_all]
      simp
    · have ht : textL n = digs n.natAbs := by rw [textL, if_neg (by omega)]
      have hf := fold_gen Wpos (rFold false) step_pos (digs n.natAbs) (digs_all _) 0
      have hv : (digs n.natAbs).foldl (fun u c => u * 10 + dv c) 0 = n.natAbs := digs_val _
      have h0 : Wpos 0 = 0 := by simp [Wpos, wrap64]
      rw [hv, h0, Wpos, show (n.natAbs : Int) = n by omega, wrap64_id n hn] at hf
      have e : ((textL n).head? == some 45) = false := by
        rw [ht]; simpa using digs_head_ne n.natAbs 45 (by decide)
      simp only [e, Bool.false_eq_true, ↓reduceIte]
      rw [show (textL n).all isD = true by rw [ht]; exact digs_all _, show (textL n).foldl (rFold false) 0 = n by rw [ht]; exact hf]
      simp
  · rw [numP_false l (fun n hn e => hx ⟨n, hn, e⟩)]
    rw [rnumP]
    by_cases h1 : l.length < 1 ∨ 20 < l.length
    · rw [if_pos h1]
    · rw [if_neg h1]
      dsimp only
      rw [if_neg (c := textL _ = l) (fun e => hx ⟨_, fold_rng _ _ 0 (by unfold inI64; omega), e.symm⟩)]
      exact ite_self _
end Go.Proofs.Ytlhjieapkcnghaa
end

section
namespace Go.Proofs.Ytlhjieapkcnghaa
open Go.RowKit

theorem rtext_ok (n : Int) (h0 : -9223372036854775808 ≤ n) (h1 : n ≤ 9223372036854775807) : PCall Try.prog 112 [iV n] (.p (sV (textL n))) := by
  refine PCall.ofCallsG (by kernel_rfl) (fun _ _ => .p _ _ (.v _ rfl)) fun w us _ hs h => ?_
  obtain ⟨a, rfl⟩ := us1 hs
  obtain ⟨_, h0'⟩ := h 0 _ a rfl rfl
  rw [given_int h0']
  exact rtext_any n h0 h1 w
theorem rnumber_ok (l : List UInt8) (hl : l.length ≤ 9223372036854775807) : PCall Try.prog 89 [sV l] (.tup [.p (iV (rnumP l).1), .p (bV (rnumP l).2)]) := by
  refine PCall.ofCallsG (R := .tuple #[.int .i64 (rnumP l).1, .bool (rnumP l).2]) (by kernel_rfl) (fun _ _ => dtup2 rfl rfl) fun w us _ hs h => ?_
  obtain ⟨a, rfl⟩ := us1 hs
  obtain ⟨_, h0'⟩ := h 0 _ a rfl rfl
  rw [given_str h0']
  refine (rnumber_any ⟨l.toArray⟩ (by show l.toArray.size ≤ 9223372036854775807; simpa using hl) w).mono fun e w' h => ?_
  first | exact h | exact ⟨h.1, below_same h.2⟩
end Go.Proofs.Ytlhjieapkcnghaa
end
