/- Runes in plain terms: the program's and the reference's Next read the same. -/
import Derived.Test.YtlhjieapkcnghaaPl
import Derived.Test.YtlhjieapkcnghaaD18
namespace Go.Proofs.Ytlhjieapkcnghaa
open Go.RowKit

def contB (c : UInt8) : Bool := decide (128 ≤ c.toNat) && decide (c.toNat < 192)
def runeB (n : Nat) : Bool := decide (n ≤ 1114111) && !(decide (55296 ≤ n) && decide (n ≤ 57343))
/-- The rune at the head, and how many bytes it has. -/
def nextC (c : UInt8) (r : List UInt8) : Nat × Nat :=
    if c.toNat < 128 then (c.toNat, 1)
    else if 192 ≤ c.toNat ∧ c.toNat < 224 then
      match r with
      | c1 :: _ => if contB c1 = true ∧ 128 ≤ (c.toNat - 192) * 64 + (c1.toNat - 128) then ((c.toNat - 192) * 64 + (c1.toNat - 128), 2) else (65533, 1)
      | _ => (65533, 1)
    else if 224 ≤ c.toNat ∧ c.toNat < 240 then
      match r with
      | c1 :: c2 :: _ => if contB c1 = true ∧ contB c2 = true ∧ 2048 ≤ ((c.toNat - 224) * 64 + (c1.toNat - 128)) * 64 + (c2.toNat - 128) ∧ runeB (((c.toNat - 224) * 64 + (c1.toNat - 128)) * 64 + (c2.toNat - 128)) = true then (((c.toNat - 224) * 64 + (c1.toNat - 128)) * 64 + (c2.toNat - 128), 3) else (65533, 1)
      | _ => (65533, 1)
    else if 240 ≤ c.toNat ∧ c.toNat < 248 then
      match r with
      | c1 :: c2 :: c3 :: _ => if contB c1 = true ∧ contB c2 = true ∧ contB c3 = true ∧ 65536 ≤ (((c.toNat - 240) * 64 + (c1.toNat - 128)) * 64 + (c2.toNat - 128)) * 64 + (c3.toNat - 128) ∧ runeB ((((c.toNat - 240) * 64 + (c1.toNat - 128)) * 64 + (c2.toNat - 128)) * 64 + (c3.toNat - 128)) = true then ((((c.toNat - 240) * 64 + (c1.toNat - 128)) * 64 + (c2.toNat - 128)) * 64 + (c3.toNat - 128), 4) else (65533, 1)
      | _ => (65533, 1)
    else (65533, 1)
def nextP : List UInt8 → Nat × Nat
  | [] => (0, 0)
  | c :: r => nextC c r
/-! ### numbers -/
theorem i32_in {n : Int} (h1 : -2147483648 ≤ n) (h2 : n ≤ 2147483647) : IntKind.i32.wrap n = n := by
  simp [IntKind.wrap, IntKind.bits, IntKind.signed]
  omega
theorem u8_in {n : Int} (h1 : 0 ≤ n) (h2 : n ≤ 255) : IntKind.u8.wrap n = n := by
  simp [IntKind.wrap, IntKind.bits, IntKind.signed]
  omega
theorem and63 : ∀ c : Fin 256, bits .and .u8 ((c.1 : Nat) : Int) 63 = ((c.1 % 64 : Nat) : Int) := by decide +kernel
theorem and192 : ∀ c : Fin 256, (bits .and .u8 ((c.1 : Nat) : Int) 192 != 128) = !(decide (128 ≤ c.1) && decide (c.1 < 192)) := by decide +kernel
theorem and31 : ∀ c : Fin 256, bits .and .u8 ((c.1 : Nat) : Int) 31 = ((c.1 % 32 : Nat) : Int) := by decide +kernel
theorem and15 : ∀ c : Fin 256, bits .and .u8 ((c.1 : Nat) : Int) 15 = ((c.1 % 16 : Nat) : Int) := by decide +kernel
theorem and7 : ∀ c : Fin 256, bits .and .u8 ((c.1 : Nat) : Int) 7 = ((c.1 % 8 : Nat) : Int) := by decide +kernel
theorem or64 (a b : Nat) (ha : a < 1000000) (hb : b < 64) : bits .or .i32 (IntKind.i32.wrap ((a : Int) * 2 ^ (min (6 : Int).toNat (IntKind.i32.bits)))) (IntKind.i32.wrap (b : Int)) = ((a * 64 + b : Nat) : Int) := by
  have e1 : IntKind.i32.wrap ((a : Int) * 2 ^ (min (6 : Int).toNat (IntKind.i32.bits))) = ((a * 64 : Nat) : Int) := by
    have : (min (6 : Int).toNat (IntKind.i32.bits)) = 6 := rfl
    rw [this, i32_in (by omega) (by omega)]; omega
  rw [e1, i32_in (by omega) (by omega)]
  have e2 : (2 : Nat) ^ 6 * a + b = 2 ^ 6 * a ||| b := Nat.two_pow_add_eq_or_of_lt (by omega) a
  have e3 : a * 64 ||| b = a * 64 + b := by
    have : (2 : Nat) ^ 6 * a = a * 64 := by omega
    rw [this] at e2; omega
  show IntKind.i32.wrap ((BitVec.ofInt 32 ((a * 64 : Nat) : Int) ||| BitVec.ofInt 32 (b : Int)).toNat : Int) = _
  rw [BitVec.toNat_or, BitVec.ofInt_natCast, BitVec.ofInt_natCast, BitVec.toNat_ofNat, BitVec.toNat_ofNat, Nat.mod_eq_of_lt (by omega), Nat.mod_eq_of_lt (by omega), e3, i32_in (by omega) (by omega)]
theorem b63 (c : UInt8) : bits .and .u8 (c.toNat : Int) 63 = ((c.toNat % 64 : Nat) : Int) := and63 ⟨c.toNat, c.toNat_lt⟩
theorem b192 (c : UInt8) : (bits .and .u8 (c.toNat : Int) 192 != 128) = !contB c := and192 ⟨c.toNat, c.toNat_lt⟩
theorem b31 (c : UInt8) : bits .and .u8 (c.toNat : Int) 31 = ((c.toNat % 32 : Nat) : Int) := and31 ⟨c.toNat, c.toNat_lt⟩
theorem b15 (c : UInt8) : bits .and .u8 (c.toNat : Int) 15 = ((c.toNat % 16 : Nat) : Int) := and15 ⟨c.toNat, c.toNat_lt⟩
theorem b7 (c : UInt8) : bits .and .u8 (c.toNat : Int) 7 = ((c.toNat % 8 : Nat) : Int) := and7 ⟨c.toNat, c.toNat_lt⟩
theorem cont_mod {c : UInt8} (h : contB c = true) : c.toNat % 64 = c.toNat - 128 := by
  unfold contB at h
  simp at h
  omega
/-! ### the program's -/
/-- What follows: so many bytes. -/
def tailP : Nat → List UInt8 → Nat → Option Nat
  | 0, _, v => some v
  | _ + 1, [], _ => none
  | m + 1, c :: r, v => if contB c = true then tailP m r (v * 64 + (c.toNat - 128)) else none
set_option maxRecDepth 20000 in
theorem tTailL (l : List UInt8) (m : Nat) (hm : m ≤ l.length) (hm3 : m ≤ 3) : ∀ (d k v : Nat), k + d = m → ((k = 0 → v < 64) ∧ (k ≤ 1 → v < 4096) ∧ (k ≤ 2 → v < 262144)) →
    utf_tail_L1 l m v k = some (match tailP d (l.drop k) v with | some n => .inl (n : Int) | none => .inr ()) := by
  intro d
  induction d with
  | zero =>
    intro k v hk _
    rw [utf_tail_L1, ltI, decide_eq_false (by omega : ¬ k < m)]
    rfl
  | succ d ih =>
    intro k v hk hv
    have hkl : k < l.length := by omega
    have : decide ((k : Int) < (m : Int)) = true := decide_eq_true (by omega)
    rw [utf_tail_L1]
    simp only [this, if_true, idx_nat, getE hkl, bind_some', b192, b63]
    rw [or64 v _ (by omega) (Nat.mod_lt _ (by omega)), wr_succ (by omega), dropE hkl]
    unfold tailP
    cases hc : contB l[k] with
    | false => rfl
    | true =>
      rw [cont_mod hc]
      have hlt : l[k].toNat - 128 < 64 := by unfold contB at hc; simp at hc; omega
      have hv2 : (k + 1 = 0 → v * 64 + (l[k].toNat - 128) < 64) ∧ (k + 1 ≤ 1 → v * 64 + (l[k].toNat - 128) < 4096) ∧ (k + 1 ≤ 2 → v * 64 + (l[k].toNat - 128) < 262144) := by omega
      simp only [Bool.not_true, Bool.false_eq_true, if_false, if_true]
      exact ih (k + 1) _ (by omega) hv2
theorem tTail (l : List UInt8) (m v : Nat) (hm3 : m ≤ 3) (hv : v < 64) : utf_tail l v m = some (match (if l.length < m then none else tailP m l v) with | some n => ((n : Int), true) | none => (0, false)) := by
  rw [utf_tail, ltI]
  by_cases h : l.length < m
  · rw [decide_eq_true h, if_pos h]; rfl
  · rw [decide_eq_false h, if_neg h]
    have := tTailL l m (by omega) hm3 m 0 v (by omega) (by omega)
    rw [List.drop_zero] at this
    rw [show (0 : Int) = ((0 : Nat) : Int) from rfl, this]
    cases tailP m l v <;> rfl
theorem tIsR (n : Nat) : utf_is (n : Int) = some (runeB n) := by
  have a : decide ((n : Int) ≥ 0) = true := decide_eq_true (by omega)
  have b : decide ((n : Int) ≤ 1114111) = decide (n ≤ 1114111) := by
    by_cases h : n ≤ 1114111
    · rw [decide_eq_true h, decide_eq_true (by omega)]
    · rw [decide_eq_false h, decide_eq_false (by omega)]
  rw [utf_is, a, b, runeB]
  by_cases h1 : n < 55296
  · rw [decide_eq_true (show (n : Int) < 55296 by omega), decide_eq_true (show n ≤ 1114111 by omega), decide_eq_false (show ¬ 55296 ≤ n by omega)]; rfl
  · rw [decide_eq_false (show ¬ (n : Int) < 55296 by omega), decide_eq_true (show 55296 ≤ n by omega)]
    by_cases h2 : n ≤ 57343
    · rw [decide_eq_false (show ¬ (n : Int) > 57343 by omega), decide_eq_true h2, decide_eq_true (show n ≤ 1114111 by omega)]; rfl
    · rw [decide_eq_true (show (n : Int) > 57343 by omega), decide_eq_false h2]
      cases decide (n ≤ 1114111) <;> rfl
theorem rIsR (n : Nat) : R02_Rune (n : Int) = some (runeB n) := by
  have a : decide ((n : Int) ≥ 0) = true := decide_eq_true (by omega)
  have b : decide ((n : Int) ≤ 1114111) = decide (n ≤ 1114111) := by
    by_cases h : n ≤ 1114111
    · rw [decide_eq_true h, decide_eq_true (by omega)]
    · rw [decide_eq_false h, decide_eq_false (by omega)]
  have c : decide ((n : Int) ≥ 55296) = decide (55296 ≤ n) := by
    by_cases h : 55296 ≤ n
    · rw [decide_eq_true h, decide_eq_true (by omega)]
    · rw [decide_eq_false h, decide_eq_false (by omega)]
  have d : decide ((n : Int) ≤ 57343) = decide (n ≤ 57343) := by
    by_cases h : n ≤ 57343
    · rw [decide_eq_true h, decide_eq_true (by omega)]
    · rw [decide_eq_false h, decide_eq_false (by omega)]
  rw [R02_Rune, a, b, c, d, runeB]
  cases decide (n ≤ 1114111) <;> cases decide (55296 ≤ n) <;> cases decide (n ≤ 57343) <;> rfl
theorem ltC (c : UInt8) (k : Nat) : decide ((c.toNat : Int) < (k : Int)) = decide (c.toNat < k) := ltI _ _
theorem geC (c : UInt8) (k : Nat) : decide ((c.toNat : Int) ≥ (k : Int)) = decide (k ≤ c.toNat) := by
  by_cases h : k ≤ c.toNat
  · rw [decide_eq_true h, decide_eq_true (by omega)]
  · rw [decide_eq_false h, decide_eq_false (by omega)]
/-- What Next makes of a tail. -/
def endP (o : Option Nat) (least m : Nat) : Nat × Nat := match o with
  | some n => if least ≤ n ∧ runeB n = true then (n, m + 1) else (65533, 1)
  | none => (65533, 1)
set_option maxRecDepth 20000 in
theorem tNext (s : List UInt8) (k : Nat) (hk : k < s.length) (hs : s.length < 9223372036854775807) : utf_Next s k = some (((nextP (s.drop k)).1 : Int), ((nextP (s.drop k)).2 : Int)) := by
  have d1 : decide ((k : Int) < 0) = false := decide_eq_false (by omega)
  have d2 : decide ((k : Int) ≥ (s.length : Int)) = false := decide_eq_false (by omega)
  have hc := s[k].toNat_lt
  have hr : cutL s (wr ((k : Int) + 1)) (s.length : Int) = some (s.drop (k + 1)) := by
    rw [wr_succ (by omega), cutL_ok (by omega) (by omega) (by omega)]
    simp
  rw [utf_Next, d1, d2, hr, dropE hk]
  have l128 := ltC s[k] 128
  have g192 := geC s[k] 192
  have l224 := ltC s[k] 224
  have g224 := geC s[k] 224
  have l240 := ltC s[k] 240
  have g240 := geC s[k] 240
  have l248 := ltC s[k] 248
  have b1 : ∀ a b : Bool, (if a = true then some b else some false : Option Bool) = some (a && b) := fun a b => by cases a <;> rfl
  simp only [Bool.false_eq_true, if_false, bind_some', idx_nat, getE hk]
  rw [show (128 : Int) = ((128 : Nat) : Int) from rfl, show (192 : Int) = ((192 : Nat) : Int) from rfl, show (224 : Int) = ((224 : Nat) : Int) from rfl, show (240 : Int) = ((240 : Nat) : Int) from rfl, show (248 : Int) = ((248 : Nat) : Int) from rfl, l128, g192, l224, g224, l240, g240, l248]
  simp only [b1, bind_some']
  rw [nextP]
  unfold nextC
  have fin : ∀ (v least m : Nat), m ≤ 3 → v < 64 → (utf_tail (s.drop (k + 1)) (v : Int) (m : Int) >>= fun x10 =>
      (if (!x10.2) = true then some true else if decide (x10.1 < (least : Int)) = true then some true else utf_is x10.1 >>= fun x12 => some (!x12) : Option Bool) >>= fun o11 =>
      if o11 = true then some ((65533 : Int), (1 : Int)) else some (x10.1, wr ((m : Int) + 1))) =
      some (((endP (if (s.drop (k + 1)).length < m then none else tailP m (s.drop (k + 1)) v) least m).1 : Int), ((endP (if (s.drop (k + 1)).length < m then none else tailP m (s.drop (k + 1)) v) least m).2 : Int)) := fun v least m hm hv => by
    rw [tTail _ m v hm hv]
    cases (if (s.drop (k + 1)).length < m then none else tailP m (s.drop (k + 1)) v) with
    | none => rfl
    | some n =>
      simp only [bind_some', Bool.not_true, Bool.false_eq_true, if_false, ltI, tIsR, endP]
      by_cases h1 : n < least
      · rw [decide_eq_true h1, if_neg (fun h => absurd h.1 (by omega) : ¬ (least ≤ n ∧ runeB n = true))]; rfl
      · rw [decide_eq_false h1]
        cases hrn : runeB n with
        | true => rw [if_pos (⟨by omega, rfl⟩ : least ≤ n ∧ true = true), wr_succ (by omega)]; rfl
        | false => rw [if_neg (fun h => by cases h.2 : ¬ (least ≤ n ∧ false = true))]; rfl
  by_cases h1 : s[k].toNat < 128
  · rw [decide_eq_true h1, if_pos h1]
    simp only [if_true, bind_some']
    rw [i32_in (by omega) (by omega)]; rfl
  rw [decide_eq_false h1, if_neg h1]
  simp only [Bool.false_eq_true, if_false]
  have cc : ∀ c : UInt8, contB c = true → c.toNat - 128 < 64 := fun c h => by unfold contB at h; simp at h; omega
  by_cases h2 : 192 ≤ s[k].toNat ∧ s[k].toNat < 224
  · rw [decide_eq_true h2.1, decide_eq_true h2.2, if_pos h2, b31]
    simp only [Bool.and_true, if_true, bind_some']
    rw [i32_in (by omega) (by omega)]
    have f := fin (s[k].toNat % 32) 128 1 (by omega) (by omega)
    rw [show ((1 : Nat) : Int) = 1 from rfl] at f
    rw [f]
    have e : s[k].toNat % 32 = s[k].toNat - 192 := by omega
    rw [e]
    cases s.drop (k + 1) with
    | nil => rfl
    | cons c1 r1 =>
      simp only [List.length_cons, if_neg (by omega : ¬ r1.length + 1 < 1), tailP]
      cases h : contB c1 with
      | false => rfl
      | true =>
        have := cc c1 h
        have hr : runeB ((s[k].toNat - 192) * 64 + (c1.toNat - 128)) = true := by unfold runeB; rw [decide_eq_true (by omega), decide_eq_false (by omega)]; rfl
        simp only [if_true, endP, hr, and_true, true_and]
  rw [if_neg h2]
  have d2 : (decide (192 ≤ s[k].toNat) && decide (s[k].toNat < 224)) = false := by
    rw [Bool.and_eq_false_iff]
    by_cases h : 192 ≤ s[k].toNat
    · exact .inr (decide_eq_false (by omega))
    · exact .inl (decide_eq_false h)
  rw [d2]
  simp only [Bool.false_eq_true, if_false]
  by_cases h3 : 224 ≤ s[k].toNat ∧ s[k].toNat < 240
  · rw [decide_eq_true h3.1, decide_eq_true h3.2, if_pos h3, b15]
    simp only [Bool.and_true, if_true, bind_some']
    rw [i32_in (by omega) (by omega)]
    have f := fin (s[k].toNat % 16) 2048 2 (by omega) (by omega)
    rw [show ((2 : Nat) : Int) = 2 from rfl, show ((2048 : Nat) : Int) = 2048 from rfl] at f
    rw [f]
    have e : s[k].toNat % 16 = s[k].toNat - 224 := by omega
    rw [e]
    match s.drop (k + 1) with
    | [] => rfl
    | [c1] => rfl
    | c1 :: c2 :: r1 =>
      simp only [List.length_cons, if_neg (by omega : ¬ r1.length + 1 + 1 < 2), tailP]
      cases h : contB c1 with
      | false => rfl
      | true =>
        cases h' : contB c2 with
        | false => simp [endP]
        | true => simp only [if_true, endP, true_and]
  rw [if_neg h3]
  have d3 : (decide (224 ≤ s[k].toNat) && decide (s[k].toNat < 240)) = false := by
    rw [Bool.and_eq_false_iff]
    by_cases h : 224 ≤ s[k].toNat
    · exact .inr (decide_eq_false (by omega))
    · exact .inl (decide_eq_false h)
  rw [d3]
  simp only [Bool.false_eq_true, if_false]
  by_cases h4 : 240 ≤ s[k].toNat ∧ s[k].toNat < 248
  · rw [decide_eq_true h4.1, decide_eq_true h4.2, if_pos h4, b7]
    simp only [Bool.and_true, if_true, bind_some']
    rw [i32_in (by omega) (by omega)]
    have f := fin (s[k].toNat % 8) 65536 3 (by omega) (by omega)
    rw [show ((3 : Nat) : Int) = 3 from rfl, show ((65536 : Nat) : Int) = 65536 from rfl] at f
    rw [f]
    have e : s[k].toNat % 8 = s[k].toNat - 240 := by omega
    rw [e]
    match s.drop (k + 1) with
    | [] => rfl
    | [c1] => rfl
    | [c1, c2] => rfl
    | c1 :: c2 :: c3 :: r1 =>
      simp only [List.length_cons, if_neg (by omega : ¬ r1.length + 1 + 1 + 1 < 3), tailP]
      cases h : contB c1 with
      | false => rfl
      | true =>
        cases h' : contB c2 with
        | false => simp [endP]
        | true =>
          cases h'' : contB c3 with
          | false => simp [endP]
          | true => simp only [if_true, endP, true_and]
  rw [if_neg h4]
  have d4 : (decide (240 ≤ s[k].toNat) && decide (s[k].toNat < 248)) = false := by
    rw [Bool.and_eq_false_iff]
    by_cases h : 240 ≤ s[k].toNat
    · exact .inr (decide_eq_false (by omega))
    · exact .inl (decide_eq_false h)
  rw [d4]
  rfl
end Go.Proofs.Ytlhjieapkcnghaa
