/- The proof's texts, part 8 of 9: the walks by a logic in which data are by value, the plain laws, and at the end the law, for every input. -/
import Derived.Test.YtebkhehjfkmdiaaDoorMgTruncMiddles7

section
namespace Go.Proofs.YtebkhehjfkmdiaaDoor
open Go.RowKit

def contB (c : UInt8) : Bool := decide (128 ≤ c.toNat) && decide (c.toNat < 192)
def runeB (n : Nat) : Bool := decide (n ≤ 1114111) && !(decide (55296 ≤ n) && decide (n ≤ 57343))
/-- The rune at the head, and how many bytes it has. -/
def nextC (c : UInt8) (r : List UInt8) : Nat × Nat :=
    if c.toNat < 128 then (c.toNat, 1)
    else if 192 ≤ c.toNat ∧ c.toNat < 224 then
      match r with
      | c1 :: _ => if contB c1 = true ∧ 128 ≤ (c.toNat - 192) * 64 + (c1.toNat - 128) then ((c.toNat - 192) * 64 + (c1.toNat - 128), 2) else (65533, 1)
      | _ => (65533, 1)
    else if 224 ≤ c.toNat ∧ c.toNat < 240 then
      match r with
      | c1 :: c2 :: _ => if contB c1 = true ∧ contB c2 = true ∧ 2048 ≤ ((c.toNat - 224) * 64 + (c1.toNat - 128)) * 64 + (c2.toNat - 128) ∧ runeB (((c.toNat - 224) * 64 + (c1.toNat - 128)) * 64 + (c2.toNat - 128)) = true then (((c.toNat - 224) * 64 + (c1.toNat - 128)) * 64 + (c2.toNat - 128), 3) else (65533, 1)
      | _ => (65533, 1)
    else if 240 ≤ c.toNat ∧ c.toNat < 248 then
      match r with
      | c1 :: c2 :: c3 :: _ => if contB c1 = true ∧ contB c2 = true ∧ contB c3 = true ∧ 65536 ≤ (((c.toNat - 240) * 64 + (c1.toNat - 128)) * 64 + (c2.toNat - 128)) * 64 + (c3.toNat - 128) ∧ runeB ((((c.toNat - 240) * 64 + (c1.toNat - 128)) * 64 + (c2.toNat - 128)) * 64 + (c3.toNat - 128)) = true then ((((c.toNat - 240) * 64 + (c1.toNat - 128)) * 64 + (c2.toNat - 128)) * 64 + (c3.toNat - 128), 4) else (65533, 1)
      | _ => (65533, 1)
    else (65533, 1)
def nextP : List UInt8 → Nat × Nat
  | [] => (0, 0)
  | c :: r => nextC c r
theorem i32_in {n : Int} (h1 : -2147483648 ≤ n) (h2 : n ≤ 2147483647) : IntKind.i32.wrap n = n := by
  simp [IntKind.wrap, IntKind.bits, IntKind.signed]
  omega
theorem u8_in {n : Int} (h1 : 0 ≤ n) (h2 : n ≤ 255) : IntKind.u8.wrap n = n := by
  simp [IntKind.wrap, IntKind.bits, IntKind.signed]
  omega
theorem and63 : ∀ c : Fin 256, bits .and .u8 ((c.1 : Nat) : Int) 63 = ((c.1 % 64 : Nat) : Int) := by decide +kernel
theorem and192 : ∀ c : Fin 256, (bits .and .u8 ((c.1 : Nat) : Int) 192 != 128) = !(decide (128 ≤ c.1) && decide (c.1 < 192)) := by decide +kernel
theorem and31 : ∀ c : Fin 256, bits .and .u8 ((c.1 : Nat) : Int) 31 = ((c.1 % 32 : Nat) : Int) := by decide +kernel
theorem and15 : ∀ c : Fin 256, bits .and .u8 ((c.1 : Nat) : Int) 15 = ((c.1 % 16 : Nat) : Int) := by decide +kernel
theorem and7 : ∀ c : Fin 256, bits .and .u8 ((c.1 : Nat) : Int) 7 = ((c.1 % 8 : Nat) : Int) := by decide +kernel
theorem or64 (a b : Nat) (ha : a < 1000000) (hb : b < 64) : bits .or .i32 (IntKind.i32.wrap ((a : Int) * 2 ^ (min (6 : Int).toNat (IntKind.i32.bits)))) (IntKind.i32.wrap (b : Int)) = ((a * 64 + b : Nat) : Int) := by
  have e1 : IntKind.i32.wrap ((a : Int) * 2 ^ (min (6 : Int).toNat (IntKind.i32.bits))) = ((a * 64 : Nat) : Int) := by
    have : (min (6 : Int).toNat (IntKind.i32.bits)) = 6 := rfl
    rw [this, i32_in (by omega) (by omega)]; omega
  rw [e1, i32_in (by omega) (by omega)]
  have e2 : (2 : Nat) ^ 6 * a + b = 2 ^ 6 * a ||| b := Nat.two_pow_add_eq_or_of_lt (by omega) a
  have e3 : a * 64 ||| b = a * 64 + b := by
    have : (2 : Nat) ^ 6 * a = a * 64 := by omega
    rw [this] at e2; omega
  show IntKind.i32.wrap ((BitVec.ofInt 32 ((a * 64 : Nat) : Int) ||| BitVec.ofInt 32 (b : Int)).toNat : Int) = _
  rw [BitVec.toNat_or, BitVec.ofInt_natCast, BitVec.ofInt_natCast, BitVec.toNat_ofNat, BitVec.toNat_ofNat, Nat.mod_eq_of_lt (by omega), Nat.mod_eq_of_lt (by omega), e3, i32_in (by omega) (by omega)]
theorem b63 (c : UInt8) : bits .and .u8 (c.toNat : Int) 63 = ((c.toNat % 64 : Nat) : Int) := and63 ⟨c.toNat, c.toNat_lt⟩
theorem b192 (c : UInt8) : (bits .and .u8 (c.toNat : Int) 192 != 128) = !contB c := and192 ⟨c.toNat, c.toNat_lt⟩
theorem b31 (c : UInt8) : bits .and .u8 (c.toNat : Int) 31 = ((c.toNat % 32 : Nat) : Int) := and31 ⟨c.toNat, c.toNat_lt⟩
theorem b15 (c : UInt8) : bits .and .u8 (c.toNat : Int) 15 = ((c.toNat % 16 : Nat) : Int) := and15 ⟨c.toNat, c.toNat_lt⟩
theorem b7 (c : UInt8) : bits .and .u8 (c.toNat : Int) 7 = ((c.toNat % 8 : Nat) : Int) := and7 ⟨c.toNat, c.toNat_lt⟩
theorem cont_mod {c : UInt8} (h : contB c = true) : c.toNat % 64 = c.toNat - 128 := by
  unfold contB at h
  simp at h
  omega
/-- What follows: so many bytes. -/
def tailP : Nat → List UInt8 → Nat → Option Nat
  | 0, _, v => some v
  | _ + 1, [], _ => none
  | m + 1, c :: r, v => if contB c = true then tailP m r (v * 64 + (c.toNat - 128)) else none
set_option maxRecDepth 20000 in
theorem tTailL (l : List UInt8) (m : Nat) (hm : m ≤ l.length) (hm3 : m ≤ 3) : ∀ (d k v : Nat), k + d = m → ((k = 0 → v < 64) ∧ (k ≤ 1 → v < 4096) ∧ (k ≤ 2 → v < 262144)) →
    utf_tail_L1 l m v k = some (match tailP d (l.drop k) v with | some n => .inl (n : Int) | none => .inr ()) := by
  intro d
  induction d with
  | zero =>
    intro k v hk _
    rw [utf_tail_L1, ltI, decide_eq_false (by omega : ¬ k < m)]
    rfl
  | succ d ih =>
    intro k v hk hv
    have hkl : k < l.length := by omega
    have : decide ((k : Int) < (m : Int)) = true := decide_eq_true (by omega)
    rw [utf_tail_L1]
    simp only [this, if_true, idx_nat, getE hkl, bind_some', b192, b63]
    rw [or64 v _ (by omega) (Nat.mod_lt _ (by omega)), wr_succ (by omega), dropE hkl]
    unfold tailP
    cases hc : contB l[k] with
    | false => rfl
    | true =>
      rw [cont_mod hc]
      have hlt : l[k].toNat - 128 < 64 := by unfold contB at hc; simp at hc; omega
      have hv2 : (k + 1 = 0 → v * 64 + (l[k].toNat - 128) < 64) ∧ (k + 1 ≤ 1 → v * 64 + (l[k].toNat - 128) < 4096) ∧ (k + 1 ≤ 2 → v * 64 + (l[k].toNat - 128) < 262144) := by omega
      simp only [Bool.not_true, Bool.false_eq_true, if_false, if_true]
      exact ih (k + 1) _ (by omega) hv2
theorem tTail (l : List UInt8) (m v : Nat) (hm3 : m ≤ 3) (hv : v < 64) : utf_tail l v m = some (match (if l.length < m then none else tailP m l v) with | some n => ((n : Int), true) | none => (0, false)) := by
  rw [utf_tail, ltI]
  by_cases h : l.length < m
  · rw [decide_eq_true h, if_pos h]; rfl
  · rw [decide_eq_false h, if_neg h]
    have := tTailL l m (by omega) hm3 m 0 v (by omega) (by omega)
    rw [List.drop_zero] at this
    rw [show (0 : Int) = ((0 : Nat) : Int) from rfl, this]
    cases tailP m l v <;> rfl
theorem tIsR (n : Nat) : utf_is (n : Int) = some (runeB n) := by
  have a : decide ((n : Int) ≥ 0) = true := decide_eq_true (by omega)
  have b : decide ((n : Int) ≤ 1114111) = decide (n ≤ 1114111) := by
    by_cases h : n ≤ 1114111
    · rw [decide_eq_true h, decide_eq_true (by omega)]
    · rw [decide_eq_false h, decide_eq_false (by omega)]
  rw [utf_is, a, b, runeB]
  by_cases h1 : n < 55296
  · rw [decide_eq_true (show (n : Int) < 55296 by omega), decide_eq_true (show n ≤ 1114111 by omega), decide_eq_false (show ¬ 55296 ≤ n by omega)]; rfl
  · rw [decide_eq_false (show ¬ (n : Int) < 55296 by omega), decide_eq_true (show 55296 ≤ n by omega)]
    by_cases h2 : n ≤ 57343
    · rw [decide_eq_false (show ¬ (n : Int) > 57343 by omega), decide_eq_true h2, decide_eq_true (show n ≤ 1114111 by omega)]; rfl
    · rw [decide_eq_true (show (n : Int) > 57343 by omega), decide_eq_false h2]
      cases decide (n ≤ 1114111) <;> rfl
theorem rIsR (n : Nat) : R02_Rune (n : Int) = some (runeB n) := by
  have a : decide ((n : Int) ≥ 0) = true := decide_eq_true (by omega)
  have b : decide ((n : Int) ≤ 1114111) = decide (n ≤ 1114111) := by
    by_cases h : n ≤ 1114111
    · rw [decide_eq_true h, decide_eq_true (by omega)]
    · rw [decide_eq_false h, decide_eq_false (by omega)]
  have c : decide ((n : Int) ≥ 55296) = decide (55296 ≤ n) := by
    by_cases h : 55296 ≤ n
    · rw [decide_eq_true h, decide_eq_true (by omega)]
    · rw [decide_eq_false h, decide_eq_false (by omega)]
  have d : decide ((n : Int) ≤ 57343) = decide (n ≤ 57343) := by
    by_cases h : n ≤ 57343
    · rw [decide_eq_true h, decide_eq_true (by omega)]
    · rw [decide_eq_false h, decide_eq_false (by omega)]
  rw [R02_Rune, a, b, c, d, runeB]
  cases decide (n ≤ 1114111) <;> cases decide (55296 ≤ n) <;> cases decide (n ≤ 57343) <;> rfl
theorem ltC (c : UInt8) (k : Nat) : decide ((c.toNat : Int) < (k : Int)) = decide (c.toNat < k) := ltI _ _
theorem geC (c : UInt8) (k : Nat) : decide ((c.toNat : Int) ≥ (k : Int)) = decide (k ≤ c.toNat) := by
  by_cases h : k ≤ c.toNat
  · rw [decide_eq_true h, decide_eq_true (by omega)]
  · rw [decide_eq_false h, decide_eq_false (by omega)]
/-- What Next makes of a tail. -/
def endP (o : Option Nat) (least m : Nat) : Nat × Nat := match o with
  | some n => if least ≤ n ∧ runeB n = true then (n, m + 1) else (65533, 1)
  | none => (65533, 1)
set_option maxRecDepth 20000 in
theorem tNext (s : List UInt8) (k : Nat) (hk : k < s.length) (hs : s.length < 9223372036854775807) : utf_Next s k = some (((nextP (s.drop k)).1 : Int), ((nextP (s.drop k)).2 : Int)) := by
  have d1 : decide ((k : Int) < 0) = false := decide_eq_false (by omega)
  have d2 : decide ((k : Int) ≥ (s.length : Int)) = false := decide_eq_false (by omega)
  have hc := s[k].toNat_lt
  have hr : cutL s (wr ((k : Int) + 1)) (s.length : Int) = some (s.drop (k + 1)) := by
    rw [wr_succ (by omega), cutL_ok (by omega) (by omega) (by omega)]
    simp
  rw [utf_Next, d1, d2, hr, dropE hk]
  have l128 := ltC s[k] 128
  have g192 := geC s[k] 192
  have l224 := ltC s[k] 224
  have g224 := geC s[k] 224
  have l240 := ltC s[k] 240
  have g240 := geC s[k] 240
  have l248 := ltC s[k] 248
  have b1 : ∀ a b : Bool, (if a = true then some b else some false : Option Bool) = some (a && b) := fun a b => by cases a <;> rfl
  simp only [Bool.false_eq_true, if_false, bind_some', idx_nat, getE hk]
  rw [show (128 : Int) = ((128 : Nat) : Int) from rfl, show (192 : Int) = ((192 : Nat) : Int) from rfl, show (224 : Int) = ((224 : Nat) : Int) from rfl, show (240 : Int) = ((240 : Nat) : Int) from rfl, show (248 : Int) = ((248 : Nat) : Int) from rfl, l128, g192, l224, g224, l240, g240, l248]
  simp only [b1, bind_some']
  rw [nextP]
  unfold nextC
  have fin : ∀ (v least m : Nat), m ≤ 3 → v < 64 → (utf_tail (s.drop (k + 1)) (v : Int) (m : Int) >>= fun x10 =>
      (if (!x10.2) = true then some true else if decide (x10.1 < (least : Int)) = true then some true else utf_is x10.1 >>= fun x12 => some (!x12) : Option Bool) >>= fun o11 =>
      if o11 = true then some ((65533 : Int), (1 : Int)) else some (x10.1, wr ((m : Int) + 1))) =
      some (((endP (if (s.drop (k + 1)).length < m then none else tailP m (s.drop (k + 1)) v) least m).1 : Int), ((endP (if (s.drop (k + 1)).length < m then none else tailP m (s.drop (k + 1)) v) least m).2 : Int)) := fun v least m hm hv => by
    rw [tTail _ m v hm hv]
    cases (if (s.drop (k + 1)).length < m then none else tailP m (s.drop (k + 1)) v) with
    | none => rfl
    | some n =>
      simp only [bind_some', Bool.not_true, Bool.false_eq_true, if_false, ltI, tIsR, endP]
      by_cases h1 : n < least
      · rw [decide_eq_true h1, if_neg (fun h => absurd h.1 (by omega) : ¬ (least ≤ n ∧ runeB n = true))]; rfl
      · rw [decide_eq_false h1]
        cases hrn : runeB n with
        | true => rw [if_pos (⟨by omega, rfl⟩ : least ≤ n ∧ true = true), wr_succ (by omega)]; rfl
        | false => rw [if_neg (fun h => by cases h.2 : ¬ (least ≤ n ∧ false = true))]; rfl
  by_cases h1 : s[k].toNat < 128
  · rw [decide_eq_true h1, if_pos h1]
    simp only [if_true, bind_some']
    rw [i32_in (by omega) (by omega)]; rfl
  rw [decide_eq_false h1, if_neg h1]
  simp only [Bool.false_eq_true, if_false]
  have cc : ∀ c : UInt8, contB c = true → c.toNat - 128 < 64 := fun c h => by unfold contB at h; simp at h; omega
  by_cases h2 : 192 ≤ s[k].toNat ∧ s[k].toNat < 224
  · rw [decide_eq_true h2.1, decide_eq_true h2.2, if_pos h2, b31]
    simp only [Bool.and_true, if_true, bind_some']
    rw [i32_in (by omega) (by omega)]
    have f := fin (s[k].toNat % 32) 128 1 (by omega) (by omega)
    rw [show ((1 : Nat) : Int) = 1 from rfl] at f
    rw [f]
    have e : s[k].toNat % 32 = s[k].toNat - 192 := by omega
    rw [e]
    cases s.drop (k + 1) with
    | nil => rfl
    | cons c1 r1 =>
      simp only [List.length_cons, if_neg (by omega : ¬ r1.length + 1 < 1), tailP]
      cases h : contB c1 with
      | false => rfl
      | true =>
        have := cc c1 h
        have hr : runeB ((s[k].toNat - 192) * 64 + (c1.toNat - 128)) = true := by unfold runeB; rw [decide_eq_true (by omega), decide_eq_false (by omega)]; rfl
        simp only [if_true, endP, hr, and_true, true_and]
  rw [if_neg h2]
  have d2 : (decide (192 ≤ s[k].toNat) && decide (s[k].toNat < 224)) = false := by
    rw [Bool.and_eq_false_iff]
    by_cases h : 192 ≤ s[k].toNat
    · exact .inr (decide_eq_false (by omega))
    · exact .inl (decide_eq_false h)
  rw [d2]
  simp only [Bool.false_eq_true, if_false]
  by_cases h3 : 224 ≤ s[k].toNat ∧ s[k].toNat < 240
  · rw [decide_eq_true h3.1, decide_eq_true h3.2, if_pos h3, b15]
    simp only [Bool.and_true, if_true, bind_some']
    rw [i32_in (by omega) (by omega)]
    have f := fin (s[k].toNat % 16) 2048 2 (by omega) (by omega)
    rw [show ((2 : Nat) : Int) = 2 from rfl, show ((2048 : Nat) : Int) = 2048 from rfl] at f
    rw [f]
    have e : s[k].toNat % 16 = s[k].toNat - 224 := by omega
    rw [e]
    match s.drop (k + 1) with
    | [] => rfl
    | [c1] => rfl
    | c1 :: c2 :: r1 =>
      simp only [List.length_cons, if_neg (by omega : ¬ r1.length + 1 + 1 < 2), tailP]
      cases h : contB c1 with
      | false => rfl
      | true =>
        cases h' : contB c2 with
        | false => simp [endP]
        | true => simp only [if_true, endP, true_and]
  rw [if_neg h3]
  have d3 : (decide (224 ≤ s[k].toNat) && decide (s[k].toNat < 240)) = false := by
    rw [Bool.and_eq_false_iff]
    by_cases h : 224 ≤ s[k].toNat
    · exact .inr (decide_eq_false (by omega))
    · exact .inl (decide_eq_false h)
  rw [d3]
  simp only [Bool.false_eq_true, if_false]
  by_cases h4 : 240 ≤ s[k].toNat ∧ s[k].toNat < 248
  · rw [decide_eq_true h4.1, decide_eq_true h4.2, if_pos h4, b7]
    simp only [Bool.and_true, if_true, bind_some']
    rw [i32_in (by omega) (by omega)]
    have f := fin (s[k].toNat % 8) 65536 3 (by omega) (by omega)
    rw [show ((3 : Nat) : Int) = 3 from rfl, show ((65536 : Nat) : Int) = 65536 from rfl] at f
    rw [f]
    have e : s[k].toNat % 8 = s[k].toNat - 240 := by omega
    rw [e]
    match s.drop (k + 1) with
    | [] => rfl
    | [c1] => rfl
    | [c1, c2] => rfl
    | c1 :: c2 :: c3 :: r1 =>
      simp only [List.length_cons, if_neg (by omega : ¬ r1.length + 1 + 1 + 1 < 3), tailP]
      cases h : contB c1 with
      | false => rfl
      | true =>
        cases h' : contB c2 with
        | false => simp [endP]
        | true =>
          cases h'' : contB c3 with
          | false => simp [endP]
          | true => simp only [if_true, endP, true_and]
  rw [if_neg h4]
  have d4 : (decide (240 ≤ s[k].toNat) && decide (s[k].toNat < 248)) = false := by
    rw [Bool.and_eq_false_iff]
    by_cases h : 240 ≤ s[k].toNat
    · exact .inr (decide_eq_false (by omega))
    · exact .inl (decide_eq_false h)
  rw [d4]
  rfl
theorem nextP_size (l : List UInt8) (h : l ≠ []) : 1 ≤ (nextP l).2 ∧ (nextP l).2 ≤ l.length := by
  cases l with
  | nil => exact absurd rfl h
  | cons c r =>
    rw [nextP]
    unfold nextC
    split
    · simp
    · split
      · split
        · split <;> simp
        · simp
      · split
        · split
          · split <;> simp
          · simp
        · split
          · split
            · split <;> simp
            · simp
          · simp
end Go.Proofs.YtebkhehjfkmdiaaDoor
end

section
namespace Go.Proofs.YtebkhehjfkmdiaaDoor
open Go.RowKit

def bytesN (n : Nat) : List Nat :=
  if n < 128 then [n] else if n < 2048 then [192 + n / 64, 128 + n % 64] else if n < 65536 then [224 + n / 4096, 128 + n / 64 % 64, 128 + n % 64] else [240 + n / 262144, 128 + n / 4096 % 64, 128 + n / 64 % 64, 128 + n % 64]
theorem bytes_eq (l : List Nat) (h : ∀ x ∈ l, x < 256) (m : List UInt8) : (l.map UInt8.ofNat == m) = decide (l = m.map UInt8.toNat) := by
  have key : l.map UInt8.ofNat = m ↔ l = m.map UInt8.toNat := by
    constructor
    · intro e
      subst e
      rw [List.map_map]
      conv => lhs; rw [← List.map_id l]
      refine List.map_congr_left fun x hx => ?_
      have := h x hx
      show x = (UInt8.ofNat x).toNat
      rw [UInt8.toNat_ofNat', Nat.mod_eq_of_lt this]
    · intro e
      subst e
      rw [List.map_map]
      conv => rhs; rw [← List.map_id m]
      exact List.map_congr_left fun x _ => by simp
  by_cases he : l.map UInt8.ofNat = m
  · rw [decide_eq_true (key.1 he), beq_iff_eq]; exact he
  · rw [decide_eq_false (fun k => he (key.2 k)), beq_eq_false_iff_ne]; exact he
theorem b2s_ok (l : List Nat) (h : ∀ x ∈ l, x < 256) : b2s (l.map fun x : Nat => (x : Int)) = some (l.map UInt8.ofNat) := by
  unfold b2s
  rw [if_pos]
  · rw [List.map_map]; rfl
  · rw [List.all_eq_true]
    intro n hn
    obtain ⟨x, hx, rfl⟩ := List.mem_map.1 hn
    have := h x hx
    simp only [decide_eq_true_eq]
    omega
theorem td (n k : Nat) : ((n : Int).tdiv (k : Int)) = ((n / k : Nat) : Int) := by rw [Int.tdiv_eq_ediv_of_nonneg (by omega)]; rfl
theorem tm (n k : Nat) : ((n : Int).tmod (k : Int)) = ((n % k : Nat) : Int) := by rw [Int.tmod_eq_emod_of_nonneg (by omega)]; rfl
theorem wrN (n : Nat) (h : n < 9000000000000) : wr (n : Int) = (n : Int) := wr_in (by omega) (by omega)
theorem u8N (n : Nat) (h : n < 256) : IntKind.u8.wrap (n : Int) = (n : Int) := u8_in (by omega) (by omega)
set_option maxRecDepth 20000 in
theorem rBytes (n : Nat) (h : runeB n = true) : R02_Bytes (n : Int) = some ((bytesN n).map UInt8.ofNat) := by
  have hn : n ≤ 1114111 := by unfold runeB at h; rw [Bool.and_eq_true] at h; exact of_decide_eq_true h.1
  have a1 : decide ((n : Int) < 128) = decide (n < 128) := ltI n 128
  have a2 : decide ((n : Int) < 2048) = decide (n < 2048) := ltI n 2048
  have a3 : decide ((n : Int) < 65536) = decide (n < 65536) := ltI n 65536
  have d64 : (n : Int).tdiv 64 = ((n / 64 : Nat) : Int) := td n 64
  have m64 : (n : Int).tmod 64 = ((n % 64 : Nat) : Int) := tm n 64
  have d4096 : (n : Int).tdiv 4096 = ((n / 4096 : Nat) : Int) := td n 4096
  have d262 : (n : Int).tdiv 262144 = ((n / 262144 : Nat) : Int) := td n 262144
  have w1 : ∀ a b : Nat, a + b < 256 → IntKind.u8.wrap (wr ((a : Int) + (b : Int))) = ((a + b : Nat) : Int) := fun a b h => by
    rw [wr_in (by omega) (by omega), u8_in (by omega) (by omega)]; rfl
  rw [R02_Bytes, rIsR, h]
  simp only [bind_some', Bool.not_true, Bool.false_eq_true, if_false, a1, a2, a3, d64, m64, d4096, d262]
  rw [wrN (n / 64) (by omega), wrN (n / 4096) (by omega), wrN (n / 262144) (by omega)]
  have t64 : (((n / 64 : Nat) : Int)).tmod 64 = ((n / 64 % 64 : Nat) : Int) := tm (n / 64) 64
  have t4096 : (((n / 4096 : Nat) : Int)).tmod 64 = ((n / 4096 % 64 : Nat) : Int) := tm (n / 4096) 64
  rw [t64, t4096]
  unfold bytesN
  by_cases h1 : n < 128
  · rw [decide_eq_true h1, if_pos h1, u8N n (by omega)]
    simp only [if_true]
    have := b2s_ok [n] (by simp; omega)
    simp only [List.map_cons, List.map_nil] at this
    rw [this]; rfl
  rw [decide_eq_false h1, if_neg h1]
  by_cases h2 : n < 2048
  · rw [decide_eq_true h2, if_pos h2]
    have e1 := w1 192 (n / 64) (by omega)
    have e2 := w1 128 (n % 64) (by omega)
    have := b2s_ok [192 + n / 64, 128 + n % 64] (by simp; omega)
    simp only [List.map_cons, List.map_nil] at this
    simp only [Bool.false_eq_true, if_false, if_true]
    rw [show (192 : Int) = ((192 : Nat) : Int) from rfl, show (128 : Int) = ((128 : Nat) : Int) from rfl, e1, e2, this]; rfl
  rw [decide_eq_false h2, if_neg h2]
  by_cases h3 : n < 65536
  · rw [decide_eq_true h3, if_pos h3]
    have e1 := w1 224 (n / 4096) (by omega)
    have e2 := w1 128 (n / 64 % 64) (by omega)
    have e3 := w1 128 (n % 64) (by omega)
    have := b2s_ok [224 + n / 4096, 128 + n / 64 % 64, 128 + n % 64] (by simp; omega)
    simp only [List.map_cons, List.map_nil] at this
    simp only [Bool.false_eq_true, if_false, if_true]
    rw [show (224 : Int) = ((224 : Nat) : Int) from rfl, show (128 : Int) = ((128 : Nat) : Int) from rfl, e1, e2, e3, this]; rfl
  rw [decide_eq_false h3, if_neg h3]
  have e0 := w1 240 (n / 262144) (by omega)
  have e1 := w1 128 (n / 4096 % 64) (by omega)
  have e2 := w1 128 (n / 64 % 64) (by omega)
  have e3 := w1 128 (n % 64) (by omega)
  have := b2s_ok [240 + n / 262144, 128 + n / 4096 % 64, 128 + n / 64 % 64, 128 + n % 64] (by simp; omega)
  simp only [List.map_cons, List.map_nil] at this
  simp only [Bool.false_eq_true, if_false]
  rw [show (240 : Int) = ((240 : Nat) : Int) from rfl, show (128 : Int) = ((128 : Nat) : Int) from rfl, e0, e1, e2, e3, this]; rfl
theorem bytesN_lt (n : Nat) (h : n ≤ 1114111) : ∀ x ∈ bytesN n, x < 256 := by
  unfold bytesN
  split
  · simp; omega
  · split
    · simp; omega
    · split <;> simp <;> omega
theorem rTest (s : List UInt8) (k m : Nat) (hm : k + m ≤ s.length) (hs : s.length < 9000000000000) (n : Int) :
    ( if (decide (n ≥ 0)) = true then
        R02_Rune n >>= fun x11 =>
        if x11 = true then
          R02_Bytes n >>= fun x12 =>
          cutL s k (wr ((k : Int) + m)) >>= fun x13 =>
          some (x12 == x13)
        else
          some false
      else
        some false : Option Bool) = some (decide (0 ≤ n) && (runeB n.toNat && decide (bytesN n.toNat = ((s.take (k + m)).drop k).map UInt8.toNat))) := by
  have e : wr ((k : Int) + m) = ((k + m : Nat) : Int) := by rw [wr_in (by omega) (by omega)]; rfl
  by_cases h : 0 ≤ n
  · obtain ⟨v, rfl⟩ : ∃ v : Nat, n = v := ⟨n.toNat, by omega⟩
    rw [decide_eq_true (show (v : Int) ≥ 0 by omega), rIsR, e, cutL_ok (by omega) (by omega) (by omega)]
    simp only [if_true, bind_some', Int.toNat_natCast, Bool.true_and]
    cases hr : runeB v with
    | false => rfl
    | true =>
      have hv : v ≤ 1114111 := by unfold runeB at hr; rw [Bool.and_eq_true] at hr; exact of_decide_eq_true hr.1
      rw [rBytes v hr]
      simp only [if_true, bind_some', bytes_eq _ (bytesN_lt v hv), Bool.true_and]
  · rw [decide_eq_false (show ¬ n ≥ 0 from h)]; rfl

theorem wr64 (a b : Int) (ha : -3000000 ≤ a) (ha2 : a ≤ 3000000) (hb : 0 ≤ b) (hb2 : b ≤ 255) : wr ((wr ((wr (64 * a)) + (wr b))) - 128) = 64 * a + b - 128 := by
  rw [wr_in (n := 64 * a) (by omega) (by omega), wr_in (n := b) (by omega) (by omega), wr_in (n := 64 * a + b) (by omega) (by omega), wr_in (by omega) (by omega)]
/-- What the next byte adds. -/
def addN (a : Int) (c : UInt8) : Int := 64 * a + c.toNat - 128
theorem rL2 (s : List UInt8) (k : Nat) (v6 : List Int) (m : Nat) (hm : k + m ≤ s.length) (hm4 : m ≤ 4) (hs : s.length < 9000000000000) : ∀ d (i : Nat) (v : Int), i + d = m → 1 ≤ i → (i = 1 → -300 ≤ v ∧ v ≤ 300) → (i = 2 → -30000 ≤ v ∧ v ≤ 30000) → (i = 3 → -3000000 ≤ v ∧ v ≤ 3000000) →
    R02_Next_L2 s k v6 m v i = some (((s.drop (k + i)).take d).foldl addN v) := by
  intro d
  induction d with
  | zero =>
    intro i v hi _ _ _ _
    rw [R02_Next_L2, ltI, decide_eq_false (by omega : ¬ i < m)]
    simp
  | succ d ih =>
    intro i v hi hi1 h1 h2 h3
    have hk : k + i < s.length := by omega
    have e1 : wr ((k : Int) + i) = ((k + i : Nat) : Int) := by rw [wr_in (by omega) (by omega)]; rfl
    have hc := s[k + i].toNat_lt
    have hb : -3000000 ≤ v ∧ v ≤ 3000000 := by omega
    rw [R02_Next_L2, ltI, decide_eq_true (by omega : i < m), e1, wr_succ (by omega)]
    simp only [if_true, idx_nat, getE hk, bind_some']
    rw [wr64 v _ hb.1 hb.2 (by omega) (by omega), dropE hk, List.take_succ_cons, List.foldl_cons]
    exact ih (i + 1) (addN v s[k + i]) (by omega) (by omega) (by omega) (by unfold addN; omega) (by unfold addN; omega)
def leadL : List Int := [0, 0, 192, 224, 240]
/-- The number that so many bytes would be. -/
def numN (c : UInt8) (r : List UInt8) (m : Nat) : Int := (r.take (m - 1)).foldl addN ((c.toNat : Int) - (leadL[m]?.getD 0))
def tstB (c : UInt8) (r : List UInt8) (m : Nat) : Bool := decide (0 ≤ numN c r m) && (runeB (numN c r m).toNat && decide (bytesN (numN c r m).toNat = ((c :: r).take m).map UInt8.toNat))
theorem rL1 (s : List UInt8) (k : Nat) (hk : k < s.length) (hs : s.length < 9000000000000) (m : Nat) (h1 : 1 ≤ m) (h4 : m ≤ 4) :
    R02_Next_L1 s k leadL m = if k + m ≤ s.length then (if tstB s[k] (s.drop (k + 1)) m = true then some (.inr (numN s[k] (s.drop (k + 1)) m, (m : Int))) else R02_Next_L1 s k leadL ((m + 1 : Nat) : Int)) else some (.inl ()) := by
  have e0 : wr ((s.length : Int) - k) = ((s.length - k : Nat) : Int) := by rw [wr_in (by omega) (by omega)]; omega
  have a4 : decide ((m : Int) ≤ 4) = true := decide_eq_true (by omega)
  have hc := s[k].toNat_lt
  rw [R02_Next_L1, e0, a4]
  by_cases hm : k + m ≤ s.length
  · have a5 : decide ((m : Int) ≤ ((s.length - k : Nat) : Int)) = true := decide_eq_true (by omega)
    obtain ⟨ld, hld, hl0, hl1⟩ : ∃ ld : Int, leadL[m]? = some ld ∧ 0 ≤ ld ∧ ld ≤ 240 := by
      match m, h1, h4 with
      | 1, _, _ => exact ⟨0, rfl, by omega, by omega⟩
      | 2, _, _ => exact ⟨192, rfl, by omega, by omega⟩
      | 3, _, _ => exact ⟨224, rfl, by omega, by omega⟩
      | 4, _, _ => exact ⟨240, rfl, by omega, by omega⟩
    have ew : wr ((wr (s[k].toNat : Int)) - ld) = (s[k].toNat : Int) - ld := by rw [wr_in (n := (s[k].toNat : Int)) (by omega) (by omega), wr_in (by omega) (by omega)]
    have h2 := rL2 s k leadL m hm h4 hs (m - 1) 1 ((s[k].toNat : Int) - ld) (by omega) (by omega) (by omega) (by omega) (by omega)
    have en : numN s[k] (s.drop (k + 1)) m = ((s.drop (k + 1)).take (m - 1)).foldl addN ((s[k].toNat : Int) - ld) := by rw [numN, hld]; rfl
    rw [← en, show ((1 : Nat) : Int) = 1 from rfl] at h2
    have ht := rTest s k m hm hs (numN s[k] (s.drop (k + 1)) m)
    have et : ((s.take (k + m)).drop k) = ((s[k] :: s.drop (k + 1)).take m) := by rw [← dropE hk, List.drop_take]; congr 1; omega
    rw [et] at ht
    rw [a5, if_pos hm, wr_succ (by omega)]
    simp only [if_true, bind_some', idx_nat, getE hk, hld, ew, h2]
    rw [ht]
    rfl
  · have a5 : decide ((m : Int) ≤ ((s.length - k : Nat) : Int)) = false := decide_eq_false (by omega)
    rw [a5, if_neg hm]
    rfl
theorem tst1 (c : UInt8) (r : List UInt8) : tstB c r 1 = decide (c.toNat < 128) ∧ numN c r 1 = (c.toNat : Int) := by
  have hc := c.toNat_lt
  have en : numN c r 1 = (c.toNat : Int) := by simp [numN, leadL]
  refine ⟨?_, en⟩
  have hr : runeB c.toNat = true := by unfold runeB; rw [decide_eq_true (by omega), decide_eq_false (by omega)]; rfl
  rw [tstB, en, decide_eq_true (by omega), Int.toNat_natCast, hr]
  simp only [Bool.true_and, List.take_succ_cons, List.take_zero, List.map_cons, List.map_nil]
  unfold bytesN
  by_cases h : c.toNat < 128
  · rw [decide_eq_true h, if_pos h]; simp
  · rw [decide_eq_false h, if_neg h, if_pos (by omega)]
    simp
theorem tst2 (c c1 : UInt8) (r : List UInt8) : tstB c (c1 :: r) 2 = decide ((192 ≤ c.toNat ∧ c.toNat < 224) ∧ contB c1 = true ∧ 128 ≤ (c.toNat - 192) * 64 + (c1.toNat - 128)) ∧ numN c (c1 :: r) 2 = 64 * ((c.toNat : Int) - 192) + c1.toNat - 128 := by
  have hc := c.toNat_lt
  have hc1 := c1.toNat_lt
  have en : numN c (c1 :: r) 2 = 64 * ((c.toNat : Int) - 192) + c1.toNat - 128 := by simp [numN, leadL, addN]
  refine ⟨?_, en⟩
  rw [tstB, en]
  simp only [List.take_succ_cons, List.take_zero, List.map_cons, List.map_nil]
  have hcont : contB c1 = true ↔ (128 ≤ c1.toNat ∧ c1.toNat < 192) := by unfold contB; simp
  by_cases hn : 0 ≤ 64 * ((c.toNat : Int) - 192) + c1.toNat - 128
  · obtain ⟨n, hn2⟩ : ∃ n : Nat, 64 * ((c.toNat : Int) - 192) + c1.toNat - 128 = n := ⟨(64 * ((c.toNat : Int) - 192) + c1.toNat - 128).toNat, by omega⟩
    rw [hn2, Int.toNat_natCast, decide_eq_true (by omega), Bool.true_and]
    have hlt : n < 5000 := by omega
    have hr : runeB n = true := by unfold runeB; rw [decide_eq_true (by omega), decide_eq_false (by omega)]; rfl
    rw [hr, Bool.true_and]
    congr 1
    apply propext
    rw [hcont]
    unfold bytesN
    by_cases h1 : n < 128
    · rw [if_pos h1]
      constructor
      · intro h; simp at h
      · intro h; omega
    · rw [if_neg h1]
      by_cases h2 : n < 2048
      · rw [if_pos h2]
        simp only [List.cons.injEq, and_true]
        omega
      · rw [if_neg h2, if_pos (by omega)]
        constructor
        · intro h; simp at h
        · intro h; omega
  · rw [decide_eq_false hn, Bool.false_and, decide_eq_false]
    rw [hcont]; omega
theorem tst3 (c c1 c2 : UInt8) (r : List UInt8) : tstB c (c1 :: c2 :: r) 3 = decide ((224 ≤ c.toNat ∧ c.toNat < 240) ∧ contB c1 = true ∧ contB c2 = true ∧ 2048 ≤ ((c.toNat - 224) * 64 + (c1.toNat - 128)) * 64 + (c2.toNat - 128) ∧ runeB (((c.toNat - 224) * 64 + (c1.toNat - 128)) * 64 + (c2.toNat - 128)) = true) ∧
    numN c (c1 :: c2 :: r) 3 = 64 * (64 * ((c.toNat : Int) - 224) + c1.toNat - 128) + c2.toNat - 128 := by
  have hc := c.toNat_lt
  have hc1 := c1.toNat_lt
  have hc2 := c2.toNat_lt
  have en : numN c (c1 :: c2 :: r) 3 = 64 * (64 * ((c.toNat : Int) - 224) + c1.toNat - 128) + c2.toNat - 128 := by simp [numN, leadL, addN]
  refine ⟨?_, en⟩
  rw [tstB, en]
  simp only [List.take_succ_cons, List.take_zero, List.map_cons, List.map_nil]
  have hcont : contB c1 = true ↔ (128 ≤ c1.toNat ∧ c1.toNat < 192) := by unfold contB; simp
  have hcont2 : contB c2 = true ↔ (128 ≤ c2.toNat ∧ c2.toNat < 192) := by unfold contB; simp
  by_cases hn : 0 ≤ 64 * (64 * ((c.toNat : Int) - 224) + c1.toNat - 128) + c2.toNat - 128
  · obtain ⟨n, hn2⟩ : ∃ n : Nat, 64 * (64 * ((c.toNat : Int) - 224) + c1.toNat - 128) + c2.toNat - 128 = n := ⟨(64 * (64 * ((c.toNat : Int) - 224) + c1.toNat - 128) + c2.toNat - 128).toNat, by omega⟩
    rw [hn2, Int.toNat_natCast, decide_eq_true (by omega), Bool.true_and]
    have hlt : n < 200000 := by omega
    have key : bytesN n = [c.toNat, c1.toNat, c2.toNat] ↔ ((224 ≤ c.toNat ∧ c.toNat < 240) ∧ (128 ≤ c1.toNat ∧ c1.toNat < 192) ∧ (128 ≤ c2.toNat ∧ c2.toNat < 192) ∧ 2048 ≤ n) := by
      unfold bytesN
      by_cases h1 : n < 128
      · rw [if_pos h1]
        exact ⟨fun h => by simp at h, fun h => by omega⟩
      rw [if_neg h1]
      by_cases h2 : n < 2048
      · rw [if_pos h2]
        exact ⟨fun h => by simp at h, fun h => by omega⟩
      rw [if_neg h2]
      by_cases h3 : n < 65536
      · rw [if_pos h3]
        simp only [List.cons.injEq, and_true]
        omega
      · rw [if_neg h3]
        exact ⟨fun h => by simp at h, fun h => by omega⟩
    rw [Bool.eq_iff_iff]
    simp only [Bool.and_eq_true, decide_eq_true_eq]
    rw [key, hcont, hcont2]
    constructor
    · rintro ⟨hr, a, b, c', d⟩
      have e : ((c.toNat - 224) * 64 + (c1.toNat - 128)) * 64 + (c2.toNat - 128) = n := by omega
      exact ⟨a, b, c', by omega, by rw [e]; exact hr⟩
    · rintro ⟨a, b, c', d, hr⟩
      have e : ((c.toNat - 224) * 64 + (c1.toNat - 128)) * 64 + (c2.toNat - 128) = n := by omega
      rw [e] at hr d
      exact ⟨hr, a, b, c', d⟩
  · rw [decide_eq_false hn, Bool.false_and, decide_eq_false]
    rw [hcont, hcont2]; omega
theorem tst4 (c c1 c2 c3 : UInt8) (r : List UInt8) : tstB c (c1 :: c2 :: c3 :: r) 4 = decide ((240 ≤ c.toNat ∧ c.toNat < 248) ∧ contB c1 = true ∧ contB c2 = true ∧ contB c3 = true ∧ 65536 ≤ (((c.toNat - 240) * 64 + (c1.toNat - 128)) * 64 + (c2.toNat - 128)) * 64 + (c3.toNat - 128) ∧ runeB ((((c.toNat - 240) * 64 + (c1.toNat - 128)) * 64 + (c2.toNat - 128)) * 64 + (c3.toNat - 128)) = true) ∧
    numN c (c1 :: c2 :: c3 :: r) 4 = 64 * (64 * (64 * ((c.toNat : Int) - 240) + c1.toNat - 128) + c2.toNat - 128) + c3.toNat - 128 := by
  have hc := c.toNat_lt
  have hc1 := c1.toNat_lt
  have hc2 := c2.toNat_lt
  have hc3 := c3.toNat_lt
  have en : numN c (c1 :: c2 :: c3 :: r) 4 = 64 * (64 * (64 * ((c.toNat : Int) - 240) + c1.toNat - 128) + c2.toNat - 128) + c3.toNat - 128 := by simp [numN, leadL, addN]
  refine ⟨?_, en⟩
  rw [tstB, en]
  simp only [List.take_succ_cons, List.take_zero, List.map_cons, List.map_nil]
  have hcont : contB c1 = true ↔ (128 ≤ c1.toNat ∧ c1.toNat < 192) := by unfold contB; simp
  have hcont2 : contB c2 = true ↔ (128 ≤ c2.toNat ∧ c2.toNat < 192) := by unfold contB; simp
  have hcont3 : contB c3 = true ↔ (128 ≤ c3.toNat ∧ c3.toNat < 192) := by unfold contB; simp
  by_cases hn : 0 ≤ 64 * (64 * (64 * ((c.toNat : Int) - 240) + c1.toNat - 128) + c2.toNat - 128) + c3.toNat - 128
  · obtain ⟨n, hn2⟩ : ∃ n : Nat, 64 * (64 * (64 * ((c.toNat : Int) - 240) + c1.toNat - 128) + c2.toNat - 128) + c3.toNat - 128 = n := ⟨(64 * (64 * (64 * ((c.toNat : Int) - 240) + c1.toNat - 128) + c2.toNat - 128) + c3.toNat - 128).toNat, by omega⟩
    rw [hn2, Int.toNat_natCast, decide_eq_true (by omega), Bool.true_and]
    have key : runeB n = true → (bytesN n = [c.toNat, c1.toNat, c2.toNat, c3.toNat] ↔ ((240 ≤ c.toNat ∧ c.toNat < 248) ∧ (128 ≤ c1.toNat ∧ c1.toNat < 192) ∧ (128 ≤ c2.toNat ∧ c2.toNat < 192) ∧ (128 ≤ c3.toNat ∧ c3.toNat < 192) ∧ 65536 ≤ n)) := fun hr => by
      have hlt : n ≤ 1114111 := by unfold runeB at hr; rw [Bool.and_eq_true] at hr; exact of_decide_eq_true hr.1
      unfold bytesN
      by_cases h1 : n < 128
      · rw [if_pos h1]
        exact ⟨fun h => by simp at h, fun h => by omega⟩
      rw [if_neg h1]
      by_cases h2 : n < 2048
      · rw [if_pos h2]
        exact ⟨fun h => by simp at h, fun h => by omega⟩
      rw [if_neg h2]
      by_cases h3 : n < 65536
      · rw [if_pos h3]
        exact ⟨fun h => by simp at h, fun h => by omega⟩
      · rw [if_neg h3]
        simp only [List.cons.injEq, and_true]
        omega
    rw [Bool.eq_iff_iff]
    simp only [Bool.and_eq_true, decide_eq_true_eq]
    rw [hcont, hcont2, hcont3]
    constructor
    · rintro ⟨hr, hb⟩
      obtain ⟨a, b, c', d', d⟩ := (key hr).1 hb
      have e : (((c.toNat - 240) * 64 + (c1.toNat - 128)) * 64 + (c2.toNat - 128)) * 64 + (c3.toNat - 128) = n := by omega
      exact ⟨a, b, c', d', by omega, by rw [e]; exact hr⟩
    · rintro ⟨a, b, c', d', d, hr⟩
      have e : (((c.toNat - 240) * 64 + (c1.toNat - 128)) * 64 + (c2.toNat - 128)) * 64 + (c3.toNat - 128) = n := by omega
      rw [e] at hr d
      exact ⟨hr, (key hr).2 ⟨a, b, c', d', d⟩⟩
  · rw [decide_eq_false hn, Bool.false_and, decide_eq_false]
    rw [hcont, hcont2, hcont3]; omega
theorem rNext (s : List UInt8) (k : Nat) (hk : k < s.length) (hs : s.length < 9000000000000) : R02_Next s k = some (((nextP (s.drop k)).1 : Int), ((nextP (s.drop k)).2 : Int)) := by
  have d1 : decide ((k : Int) < 0) = false := decide_eq_false (by omega)
  have d2 : decide ((k : Int) ≥ (s.length : Int)) = false := decide_eq_false (by omega)
  have hc := s[k].toNat_lt
  have l1 := rL1 s k hk hs 1 (by omega) (by omega)
  have l2 := rL1 s k hk hs 2 (by omega) (by omega)
  have l3 := rL1 s k hk hs 3 (by omega) (by omega)
  have l4 := rL1 s k hk hs 4 (by omega) (by omega)
  have l5 : R02_Next_L1 s k leadL ((4 + 1 : Nat) : Int) = some (.inl ()) := by
    rw [R02_Next_L1, show decide (((4 + 1 : Nat) : Int) ≤ 4) = false from rfl]
    simp only [Bool.false_eq_true, if_false, bind_some']
  have hdl : (s.drop (k + 1)).length = s.length - (k + 1) := List.length_drop
  rw [R02_Next, d1, d2, dropE hk, nextP]
  show (R02_Next_L1 s k leadL ((1 : Nat) : Int) >>= _) = _
  rw [l1, if_pos (by omega), (tst1 _ _).1, (tst1 _ _).2, l2]
  unfold nextC
  by_cases h1 : s[k].toNat < 128
  · rw [decide_eq_true h1, if_pos rfl, if_pos h1]; rfl
  rw [decide_eq_false h1, if_neg (by decide), if_neg h1]
  generalize hr : s.drop (k + 1) = r at *
  match r with
  | [] =>
    simp at hdl
    rw [if_neg (by omega)]
    simp
  | [c1] =>
    simp at hdl
    have hc1 := c1.toNat_lt
    rw [if_pos (by omega), (tst2 _ _ _).1, (tst2 _ _ _).2, l3, if_neg (by omega : ¬ k + 3 ≤ s.length)]
    dsimp only
    by_cases h2 : 192 ≤ s[k].toNat ∧ s[k].toNat < 224
    · rw [if_pos h2]
      by_cases h3 : contB c1 = true ∧ 128 ≤ (s[k].toNat - 192) * 64 + (c1.toNat - 128)
      · have h4 : 128 ≤ c1.toNat := by have := h3.1; unfold contB at this; simp at this; exact this.1
        rw [decide_eq_true ⟨h2, h3⟩, if_pos rfl, if_pos h3]
        simp only [bind_some']
        congr 2
        omega
      · rw [decide_eq_false (fun h => h3 h.2), if_neg (by decide), if_neg h3]; rfl
    · rw [decide_eq_false (fun h => h2 h.1), if_neg (by decide), if_neg h2]
      simp
  | [c1, c2] =>
    simp at hdl
    have hc1 := c1.toNat_lt
    have hc2 := c2.toNat_lt
    rw [if_pos (by omega), (tst2 _ _ _).1, (tst2 _ _ _).2, l3, if_pos (by omega : k + 3 ≤ s.length), (tst3 _ _ _ _).1, (tst3 _ _ _ _).2, l4, if_neg (by omega : ¬ k + 4 ≤ s.length)]
    dsimp only
    by_cases h2 : 192 ≤ s[k].toNat ∧ s[k].toNat < 224
    · rw [if_pos h2]
      by_cases h3 : contB c1 = true ∧ 128 ≤ (s[k].toNat - 192) * 64 + (c1.toNat - 128)
      · have h4 : 128 ≤ c1.toNat := by have := h3.1; unfold contB at this; simp at this; exact this.1
        rw [decide_eq_true ⟨h2, h3⟩, if_pos rfl, if_pos h3]
        simp only [bind_some']
        congr 2
        omega
      · rw [decide_eq_false (fun h => h3 h.2), if_neg (by decide), if_neg h3, decide_eq_false (fun h => by have := h.1; omega), if_neg (by decide)]; rfl
    · rw [decide_eq_false (fun h => h2 h.1), if_neg (by decide), if_neg h2]
      by_cases h5 : 224 ≤ s[k].toNat ∧ s[k].toNat < 240
      · rw [if_pos h5]
        by_cases h6 : contB c1 = true ∧ contB c2 = true ∧ 2048 ≤ ((s[k].toNat - 224) * 64 + (c1.toNat - 128)) * 64 + (c2.toNat - 128) ∧ runeB (((s[k].toNat - 224) * 64 + (c1.toNat - 128)) * 64 + (c2.toNat - 128)) = true
        · have h4 : 128 ≤ c1.toNat := by have := h6.1; unfold contB at this; simp at this; exact this.1
          have h4' : 128 ≤ c2.toNat := by have := h6.2.1; unfold contB at this; simp at this; exact this.1
          rw [decide_eq_true ⟨h5, h6⟩, if_pos rfl, if_pos h6]
          simp only [bind_some']
          congr 2
          omega
        · rw [decide_eq_false (fun h => h6 h.2), if_neg (by decide), if_neg h6]; rfl
      · rw [decide_eq_false (fun h => h5 h.1), if_neg (by decide), if_neg h5]
        simp
  | c1 :: c2 :: c3 :: r =>
    simp at hdl
    have hc1 := c1.toNat_lt
    have hc2 := c2.toNat_lt
    have hc3 := c3.toNat_lt
    rw [if_pos (by omega), (tst2 _ _ _).1, (tst2 _ _ _).2, l3, if_pos (by omega : k + 3 ≤ s.length), (tst3 _ _ _ _).1, (tst3 _ _ _ _).2, l4, if_pos (by omega : k + 4 ≤ s.length), (tst4 _ _ _ _ _).1, (tst4 _ _ _ _ _).2, l5]
    dsimp only
    by_cases h2 : 192 ≤ s[k].toNat ∧ s[k].toNat < 224
    · rw [if_pos h2]
      by_cases h3 : contB c1 = true ∧ 128 ≤ (s[k].toNat - 192) * 64 + (c1.toNat - 128)
      · have h4 : 128 ≤ c1.toNat := by have := h3.1; unfold contB at this; simp at this; exact this.1
        rw [decide_eq_true ⟨h2, h3⟩, if_pos rfl, if_pos h3]
        simp only [bind_some']
        congr 2
        omega
      · rw [decide_eq_false (fun h => h3 h.2), if_neg (by decide), if_neg h3, decide_eq_false (fun h => by have := h.1; omega), if_neg (by decide), decide_eq_false (fun h => by have := h.1; omega), if_neg (by decide)]; rfl
    · rw [decide_eq_false (fun h => h2 h.1), if_neg (by decide), if_neg h2]
      by_cases h5 : 224 ≤ s[k].toNat ∧ s[k].toNat < 240
      · rw [if_pos h5]
        by_cases h6 : contB c1 = true ∧ contB c2 = true ∧ 2048 ≤ ((s[k].toNat - 224) * 64 + (c1.toNat - 128)) * 64 + (c2.toNat - 128) ∧ runeB (((s[k].toNat - 224) * 64 + (c1.toNat - 128)) * 64 + (c2.toNat - 128)) = true
        · have h4 : 128 ≤ c1.toNat := by have := h6.1; unfold contB at this; simp at this; exact this.1
          have h4' : 128 ≤ c2.toNat := by have := h6.2.1; unfold contB at this; simp at this; exact this.1
          rw [decide_eq_true ⟨h5, h6⟩, if_pos rfl, if_pos h6]
          simp only [bind_some']
          congr 2
          omega
        · rw [decide_eq_false (fun h => h6 h.2), if_neg (by decide), if_neg h6, decide_eq_false (fun h => by have := h.1; omega), if_neg (by decide)]; rfl
      · rw [decide_eq_false (fun h => h5 h.1), if_neg (by decide), if_neg h5]
        by_cases h7 : 240 ≤ s[k].toNat ∧ s[k].toNat < 248
        · rw [if_pos h7]
          by_cases h8 : contB c1 = true ∧ contB c2 = true ∧ contB c3 = true ∧ 65536 ≤ (((s[k].toNat - 240) * 64 + (c1.toNat - 128)) * 64 + (c2.toNat - 128)) * 64 + (c3.toNat - 128) ∧ runeB ((((s[k].toNat - 240) * 64 + (c1.toNat - 128)) * 64 + (c2.toNat - 128)) * 64 + (c3.toNat - 128)) = true
          · have h4 : 128 ≤ c1.toNat := by have := h8.1; unfold contB at this; simp at this; exact this.1
            have h4' : 128 ≤ c2.toNat := by have := h8.2.1; unfold contB at this; simp at this; exact this.1
            have h4'' : 128 ≤ c3.toNat := by have := h8.2.2.1; unfold contB at this; simp at this; exact this.1
            rw [decide_eq_true ⟨h7, h8⟩, if_pos rfl, if_pos h8]
            simp only [bind_some']
            congr 2
            omega
          · rw [decide_eq_false (fun h => h8 h.2), if_neg (by decide), if_neg h8]; rfl
        · rw [decide_eq_false (fun h => h7 h.1), if_neg (by decide), if_neg h7]
          rfl
end Go.Proofs.YtebkhehjfkmdiaaDoor
end

section
namespace Go.Proofs.YtebkhehjfkmdiaaDoor
open Go.RowKit

theorem leN (n k : Nat) : decide ((n : Int) ≤ (k : Int)) = decide (n ≤ k) := by
  by_cases h : n ≤ k
  · rw [decide_eq_true h, decide_eq_true (by omega : (n : Int) ≤ k)]
  · rw [decide_eq_false h, decide_eq_false (by omega)]
theorem eqN (n k : Nat) : ((n : Int) == (k : Int)) = (n == k) := by
  by_cases h : n = k
  · subst h; simp
  · rw [beq_eq_false_iff_ne.2 h, beq_eq_false_iff_ne.2 (by omega)]
end Go.Proofs.YtebkhehjfkmdiaaDoor
end

section
namespace Go.Proofs.YtebkhehjfkmdiaaDoor
open Go.RowKit

def utfF : Nat → List UInt8 → Bool
  | 0, _ => true
  | n + 1, l => match l with
    | [] => true
    | _ :: _ => if (nextP l).1 = 65533 ∧ (nextP l).2 = 1 then false else utfF n (l.drop (nextP l).2)
theorem utfF_step (n : Nat) (l : List UInt8) (h : l ≠ []) : utfF (n + 1) l = if (nextP l).1 = 65533 ∧ (nextP l).2 = 1 then false else utfF n (l.drop (nextP l).2) := by
  cases l with
  | nil => exact absurd rfl h
  | cons c r => rfl
theorem badI (p : Nat × Nat) : (if (((p.1 : Nat) : Int) == 65533) = true then some (((p.2 : Nat) : Int) == 1) else some false : Option Bool) = some (decide (p.1 = 65533 ∧ p.2 = 1)) := by
  have a := eqN p.1 65533
  have b := eqN p.2 1
  rw [show (65533 : Int) = ((65533 : Nat) : Int) from rfl, show (1 : Int) = ((1 : Nat) : Int) from rfl, a, b]
  by_cases h1 : p.1 = 65533
  · rw [beq_iff_eq.2 h1, if_pos rfl]
    by_cases h2 : p.2 = 1
    · rw [beq_iff_eq.2 h2, decide_eq_true ⟨h1, h2⟩]
    · rw [beq_eq_false_iff_ne.2 h2, decide_eq_false (fun h => h2 h.2)]
  · rw [beq_eq_false_iff_ne.2 h1, if_neg (by decide), decide_eq_false (fun h => h1 h.1)]
theorem rIsU (s : List UInt8) (hs : s.length < 9000000000000) : ∀ n k, k ≤ s.length → s.length - k ≤ n → R02_Is_L1 s k = some (if utfF n (s.drop k) = true then .inl () else .inr ()) := by
  intro n
  induction n with
  | zero =>
    intro k h1 h2
    rw [R02_Is_L1, ltI, decide_eq_false (by omega : ¬ k < s.length)]
    rfl
  | succ n ih =>
    intro k h1 h2
    by_cases hk : k < s.length
    · have hne : s.drop k ≠ [] := by rw [dropE hk]; exact List.cons_ne_nil _ _
      obtain ⟨z1, z2⟩ := nextP_size _ hne
      rw [List.length_drop] at z2
      have ew : wr ((k : Int) + ((nextP (s.drop k)).2 : Int)) = ((k + (nextP (s.drop k)).2 : Nat) : Int) := by rw [wr_in (by omega) (by omega)]; rfl
      rw [R02_Is_L1, ltI, decide_eq_true hk, rNext s k hk hs]
      simp only [if_true, bind_some']
      rw [badI (nextP (s.drop k)), ew, ih _ (by omega) (by omega), utfF_step n _ hne, List.drop_drop]
      by_cases hb : (nextP (s.drop k)).1 = 65533 ∧ (nextP (s.drop k)).2 = 1
      · rw [decide_eq_true hb, if_pos hb]; rfl
      · rw [decide_eq_false hb, if_neg hb]; rfl
    · rw [R02_Is_L1, ltI, decide_eq_false hk, List.drop_eq_nil_of_le (by omega)]
      rfl
theorem rUtf (s : List UInt8) (hs : s.length < 9000000000000) : R02_Is s = some (utfF s.length s) := by
  have := rIsU s hs s.length 0 (by omega) (by omega)
  rw [R02_Is, show (0 : Int) = ((0 : Nat) : Int) from rfl, this, List.drop_zero]
  cases utfF s.length s <;> rfl
end Go.Proofs.YtebkhehjfkmdiaaDoor
end

section
set_option linter.unusedVariables false
set_option linter.unusedSimpArgs false
namespace Go.Proofs.YtebkhehjfkmdiaaDoor
open Go.RowKit

noncomputable def t_R02_Front (y : (List UInt8)) : D := .p (sV y)
noncomputable def R02_Front_lv : List (Nat × List Nat) := [(0, [0, 1]), (1, [0, 1, 5]), (2, [0, 1, 5, 11]), (3, [0, 1, 5, 7]), (4, [0, 1, 5, 7, 22]), (5, [4]), (6, [0, 1, 5]), (7, [4]), (1000002, [0, 1, 5])]
noncomputable def R02_Front_L1_st (p0 : (List UInt8)) (p1 : Int) (v5 : Int) : St := ⟨[(0, .p (sV p0)), (1, .p (iV p1)), (5, .p (iV v5))], ⟨[], []⟩⟩
noncomputable def R02_Front_L1_x0 (p0 : (List UInt8)) (p1 : Int) (y2 : Unit) : St := ⟨[(0, .p (sV p0))], ⟨[], []⟩⟩
noncomputable def R02_Front_L1_x1 (p0 : (List UInt8)) (p1 : Int) (y3 : (List UInt8)) : St := ⟨[(4, .p (sV y3))], ⟨[], []⟩⟩
noncomputable def R02_Front_L1_c : Code := ((loopsOf (Tryd.f38.body.getD .skip)).getD 0 .skip)
noncomputable def t_R35_Mark (y : (List UInt8)) : D := .p (sV y)
noncomputable def R35_Mark_lv : List (Nat × List Nat) := [(0, []), (1, [0])]
noncomputable def t_R35_Middle (y : (List UInt8) × Bool) : D := .tup [.p (sV y.1), .p (bV y.2)]
noncomputable def R35_Middle_lv : List (Nat × List Nat) := [(0, [0, 1]), (1, [0, 1, 15]), (2, [4, 5]), (3, [0, 1, 18]), (4, [4, 5]), (5, [0, 1, 6]), (6, [0, 6, 7]), (7, [0, 6, 7, 8]), (8, [0, 6, 7, 8, 9]), (9, [0, 6, 7, 8, 9, 31]), (10, [0, 6, 7, 8, 9, 37]), (11, [0, 6, 8]), (12, [0, 6, 7, 8, 9, 11]), (13, [0, 6, 7, 8, 9]), (14, [4, 5]), (1000009, [0, 6, 7, 8, 9])]
noncomputable def R35_Middle_L1_st (p0 : (List UInt8)) (p1 : Int) (v9 : Int) : St := ⟨[(0, .p (sV p0)), (6, .p (iV (wr ((wr (p1 - 3)).tdiv 2)))), (7, .p (iV (wr ((wr (p1 - 3)) - (wr ((wr (p1 - 3)).tdiv 2)))))), (8, .p (iV (p0.length : Int))), (9, .p (iV v9))], ⟨[], []⟩⟩
noncomputable def R35_Middle_L1_x0 (p0 : (List UInt8)) (p1 : Int) (o1 : Int) : St := ⟨[(0, .p (sV p0)), (6, .p (iV (wr ((wr (p1 - 3)).tdiv 2)))), (8, .p (iV o1))], ⟨[], []⟩⟩
noncomputable def R35_Middle_L1_c : Code := ((loopsOf (Tryd.f20.body.getD .skip)).getD 0 .skip)
noncomputable def t_nunciolaw35_TruncMiddles (y : Bool) : D := .p (bV y)
noncomputable def nunciolaw35_TruncMiddles_lv : List (Nat × List Nat) := [(0, [0, 1]), (1, [0, 1]), (2, [0, 1, 5, 6]), (3, [0, 1, 5, 6, 7, 8]), (4, [4]), (3000004, [])]
noncomputable def nunciolaw35_TruncMiddles_J0_0  (o4 : Bool) : St := ⟨[(4, .p (bV o4))], ⟨[], []⟩⟩
noncomputable def t_nunciolaw35_awake (y : Bool) : D := .p (bV y)
noncomputable def nunciolaw35_awake_lv : List (Nat × List Nat) := [(0, []), (1, [1, 2]), (2, [1, 2, 3, 4]), (3, [1, 2, 3, 4, 5, 6]), (4, [0]), (3000004, [])]
noncomputable def nunciolaw35_awake_J0_0  (o4 : Bool) : St := ⟨[(0, .p (bV o4))], ⟨[], []⟩⟩
noncomputable def t_nunciolaw35_few (y : (List UInt8)) : D := .p (sV y)
noncomputable def nunciolaw35_few_lv : List (Nat × List Nat) := [(0, [0]), (1, [2])]
noncomputable def t_nunciolaw35_numbers (y : Bool) : D := .p (bV y)
noncomputable def nunciolaw35_numbers_lv : List (Nat × List Nat) := [(0, [0, 1]), (1, [0, 1, 10]), (2, [4]), (3, [0, 1, 5]), (4, [0, 1, 5, 14]), (5, [0, 1, 5]), (6, [0, 1, 5, 25]), (7, [4]), (8, [4]), (1000004, [0, 1, 5])]
noncomputable def nunciolaw35_numbers_L1_st (p0 : (List Int)) (p1 : (List Int)) (v5 : Int) : St := ⟨[(0, .p (.sl false (p0.map cInt))), (1, .p (.sl false (p1.map cInt))), (5, .p (iV v5))], ⟨[], []⟩⟩
noncomputable def nunciolaw35_numbers_L1_x0 (p0 : (List Int)) (p1 : (List Int)) (y2 : Unit) : St := ⟨[], ⟨[], []⟩⟩
noncomputable def nunciolaw35_numbers_L1_x1 (p0 : (List Int)) (p1 : (List Int)) (y3 : Unit) : St := ⟨[(4, .p (bV false))], ⟨[], []⟩⟩
noncomputable def nunciolaw35_numbers_L1_c : Code := ((loopsOf (Tryd.f22.body.getD .skip)).getD 0 .skip)
noncomputable def t_sort_Search_trunc_Fair_3 (y : Int) : D := .p (iV y)
noncomputable def sort_Search_trunc_Fair_3_lv : List (Nat × List Nat) := [(0, [0, 1]), (1, [1, 5, 6]), (2, [1, 5, 6, 11]), (3, [1, 5, 6, 7]), (4, [1, 5, 6, 7, 21]), (5, [1, 5, 6]), (6, [1, 5, 6]), (7, [4]), (1000002, [1, 5, 6])]
noncomputable def sort_Search_trunc_Fair_3_L1_st (h1_0 : Int) (h3_0 : (List Int)) (v5 : Int) (v6 : Int) : St := ⟨[(1, .fn (.func 47) [] [.ptr 0 0]), (5, .p (iV v5)), (6, .p (iV v6))], ⟨[[.fn (.func 45) [] [.ptr 1 0, .ptr 2 0]], [.p (iV h1_0)], [.fn (.func 44) [] [.ptr 3 0]], [.p (.sl false (h3_0.map cInt))]], []⟩⟩
noncomputable def sort_Search_trunc_Fair_3_L1_x0 (h1_0 : Int) (h3_0 : (List Int)) (o1 : Int) : St := ⟨[(5, .p (iV o1))], ⟨[[.fn (.func 45) [] [.ptr 1 0, .ptr 2 0]], [.p (iV h1_0)], [.fn (.func 44) [] [.ptr 3 0]], [.p (.sl false (h3_0.map cInt))]], []⟩⟩
noncomputable def sort_Search_trunc_Fair_3_L1_c : Code := ((loopsOf (Tryd.f46.body.getD .skip)).getD 0 .skip)
noncomputable def t_strings_Join (y : (List UInt8)) : D := .p (sV y)
noncomputable def t_strings_SplitAfter (y : (List (List UInt8))) : D := .p (.sl false (y.map cStr))
noncomputable def strings_SplitAfter_lv : List (Nat × List Nat) := [(0, [0, 1]), (1, [4])]
noncomputable def t_strings_genSplit (y : (List (List UInt8))) : D := .p (.sl false (y.map cStr))
noncomputable def t_trunc_Cut (y : (List UInt8) × Bool) : D := .tup [.p (sV y.1), .p (bV y.2)]
noncomputable def trunc_Cut_lv : List (Nat × List Nat) := [(0, [0, 1]), (1, [0, 1, 6, 7, 8]), (2, [0, 1, 6, 7, 16]), (3, [4, 5]), (4, [4, 5])]
noncomputable def t_trunc_Fair (y : (List Int)) : D := .p (.sl false (y.map cInt))
noncomputable def trunc_Fair_lv : List (Nat × List Nat) := [(0, [2, 3]), (1, [2, 3]), (2, [2, 3, 5]), (3, [2, 3, 5, 6]), (4, [2, 3, 5, 6, 7]), (5, [2, 3, 5, 6, 7, 19, 20, 21]), (6, [2, 3, 5, 6, 7, 19, 20, 21, 22]), (7, [2, 3, 5, 6, 7, 9, 19, 20, 21]), (8, [2, 3, 5, 6, 7, 19, 20, 21]), (9, [2, 3, 5, 6, 7, 19, 20, 21]), (10, [2, 5, 6, 10]), (11, [2, 11, 12]), (12, [11, 12, 40, 41, 42]), (13, [11, 12, 40, 41, 42, 43]), (14, [11, 12, 13, 14, 40, 41, 42]), (15, [11, 12, 13, 40, 41, 42, 56]), (16, [11, 12, 40, 41, 42]), (17, [11, 12, 40, 41, 42]), (18, [11, 12, 40, 41, 42]), (19, [4]), (1000006, [2, 3, 5, 6, 7, 19, 20, 21]), (1000013, [11, 12, 40, 41, 42]), (3000015, []), (5000011, [1002]), (9000015, [6, 0, 0, 0, 7, 0, 0, 0]), (9000016, [2, 0, 0, 0, 3, 0, 0, 0, 5, 0, 0, 0, 6, 1, 11, 0]), (9500019, [])]
noncomputable def trunc_Fair_L1_st (p0 : (List Int)) (p1 : Int) (v7 : Int) (v21 : Int) : St := ⟨[(2, .ptr 0 0), (3, .ptr 1 0), (5, .ptr 2 0), (6, .ptr 3 0), (7, .p (iV v7)), (19, .p (.sl false (p0.map cInt))), (20, .p (iV (p0.length : Int))), (21, .p (iV v21))], ⟨[[.p (.sl false (p0.map cInt))], [.p (iV (if 0 > p1 then 0 else p1))], [.fn (.func 44) [] [.ptr 0 0]], [.fn (.func 45) [] [.ptr 1 0, .ptr 2 0]]], []⟩⟩
noncomputable def trunc_Fair_L1_x0 (p0 : (List Int)) (p1 : Int) (o1 : Int) : St := ⟨[(2, .ptr 0 0), (5, .ptr 2 0), (6, .ptr 3 0), (7, .p (iV o1))], ⟨[[.p (.sl false (p0.map cInt))], [.p (iV (if 0 > p1 then 0 else p1))], [.fn (.func 44) [] [.ptr 0 0]], [.fn (.func 45) [] [.ptr 1 0, .ptr 2 0]]], []⟩⟩
noncomputable def trunc_Fair_L1_c : Code := ((loopsOf (Tryd.f21.body.getD .skip)).getD 0 .skip)
noncomputable def trunc_Fair_J0_0 (p0 : (List Int)) (p1 : Int) (v11 : (List Int)) (v12 : Int) (v42 : Int) (o8 : Bool) : St := ⟨[(11, .x 0 1 (.sl 3 1 (v11.map cInt))), (12, .p (iV v12)), (13, .p (iV v42)), (40, .p (.sl false (p0.map cInt))), (41, .p (iV (p0.length : Int))), (42, .p (iV v42)), (56, .p (bV o8))], ⟨[[.p (.sl false (p0.map cInt))], [.p (iV (if 0 > p1 then 0 else p1))], [.fn (.func 44) [] [.ptr 0 0]], [.fn (.func 45) [] [.ptr 1 0, .ptr 2 0]]], [1]⟩⟩
noncomputable def trunc_Fair_L2_st (p0 : (List Int)) (p1 : Int) (v11 : (List Int)) (v12 : Int) (v42 : Int) : St := ⟨[(11, .x 0 1 (.sl 3 1 (v11.map cInt))), (12, .p (iV v12)), (40, .p (.sl false (p0.map cInt))), (41, .p (iV (p0.length : Int))), (42, .p (iV v42))], ⟨[[.p (.sl false (p0.map cInt))], [.p (iV (if 0 > p1 then 0 else p1))], [.fn (.func 44) [] [.ptr 0 0]], [.fn (.func 45) [] [.ptr 1 0, .ptr 2 0]]], [1]⟩⟩
noncomputable def trunc_Fair_L2_x0 (p0 : (List Int)) (p1 : Int) (o6 : (List Int)) : St := ⟨[(11, .x 0 1 (.sl 3 1 (o6.map cInt)))], ⟨[[.p (.sl false (p0.map cInt))], [.p (iV (if 0 > p1 then 0 else p1))], [.fn (.func 44) [] [.ptr 0 0]], [.fn (.func 45) [] [.ptr 1 0, .ptr 2 0]]], [1]⟩⟩
noncomputable def trunc_Fair_L2_c : Code := ((loopsOf (Tryd.f21.body.getD .skip)).getD 1 .skip)
noncomputable def t_trunc_Fair_1 (y : (List Int)) : D := .x 0 1 (.sl 3 1 (y.map cInt))
noncomputable def trunc_Fair_1_lv : List (Nat × List Nat) := [(0, [0, 1]), (1, [0, 1, 4]), (2, [0, 4, 10, 11, 12]), (3, [0, 4, 10, 11, 12, 13]), (4, [0, 4, 5, 6, 10, 11, 12]), (5, [0, 4, 10, 11, 12]), (6, [0, 4, 10, 11, 12]), (7, [3]), (1000003, [0, 4, 10, 11, 12]), (9000001, [2, 0, 0, 0]), (9000005, [6, 0, 0, 0, 7, 1, 4, 0])]
noncomputable def trunc_Fair_1_L1_st (p0 : Int) (h0_0 : (List Int)) (v4 : (List Int)) (v12 : Int) : St := ⟨[(0, .p (iV p0)), (4, .x 0 1 (.sl 3 1 (v4.map cInt))), (10, .p (.sl false (h0_0.map cInt))), (11, .p (iV (h0_0.length : Int))), (12, .p (iV v12))], ⟨[[.p (.sl false (h0_0.map cInt))]], [1]⟩⟩
noncomputable def trunc_Fair_1_L1_x0 (p0 : Int) (h0_0 : (List Int)) (o2 : (List Int)) : St := ⟨[(4, .x 0 1 (.sl 3 1 (o2.map cInt)))], ⟨[[.p (.sl false (h0_0.map cInt))]], [1]⟩⟩
noncomputable def trunc_Fair_1_L1_c : Code := ((loopsOf (Tryd.f44.body.getD .skip)).getD 0 .skip)
noncomputable def t_trunc_Fair_2 (y : Int) : D := .p (iV y)
noncomputable def trunc_Fair_2_lv : List (Nat × List Nat) := [(0, [0, 1, 2]), (1, [0, 2, 5]), (2, [5, 11, 12, 13]), (3, [5, 11, 12, 13, 14]), (4, [5, 7, 11, 12, 13]), (5, [5, 11, 12, 13]), (6, [5, 11, 12, 13, 21]), (7, [4]), (8, [5, 11, 12, 13]), (9, [4]), (1000003, [5, 11, 12, 13]), (9000002, [3, 0, 0, 0]), (9000004, [0, 0, 0, 0, 1, 0, 0, 0])]
noncomputable def trunc_Fair_2_L1_st (h0_0 : Int) (h2_0 : (List Int)) (x1 : (List Int)) (v5 : Int) (v13 : Int) : St := ⟨[(5, .p (iV v5)), (11, .x 0 1 (.sl 3 1 (x1.map cInt))), (12, .p (iV (x1.length : Int))), (13, .p (iV v13))], ⟨[[.p (iV h0_0)], [.fn (.func 44) [] [.ptr 2 0]], [.p (.sl false (h2_0.map cInt))]], [1]⟩⟩
noncomputable def trunc_Fair_2_L1_x0 (h0_0 : Int) (h2_0 : (List Int)) (x1 : (List Int)) (y3 : Int) : St := ⟨[(5, .p (iV y3))], ⟨[[.p (iV h0_0)], [.fn (.func 44) [] [.ptr 2 0]], [.p (.sl false (h2_0.map cInt))]], [1]⟩⟩
noncomputable def trunc_Fair_2_L1_x1 (h0_0 : Int) (h2_0 : (List Int)) (x1 : (List Int)) (y4 : Unit) : St := ⟨[(4, .p (iV (-1)))], ⟨[[.p (iV h0_0)], [.fn (.func 44) [] [.ptr 2 0]], [.p (.sl false (h2_0.map cInt))]], [1]⟩⟩
noncomputable def trunc_Fair_2_L1_c : Code := ((loopsOf (Tryd.f45.body.getD .skip)).getD 0 .skip)
noncomputable def t_trunc_Fair_3 (y : Bool) : D := .p (bV y)
noncomputable def trunc_Fair_3_lv : List (Nat × List Nat) := [(0, [0, 1]), (1, [3])]
noncomputable def t_trunc_Lines (y : (List UInt8) × Bool) : D := .tup [.p (sV y.1), .p (bV y.2)]
noncomputable def trunc_Lines_lv : List (Nat × List Nat) := [(0, [0, 1]), (1, [0, 1, 6]), (2, [0, 1, 6, 9]), (3, [4, 5]), (4, [1, 6, 15]), (5, [4, 5]), (6, [4, 5])]
noncomputable def t_trunc_Middle (y : (List UInt8) × Bool) : D := .tup [.p (sV y.1), .p (bV y.2)]
noncomputable def trunc_Middle_lv : List (Nat × List Nat) := [(0, [0, 1]), (1, [0, 1, 6, 7, 8]), (2, [0, 1, 6, 7, 20]), (3, [4, 5]), (4, [0, 1]), (5, [0, 1, 9]), (6, [0, 1, 9, 10]), (7, [0, 1, 9, 10, 34]), (8, [0, 1, 9, 10, 12]), (9, [0, 1, 9, 10]), (10, [4, 5]), (1000007, [0, 1, 9, 10])]
noncomputable def trunc_Middle_L1_st (p0 : (List UInt8)) (p1 : Int) (v10 : Int) : St := ⟨[(0, .p (sV p0)), (1, .p (iV (wr (p1 - 3)))), (9, .p (iV (wr ((wr (p1 - 3)).tdiv 2)))), (10, .p (iV v10))], ⟨[], []⟩⟩
noncomputable def trunc_Middle_L1_x0 (p0 : (List UInt8)) (p1 : Int) (o2 : Int) : St := ⟨[(0, .p (sV p0)), (9, .p (iV (wr ((wr (p1 - 3)).tdiv 2)))), (10, .p (iV o2))], ⟨[], []⟩⟩
noncomputable def trunc_Middle_L1_c : Code := ((loopsOf (Tryd.f19.body.getD .skip)).getD 0 .skip)
noncomputable def t_trunc_short (y : (List UInt8) × Bool × Bool) : D := .tup [.p (sV y.1), .p (bV y.2.1), .p (bV y.2.2)]
noncomputable def trunc_short_lv : List (Nat × List Nat) := [(0, [0, 1]), (1, [0, 1, 7]), (2, [4, 5, 6]), (3, [13]), (4, [4, 5, 6]), (5, [4, 5, 6])]
noncomputable def t_utf_Front (y : (List UInt8)) : D := .p (sV y)
noncomputable def utf_Front_lv : List (Nat × List Nat) := [(0, [0, 3, 7]), (1, [0, 3, 5, 7]), (2, [0, 3, 5, 7, 9]), (3, [0, 3, 5, 7, 9]), (4, [0, 3, 5, 7, 9, 16]), (5, [0, 3, 5, 7, 9]), (6, [4]), (4000003, [0, 3, 5, 7, 9]), (2002013, [])]
noncomputable def utf_Front_J0_0 (p0 : (List UInt8)) (p1 : Int) (o1 : Int) : St := ⟨[(0, .p (sV p0)), (5, .ptr 1 0)], ⟨[[.p (iV p1)], [.p (iV o1)]], []⟩⟩
noncomputable def utf_Front_L1_st (p0 : (List UInt8)) (p1 : Int) (x2 : (List UInt8)) (h1_0 : Int) : St := ⟨[(0, .p (sV p0)), (3, .ptr 0 0), (5, .ptr 1 0), (9, .fn (.func 86) [] [.p (.ep [sV x2])])], ⟨[[.p (iV p1)], [.p (iV h1_0)]], []⟩⟩
noncomputable def utf_Front_L1_x0 (p0 : (List UInt8)) (p1 : Int) (x2 : (List UInt8)) (y8 : Int) : St := ⟨[(0, .p (sV p0)), (3, .ptr 0 0), (5, .ptr 1 0), (9, .fn (.func 86) [] [.p (.ep [sV x2])])], ⟨[[.p (iV p1)], [.p (iV y8)]], []⟩⟩
noncomputable def utf_Front_L1_x1 (p0 : (List UInt8)) (p1 : Int) (x2 : (List UInt8)) (y9 : Int) : St := ⟨[(0, .p (sV p0)), (5, .ptr 1 0)], ⟨[[.p (iV p1)], [.p (iV y9)]], []⟩⟩
noncomputable def utf_Front_L1_c : Code := ((loopsOf (Tryd.f37.body.getD .skip)).getD 0 .skip)
noncomputable def R02_Front_L1 (p0 : (List UInt8)) (p1 : Int) (v5 : Int) : Option (Unit ⊕ (List UInt8)) :=
  if (decide (v5 < (p0.length : Int))) then
    R02_Next p0 v5 >>= fun x4 =>
    if (decide (x4.2 > (wr (p1 - v5)))) then
      cutL p0 0 v5 >>= fun x5 =>
      some (.inr x5)
    else
      R02_Front_L1 p0 p1 (wr (v5 + x4.2))
  else
    some (.inl ())
  partial_fixpoint
set_option maxRecDepth 100000 in
set_option maxHeartbeats 4000000 in
theorem R02_Front_L1_grp : ∀ (p0 : (List UInt8)) (p1 : Int), (∀ (v5 : Int) (o1 : Unit ⊕ (List UInt8)), R02_Front_L1 p0 p1 v5 = some o1 → TL (0, 0) Tryd.prog 30 R02_Front_L1_c (JP2 (0, 0) 30 o1 (.exit 0) (R02_Front_L1_x0 p0 p1) .ret (R02_Front_L1_x1 p0 p1)) (R02_Front_L1_st p0 p1 v5)) := by
  intro p0 p1
  refine R02_Front_L1.partial_correctness p0 p1 _ ?_
  intro R02_Front_L1' ih_R02_Front_L1 v5 o1 h
  refine TL.round (bwp_sound mixed tbOk (lv := R02_Front_lv) _ _ _ ?_)
  refine vrfl ?_
  refine st_test h (fun hb h => ?_) (fun hb h => ?_)
  · refine st_call [sV p0, iV v5] t_R02_Next h (fun x4 hy => (R02_Next_ok p0 v5 x4 hy)) (fun x4 hy h => ?_)
    refine st_test h (fun hb h => ?_) (fun hb h => ?_)
    · refine st_cuts none (some v5) h (fun x5 hi h => ?_)
      exact JP2.b h (Le.tow 0 0 rfl (.cons rfl (.refl _) (.nil)) (.refl _) rfl)
    · refine TL.le (τ := R02_Front_L1_st p0 p1 (wr (v5 + x4.2))) ?_ ((ih_R02_Front_L1 (wr (v5 + x4.2)) _ h))
      exact Le.tow 0 0 rfl (.cons rfl (.refl _) (.cons rfl (.refl _) (.cons rfl (.refl _) (.nil)))) (.refl _) rfl
  · exact JP2.a h (Le.tow 0 0 rfl (.cons rfl (.refl _) (.nil)) (.refl _) rfl)
theorem R02_Front_L1_ok : ∀ (p0 : (List UInt8)) (p1 : Int) (v5 : Int) (o1 : Unit ⊕ (List UInt8)), R02_Front_L1 p0 p1 v5 = some o1 → TL (0, 0) Tryd.prog 30 R02_Front_L1_c (JP2 (0, 0) 30 o1 (.exit 0) (R02_Front_L1_x0 p0 p1) .ret (R02_Front_L1_x1 p0 p1)) (R02_Front_L1_st p0 p1 v5) := fun p0 p1 v5 o1 h => (R02_Front_L1_grp p0 p1) v5 o1 h
noncomputable def R02_Front (p0 : (List UInt8)) (p1 : Int) : Option ((List UInt8)) :=
  (R02_Front_L1 p0 p1 0) >>= fun o1 =>
  match o1 with
  | .inl y2 =>
    some p0
  | .inr y3 =>
    some y3
set_option maxRecDepth 100000 in
set_option maxHeartbeats 4000000 in
theorem R02_Front_ok : ∀ (p0 : (List UInt8)) (p1 : Int) (o : (List UInt8)), R02_Front p0 p1 = some o → PCall Tryd.prog 38 [sV p0, iV p1] (t_R02_Front o) := by
  intro p0 p1 o h
  unfold R02_Front at h
  refine PCall.ofB mixed tbOk R02_Front_lv Tryd.func38 rfl (by kernel_rfl) (Nat.le_of_ble_eq_true rfl) ?_
  refine st_bind h (fun o1 ho hk => ?_)
  refine Exists.intro (JP2 _ _ o1 (.exit 0) (R02_Front_L1_x0 p0 p1) .ret (R02_Front_L1_x1 p0 p1)) (And.intro (T_le (τ := R02_Front_L1_st p0 p1 0) ?_ (TL.loop (R02_Front_L1_ok p0 p1 0 o1 ho))) (join2 (fun y2 hy => ?_) (fun y3 hy => ?_)))
  · exact Le.tow 0 0 rfl (.cons rfl (.refl _) (.cons rfl (.refl _) (.cons rfl (.refl _) (.nil)))) (.refl _) rfl
  · have h := (by rw [hy] at hk; exact hk)
    refine st_ret (t := t_R02_Front) h ?_
    exact .refl _
  · have h := (by rw [hy] at hk; exact hk)
    refine st_ret (t := t_R02_Front) h ?_
    exact .refl _
noncomputable def R35_Asked (p0 : Int) : Option (Int) :=
  some (if 0 > p0 then 0 else p0)
noncomputable def R35_Mark : Option ((List UInt8)) :=
  R02_Bytes 8230 >>= fun x1 =>
  some x1
set_option maxRecDepth 100000 in
set_option maxHeartbeats 4000000 in
theorem R35_Mark_ok : ∀ (o : (List UInt8)), R35_Mark  = some o → PCall Tryd.prog 39 [] (t_R35_Mark o) := by
  intro o h
  unfold R35_Mark at h
  refine PCall.ofB mixed tbOk R35_Mark_lv Tryd.func39 rfl (by kernel_rfl) (Nat.le_of_ble_eq_true rfl) ?_
  refine st_call [iV 8230] t_R02_Bytes h (fun x1 hy => (R02_Bytes_ok 8230 x1 hy)) (fun x1 hy h => ?_)
  refine st_ret (t := t_R35_Mark) h ?_
  exact .refl _
noncomputable def R35_Fair_L1 (p0 : (List Int)) (p1 : Int) (x1 : (List Int)) (v6 : Int) (v7 : Int) : Option (Int) :=
  if (decide (v7 < (p0.length : Int))) then
    idx p0 v7 >>= fun x3 =>
    R35_Asked x3 >>= fun x4 =>
    R35_Fair_L1 p0 p1 x1 (if x4 > v6 then x4 else v6) (wr (v7 + 1))
  else
    some v6
  partial_fixpoint
noncomputable def R35_fits_L1 (p0 : (List Int)) (p1 : Int) (p2 : Int) (v7 : Int) (v8 : Int) : Option (Unit ⊕ Unit) :=
  if (decide (v8 < (p0.length : Int))) then
    idx p0 v8 >>= fun x4 =>
    R35_Asked x4 >>= fun x5 =>
    if (decide ((if p1 < x5 then p1 else x5) > (wr (p2 - v7)))) then
      some (.inr ())
    else
      R35_fits_L1 p0 p1 p2 (wr (v7 + (if p1 < x5 then p1 else x5))) (wr (v8 + 1))
  else
    some (.inl ())
  partial_fixpoint
noncomputable def R35_fits (p0 : (List Int)) (p1 : Int) (p2 : Int) : Option (Bool) :=
  (R35_fits_L1 p0 p1 p2 0 0) >>= fun o1 =>
  match o1 with
  | .inl y2 =>
    some true
  | .inr y3 =>
    some false
noncomputable def R35_Fair_L2 (p0 : (List Int)) (p1 : Int) (x1 : (List Int)) (v8 : Int) (v9 : Int) : Option (Int) :=
  if (decide (v8 < v9)) then
    R35_fits p0 (wr (v9 - (wr ((wr (v9 - v8)).tdiv 2)))) (if 0 > p1 then 0 else p1) >>= fun x6 =>
    if x6 then
      R35_Fair_L2 p0 p1 x1 (wr (v9 - (wr ((wr (v9 - v8)).tdiv 2)))) v9
    else
      R35_Fair_L2 p0 p1 x1 v8 (wr ((wr (v9 - (wr ((wr (v9 - v8)).tdiv 2)))) - 1))
  else
    some v8
  partial_fixpoint
noncomputable def R35_Fair_L3 (p0 : (List Int)) (o5 : Int) (v5 : (List Int)) (v11 : Int) (v12 : Int) : Option (((List Int) × Int)) :=
  if (decide (v12 < (p0.length : Int))) then
    idx p0 v12 >>= fun x8 =>
    R35_Asked x8 >>= fun x9 =>
    idx v5 v12 >>= fun x10 =>
    idx (v5.set v12.toNat (if o5 < x9 then o5 else x9)) v12 >>= fun x11 =>
    R35_Fair_L3 p0 o5 (v5.set v12.toNat (if o5 < x9 then o5 else x9)) (wr (v11 - x11)) (wr (v12 + 1))
  else
    some (v5, v11)
  partial_fixpoint
noncomputable def R35_Fair_L4 (p0 : (List Int)) (v5 : (List Int)) (v11 : Int) (v13 : Int) : Option ((List Int)) :=
  ( if (decide (v13 < (p0.length : Int))) then
      some (decide (v11 > 0))
    else
      some false : Option (Bool)) >>= fun o13 =>
  if o13 then
    idx p0 v13 >>= fun x14 =>
    R35_Asked x14 >>= fun x15 =>
    idx v5 v13 >>= fun x16 =>
    if (decide (x15 > x16)) then
      idx v5 v13 >>= fun x17 =>
      idx v5 v13 >>= fun x18 =>
      R35_Fair_L4 p0 (v5.set v13.toNat (wr (x17 + 1))) (wr (v11 - 1)) (wr (v13 + 1))
    else
      R35_Fair_L4 p0 v5 v11 (wr (v13 + 1))
  else
    some v5
  partial_fixpoint
noncomputable def R35_Fair (p0 : (List Int)) (p1 : Int) : Option ((List Int)) :=
  mkL 8 (p0.length : Int) 0 >>= fun x1 =>
  (R35_Fair_L1 p0 p1 x1 0 0) >>= fun o2 =>
  (R35_Fair_L2 p0 p1 x1 0 (if (if 0 > p1 then 0 else p1) < o2 then (if 0 > p1 then 0 else p1) else o2)) >>= fun o5 =>
  (R35_Fair_L3 p0 o5 x1 (if 0 > p1 then 0 else p1) 0) >>= fun o7 =>
  (R35_Fair_L4 p0 o7.1 o7.2 0) >>= fun o12 =>
  some o12
noncomputable def R35_Middle_L1 (p0 : (List UInt8)) (p1 : Int) (v9 : Int) : Option (Int) :=
  if (decide (v9 < (p0.length : Int))) then
    if (decide ((wr ((p0.length : Int) - v9)) ≤ (wr ((wr (p1 - 3)) - (wr ((wr (p1 - 3)).tdiv 2)))))) then
      some v9
    else
      R02_Next p0 v9 >>= fun x2 =>
      R35_Middle_L1 p0 p1 (wr (v9 + x2.2))
  else
    some (p0.length : Int)
  partial_fixpoint
set_option maxRecDepth 100000 in
set_option maxHeartbeats 4000000 in
theorem R35_Middle_L1_grp : ∀ (p0 : (List UInt8)) (p1 : Int), (∀ (v9 : Int) (o1 : Int), R35_Middle_L1 p0 p1 v9 = some o1 → TL (0, 0) Tryd.prog 57 R35_Middle_L1_c (JP1 (0, 0) 57 o1 (.exit 0) (R35_Middle_L1_x0 p0 p1)) (R35_Middle_L1_st p0 p1 v9)) := by
  intro p0 p1
  refine R35_Middle_L1.partial_correctness p0 p1 _ ?_
  intro R35_Middle_L1' ih_R35_Middle_L1 v9 o1 h
  refine TL.round (bwp_sound mixed tbOk (lv := R35_Middle_lv) _ _ _ ?_)
  refine vrfl ?_
  refine st_test h (fun hb h => ?_) (fun hb h => ?_)
  · refine vrfl ?_
    refine st_test h (fun hb h => ?_) (fun hb h => ?_)
    · exact JP1.a h (Le.tow 0 0 rfl (.cons rfl (.refl _) (.cons rfl (.refl _) (.cons rfl (.refl _) (.nil)))) (.refl _) rfl)
    · refine st_call [sV p0, iV v9] t_R02_Next h (fun x2 hy => (R02_Next_ok p0 v9 x2 hy)) (fun x2 hy h => ?_)
      refine TL.le (τ := R35_Middle_L1_st p0 p1 (wr (v9 + x2.2))) ?_ ((ih_R35_Middle_L1 (wr (v9 + x2.2)) _ h))
      exact Le.tow 0 0 rfl (.cons rfl (.refl _) (.cons rfl (.refl _) (.cons rfl (.refl _) (.cons rfl (.refl _) (.cons rfl (.refl _) (.nil)))))) (.refl _) rfl
  · exact JP1.a h (Le.tow 0 0 rfl (.cons rfl (.refl _) (.cons rfl (.refl _) (.cons rfl (.refl _) (.nil)))) (.refl _) rfl)
theorem R35_Middle_L1_ok : ∀ (p0 : (List UInt8)) (p1 : Int) (v9 : Int) (o1 : Int), R35_Middle_L1 p0 p1 v9 = some o1 → TL (0, 0) Tryd.prog 57 R35_Middle_L1_c (JP1 (0, 0) 57 o1 (.exit 0) (R35_Middle_L1_x0 p0 p1)) (R35_Middle_L1_st p0 p1 v9) := fun p0 p1 v9 o1 h => (R35_Middle_L1_grp p0 p1) v9 o1 h
noncomputable def R35_Middle (p0 : (List UInt8)) (p1 : Int) : Option ((List UInt8) × Bool) :=
  if (decide ((p0.length : Int) ≤ p1)) then
    some (p0, false)
  else
    if (decide (p1 < 3)) then
      some ([], true)
    else
      (R35_Middle_L1 p0 p1 0) >>= fun o1 =>
      R02_Front p0 (wr ((wr (p1 - 3)).tdiv 2)) >>= fun x3 =>
      R35_Mark >>= fun x4 =>
      need (x3.length + x4.length ≤ 9223372036854775807) >>= fun _ =>
      cutL p0 o1 (p0.length : Int) >>= fun x5 =>
      need ((x3 ++ x4).length + x5.length ≤ 9223372036854775807) >>= fun _ =>
      some (((x3 ++ x4) ++ x5), true)
set_option maxRecDepth 100000 in
set_option maxHeartbeats 4000000 in
theorem R35_Middle_ok : ∀ (p0 : (List UInt8)) (p1 : Int) (o : (List UInt8) × Bool), R35_Middle p0 p1 = some o → PCall Tryd.prog 20 [sV p0, iV p1] (t_R35_Middle o) := by
  intro p0 p1 o h
  unfold R35_Middle at h
  refine PCall.ofB mixed tbOk R35_Middle_lv Tryd.func20 rfl (by kernel_rfl) (Nat.le_of_ble_eq_true rfl) ?_
  refine vrfl ?_
  refine st_test h (fun hb h => ?_) (fun hb h => ?_)
  · refine st_ret (t := t_R35_Middle) h ?_
    exact .refl _
  · refine st_test h (fun hb h => ?_) (fun hb h => ?_)
    · refine st_ret (t := t_R35_Middle) h ?_
      exact .refl _
    · refine And.intro (by decide) ?_
      refine vrfl ?_
      refine st_bind h (fun o1 ho hk => ?_)
      refine Exists.intro (JP1 _ _ o1 (.exit 0) (R35_Middle_L1_x0 p0 p1)) (And.intro (T_le (τ := R35_Middle_L1_st p0 p1 0) ?_ (TL.loop (R35_Middle_L1_ok p0 p1 0 o1 ho))) (join1 ?_))
      · exact Le.tow 0 0 rfl (.cons rfl (.refl _) (.cons rfl (.refl _) (.cons rfl (.refl _) (.cons rfl (.refl _) (.cons rfl (.refl _) (.nil)))))) (.refl _) rfl
      have h := hk
      refine And.intro (by decide +kernel) (And.intro rfl ?_)
      refine st_calld [sV p0, iV (wr ((wr (p1 - 3)).tdiv 2))] t_R02_Front h (fun x3 hy => (R02_Front_ok p0 (wr ((wr (p1 - 3)).tdiv 2)) x3 hy)) (fun x3 hy h => ?_)
      refine st_calld [] t_R35_Mark h (fun x4 hy => (R35_Mark_ok x4 hy)) (fun x4 hy h => ?_)
      refine st_need h (fun h => ?_)
      refine st_cuts (some o1) none h (fun x5 hi h => ?_)
      refine st_need h (fun h => ?_)
      refine st_ret (t := t_R35_Middle) h ?_
      exact .refl _
noncomputable def nunciolaw35_numbers_L1 (p0 : (List Int)) (p1 : (List Int)) (v5 : Int) : Option (Unit ⊕ Unit) :=
  if (decide (v5 < (p0.length : Int))) then
    idx p0 v5 >>= fun x4 =>
    idx p1 v5 >>= fun x5 =>
    if (x4 != x5) then
      some (.inr ())
    else
      nunciolaw35_numbers_L1 p0 p1 (wr (v5 + 1))
  else
    some (.inl ())
  partial_fixpoint
set_option maxRecDepth 100000 in
set_option maxHeartbeats 4000000 in
theorem nunciolaw35_numbers_L1_grp : ∀ (p0 : (List Int)) (p1 : (List Int)), (∀ (v5 : Int) (o1 : Unit ⊕ Unit), nunciolaw35_numbers_L1 p0 p1 v5 = some o1 → TL (0, 0) Tryd.prog 26 nunciolaw35_numbers_L1_c (JP2 (0, 0) 26 o1 (.exit 0) (nunciolaw35_numbers_L1_x0 p0 p1) .ret (nunciolaw35_numbers_L1_x1 p0 p1)) (nunciolaw35_numbers_L1_st p0 p1 v5)) := by
  intro p0 p1
  refine nunciolaw35_numbers_L1.partial_correctness p0 p1 _ ?_
  intro nunciolaw35_numbers_L1' ih_nunciolaw35_numbers_L1 v5 o1 h
  refine TL.round (bwp_sound mixed tbOk (lv := nunciolaw35_numbers_lv) _ _ _ ?_)
  refine view (lenMap _ _) rfl ?_
  refine st_test h (fun hb h => ?_) (fun hb h => ?_)
  · refine And.intro (by decide +kernel) (And.intro rfl ?_)
    refine st_idx (l := p0) (c := cInt) (c' := cInt) h (fun _ => rfl) (fun _ => rfl) (by decide) (fun x4 hi h => ?_)
    refine st_idx (l := p1) (c := cInt) (c' := cInt) h (fun _ => rfl) (fun _ => rfl) (by decide) (fun x5 hi h => ?_)
    refine st_test h (fun hb h => ?_) (fun hb h => ?_)
    · exact JP2.b h (Le.tow 0 0 rfl (.cons rfl (.refl _) (.nil)) (.refl _) rfl)
    · refine TL.le (τ := nunciolaw35_numbers_L1_st p0 p1 (wr (v5 + 1))) ?_ ((ih_nunciolaw35_numbers_L1 (wr (v5 + 1)) _ h))
      exact Le.tow 0 0 rfl (.cons rfl (.refl _) (.cons rfl (.refl _) (.cons rfl (.refl _) (.nil)))) (.refl _) rfl
  · exact JP2.a h (Le.tow 0 0 rfl (.nil) (.refl _) rfl)
theorem nunciolaw35_numbers_L1_ok : ∀ (p0 : (List Int)) (p1 : (List Int)) (v5 : Int) (o1 : Unit ⊕ Unit), nunciolaw35_numbers_L1 p0 p1 v5 = some o1 → TL (0, 0) Tryd.prog 26 nunciolaw35_numbers_L1_c (JP2 (0, 0) 26 o1 (.exit 0) (nunciolaw35_numbers_L1_x0 p0 p1) .ret (nunciolaw35_numbers_L1_x1 p0 p1)) (nunciolaw35_numbers_L1_st p0 p1 v5) := fun p0 p1 v5 o1 h => (nunciolaw35_numbers_L1_grp p0 p1) v5 o1 h
noncomputable def nunciolaw35_numbers (p0 : (List Int)) (p1 : (List Int)) : Option (Bool) :=
  if ((p0.length : Int) != (p1.length : Int)) then
    some false
  else
    (nunciolaw35_numbers_L1 p0 p1 0) >>= fun o1 =>
    match o1 with
    | .inl y2 =>
      some true
    | .inr y3 =>
      some false
set_option maxRecDepth 100000 in
set_option maxHeartbeats 4000000 in
theorem nunciolaw35_numbers_ok : ∀ (p0 : (List Int)) (p1 : (List Int)) (o : Bool), nunciolaw35_numbers p0 p1 = some o → PCall Tryd.prog 22 [.sl false (p0.map cInt), .sl false (p1.map cInt)] (t_nunciolaw35_numbers o) := by
  intro p0 p1 o h
  unfold nunciolaw35_numbers at h
  refine PCall.ofB mixed tbOk nunciolaw35_numbers_lv Tryd.func22 rfl (by kernel_rfl) (Nat.le_of_ble_eq_true rfl) ?_
  refine view (lenMap _ _) rfl ?_
  refine view (lenMap _ _) rfl ?_
  refine st_test h (fun hb h => ?_) (fun hb h => ?_)
  · refine st_ret (t := t_nunciolaw35_numbers) h ?_
    exact .refl _
  · refine st_bind h (fun o1 ho hk => ?_)
    refine Exists.intro (JP2 _ _ o1 (.exit 0) (nunciolaw35_numbers_L1_x0 p0 p1) .ret (nunciolaw35_numbers_L1_x1 p0 p1)) (And.intro (T_le (τ := nunciolaw35_numbers_L1_st p0 p1 0) ?_ (TL.loop (nunciolaw35_numbers_L1_ok p0 p1 0 o1 ho))) (join2 (fun y2 hy => ?_) (fun y3 hy => ?_)))
    · exact Le.tow 0 0 rfl (.cons rfl (.refl _) (.cons rfl (.refl _) (.cons rfl (.refl _) (.nil)))) (.refl _) rfl
    · have h := (by rw [hy] at hk; exact hk)
      refine st_ret (t := t_nunciolaw35_numbers) h ?_
      exact .refl _
    · have h := (by rw [hy] at hk; exact hk)
      refine st_ret (t := t_nunciolaw35_numbers) h ?_
      exact .refl _
noncomputable def trunc_short (p0 : (List UInt8)) (p1 : Int) : Option ((List UInt8) × Bool × Bool) :=
  if (decide ((p0.length : Int) ≤ p1)) then
    some (p0, false, true)
  else
    if (decide (p1 < 3)) then
      some ([], true, true)
    else
      some ([], false, false)
set_option maxRecDepth 100000 in
set_option maxHeartbeats 4000000 in
theorem trunc_short_ok : ∀ (p0 : (List UInt8)) (p1 : Int) (o : (List UInt8) × Bool × Bool), trunc_short p0 p1 = some o → PCall Tryd.prog 36 [sV p0, iV p1] (t_trunc_short o) := by
  intro p0 p1 o h
  unfold trunc_short at h
  refine PCall.ofB mixed tbOk trunc_short_lv Tryd.func36 rfl (by kernel_rfl) (Nat.le_of_ble_eq_true rfl) ?_
  refine vrfl ?_
  refine st_test h (fun hb h => ?_) (fun hb h => ?_)
  · refine st_ret (t := t_trunc_short) h ?_
    exact .refl _
  · refine st_test h (fun hb h => ?_) (fun hb h => ?_)
    · refine st_ret (t := t_trunc_short) h ?_
      exact .refl _
    · refine st_ret (t := t_trunc_short) h ?_
      exact .refl _
noncomputable def utf_Front_L1 (p0 : (List UInt8)) (p1 : Int) (x2 : (List UInt8)) (l5 : (List (Int × Int))) (h1_0 : Int) : Option (Int ⊕ Int) :=
  match l5 with
  | [] =>
    some (.inl h1_0)
  | x3 :: r4 =>
    if (decide (x3.2 > (wr (p1 - h1_0)))) then
      some (.inr h1_0)
    else
      utf_Front_L1 p0 p1 x2 r4 (wr (h1_0 + x3.2))
  partial_fixpoint
set_option maxRecDepth 100000 in
set_option maxHeartbeats 4000000 in
theorem utf_Front_L1_grp : ∀ (p0 : (List UInt8)) (p1 : Int) (x2 : (List UInt8)), (∀ (l5 : (List (Int × Int))) (h1_0 : Int) (o7 : Int ⊕ Int), utf_Front_L1 p0 p1 x2 l5 h1_0 = some o7 → RL 2 0 Tryd.prog 23 (rgP utf_Front_L1_c) (rgA utf_Front_L1_c) (rgB utf_Front_L1_c) (utf_Front_L1_st p0 p1 x2 h1_0).env (JP2 (0, 0) 23 o7 .normal (utf_Front_L1_x0 p0 p1 x2) (.exit 0) (utf_Front_L1_x1 p0 p1 x2)) (l5.map e_utf_all_1) (utf_Front_L1_st p0 p1 x2 h1_0).s) := by
  intro p0 p1 x2
  refine utf_Front_L1.partial_correctness p0 p1 x2 _ ?_
  intro utf_Front_L1' ih_utf_Front_L1 l5 h1_0 o7 h
  cases l5 with
  | nil =>
    refine rl_nil ?_
    exact JP2.a h (Le.tow 2 0 rfl (.cons rfl (.refl _) (.cons rfl (.refl _) (.cons rfl (.refl _) (.cons rfl (.refl _) (.nil))))) (.refl _) rfl)
  | cons x3 r4 =>
    refine rl_cons (bwp_sound mixed tbOk (lv := utf_Front_lv) _ _ _ ?_)
    refine And.intro rfl (bwp_sound mixed tbOk (lv := utf_Front_lv) _ _ _ ?_)
    refine st_test h (fun hb h => ?_) (fun hb h => ?_)
    · exact Exists.intro (⟨[[.p (iV p1)], [.p (iV h1_0)]], []⟩ : S) (And.intro (Le.tow 2 0 rfl .nil (.refl _) rfl) (And.intro rfl (And.intro rfl (JP2.b h (Le.tow 2 0 rfl (.cons rfl (.refl _) (.cons rfl (.refl _) (.nil))) (.refl _) rfl)))))
    · exact Exists.intro (utf_Front_L1_st p0 p1 x2 (wr (h1_0 + x3.2))).s (And.intro (Le.tow 2 0 rfl (.nil) (.refl _) rfl) (And.intro rfl (And.intro rfl ((ih_utf_Front_L1 r4 (wr (h1_0 + x3.2)) _ h)))))
theorem utf_Front_L1_ok : ∀ (p0 : (List UInt8)) (p1 : Int) (x2 : (List UInt8)) (l5 : (List (Int × Int))) (h1_0 : Int) (o7 : Int ⊕ Int), utf_Front_L1 p0 p1 x2 l5 h1_0 = some o7 → RL 2 0 Tryd.prog 23 (rgP utf_Front_L1_c) (rgA utf_Front_L1_c) (rgB utf_Front_L1_c) (utf_Front_L1_st p0 p1 x2 h1_0).env (JP2 (0, 0) 23 o7 .normal (utf_Front_L1_x0 p0 p1 x2) (.exit 0) (utf_Front_L1_x1 p0 p1 x2)) (l5.map e_utf_all_1) (utf_Front_L1_st p0 p1 x2 h1_0).s := fun p0 p1 x2 l5 h1_0 o7 h => (utf_Front_L1_grp p0 p1 x2) l5 h1_0 o7 h
noncomputable def utf_Front (p0 : (List UInt8)) (p1 : Int) : Option ((List UInt8)) :=
  ( utf_all p0 >>= fun x2 =>
    utf_all_1 x2 >>= fun y6 =>
    (utf_Front_L1 p0 p1 x2 y6.1 0) >>= fun o7 =>
    match o7 with
    | .inl y8 =>
      some y8
    | .inr y9 =>
      some y9 : Option (Int)) >>= fun o1 =>
  cutL p0 0 o1 >>= fun x10 =>
  some x10
set_option maxRecDepth 100000 in
set_option maxHeartbeats 4000000 in
theorem utf_Front_ok : ∀ (p0 : (List UInt8)) (p1 : Int) (o : (List UInt8)), utf_Front p0 p1 = some o → PCall Tryd.prog 37 [sV p0, iV p1] (t_utf_Front o) := by
  intro p0 p1 o h
  unfold utf_Front at h
  refine PCall.ofB mixed tbOk utf_Front_lv Tryd.func37 rfl (by kernel_rfl) (Nat.le_of_ble_eq_true rfl) ?_
  refine st_bind h (fun o1 ho hk => ?_)
  refine Exists.intro (JP1 _ _ o1 .normal (utf_Front_J0_0 p0 p1)) (And.intro ?_ (join1 ?_))
  · have h := ho
    refine st_call [sV p0] t_utf_all h (fun x2 hy => (utf_all_ok p0 x2 hy)) (fun x2 hy h => ?_)
    refine st_bind h (fun y6 hy6 h => ?_)
    refine st_bind h (fun o7 ho hk => ?_)
    refine Exists.intro (JP2 _ _ o7 .normal (utf_Front_L1_x0 p0 p1 x2) (.exit 0) (utf_Front_L1_x1 p0 p1 x2)) (And.intro (T_le (τ := utf_Front_L1_st p0 p1 x2 0) ?_ (T_range (g := 86) (cap := [.ep [sV x2]]) rfl ((utf_all_1_ok x2 y6 hy6) _ rfl) (mapSize fun _ => rfl) rfl (Nat.le_of_ble_eq_true rfl) (Nat.le_of_ble_eq_true rfl) (utf_Front_L1_ok p0 p1 x2 y6.1 0 o7 ho))) (join2 (fun y8 hy => ?_) (fun y9 hy => ?_)))
    · exact Le.tow 2 0 rfl (.cons rfl (.refl _) (.cons rfl (.refl _) (.cons rfl (.refl _) (.cons rfl (.refl _) (.nil))))) (.refl _) rfl
    · have h := (by rw [hy] at hk; exact hk)
      refine JP1.a h ?_
      exact Le.tow 2 0 rfl (.cons rfl (.refl _) (.cons rfl (.refl _) (.nil))) (.refl _) rfl
    · have h := (by rw [hy] at hk; exact hk)
      refine JP1.a h ?_
      exact Le.tow 2 0 rfl (.cons rfl (.refl _) (.cons rfl (.refl _) (.nil))) (.refl _) rfl
  · have h := hk
    refine st_cuts none (some o1) h (fun x10 hi h => ?_)
    refine st_ret (t := t_utf_Front) h ?_
    exact .refl _
noncomputable def trunc_Cut (p0 : (List UInt8)) (p1 : Int) : Option ((List UInt8) × Bool) :=
  trunc_short p0 p1 >>= fun x1 =>
  if x1.2.2 then
    some (x1.1, x1.2.1)
  else
    utf_Front p0 (wr (p1 - 3)) >>= fun x2 =>
    need (x2.length + [226, 128, 166].length ≤ 9223372036854775807) >>= fun _ =>
    some ((x2 ++ [226, 128, 166]), true)
set_option maxRecDepth 100000 in
set_option maxHeartbeats 4000000 in
theorem trunc_Cut_ok : ∀ (p0 : (List UInt8)) (p1 : Int) (o : (List UInt8) × Bool), trunc_Cut p0 p1 = some o → PCall Tryd.prog 12 [sV p0, iV p1] (t_trunc_Cut o) := by
  intro p0 p1 o h
  unfold trunc_Cut at h
  refine PCall.ofB mixed tbOk trunc_Cut_lv Tryd.func12 rfl (by kernel_rfl) (Nat.le_of_ble_eq_true rfl) ?_
  refine st_call [sV p0, iV p1] t_trunc_short h (fun x1 hy => (trunc_short_ok p0 p1 x1 hy)) (fun x1 hy h => ?_)
  refine st_test h (fun hb h => ?_) (fun hb h => ?_)
  · refine st_ret (t := t_trunc_Cut) h ?_
    exact .refl _
  · refine st_call [sV p0, iV (wr (p1 - 3))] t_utf_Front h (fun x2 hy => (utf_Front_ok p0 (wr (p1 - 3)) x2 hy)) (fun x2 hy h => ?_)
    refine st_need h (fun h => ?_)
    refine st_ret (t := t_trunc_Cut) h ?_
    exact .refl _
noncomputable def trunc_Fair_1_L1 (p0 : Int) (h0_0 : (List Int)) (v4 : (List Int)) (v12 : Int) : Option ((List Int)) :=
  if (decide (v12 < (h0_0.length : Int))) then
    idx h0_0 v12 >>= fun x3 =>
    idx v4 v12 >>= fun x4 =>
    trunc_Fair_1_L1 p0 h0_0 (v4.set v12.toNat (if p0 < (if 0 > x3 then 0 else x3) then p0 else (if 0 > x3 then 0 else x3))) (wr (v12 + 1))
  else
    some v4
  partial_fixpoint
set_option maxRecDepth 100000 in
set_option maxHeartbeats 4000000 in
theorem trunc_Fair_1_L1_grp : ∀ (p0 : Int) (h0_0 : (List Int)), (∀ (v4 : (List Int)) (v12 : Int) (o2 : (List Int)), trunc_Fair_1_L1 p0 h0_0 v4 v12 = some o2 → TL (1, 0) Tryd.prog 26 trunc_Fair_1_L1_c (JP1 (1, 0) 26 o2 (.exit 0) (trunc_Fair_1_L1_x0 p0 h0_0)) (trunc_Fair_1_L1_st p0 h0_0 v4 v12)) := by
  intro p0 h0_0
  refine trunc_Fair_1_L1.partial_correctness p0 h0_0 _ ?_
  intro trunc_Fair_1_L1' ih_trunc_Fair_1_L1 v4 v12 o2 h
  refine TL.round (bwp_sound mixed tbOk (lv := trunc_Fair_1_lv) _ _ _ ?_)
  refine st_test h (fun hb h => ?_) (fun hb h => ?_)
  · refine st_idx (l := h0_0) (c := cInt) (c' := cInt) h (fun _ => rfl) (fun _ => rfl) (by decide) (fun x3 hi h => ?_)
    refine st_xidx (l := v4) (c := cInt) (c' := cInt) h rfl (fun _ => rfl) (fun _ => rfl) (by decide) (fun x4 hi h => ?_)
    refine And.intro rfl (And.intro (Nat.le_of_ble_eq_true rfl) (And.intro rfl (And.intro rfl (Exists.intro ((v4.set v12.toNat (if p0 < (if 0 > x3 then 0 else x3) then p0 else (if 0 > x3 then 0 else x3))).map cInt) (And.intro (setMap (.refl _)) ?_)))))
    refine TL.le (τ := trunc_Fair_1_L1_st p0 h0_0 (v4.set v12.toNat (if p0 < (if 0 > x3 then 0 else x3) then p0 else (if 0 > x3 then 0 else x3))) (wr (v12 + 1))) ?_ ((ih_trunc_Fair_1_L1 (v4.set v12.toNat (if p0 < (if 0 > x3 then 0 else x3) then p0 else (if 0 > x3 then 0 else x3))) (wr (v12 + 1)) _ h))
    exact Le.trans (τ := ⟨[(0, .p (iV p0)), (4, .x 0 2 (.sl 3 1 ((v4.set v12.toNat (if p0 < (if 0 > x3 then 0 else x3) then p0 else (if 0 > x3 then 0 else x3))).map cInt))), (10, .p (.sl false (h0_0.map cInt))), (11, .p (iV (h0_0.length : Int))), (12, .p (iV (wr (v12 + 1))))], ⟨[[.p (.sl false (h0_0.map cInt))]], [2]⟩⟩) (Le.tow 1 1 rfl (.cons rfl (.refl _) (.cons rfl (.refl _) (.cons rfl (.refl _) (.cons rfl (.refl _) (.cons rfl (.refl _) (.nil)))))) (.refl _) rfl) ((Le.ver (.s 4) 0 2 1 rfl rfl rfl rfl).trans (Le.tow 1 1 rfl (.cons rfl (.refl _) (.cons rfl (.refl _) (.cons rfl (.refl _) (.cons rfl (.refl _) (.cons rfl (.refl _) (.nil)))))) (.refl _) rfl))
  · exact JP1.a h (Le.tow 1 1 rfl (.cons rfl (.refl _) (.nil)) (.refl _) rfl)
theorem trunc_Fair_1_L1_ok : ∀ (p0 : Int) (h0_0 : (List Int)) (v4 : (List Int)) (v12 : Int) (o2 : (List Int)), trunc_Fair_1_L1 p0 h0_0 v4 v12 = some o2 → TL (1, 0) Tryd.prog 26 trunc_Fair_1_L1_c (JP1 (1, 0) 26 o2 (.exit 0) (trunc_Fair_1_L1_x0 p0 h0_0)) (trunc_Fair_1_L1_st p0 h0_0 v4 v12) := fun p0 h0_0 v4 v12 o2 h => (trunc_Fair_1_L1_grp p0 h0_0) v4 v12 o2 h
noncomputable def trunc_Fair_1 (p0 : Int) (h0_0 : (List Int)) : Option ((List Int)) :=
  mkL 8 (h0_0.length : Int) 0 >>= fun x1 =>
  (trunc_Fair_1_L1 p0 h0_0 x1 0) >>= fun o2 =>
  some o2
set_option maxRecDepth 100000 in
set_option maxHeartbeats 4000000 in
theorem trunc_Fair_1_ok : ∀ (p0 : Int) (h0_0 : (List Int)) (o : (List Int)), trunc_Fair_1 p0 h0_0 = some o → CallOK Tryd.prog 44 [.p (iV p0), .ptr 0 0] ⟨[[.p (.sl false (h0_0.map cInt))]], []⟩ (t_trunc_Fair_1 o) ⟨[[.p (.sl false (h0_0.map cInt))]], [1]⟩ := by
  intro p0 h0_0 o h
  unfold trunc_Fair_1 at h
  refine CallOK.ofB mixed tbOk trunc_Fair_1_lv Tryd.func44 rfl (by kernel_rfl) (Nat.le_of_ble_eq_true rfl) rfl rfl rfl ?_
  refine view (lenMap _ _) rfl ?_
  refine st_xmk (c := cInt) h rfl ⟨rfl, by decide⟩ (fun x1 hi h => ?_)
  refine view (lenMap _ _) rfl ?_
  refine st_bind h (fun o2 ho hk => ?_)
  refine Exists.intro (JP1 _ _ o2 (.exit 0) (trunc_Fair_1_L1_x0 p0 h0_0)) (And.intro (T_le (τ := trunc_Fair_1_L1_st p0 h0_0 x1 0) ?_ (TL.loop (trunc_Fair_1_L1_ok p0 h0_0 x1 0 o2 ho))) (join1 ?_))
  · exact Le.tow 1 1 rfl (.cons rfl (.refl _) (.cons rfl (.refl _) (.cons rfl (.refl _) (.cons rfl (.refl _) (.cons rfl (.refl _) (.nil)))))) (.refl _) rfl
  have h := hk
  refine Exists.intro _ (And.intro (Le.refl _ _ _) ?_)
  exact st_retc (t := t_trunc_Fair_1) (ss := fun o => ⟨[[.p (.sl false (h0_0.map cInt))]], [1]⟩) h ⟨[0], rfl, .refl _, .refl _, rfl⟩
noncomputable def trunc_Fair_2_L1 (h0_0 : Int) (h2_0 : (List Int)) (x1 : (List Int)) (v5 : Int) (v13 : Int) : Option (Int ⊕ Unit) :=
  if (decide (v13 < (x1.length : Int))) then
    idx x1 v13 >>= fun x5 =>
    if (decide ((wr (v5 - x5)) < 0)) then
      some (.inr ())
    else
      trunc_Fair_2_L1 h0_0 h2_0 x1 (wr (v5 - x5)) (wr (v13 + 1))
  else
    some (.inl v5)
  partial_fixpoint
set_option maxRecDepth 100000 in
set_option maxHeartbeats 4000000 in
theorem trunc_Fair_2_L1_grp : ∀ (h0_0 : Int) (h2_0 : (List Int)) (x1 : (List Int)), (∀ (v5 : Int) (v13 : Int) (o2 : Int ⊕ Unit), trunc_Fair_2_L1 h0_0 h2_0 x1 v5 v13 = some o2 → TL (3, 0) Tryd.prog 24 trunc_Fair_2_L1_c (JP2 (3, 0) 24 o2 (.exit 0) (trunc_Fair_2_L1_x0 h0_0 h2_0 x1) .ret (trunc_Fair_2_L1_x1 h0_0 h2_0 x1)) (trunc_Fair_2_L1_st h0_0 h2_0 x1 v5 v13)) := by
  intro h0_0 h2_0 x1
  refine trunc_Fair_2_L1.partial_correctness h0_0 h2_0 x1 _ ?_
  intro trunc_Fair_2_L1' ih_trunc_Fair_2_L1 v5 v13 o2 h
  refine TL.round (bwp_sound mixed tbOk (lv := trunc_Fair_2_lv) _ _ _ ?_)
  refine st_test h (fun hb h => ?_) (fun hb h => ?_)
  · refine st_xidx (l := x1) (c := cInt) (c' := cInt) h rfl (fun _ => rfl) (fun _ => rfl) (by decide) (fun x5 hi h => ?_)
    refine And.intro rfl (And.intro (Nat.le_of_ble_eq_true rfl) ?_)
    refine st_test h (fun hb h => ?_) (fun hb h => ?_)
    · exact JP2.b h (Le.tow 3 1 rfl (.cons rfl (.refl _) (.nil)) (.refl _) rfl)
    · refine TL.le (τ := trunc_Fair_2_L1_st h0_0 h2_0 x1 (wr (v5 - x5)) (wr (v13 + 1))) ?_ ((ih_trunc_Fair_2_L1 (wr (v5 - x5)) (wr (v13 + 1)) _ h))
      exact Le.tow 3 1 rfl (.cons rfl (.refl _) (.cons rfl (.refl _) (.cons rfl (.refl _) (.cons rfl (.refl _) (.nil))))) (.refl _) rfl
  · exact JP2.a h (Le.tow 3 1 rfl (.cons rfl (.refl _) (.nil)) (.refl _) rfl)
theorem trunc_Fair_2_L1_ok : ∀ (h0_0 : Int) (h2_0 : (List Int)) (x1 : (List Int)) (v5 : Int) (v13 : Int) (o2 : Int ⊕ Unit), trunc_Fair_2_L1 h0_0 h2_0 x1 v5 v13 = some o2 → TL (3, 0) Tryd.prog 24 trunc_Fair_2_L1_c (JP2 (3, 0) 24 o2 (.exit 0) (trunc_Fair_2_L1_x0 h0_0 h2_0 x1) .ret (trunc_Fair_2_L1_x1 h0_0 h2_0 x1)) (trunc_Fair_2_L1_st h0_0 h2_0 x1 v5 v13) := fun h0_0 h2_0 x1 v5 v13 o2 h => (trunc_Fair_2_L1_grp h0_0 h2_0 x1) v5 v13 o2 h
noncomputable def trunc_Fair_2 (p0 : Int) (h0_0 : Int) (h2_0 : (List Int)) : Option (Int) :=
  trunc_Fair_1 p0 h2_0 >>= fun x1 =>
  (trunc_Fair_2_L1 h0_0 h2_0 x1 h0_0 0) >>= fun o2 =>
  match o2 with
  | .inl y3 =>
    some y3
  | .inr y4 =>
    some (-1)
set_option maxRecDepth 100000 in
set_option maxHeartbeats 4000000 in
theorem trunc_Fair_2_ok : ∀ (p0 : Int) (h0_0 : Int) (h2_0 : (List Int)) (o : Int), trunc_Fair_2 p0 h0_0 h2_0 = some o → CallOK Tryd.prog 45 [.p (iV p0), .ptr 0 0, .ptr 1 0] ⟨[[.p (iV h0_0)], [.fn (.func 44) [] [.ptr 2 0]], [.p (.sl false (h2_0.map cInt))]], []⟩ (t_trunc_Fair_2 o) ⟨[[.p (iV h0_0)], [.fn (.func 44) [] [.ptr 2 0]], [.p (.sl false (h2_0.map cInt))]], []⟩ := by
  intro p0 h0_0 h2_0 o h
  unfold trunc_Fair_2 at h
  refine CallOK.ofB mixed tbOk trunc_Fair_2_lv Tryd.func45 rfl (by kernel_rfl) (Nat.le_of_ble_eq_true rfl) rfl rfl rfl ?_
  refine st_callc _ _ h (fun x1 hy => ((trunc_Fair_1_ok p0 h2_0 x1 hy).fr [2] [] rfl rfl rfl)) (fun x1 hy h => ?_)
  refine And.intro rfl (Exists.intro _ (And.intro (List.length_map _) ?_))
  refine st_bind h (fun o2 ho hk => ?_)
  refine Exists.intro (JP2 _ _ o2 (.exit 0) (trunc_Fair_2_L1_x0 h0_0 h2_0 x1) .ret (trunc_Fair_2_L1_x1 h0_0 h2_0 x1)) (And.intro (T_le (τ := trunc_Fair_2_L1_st h0_0 h2_0 x1 h0_0 0) ?_ (TL.loop (trunc_Fair_2_L1_ok h0_0 h2_0 x1 h0_0 0 o2 ho))) (join2 (fun y3 hy => ?_) (fun y4 hy => ?_)))
  · exact Le.tow 3 1 rfl (.cons rfl (.refl _) (.cons rfl (.refl _) (.cons rfl (.refl _) (.cons rfl (.refl _) (.nil))))) (.refl _) rfl
  · have h := (by rw [hy] at hk; exact hk)
    refine Exists.intro _ (And.intro (Le.refl _ _ _) ?_)
    exact st_retc (t := t_trunc_Fair_2) (ss := fun o => ⟨[[.p (iV h0_0)], [.fn (.func 44) [] [.ptr 2 0]], [.p (.sl false (h2_0.map cInt))]], []⟩) h ⟨[], rfl, .refl _, .refl _, rfl⟩
  · have h := (by rw [hy] at hk; exact hk)
    refine Exists.intro _ (And.intro (Le.refl _ _ _) ?_)
    exact st_retc (t := t_trunc_Fair_2) (ss := fun o => ⟨[[.p (iV h0_0)], [.fn (.func 44) [] [.ptr 2 0]], [.p (.sl false (h2_0.map cInt))]], []⟩) h ⟨[], rfl, .refl _, .refl _, rfl⟩
noncomputable def trunc_Fair_3 (p0 : Int) (h1_0 : Int) (h3_0 : (List Int)) : Option (Bool) :=
  trunc_Fair_2 (wr (p0 + 1)) h1_0 h3_0 >>= fun x1 =>
  some (decide (x1 < 0))
set_option maxRecDepth 100000 in
set_option maxHeartbeats 4000000 in
theorem trunc_Fair_3_ok : ∀ (p0 : Int) (h1_0 : Int) (h3_0 : (List Int)) (o : Bool), trunc_Fair_3 p0 h1_0 h3_0 = some o → CallOK Tryd.prog 47 [.p (iV p0), .ptr 0 0] ⟨[[.fn (.func 45) [] [.ptr 1 0, .ptr 2 0]], [.p (iV h1_0)], [.fn (.func 44) [] [.ptr 3 0]], [.p (.sl false (h3_0.map cInt))]], []⟩ (t_trunc_Fair_3 o) ⟨[[.fn (.func 45) [] [.ptr 1 0, .ptr 2 0]], [.p (iV h1_0)], [.fn (.func 44) [] [.ptr 3 0]], [.p (.sl false (h3_0.map cInt))]], []⟩ := by
  intro p0 h1_0 h3_0 o h
  unfold trunc_Fair_3 at h
  refine CallOK.ofB mixed tbOk trunc_Fair_3_lv Tryd.func47 rfl (by kernel_rfl) (Nat.le_of_ble_eq_true rfl) rfl rfl rfl ?_
  refine st_callc _ _ h (fun x1 hy => ((trunc_Fair_2_ok (wr (p0 + 1)) h1_0 h3_0 x1 hy).fr [1, 2, 3] [] rfl rfl rfl)) (fun x1 hy h => ?_)
  refine Exists.intro _ (And.intro (Le.refl _ _ _) ?_)
  exact st_retc (t := t_trunc_Fair_3) (ss := fun o => ⟨[[.fn (.func 45) [] [.ptr 1 0, .ptr 2 0]], [.p (iV h1_0)], [.fn (.func 44) [] [.ptr 3 0]], [.p (.sl false (h3_0.map cInt))]], []⟩) h ⟨[], rfl, .refl _, .refl _, rfl⟩
noncomputable def sort_Search_trunc_Fair_3_L1 (h1_0 : Int) (h3_0 : (List Int)) (v5 : Int) (v6 : Int) : Option (Int) :=
  if (decide (v5 < v6)) then
    trunc_Fair_3 (wr ((IntKind.u64.wrap (wr (v5 + v6))).fdiv (2 ^ (min (1 : Int).toNat (IntKind.u64.bits))))) h1_0 h3_0 >>= fun x2 =>
    if (!x2) then
      sort_Search_trunc_Fair_3_L1 h1_0 h3_0 (wr ((wr ((IntKind.u64.wrap (wr (v5 + v6))).fdiv (2 ^ (min (1 : Int).toNat (IntKind.u64.bits))))) + 1)) v6
    else
      sort_Search_trunc_Fair_3_L1 h1_0 h3_0 v5 (wr ((IntKind.u64.wrap (wr (v5 + v6))).fdiv (2 ^ (min (1 : Int).toNat (IntKind.u64.bits)))))
  else
    some v5
  partial_fixpoint
set_option maxRecDepth 100000 in
set_option maxHeartbeats 4000000 in
theorem sort_Search_trunc_Fair_3_L1_grp : ∀ (h1_0 : Int) (h3_0 : (List Int)), (∀ (v5 : Int) (v6 : Int) (o1 : Int), sort_Search_trunc_Fair_3_L1 h1_0 h3_0 v5 v6 = some o1 → TL (4, 0) Tryd.prog 26 sort_Search_trunc_Fair_3_L1_c (JP1 (4, 0) 26 o1 (.exit 0) (sort_Search_trunc_Fair_3_L1_x0 h1_0 h3_0)) (sort_Search_trunc_Fair_3_L1_st h1_0 h3_0 v5 v6)) := by
  intro h1_0 h3_0
  refine sort_Search_trunc_Fair_3_L1.partial_correctness h1_0 h3_0 _ ?_
  intro sort_Search_trunc_Fair_3_L1' ih_sort_Search_trunc_Fair_3_L1 v5 v6 o1 h
  refine TL.round (bwp_sound mixed tbOk (lv := sort_Search_trunc_Fair_3_lv) _ _ _ ?_)
  refine st_test h (fun hb h => ?_) (fun hb h => ?_)
  · refine vrfl ?_
    refine And.intro (by decide) ?_
    refine vrfl ?_
    refine st_callc _ _ h (fun x2 hy => ((trunc_Fair_3_ok (wr ((IntKind.u64.wrap (wr (v5 + v6))).fdiv (2 ^ (min (1 : Int).toNat (IntKind.u64.bits))))) h1_0 h3_0 x2 hy).fr [0, 1, 2, 3] [] rfl rfl rfl)) (fun x2 hy h => ?_)
    refine st_test h (fun hb h => ?_) (fun hb h => ?_)
    · refine TL.le (τ := sort_Search_trunc_Fair_3_L1_st h1_0 h3_0 (wr ((wr ((IntKind.u64.wrap (wr (v5 + v6))).fdiv (2 ^ (min (1 : Int).toNat (IntKind.u64.bits))))) + 1)) v6) ?_ ((ih_sort_Search_trunc_Fair_3_L1 (wr ((wr ((IntKind.u64.wrap (wr (v5 + v6))).fdiv (2 ^ (min (1 : Int).toNat (IntKind.u64.bits))))) + 1)) v6 _ h))
      exact Le.tow 4 0 rfl (.cons rfl (.refl _) (.cons rfl (.refl _) (.cons rfl (.refl _) (.nil)))) (.refl _) rfl
    · refine TL.le (τ := sort_Search_trunc_Fair_3_L1_st h1_0 h3_0 v5 (wr ((IntKind.u64.wrap (wr (v5 + v6))).fdiv (2 ^ (min (1 : Int).toNat (IntKind.u64.bits)))))) ?_ ((ih_sort_Search_trunc_Fair_3_L1 v5 (wr ((IntKind.u64.wrap (wr (v5 + v6))).fdiv (2 ^ (min (1 : Int).toNat (IntKind.u64.bits))))) _ h))
      exact Le.tow 4 0 rfl (.cons rfl (.refl _) (.cons rfl (.refl _) (.cons rfl (.refl _) (.nil)))) (.refl _) rfl
  · exact JP1.a h (Le.tow 4 0 rfl (.cons rfl (.refl _) (.nil)) (.refl _) rfl)
theorem sort_Search_trunc_Fair_3_L1_ok : ∀ (h1_0 : Int) (h3_0 : (List Int)) (v5 : Int) (v6 : Int) (o1 : Int), sort_Search_trunc_Fair_3_L1 h1_0 h3_0 v5 v6 = some o1 → TL (4, 0) Tryd.prog 26 sort_Search_trunc_Fair_3_L1_c (JP1 (4, 0) 26 o1 (.exit 0) (sort_Search_trunc_Fair_3_L1_x0 h1_0 h3_0)) (sort_Search_trunc_Fair_3_L1_st h1_0 h3_0 v5 v6) := fun h1_0 h3_0 v5 v6 o1 h => (sort_Search_trunc_Fair_3_L1_grp h1_0 h3_0) v5 v6 o1 h
noncomputable def sort_Search_trunc_Fair_3 (p0 : Int) (h1_0 : Int) (h3_0 : (List Int)) : Option (Int) :=
  (sort_Search_trunc_Fair_3_L1 h1_0 h3_0 0 p0) >>= fun o1 =>
  some o1
set_option maxRecDepth 100000 in
set_option maxHeartbeats 4000000 in
theorem sort_Search_trunc_Fair_3_ok : ∀ (p0 : Int) (h1_0 : Int) (h3_0 : (List Int)) (o : Int), sort_Search_trunc_Fair_3 p0 h1_0 h3_0 = some o → CallOK Tryd.prog 46 [.p (iV p0), .fn (.func 47) [] [.ptr 0 0]] ⟨[[.fn (.func 45) [] [.ptr 1 0, .ptr 2 0]], [.p (iV h1_0)], [.fn (.func 44) [] [.ptr 3 0]], [.p (.sl false (h3_0.map cInt))]], []⟩ (t_sort_Search_trunc_Fair_3 o) ⟨[[.fn (.func 45) [] [.ptr 1 0, .ptr 2 0]], [.p (iV h1_0)], [.fn (.func 44) [] [.ptr 3 0]], [.p (.sl false (h3_0.map cInt))]], []⟩ := by
  intro p0 h1_0 h3_0 o h
  unfold sort_Search_trunc_Fair_3 at h
  refine CallOK.ofB mixed tbOk sort_Search_trunc_Fair_3_lv Tryd.func46 rfl (by kernel_rfl) (Nat.le_of_ble_eq_true rfl) rfl rfl rfl ?_
  refine st_bind h (fun o1 ho hk => ?_)
  refine Exists.intro (JP1 _ _ o1 (.exit 0) (sort_Search_trunc_Fair_3_L1_x0 h1_0 h3_0)) (And.intro (T_le (τ := sort_Search_trunc_Fair_3_L1_st h1_0 h3_0 0 p0) ?_ (TL.loop (sort_Search_trunc_Fair_3_L1_ok h1_0 h3_0 0 p0 o1 ho))) (join1 ?_))
  · exact Le.tow 4 0 rfl (.cons rfl (.refl _) (.cons rfl (.refl _) (.cons rfl (.refl _) (.nil)))) (.refl _) rfl
  have h := hk
  refine Exists.intro _ (And.intro (Le.refl _ _ _) ?_)
  exact st_retc (t := t_sort_Search_trunc_Fair_3) (ss := fun o => ⟨[[.fn (.func 45) [] [.ptr 1 0, .ptr 2 0]], [.p (iV h1_0)], [.fn (.func 44) [] [.ptr 3 0]], [.p (.sl false (h3_0.map cInt))]], []⟩) h ⟨[], rfl, .refl _, .refl _, rfl⟩
noncomputable def trunc_Fair_L1 (p0 : (List Int)) (p1 : Int) (v7 : Int) (v21 : Int) : Option (Int) :=
  if (decide (v21 < (p0.length : Int))) then
    idx p0 v21 >>= fun x2 =>
    trunc_Fair_L1 p0 p1 (if (if (if 0 > p1 then 0 else p1) < x2 then (if 0 > p1 then 0 else p1) else x2) > v7 then (if (if 0 > p1 then 0 else p1) < x2 then (if 0 > p1 then 0 else p1) else x2) else v7) (wr (v21 + 1))
  else
    some v7
  partial_fixpoint
set_option maxRecDepth 100000 in
set_option maxHeartbeats 4000000 in
theorem trunc_Fair_L1_grp : ∀ (p0 : (List Int)) (p1 : Int), (∀ (v7 : Int) (v21 : Int) (o1 : Int), trunc_Fair_L1 p0 p1 v7 v21 = some o1 → TL (0, 0) Tryd.prog 67 trunc_Fair_L1_c (JP1 (0, 0) 67 o1 (.exit 0) (trunc_Fair_L1_x0 p0 p1)) (trunc_Fair_L1_st p0 p1 v7 v21)) := by
  intro p0 p1
  refine trunc_Fair_L1.partial_correctness p0 p1 _ ?_
  intro trunc_Fair_L1' ih_trunc_Fair_L1 v7 v21 o1 h
  refine TL.round (bwp_sound mixed tbOk (lv := trunc_Fair_lv) _ _ _ ?_)
  refine st_test h (fun hb h => ?_) (fun hb h => ?_)
  · refine st_idx (l := p0) (c := cInt) (c' := cInt) h (fun _ => rfl) (fun _ => rfl) (by decide) (fun x2 hi h => ?_)
    refine TL.le (τ := trunc_Fair_L1_st p0 p1 (if (if (if 0 > p1 then 0 else p1) < x2 then (if 0 > p1 then 0 else p1) else x2) > v7 then (if (if 0 > p1 then 0 else p1) < x2 then (if 0 > p1 then 0 else p1) else x2) else v7) (wr (v21 + 1))) ?_ ((ih_trunc_Fair_L1 (if (if (if 0 > p1 then 0 else p1) < x2 then (if 0 > p1 then 0 else p1) else x2) > v7 then (if (if 0 > p1 then 0 else p1) < x2 then (if 0 > p1 then 0 else p1) else x2) else v7) (wr (v21 + 1)) _ h))
    exact Le.tow 4 0 rfl (.cons rfl (.refl _) (.cons rfl (.refl _) (.cons rfl (.refl _) (.cons rfl (.refl _) (.cons rfl (.refl _) (.cons rfl (.refl _) (.cons rfl (.refl _) (.cons rfl (.refl _) (.nil))))))))) (.refl _) rfl
  · exact JP1.a h (Le.tow 4 0 rfl (.cons rfl (.refl _) (.cons rfl (.refl _) (.cons rfl (.refl _) (.cons rfl (.refl _) (.nil))))) (.refl _) rfl)
theorem trunc_Fair_L1_ok : ∀ (p0 : (List Int)) (p1 : Int) (v7 : Int) (v21 : Int) (o1 : Int), trunc_Fair_L1 p0 p1 v7 v21 = some o1 → TL (0, 0) Tryd.prog 67 trunc_Fair_L1_c (JP1 (0, 0) 67 o1 (.exit 0) (trunc_Fair_L1_x0 p0 p1)) (trunc_Fair_L1_st p0 p1 v7 v21) := fun p0 p1 v7 v21 o1 h => (trunc_Fair_L1_grp p0 p1) v7 v21 o1 h
noncomputable def trunc_Fair_L2 (p0 : (List Int)) (p1 : Int) (v11 : (List Int)) (v12 : Int) (v42 : Int) : Option ((List Int)) :=
  if (decide (v42 < (p0.length : Int))) then
    idx p0 v42 >>= fun x7 =>
    ( if (decide (v12 > 0)) then
        idx v11 v42 >>= fun x9 =>
        some (decide (x7 > x9))
      else
        some false : Option (Bool)) >>= fun o8 =>
    if o8 then
      idx v11 v42 >>= fun x10 =>
      idx v11 v42 >>= fun x11 =>
      trunc_Fair_L2 p0 p1 (v11.set v42.toNat (wr (x10 + 1))) (wr (v12 - 1)) (wr (v42 + 1))
    else
      trunc_Fair_L2 p0 p1 v11 v12 (wr (v42 + 1))
  else
    some v11
  partial_fixpoint
set_option maxRecDepth 100000 in
set_option maxHeartbeats 4000000 in
theorem trunc_Fair_L2_grp : ∀ (p0 : (List Int)) (p1 : Int), (∀ (v11 : (List Int)) (v12 : Int) (v42 : Int) (o6 : (List Int)), trunc_Fair_L2 p0 p1 v11 v12 v42 = some o6 → TL (0, 0) Tryd.prog 67 trunc_Fair_L2_c (JP1 (0, 0) 67 o6 (.exit 2) (trunc_Fair_L2_x0 p0 p1)) (trunc_Fair_L2_st p0 p1 v11 v12 v42)) := by
  intro p0 p1
  refine trunc_Fair_L2.partial_correctness p0 p1 _ ?_
  intro trunc_Fair_L2' ih_trunc_Fair_L2 v11 v12 v42 o6 h
  refine TL.round (bwp_sound mixed tbOk (lv := trunc_Fair_lv) _ _ _ ?_)
  refine st_test h (fun hb h => ?_) (fun hb h => ?_)
  · refine st_idx (l := p0) (c := cInt) (c' := cInt) h (fun _ => rfl) (fun _ => rfl) (by decide) (fun x7 hi h => ?_)
    refine st_bind h (fun o8 ho hk => ?_)
    refine Exists.intro (JP1 _ _ o8 .normal (trunc_Fair_J0_0 p0 p1 v11 v12 v42)) (And.intro ?_ (join1 ?_))
    · have h := ho
      refine st_test h (fun hb h => ?_) (fun hb h => ?_)
      · refine st_xidx (l := v11) (c := cInt) (c' := cInt) h rfl (fun _ => rfl) (fun _ => rfl) (by decide) (fun x9 hi h => ?_)
        refine And.intro rfl (And.intro (Nat.le_of_ble_eq_true rfl) ?_)
        refine JP1.a h ?_
        exact Le.tow 4 1 rfl (.cons rfl (.refl _) (.cons rfl (.refl _) (.cons rfl (.refl _) (.cons rfl (.refl _) (.cons rfl (.refl _) (.cons rfl (.refl _) (.cons rfl (.refl _) (.nil)))))))) (.refl _) rfl
      · refine JP1.a h ?_
        exact Le.tow 4 1 rfl (.cons rfl (.refl _) (.cons rfl (.refl _) (.cons rfl (.refl _) (.cons rfl (.refl _) (.cons rfl (.refl _) (.cons rfl (.refl _) (.cons rfl (.refl _) (.nil)))))))) (.refl _) rfl
    · have h := hk
      refine st_test h (fun hb h => ?_) (fun hb h => ?_)
      · refine st_xidx (l := v11) (c := cInt) (c' := cInt) h rfl (fun _ => rfl) (fun _ => rfl) (by decide) (fun x10 hi h => ?_)
        refine And.intro rfl (And.intro (Nat.le_of_ble_eq_true rfl) ?_)
        refine st_xidx (l := v11) (c := cInt) (c' := cInt) h rfl (fun _ => rfl) (fun _ => rfl) (by decide) (fun x11 hi h => ?_)
        refine And.intro rfl (And.intro (Nat.le_of_ble_eq_true rfl) (And.intro rfl (And.intro rfl (Exists.intro ((v11.set v42.toNat (wr (x10 + 1))).map cInt) (And.intro (setMap (.refl _)) ?_)))))
        refine TL.le (τ := trunc_Fair_L2_st p0 p1 (v11.set v42.toNat (wr (x10 + 1))) (wr (v12 - 1)) (wr (v42 + 1))) ?_ ((ih_trunc_Fair_L2 (v11.set v42.toNat (wr (x10 + 1))) (wr (v12 - 1)) (wr (v42 + 1)) _ h))
        exact Le.trans (τ := ⟨[(11, .x 0 2 (.sl 3 1 ((v11.set v42.toNat (wr (x10 + 1))).map cInt))), (12, .p (iV (wr (v12 - 1)))), (40, .p (.sl false (p0.map cInt))), (41, .p (iV (p0.length : Int))), (42, .p (iV (wr (v42 + 1))))], ⟨[[.p (.sl false (p0.map cInt))], [.p (iV (if 0 > p1 then 0 else p1))], [.fn (.func 44) [] [.ptr 0 0]], [.fn (.func 45) [] [.ptr 1 0, .ptr 2 0]]], [2]⟩⟩) (Le.tow 4 1 rfl (.cons rfl (.refl _) (.cons rfl (.refl _) (.cons rfl (.refl _) (.cons rfl (.refl _) (.cons rfl (.refl _) (.nil)))))) (.refl _) rfl) ((Le.ver (.s 11) 0 2 1 rfl rfl rfl rfl).trans (Le.tow 4 1 rfl (.cons rfl (.refl _) (.cons rfl (.refl _) (.cons rfl (.refl _) (.cons rfl (.refl _) (.cons rfl (.refl _) (.nil)))))) (.refl _) rfl))
      · refine TL.le (τ := trunc_Fair_L2_st p0 p1 v11 v12 (wr (v42 + 1))) ?_ ((ih_trunc_Fair_L2 v11 v12 (wr (v42 + 1)) _ h))
        exact Le.tow 4 1 rfl (.cons rfl (.refl _) (.cons rfl (.refl _) (.cons rfl (.refl _) (.cons rfl (.refl _) (.cons rfl (.refl _) (.nil)))))) (.refl _) rfl
  · exact JP1.a h (Le.tow 4 1 rfl (.cons rfl (.refl _) (.nil)) (.refl _) rfl)
theorem trunc_Fair_L2_ok : ∀ (p0 : (List Int)) (p1 : Int) (v11 : (List Int)) (v12 : Int) (v42 : Int) (o6 : (List Int)), trunc_Fair_L2 p0 p1 v11 v12 v42 = some o6 → TL (0, 0) Tryd.prog 67 trunc_Fair_L2_c (JP1 (0, 0) 67 o6 (.exit 2) (trunc_Fair_L2_x0 p0 p1)) (trunc_Fair_L2_st p0 p1 v11 v12 v42) := fun p0 p1 v11 v12 v42 o6 h => (trunc_Fair_L2_grp p0 p1) v11 v12 v42 o6 h
noncomputable def trunc_Fair (p0 : (List Int)) (p1 : Int) : Option ((List Int)) :=
  (trunc_Fair_L1 p0 p1 0 0) >>= fun o1 =>
  sort_Search_trunc_Fair_3 o1 (if 0 > p1 then 0 else p1) p0 >>= fun x3 =>
  trunc_Fair_1 x3 p0 >>= fun x4 =>
  trunc_Fair_2 x3 (if 0 > p1 then 0 else p1) p0 >>= fun x5 =>
  (trunc_Fair_L2 p0 p1 x4 x5 0) >>= fun o6 =>
  some o6
set_option maxRecDepth 100000 in
set_option maxHeartbeats 4000000 in
theorem trunc_Fair_ok : ∀ (p0 : (List Int)) (p1 : Int) (o : (List Int)), trunc_Fair p0 p1 = some o → PCall Tryd.prog 21 [.sl false (p0.map cInt), iV p1] (t_trunc_Fair o) := by
  intro p0 p1 o h
  unfold trunc_Fair at h
  refine PCall.ofB mixed tbOk trunc_Fair_lv Tryd.func21 rfl (by kernel_rfl) (Nat.le_of_ble_eq_true rfl) ?_
  refine view (lenMap _ _) rfl ?_
  refine st_bind h (fun o1 ho hk => ?_)
  refine Exists.intro (JP1 _ _ o1 (.exit 0) (trunc_Fair_L1_x0 p0 p1)) (And.intro (T_le (τ := trunc_Fair_L1_st p0 p1 0 0) ?_ (TL.loop (trunc_Fair_L1_ok p0 p1 0 0 o1 ho))) (join1 ?_))
  · exact Le.tow 4 0 rfl (.cons rfl (.refl _) (.cons rfl (.refl _) (.cons rfl (.refl _) (.cons rfl (.refl _) (.cons rfl (.refl _) (.cons rfl (.refl _) (.cons rfl (.refl _) (.cons rfl (.refl _) (.nil))))))))) (.refl _) rfl
  have h := hk
  refine st_callc _ _ h (fun x3 hy => ((sort_Search_trunc_Fair_3_ok o1 (if 0 > p1 then 0 else p1) p0 x3 hy).fr [3, 1, 2, 0] [] rfl rfl rfl)) (fun x3 hy h => ?_)
  refine And.intro (by decide +kernel) (And.intro rfl ?_)
  refine st_callt _ _ h (fun x4 hy => ((trunc_Fair_1_ok x3 p0 x4 hy).ft rfl [0] rfl rfl rfl)) (fun x4 hy h => ?_)
  refine st_callq (fun x5 => (t_trunc_Fair_2 x5).ren [1, 2, 0] []) h (fun x5 hy => (trunc_Fair_2_ok x3 (if 0 > p1 then 0 else p1) p0 x5 hy).fd rfl rfl [1, 2, 0] rfl rfl) (fun x5 hy h => ?_)
  refine view (lenMap _ _) rfl ?_
  refine st_bind h (fun o6 ho hk => ?_)
  refine Exists.intro (JP1 _ _ o6 (.exit 2) (trunc_Fair_L2_x0 p0 p1)) (And.intro (T_le (τ := trunc_Fair_L2_st p0 p1 x4 x5 0) ?_ (TL.loop (trunc_Fair_L2_ok p0 p1 x4 x5 0 o6 ho))) (join1 ?_))
  · exact Le.tow 4 1 rfl (.cons rfl (.refl _) (.cons rfl (.refl _) (.cons rfl (.refl _) (.cons rfl (.refl _) (.cons rfl (.refl _) (.nil)))))) (.refl _) rfl
  have h := hk
  refine Exists.intro _ (And.intro (Le.frzv (.s 11) 0 1 rfl rfl rfl rfl) ?_)
  refine st_ret (t := t_trunc_Fair) h ?_
  exact .refl _
noncomputable def strings_Join (p0 : (List (List UInt8))) (p1 : (List UInt8)) : Option ((List UInt8)) :=
  need (p0.length ≤ 140737488355328) >>= fun _ =>
  need ((Lib.join p0 p1).length ≤ 140737488355328) >>= fun _ =>
  some (Lib.join p0 p1)
set_option maxRecDepth 100000 in
set_option maxHeartbeats 4000000 in
theorem strings_Join_ok : ∀ (p0 : (List (List UInt8))) (p1 : (List UInt8)) (o : (List UInt8)), strings_Join p0 p1 = some o → PCall Tryd.prog 42 [.sl false (p0.map cStr), sV p1] (t_strings_Join o) := by
  intro p0 p1 o h
  unfold strings_Join at h
  obtain ⟨h0, h⟩ := need_some h
  obtain ⟨h1, h⟩ := need_some h
  cases h
  exact join_ok _ _ h0 h1
noncomputable def strings_genSplit (p0 : (List UInt8)) (p1 : (List UInt8)) (p2 : Int) (p3 : Int) : Option ((List (List UInt8))) :=
  need (p0.length < 4294967281) >>= fun _ =>
  need (1 ≤ p1.length) >>= fun _ =>
  need (0 ≤ p2) >>= fun _ =>
  need (p2 ≤ p1.length) >>= fun _ =>
  need (p3 < 0) >>= fun _ =>
  some (Lib.splitK p1 p2.toNat (Lib.count p0 p1) p0)
set_option maxRecDepth 100000 in
set_option maxHeartbeats 4000000 in
theorem strings_genSplit_ok : ∀ (p0 : (List UInt8)) (p1 : (List UInt8)) (p2 : Int) (p3 : Int) (o : (List (List UInt8))), strings_genSplit p0 p1 p2 p3 = some o → PCall Tryd.prog 68 [sV p0, sV p1, iV p2, iV p3] (t_strings_genSplit o) := by
  intro p0 p1 p2 p3 o h
  unfold strings_genSplit at h
  obtain ⟨h1, h⟩ := need_some h
  obtain ⟨h2, h⟩ := need_some h
  obtain ⟨h3, h⟩ := need_some h
  obtain ⟨h4, h⟩ := need_some h
  obtain ⟨h5, h⟩ := need_some h
  cases h
  exact genSplit_ok _ _ _ _ h1 h2 h3 h4 h5
noncomputable def strings_SplitAfter (p0 : (List UInt8)) (p1 : (List UInt8)) : Option ((List (List UInt8))) :=
  strings_genSplit p0 p1 (p1.length : Int) (-1) >>= fun x1 =>
  some x1
set_option maxRecDepth 100000 in
set_option maxHeartbeats 4000000 in
theorem strings_SplitAfter_ok : ∀ (p0 : (List UInt8)) (p1 : (List UInt8)) (o : (List (List UInt8))), strings_SplitAfter p0 p1 = some o → PCall Tryd.prog 41 [sV p0, sV p1] (t_strings_SplitAfter o) := by
  intro p0 p1 o h
  unfold strings_SplitAfter at h
  refine PCall.ofB mixed tbOk strings_SplitAfter_lv Tryd.func41 rfl (by kernel_rfl) (Nat.le_of_ble_eq_true rfl) ?_
  refine vrfl ?_
  refine st_call [sV p0, sV p1, iV (p1.length : Int), iV (-1)] t_strings_genSplit h (fun x1 hy => (strings_genSplit_ok p0 p1 (p1.length : Int) (-1) x1 hy)) (fun x1 hy h => ?_)
  refine st_ret (t := t_strings_SplitAfter) h ?_
  exact .refl _
noncomputable def trunc_Lines (p0 : (List UInt8)) (p1 : Int) : Option ((List UInt8) × Bool) :=
  strings_SplitAfter p0 [10] >>= fun x1 =>
  if (decide ((x1.length : Int) ≤ p1)) then
    some (p0, false)
  else
    if (decide (p1 < 1)) then
      some ([], true)
    else
      cutL x1 0 (wr (p1 - 1)) >>= fun x2 =>
      strings_Join x2 [] >>= fun x3 =>
      need (x3.length + [226, 128, 166].length ≤ 9223372036854775807) >>= fun _ =>
      some ((x3 ++ [226, 128, 166]), true)
set_option maxRecDepth 100000 in
set_option maxHeartbeats 4000000 in
theorem trunc_Lines_ok : ∀ (p0 : (List UInt8)) (p1 : Int) (o : (List UInt8) × Bool), trunc_Lines p0 p1 = some o → PCall Tryd.prog 16 [sV p0, iV p1] (t_trunc_Lines o) := by
  intro p0 p1 o h
  unfold trunc_Lines at h
  refine PCall.ofB mixed tbOk trunc_Lines_lv Tryd.func16 rfl (by kernel_rfl) (Nat.le_of_ble_eq_true rfl) ?_
  refine st_call [sV p0, sV [10]] t_strings_SplitAfter h (fun x1 hy => (strings_SplitAfter_ok p0 [10] x1 hy)) (fun x1 hy h => ?_)
  refine view (lenMap _ _) rfl ?_
  refine st_test h (fun hb h => ?_) (fun hb h => ?_)
  · refine st_ret (t := t_trunc_Lines) h ?_
    exact .refl _
  · refine st_test h (fun hb h => ?_) (fun hb h => ?_)
    · refine st_ret (t := t_trunc_Lines) h ?_
      exact .refl _
    · refine st_cut (c := cStr) none (some (wr (p1 - 1))) h (fun _ => rfl) (fun x2 hi h => ?_)
      refine st_call [.sl false (x2.map cStr), sV []] t_strings_Join h (fun x3 hy => (strings_Join_ok x2 [] x3 hy)) (fun x3 hy h => ?_)
      refine st_need h (fun h => ?_)
      refine st_ret (t := t_trunc_Lines) h ?_
      exact .refl _
noncomputable def trunc_Middle_L1 (p0 : (List UInt8)) (p1 : Int) (v10 : Int) : Option (Int) :=
  if (decide ((wr ((p0.length : Int) - v10)) > (wr ((wr (p1 - 3)) - (wr ((wr (p1 - 3)).tdiv 2)))))) then
    utf_Next p0 v10 >>= fun x3 =>
    trunc_Middle_L1 p0 p1 (wr (v10 + x3.2))
  else
    some v10
  partial_fixpoint
set_option maxRecDepth 100000 in
set_option maxHeartbeats 4000000 in
theorem trunc_Middle_L1_grp : ∀ (p0 : (List UInt8)) (p1 : Int), (∀ (v10 : Int) (o2 : Int), trunc_Middle_L1 p0 p1 v10 = some o2 → TL (0, 0) Tryd.prog 52 trunc_Middle_L1_c (JP1 (0, 0) 52 o2 (.exit 0) (trunc_Middle_L1_x0 p0 p1)) (trunc_Middle_L1_st p0 p1 v10)) := by
  intro p0 p1
  refine trunc_Middle_L1.partial_correctness p0 p1 _ ?_
  intro trunc_Middle_L1' ih_trunc_Middle_L1 v10 o2 h
  refine TL.round (bwp_sound mixed tbOk (lv := trunc_Middle_lv) _ _ _ ?_)
  refine vrfl ?_
  refine st_test h (fun hb h => ?_) (fun hb h => ?_)
  · refine st_call [sV p0, iV v10] t_utf_Next h (fun x3 hy => (utf_Next_ok p0 v10 x3 hy)) (fun x3 hy h => ?_)
    refine TL.le (τ := trunc_Middle_L1_st p0 p1 (wr (v10 + x3.2))) ?_ ((ih_trunc_Middle_L1 (wr (v10 + x3.2)) _ h))
    exact Le.tow 0 0 rfl (.cons rfl (.refl _) (.cons rfl (.refl _) (.cons rfl (.refl _) (.cons rfl (.refl _) (.nil))))) (.refl _) rfl
  · exact JP1.a h (Le.tow 0 0 rfl (.cons rfl (.refl _) (.cons rfl (.refl _) (.cons rfl (.refl _) (.nil)))) (.refl _) rfl)
theorem trunc_Middle_L1_ok : ∀ (p0 : (List UInt8)) (p1 : Int) (v10 : Int) (o2 : Int), trunc_Middle_L1 p0 p1 v10 = some o2 → TL (0, 0) Tryd.prog 52 trunc_Middle_L1_c (JP1 (0, 0) 52 o2 (.exit 0) (trunc_Middle_L1_x0 p0 p1)) (trunc_Middle_L1_st p0 p1 v10) := fun p0 p1 v10 o2 h => (trunc_Middle_L1_grp p0 p1) v10 o2 h
noncomputable def trunc_Middle (p0 : (List UInt8)) (p1 : Int) : Option ((List UInt8) × Bool) :=
  trunc_short p0 p1 >>= fun x1 =>
  if x1.2.2 then
    some (x1.1, x1.2.1)
  else
    (trunc_Middle_L1 p0 p1 0) >>= fun o2 =>
    utf_Front p0 (wr ((wr (p1 - 3)).tdiv 2)) >>= fun x4 =>
    need (x4.length + [226, 128, 166].length ≤ 9223372036854775807) >>= fun _ =>
    cutL p0 o2 (p0.length : Int) >>= fun x5 =>
    need ((x4 ++ [226, 128, 166]).length + x5.length ≤ 9223372036854775807) >>= fun _ =>
    some (((x4 ++ [226, 128, 166]) ++ x5), true)
set_option maxRecDepth 100000 in
set_option maxHeartbeats 4000000 in
theorem trunc_Middle_ok : ∀ (p0 : (List UInt8)) (p1 : Int) (o : (List UInt8) × Bool), trunc_Middle p0 p1 = some o → PCall Tryd.prog 19 [sV p0, iV p1] (t_trunc_Middle o) := by
  intro p0 p1 o h
  unfold trunc_Middle at h
  refine PCall.ofB mixed tbOk trunc_Middle_lv Tryd.func19 rfl (by kernel_rfl) (Nat.le_of_ble_eq_true rfl) ?_
  refine st_call [sV p0, iV p1] t_trunc_short h (fun x1 hy => (trunc_short_ok p0 p1 x1 hy)) (fun x1 hy h => ?_)
  refine st_test h (fun hb h => ?_) (fun hb h => ?_)
  · refine st_ret (t := t_trunc_Middle) h ?_
    exact .refl _
  · refine And.intro (by decide) ?_
    refine st_bind h (fun o2 ho hk => ?_)
    refine Exists.intro (JP1 _ _ o2 (.exit 0) (trunc_Middle_L1_x0 p0 p1)) (And.intro (T_le (τ := trunc_Middle_L1_st p0 p1 0) ?_ (TL.loop (trunc_Middle_L1_ok p0 p1 0 o2 ho))) (join1 ?_))
    · exact Le.tow 0 0 rfl (.cons rfl (.refl _) (.cons rfl (.refl _) (.cons rfl (.refl _) (.cons rfl (.refl _) (.nil))))) (.refl _) rfl
    have h := hk
    refine And.intro (by decide +kernel) (And.intro rfl ?_)
    refine st_calld [sV p0, iV (wr ((wr (p1 - 3)).tdiv 2))] t_utf_Front h (fun x4 hy => (utf_Front_ok p0 (wr ((wr (p1 - 3)).tdiv 2)) x4 hy)) (fun x4 hy h => ?_)
    refine st_need h (fun h => ?_)
    refine st_cuts (some o2) none h (fun x5 hi h => ?_)
    refine st_need h (fun h => ?_)
    refine st_ret (t := t_trunc_Middle) h ?_
    exact .refl _
noncomputable def nunciolaw35_awake : Option (Bool) :=
  trunc_Cut [97, 98, 99, 100, 101, 102] 5 >>= fun x1 =>
  trunc_Lines [97, 10, 98, 10, 99] 2 >>= fun x2 =>
  trunc_Middle [97, 98, 99, 100, 101, 102, 103, 104] 7 >>= fun x3 =>
  ( if (x1.1 == [97, 98, 226, 128, 166]) then
      if x1.2 then
        if (x2.1 == [97, 10, 226, 128, 166]) then
          if x2.2 then
            if (x3.1 == [97, 98, 226, 128, 166, 103, 104]) then
              if x3.2 then
                trunc_Fair [5, 1, 9, 9] 12 >>= fun x5 =>
                nunciolaw35_numbers x5 [4, 1, 4, 3] >>= fun x6 =>
                some x6
              else
                some false
            else
              some false
          else
            some false
        else
          some false
      else
        some false
    else
      some false : Option (Bool)) >>= fun o4 =>
  some o4
set_option maxRecDepth 100000 in
set_option maxHeartbeats 4000000 in
theorem nunciolaw35_awake_ok : ∀ (o : Bool), nunciolaw35_awake  = some o → PCall Tryd.prog 15 [] (t_nunciolaw35_awake o) := by
  intro o h
  unfold nunciolaw35_awake at h
  refine PCall.ofB mixed tbOk nunciolaw35_awake_lv Tryd.func15 rfl (by kernel_rfl) (Nat.le_of_ble_eq_true rfl) ?_
  refine st_call [sV [97, 98, 99, 100, 101, 102], iV 5] t_trunc_Cut h (fun x1 hy => (trunc_Cut_ok [97, 98, 99, 100, 101, 102] 5 x1 hy)) (fun x1 hy h => ?_)
  refine st_call [sV [97, 10, 98, 10, 99], iV 2] t_trunc_Lines h (fun x2 hy => (trunc_Lines_ok [97, 10, 98, 10, 99] 2 x2 hy)) (fun x2 hy h => ?_)
  refine st_call [sV [97, 98, 99, 100, 101, 102, 103, 104], iV 7] t_trunc_Middle h (fun x3 hy => (trunc_Middle_ok [97, 98, 99, 100, 101, 102, 103, 104] 7 x3 hy)) (fun x3 hy h => ?_)
  refine st_bind h (fun o4 ho hk => ?_)
  refine Exists.intro (JP1 _ _ o4 .normal (nunciolaw35_awake_J0_0 )) (And.intro ?_ (join1 ?_))
  · have h := ho
    refine st_test h (fun hb h => ?_) (fun hb h => ?_)
    · refine st_test h (fun hb h => ?_) (fun hb h => ?_)
      · refine st_test h (fun hb h => ?_) (fun hb h => ?_)
        · refine st_test h (fun hb h => ?_) (fun hb h => ?_)
          · refine st_test h (fun hb h => ?_) (fun hb h => ?_)
            · refine st_test h (fun hb h => ?_) (fun hb h => ?_)
              · refine st_call [.sl true [[iV 5], [iV 1], [iV 9], [iV 9]], iV 12] t_trunc_Fair h (fun x5 hy => (trunc_Fair_ok [5, 1, 9, 9] 12 x5 hy).weak (.cons (.not) (.cons (.refl _) (.nil)))) (fun x5 hy h => ?_)
                refine st_call [.sl false (x5.map cInt), .sl true [[iV 4], [iV 1], [iV 4], [iV 3]]] t_nunciolaw35_numbers h (fun x6 hy => (nunciolaw35_numbers_ok x5 [4, 1, 4, 3] x6 hy).weak (.cons (.refl _) (.cons (.not) (.nil)))) (fun x6 hy h => ?_)
                refine JP1.a h ?_
                exact Le.tow 0 0 rfl (.cons rfl (.refl _) (.nil)) (.refl _) rfl
              · refine JP1.a h ?_
                exact Le.tow 0 0 rfl (.cons rfl (.refl _) (.nil)) (.refl _) rfl
            · refine bF ?_
              refine JP1.a h ?_
              exact Le.tow 0 0 rfl (.cons rfl (.refl _) (.nil)) (.refl _) rfl
          · refine bF ?_
            refine bF ?_
            refine JP1.a h ?_
            exact Le.tow 0 0 rfl (.cons rfl (.refl _) (.nil)) (.refl _) rfl
        · refine bF ?_
          refine bF ?_
          refine bF ?_
          refine JP1.a h ?_
          exact Le.tow 0 0 rfl (.cons rfl (.refl _) (.nil)) (.refl _) rfl
      · refine bF ?_
        refine bF ?_
        refine bF ?_
        refine bF ?_
        refine JP1.a h ?_
        exact Le.tow 0 0 rfl (.cons rfl (.refl _) (.nil)) (.refl _) rfl
    · refine bF ?_
      refine bF ?_
      refine bF ?_
      refine bF ?_
      refine bF ?_
      refine JP1.a h ?_
      exact Le.tow 0 0 rfl (.cons rfl (.refl _) (.nil)) (.refl _) rfl
  · have h := hk
    refine st_ret (t := t_nunciolaw35_awake) h ?_
    exact .refl _
noncomputable def nunciolaw35_few (p0 : (List UInt8)) : Option ((List UInt8)) :=
  cutL p0 0 (if 300 < (p0.length : Int) then 300 else (p0.length : Int)) >>= fun x1 =>
  some x1
set_option maxRecDepth 100000 in
set_option maxHeartbeats 4000000 in
theorem nunciolaw35_few_ok : ∀ (p0 : (List UInt8)) (o : (List UInt8)), nunciolaw35_few p0 = some o → PCall Tryd.prog 11 [sV p0] (t_nunciolaw35_few o) := by
  intro p0 o h
  unfold nunciolaw35_few at h
  refine PCall.ofB mixed tbOk nunciolaw35_few_lv Tryd.func11 rfl (by kernel_rfl) (Nat.le_of_ble_eq_true rfl) ?_
  refine vrfl ?_
  refine st_cuts none (some (if 300 < (p0.length : Int) then 300 else (p0.length : Int))) h (fun x1 hi h => ?_)
  refine st_ret (t := t_nunciolaw35_few) h ?_
  exact .refl _
noncomputable def nunciolaw35_TruncMiddles (p0 : (List UInt8)) (p1 : Int) : Option (Bool) :=
  nunciolaw35_few p0 >>= fun x1 =>
  trunc_Middle x1 p1 >>= fun x2 =>
  R35_Middle x1 p1 >>= fun x3 =>
  ( if (x2.1 == x3.1) then
      if (x2.2 == x3.2) then
        if (decide ((x2.1.length : Int) ≤ (if 0 > p1 then 0 else p1))) then
          R02_Is x1 >>= fun x5 =>
          if (!x5) then
            nunciolaw35_awake >>= fun x6 =>
            some x6
          else
            R02_Is x2.1 >>= fun x7 =>
            if x7 then
              nunciolaw35_awake >>= fun x8 =>
              some x8
            else
              some false
        else
          some false
      else
        some false
    else
      some false : Option (Bool)) >>= fun o4 =>
  some o4
set_option maxRecDepth 100000 in
set_option maxHeartbeats 4000000 in
theorem nunciolaw35_TruncMiddles_ok : ∀ (p0 : (List UInt8)) (p1 : Int) (o : Bool), nunciolaw35_TruncMiddles p0 p1 = some o → PCall Tryd.prog 5 [sV p0, iV p1] (t_nunciolaw35_TruncMiddles o) := by
  intro p0 p1 o h
  unfold nunciolaw35_TruncMiddles at h
  refine PCall.ofB mixed tbOk nunciolaw35_TruncMiddles_lv Tryd.func5 rfl (by kernel_rfl) (Nat.le_of_ble_eq_true rfl) ?_
  refine st_call [sV p0] t_nunciolaw35_few h (fun x1 hy => (nunciolaw35_few_ok p0 x1 hy)) (fun x1 hy h => ?_)
  refine st_call [sV x1, iV p1] t_trunc_Middle h (fun x2 hy => (trunc_Middle_ok x1 p1 x2 hy)) (fun x2 hy h => ?_)
  refine st_call [sV x1, iV p1] t_R35_Middle h (fun x3 hy => (R35_Middle_ok x1 p1 x3 hy)) (fun x3 hy h => ?_)
  refine st_bind h (fun o4 ho hk => ?_)
  refine Exists.intro (JP1 _ _ o4 .normal (nunciolaw35_TruncMiddles_J0_0 )) (And.intro ?_ (join1 ?_))
  · have h := ho
    refine st_test h (fun hb h => ?_) (fun hb h => ?_)
    · refine st_test h (fun hb h => ?_) (fun hb h => ?_)
      · refine vrfl ?_
        refine st_test h (fun hb h => ?_) (fun hb h => ?_)
        · refine st_call [sV x1] t_R02_Is h (fun x5 hy => (R02_Is_ok x1 x5 hy)) (fun x5 hy h => ?_)
          refine st_test h (fun hb h => ?_) (fun hb h => ?_)
          · refine bT ?_
            refine st_call [] t_nunciolaw35_awake h (fun x6 hy => (nunciolaw35_awake_ok x6 hy)) (fun x6 hy h => ?_)
            refine JP1.a h ?_
            exact Le.tow 0 0 rfl (.cons rfl (.refl _) (.nil)) (.refl _) rfl
          · refine st_call [sV x2.1] t_R02_Is h (fun x7 hy => (R02_Is_ok x2.1 x7 hy)) (fun x7 hy h => ?_)
            refine st_test h (fun hb h => ?_) (fun hb h => ?_)
            · refine st_call [] t_nunciolaw35_awake h (fun x8 hy => (nunciolaw35_awake_ok x8 hy)) (fun x8 hy h => ?_)
              refine JP1.a h ?_
              exact Le.tow 0 0 rfl (.cons rfl (.refl _) (.nil)) (.refl _) rfl
            · refine JP1.a h ?_
              exact Le.tow 0 0 rfl (.cons rfl (.refl _) (.nil)) (.refl _) rfl
        · refine bF ?_
          refine JP1.a h ?_
          exact Le.tow 0 0 rfl (.cons rfl (.refl _) (.nil)) (.refl _) rfl
      · refine bF ?_
        refine bF ?_
        refine JP1.a h ?_
        exact Le.tow 0 0 rfl (.cons rfl (.refl _) (.nil)) (.refl _) rfl
    · refine bF ?_
      refine bF ?_
      refine bF ?_
      refine JP1.a h ?_
      exact Le.tow 0 0 rfl (.cons rfl (.refl _) (.nil)) (.refl _) rfl
  · have h := hk
    refine st_ret (t := t_nunciolaw35_TruncMiddles) h ?_
    exact .refl _
end Go.Proofs.YtebkhehjfkmdiaaDoor
end

section
namespace Go.Proofs.YtebkhehjfkmdiaaDoor
open Go.RowKit

def frontF : Nat → List UInt8 → Nat → Nat
  | 0, _, _ => 0
  | n + 1, l, m => match l with
    | [] => 0
    | _ :: _ => if (nextP l).2 ≤ m then (nextP l).2 + frontF n (l.drop (nextP l).2) (m - (nextP l).2) else 0
theorem frontF_step (n : Nat) (l : List UInt8) (m : Nat) (h : l ≠ []) : frontF (n + 1) l m = if (nextP l).2 ≤ m then (nextP l).2 + frontF n (l.drop (nextP l).2) (m - (nextP l).2) else 0 := by
  cases l with
  | nil => exact absurd rfl h
  | cons c r => rfl
theorem frontF_le : ∀ (n : Nat) (l : List UInt8) (m : Nat), frontF n l m ≤ m ∧ frontF n l m ≤ l.length
  | 0, l, m => by simp [frontF]
  | n + 1, [], m => by simp [frontF]
  | n + 1, c :: r, m => by
    rw [frontF_step n (c :: r) m (List.cons_ne_nil _ _)]
    obtain ⟨z1, z2⟩ := nextP_size (c :: r) (List.cons_ne_nil _ _)
    split
    · rename_i h
      obtain ⟨h1, h2⟩ := frontF_le n ((c :: r).drop (nextP (c :: r)).2) (m - (nextP (c :: r)).2)
      rw [List.length_drop] at h2
      omega
    · omega
theorem gtI (a b : Nat) : decide ((a : Int) > (b : Int)) = decide (b < a) := ltI b a
theorem rFrontL (s : List UInt8) (hs : s.length < 9000000000000) (m : Nat) (hm : m < 9000000000000) : ∀ n k, k ≤ s.length → s.length - k ≤ n → k ≤ m →
    R02_Front_L1 s m k = some (if k + frontF n (s.drop k) (m - k) = s.length then .inl () else .inr (s.take (k + frontF n (s.drop k) (m - k)))) := by
  intro n
  induction n with
  | zero =>
    intro k h1 h2 h3
    rw [R02_Front_L1, ltI, decide_eq_false (by omega : ¬ k < s.length), if_neg (by decide), frontF, if_pos (by omega)]
  | succ n ih =>
    intro k h1 h2 h3
    by_cases hk : k < s.length
    · have hne : s.drop k ≠ [] := by rw [dropE hk]; exact List.cons_ne_nil _ _
      obtain ⟨z1, z2⟩ := nextP_size _ hne
      rw [List.length_drop] at z2
      have ew : wr ((k : Int) + ((nextP (s.drop k)).2 : Int)) = ((k + (nextP (s.drop k)).2 : Nat) : Int) := by rw [wr_in (by omega) (by omega)]; rfl
      have em : wr ((m : Int) - (k : Int)) = ((m - k : Nat) : Int) := by rw [wr_in (by omega) (by omega)]; omega
      rw [R02_Front_L1, ltI, decide_eq_true hk, rNext s k hk hs]
      simp only [if_true, bind_some']
      rw [em, gtI, ew, frontF_step n _ _ hne]
      by_cases hb : (nextP (s.drop k)).2 ≤ m - k
      · rw [decide_eq_false (by omega), if_neg (by decide), ih _ (by omega) (by omega) (by omega), if_pos hb, List.drop_drop, Nat.sub_sub, Nat.add_assoc]
      · rw [decide_eq_true (by omega), if_pos rfl, cutL_ok (by omega) (by omega) (by omega), if_neg hb, Nat.add_zero, if_neg (by omega)]
        simp
    · rw [R02_Front_L1, ltI, decide_eq_false hk, List.drop_eq_nil_of_le (by omega), if_neg (by decide)]
      rw [frontF, if_pos (by omega)]
theorem rFront (s : List UInt8) (hs : s.length < 9000000000000) (m : Nat) (hm : m < 9000000000000) : R02_Front s m = some (s.take (frontF s.length s m)) := by
  have := rFrontL s hs m hm s.length 0 (by omega) (by omega) (by omega)
  rw [R02_Front, show (0 : Int) = ((0 : Nat) : Int) from rfl, this, List.drop_zero, Nat.zero_add, Nat.sub_zero]
  split
  · rename_i h; rw [bind_some', h, List.take_length]
  · rfl
theorem tFrontL (s : List UInt8) (hs : s.length < 9000000000000) (m : Nat) (hm : m < 9000000000000) (p0 x2 : List UInt8) : ∀ n k, k ≤ s.length → s.length - k ≤ n → k ≤ m →
    ∃ out, utf_all_1_L1 s k = some (out, ()) ∧ ∃ o, utf_Front_L1 p0 m x2 out k = some o ∧ (o = .inl ((k + frontF n (s.drop k) (m - k) : Nat) : Int) ∨ o = .inr ((k + frontF n (s.drop k) (m - k) : Nat) : Int)) := by
  have key : ∀ n k, k ≤ s.length → s.length - k ≤ n → ∃ out, utf_all_1_L1 s k = some (out, ()) ∧ ((hkm : k ≤ m) → ∃ o, utf_Front_L1 p0 m x2 out k = some o ∧ (o = .inl ((k + frontF n (s.drop k) (m - k) : Nat) : Int) ∨ o = .inr ((k + frontF n (s.drop k) (m - k) : Nat) : Int))) := by
    intro n
    induction n with
    | zero =>
      intro k h1 h2
      rw [utf_all_1_L1, ltI, decide_eq_false (by omega : ¬ k < s.length)]
      refine ⟨[], rfl, fun h3 => ⟨.inl (k : Int), ?_, .inl rfl⟩⟩
      rw [utf_Front_L1]
    | succ n ih =>
      intro k h1 h2
      by_cases hk : k < s.length
      · have hne : s.drop k ≠ [] := by rw [dropE hk]; exact List.cons_ne_nil _ _
        obtain ⟨z1, z2⟩ := nextP_size _ hne
        rw [List.length_drop] at z2
        have ew : wr ((k : Int) + ((nextP (s.drop k)).2 : Int)) = ((k + (nextP (s.drop k)).2 : Nat) : Int) := by rw [wr_in (by omega) (by omega)]; rfl
        obtain ⟨out, o1, o2⟩ := ih (k + (nextP (s.drop k)).2) (by omega) (by omega)
        rw [utf_all_1_L1, ltI, decide_eq_true hk, tNext s k hk (by omega)]
        simp only [if_true, bind_some']
        rw [ew, o1]
        refine ⟨_, rfl, fun h3 => ?_⟩
        have em : wr ((m : Int) - (k : Int)) = ((m - k : Nat) : Int) := by rw [wr_in (by omega) (by omega)]; omega
        rw [utf_Front_L1, frontF_step n _ _ hne]
        simp only
        rw [em, gtI, ew]
        by_cases hb : (nextP (s.drop k)).2 ≤ m - k
        · obtain ⟨o, q1, q2⟩ := o2 (by omega)
          rw [decide_eq_false (by omega), if_neg (by decide), if_pos hb]
          refine ⟨o, q1, ?_⟩
          rw [List.drop_drop, Nat.sub_sub, ← Nat.add_assoc]
          exact q2
        · rw [decide_eq_true (by omega), if_pos rfl, if_neg hb, Nat.add_zero]
          exact ⟨_, rfl, .inr rfl⟩
      · rw [utf_all_1_L1, ltI, decide_eq_false hk, List.drop_eq_nil_of_le (by omega)]
        refine ⟨[], rfl, fun h3 => ⟨.inl (k : Int), ?_, .inl ?_⟩⟩
        · rw [utf_Front_L1]
        · rw [frontF]; rfl
  intro n k h1 h2 h3
  obtain ⟨out, o1, o2⟩ := key n k h1 h2
  exact ⟨out, o1, o2 h3⟩
theorem tFront (s : List UInt8) (hs : s.length < 9000000000000) (m : Nat) (hm : m < 9000000000000) : utf_Front s m = some (s.take (frontF s.length s m)) := by
  obtain ⟨out, o1, o, o2, o3⟩ := tFrontL s hs m hm s s s.length 0 (by omega) (by omega) (by omega)
  rw [List.drop_zero, Nat.zero_add, Nat.sub_zero] at o3
  rw [utf_Front, utf_all]
  simp only [bind_some']
  rw [utf_all_1, show (0 : Int) = ((0 : Nat) : Int) from rfl, o1]
  simp only [bind_some', List.append_nil, o2]
  have hl := (frontF_le s.length s m).2
  rcases o3 with rfl | rfl
  · simp only [bind_some']
    rw [cutL_ok (by omega) (by omega) (by omega)]
    simp
  · simp only [bind_some']
    rw [cutL_ok (by omega) (by omega) (by omega)]
    simp

abbrev bad1 (l : List UInt8) : Prop := (nextP l).1 = 65533 ∧ (nextP l).2 = 1
theorem utfF_nil : ∀ n, utfF n [] = true
  | 0 => rfl
  | _ + 1 => rfl
theorem utfF_more : ∀ (n n' : Nat) (l : List UInt8), l.length ≤ n → l.length ≤ n' → utfF n l = utfF n' l
  | 0, n', [], _, _ => by rw [utfF_nil, utfF_nil]
  | n + 1, n', [], _, _ => by rw [utfF_nil, utfF_nil]
  | 0, _, _ :: _, h, _ => by simp at h
  | n + 1, 0, _ :: _, _, h => by simp at h
  | n + 1, n' + 1, c :: r, h, h' => by
    obtain ⟨z1, z2⟩ := nextP_size (c :: r) (List.cons_ne_nil _ _)
    rw [utfF_step n _ (List.cons_ne_nil _ _), utfF_step n' _ (List.cons_ne_nil _ _)]
    rw [utfF_more n n' _ (by rw [List.length_drop]; omega) (by rw [List.length_drop]; omega)]
abbrev okU (l : List UInt8) : Prop := utfF l.length l = true
theorem okU_iff {l : List UInt8} (h : l ≠ []) : okU l ↔ ¬ bad1 l ∧ okU (l.drop (nextP l).2) := by
  obtain ⟨z1, z2⟩ := nextP_size l h
  obtain ⟨n, hn⟩ : ∃ n, l.length = n + 1 := ⟨l.length - 1, by omega⟩
  unfold okU
  rw [hn, utfF_step n l h, utfF_more n (l.drop (nextP l).2).length _ (by rw [List.length_drop]; omega) (Nat.le_refl _)]
  by_cases hb : bad1 l
  · rw [if_pos hb]; simp [hb]
  · rw [if_neg hb]; simp [hb]
theorem okU_nil : okU [] := rfl
/-- A rune that is none of the bad ones is read from its own bytes. -/
theorem nextP_pre (l : List UInt8) (h : l ≠ []) (hb : ¬ bad1 l) (z : List UInt8) : nextP (l.take (nextP l).2 ++ z) = nextP l := by
  cases l with
  | nil => exact absurd rfl h
  | cons c r =>
    unfold bad1 at hb
    simp only [nextP] at hb ⊢
    by_cases h1 : c.toNat < 128
    · have e : nextC c r = (c.toNat, 1) := by unfold nextC; rw [if_pos h1]
      rw [e]
      show nextC c ([] ++ z) = _
      unfold nextC; rw [if_pos h1]
    · by_cases h2 : 192 ≤ c.toNat ∧ c.toNat < 224
      · cases r with
        | nil => exact absurd (by unfold nextC; rw [if_neg h1, if_pos h2]; exact ⟨rfl, rfl⟩) hb
        | cons c1 r =>
          by_cases g : contB c1 = true ∧ 128 ≤ (c.toNat - 192) * 64 + (c1.toNat - 128)
          · have e : ∀ q, nextC c (c1 :: q) = ((c.toNat - 192) * 64 + (c1.toNat - 128), 2) := fun q => by unfold nextC; rw [if_neg h1, if_pos h2]; simp only; rw [if_pos g]
            rw [e]
            exact e ([] ++ z)
          · exact absurd (by unfold nextC; rw [if_neg h1, if_pos h2]; simp only; rw [if_neg g]; exact ⟨rfl, rfl⟩) hb
      · by_cases h3 : 224 ≤ c.toNat ∧ c.toNat < 240
        · rcases r with _ | ⟨c1, _ | ⟨c2, r⟩⟩
          · exact absurd (by unfold nextC; rw [if_neg h1, if_neg h2, if_pos h3]; exact ⟨rfl, rfl⟩) hb
          · exact absurd (by unfold nextC; rw [if_neg h1, if_neg h2, if_pos h3]; exact ⟨rfl, rfl⟩) hb
          · by_cases g : contB c1 = true ∧ contB c2 = true ∧ 2048 ≤ ((c.toNat - 224) * 64 + (c1.toNat - 128)) * 64 + (c2.toNat - 128) ∧ runeB (((c.toNat - 224) * 64 + (c1.toNat - 128)) * 64 + (c2.toNat - 128)) = true
            · have e : ∀ q, nextC c (c1 :: c2 :: q) = (((c.toNat - 224) * 64 + (c1.toNat - 128)) * 64 + (c2.toNat - 128), 3) := fun q => by unfold nextC; rw [if_neg h1, if_neg h2, if_pos h3]; simp only; rw [if_pos g]
              rw [e]
              exact e ([] ++ z)
            · exact absurd (by unfold nextC; rw [if_neg h1, if_neg h2, if_pos h3]; simp only; rw [if_neg g]; exact ⟨rfl, rfl⟩) hb
        · by_cases h4 : 240 ≤ c.toNat ∧ c.toNat < 248
          · rcases r with _ | ⟨c1, _ | ⟨c2, _ | ⟨c3, r⟩⟩⟩
            · exact absurd (by unfold nextC; rw [if_neg h1, if_neg h2, if_neg h3, if_pos h4]; exact ⟨rfl, rfl⟩) hb
            · exact absurd (by unfold nextC; rw [if_neg h1, if_neg h2, if_neg h3, if_pos h4]; exact ⟨rfl, rfl⟩) hb
            · exact absurd (by unfold nextC; rw [if_neg h1, if_neg h2, if_neg h3, if_pos h4]; exact ⟨rfl, rfl⟩) hb
            · by_cases g : contB c1 = true ∧ contB c2 = true ∧ contB c3 = true ∧ 65536 ≤ (((c.toNat - 240) * 64 + (c1.toNat - 128)) * 64 + (c2.toNat - 128)) * 64 + (c3.toNat - 128) ∧ runeB ((((c.toNat - 240) * 64 + (c1.toNat - 128)) * 64 + (c2.toNat - 128)) * 64 + (c3.toNat - 128)) = true
              · have e : ∀ q, nextC c (c1 :: c2 :: c3 :: q) = ((((c.toNat - 240) * 64 + (c1.toNat - 128)) * 64 + (c2.toNat - 128)) * 64 + (c3.toNat - 128), 4) := fun q => by unfold nextC; rw [if_neg h1, if_neg h2, if_neg h3, if_pos h4]; simp only; rw [if_pos g]
                rw [e]
                exact e ([] ++ z)
              · exact absurd (by unfold nextC; rw [if_neg h1, if_neg h2, if_neg h3, if_pos h4]; simp only; rw [if_neg g]; exact ⟨rfl, rfl⟩) hb
          · exact absurd (by unfold nextC; rw [if_neg h1, if_neg h2, if_neg h3, if_neg h4]; exact ⟨rfl, rfl⟩) hb
/-- A good rune ahead of a good text. -/
theorem okU_cons (l : List UInt8) (h : l ≠ []) (hb : ¬ bad1 l) (z : List UInt8) (hz : okU z) : okU (l.take (nextP l).2 ++ z) := by
  obtain ⟨z1, z2⟩ := nextP_size l h
  have e := nextP_pre l h hb z
  have hl : (l.take (nextP l).2).length = (nextP l).2 := by rw [List.length_take]; omega
  have hne : l.take (nextP l).2 ++ z ≠ [] := fun h0 => by
    have := congrArg List.length h0
    rw [List.length_append, hl] at this
    simp at this
    omega
  rw [okU_iff hne, e]
  refine ⟨by unfold bad1; rw [e]; exact hb, ?_⟩
  rw [List.drop_append_of_le_length (Nat.le_of_eq hl.symm), List.drop_eq_nil_of_le (Nat.le_of_eq hl), List.nil_append]
  exact hz
theorem okU_front : ∀ (n : Nat) (l : List UInt8) (m : Nat) (z : List UInt8), okU l → okU z → okU (l.take (frontF n l m) ++ z)
  | 0, l, m, z, _, hz => by rw [frontF]; exact hz
  | n + 1, [], m, z, _, hz => by rw [frontF]; exact hz
  | n + 1, c :: r, m, z, hl, hz => by
    have hne : c :: r ≠ [] := List.cons_ne_nil _ _
    rw [frontF_step n (c :: r) m hne]
    obtain ⟨hb, hr⟩ := (okU_iff hne).1 hl
    split
    · rw [List.take_add, List.append_assoc]
      exact okU_cons _ hne hb _ (okU_front n _ _ z hr hz)
    · exact hz
def mark : List UInt8 := [226, 128, 166]
theorem okU_mark (z : List UInt8) (h : okU z) : okU (mark ++ z) := okU_cons mark (by decide) (by decide +kernel) z h
theorem rMark : R35_Mark = some mark := by
  have := rBytes 8230 (by decide +kernel)
  rw [R35_Mark, show (8230 : Int) = ((8230 : Nat) : Int) from rfl, this]
  exact congrArg some (by decide +kernel)
end Go.Proofs.YtebkhehjfkmdiaaDoor
end

section
namespace Go.Proofs.YtebkhehjfkmdiaaDoor
open Go.RowKit

def cutS (b : UInt8) : List UInt8 → List (List UInt8)
  | [] => [[]]
  | a :: t => if a == b then [] :: cutS b t else match cutS b t with
    | x :: r => (a :: x) :: r
    | [] => [[a]]
theorem cutS_ne (b : UInt8) : ∀ l, cutS b l ≠ []
  | [] => by simp [cutS]
  | a :: t => by
    rw [cutS]
    split
    · simp
    · split <;> simp
theorem cutS_free (b : UInt8) : ∀ p : List UInt8, b ∉ p → cutS b p = [p]
  | [], _ => rfl
  | a :: t, h => by
    simp only [List.mem_cons, not_or] at h
    have ha : ¬ (a == b) = true := by simpa using fun e : a = b => h.1 e.symm
    rw [cutS, if_neg ha, cutS_free b t h.2]
theorem cutS_at (b : UInt8) (t : List UInt8) : ∀ p : List UInt8, b ∉ p → cutS b (p ++ b :: t) = p :: cutS b t
  | [], _ => by simp [cutS]
  | a :: p, h => by
    simp only [List.mem_cons, not_or] at h
    have ha : ¬ (a == b) = true := by simpa using fun e : a = b => h.1 e.symm
    rw [List.cons_append, cutS, if_neg ha, cutS_at b t p h.2]
theorem cutS_len (b : UInt8) (l : List UInt8) : (cutS b l).length ≤ l.length + 1 ∧ ∀ x ∈ cutS b l, x.length ≤ l.length := by
  induction l with
  | nil => simp [cutS]
  | cons a t ih =>
    obtain ⟨h1, h2⟩ := ih
    rw [cutS]
    split
    · refine ⟨by simp; omega, fun x hx => ?_⟩
      rcases List.mem_cons.1 hx with rfl | hx
      · simp
      · have := h2 x hx; rw [List.length_cons]; omega
    · split
      · rename_i x r hc
        rw [hc] at h1 h2
        refine ⟨by simp at h1 ⊢; omega, fun y hy => ?_⟩
        rcases List.mem_cons.1 hy with rfl | hy
        · have := h2 x (by simp); simp; omega
        · have := h2 y (by simp [hy]); rw [List.length_cons]; omega
      · exact ⟨by simp, fun y hy => by simp at hy; subst hy; simp⟩
theorem index_one (b : UInt8) : ∀ l : List UInt8, (Lib.index l [b] = -1 ∧ b ∉ l) ∨ ∃ p t, l = p ++ b :: t ∧ b ∉ p ∧ Lib.index l [b] = (p.length : Int)
  | [] => .inl ⟨rfl, by simp⟩
  | a :: l => by
    by_cases h : (b == a) = true
    · have e : b = a := by simpa using h
      subst e
      exact .inr ⟨[], l, rfl, by simp, by unfold Lib.index; rw [if_pos (by simp [List.isPrefixOf])]; rfl⟩
    · have hp : [b].isPrefixOf (a :: l) = false := by simp [List.isPrefixOf]; simpa using h
      have hne : b ≠ a := by simpa using h
      rcases index_one b l with ⟨h1, h2⟩ | ⟨p, t, h1, h2, h3⟩
      · refine .inl ⟨by unfold Lib.index; rw [hp, h1]; rfl, by simp [h2, hne]⟩
      · refine .inr ⟨a :: p, t, by rw [h1]; rfl, by simp [h2, hne], ?_⟩
        unfold Lib.index
        rw [hp, h3]
        have : ((p.length : Int) == -1) = false := by rw [beq_eq_false_iff_ne]; omega
        simp [this]
end Go.Proofs.YtebkhehjfkmdiaaDoor
end
