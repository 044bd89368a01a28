/- The proof's texts, part 10 of 10: the walks by a logic in which data are by value, the plain laws, and at the end the law, for every input. -/
import Derived.Test.YteahaflhihioaaaGreatDoorMgBuiltLong9
import Derived.Test.YteahaflhihioaaaGreatDoorCards
import Derived.Test.YteahaflhihioaaaGreatDoorTie
import Derived.ChangeVars
import Derived.LaidLaws
import Derived.LaidMore
import Derived.Lay
import Derived.SevenTiedAt
import Derived.Stop.Joined

section
namespace Go.Proofs.YteahaflhihioaaaGreatDoor
open Go.RowKit

def bytesN (n : Nat) : List Nat :=
  if n < 128 then [n] else if n < 2048 then [192 + n / 64, 128 + n % 64] else if n < 65536 then [224 + n / 4096, 128 + n / 64 % 64, 128 + n % 64] else [240 + n / 262144, 128 + n / 4096 % 64, 128 + n / 64 % 64, 128 + n % 64]
theorem bytes_eq (l : List Nat) (h : ∀ x ∈ l, x < 256) (m : List UInt8) : (l.map UInt8.ofNat == m) = decide (l = m.map UInt8.toNat) := by
  have key : l.map UInt8.ofNat = m ↔ l = m.map UInt8.toNat := by
    constructor
    · intro e
      subst e
      rw [List.map_map]
      conv => lhs; rw [← List.map_id l]
      refine List.map_congr_left fun x hx => ?_
      have := h x hx
      show x = (UInt8.ofNat x).toNat
      rw [UInt8.toNat_ofNat', Nat.mod_eq_of_lt this]
    · intro e
      subst e
      rw [List.map_map]
      conv => rhs; rw [← List.map_id m]
      exact List.map_congr_left fun x _ => by simp
  by_cases he : l.map UInt8.ofNat = m
  · rw [decide_eq_true (key.1 he), beq_iff_eq]; exact he
  · rw [decide_eq_false (fun k => he (key.2 k)), beq_eq_false_iff_ne]; exact he
theorem b2s_ok (l : List Nat) (h : ∀ x ∈ l, x < 256) : b2s (l.map fun x : Nat => (x : Int)) = some (l.map UInt8.ofNat) := by
  unfold b2s
  rw [if_pos]
  · rw [List.map_map]; rfl
  · rw [List.all_eq_true]
    intro n hn
    obtain ⟨x, hx, rfl⟩ := List.mem_map.1 hn
    have := h x hx
    simp only [decide_eq_true_eq]
    omega
theorem td (n k : Nat) : ((n : Int).tdiv (k : Int)) = ((n / k : Nat) : Int) := by rw [Int.tdiv_eq_ediv_of_nonneg (by omega)]; rfl
theorem tm (n k : Nat) : ((n : Int).tmod (k : Int)) = ((n % k : Nat) : Int) := by rw [Int.tmod_eq_emod_of_nonneg (by omega)]; rfl
theorem wrN (n : Nat) (h : n < 9000000000000) : wr (n : Int) = (n : Int) := wr_in (by omega) (by omega)
theorem u8N (n : Nat) (h : n < 256) : IntKind.u8.wrap (n : Int) = (n : Int) := u8_in (by omega) (by omega)
set_option maxRecDepth 20000 in
theorem rBytes (n : Nat) (h : runeB n = true) : R02_Bytes (n : Int) = some ((bytesN n).map UInt8.ofNat) := by
  have hn : n ≤ 1114111 := by unfold runeB at h; rw [Bool.and_eq_true] at h; exact of_decide_eq_true h.1
  have a1 : decide ((n : Int) < 128) = decide (n < 128) := ltI n 128
  have a2 : decide ((n : Int) < 2048) = decide (n < 2048) := ltI n 2048
  have a3 : decide ((n : Int) < 65536) = decide (n < 65536) := ltI n 65536
  have d64 : (n : Int).tdiv 64 = ((n / 64 : Nat) : Int) := td n 64
  have m64 : (n : Int).tmod 64 = ((n % 64 : Nat) : Int) := tm n 64
  have d4096 : (n : Int).tdiv 4096 = ((n / 4096 : Nat) : Int) := td n 4096
  have d262 : (n : Int).tdiv 262144 = ((n / 262144 : Nat) : Int) := td n 262144
  have w1 : ∀ a b : Nat, a + b < 256 → IntKind.u8.wrap (wr ((a : Int) + (b : Int))) = ((a + b : Nat) : Int) := fun a b h => by
    rw [wr_in (by omega) (by omega), u8_in (by omega) (by omega)]; rfl
  rw [R02_Bytes, rIsR, h]
  simp only [bind_some', Bool.not_true, Bool.false_eq_true, if_false, a1, a2, a3, d64, m64, d4096, d262]
  rw [wrN (n / 64) (by omega), wrN (n / 4096) (by omega), wrN (n / 262144) (by omega)]
  have t64 : (((n / 64 : Nat) : Int)).tmod 64 = ((n / 64 % 64 : Nat) : Int) := tm (n / 64) 64
  have t4096 : (((n / 4096 : Nat) : Int)).tmod 64 = ((n / 4096 % 64 : Nat) : Int) := tm (n / 4096) 64
  rw [t64, t4096]
  unfold bytesN
  by_cases h1 : n < 128
  · rw [decide_eq_true h1, if_pos h1, u8N n (by omega)]
    simp only [if_true]
    have := b2s_ok [n] (by simp; omega)
    simp only [List.map_cons, List.map_nil] at this
    rw [this]; rfl
  rw [decide_eq_false h1, if_neg h1]
  by_cases h2 : n < 2048
  · rw [decide_eq_true h2, if_pos h2]
    have e1 := w1 192 (n / 64) (by omega)
    have e2 := w1 128 (n % 64) (by omega)
    have := b2s_ok [192 + n / 64, 128 + n % 64] (by simp; omega)
    simp only [List.map_cons, List.map_nil] at this
    simp only [Bool.false_eq_true, if_false, if_true]
    rw [show (192 : Int) = ((192 : Nat) : Int) from rfl, show (128 : Int) = ((128 : Nat) : Int) from rfl, e1, e2, this]; rfl
  rw [decide_eq_false h2, if_neg h2]
  by_cases h3 : n < 65536
  · rw [decide_eq_true h3, if_pos h3]
    have e1 := w1 224 (n / 4096) (by omega)
    have e2 := w1 128 (n / 64 % 64) (by omega)
    have e3 := w1 128 (n % 64) (by omega)
    have := b2s_ok [224 + n / 4096, 128 + n / 64 % 64, 128 + n % 64] (by simp; omega)
    simp only [List.map_cons, List.map_nil] at this
    simp only [Bool.false_eq_true, if_false, if_true]
    rw [show (224 : Int) = ((224 : Nat) : Int) from rfl, show (128 : Int) = ((128 : Nat) : Int) from rfl, e1, e2, e3, this]; rfl
  rw [decide_eq_false h3, if_neg h3]
  have e0 := w1 240 (n / 262144) (by omega)
  have e1 := w1 128 (n / 4096 % 64) (by omega)
  have e2 := w1 128 (n / 64 % 64) (by omega)
  have e3 := w1 128 (n % 64) (by omega)
  have := b2s_ok [240 + n / 262144, 128 + n / 4096 % 64, 128 + n / 64 % 64, 128 + n % 64] (by simp; omega)
  simp only [List.map_cons, List.map_nil] at this
  simp only [Bool.false_eq_true, if_false]
  rw [show (240 : Int) = ((240 : Nat) : Int) from rfl, show (128 : Int) = ((128 : Nat) : Int) from rfl, e0, e1, e2, e3, this]; rfl
theorem bytesN_lt (n : Nat) (h : n ≤ 1114111) : ∀ x ∈ bytesN n, x < 256 := by
  unfold bytesN
  split
  · simp; omega
  · split
    · simp; omega
    · split <;> simp <;> omega
theorem rTest (s : List UInt8) (k m : Nat) (hm : k + m ≤ s.length) (hs : s.length < 9000000000000) (n : Int) :
    ( if (decide (n ≥ 0)) = true then
        R02_Rune n >>= fun x11 =>
        if x11 = true then
          R02_Bytes n >>= fun x12 =>
          cutL s k (wr ((k : Int) + m)) >>= fun x13 =>
          some (x12 == x13)
        else
          some false
      else
        some false : Option Bool) = some (decide (0 ≤ n) && (runeB n.toNat && decide (bytesN n.toNat = ((s.take (k + m)).drop k).map UInt8.toNat))) := by
  have e : wr ((k : Int) + m) = ((k + m : Nat) : Int) := by rw [wr_in (by omega) (by omega)]; rfl
  by_cases h : 0 ≤ n
  · obtain ⟨v, rfl⟩ : ∃ v : Nat, n = v := ⟨n.toNat, by omega⟩
    rw [decide_eq_true (show (v : Int) ≥ 0 by omega), rIsR, e, cutL_ok (by omega) (by omega) (by omega)]
    simp only [if_true, bind_some', Int.toNat_natCast, Bool.true_and]
    cases hr : runeB v with
    | false => rfl
    | true =>
      have hv : v ≤ 1114111 := by unfold runeB at hr; rw [Bool.and_eq_true] at hr; exact of_decide_eq_true hr.1
      rw [rBytes v hr]
      simp only [if_true, bind_some', bytes_eq _ (bytesN_lt v hv), Bool.true_and]
  · rw [decide_eq_false (show ¬ n ≥ 0 from h)]; rfl

theorem wr64 (a b : Int) (ha : -3000000 ≤ a) (ha2 : a ≤ 3000000) (hb : 0 ≤ b) (hb2 : b ≤ 255) : wr ((wr ((wr (64 * a)) + (wr b))) - 128) = 64 * a + b - 128 := by
  rw [wr_in (n := 64 * a) (by omega) (by omega), wr_in (n := b) (by omega) (by omega), wr_in (n := 64 * a + b) (by omega) (by omega), wr_in (by omega) (by omega)]
/-- What the next byte adds. -/
def addN (a : Int) (c : UInt8) : Int := 64 * a + c.toNat - 128
theorem rL2 (s : List UInt8) (k : Nat) (v6 : List Int) (m : Nat) (hm : k + m ≤ s.length) (hm4 : m ≤ 4) (hs : s.length < 9000000000000) : ∀ d (i : Nat) (v : Int), i + d = m → 1 ≤ i → (i = 1 → -300 ≤ v ∧ v ≤ 300) → (i = 2 → -30000 ≤ v ∧ v ≤ 30000) → (i = 3 → -3000000 ≤ v ∧ v ≤ 3000000) →
    R02_Next_L2 s k v6 m v i = some (((s.drop (k + i)).take d).foldl addN v) := by
  intro d
  induction d with
  | zero =>
    intro i v hi _ _ _ _
    rw [R02_Next_L2, ltI, decide_eq_false (by omega : ¬ i < m)]
    simp
  | succ d ih =>
    intro i v hi hi1 h1 h2 h3
    have hk : k + i < s.length := by omega
    have e1 : wr ((k : Int) + i) = ((k + i : Nat) : Int) := by rw [wr_in (by omega) (by omega)]; rfl
    have hc := s[k + i].toNat_lt
    have hb : -3000000 ≤ v ∧ v ≤ 3000000 := by omega
    rw [R02_Next_L2, ltI, decide_eq_true (by omega : i < m), e1, wr_succ (by omega)]
    simp only [if_true, idx_nat, getE hk, bind_some']
    rw [wr64 v _ hb.1 hb.2 (by omega) (by omega), dropE hk, List.take_succ_cons, List.foldl_cons]
    exact ih (i + 1) (addN v s[k + i]) (by omega) (by omega) (by omega) (by unfold addN; omega) (by unfold addN; omega)
def leadL : List Int := [0, 0, 192, 224, 240]
/-- The number that so many bytes would be. -/
def numN (c : UInt8) (r : List UInt8) (m : Nat) : Int := (r.take (m - 1)).foldl addN ((c.toNat : Int) - (leadL[m]?.getD 0))
def tstB (c : UInt8) (r : List UInt8) (m : Nat) : Bool := decide (0 ≤ numN c r m) && (runeB (numN c r m).toNat && decide (bytesN (numN c r m).toNat = ((c :: r).take m).map UInt8.toNat))
theorem rL1 (s : List UInt8) (k : Nat) (hk : k < s.length) (hs : s.length < 9000000000000) (m : Nat) (h1 : 1 ≤ m) (h4 : m ≤ 4) :
    R02_Next_L1 s k leadL m = if k + m ≤ s.length then (if tstB s[k] (s.drop (k + 1)) m = true then some (.inr (numN s[k] (s.drop (k + 1)) m, (m : Int))) else R02_Next_L1 s k leadL ((m + 1 : Nat) : Int)) else some (.inl ()) := by
  have e0 : wr ((s.length : Int) - k) = ((s.length - k : Nat) : Int) := by rw [wr_in (by omega) (by omega)]; omega
  have a4 : decide ((m : Int) ≤ 4) = true := decide_eq_true (by omega)
  have hc := s[k].toNat_lt
  rw [R02_Next_L1, e0, a4]
  by_cases hm : k + m ≤ s.length
  · have a5 : decide ((m : Int) ≤ ((s.length - k : Nat) : Int)) = true := decide_eq_true (by omega)
    obtain ⟨ld, hld, hl0, hl1⟩ : ∃ ld : Int, leadL[m]? = some ld ∧ 0 ≤ ld ∧ ld ≤ 240 := by
      match m, h1, h4 with
      | 1, _, _ => exact ⟨0, rfl, by omega, by omega⟩
      | 2, _, _ => exact ⟨192, rfl, by omega, by omega⟩
      | 3, _, _ => exact ⟨224, rfl, by omega, by omega⟩
      | 4, _, _ => exact ⟨240, rfl, by omega, by omega⟩
    have ew : wr ((wr (s[k].toNat : Int)) - ld) = (s[k].toNat : Int) - ld := by rw [wr_in (n := (s[k].toNat : Int)) (by omega) (by omega), wr_in (by omega) (by omega)]
    have h2 := rL2 s k leadL m hm h4 hs (m - 1) 1 ((s[k].toNat : Int) - ld) (by omega) (by omega) (by omega) (by omega) (by omega)
    have en : numN s[k] (s.drop (k + 1)) m = ((s.drop (k + 1)).take (m - 1)).foldl addN ((s[k].toNat : Int) - ld) := by rw [numN, hld]; rfl
    rw [← en, show ((1 : Nat) : Int) = 1 from rfl] at h2
    have ht := rTest s k m hm hs (numN s[k] (s.drop (k + 1)) m)
    have et : ((s.take (k + m)).drop k) = ((s[k] :: s.drop (k + 1)).take m) := by rw [← dropE hk, List.drop_take]; congr 1; omega
    rw [et] at ht
    rw [a5, if_pos hm, wr_succ (by omega)]
    simp only [if_true, bind_some', idx_nat, getE hk, hld, ew, h2]
    rw [ht]
    rfl
  · have a5 : decide ((m : Int) ≤ ((s.length - k : Nat) : Int)) = false := decide_eq_false (by omega)
    rw [a5, if_neg hm]
    rfl
theorem tst1 (c : UInt8) (r : List UInt8) : tstB c r 1 = decide (c.toNat < 128) ∧ numN c r 1 = (c.toNat : Int) := by
  have hc := c.toNat_lt
  have en : numN c r 1 = (c.toNat : Int) := by simp [numN, leadL]
  refine ⟨?_, en⟩
  have hr : runeB c.toNat = true := by unfold runeB; rw [decide_eq_true (by omega), decide_eq_false (by omega)]; rfl
  rw [tstB, en, decide_eq_true (by omega), Int.toNat_natCast, hr]
  simp only [Bool.true_and, List.take_succ_cons, List.take_zero, List.map_cons, List.map_nil]
  unfold bytesN
  by_cases h : c.toNat < 128
  · rw [decide_eq_true h, if_pos h]; simp
  · rw [decide_eq_false h, if_neg h, if_pos (by omega)]
    simp
theorem tst2 (c c1 : UInt8) (r : List UInt8) : tstB c (c1 :: r) 2 = decide ((192 ≤ c.toNat ∧ c.toNat < 224) ∧ contB c1 = true ∧ 128 ≤ (c.toNat - 192) * 64 + (c1.toNat - 128)) ∧ numN c (c1 :: r) 2 = 64 * ((c.toNat : Int) - 192) + c1.toNat - 128 := by
  have hc := c.toNat_lt
  have hc1 := c1.toNat_lt
  have en : numN c (c1 :: r) 2 = 64 * ((c.toNat : Int) - 192) + c1.toNat - 128 := by simp [numN, leadL, addN]
  refine ⟨?_, en⟩
  rw [tstB, en]
  simp only [List.take_succ_cons, List.take_zero, List.map_cons, List.map_nil]
  have hcont : contB c1 = true ↔ (128 ≤ c1.toNat ∧ c1.toNat < 192) := by unfold contB; simp
  by_cases hn : 0 ≤ 64 * ((c.toNat : Int) - 192) + c1.toNat - 128
  · obtain ⟨n, hn2⟩ : ∃ n : Nat, 64 * ((c.toNat : Int) - 192) + c1.toNat - 128 = n := ⟨(64 * ((c.toNat : Int) - 192) + c1.toNat - 128).toNat, by omega⟩
    rw [hn2, Int.toNat_natCast, decide_eq_true (by omega), Bool.true_and]
    have hlt : n < 5000 := by omega
    have hr : runeB n = true := by unfold runeB; rw [decide_eq_true (by omega), decide_eq_false (by omega)]; rfl
    rw [hr, Bool.true_and]
    congr 1
    apply propext
    rw [hcont]
    unfold bytesN
    by_cases h1 : n < 128
    · rw [if_pos h1]
      constructor
      · intro h; simp at h
      · intro h; omega
    · rw [if_neg h1]
      by_cases h2 : n < 2048
      · rw [if_pos h2]
        simp only [List.cons.injEq, and_true]
        omega
      · rw [if_neg h2, if_pos (by omega)]
        constructor
        · intro h; simp at h
        · intro h; omega
  · rw [decide_eq_false hn, Bool.false_and, decide_eq_false]
    rw [hcont]; omega
theorem tst3 (c c1 c2 : UInt8) (r : List UInt8) : tstB c (c1 :: c2 :: r) 3 = decide ((224 ≤ c.toNat ∧ c.toNat < 240) ∧ contB c1 = true ∧ contB c2 = true ∧ 2048 ≤ ((c.toNat - 224) * 64 + (c1.toNat - 128)) * 64 + (c2.toNat - 128) ∧ runeB (((c.toNat - 224) * 64 + (c1.toNat - 128)) * 64 + (c2.toNat - 128)) = true) ∧
    numN c (c1 :: c2 :: r) 3 = 64 * (64 * ((c.toNat : Int) - 224) + c1.toNat - 128) + c2.toNat - 128 := by
  have hc := c.toNat_lt
  have hc1 := c1.toNat_lt
  have hc2 := c2.toNat_lt
  have en : numN c (c1 :: c2 :: r) 3 = 64 * (64 * ((c.toNat : Int) - 224) + c1.toNat - 128) + c2.toNat - 128 := by simp [numN, leadL, addN]
  refine ⟨?_, en⟩
  rw [tstB, en]
  simp only [List.take_succ_cons, List.take_zero, List.map_cons, List.map_nil]
  have hcont : contB c1 = true ↔ (128 ≤ c1.toNat ∧ c1.toNat < 192) := by unfold contB; simp
  have hcont2 : contB c2 = true ↔ (128 ≤ c2.toNat ∧ c2.toNat < 192) := by unfold contB; simp
  by_cases hn : 0 ≤ 64 * (64 * ((c.toNat : Int) - 224) + c1.toNat - 128) + c2.toNat - 128
  · obtain ⟨n, hn2⟩ : ∃ n : Nat, 64 * (64 * ((c.toNat : Int) - 224) + c1.toNat - 128) + c2.toNat - 128 = n := ⟨(64 * (64 * ((c.toNat : Int) - 224) + c1.toNat - 128) + c2.toNat - 128).toNat, by omega⟩
    rw [hn2, Int.toNat_natCast, decide_eq_true (by omega), Bool.true_and]
    have hlt : n < 200000 := by omega
    have key : bytesN n = [c.toNat, c1.toNat, c2.toNat] ↔ ((224 ≤ c.toNat ∧ c.toNat < 240) ∧ (128 ≤ c1.toNat ∧ c1.toNat < 192) ∧ (128 ≤ c2.toNat ∧ c2.toNat < 192) ∧ 2048 ≤ n) := by
      unfold bytesN
      by_cases h1 : n < 128
      · rw [if_pos h1]
        exact ⟨fun h => by simp at h, fun h => by omega⟩
      rw [if_neg h1]
      by_cases h2 : n < 2048
      · rw [if_pos h2]
        exact ⟨fun h => by simp at h, fun h => by omega⟩
      rw [if_neg h2]
      by_cases h3 : n < 65536
      · rw [if_pos h3]
        simp only [List.cons.injEq, and_true]
        omega
      · rw [if_neg h3]
        exact ⟨fun h => by simp at h, fun h => by omega⟩
    rw [Bool.eq_iff_iff]
    simp only [Bool.and_eq_true, decide_eq_true_eq]
    rw [key, hcont, hcont2]
    constructor
    · rintro ⟨hr, a, b, c', d⟩
      have e : ((c.toNat - 224) * 64 + (c1.toNat - 128)) * 64 + (c2.toNat - 128) = n := by omega
      exact ⟨a, b, c', by omega, by rw [e]; exact hr⟩
    · rintro ⟨a, b, c', d, hr⟩
      have e : ((c.toNat - 224) * 64 + (c1.toNat - 128)) * 64 + (c2.toNat - 128) = n := by omega
      rw [e] at hr d
      exact ⟨hr, a, b, c', d⟩
  · rw [decide_eq_false hn, Bool.false_and, decide_eq_false]
    rw [hcont, hcont2]; omega
theorem tst4 (c c1 c2 c3 : UInt8) (r : List UInt8) : tstB c (c1 :: c2 :: c3 :: r) 4 = decide ((240 ≤ c.toNat ∧ c.toNat < 248) ∧ contB c1 = true ∧ contB c2 = true ∧ contB c3 = true ∧ 65536 ≤ (((c.toNat - 240) * 64 + (c1.toNat - 128)) * 64 + (c2.toNat - 128)) * 64 + (c3.toNat - 128) ∧ runeB ((((c.toNat - 240) * 64 + (c1.toNat - 128)) * 64 + (c2.toNat - 128)) * 64 + (c3.toNat - 128)) = true) ∧
    numN c (c1 :: c2 :: c3 :: r) 4 = 64 * (64 * (64 * ((c.toNat : Int) - 240) + c1.toNat - 128) + c2.toNat - 128) + c3.toNat - 128 := by
  have hc := c.toNat_lt
  have hc1 := c1.toNat_lt
  have hc2 := c2.toNat_lt
  have hc3 := c3.toNat_lt
  have en : numN c (c1 :: c2 :: c3 :: r) 4 = 64 * (64 * (64 * ((c.toNat : Int) - 240) + c1.toNat - 128) + c2.toNat - 128) + c3.toNat - 128 := by simp [numN, leadL, addN]
  refine ⟨?_, en⟩
  rw [tstB, en]
  simp only [List.take_succ_cons, List.take_zero, List.map_cons, List.map_nil]
  have hcont : contB c1 = true ↔ (128 ≤ c1.toNat ∧ c1.toNat < 192) := by unfold contB; simp
  have hcont2 : contB c2 = true ↔ (128 ≤ c2.toNat ∧ c2.toNat < 192) := by unfold contB; simp
  have hcont3 : contB c3 = true ↔ (128 ≤ c3.toNat ∧ c3.toNat < 192) := by unfold contB; simp
  by_cases hn : 0 ≤ 64 * (64 * (64 * ((c.toNat : Int) - 240) + c1.toNat - 128) + c2.toNat - 128) + c3.toNat - 128
  · obtain ⟨n, hn2⟩ : ∃ n : Nat, 64 * (64 * (64 * ((c.toNat : Int) - 240) + c1.toNat - 128) + c2.toNat - 128) + c3.toNat - 128 = n := ⟨(64 * (64 * (64 * ((c.toNat : Int) - 240) + c1.toNat - 128) + c2.toNat - 128) + c3.toNat - 128).toNat, by omega⟩
    rw [hn2, Int.toNat_natCast, decide_eq_true (by omega), Bool.true_and]
    have key : runeB n = true → (bytesN n = [c.toNat, c1.toNat, c2.toNat, c3.toNat] ↔ ((240 ≤ c.toNat ∧ c.toNat < 248) ∧ (128 ≤ c1.toNat ∧ c1.toNat < 192) ∧ (128 ≤ c2.toNat ∧ c2.toNat < 192) ∧ (128 ≤ c3.toNat ∧ c3.toNat < 192) ∧ 65536 ≤ n)) := fun hr => by
      have hlt : n ≤ 1114111 := by unfold runeB at hr; rw [Bool.and_eq_true] at hr; exact of_decide_eq_true hr.1
      unfold bytesN
      by_cases h1 : n < 128
      · rw [if_pos h1]
        exact ⟨fun h => by simp at h, fun h => by omega⟩
      rw [if_neg h1]
      by_cases h2 : n < 2048
      · rw [if_pos h2]
        exact ⟨fun h => by simp at h, fun h => by omega⟩
      rw [if_neg h2]
      by_cases h3 : n < 65536
      · rw [if_pos h3]
        exact ⟨fun h => by simp at h, fun h => by omega⟩
      · rw [if_neg h3]
        simp only [List.cons.injEq, and_true]
        omega
    rw [Bool.eq_iff_iff]
    simp only [Bool.and_eq_true, decide_eq_true_eq]
    rw [hcont, hcont2, hcont3]
    constructor
    · rintro ⟨hr, hb⟩
      obtain ⟨a, b, c', d', d⟩ := (key hr).1 hb
      have e : (((c.toNat - 240) * 64 + (c1.toNat - 128)) * 64 + (c2.toNat - 128)) * 64 + (c3.toNat - 128) = n := by omega
      exact ⟨a, b, c', d', by omega, by rw [e]; exact hr⟩
    · rintro ⟨a, b, c', d', d, hr⟩
      have e : (((c.toNat - 240) * 64 + (c1.toNat - 128)) * 64 + (c2.toNat - 128)) * 64 + (c3.toNat - 128) = n := by omega
      rw [e] at hr d
      exact ⟨hr, (key hr).2 ⟨a, b, c', d', d⟩⟩
  · rw [decide_eq_false hn, Bool.false_and, decide_eq_false]
    rw [hcont, hcont2, hcont3]; omega
theorem rNext (s : List UInt8) (k : Nat) (hk : k < s.length) (hs : s.length < 9000000000000) : R02_Next s k = some (((nextP (s.drop k)).1 : Int), ((nextP (s.drop k)).2 : Int)) := by
  have d1 : decide ((k : Int) < 0) = false := decide_eq_false (by omega)
  have d2 : decide ((k : Int) ≥ (s.length : Int)) = false := decide_eq_false (by omega)
  have hc := s[k].toNat_lt
  have l1 := rL1 s k hk hs 1 (by omega) (by omega)
  have l2 := rL1 s k hk hs 2 (by omega) (by omega)
  have l3 := rL1 s k hk hs 3 (by omega) (by omega)
  have l4 := rL1 s k hk hs 4 (by omega) (by omega)
  have l5 : R02_Next_L1 s k leadL ((4 + 1 : Nat) : Int) = some (.inl ()) := by
    rw [R02_Next_L1, show decide (((4 + 1 : Nat) : Int) ≤ 4) = false from rfl]
    simp only [Bool.false_eq_true, if_false, bind_some']
  have hdl : (s.drop (k + 1)).length = s.length - (k + 1) := List.length_drop
  rw [R02_Next, d1, d2, dropE hk, nextP]
  show (R02_Next_L1 s k leadL ((1 : Nat) : Int) >>= _) = _
  rw [l1, if_pos (by omega), (tst1 _ _).1, (tst1 _ _).2, l2]
  unfold nextC
  by_cases h1 : s[k].toNat < 128
  · rw [decide_eq_true h1, if_pos rfl, if_pos h1]; rfl
  rw [decide_eq_false h1, if_neg (by decide), if_neg h1]
  generalize hr : s.drop (k + 1) = r at *
  match r with
  | [] =>
    simp at hdl
    rw [if_neg (by omega)]
    simp
  | [c1] =>
    simp at hdl
    have hc1 := c1.toNat_lt
    rw [if_pos (by omega), (tst2 _ _ _).1, (tst2 _ _ _).2, l3, if_neg (by omega : ¬ k + 3 ≤ s.length)]
    dsimp only
    by_cases h2 : 192 ≤ s[k].toNat ∧ s[k].toNat < 224
    · rw [if_pos h2]
      by_cases h3 : contB c1 = true ∧ 128 ≤ (s[k].toNat - 192) * 64 + (c1.toNat - 128)
      · have h4 : 128 ≤ c1.toNat := by have := h3.1; unfold contB at this; simp at this; exact this.1
        rw [decide_eq_true ⟨h2, h3⟩, if_pos rfl, if_pos h3]
        simp only [bind_some']
        congr 2
        omega
      · rw [decide_eq_false (fun h => h3 h.2), if_neg (by decide), if_neg h3]; rfl
    · rw [decide_eq_false (fun h => h2 h.1), if_neg (by decide), if_neg h2]
      simp
  | [c1, c2] =>
    simp at hdl
    have hc1 := c1.toNat_lt
    have hc2 := c2.toNat_lt
    rw [if_pos (by omega), (tst2 _ _ _).1, (tst2 _ _ _).2, l3, if_pos (by omega : k + 3 ≤ s.length), (tst3 _ _ _ _).1, (tst3 _ _ _ _).2, l4, if_neg (by omega : ¬ k + 4 ≤ s.length)]
    dsimp only
    by_cases h2 : 192 ≤ s[k].toNat ∧ s[k].toNat < 224
    · rw [if_pos h2]
      by_cases h3 : contB c1 = true ∧ 128 ≤ (s[k].toNat - 192) * 64 + (c1.toNat - 128)
      · have h4 : 128 ≤ c1.toNat := by have := h3.1; unfold contB at this; simp at this; exact this.1
        rw [decide_eq_true ⟨h2, h3⟩, if_pos rfl, if_pos h3]
        simp only [bind_some']
        congr 2
        omega
      · rw [decide_eq_false (fun h => h3 h.2), if_neg (by decide), if_neg h3, decide_eq_false (fun h => by have := h.1; omega), if_neg (by decide)]; rfl
    · rw [decide_eq_false (fun h => h2 h.1), if_neg (by decide), if_neg h2]
      by_cases h5 : 224 ≤ s[k].toNat ∧ s[k].toNat < 240
      · rw [if_pos h5]
        by_cases h6 : contB c1 = true ∧ contB c2 = true ∧ 2048 ≤ ((s[k].toNat - 224) * 64 + (c1.toNat - 128)) * 64 + (c2.toNat - 128) ∧ runeB (((s[k].toNat - 224) * 64 + (c1.toNat - 128)) * 64 + (c2.toNat - 128)) = true
        · have h4 : 128 ≤ c1.toNat := by have := h6.1; unfold contB at this; simp at this; exact this.1
          have h4' : 128 ≤ c2.toNat := by have := h6.2.1; unfold contB at this; simp at this; exact this.1
          rw [decide_eq_true ⟨h5, h6⟩, if_pos rfl, if_pos h6]
          simp only [bind_some']
          congr 2
          omega
        · rw [decide_eq_false (fun h => h6 h.2), if_neg (by decide), if_neg h6]; rfl
      · rw [decide_eq_false (fun h => h5 h.1), if_neg (by decide), if_neg h5]
        simp
  | c1 :: c2 :: c3 :: r =>
    simp at hdl
    have hc1 := c1.toNat_lt
    have hc2 := c2.toNat_lt
    have hc3 := c3.toNat_lt
    rw [if_pos (by omega), (tst2 _ _ _).1, (tst2 _ _ _).2, l3, if_pos (by omega : k + 3 ≤ s.length), (tst3 _ _ _ _).1, (tst3 _ _ _ _).2, l4, if_pos (by omega : k + 4 ≤ s.length), (tst4 _ _ _ _ _).1, (tst4 _ _ _ _ _).2, l5]
    dsimp only
    by_cases h2 : 192 ≤ s[k].toNat ∧ s[k].toNat < 224
    · rw [if_pos h2]
      by_cases h3 : contB c1 = true ∧ 128 ≤ (s[k].toNat - 192) * 64 + (c1.toNat - 128)
      · have h4 : 128 ≤ c1.toNat := by have := h3.1; unfold contB at this; simp at this; exact this.1
        rw [decide_eq_true ⟨h2, h3⟩, if_pos rfl, if_pos h3]
        simp only [bind_some']
        congr 2
        omega
      · rw [decide_eq_false (fun h => h3 h.2), if_neg (by decide), if_neg h3, decide_eq_false (fun h => by have := h.1; omega), if_neg (by decide), decide_eq_false (fun h => by have := h.1; omega), if_neg (by decide)]; rfl
    · rw [decide_eq_false (fun h => h2 h.1), if_neg (by decide), if_neg h2]
      by_cases h5 : 224 ≤ s[k].toNat ∧ s[k].toNat < 240
      · rw [if_pos h5]
        by_cases h6 : contB c1 = true ∧ contB c2 = true ∧ 2048 ≤ ((s[k].toNat - 224) * 64 + (c1.toNat - 128)) * 64 + (c2.toNat - 128) ∧ runeB (((s[k].toNat - 224) * 64 + (c1.toNat - 128)) * 64 + (c2.toNat - 128)) = true
        · have h4 : 128 ≤ c1.toNat := by have := h6.1; unfold contB at this; simp at this; exact this.1
          have h4' : 128 ≤ c2.toNat := by have := h6.2.1; unfold contB at this; simp at this; exact this.1
          rw [decide_eq_true ⟨h5, h6⟩, if_pos rfl, if_pos h6]
          simp only [bind_some']
          congr 2
          omega
        · rw [decide_eq_false (fun h => h6 h.2), if_neg (by decide), if_neg h6, decide_eq_false (fun h => by have := h.1; omega), if_neg (by decide)]; rfl
      · rw [decide_eq_false (fun h => h5 h.1), if_neg (by decide), if_neg h5]
        by_cases h7 : 240 ≤ s[k].toNat ∧ s[k].toNat < 248
        · rw [if_pos h7]
          by_cases h8 : contB c1 = true ∧ contB c2 = true ∧ contB c3 = true ∧ 65536 ≤ (((s[k].toNat - 240) * 64 + (c1.toNat - 128)) * 64 + (c2.toNat - 128)) * 64 + (c3.toNat - 128) ∧ runeB ((((s[k].toNat - 240) * 64 + (c1.toNat - 128)) * 64 + (c2.toNat - 128)) * 64 + (c3.toNat - 128)) = true
          · have h4 : 128 ≤ c1.toNat := by have := h8.1; unfold contB at this; simp at this; exact this.1
            have h4' : 128 ≤ c2.toNat := by have := h8.2.1; unfold contB at this; simp at this; exact this.1
            have h4'' : 128 ≤ c3.toNat := by have := h8.2.2.1; unfold contB at this; simp at this; exact this.1
            rw [decide_eq_true ⟨h7, h8⟩, if_pos rfl, if_pos h8]
            simp only [bind_some']
            congr 2
            omega
          · rw [decide_eq_false (fun h => h8 h.2), if_neg (by decide), if_neg h8]; rfl
        · rw [decide_eq_false (fun h => h7 h.1), if_neg (by decide), if_neg h7]
          rfl
end Go.Proofs.YteahaflhihioaaaGreatDoor
end

section
namespace Go.Proofs.YteahaflhihioaaaGreatDoor
open Go.RowKit

def joinX (s : List UInt8) : List (List UInt8) → Bool → List UInt8
  | [], _ => []
  | x :: r, b => (if b then s else []) ++ (x ++ joinX s r true)
theorem joinTailX (s : List UInt8) : ∀ l, Lib.joinTail s l = joinX s l true
  | [] => rfl
  | x :: r => by
    have ih := joinTailX s r
    rw [joinX, ← ih]
    simp [Lib.joinTail]
theorem joinEqX (s : List UInt8) : ∀ l, Lib.join l s = joinX s l false
  | [] => rfl
  | x :: r => by
    rw [Lib.join_cons, joinTailX, joinX]
    simp
theorem rJoinX (s : List UInt8) (l : List (List UInt8)) (hl : l.length < 1000000000) : ∀ k, k ≤ l.length → ∀ acc : List UInt8, acc.length + (joinX s (l.drop k) true).length ≤ 1000000000000 → ∀ b : Bool, b = decide (0 < k) →
    R01_Join_L1 l s acc k = some (acc ++ joinX s (l.drop k) b) := by
  refine upto ?_ fun k hk ih => ?_
  · intro acc _ b _
    rw [R01_Join_L1]; simp [joinX]
  · intro acc h b hb
    rw [dropE hk, joinX] at h
    simp only [if_true, List.length_append] at h
    have e2 : decide ((k : Int) > 0) = b := by
      rw [hb]
      by_cases h0 : 0 < k
      · rw [decide_eq_true h0, decide_eq_true (by omega)]
      · rw [decide_eq_false h0, decide_eq_false (by omega)]
    rw [R01_Join_L1, ltI, decide_eq_true hk, wr_succ (by omega), e2, dropE hk, joinX]
    simp only [if_true, idx_nat, getE hk, bind_some']
    cases b with
    | true =>
      simp only [if_true]
      rw [need_ok (by omega), bind_some', need_ok (by rw [List.length_append]; omega), bind_some', ih _ (by simp only [List.length_append]; omega) true (by simp)]
      simp only [List.append_assoc]
    | false =>
      simp only [Bool.false_eq_true, if_false]
      rw [need_ok (by omega), bind_some', ih _ (by simp only [List.length_append]; omega) true (by simp)]
      simp only [List.append_assoc, List.nil_append]
theorem joinX_len (s : List UInt8) : ∀ l : List (List UInt8), (joinX s l true).length = l.length * s.length + l.flatten.length
  | [] => by simp [joinX]
  | x :: r => by
    rw [joinX, if_pos rfl, List.length_append, List.length_append, joinX_len s r, List.length_cons, List.flatten_cons, List.length_append, Nat.add_mul, Nat.one_mul]
    omega
theorem rJoin31 (s : List UInt8) (l : List (List UInt8)) (hl : l.length ≤ 100000) (hs : s.length ≤ 100000) (hf : l.flatten.length ≤ 100000000000) : R01_Join l s = some (Lib.join l s) := by
  have hm : l.length * s.length ≤ 100000 * 100000 := Nat.mul_le_mul hl hs
  have h1 := rJoinX s l (by omega) 0 (Nat.zero_le _) [] (by rw [List.drop_zero, joinX_len, List.length_nil]; omega) false rfl
  unfold R01_Join
  rw [show ((0 : Nat) : Int) = 0 from rfl, List.drop_zero, List.nil_append] at h1
  rw [h1, bind_some', joinEqX]
theorem join_nil : ∀ l : List (List UInt8), Lib.join l [] = l.flatten := fun l => by
  rw [joinEqX]
  have key : ∀ (l : List (List UInt8)) b, joinX [] l b = l.flatten := by
    intro l
    induction l with
    | nil => intro b; rfl
    | cons x r ih => intro b; rw [joinX, ih, List.flatten_cons]; cases b <;> rfl
  exact key l false

theorem rStepsL (s : List UInt8) (hs : s.length ≤ 1000000) : ∀ n k, k ≤ s.length → s.length - k ≤ n → ∀ acc : List (List UInt8), acc.length ≤ k → R31_steps_L1 s acc k = some (acc ++ cutsP (s.drop k)) := by
  intro n
  induction n with
  | zero =>
    intro k h1 h2 acc _
    have hk : k = s.length := by omega
    subst hk
    rw [R31_steps_L1, ltI, decide_eq_false (Nat.lt_irrefl _), List.drop_length, cutsP_nil]
    simp
  | succ n ih =>
    intro k h1 h2 acc ha
    by_cases hk : k < s.length
    · have hne := drop_ne hk
      have hz := nextP_size _ hne
      rw [List.length_drop] at hz
      have e : wr ((k : Int) + ((nextP (s.drop k)).2 : Int)) = ((k + (nextP (s.drop k)).2 : Nat) : Int) := by rw [wr_in (by omega) (by omega)]; rfl
      rw [R31_steps_L1, ltI, decide_eq_true hk, if_pos rfl, rNext s k hk (by omega), bind_some']
      simp only [e]
      rw [cutL_ok (by omega) (by omega) (by omega), bind_some', appL_ok (by simp only [List.length_singleton]; omega) (by simp only [List.length_singleton]; omega), bind_some',
        ih (k + (nextP (s.drop k)).2) (by omega) (by omega) _ (by rw [List.length_append, List.length_singleton]; omega), cutsP_cons _ hne, List.drop_drop]
      simp only [Int.toNat_natCast, List.append_assoc, List.singleton_append]
      rw [List.drop_take, Nat.add_sub_cancel_left]
    · have hk : k = s.length := by omega
      subst hk
      rw [R31_steps_L1, ltI, decide_eq_false (Nat.lt_irrefl _), List.drop_length, cutsP_nil]
      simp
theorem rSteps (s : List UInt8) (hs : s.length ≤ 1000000) : R31_steps s = some (cutsP s) := by
  unfold R31_steps
  have := rStepsL s hs s.length 0 (Nat.zero_le _) (by omega) [] (Nat.zero_le _)
  rw [show ((0 : Nat) : Int) = 0 from rfl, List.drop_zero, List.nil_append] at this
  rw [this]; rfl
/-- What one letter becomes, by the reference. -/
def ltr (a b d : Int) (c : UInt8) : Option Int :=
  ( if (decide ((c.toNat : Int) ≥ a)) then
      some (decide ((c.toNat : Int) ≤ b))
    else
      some false : Option (Bool)) >>= fun o4 =>
  if o4 then
    some (IntKind.u8.wrap (wr ((wr (c.toNat : Int)) + d)))
  else
    some (c.toNat : Int)
theorem byte_all {p : UInt8 → Prop} [DecidablePred p] (h : ∀ n : Fin 256, p (UInt8.ofNat n.val)) (c : UInt8) : p c := by
  have := h ⟨c.toNat, c.toNat_lt⟩
  simpa using this
theorem ltr_up : ∀ c : UInt8, ltr 97 122 (-32) c = some ((trn 97 122 c).toNat : Int) := byte_all (by decide +kernel)
theorem ltr_lo : ∀ c : UInt8, ltr 65 90 32 c = some ((trn 65 90 c).toNat : Int) := byte_all (by decide +kernel)
theorem rLettersL (a b d : Int) (s : List UInt8) (hs : s.length ≤ 1000000) (h : ∀ c : UInt8, ltr a b d c = some ((trn a b c).toNat : Int)) : ∀ k, k ≤ s.length → ∀ acc : List Int, acc.length = k →
    R31_letters_L1 s a b d acc k = some (acc ++ (trnL a b (s.drop k)).map fun c => (c.toNat : Int)) := by
  refine upto ?_ fun k hk ih => ?_
  · intro acc _
    rw [R31_letters_L1, ltI, decide_eq_false (Nat.lt_irrefl _), List.drop_length]
    simp [trnL]
  · intro acc ha
    have h1 := h s[k]
    unfold ltr at h1
    rw [R31_letters_L1, ltI, decide_eq_true hk, if_pos rfl, idx_nat, getE hk, bind_some', h1, bind_some', appL_ok (by simp only [List.length_singleton]; omega) (by simp only [List.length_singleton]; omega), bind_some', wr_succ (by omega), ih _ (by rw [List.length_append, ha]; rfl), dropE hk]
    simp only [trnL, List.map_cons, List.append_assoc, List.singleton_append]
theorem b2s_bytes (l : List UInt8) : b2s (l.map fun c => (c.toNat : Int)) = some l := by
  unfold b2s
  rw [if_pos ?_]
  · rw [List.map_map]
    congr 1
    conv => rhs; rw [← List.map_id l]
    refine List.map_congr_left fun c _ => ?_
    simp
  · rw [List.all_map, List.all_eq_true]
    intro c _
    have := c.toNat_lt
    simp
    omega
theorem rLetters (a b d : Int) (s : List UInt8) (hs : s.length ≤ 1000000) (h : ∀ c : UInt8, ltr a b d c = some ((trn a b c).toNat : Int)) : R31_letters s a b d = some (trnL a b s) := by
  unfold R31_letters
  have := rLettersL a b d s hs h 0 (Nat.zero_le _) [] rfl
  rw [show ((0 : Nat) : Int) = 0 from rfl, List.drop_zero, List.nil_append] at this
  rw [this, bind_some', b2s_bytes]; rfl

theorem rBeginsN (s b : List UInt8) (k : Nat) (hk : k ≤ s.length) (hs : s.length ≤ 1000000) (hb : b.length ≤ 1000000) : R01_Begins s b k = some (decide (b <+: s.drop k)) := by
  have e1 : decide ((k : Int) ≥ 0) = true := decide_eq_true (by omega)
  have e2 : decide ((k : Int) ≤ (s.length : Int)) = true := decide_eq_true (by omega)
  have e3 : wr ((s.length : Int) - (k : Int)) = ((s.length - k : Nat) : Int) := by rw [wr_in (by omega) (by omega)]; omega
  have e4 : wr ((k : Int) + (b.length : Int)) = ((k + b.length : Nat) : Int) := by rw [wr_in (by omega) (by omega)]; rfl
  rw [R01_Begins, e1, e2, e3, e4]
  simp only [if_true]
  by_cases h : b.length ≤ s.length - k
  · rw [decide_eq_true (by omega)]
    simp only [if_true]
    rw [cutL_ok (by omega) (by omega) (by omega), bind_some', bind_some', Int.toNat_natCast, Int.toNat_natCast, List.drop_take, Nat.add_sub_cancel_left]
    congr 1
    by_cases hp : b <+: s.drop k
    · rw [decide_eq_true hp, List.prefix_iff_eq_take.1 hp]
      simp
    · rw [decide_eq_false hp]
      refine beq_false_of_ne fun e => hp ?_
      rw [← e]; exact List.take_prefix _ _
  · rw [decide_eq_false (by omega)]
    simp only [Bool.false_eq_true, if_false, bind_some']
    congr 1
    refine (decide_eq_false fun hp => h ?_).symm
    have := hp.length_le
    rw [List.length_drop] at this
    exact this
/-- A text, each instance of b in it made c. -/
def repF (b c : List UInt8) : Nat → List UInt8 → List UInt8
  | 0, s => s
  | n + 1, s => match s with
    | [] => []
    | x :: r => if b <+: (x :: r) then c ++ repF b c n ((x :: r).drop b.length) else x :: repF b c n r
theorem occ0 (s b : List UInt8) : Lib.occAt s b 0 = decide (b <+: s) := by
  unfold Lib.occAt
  rw [List.drop_zero, Bool.eq_iff_iff, List.isPrefixOf_iff_prefix, decide_eq_true_iff]
theorem index_pre {s b : List UInt8} (h : b <+: s) : Lib.index s b = (0 : Nat) := Lib.index_first (i := 0) (Nat.zero_le _) (by rw [occ0]; exact decide_eq_true h) (fun _ h => absurd h (Nat.not_lt_zero _))
theorem index_cons {x : UInt8} {r b : List UInt8} (h : ¬ b <+: (x :: r)) : Lib.index (x :: r) b = if Lib.index r b == -1 then -1 else Lib.index r b + 1 := by
  rw [Lib.index, if_neg (by rw [List.isPrefixOf_iff_prefix]; exact h)]
theorem repF_eq (b c : List UInt8) (hb : b ≠ []) : ∀ (n : Nat) (s : List UInt8), s.length ≤ n → repF b c n s = Lib.replaceK b c (Lib.count s b) s
  | 0, s, h => by
    have h0 : s = [] := List.length_eq_zero_iff.1 (by omega)
    subst h0
    have hi : Lib.index [] b = -1 := by rw [Lib.index, if_neg (by simpa using hb)]
    rw [Lib.count_miss hi, repF, Lib.replaceK]
  | n + 1, [], _ => by
    have hi : Lib.index [] b = -1 := by rw [Lib.index, if_neg (by simpa using hb)]
    rw [Lib.count_miss hi, repF, Lib.replaceK]
  | n + 1, x :: r, h => by
    have hbl : 1 ≤ b.length := List.length_pos_iff.2 hb
    rw [List.length_cons] at h
    rw [repF]
    by_cases hp : b <+: (x :: r)
    · rw [if_pos hp]
      have hi := index_pre hp
      rw [Lib.count_hit hb hi, Nat.add_comm 1, Lib.replaceK_hit b c _ _ 0 hi, repF_eq b c hb n _ (by rw [List.length_drop, List.length_cons]; omega), Nat.zero_add, List.take_zero, List.nil_append]
    · rw [if_neg hp, repF_eq b c hb n r (by omega)]
      have hi := index_cons hp
      by_cases hm : Lib.index r b = -1
      · rw [if_pos (by rw [hm]; rfl)] at hi
        rw [Lib.count_miss hm, Lib.count_miss hi, Lib.replaceK, Lib.replaceK]
      · have hge := Lib.index_ge r b
        obtain ⟨i, h0⟩ : ∃ i : Nat, Lib.index r b = i := ⟨(Lib.index r b).toNat, by omega⟩
        rw [if_neg (by rw [beq_iff_eq]; exact hm), h0] at hi
        have hi2 : Lib.index (x :: r) b = ((i + 1 : Nat) : Int) := hi
        rw [Lib.count_hit hb h0, Lib.count_hit hb hi2, Nat.add_comm 1, Nat.add_comm 1, Lib.replaceK_hit b c _ _ i h0, Lib.replaceK_hit b c _ _ (i + 1) hi2, show i + 1 + b.length = (i + b.length) + 1 by omega, List.drop_succ_cons, List.take_succ_cons]
        simp
theorem repF_same (b : List UInt8) (hb : b ≠ []) : ∀ (n : Nat) (s : List UInt8), s.length ≤ n → repF b b n s = s
  | 0, s, h => by rw [repF]
  | n + 1, [], _ => by rw [repF]
  | n + 1, x :: r, h => by
    have hbl : 1 ≤ b.length := List.length_pos_iff.2 hb
    rw [List.length_cons] at h
    rw [repF]
    by_cases hp : b <+: (x :: r)
    · rw [if_pos hp, repF_same b hb n _ (by rw [List.length_drop, List.length_cons]; omega)]
      conv => lhs; arg 1; rw [List.prefix_iff_eq_take.1 hp]
      exact List.take_append_drop _ _
    · rw [if_neg hp, repF_same b hb n r (by omega)]
theorem repAllF (s b c : List UInt8) (hb : b ≠ []) (n : Nat) (h : s.length ≤ n) : Lib.replaceAll s b c = repF b c n s := by
  rw [repAll_eq]
  by_cases he : (b == c) = true
  · rw [if_pos he]
    obtain rfl := beq_iff_eq.1 he
    exact (repF_same b hb n s h).symm
  · rw [if_neg he, repF_eq b c hb n s h]
theorem rReplaceL (s b c : List UInt8) (hb : b ≠ []) (hs : s.length ≤ 100000) (hbl : b.length ≤ 100000) (hc : c.length ≤ 100000) : ∀ n k, k ≤ s.length → s.length - k ≤ n → ∀ acc : List UInt8, acc.length ≤ k * 100001 → R31_replace_L1 s b c acc k = some (acc ++ repF b c n (s.drop k)) := by
  have hp : 1 ≤ b.length := List.length_pos_iff.2 hb
  intro n
  induction n with
  | zero =>
    intro k h1 h2 acc ha
    have hk : k = s.length := by omega
    subst hk
    rw [R31_replace_L1, ltI, decide_eq_false (Nat.lt_irrefl _), List.drop_length, repF]
    simp
  | succ n ih =>
    intro k h1 h2 acc ha
    by_cases hk : k < s.length
    · have hka : k * 100001 ≤ 100000 * 100001 := Nat.mul_le_mul_right _ (by omega)
      rw [R31_replace_L1, ltI, decide_eq_true hk, if_pos rfl, rBeginsN s b k (by omega) (by omega) (by omega), bind_some', dropE hk, repF]
      by_cases hpre : b <+: (s[k] :: s.drop (k + 1))
      · have hle := hpre.length_le
        rw [List.length_cons, List.length_drop] at hle
        have e : wr ((k : Int) + (b.length : Int)) = ((k + b.length : Nat) : Int) := by rw [wr_in (by omega) (by omega)]; rfl
        have hm := Nat.mul_le_mul_right 100001 hp
        rw [if_pos (decide_eq_true hpre), if_pos hpre, need_ok (by omega), bind_some', e, ih (k + b.length) (by omega) (by omega) _ (by rw [List.length_append, Nat.add_mul]; omega), ← dropE hk, List.drop_drop, List.append_assoc]
      · have h1c : cutL s k (wr ((k : Int) + 1)) = some [s[k]] := by
          rw [wr_succ (by omega), cutL_ok (by omega) (by omega) (by omega), Int.toNat_natCast, Int.toNat_natCast, List.drop_take, Nat.add_sub_cancel_left, dropE hk]
          rfl
        rw [if_neg (by simpa using hpre), if_neg hpre, h1c, bind_some', need_ok (by simp only [List.length_singleton]; omega), bind_some', wr_succ (by omega), ih (k + 1) (by omega) (by omega) _ (by rw [List.length_append, List.length_singleton, Nat.add_mul]; omega), List.append_assoc, List.singleton_append]
    · have hk : k = s.length := by omega
      subst hk
      rw [R31_replace_L1, ltI, decide_eq_false (Nat.lt_irrefl _), List.drop_length, repF]
      simp
theorem rReplace (s b c : List UInt8) (hs : s.length ≤ 100000) (hbl : b.length ≤ 100000) (hc : c.length ≤ 100000) : R31_replace s b c = some (if b = [] then s else Lib.replaceAll s b c) := by
  unfold R31_replace
  by_cases hb : b = []
  · subst hb; simp
  · have := rReplaceL s b c hb hs hbl hc s.length 0 (Nat.zero_le _) (by omega) [] (by simp)
    rw [show ((0 : Nat) : Int) = 0 from rfl, List.drop_zero, List.nil_append] at this
    rw [if_neg hb, if_neg (by simpa using hb), this, repAllF s b c hb s.length (Nat.le_refl _)]
    rfl

def gapB (c : UInt8) : Bool := ([32, 9, 10, 13] : List UInt8).contains c
theorem rGap : ∀ c : UInt8, R31_gap (c.toNat : Int) = some (gapB c) := fun c => by
  have key : ∀ c : UInt8, ((if (((c.toNat : Int) == 32)) = true then some true else if (((c.toNat : Int) == 9)) = true then some true else if (((c.toNat : Int) == 10)) = true then some true else some ((c.toNat : Int) == 13)) : Option Bool) = some (gapB c) := byte_all (by decide +kernel)
  rw [R31_gap, key c]; rfl
theorem rTrim1 : ∀ s : List UInt8, s.length ≤ 1000000 → R31_text_L1 s = some (s.dropWhile gapB)
  | [], _ => by rw [R31_text_L1]; rfl
  | x :: r, h => by
    rw [List.length_cons] at h
    have e1 : decide (((x :: r).length : Int) > 0) = true := decide_eq_true (by simp)
    rw [R31_text_L1, e1, if_pos rfl, idx_0, List.getElem?_cons_zero, bind_some', rGap, bind_some', bind_some', List.dropWhile_cons]
    cases hg : gapB x with
    | false => rfl
    | true =>
      rw [if_pos rfl, if_pos rfl, cutL_ok (by omega) (by simp; omega) (by simp), bind_some', show (((x :: r).take ((x :: r).length : Int).toNat).drop (1 : Int).toNat) = r by simp, rTrim1 r (by omega)]
def stripR' (p : UInt8 → Bool) (l : List UInt8) : List UInt8 := (l.reverse.dropWhile p).reverse
theorem rTrim2 : ∀ (n : Nat) (s : List UInt8), s.length = n → s.length ≤ 1000000 → R31_text_L2 s = some (stripR' gapB s)
  | 0, s, h0, _ => by
    have : s = [] := List.length_eq_zero_iff.1 h0
    subst this
    rw [R31_text_L2]; rfl
  | n + 1, s, hn, h => by
    obtain ⟨r, x, rfl⟩ : ∃ r x, s = r ++ [x] := ⟨s.dropLast, s.getLast (by intro e; subst e; simp at hn), (List.dropLast_concat_getLast _).symm⟩
    rw [List.length_append, List.length_singleton] at hn h
    have e1 : decide (((r ++ [x]).length : Int) > 0) = true := decide_eq_true (by simp)
    have e2 : wr (((r ++ [x]).length : Int) - 1) = (r.length : Int) := by rw [List.length_append, List.length_singleton, wr_in (by omega) (by omega)]; omega
    have e3 : (r ++ [x])[r.length]? = some x := by simp
    rw [R31_text_L2, e1, if_pos rfl, e2, idx_nat, e3, bind_some', rGap, bind_some', bind_some']
    unfold stripR'
    rw [List.reverse_append, List.reverse_singleton, List.singleton_append, List.dropWhile_cons]
    cases hg : gapB x with
    | false => simp
    | true =>
      rw [if_pos rfl, if_pos rfl, cutL_ok (by omega) (by omega) (by simp; omega), bind_some', show (((r ++ [x]).take (r.length : Int).toNat).drop (0 : Int).toNat) = r by simp, rTrim2 n r (by omega) (by omega)]
      rfl
theorem strip_cons (p : UInt8 → Bool) (x : UInt8) (r : List UInt8) : stripR' p (x :: r) = if stripR' p r = [] then (if p x then [] else [x]) else x :: stripR' p r := by
  unfold stripR'
  rw [List.reverse_cons, List.dropWhile_append]
  by_cases h : (r.reverse.dropWhile p).isEmpty = true
  · have h0 := List.isEmpty_iff.1 h
    rw [if_pos h, h0]
    simp only [List.reverse_nil, if_true, List.dropWhile_cons, List.dropWhile_nil]
    split <;> rfl
  · rw [if_neg h, if_neg (by simpa using h)]
    simp
theorem strip_comm (p : UInt8 → Bool) : ∀ l : List UInt8, stripR' p (l.dropWhile p) = (stripR' p l).dropWhile p
  | [] => rfl
  | x :: r => by
    rw [List.dropWhile_cons, strip_cons]
    cases hp : p x with
    | true =>
      rw [if_pos rfl, strip_comm p r]
      by_cases h : stripR' p r = []
      · rw [if_pos h, h]; rfl
      · rw [if_neg h, List.dropWhile_cons, hp]; rfl
    | false =>
      rw [if_neg (by simp), strip_cons, hp]
      by_cases h : stripR' p r = []
      · rw [if_pos h]; simp [List.dropWhile_cons, hp]
      · rw [if_neg h]; simp [List.dropWhile_cons, hp]
theorem trim31 (s : List UInt8) : stripR' gapB (s.dropWhile gapB) = Lib.trimS s [32, 9, 10, 13] := strip_comm gapB s

theorem rAdd (a b : Int) (ha : inI a) (hb : inI b) : R31_add a b = some (addP a b) := by
  obtain ⟨a1, a2⟩ := ha
  obtain ⟨b1, b2⟩ := hb
  unfold R31_add addP
  by_cases h : b > 0
  · rw [decide_eq_true h, if_pos rfl, wr_in (n := 9223372036854775807 - b) (by omega) (by omega), bind_some', decide_eq_false (show ¬ b < 0 by omega)]
    by_cases h1 : a > 9223372036854775807 - b
    · rw [if_pos (decide_eq_true h1), if_pos (by omega)]
    · rw [if_neg (by simpa using h1)]
      show some (wr (a + b)) = _
      rw [wr_in (by omega) (by omega), if_neg (show ¬ a + b > 9223372036854775807 by omega), if_neg (show ¬ a + b < -9223372036854775808 by omega)]
  · rw [decide_eq_false h]
    simp only [Bool.false_eq_true, if_false, bind_some']
    by_cases h2 : b < 0
    · rw [decide_eq_true h2, if_pos rfl, wr_in (n := -9223372036854775808 - b) (by omega) (by omega), bind_some']
      by_cases h1 : a < -9223372036854775808 - b
      · rw [if_pos (decide_eq_true h1), if_neg (by omega), if_pos (by omega)]
      · rw [if_neg (by simpa using h1), if_neg (by omega), if_neg (by omega), wr_in (by omega) (by omega)]
    · rw [decide_eq_false h2]
      simp only [Bool.false_eq_true, if_false, bind_some']
      rw [if_neg (by omega), if_neg (by omega), wr_in (by omega) (by omega)]
theorem rSub (a b : Int) (ha : inI a) (hb : inI b) : R31_sub a b = some (addP a (-b)) := by
  obtain ⟨a1, a2⟩ := ha
  obtain ⟨b1, b2⟩ := hb
  unfold R31_sub addP
  by_cases h : b < 0
  · rw [decide_eq_true h, if_pos rfl, wr_in (n := 9223372036854775807 + b) (by omega) (by omega), bind_some', decide_eq_false (show ¬ b > 0 by omega)]
    by_cases h1 : a > 9223372036854775807 + b
    · rw [if_pos (decide_eq_true h1), if_pos (by omega)]
    · rw [if_neg (by simpa using h1)]
      show some (wr (a - b)) = _
      rw [wr_in (by omega) (by omega), if_neg (show ¬ a + -b > 9223372036854775807 by omega), if_neg (show ¬ a + -b < -9223372036854775808 by omega)]
      rfl
  · rw [decide_eq_false h]
    simp only [Bool.false_eq_true, if_false, bind_some']
    by_cases h2 : b > 0
    · rw [decide_eq_true h2, if_pos rfl, wr_in (n := -9223372036854775808 + b) (by omega) (by omega), bind_some']
      by_cases h1 : a < -9223372036854775808 + b
      · rw [if_pos (decide_eq_true h1), if_neg (by omega), if_pos (by omega)]
      · rw [if_neg (by simpa using h1), if_neg (by omega), if_neg (by omega), wr_in (by omega) (by omega)]
        rfl
    · rw [decide_eq_false h2]
      simp only [Bool.false_eq_true, if_false, bind_some']
      rw [if_neg (by omega), if_neg (by omega), wr_in (by omega) (by omega)]
      rfl
end Go.Proofs.YteahaflhihioaaaGreatDoor
end

section
namespace Go.Proofs.YteahaflhihioaaaGreatDoor
open Go.RowKit

theorem rNamesL (l : List api_Val) (a : api_Val) (h0 : l[0]? = some a) (hl : a.L.length ≤ 65536) : ∀ k, k ≤ a.L.length → ∀ acc : List (List UInt8), acc.length = k → R31_text_L3 l acc k = some (acc ++ (a.L.drop k).map (·.S)) := by
  refine upto ?_ fun k hk ih => ?_
  · intro acc _
    rw [R31_text_L3, idx_0, h0, bind_some', ltI, decide_eq_false (Nat.lt_irrefl _), List.drop_length]
    simp
  · intro acc ha
    rw [R31_text_L3, idx_0, h0, bind_some', ltI, decide_eq_true hk, if_pos rfl, bind_some', idx_nat, getE hk, bind_some', appL_ok (by simp only [List.length_singleton]; omega) (by simp only [List.length_singleton]; omega), bind_some', wr_succ (by omega), ih _ (by rw [List.length_append, ha]; rfl), dropE hk]
    simp only [List.map_cons, List.append_assoc, List.singleton_append]
theorem rKeysL (l : List api_Val) (y : List Int) (a : api_Val) (h0 : l[0]? = some a) (hl : a.L.length ≤ 65536) (hp : ∀ p ∈ a.L, ∃ x y, p.L = [x, y]) : ∀ k, k ≤ a.L.length → ∀ acc : List api_Val, acc.length = k →
    R31_Call_L2 l y k acc = some (acc ++ (a.L.drop k).map fun p => txtV (p.L.getD 0 val0).S) := by
  refine upto ?_ fun k hk ih => ?_
  · intro acc _
    rw [R31_Call_L2, idx_0, h0, bind_some', ltI, decide_eq_false (Nat.lt_irrefl _), List.drop_length]
    simp
  · intro acc ha
    obtain ⟨x, z, hxz⟩ := hp a.L[k] (List.getElem_mem hk)
    rw [R31_Call_L2, idx_0, h0, bind_some', ltI, decide_eq_true hk, if_pos rfl, bind_some', idx_nat, getE hk, bind_some', hxz, idx_0, List.getElem?_cons_zero, bind_some', R16_Text, bind_some', appL_ok (by simp only [List.length_singleton]; omega) (by simp only [List.length_singleton]; omega), bind_some', wr_succ (by omega), ih _ (by rw [List.length_append, ha]; rfl), dropE hk]
    simp only [List.map_cons, hxz, List.append_assoc, List.singleton_append, List.getD_cons_zero]
theorem rKindsL (n : List UInt8) (l : List api_Val) (hl : l.length ≤ 65536) (hf : fews l) : ∀ k, k ≤ l.length → ∀ acc : List Int, acc.length = k → R31_Call_L1 n l acc k = some (if (l.drop k).all cnf = true then .inl (acc ++ (l.drop k).map (·.K)) else .inr ()) := by
  refine upto ?_ fun k hk ih => ?_
  · intro acc _
    rw [R31_Call_L1, ltI, decide_eq_false (Nat.lt_irrefl _), List.drop_length]; simp
  · intro acc ha
    rw [R31_Call_L1, ltI, decide_eq_true hk, if_pos rfl, idx_nat, getE hk, bind_some', rIs _ (fews_mem hf _ (List.getElem_mem hk)), bind_some', bind_some', dropE hk, List.all_cons]
    cases hc : cnf l[k] with
    | false => simp
    | true =>
      rw [if_neg (by simp), appL_ok (by simp only [List.length_singleton]; omega) (by simp only [List.length_singleton]; omega), bind_some', wr_succ (by omega), ih _ (by rw [List.length_append, ha]; rfl)]
      simp only [List.map_cons, List.append_assoc, List.singleton_append, Bool.true_and]
/-- What the reference tells of a call that it knows. -/
noncomputable def r31 (n : List UInt8) (l : List api_Val) (k : Int) : Option (api_Val × Int) :=
  if (k == 1) then
    R31_text n l >>= fun s => some (lngP s)
  else
    if (k == 2) then
      R31_number n l >>= fun m => some (numV m, 0)
    else
      if (k == 3) then
        R31_truth n l >>= fun b => some (truV b, 0)
      else
        R31_Call_L2 l (l.map (·.K)) 0 [] >>= fun o => some (⟨7, [], 0, false, o⟩, 0)
theorem rCall (n : List UInt8) (l : List api_Val) (hl : l.length ≤ 65536) (hf : fews l) : R31_Call n l = if (callP n (l.map (·.K))).2 = true ∧ l.all cnf = true then r31 n l (callP n (l.map (·.K))).1 else some (val0, 201) := by
  unfold R31_Call
  have h1 := rKindsL n l hl hf 0 (Nat.zero_le _) [] rfl
  rw [List.drop_zero, List.nil_append, show ((0 : Nat) : Int) = 0 from rfl] at h1
  rw [h1, bind_some']
  cases ha : l.all cnf with
  | false => simp
  | true =>
    simp only [if_true, R15_Call, bind_some']
    cases hc : (callP n (l.map (·.K))).2 with
    | false => simp
    | true =>
      simp only [Bool.not_true, Bool.false_eq_true, if_false, and_self, if_true]
      unfold r31
      cases h1 : ((callP n (l.map (·.K))).1 == 1) with
      | true =>
        simp only [if_true]
        cases R31_text n l with
        | none => rfl
        | some s =>
          simp only [bind_some', R16_Text, gt16]
          unfold lngP
          by_cases h : 65536 < s.length
          · rw [decide_eq_true h, if_pos rfl, if_pos h]
          · rw [decide_eq_false h, if_neg h]; rfl
      | false =>
        simp only [Bool.false_eq_true, if_false]
        cases h2 : ((callP n (l.map (·.K))).1 == 2) with
        | true => rw [beq_iff_eq] at h2; simp only [if_true, h2]
        | false =>
          simp only [Bool.false_eq_true, if_false]
          cases h3 : ((callP n (l.map (·.K))).1 == 3) with
          | true => rw [beq_iff_eq] at h3; simp only [if_true, h3]
          | false => rfl
theorem rowGo_inv (n : List UInt8) (L : List Int) : ∀ t, (rowGo n L t).2 = true → (n, L, (rowGo n L t).1) ∈ t
  | [], h => by simp [rowGo] at h
  | r :: t, h => by
    rw [rowGo] at h ⊢
    by_cases hr : r.1 = n ∧ r.2.1 = L
    · rw [if_pos hr]
      obtain ⟨rfl, rfl⟩ := hr
      simp
    · rw [if_neg hr] at h ⊢
      exact List.mem_cons_of_mem _ (rowGo_inv n L t h)
theorem callP_inv {n : List UInt8} {L : List Int} (h : (callP n L).2 = true) : (n, L, (callP n L).1) ∈ rowsL := rowGo_inv n L rowsL h
theorem map1 {l : List api_Val} {x : Int} (h : l.map (·.K) = [x]) : ∃ a, l = [a] ∧ a.K = x := by
  match l, h with
  | [a], h => exact ⟨a, rfl, by simpa using h⟩
theorem map2 {l : List api_Val} {x y : Int} (h : l.map (·.K) = [x, y]) : ∃ a b, l = [a, b] ∧ a.K = x ∧ b.K = y := by
  match l, h with
  | [a, b], h => exact ⟨a, b, rfl, by simpa using h⟩
theorem map3 {l : List api_Val} {x y z : Int} (h : l.map (·.K) = [x, y, z]) : ∃ a b c, l = [a, b, c] ∧ a.K = x ∧ b.K = y ∧ c.K = z := by
  match l, h with
  | [a, b, c], h => exact ⟨a, b, c, rfl, by simpa using h⟩
end Go.Proofs.YteahaflhihioaaaGreatDoor
end

section
namespace Go.Proofs.YteahaflhihioaaaGreatDoor
open Go.RowKit

theorem few_mkK (k : Int) (s : List UInt8) (n : Int) (b : Bool) (l : List api_Val) : few ⟨k, s, n, b, l⟩ ↔ l.length ≤ 65536 ∧ fews l := by rw [few]
theorem few_val0 : few val0 := by rw [few_mkK]; exact ⟨by simp, True.intro⟩
/-- The two sides of a call agree. -/
def Same31 (n : List UInt8) (l : List api_Val) (k : Int) : Prop := ∃ v e, built_do n l = some (v, e) ∧ r31 n l k = some (v, e) ∧ few v ∧ (e = 0 → v.K = k ∧ cnf v = true)
theorem fin_txt {n : List UInt8} {l : List api_Val} {s : List UInt8} (h1 : built_do n l = some (lngP s)) (h2 : R31_text n l = some s) : Same31 n l 1 := by
  have h3 : r31 n l 1 = some (lngP s) := by rw [r31, if_pos (by decide), h2]; rfl
  by_cases h : 65536 < s.length
  · have e : lngP s = (val0, 204) := by rw [lngP, if_pos h]
    exact ⟨val0, 204, by rw [h1, e], by rw [h3, e], few_val0, fun h => by cases h⟩
  · have e : lngP s = (txtV s, 0) := by rw [lngP, if_neg h]
    exact ⟨txtV s, 0, by rw [h1, e], by rw [h3, e], few_txt s, fun _ => ⟨rfl, cnf_txt s⟩⟩
theorem fin_num {n : List UInt8} {l : List api_Val} {m : Int} (h1 : built_do n l = some (numV m, 0)) (h2 : R31_number n l = some m) : Same31 n l 2 :=
  ⟨numV m, 0, h1, by rw [r31, if_neg (by decide), if_pos (by decide), h2]; rfl, few_num m, fun _ => ⟨rfl, cnf_num m⟩⟩
theorem fin_tru {n : List UInt8} {l : List api_Val} {b : Bool} (h1 : built_do n l = some (truV b, 0)) (h2 : R31_truth n l = some b) : Same31 n l 3 :=
  ⟨truV b, 0, h1, by rw [r31, if_neg (by decide), if_neg (by decide), if_pos (by decide), h2]; rfl, few_tru b, fun _ => ⟨rfl, cnf_tru b⟩⟩
theorem textL_len31 (n : Int) (h : inI n) : (textL n).length ≤ 20 := by
  have hd := digs_len n.natAbs 18 (by have := h.1; have := h.2; omega)
  unfold textL
  split <;> simp <;> omega
theorem list_len (a : api_Val) (hk : a.K = 8 ∨ a.K = 7 ∨ a.K = 9) (hc : cnf a = true) : a.L.length ≤ 4096 := by
  rw [cnf_eq] at hc
  rcases hk with hk | hk | hk
  all_goals
    rw [hk] at hc
    simp [plainB, elemP] at hc
    omega
theorem cnfA_txts (f : api_Val → List UInt8) : ∀ l : List api_Val, cnfA 1 (l.map fun p => txtV (f p)) = true
  | [] => by rw [List.map_nil, cnfA]
  | x :: r => by rw [List.map_cons, cnfA, cnf_txt, cnfA_txts f r]; rfl
theorem fews_txts (f : api_Val → List UInt8) : ∀ l : List api_Val, fews (l.map fun p => txtV (f p))
  | [] => True.intro
  | x :: r => ⟨few_txt _, fews_txts f r⟩
theorem t_first (a b : api_Val) (ha : a.S.length ≤ 100000) (hb : inI b.N) : R31_text [102, 105, 114, 115, 116] [a, b] = some ((cutsP a.S).take b.N.toNat).flatten := by
  have hc := cutsP_len a.S
  have e : (if (if ((cutsP a.S).length : Int) < b.N then ((cutsP a.S).length : Int) else b.N) > (0 : Int) then (if ((cutsP a.S).length : Int) < b.N then ((cutsP a.S).length : Int) else b.N) else (0 : Int)) = ((min b.N.toNat (cutsP a.S).length : Nat) : Int) := by
    have := hb.2
    split <;> split at * <;> omega
  have hf := flat_take (cutsP a.S) (min b.N.toNat (cutsP a.S).length)
  rw [cutsP_flat] at hf
  have h1 : R31_text [102, 105, 114, 115, 116] [a, b] = R31_steps a.S >>= fun x14 => cutL x14 0 (if (if (x14.length : Int) < b.N then (x14.length : Int) else b.N) > (0 : Int) then (if (x14.length : Int) < b.N then (x14.length : Int) else b.N) else (0 : Int)) >>= fun x16 => R01_Join x16 [] >>= fun x17 => some x17 := rfl
  rw [h1, rSteps a.S (by omega), bind_some', e, cutL_ok (by omega) (by omega) (by omega), bind_some', Int.toNat_natCast, show (0 : Int).toNat = 0 from rfl, List.drop_zero, rJoin31 [] _ (by rw [List.length_take]; omega) (by simp) (by omega), join_nil, bind_some']
  congr 2
  by_cases h : b.N.toNat ≤ (cutsP a.S).length
  · rw [Nat.min_eq_left h]
  · rw [Nat.min_eq_right (by omega), List.take_of_length_le (Nat.le_refl _), List.take_of_length_le (by omega)]
theorem t_last (a b : api_Val) (ha : a.S.length ≤ 100000) (hb : inI b.N) : R31_text [108, 97, 115, 116] [a, b] = some ((cutsP a.S).drop ((cutsP a.S).length - min b.N.toNat (cutsP a.S).length)).flatten := by
  have hc := cutsP_len a.S
  have e : (if (if ((cutsP a.S).length : Int) < b.N then ((cutsP a.S).length : Int) else b.N) > (0 : Int) then (if ((cutsP a.S).length : Int) < b.N then ((cutsP a.S).length : Int) else b.N) else (0 : Int)) = ((min b.N.toNat (cutsP a.S).length : Nat) : Int) := by
    have := hb.2
    split <;> split at * <;> omega
  have e2 : wr (((cutsP a.S).length : Int) - ((min b.N.toNat (cutsP a.S).length : Nat) : Int)) = (((cutsP a.S).length - min b.N.toNat (cutsP a.S).length : Nat) : Int) := by rw [wr_in (by omega) (by omega)]; omega
  have hf : ((cutsP a.S).drop ((cutsP a.S).length - min b.N.toNat (cutsP a.S).length)).flatten.length ≤ a.S.length := by
    have h2 := congrArg List.length (cutsP_flat a.S)
    rw [← List.take_append_drop ((cutsP a.S).length - min b.N.toNat (cutsP a.S).length) (cutsP a.S), List.flatten_append, List.length_append] at h2
    omega
  have h1 : R31_text [108, 97, 115, 116] [a, b] = R31_steps a.S >>= fun x14 => cutL x14 (wr ((x14.length : Int) - (if (if (x14.length : Int) < b.N then (x14.length : Int) else b.N) > (0 : Int) then (if (x14.length : Int) < b.N then (x14.length : Int) else b.N) else (0 : Int)))) (x14.length : Int) >>= fun x16 => R01_Join x16 [] >>= fun x17 => some x17 := rfl
  rw [h1, rSteps a.S (by omega), bind_some', e, e2, cutL_ok (by omega) (by omega) (by omega), bind_some', Int.toNat_natCast, Int.toNat_natCast, List.take_length, rJoin31 [] _ (by rw [List.length_drop]; omega) (by simp) (by omega), join_nil, bind_some']
theorem t_join (a b : api_Val) (hl : a.L.length ≤ 65536) (hS : ∀ x ∈ a.L, x.S.length ≤ 100000) (hb : b.S.length ≤ 100000) : R31_text [106, 111, 105, 110] [a, b] = some (Lib.join (a.L.map (·.S)) b.S) := by
  have hfl := flat_le 100000 (a.L.map (·.S)) (by
    intro x hx
    obtain ⟨v, hv, rfl⟩ := List.mem_map.1 hx
    exact hS v hv)
  rw [List.length_map] at hfl
  have hf2 : a.L.length * 100000 ≤ 65536 * 100000 := Nat.mul_le_mul_right _ hl
  have h1 : R31_text [106, 111, 105, 110] [a, b] = R31_text_L3 [a, b] [] 0 >>= fun o27 => R01_Join o27 b.S >>= fun x33 => some x33 := rfl
  have h2 := rNamesL [a, b] a rfl hl 0 (Nat.zero_le _) [] rfl
  rw [List.drop_zero, List.nil_append, show ((0 : Nat) : Int) = 0 from rfl] at h2
  rw [h1, h2, bind_some', rJoin31 b.S _ (by rw [List.length_map]; omega) hb (by omega)]
  rfl
theorem t_trim (a : api_Val) (ha : a.S.length ≤ 100000) : R31_text [116, 114, 105, 109] [a] = some (Lib.trimS a.S [32, 9, 10, 13]) := by
  have h1 : R31_text [116, 114, 105, 109] [a] = R31_text_L1 a.S >>= fun o4 => R31_text_L2 o4 >>= fun o9 => some o9 := rfl
  have hl : (a.S.dropWhile gapB).length ≤ a.S.length := (List.dropWhile_sublist _).length_le
  rw [h1, rTrim1 a.S (by omega), bind_some', rTrim2 _ _ rfl (by omega), bind_some', trim31]
theorem both31 (n : List UInt8) (l : List api_Val) (k : Int) (hr : (n, l.map (·.K), k) ∈ rowsL) (hc : l.all cnf = true) (hf : fews l) (hS : ∀ v ∈ l, v.S.length ≤ 100000 ∧ inI v.N ∧ ∀ x ∈ v.L, x.S.length ≤ 100000) : Same31 n l k := by
  simp only [rowsL, List.mem_cons, List.not_mem_nil, or_false, Prod.mk.injEq] at hr
  rcases hr with ⟨rfl, hL, rfl⟩ | ⟨rfl, hL, rfl⟩ | ⟨rfl, hL, rfl⟩ | ⟨rfl, hL, rfl⟩ | ⟨rfl, hL, rfl⟩ | ⟨rfl, hL, rfl⟩ | ⟨rfl, hL, rfl⟩ | ⟨rfl, hL, rfl⟩ | ⟨rfl, hL, rfl⟩ | ⟨rfl, hL, rfl⟩ | ⟨rfl, hL, rfl⟩ | ⟨rfl, hL, rfl⟩ | ⟨rfl, hL, rfl⟩ | ⟨rfl, hL, rfl⟩ | ⟨rfl, hL, rfl⟩ | ⟨rfl, hL, rfl⟩ | ⟨rfl, hL, rfl⟩ | ⟨rfl, hL, rfl⟩ | ⟨rfl, hL, rfl⟩ | ⟨rfl, hL, rfl⟩ | ⟨rfl, hL, rfl⟩ | ⟨rfl, hL, rfl⟩ | ⟨rfl, hL, rfl⟩ | ⟨rfl, hL, rfl⟩ | ⟨rfl, hL, rfl⟩ | ⟨rfl, hL, rfl⟩ | ⟨rfl, hL, rfl⟩
  · obtain ⟨a, rfl, hka⟩ := map1 hL
    obtain ⟨sa, na, la⟩ := hS a (by simp)
    have fa : few a := hf.1
    simp only [List.all_cons, List.all_nil, Bool.and_true, Bool.and_eq_true] at hc
    exact fin_txt (do_upper a sa) (by simp [R31_text, rLetters 97 122 (-32) a.S (by omega) ltr_up])
  · obtain ⟨a, rfl, hka⟩ := map1 hL
    obtain ⟨sa, na, la⟩ := hS a (by simp)
    have fa : few a := hf.1
    simp only [List.all_cons, List.all_nil, Bool.and_true, Bool.and_eq_true] at hc
    exact fin_txt (do_lower a sa) (by simp [R31_text, rLetters 65 90 32 a.S (by omega) ltr_lo])
  · obtain ⟨a, rfl, hka⟩ := map1 hL
    obtain ⟨sa, na, la⟩ := hS a (by simp)
    have fa : few a := hf.1
    simp only [List.all_cons, List.all_nil, Bool.and_true, Bool.and_eq_true] at hc
    exact fin_txt (do_trim a sa) (t_trim a sa)
  · obtain ⟨a, rfl, hka⟩ := map1 hL
    obtain ⟨sa, na, la⟩ := hS a (by simp)
    have fa : few a := hf.1
    simp only [List.all_cons, List.all_nil, Bool.and_true, Bool.and_eq_true] at hc
    exact fin_num (do_size a sa) (by simp [R31_number, rSteps a.S (by omega)])
  · obtain ⟨a, b, rfl, hka, hkb⟩ := map2 hL
    obtain ⟨sa, na, la⟩ := hS a (by simp)
    obtain ⟨sb, nb, lb⟩ := hS b (by simp)
    have fa : few a := hf.1
    simp only [List.all_cons, List.all_nil, Bool.and_true, Bool.and_eq_true] at hc
    exact fin_txt (do_first a b sa nb.2) (t_first a b sa nb)
  · obtain ⟨a, b, rfl, hka, hkb⟩ := map2 hL
    obtain ⟨sa, na, la⟩ := hS a (by simp)
    obtain ⟨sb, nb, lb⟩ := hS b (by simp)
    have fa : few a := hf.1
    simp only [List.all_cons, List.all_nil, Bool.and_true, Bool.and_eq_true] at hc
    exact fin_txt (do_last a b sa nb.2) (t_last a b sa nb)
  · obtain ⟨a, b, rfl, hka, hkb⟩ := map2 hL
    obtain ⟨sa, na, la⟩ := hS a (by simp)
    obtain ⟨sb, nb, lb⟩ := hS b (by simp)
    have fa : few a := hf.1
    simp only [List.all_cons, List.all_nil, Bool.and_true, Bool.and_eq_true] at hc
    exact fin_txt (do_default a b sa sb) (by by_cases h : a.S = [] <;> simp [R31_text, h])
  · obtain ⟨a, b, rfl, hka, hkb⟩ := map2 hL
    obtain ⟨sa, na, la⟩ := hS a (by simp)
    obtain ⟨sb, nb, lb⟩ := hS b (by simp)
    have fa : few a := hf.1
    simp only [List.all_cons, List.all_nil, Bool.and_true, Bool.and_eq_true] at hc
    exact fin_txt (do_cat a b sa sb) (by simp [R31_text, need_ok (show a.S.length + b.S.length ≤ 9223372036854775807 by omega)])
  · obtain ⟨a, b, c, rfl, hka, hkb, hkc⟩ := map3 hL
    obtain ⟨sa, na, la⟩ := hS a (by simp)
    obtain ⟨sb, nb, lb⟩ := hS b (by simp)
    obtain ⟨sc, nc, lc⟩ := hS c (by simp)
    have fa : few a := hf.1
    simp only [List.all_cons, List.all_nil, Bool.and_true, Bool.and_eq_true] at hc
    exact fin_txt (do_replace a b c sa sb sc) (by simp only [R31_text, idx_0, idx_1, idx_2, List.getElem?_cons_zero, List.getElem?_cons_succ, bind_some', rReplace a.S b.S c.S sa sb sc]; rfl)
  · obtain ⟨a, b, rfl, hka, hkb⟩ := map2 hL
    obtain ⟨sa, na, la⟩ := hS a (by simp)
    obtain ⟨sb, nb, lb⟩ := hS b (by simp)
    have fa : few a := hf.1
    simp only [List.all_cons, List.all_nil, Bool.and_true, Bool.and_eq_true] at hc
    have hl := list_len a (.inr (.inl hka)) hc.1
    exact fin_txt (do_join a b (by omega) la sb) (t_join a b (by omega) la sb)
  · obtain ⟨a, rfl, hka⟩ := map1 hL
    obtain ⟨sa, na, la⟩ := hS a (by simp)
    have fa : few a := hf.1
    simp only [List.all_cons, List.all_nil, Bool.and_true, Bool.and_eq_true] at hc
    have hl := list_len a (.inl hka) hc
    have hp := cnf_pairs a hka hc
    have h2 := rKeysL [a] ([a].map (·.K)) a rfl (by omega) hp 0 (Nat.zero_le _) [] rfl
    rw [List.drop_zero, List.nil_append, show ((0 : Nat) : Int) = 0 from rfl] at h2
    refine ⟨_, 0, do_keys a (by omega) hp, by rw [r31, if_neg (by decide), if_neg (by decide), if_neg (by decide), h2]; rfl, ?_, fun _ => ⟨rfl, ?_⟩⟩
    · rw [few_mkK]; exact ⟨by rw [List.length_map]; omega, fews_txts _ _⟩
    · rw [cnf_eq]; simp [plainB, elemP, cnfA_txts, hl]
  · obtain ⟨a, b, rfl, hka, hkb⟩ := map2 hL
    obtain ⟨sa, na, la⟩ := hS a (by simp)
    obtain ⟨sb, nb, lb⟩ := hS b (by simp)
    have fa : few a := hf.1
    simp only [List.all_cons, List.all_nil, Bool.and_true, Bool.and_eq_true] at hc
    exact fin_txt (do_get a b fa) (by simp [R31_text, rFind a b.S fa])
  · obtain ⟨a, b, rfl, hka, hkb⟩ := map2 hL
    obtain ⟨sa, na, la⟩ := hS a (by simp)
    obtain ⟨sb, nb, lb⟩ := hS b (by simp)
    have fa : few a := hf.1
    simp only [List.all_cons, List.all_nil, Bool.and_true, Bool.and_eq_true] at hc
    exact fin_tru (do_has a b fa) (by simp [R31_truth, rFind a b.S fa])
  · obtain ⟨a, rfl, hka⟩ := map1 hL
    obtain ⟨sa, na, la⟩ := hS a (by simp)
    have fa : few a := hf.1
    simp only [List.all_cons, List.all_nil, Bool.and_true, Bool.and_eq_true] at hc
    exact fin_num (do_count a) (by simp [R31_number])
  · obtain ⟨a, rfl, hka⟩ := map1 hL
    obtain ⟨sa, na, la⟩ := hS a (by simp)
    have fa : few a := hf.1
    simp only [List.all_cons, List.all_nil, Bool.and_true, Bool.and_eq_true] at hc
    exact fin_num (do_count a) (by simp [R31_number])
  · obtain ⟨a, rfl, hka⟩ := map1 hL
    obtain ⟨sa, na, la⟩ := hS a (by simp)
    have fa : few a := hf.1
    simp only [List.all_cons, List.all_nil, Bool.and_true, Bool.and_eq_true] at hc
    exact fin_num (do_count a) (by simp [R31_number])
  · obtain ⟨a, rfl, hka⟩ := map1 hL
    obtain ⟨sa, na, la⟩ := hS a (by simp)
    have fa : few a := hf.1
    simp only [List.all_cons, List.all_nil, Bool.and_true, Bool.and_eq_true] at hc
    have h2 := do_write a na
    rw [if_pos hka] at h2
    have ht : R01_Text a.N = some (textL a.N) := by unfold R01_Text; rw [need_ok na.1, bind_some', need_ok na.2]; rfl
    have hll := textL_len31 a.N na
    refine fin_txt (s := textL a.N) (by rw [h2, lngP_ok _ (by omega)]) ?_
    simp [R31_text, hka, ht]
  · obtain ⟨a, rfl, hka⟩ := map1 hL
    obtain ⟨sa, na, la⟩ := hS a (by simp)
    have fa : few a := hf.1
    simp only [List.all_cons, List.all_nil, Bool.and_true, Bool.and_eq_true] at hc
    have h2 := do_write a na
    rw [if_neg (by omega)] at h2
    cases hb : a.B with
    | true => rw [hb] at h2; exact fin_txt (s := [116, 114, 117, 101]) (by rw [h2, lngP_ok _ (by decide)]; rfl) (by simp [R31_text, hka, hb])
    | false => rw [hb] at h2; exact fin_txt (s := [102, 97, 108, 115, 101]) (by rw [h2, lngP_ok _ (by decide)]; rfl) (by simp [R31_text, hka, hb])
  · obtain ⟨a, b, rfl, hka, hkb⟩ := map2 hL
    obtain ⟨sa, na, la⟩ := hS a (by simp)
    obtain ⟨sb, nb, lb⟩ := hS b (by simp)
    have fa : few a := hf.1
    simp only [List.all_cons, List.all_nil, Bool.and_true, Bool.and_eq_true] at hc
    exact fin_num (do_add a b na nb) (by simp [R31_number, rAdd a.N b.N na nb])
  · obtain ⟨a, b, rfl, hka, hkb⟩ := map2 hL
    obtain ⟨sa, na, la⟩ := hS a (by simp)
    obtain ⟨sb, nb, lb⟩ := hS b (by simp)
    have fa : few a := hf.1
    simp only [List.all_cons, List.all_nil, Bool.and_true, Bool.and_eq_true] at hc
    exact fin_num (do_sub a b na nb) (by simp [R31_number, rSub a.N b.N na nb])
  · obtain ⟨a, b, rfl, hka, hkb⟩ := map2 hL
    obtain ⟨sa, na, la⟩ := hS a (by simp)
    obtain ⟨sb, nb, lb⟩ := hS b (by simp)
    have fa : few a := hf.1
    simp only [List.all_cons, List.all_nil, Bool.and_true, Bool.and_eq_true] at hc
    exact fin_tru (do_less a b) (by simp [R31_truth])
  · obtain ⟨a, b, rfl, hka, hkb⟩ := map2 hL
    obtain ⟨sa, na, la⟩ := hS a (by simp)
    obtain ⟨sb, nb, lb⟩ := hS b (by simp)
    have fa : few a := hf.1
    simp only [List.all_cons, List.all_nil, Bool.and_true, Bool.and_eq_true] at hc
    exact fin_tru (do_same a b fa) (by simp [R31_truth, rSm a b fa])
  · obtain ⟨a, b, rfl, hka, hkb⟩ := map2 hL
    obtain ⟨sa, na, la⟩ := hS a (by simp)
    obtain ⟨sb, nb, lb⟩ := hS b (by simp)
    have fa : few a := hf.1
    simp only [List.all_cons, List.all_nil, Bool.and_true, Bool.and_eq_true] at hc
    exact fin_tru (do_same a b fa) (by simp [R31_truth, rSm a b fa])
  · obtain ⟨a, b, rfl, hka, hkb⟩ := map2 hL
    obtain ⟨sa, na, la⟩ := hS a (by simp)
    obtain ⟨sb, nb, lb⟩ := hS b (by simp)
    have fa : few a := hf.1
    simp only [List.all_cons, List.all_nil, Bool.and_true, Bool.and_eq_true] at hc
    exact fin_tru (do_same a b fa) (by simp [R31_truth, rSm a b fa])
  · obtain ⟨a, b, rfl, hka, hkb⟩ := map2 hL
    obtain ⟨sa, na, la⟩ := hS a (by simp)
    obtain ⟨sb, nb, lb⟩ := hS b (by simp)
    have fa : few a := hf.1
    simp only [List.all_cons, List.all_nil, Bool.and_true, Bool.and_eq_true] at hc
    exact fin_tru (do_both a b) (by cases h : a.B <;> simp [R31_truth, h])
  · obtain ⟨a, b, rfl, hka, hkb⟩ := map2 hL
    obtain ⟨sa, na, la⟩ := hS a (by simp)
    obtain ⟨sb, nb, lb⟩ := hS b (by simp)
    have fa : few a := hf.1
    simp only [List.all_cons, List.all_nil, Bool.and_true, Bool.and_eq_true] at hc
    exact fin_tru (do_either a b) (by cases h : a.B <;> simp [R31_truth, h])
  · obtain ⟨a, rfl, hka⟩ := map1 hL
    obtain ⟨sa, na, la⟩ := hS a (by simp)
    have fa : few a := hf.1
    simp only [List.all_cons, List.all_nil, Bool.and_true, Bool.and_eq_true] at hc
    exact fin_tru (do_not a) (by simp [R31_truth])
end Go.Proofs.YteahaflhihioaaaGreatDoor
end

section
namespace Go.Proofs.YteahaflhihioaaaGreatDoor
open Go.RowKit

/-- The two sides of a call agree. -/
theorem calls31 (n : List UInt8) (l : List api_Val) (hl : l.length ≤ 65536) (hf : fews l) (hS : ∀ v ∈ l, v.S.length ≤ 100000 ∧ inI v.N ∧ ∀ x ∈ v.L, x.S.length ≤ 100000) :
    ∃ v e, built_Call n l = some (v, e) ∧ R31_Call n l = some (v, e) ∧ few v ∧ (e = 0 → v.K = (callP n (l.map (·.K))).1 ∧ cnf v = true) := by
  rw [bCall n l hl hf, rCall n l hl hf]
  by_cases h : (callP n (l.map (·.K))).2 = true ∧ l.all cnf = true
  · rw [if_pos h, if_pos h]
    exact both31 n l _ (callP_inv h.1) h.2 hf hS
  · rw [if_neg h, if_neg h]
    exact ⟨val0, 201, rfl, rfl, few_val0, fun h => by cases h⟩
theorem zeros31 (p : Int) (h0 : 0 ≤ p) (h1 : p < 65536) : ∃ s : List UInt8, s.length ≤ 65535 ∧ ∀ {β : Type} (f : List UInt8 → Option β), (mkL 1 (wr p) (0 : Int) >>= fun x1 => b2s x1 >>= f) = f s := by
  refine ⟨List.replicate p.toNat 0, by rw [List.length_replicate]; omega, fun f => ?_⟩
  rw [wr_in (by omega) (by omega), mkL, if_pos ⟨h0, by omega, by omega⟩, bind_some']
  have : (List.replicate p.toNat (0 : Int)) = (List.replicate p.toNat (0 : UInt8)).map fun c => (c.toNat : Int) := by rw [List.map_replicate]; rfl
  rw [this, b2s_bytes, bind_some']
theorem lawBuiltLong (p q r : Int) (hp0 : 0 ≤ p) (hp1 : p < 65536) (hq0 : 0 ≤ q) (hq1 : q < 65536) (hr0 : 0 ≤ r) (hr1 : r < 256) : nunciolaw31_BuiltLong p q r = some true := by
  unfold nunciolaw31_BuiltLong
  obtain ⟨s, hs, es⟩ := zeros31 p hp0 hp1
  obtain ⟨t, ht, et⟩ := zeros31 q hq0 hq1
  rw [es, et]
  simp only [R16_Text, bind_some']
  have key : ∀ (n : List UInt8) (l : List api_Val), l.length ≤ 3 → fews l → (∀ v ∈ l, v.S.length ≤ 100000 ∧ inI v.N ∧ ∀ x ∈ v.L, x.S.length ≤ 100000) →
      (built_Call n l >>= fun x15 => R31_Call n l >>= fun x16 =>
        ( if (x15.2 == x16.2) then
            if (x15.1.K == x16.1.K) then
              if (x15.1.S == x16.1.S) then
                nunciolaw31_awake >>= fun x18 =>
                some x18
              else
                some false
            else
              some false
          else
            some false : Option (Bool)) >>= fun o17 =>
        some o17) = some true := fun n l hl hf hS => by
    obtain ⟨v, e, c1, c2, -⟩ := calls31 n l (by omega) hf hS
    rw [c1, bind_some', c2, bind_some']
    simp [awake31]
  have i0 : inI 0 := by constructor <;> decide
  by_cases h1 : (r.tmod 3 == 1) = true
  · have h2 : (r.tmod 3 == 2) = false := by rw [beq_iff_eq] at h1; rw [h1]; rfl
    rw [h1, h2]
    simp only [if_true, Bool.false_eq_true, if_false, bind_some']
    refine key _ _ (by simp) ⟨few_txt _, few_txt _, few_txt _, True.intro⟩ fun v hv => ?_
    simp only [List.mem_cons, List.not_mem_nil, or_false] at hv
    rcases hv with rfl | rfl | rfl
    · exact ⟨by simp, i0, fun x hx => by simp at hx⟩
    · exact ⟨by simp, i0, fun x hx => by simp at hx⟩
    · exact ⟨by show s.length ≤ _; omega, i0, fun x hx => by simp at hx⟩
  · have h1 : (r.tmod 3 == 1) = false := by simpa using h1
    rw [h1]
    by_cases h2 : (r.tmod 3 == 2) = true
    · rw [h2]
      simp only [if_true, Bool.false_eq_true, if_false, bind_some']
      refine key _ _ (by simp) ⟨by rw [few_mkK]; exact ⟨by simp, few_txt _, few_txt _, True.intro⟩, few_txt _, True.intro⟩ fun v hv => ?_
      simp only [List.mem_cons, List.not_mem_nil, or_false] at hv
      rcases hv with rfl | rfl
      · refine ⟨by simp, i0, fun x hx => ?_⟩
        simp only [List.mem_cons, List.not_mem_nil, or_false] at hx
        rcases hx with rfl | rfl
        · show s.length ≤ _; omega
        · simp
      · exact ⟨by show t.length ≤ _; omega, i0, fun x hx => by simp at hx⟩
    · have h2 : (r.tmod 3 == 2) = false := by simpa using h2
      rw [h2]
      simp only [Bool.false_eq_true, if_false, bind_some']
      refine key _ _ (by simp) ⟨few_txt _, few_txt _, True.intro⟩ fun v hv => ?_
      simp only [List.mem_cons, List.not_mem_nil, or_false] at hv
      rcases hv with rfl | rfl
      · exact ⟨by show s.length ≤ _; omega, i0, fun x hx => by simp at hx⟩
      · exact ⟨by show t.length ≤ _; omega, i0, fun x hx => by simp at hx⟩
end Go.Proofs.YteahaflhihioaaaGreatDoor
end

section
namespace Go.Proofs.YteahaflhihioaaaGreatDoor
open Go.ChangeShapes Go.WideShapes Go.ChangeAt Go.RowKit
open Go.ChangeMaps (setBlock shut_map_nil open_string shut_string keptBut_setBlock frozen?_setBlock heap_setBlock_same)

set_option maxRecDepth 100000 in
theorem ty_uint16 {xs : List V} (h : Ty Tryz.prog 41 xs) : ∃ v : Int, xs = (cNum .u16) v ∧ 0 ≤ v ∧ v ≤ 65535 := by
  obtain ⟨n, rfl, hw⟩ := h.asInt Tryz.underlying41
  refine ⟨n, rfl, ?_⟩
  simp [Lit.wf, IntKind.min, IntKind.max, IntKind.signed, IntKind.bits] at hw
  omega
set_option maxRecDepth 100000 in
theorem ty_uint8 {xs : List V} (h : Ty Tryz.prog 5 xs) : ∃ v : Int, xs = (cNum .u8) v ∧ 0 ≤ v ∧ v ≤ 255 := by
  obtain ⟨n, rfl, hw⟩ := h.asInt Tryz.underlying5
  refine ⟨n, rfl, ?_⟩
  simp [Lit.wf, IntKind.min, IntKind.max, IntKind.signed, IntKind.bits] at hw
  omega
set_option maxRecDepth 100000 in
theorem law_builtLong_args (x0 : V) (x1 : V) (x2 : V) (y0 : ArgTy Tryz.prog 41 x0) (y1 : ArgTy Tryz.prog 41 x1) (y2 : ArgTy Tryz.prog 5 x2) : PCall Tryz.prog 5 [x0, x1, x2] (.p (bV true)) := by
  obtain ⟨z0, ez0, hz0⟩ : ∃ v : Int, [x0] = (cNum .u16) v ∧ 0 ≤ v ∧ v ≤ 65535 := by
    rcases y0 with ⟨xs, _, _, fs, h⟩ | ⟨h, -⟩
    · rw [Tryz.underlying41] at h; cases h
    · exact ty_uint16 h
  cases ez0
  obtain ⟨z1, ez1, hz1⟩ : ∃ v : Int, [x1] = (cNum .u16) v ∧ 0 ≤ v ∧ v ≤ 65535 := by
    rcases y1 with ⟨xs, _, _, fs, h⟩ | ⟨h, -⟩
    · rw [Tryz.underlying41] at h; cases h
    · exact ty_uint16 h
  cases ez1
  obtain ⟨z2, ez2, hz2⟩ : ∃ v : Int, [x2] = (cNum .u8) v ∧ 0 ≤ v ∧ v ≤ 255 := by
    rcases y2 with ⟨xs, _, _, fs, h⟩ | ⟨h, -⟩
    · rw [Tryz.underlying5] at h; cases h
    · exact ty_uint8 h
  cases ez2
  have hlaw : nunciolaw31_BuiltLong z0 z1 z2 = some true := by
    apply lawBuiltLong <;> omega
  exact nunciolaw31_BuiltLong_ok z0 z1 z2 true hlaw
theorem handed_tied {H : Type} {enc : TypeId × Value → H} {a : Assume} {C : Checked} {os : Os} {f : FuncId} {fn : Func} {s : ChangeSpec} {conds : List PathCond} {apart fresh handsOn again : Bool} {X : World → Array Value → Prop}
    (own : ownKnob C.prog.godebug = none) (started : os.Started) (noInit : C.prog.inits.idxOf? f = none) (hfn : C.prog.funcs[f]? = some fn)
    (witness : ∃ (w : World) (tape : Tape) (i : Input), w.os = os ∧ (w.forCall tape i).Shaped C.prog ∧ i.vars = [] ∧ Input.okWide C.prog (w.forCall tape i) .any w.heap.size f i ∧
      ((s.pre enc C.prog fn conds apart (w.forCall tape i).memory i.args ∧ X (w.forCall tape i).memory i.args) ∧ sizedMet enc C.prog fn (OpenSpec.ofChange s) apart (w.forCall tape i).memory i.args) ∧ a.holds C.prog (lone (Frame.enter C.prog f i.args .normal) [] (w.forCall tape i)))
    (contract : ∀ (W : World) (base : Nat) (args : Array Value) (ds gs : List (DataW H)) (before : List MemPlace),
      (∀ (j : Nat) t v, fn.params[j]? = some t → args[j]? = some v → Value.okWide C.prog W .any base t v) →
      DataW.Whole enc C.prog fn.params.toList s.vars apart W args.toList ds gs before →
      conds.all (PathCond.test C.prog ⟨fn.params.toList, ds, s.plain.varTypes C.prog, gs⟩) = true →
      W.ShapedOpen C.prog →
      Calls C.prog f args W fun e W' => ∃ v, e = .returned v ∧ s.post enc C.prog fn apart fresh handsOn again W args v W') :
    ReturnsInHanded a C os f .any (fun w args => (s.pre enc C.prog fn conds apart w args ∧ X w args) ∧ sizedMet enc C.prog fn (OpenSpec.ofChange s) apart w args) (s.post enc C.prog fn apart fresh handsOn again) := by
  refine returnsInHanded_of_calls own started noInit witness ?_
  intro w tape i _ hsh _ hok hpre _
  obtain ⟨_, _, _, fn', hfn', _, _, _, _, hval⟩ := hok
  have e : fn' = fn := Option.some.inj (hfn'.symm.trans hfn)
  subst e
  obtain ⟨⟨⟨ds, gs, before, hw, hc⟩, hx⟩, hz⟩ := hpre
  have hw' := DataW.Whole.of_heap (w' := w.forCall tape i) (by rfl) hw
  refine (contract (w.forCall tape i) w.heap.size i.args ds gs before hval hw' hc hsh).mono fun e W' ⟨v, he, hp⟩ => ?_
  subst he
  exact ChangeSpec.post_blind hp
theorem fragBuiltLong : Frag Tryz.prog [41, 5] = true := by decide +kernel
theorem laidBuiltLong : laidOutB Tryz.prog = true := by kernel_rfl
set_option maxRecDepth 100000 in
theorem builtLong_lifted (os : Os) (started : os.Started) (H : Type) (enc : TypeId × Value → H) :
    ReturnsInHanded {} Tryz.checked os 5 .any (fun w args => (Rows.builtLongSpec.pre enc Tryz.prog Tryz.f5 Rows.builtLongRow.domain false w args ∧ laidMetH Tryz.prog Rows.builtLongRow.laid w) ∧ sizedMet enc Tryz.prog Tryz.f5 (OpenSpec.ofChange Rows.builtLongSpec) false w args) (Rows.builtLongSpec.post enc Tryz.prog Tryz.f5 false true false false) := by
  refine handed_tied (C := Tryz.checked) (X := fun w _ => laidMetH Tryz.prog Rows.builtLongRow.laid w) Tryz.own started (by kernel_rfl) Tryz.func5
    (ChangeSpec.witness_shaped (enc := enc) (C := Tryz.checked) (os := os) (X := fun w _ => laidMetH Tryz.prog Rows.builtLongRow.laid w) false (World.laidAll Tryz.prog os Rows.builtLongRow.laid) #[.int .u16 0, .int .u16 0, .int .u8 0] 8 (World.laidAll_os _ _ _)
      (World.shaped_of_ZipB (by kernel_rfl) (by kernel_rfl)) (by kernel_rfl) (by kernel_rfl) (by kernel_rfl)
      (by rw [MakeChecks.laidMetH_plain _ _ _ (by kernel_rfl)]; exact laidMet_laidAll _ (by kernel_rfl) (by kernel_rfl))) ?_
  intro W base args ds gs before hval0 hW hcnd hsh
  have hval : ∀ (j : Nat) t v, Tryz.f5.params[j]? = some t → args[j]? = some v → Value.okWide Tryz.prog W .any base t v := hval0
  have hW' := hW
  obtain ⟨p, q, hA0, hV, rfl, hfz, hnd⟩ := hW
  have hA : DataW.TrodAll enc Tryz.prog W 0 (fun _ => true) true Tryz.f5.params.toList args.toList ds p := hA0
  rw [Tryz.params5] at hA hval
  have hA2 := hA
  obtain ⟨v0, v1, v2, d0, d1, d2, p0, p1, p2, rfl, rfl, rfl, h0, h1, h2⟩ := trodAll_three hA
  obtain ⟨rfl, rfl⟩ := trodVars_none hV
  obtain ⟨x0, r0, y0⟩ := arg_open fragBuiltLong (by decide) (hval 0 41 v0 rfl rfl) h0
  obtain ⟨x1, r1, y1⟩ := arg_open fragBuiltLong (by decide) (hval 1 41 v1 rfl rfl) h1
  obtain ⟨x2, r2, y2⟩ := arg_open fragBuiltLong (by decide) (hval 2 5 v2 rfl rfl) h2
  clear hA0 hval0
  simp only [List.append_nil] at hW'
  have hgl : GlobOk (fun _ _ => True) W := fun b hb => by
    obtain ⟨m, hm⟩ : ∃ m, W.cell? ⟨0, 0, none⟩ = some (.int .i64 m) := Tryz.laysM219.s1_3 W hsh
    simp only [globsL, List.mem_singleton] at hb
    subst hb
    exact ⟨m, trivial, hm⟩
  refine ((law_builtLong_args x0 x1 x2 y0 y1 y2).out (fun _ _ => True) W #[v0, v1, v2] hgl rfl (rels3 r0 r1 r2)).mono fun e W' ⟨u, he, hd, hg⟩ => ?_
  have hu : u = .bool true := by cases hd with | p _ _ hd => cases hd; rfl
  subst hu; subst he
  exact ⟨_, rfl, post_law2 (pv := []) hW' (fun _ _ _ => trodAll_mk1 (shut_bool Tryz.underlying4 _)) (trodAll_below laidBuiltLong hg (of_decide_eq_true (by kernel_rfl)) hA2 (fun x hx => by simpa using hW'.lt x hx)) rfl hg⟩

theorem builtLong_row_holds : Rows.BuiltLongSaid :=
  OpenClaim.holds_of_wide 5 Tryz.f5 rfl rfl rfl rfl rfl rfl rfl ⟨rfl, rfl, rfl, rfl, rfl⟩ rfl rfl rfl rfl rfl (by kernel_rfl) Tryz.func5 (by kernel_rfl)
    (of_decide_eq_true (by kernel_rfl)) (by unfold Func.isWrapper; first | (rw [if_pos (by decide +kernel)]; kernel_rfl) | (rw [if_neg (by decide +kernel)]; exact ⟨rfl, rfl⟩))
    (fun os started H enc _ => builtLong_lifted os started H enc)
theorem builtLong_holds : Rows.BuiltLongCardSaid :=
  Claim7.holds_tied_plain_at .later [] [.data, .pinned] true (true, "ec4f15ccfec910e94422d6b7401a972acee7c4f7bbc5ed07750fa1c2de8686a4") false builtLong_row_holds (fun _ h => by cases h) (by kernel_rfl) (fun _ h => by cases h) builtLong_row_tie rfl ⟨rfl, rfl⟩ (by kernel_rfl) rfl
    (fun f fn hf hfn => by
      obtain rfl : f = 5 := Option.some.inj ((show Tryz.prog.funcNamed "nuncio/nunciolaw31.BuiltLong" = some 5 by kernel_rfl).symm.trans hf) |>.symm
      obtain rfl : fn = Tryz.f5 := (Option.some.inj (Tryz.func5.symm.trans hfn)).symm
      exact ⟨by kernel_rfl, fun j t ht => by
        rw [Tryz.params5] at ht
        have hm : t ∈ [41, 41, 5] := by simpa using Array.mem_of_getElem? ht
        have hall : ([41, 41, 5].all fun u => !Tryz.prog.wantsStandIn u) = true := by kernel_rfl
        exact (show Tryz.prog.wantsStandIn t = false by simpa using List.all_eq_true.1 hall t hm)⟩)
    (by kernel_rfl)
#print axioms builtLong_holds
end Go.Proofs.YteahaflhihioaaaGreatDoor
end
