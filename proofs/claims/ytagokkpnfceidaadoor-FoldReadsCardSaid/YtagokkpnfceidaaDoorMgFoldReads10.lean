/- The proof's texts, part 10 of 11: the walks by a logic in which data are by value, the plain laws, and at the end the law, for every input. -/
import Derived.Test.YtagokkpnfceidaaDoorMgFoldReads9

section
namespace Go.Proofs.YtagokkpnfceidaaDoor
open Go.RowKit

def bytesN (n : Nat) : List Nat :=
  if n < 128 then [n] else if n < 2048 then [192 + n / 64, 128 + n % 64] else if n < 65536 then [224 + n / 4096, 128 + n / 64 % 64, 128 + n % 64] else [240 + n / 262144, 128 + n / 4096 % 64, 128 + n / 64 % 64, 128 + n % 64]
theorem bytes_eq (l : List Nat) (h : ∀ x ∈ l, x < 256) (m : List UInt8) : (l.map UInt8.ofNat == m) = decide (l = m.map UInt8.toNat) := by
  have key : l.map UInt8.ofNat = m ↔ l = m.map UInt8.toNat := by
    constructor
    · intro e
      subst e
      rw [List.map_map]
      conv => lhs; rw [← List.map_id l]
      refine List.map_congr_left fun x hx => ?_
      have := h x hx
      show x = (UInt8.ofNat x).toNat
      rw [UInt8.toNat_ofNat', Nat.mod_eq_of_lt this]
    · intro e
      subst e
      rw [List.map_map]
      conv => rhs; rw [← List.map_id m]
      exact List.map_congr_left fun x _ => by simp
  by_cases he : l.map UInt8.ofNat = m
  · rw [decide_eq_true (key.1 he), beq_iff_eq]; exact he
  · rw [decide_eq_false (fun k => he (key.2 k)), beq_eq_false_iff_ne]; exact he
theorem b2s_ok (l : List Nat) (h : ∀ x ∈ l, x < 256) : b2s (l.map fun x : Nat => (x : Int)) = some (l.map UInt8.ofNat) := by
  unfold b2s
  rw [if_pos]
  · rw [List.map_map]; rfl
  · rw [List.all_eq_true]
    intro n hn
    obtain ⟨x, hx, rfl⟩ := List.mem_map.1 hn
    have := h x hx
    simp only [decide_eq_true_eq]
    omega
theorem td (n k : Nat) : ((n : Int).tdiv (k : Int)) = ((n / k : Nat) : Int) := by rw [Int.tdiv_eq_ediv_of_nonneg (by omega)]; rfl
theorem tm (n k : Nat) : ((n : Int).tmod (k : Int)) = ((n % k : Nat) : Int) := by rw [Int.tmod_eq_emod_of_nonneg (by omega)]; rfl
theorem wrN (n : Nat) (h : n < 9000000000000) : wr (n : Int) = (n : Int) := wr_in (by omega) (by omega)
theorem u8N (n : Nat) (h : n < 256) : IntKind.u8.wrap (n : Int) = (n : Int) := u8_in (by omega) (by omega)
set_option maxRecDepth 20000 in
theorem rBytes (n : Nat) (h : runeB n = true) : R02_Bytes (n : Int) = some ((bytesN n).map UInt8.ofNat) := by
  have hn : n ≤ 1114111 := by unfold runeB at h; rw [Bool.and_eq_true] at h; exact of_decide_eq_true h.1
  have a1 : decide ((n : Int) < 128) = decide (n < 128) := ltI n 128
  have a2 : decide ((n : Int) < 2048) = decide (n < 2048) := ltI n 2048
  have a3 : decide ((n : Int) < 65536) = decide (n < 65536) := ltI n 65536
  have d64 : (n : Int).tdiv 64 = ((n / 64 : Nat) : Int) := td n 64
  have m64 : (n : Int).tmod 64 = ((n % 64 : Nat) : Int) := tm n 64
  have d4096 : (n : Int).tdiv 4096 = ((n / 4096 : Nat) : Int) := td n 4096
  have d262 : (n : Int).tdiv 262144 = ((n / 262144 : Nat) : Int) := td n 262144
  have w1 : ∀ a b : Nat, a + b < 256 → IntKind.u8.wrap (wr ((a : Int) + (b : Int))) = ((a + b : Nat) : Int) := fun a b h => by
    rw [wr_in (by omega) (by omega), u8_in (by omega) (by omega)]; rfl
  rw [R02_Bytes, rIsR, h]
  simp only [bind_some', Bool.not_true, Bool.false_eq_true, if_false, a1, a2, a3, d64, m64, d4096, d262]
  rw [wrN (n / 64) (by omega), wrN (n / 4096) (by omega), wrN (n / 262144) (by omega)]
  have t64 : (((n / 64 : Nat) : Int)).tmod 64 = ((n / 64 % 64 : Nat) : Int) := tm (n / 64) 64
  have t4096 : (((n / 4096 : Nat) : Int)).tmod 64 = ((n / 4096 % 64 : Nat) : Int) := tm (n / 4096) 64
  rw [t64, t4096]
  unfold bytesN
  by_cases h1 : n < 128
  · rw [decide_eq_true h1, if_pos h1, u8N n (by omega)]
    simp only [if_true]
    have := b2s_ok [n] (by simp; omega)
    simp only [List.map_cons, List.map_nil] at this
    rw [this]; rfl
  rw [decide_eq_false h1, if_neg h1]
  by_cases h2 : n < 2048
  · rw [decide_eq_true h2, if_pos h2]
    have e1 := w1 192 (n / 64) (by omega)
    have e2 := w1 128 (n % 64) (by omega)
    have := b2s_ok [192 + n / 64, 128 + n % 64] (by simp; omega)
    simp only [List.map_cons, List.map_nil] at this
    simp only [Bool.false_eq_true, if_false, if_true]
    rw [show (192 : Int) = ((192 : Nat) : Int) from rfl, show (128 : Int) = ((128 : Nat) : Int) from rfl, e1, e2, this]; rfl
  rw [decide_eq_false h2, if_neg h2]
  by_cases h3 : n < 65536
  · rw [decide_eq_true h3, if_pos h3]
    have e1 := w1 224 (n / 4096) (by omega)
    have e2 := w1 128 (n / 64 % 64) (by omega)
    have e3 := w1 128 (n % 64) (by omega)
    have := b2s_ok [224 + n / 4096, 128 + n / 64 % 64, 128 + n % 64] (by simp; omega)
    simp only [List.map_cons, List.map_nil] at this
    simp only [Bool.false_eq_true, if_false, if_true]
    rw [show (224 : Int) = ((224 : Nat) : Int) from rfl, show (128 : Int) = ((128 : Nat) : Int) from rfl, e1, e2, e3, this]; rfl
  rw [decide_eq_false h3, if_neg h3]
  have e0 := w1 240 (n / 262144) (by omega)
  have e1 := w1 128 (n / 4096 % 64) (by omega)
  have e2 := w1 128 (n / 64 % 64) (by omega)
  have e3 := w1 128 (n % 64) (by omega)
  have := b2s_ok [240 + n / 262144, 128 + n / 4096 % 64, 128 + n / 64 % 64, 128 + n % 64] (by simp; omega)
  simp only [List.map_cons, List.map_nil] at this
  simp only [Bool.false_eq_true, if_false]
  rw [show (240 : Int) = ((240 : Nat) : Int) from rfl, show (128 : Int) = ((128 : Nat) : Int) from rfl, e0, e1, e2, e3, this]; rfl
theorem bytesN_lt (n : Nat) (h : n ≤ 1114111) : ∀ x ∈ bytesN n, x < 256 := by
  unfold bytesN
  split
  · simp; omega
  · split
    · simp; omega
    · split <;> simp <;> omega
theorem rTest (s : List UInt8) (k m : Nat) (hm : k + m ≤ s.length) (hs : s.length < 9000000000000) (n : Int) :
    ( if (decide (n ≥ 0)) = true then
        R02_Rune n >>= fun x11 =>
        if x11 = true then
          R02_Bytes n >>= fun x12 =>
          cutL s k (wr ((k : Int) + m)) >>= fun x13 =>
          some (x12 == x13)
        else
          some false
      else
        some false : Option Bool) = some (decide (0 ≤ n) && (runeB n.toNat && decide (bytesN n.toNat = ((s.take (k + m)).drop k).map UInt8.toNat))) := by
  have e : wr ((k : Int) + m) = ((k + m : Nat) : Int) := by rw [wr_in (by omega) (by omega)]; rfl
  by_cases h : 0 ≤ n
  · obtain ⟨v, rfl⟩ : ∃ v : Nat, n = v := ⟨n.toNat, by omega⟩
    rw [decide_eq_true (show (v : Int) ≥ 0 by omega), rIsR, e, cutL_ok (by omega) (by omega) (by omega)]
    simp only [if_true, bind_some', Int.toNat_natCast, Bool.true_and]
    cases hr : runeB v with
    | false => rfl
    | true =>
      have hv : v ≤ 1114111 := by unfold runeB at hr; rw [Bool.and_eq_true] at hr; exact of_decide_eq_true hr.1
      rw [rBytes v hr]
      simp only [if_true, bind_some', bytes_eq _ (bytesN_lt v hv), Bool.true_and]
  · rw [decide_eq_false (show ¬ n ≥ 0 from h)]; rfl

theorem wr64 (a b : Int) (ha : -3000000 ≤ a) (ha2 : a ≤ 3000000) (hb : 0 ≤ b) (hb2 : b ≤ 255) : wr ((wr ((wr (64 * a)) + (wr b))) - 128) = 64 * a + b - 128 := by
  rw [wr_in (n := 64 * a) (by omega) (by omega), wr_in (n := b) (by omega) (by omega), wr_in (n := 64 * a + b) (by omega) (by omega), wr_in (by omega) (by omega)]
/-- What the next byte adds. -/
def addN (a : Int) (c : UInt8) : Int := 64 * a + c.toNat - 128
theorem rL2 (s : List UInt8) (k : Nat) (v6 : List Int) (m : Nat) (hm : k + m ≤ s.length) (hm4 : m ≤ 4) (hs : s.length < 9000000000000) : ∀ d (i : Nat) (v : Int), i + d = m → 1 ≤ i → (i = 1 → -300 ≤ v ∧ v ≤ 300) → (i = 2 → -30000 ≤ v ∧ v ≤ 30000) → (i = 3 → -3000000 ≤ v ∧ v ≤ 3000000) →
    R02_Next_L2 s k v6 m v i = some (((s.drop (k + i)).take d).foldl addN v) := by
  intro d
  induction d with
  | zero =>
    intro i v hi _ _ _ _
    rw [R02_Next_L2, ltI, decide_eq_false (by omega : ¬ i < m)]
    simp
  | succ d ih =>
    intro i v hi hi1 h1 h2 h3
    have hk : k + i < s.length := by omega
    have e1 : wr ((k : Int) + i) = ((k + i : Nat) : Int) := by rw [wr_in (by omega) (by omega)]; rfl
    have hc := s[k + i].toNat_lt
    have hb : -3000000 ≤ v ∧ v ≤ 3000000 := by omega
    rw [R02_Next_L2, ltI, decide_eq_true (by omega : i < m), e1, wr_succ (by omega)]
    simp only [if_true, idx_nat, getE hk, bind_some']
    rw [wr64 v _ hb.1 hb.2 (by omega) (by omega), dropE hk, List.take_succ_cons, List.foldl_cons]
    exact ih (i + 1) (addN v s[k + i]) (by omega) (by omega) (by omega) (by unfold addN; omega) (by unfold addN; omega)
def leadL : List Int := [0, 0, 192, 224, 240]
/-- The number that so many bytes would be. -/
def numN (c : UInt8) (r : List UInt8) (m : Nat) : Int := (r.take (m - 1)).foldl addN ((c.toNat : Int) - (leadL[m]?.getD 0))
def tstB (c : UInt8) (r : List UInt8) (m : Nat) : Bool := decide (0 ≤ numN c r m) && (runeB (numN c r m).toNat && decide (bytesN (numN c r m).toNat = ((c :: r).take m).map UInt8.toNat))
theorem rL1 (s : List UInt8) (k : Nat) (hk : k < s.length) (hs : s.length < 9000000000000) (m : Nat) (h1 : 1 ≤ m) (h4 : m ≤ 4) :
    R02_Next_L1 s k leadL m = if k + m ≤ s.length then (if tstB s[k] (s.drop (k + 1)) m = true then some (.inr (numN s[k] (s.drop (k + 1)) m, (m : Int))) else R02_Next_L1 s k leadL ((m + 1 : Nat) : Int)) else some (.inl ()) := by
  have e0 : wr ((s.length : Int) - k) = ((s.length - k : Nat) : Int) := by rw [wr_in (by omega) (by omega)]; omega
  have a4 : decide ((m : Int) ≤ 4) = true := decide_eq_true (by omega)
  have hc := s[k].toNat_lt
  rw [R02_Next_L1, e0, a4]
  by_cases hm : k + m ≤ s.length
  · have a5 : decide ((m : Int) ≤ ((s.length - k : Nat) : Int)) = true := decide_eq_true (by omega)
    obtain ⟨ld, hld, hl0, hl1⟩ : ∃ ld : Int, leadL[m]? = some ld ∧ 0 ≤ ld ∧ ld ≤ 240 := by
      match m, h1, h4 with
      | 1, _, _ => exact ⟨0, rfl, by omega, by omega⟩
      | 2, _, _ => exact ⟨192, rfl, by omega, by omega⟩
      | 3, _, _ => exact ⟨224, rfl, by omega, by omega⟩
      | 4, _, _ => exact ⟨240, rfl, by omega, by omega⟩
    have ew : wr ((wr (s[k].toNat : Int)) - ld) = (s[k].toNat : Int) - ld := by rw [wr_in (n := (s[k].toNat : Int)) (by omega) (by omega), wr_in (by omega) (by omega)]
    have h2 := rL2 s k leadL m hm h4 hs (m - 1) 1 ((s[k].toNat : Int) - ld) (by omega) (by omega) (by omega) (by omega) (by omega)
    have en : numN s[k] (s.drop (k + 1)) m = ((s.drop (k + 1)).take (m - 1)).foldl addN ((s[k].toNat : Int) - ld) := by rw [numN, hld]; rfl
    rw [← en, show ((1 : Nat) : Int) = 1 from rfl] at h2
    have ht := rTest s k m hm hs (numN s[k] (s.drop (k + 1)) m)
    have et : ((s.take (k + m)).drop k) = ((s[k] :: s.drop (k + 1)).take m) := by rw [← dropE hk, List.drop_take]; congr 1; omega
    rw [et] at ht
    rw [a5, if_pos hm, wr_succ (by omega)]
    simp only [if_true, bind_some', idx_nat, getE hk, hld, ew, h2]
    rw [ht]
    rfl
  · have a5 : decide ((m : Int) ≤ ((s.length - k : Nat) : Int)) = false := decide_eq_false (by omega)
    rw [a5, if_neg hm]
    rfl
theorem tst1 (c : UInt8) (r : List UInt8) : tstB c r 1 = decide (c.toNat < 128) ∧ numN c r 1 = (c.toNat : Int) := by
  have hc := c.toNat_lt
  have en : numN c r 1 = (c.toNat : Int) := by simp [numN, leadL]
  refine ⟨?_, en⟩
  have hr : runeB c.toNat = true := by unfold runeB; rw [decide_eq_true (by omega), decide_eq_false (by omega)]; rfl
  rw [tstB, en, decide_eq_true (by omega), Int.toNat_natCast, hr]
  simp only [Bool.true_and, List.take_succ_cons, List.take_zero, List.map_cons, List.map_nil]
  unfold bytesN
  by_cases h : c.toNat < 128
  · rw [decide_eq_true h, if_pos h]; simp
  · rw [decide_eq_false h, if_neg h, if_pos (by omega)]
    simp
theorem tst2 (c c1 : UInt8) (r : List UInt8) : tstB c (c1 :: r) 2 = decide ((192 ≤ c.toNat ∧ c.toNat < 224) ∧ contB c1 = true ∧ 128 ≤ (c.toNat - 192) * 64 + (c1.toNat - 128)) ∧ numN c (c1 :: r) 2 = 64 * ((c.toNat : Int) - 192) + c1.toNat - 128 := by
  have hc := c.toNat_lt
  have hc1 := c1.toNat_lt
  have en : numN c (c1 :: r) 2 = 64 * ((c.toNat : Int) - 192) + c1.toNat - 128 := by simp [numN, leadL, addN]
  refine ⟨?_, en⟩
  rw [tstB, en]
  simp only [List.take_succ_cons, List.take_zero, List.map_cons, List.map_nil]
  have hcont : contB c1 = true ↔ (128 ≤ c1.toNat ∧ c1.toNat < 192) := by unfold contB; simp
  by_cases hn : 0 ≤ 64 * ((c.toNat : Int) - 192) + c1.toNat - 128
  · obtain ⟨n, hn2⟩ : ∃ n : Nat, 64 * ((c.toNat : Int) - 192) + c1.toNat - 128 = n := ⟨(64 * ((c.toNat : Int) - 192) + c1.toNat - 128).toNat, by omega⟩
    rw [hn2, Int.toNat_natCast, decide_eq_true (by omega), Bool.true_and]
    have hlt : n < 5000 := by omega
    have hr : runeB n = true := by unfold runeB; rw [decide_eq_true (by omega), decide_eq_false (by omega)]; rfl
    rw [hr, Bool.true_and]
    congr 1
    apply propext
    rw [hcont]
    unfold bytesN
    by_cases h1 : n < 128
    · rw [if_pos h1]
      constructor
      · intro h; simp at h
      · intro h; omega
    · rw [if_neg h1]
      by_cases h2 : n < 2048
      · rw [if_pos h2]
        simp only [List.cons.injEq, and_true]
        omega
      · rw [if_neg h2, if_pos (by omega)]
        constructor
        · intro h; simp at h
        · intro h; omega
  · rw [decide_eq_false hn, Bool.false_and, decide_eq_false]
    rw [hcont]; omega
theorem tst3 (c c1 c2 : UInt8) (r : List UInt8) : tstB c (c1 :: c2 :: r) 3 = decide ((224 ≤ c.toNat ∧ c.toNat < 240) ∧ contB c1 = true ∧ contB c2 = true ∧ 2048 ≤ ((c.toNat - 224) * 64 + (c1.toNat - 128)) * 64 + (c2.toNat - 128) ∧ runeB (((c.toNat - 224) * 64 + (c1.toNat - 128)) * 64 + (c2.toNat - 128)) = true) ∧
    numN c (c1 :: c2 :: r) 3 = 64 * (64 * ((c.toNat : Int) - 224) + c1.toNat - 128) + c2.toNat - 128 := by
  have hc := c.toNat_lt
  have hc1 := c1.toNat_lt
  have hc2 := c2.toNat_lt
  have en : numN c (c1 :: c2 :: r) 3 = 64 * (64 * ((c.toNat : Int) - 224) + c1.toNat - 128) + c2.toNat - 128 := by simp [numN, leadL, addN]
  refine ⟨?_, en⟩
  rw [tstB, en]
  simp only [List.take_succ_cons, List.take_zero, List.map_cons, List.map_nil]
  have hcont : contB c1 = true ↔ (128 ≤ c1.toNat ∧ c1.toNat < 192) := by unfold contB; simp
  have hcont2 : contB c2 = true ↔ (128 ≤ c2.toNat ∧ c2.toNat < 192) := by unfold contB; simp
  by_cases hn : 0 ≤ 64 * (64 * ((c.toNat : Int) - 224) + c1.toNat - 128) + c2.toNat - 128
  · obtain ⟨n, hn2⟩ : ∃ n : Nat, 64 * (64 * ((c.toNat : Int) - 224) + c1.toNat - 128) + c2.toNat - 128 = n := ⟨(64 * (64 * ((c.toNat : Int) - 224) + c1.toNat - 128) + c2.toNat - 128).toNat, by omega⟩
    rw [hn2, Int.toNat_natCast, decide_eq_true (by omega), Bool.true_and]
    have hlt : n < 200000 := by omega
    have key : bytesN n = [c.toNat, c1.toNat, c2.toNat] ↔ ((224 ≤ c.toNat ∧ c.toNat < 240) ∧ (128 ≤ c1.toNat ∧ c1.toNat < 192) ∧ (128 ≤ c2.toNat ∧ c2.toNat < 192) ∧ 2048 ≤ n) := by
      unfold bytesN
      by_cases h1 : n < 128
      · rw [if_pos h1]
        exact ⟨fun h => by simp at h, fun h => by omega⟩
      rw [if_neg h1]
      by_cases h2 : n < 2048
      · rw [if_pos h2]
        exact ⟨fun h => by simp at h, fun h => by omega⟩
      rw [if_neg h2]
      by_cases h3 : n < 65536
      · rw [if_pos h3]
        simp only [List.cons.injEq, and_true]
        omega
      · rw [if_neg h3]
        exact ⟨fun h => by simp at h, fun h => by omega⟩
    rw [Bool.eq_iff_iff]
    simp only [Bool.and_eq_true, decide_eq_true_eq]
    rw [key, hcont, hcont2]
    constructor
    · rintro ⟨hr, a, b, c', d⟩
      have e : ((c.toNat - 224) * 64 + (c1.toNat - 128)) * 64 + (c2.toNat - 128) = n := by omega
      exact ⟨a, b, c', by omega, by rw [e]; exact hr⟩
    · rintro ⟨a, b, c', d, hr⟩
      have e : ((c.toNat - 224) * 64 + (c1.toNat - 128)) * 64 + (c2.toNat - 128) = n := by omega
      rw [e] at hr d
      exact ⟨hr, a, b, c', d⟩
  · rw [decide_eq_false hn, Bool.false_and, decide_eq_false]
    rw [hcont, hcont2]; omega
theorem tst4 (c c1 c2 c3 : UInt8) (r : List UInt8) : tstB c (c1 :: c2 :: c3 :: r) 4 = decide ((240 ≤ c.toNat ∧ c.toNat < 248) ∧ contB c1 = true ∧ contB c2 = true ∧ contB c3 = true ∧ 65536 ≤ (((c.toNat - 240) * 64 + (c1.toNat - 128)) * 64 + (c2.toNat - 128)) * 64 + (c3.toNat - 128) ∧ runeB ((((c.toNat - 240) * 64 + (c1.toNat - 128)) * 64 + (c2.toNat - 128)) * 64 + (c3.toNat - 128)) = true) ∧
    numN c (c1 :: c2 :: c3 :: r) 4 = 64 * (64 * (64 * ((c.toNat : Int) - 240) + c1.toNat - 128) + c2.toNat - 128) + c3.toNat - 128 := by
  have hc := c.toNat_lt
  have hc1 := c1.toNat_lt
  have hc2 := c2.toNat_lt
  have hc3 := c3.toNat_lt
  have en : numN c (c1 :: c2 :: c3 :: r) 4 = 64 * (64 * (64 * ((c.toNat : Int) - 240) + c1.toNat - 128) + c2.toNat - 128) + c3.toNat - 128 := by simp [numN, leadL, addN]
  refine ⟨?_, en⟩
  rw [tstB, en]
  simp only [List.take_succ_cons, List.take_zero, List.map_cons, List.map_nil]
  have hcont : contB c1 = true ↔ (128 ≤ c1.toNat ∧ c1.toNat < 192) := by unfold contB; simp
  have hcont2 : contB c2 = true ↔ (128 ≤ c2.toNat ∧ c2.toNat < 192) := by unfold contB; simp
  have hcont3 : contB c3 = true ↔ (128 ≤ c3.toNat ∧ c3.toNat < 192) := by unfold contB; simp
  by_cases hn : 0 ≤ 64 * (64 * (64 * ((c.toNat : Int) - 240) + c1.toNat - 128) + c2.toNat - 128) + c3.toNat - 128
  · obtain ⟨n, hn2⟩ : ∃ n : Nat, 64 * (64 * (64 * ((c.toNat : Int) - 240) + c1.toNat - 128) + c2.toNat - 128) + c3.toNat - 128 = n := ⟨(64 * (64 * (64 * ((c.toNat : Int) - 240) + c1.toNat - 128) + c2.toNat - 128) + c3.toNat - 128).toNat, by omega⟩
    rw [hn2, Int.toNat_natCast, decide_eq_true (by omega), Bool.true_and]
    have key : runeB n = true → (bytesN n = [c.toNat, c1.toNat, c2.toNat, c3.toNat] ↔ ((240 ≤ c.toNat ∧ c.toNat < 248) ∧ (128 ≤ c1.toNat ∧ c1.toNat < 192) ∧ (128 ≤ c2.toNat ∧ c2.toNat < 192) ∧ (128 ≤ c3.toNat ∧ c3.toNat < 192) ∧ 65536 ≤ n)) := fun hr => by
      have hlt : n ≤ 1114111 := by unfold runeB at hr; rw [Bool.and_eq_true] at hr; exact of_decide_eq_true hr.1
      unfold bytesN
      by_cases h1 : n < 128
      · rw [if_pos h1]
        exact ⟨fun h => by simp at h, fun h => by omega⟩
      rw [if_neg h1]
      by_cases h2 : n < 2048
      · rw [if_pos h2]
        exact ⟨fun h => by simp at h, fun h => by omega⟩
      rw [if_neg h2]
      by_cases h3 : n < 65536
      · rw [if_pos h3]
        exact ⟨fun h => by simp at h, fun h => by omega⟩
      · rw [if_neg h3]
        simp only [List.cons.injEq, and_true]
        omega
    rw [Bool.eq_iff_iff]
    simp only [Bool.and_eq_true, decide_eq_true_eq]
    rw [hcont, hcont2, hcont3]
    constructor
    · rintro ⟨hr, hb⟩
      obtain ⟨a, b, c', d', d⟩ := (key hr).1 hb
      have e : (((c.toNat - 240) * 64 + (c1.toNat - 128)) * 64 + (c2.toNat - 128)) * 64 + (c3.toNat - 128) = n := by omega
      exact ⟨a, b, c', d', by omega, by rw [e]; exact hr⟩
    · rintro ⟨a, b, c', d', d, hr⟩
      have e : (((c.toNat - 240) * 64 + (c1.toNat - 128)) * 64 + (c2.toNat - 128)) * 64 + (c3.toNat - 128) = n := by omega
      rw [e] at hr d
      exact ⟨hr, (key hr).2 ⟨a, b, c', d', d⟩⟩
  · rw [decide_eq_false hn, Bool.false_and, decide_eq_false]
    rw [hcont, hcont2, hcont3]; omega
theorem rNext (s : List UInt8) (k : Nat) (hk : k < s.length) (hs : s.length < 9000000000000) : R02_Next s k = some (((nextP (s.drop k)).1 : Int), ((nextP (s.drop k)).2 : Int)) := by
  have d1 : decide ((k : Int) < 0) = false := decide_eq_false (by omega)
  have d2 : decide ((k : Int) ≥ (s.length : Int)) = false := decide_eq_false (by omega)
  have hc := s[k].toNat_lt
  have l1 := rL1 s k hk hs 1 (by omega) (by omega)
  have l2 := rL1 s k hk hs 2 (by omega) (by omega)
  have l3 := rL1 s k hk hs 3 (by omega) (by omega)
  have l4 := rL1 s k hk hs 4 (by omega) (by omega)
  have l5 : R02_Next_L1 s k leadL ((4 + 1 : Nat) : Int) = some (.inl ()) := by
    rw [R02_Next_L1, show decide (((4 + 1 : Nat) : Int) ≤ 4) = false from rfl]
    simp only [Bool.false_eq_true, if_false, bind_some']
  have hdl : (s.drop (k + 1)).length = s.length - (k + 1) := List.length_drop
  rw [R02_Next, d1, d2, dropE hk, nextP]
  show (R02_Next_L1 s k leadL ((1 : Nat) : Int) >>= _) = _
  rw [l1, if_pos (by omega), (tst1 _ _).1, (tst1 _ _).2, l2]
  unfold nextC
  by_cases h1 : s[k].toNat < 128
  · rw [decide_eq_true h1, if_pos rfl, if_pos h1]; rfl
  rw [decide_eq_false h1, if_neg (by decide), if_neg h1]
  generalize hr : s.drop (k + 1) = r at *
  match r with
  | [] =>
    simp at hdl
    rw [if_neg (by omega)]
    simp
  | [c1] =>
    simp at hdl
    have hc1 := c1.toNat_lt
    rw [if_pos (by omega), (tst2 _ _ _).1, (tst2 _ _ _).2, l3, if_neg (by omega : ¬ k + 3 ≤ s.length)]
    dsimp only
    by_cases h2 : 192 ≤ s[k].toNat ∧ s[k].toNat < 224
    · rw [if_pos h2]
      by_cases h3 : contB c1 = true ∧ 128 ≤ (s[k].toNat - 192) * 64 + (c1.toNat - 128)
      · have h4 : 128 ≤ c1.toNat := by have := h3.1; unfold contB at this; simp at this; exact this.1
        rw [decide_eq_true ⟨h2, h3⟩, if_pos rfl, if_pos h3]
        simp only [bind_some']
        congr 2
        omega
      · rw [decide_eq_false (fun h => h3 h.2), if_neg (by decide), if_neg h3]; rfl
    · rw [decide_eq_false (fun h => h2 h.1), if_neg (by decide), if_neg h2]
      simp
  | [c1, c2] =>
    simp at hdl
    have hc1 := c1.toNat_lt
    have hc2 := c2.toNat_lt
    rw [if_pos (by omega), (tst2 _ _ _).1, (tst2 _ _ _).2, l3, if_pos (by omega : k + 3 ≤ s.length), (tst3 _ _ _ _).1, (tst3 _ _ _ _).2, l4, if_neg (by omega : ¬ k + 4 ≤ s.length)]
    dsimp only
    by_cases h2 : 192 ≤ s[k].toNat ∧ s[k].toNat < 224
    · rw [if_pos h2]
      by_cases h3 : contB c1 = true ∧ 128 ≤ (s[k].toNat - 192) * 64 + (c1.toNat - 128)
      · have h4 : 128 ≤ c1.toNat := by have := h3.1; unfold contB at this; simp at this; exact this.1
        rw [decide_eq_true ⟨h2, h3⟩, if_pos rfl, if_pos h3]
        simp only [bind_some']
        congr 2
        omega
      · rw [decide_eq_false (fun h => h3 h.2), if_neg (by decide), if_neg h3, decide_eq_false (fun h => by have := h.1; omega), if_neg (by decide)]; rfl
    · rw [decide_eq_false (fun h => h2 h.1), if_neg (by decide), if_neg h2]
      by_cases h5 : 224 ≤ s[k].toNat ∧ s[k].toNat < 240
      · rw [if_pos h5]
        by_cases h6 : contB c1 = true ∧ contB c2 = true ∧ 2048 ≤ ((s[k].toNat - 224) * 64 + (c1.toNat - 128)) * 64 + (c2.toNat - 128) ∧ runeB (((s[k].toNat - 224) * 64 + (c1.toNat - 128)) * 64 + (c2.toNat - 128)) = true
        · have h4 : 128 ≤ c1.toNat := by have := h6.1; unfold contB at this; simp at this; exact this.1
          have h4' : 128 ≤ c2.toNat := by have := h6.2.1; unfold contB at this; simp at this; exact this.1
          rw [decide_eq_true ⟨h5, h6⟩, if_pos rfl, if_pos h6]
          simp only [bind_some']
          congr 2
          omega
        · rw [decide_eq_false (fun h => h6 h.2), if_neg (by decide), if_neg h6]; rfl
      · rw [decide_eq_false (fun h => h5 h.1), if_neg (by decide), if_neg h5]
        simp
  | c1 :: c2 :: c3 :: r =>
    simp at hdl
    have hc1 := c1.toNat_lt
    have hc2 := c2.toNat_lt
    have hc3 := c3.toNat_lt
    rw [if_pos (by omega), (tst2 _ _ _).1, (tst2 _ _ _).2, l3, if_pos (by omega : k + 3 ≤ s.length), (tst3 _ _ _ _).1, (tst3 _ _ _ _).2, l4, if_pos (by omega : k + 4 ≤ s.length), (tst4 _ _ _ _ _).1, (tst4 _ _ _ _ _).2, l5]
    dsimp only
    by_cases h2 : 192 ≤ s[k].toNat ∧ s[k].toNat < 224
    · rw [if_pos h2]
      by_cases h3 : contB c1 = true ∧ 128 ≤ (s[k].toNat - 192) * 64 + (c1.toNat - 128)
      · have h4 : 128 ≤ c1.toNat := by have := h3.1; unfold contB at this; simp at this; exact this.1
        rw [decide_eq_true ⟨h2, h3⟩, if_pos rfl, if_pos h3]
        simp only [bind_some']
        congr 2
        omega
      · rw [decide_eq_false (fun h => h3 h.2), if_neg (by decide), if_neg h3, decide_eq_false (fun h => by have := h.1; omega), if_neg (by decide), decide_eq_false (fun h => by have := h.1; omega), if_neg (by decide)]; rfl
    · rw [decide_eq_false (fun h => h2 h.1), if_neg (by decide), if_neg h2]
      by_cases h5 : 224 ≤ s[k].toNat ∧ s[k].toNat < 240
      · rw [if_pos h5]
        by_cases h6 : contB c1 = true ∧ contB c2 = true ∧ 2048 ≤ ((s[k].toNat - 224) * 64 + (c1.toNat - 128)) * 64 + (c2.toNat - 128) ∧ runeB (((s[k].toNat - 224) * 64 + (c1.toNat - 128)) * 64 + (c2.toNat - 128)) = true
        · have h4 : 128 ≤ c1.toNat := by have := h6.1; unfold contB at this; simp at this; exact this.1
          have h4' : 128 ≤ c2.toNat := by have := h6.2.1; unfold contB at this; simp at this; exact this.1
          rw [decide_eq_true ⟨h5, h6⟩, if_pos rfl, if_pos h6]
          simp only [bind_some']
          congr 2
          omega
        · rw [decide_eq_false (fun h => h6 h.2), if_neg (by decide), if_neg h6, decide_eq_false (fun h => by have := h.1; omega), if_neg (by decide)]; rfl
      · rw [decide_eq_false (fun h => h5 h.1), if_neg (by decide), if_neg h5]
        by_cases h7 : 240 ≤ s[k].toNat ∧ s[k].toNat < 248
        · rw [if_pos h7]
          by_cases h8 : contB c1 = true ∧ contB c2 = true ∧ contB c3 = true ∧ 65536 ≤ (((s[k].toNat - 240) * 64 + (c1.toNat - 128)) * 64 + (c2.toNat - 128)) * 64 + (c3.toNat - 128) ∧ runeB ((((s[k].toNat - 240) * 64 + (c1.toNat - 128)) * 64 + (c2.toNat - 128)) * 64 + (c3.toNat - 128)) = true
          · have h4 : 128 ≤ c1.toNat := by have := h8.1; unfold contB at this; simp at this; exact this.1
            have h4' : 128 ≤ c2.toNat := by have := h8.2.1; unfold contB at this; simp at this; exact this.1
            have h4'' : 128 ≤ c3.toNat := by have := h8.2.2.1; unfold contB at this; simp at this; exact this.1
            rw [decide_eq_true ⟨h7, h8⟩, if_pos rfl, if_pos h8]
            simp only [bind_some']
            congr 2
            omega
          · rw [decide_eq_false (fun h => h8 h.2), if_neg (by decide), if_neg h8]; rfl
        · rw [decide_eq_false (fun h => h7 h.1), if_neg (by decide), if_neg h7]
          rfl
end Go.Proofs.YtagokkpnfceidaaDoor
end

section
namespace Go.Proofs.YtagokkpnfceidaaDoor
open Go.RowKit

theorem leN (n k : Nat) : decide ((n : Int) ≤ (k : Int)) = decide (n ≤ k) := by
  by_cases h : n ≤ k
  · rw [decide_eq_true h, decide_eq_true (by omega : (n : Int) ≤ k)]
  · rw [decide_eq_false h, decide_eq_false (by omega)]
theorem eqN (n k : Nat) : ((n : Int) == (k : Int)) = (n == k) := by
  by_cases h : n = k
  · subst h; simp
  · rw [beq_eq_false_iff_ne.2 h, beq_eq_false_iff_ne.2 (by omega)]
theorem s2b_app (a b : List UInt8) : s2b (a ++ b) = s2b a ++ s2b b := by simp [s2b]
theorem s2b_len (a : List UInt8) : (s2b a).length = a.length := by simp [s2b]
theorem b2s_s2b (l : List UInt8) : b2s (s2b l) = some l := by
  unfold b2s s2b
  rw [if_pos]
  · rw [List.map_map]
    congr 1
    have : ∀ c : UInt8, ((fun n : Int => UInt8.ofNat n.toNat) ∘ fun c : UInt8 => (c.toNat : Int)) c = c := fun c => by simp
    rw [show ((fun n : Int => UInt8.ofNat n.toNat) ∘ fun c : UInt8 => (c.toNat : Int)) = id from funext this, List.map_id]
  · rw [List.all_eq_true]
    intro n hn
    obtain ⟨c, -, rfl⟩ := List.mem_map.1 hn
    have := c.toNat_lt
    simp only [decide_eq_true_eq]
    omega
end Go.Proofs.YtagokkpnfceidaaDoor
end

section
namespace Go.Proofs.YtagokkpnfceidaaDoor
open Go.RowKit

def utfF : Nat → List UInt8 → Bool
  | 0, _ => true
  | n + 1, l => match l with
    | [] => true
    | _ :: _ => if (nextP l).1 = 65533 ∧ (nextP l).2 = 1 then false else utfF n (l.drop (nextP l).2)
theorem utfF_step (n : Nat) (l : List UInt8) (h : l ≠ []) : utfF (n + 1) l = if (nextP l).1 = 65533 ∧ (nextP l).2 = 1 then false else utfF n (l.drop (nextP l).2) := by
  cases l with
  | nil => exact absurd rfl h
  | cons c r => rfl
theorem badI (p : Nat × Nat) : (if (((p.1 : Nat) : Int) == 65533) = true then some (((p.2 : Nat) : Int) == 1) else some false : Option Bool) = some (decide (p.1 = 65533 ∧ p.2 = 1)) := by
  have a := eqN p.1 65533
  have b := eqN p.2 1
  rw [show (65533 : Int) = ((65533 : Nat) : Int) from rfl, show (1 : Int) = ((1 : Nat) : Int) from rfl, a, b]
  by_cases h1 : p.1 = 65533
  · rw [beq_iff_eq.2 h1, if_pos rfl]
    by_cases h2 : p.2 = 1
    · rw [beq_iff_eq.2 h2, decide_eq_true ⟨h1, h2⟩]
    · rw [beq_eq_false_iff_ne.2 h2, decide_eq_false (fun h => h2 h.2)]
  · rw [beq_eq_false_iff_ne.2 h1, if_neg (by decide), decide_eq_false (fun h => h1 h.1)]
theorem rIsU (s : List UInt8) (hs : s.length < 9000000000000) : ∀ n k, k ≤ s.length → s.length - k ≤ n → R02_Is_L1 s k = some (if utfF n (s.drop k) = true then .inl () else .inr ()) := by
  intro n
  induction n with
  | zero =>
    intro k h1 h2
    rw [R02_Is_L1, ltI, decide_eq_false (by omega : ¬ k < s.length)]
    rfl
  | succ n ih =>
    intro k h1 h2
    by_cases hk : k < s.length
    · have hne : s.drop k ≠ [] := by rw [dropE hk]; exact List.cons_ne_nil _ _
      obtain ⟨z1, z2⟩ := nextP_size _ hne
      rw [List.length_drop] at z2
      have ew : wr ((k : Int) + ((nextP (s.drop k)).2 : Int)) = ((k + (nextP (s.drop k)).2 : Nat) : Int) := by rw [wr_in (by omega) (by omega)]; rfl
      rw [R02_Is_L1, ltI, decide_eq_true hk, rNext s k hk hs]
      simp only [if_true, bind_some']
      rw [badI (nextP (s.drop k)), ew, ih _ (by omega) (by omega), utfF_step n _ hne, List.drop_drop]
      by_cases hb : (nextP (s.drop k)).1 = 65533 ∧ (nextP (s.drop k)).2 = 1
      · rw [decide_eq_true hb, if_pos hb]; rfl
      · rw [decide_eq_false hb, if_neg hb]; rfl
    · rw [R02_Is_L1, ltI, decide_eq_false hk, List.drop_eq_nil_of_le (by omega)]
      rfl
theorem tIsU (s : List UInt8) (x1 : List UInt8) (hs : s.length < 9000000000000) : ∀ n k, k ≤ s.length → s.length - k ≤ n → ∃ out, utf_all_1_L1 s k = some (out, ()) ∧ utf_Is_L1 x1 out = some (if utfF n (s.drop k) = true then .inl () else .inr ()) := by
  intro n
  induction n with
  | zero =>
    intro k h1 h2
    rw [utf_all_1_L1, ltI, decide_eq_false (by omega : ¬ k < s.length)]
    refine ⟨[], rfl, ?_⟩
    rw [utf_Is_L1]; rfl
  | succ n ih =>
    intro k h1 h2
    by_cases hk : k < s.length
    · have hne : s.drop k ≠ [] := by rw [dropE hk]; exact List.cons_ne_nil _ _
      obtain ⟨z1, z2⟩ := nextP_size _ hne
      rw [List.length_drop] at z2
      have ew : wr ((k : Int) + ((nextP (s.drop k)).2 : Int)) = ((k + (nextP (s.drop k)).2 : Nat) : Int) := by rw [wr_in (by omega) (by omega)]; rfl
      obtain ⟨out, o1, o2⟩ := ih (k + (nextP (s.drop k)).2) (by omega) (by omega)
      rw [utf_all_1_L1, ltI, decide_eq_true hk, tNext s k hk (by omega)]
      simp only [if_true, bind_some']
      rw [ew, o1]
      refine ⟨_, rfl, ?_⟩
      rw [utf_Is_L1]
      simp only
      rw [badI (nextP (s.drop k)), o2, utfF_step n _ hne, List.drop_drop]
      by_cases hb : (nextP (s.drop k)).1 = 65533 ∧ (nextP (s.drop k)).2 = 1
      · rw [decide_eq_true hb, if_pos hb]; rfl
      · rw [decide_eq_false hb, if_neg hb]; rfl
    · rw [utf_all_1_L1, ltI, decide_eq_false hk, List.drop_eq_nil_of_le (by omega)]
      refine ⟨[], rfl, ?_⟩
      rw [utf_Is_L1]; rfl
theorem rUtf (s : List UInt8) (hs : s.length < 9000000000000) : R02_Is s = some (utfF s.length s) := by
  have := rIsU s hs s.length 0 (by omega) (by omega)
  rw [R02_Is, show (0 : Int) = ((0 : Nat) : Int) from rfl, this, List.drop_zero]
  cases utfF s.length s <;> rfl
theorem tUtf (s : List UInt8) (hs : s.length < 9000000000000) : utf_Is s = some (utfF s.length s) := by
  obtain ⟨out, o1, o2⟩ := tIsU s s hs s.length 0 (by omega) (by omega)
  rw [List.drop_zero] at o2
  rw [utf_Is, utf_all]
  simp only [bind_some']
  rw [utf_all_1, show (0 : Int) = ((0 : Nat) : Int) from rfl, o1]
  simp only [bind_some', List.append_nil, o2]
  cases utfF s.length s <;> rfl
theorem eqC (c : UInt8) (k : Nat) (hk : k < 256) : ((c.toNat : Int) == (k : Int)) = decide (c = UInt8.ofNat k) := by
  rw [eqN]
  by_cases h : c.toNat = k
  · rw [beq_iff_eq.2 h, decide_eq_true]
    apply UInt8.toNat_inj.1
    rw [h, UInt8.toNat_ofNat', Nat.mod_eq_of_lt hk]
  · rw [beq_eq_false_iff_ne.2 h, decide_eq_false]
    intro e; apply h; rw [e, UInt8.toNat_ofNat', Nat.mod_eq_of_lt hk]
end Go.Proofs.YtagokkpnfceidaaDoor
end

section
namespace Go.Proofs.YtagokkpnfceidaaDoor
open Go.RowKit

abbrev bad1 (l : List UInt8) : Prop := (nextP l).1 = 65533 ∧ (nextP l).2 = 1
theorem utfF_nil : ∀ n, utfF n [] = true
  | 0 => rfl
  | _ + 1 => rfl
theorem utfF_more : ∀ (n n' : Nat) (l : List UInt8), l.length ≤ n → l.length ≤ n' → utfF n l = utfF n' l
  | 0, n', [], _, _ => by rw [utfF_nil, utfF_nil]
  | n + 1, n', [], _, _ => by rw [utfF_nil, utfF_nil]
  | 0, _, _ :: _, h, _ => by simp at h
  | n + 1, 0, _ :: _, _, h => by simp at h
  | n + 1, n' + 1, c :: r, h, h' => by
    obtain ⟨z1, z2⟩ := nextP_size (c :: r) (List.cons_ne_nil _ _)
    rw [utfF_step n _ (List.cons_ne_nil _ _), utfF_step n' _ (List.cons_ne_nil _ _)]
    rw [utfF_more n n' _ (by rw [List.length_drop]; omega) (by rw [List.length_drop]; omega)]
abbrev okU (l : List UInt8) : Prop := utfF l.length l = true
theorem okU_iff {l : List UInt8} (h : l ≠ []) : okU l ↔ ¬ bad1 l ∧ okU (l.drop (nextP l).2) := by
  obtain ⟨z1, z2⟩ := nextP_size l h
  obtain ⟨n, hn⟩ : ∃ n, l.length = n + 1 := ⟨l.length - 1, by omega⟩
  unfold okU
  rw [hn, utfF_step n l h, utfF_more n (l.drop (nextP l).2).length _ (by rw [List.length_drop]; omega) (Nat.le_refl _)]
  by_cases hb : bad1 l
  · rw [if_pos hb]; simp [hb]
  · rw [if_neg hb]; simp [hb]

def rb4 (n : Nat) : List UInt8 := (bytesN n).map UInt8.ofNat
theorem rb4_len (n : Nat) : (rb4 n).length ≤ 4 ∧ 1 ≤ (rb4 n).length := by
  unfold rb4 bytesN
  split
  · simp
  · split
    · simp
    · split <;> simp
theorem ofNc {n : Nat} (h : n < 256) : (UInt8.ofNat n).toNat = n := by rw [UInt8.toNat_ofNat', Nat.mod_eq_of_lt h]
theorem nextP_rb (n : Nat) (h : runeB n = true) (z : List UInt8) : nextP (rb4 n ++ z) = (n, (rb4 n).length) := by
  have hn : n ≤ 1114111 := by unfold runeB at h; rw [Bool.and_eq_true] at h; exact of_decide_eq_true h.1
  have cb : ∀ k, k < 64 → contB (UInt8.ofNat (128 + k)) = true := fun k hk => by
    unfold contB; rw [ofNc (by omega), decide_eq_true (by omega), decide_eq_true (by omega)]; rfl
  unfold rb4 bytesN
  by_cases h1 : n < 128
  · rw [if_pos h1]
    show nextC (UInt8.ofNat n) z = (n, 1)
    unfold nextC
    rw [ofNc (by omega), if_pos h1]
  rw [if_neg h1]
  by_cases h2 : n < 2048
  · rw [if_pos h2]
    show nextC (UInt8.ofNat (192 + n / 64)) (UInt8.ofNat (128 + n % 64) :: z) = (n, 2)
    unfold nextC
    rw [ofNc (by omega), if_neg (by omega), if_pos (by omega)]
    simp only
    rw [ofNc (by omega), if_pos ⟨cb _ (by omega), by omega⟩, show (192 + n / 64 - 192) * 64 + (128 + n % 64 - 128) = n by omega]
  rw [if_neg h2]
  by_cases h3 : n < 65536
  · rw [if_pos h3]
    show nextC (UInt8.ofNat (224 + n / 4096)) (UInt8.ofNat (128 + n / 64 % 64) :: UInt8.ofNat (128 + n % 64) :: z) = (n, 3)
    unfold nextC
    rw [ofNc (by omega), if_neg (by omega), if_neg (by omega), if_pos (by omega)]
    simp only
    rw [ofNc (by omega), ofNc (by omega), show ((224 + n / 4096 - 224) * 64 + (128 + n / 64 % 64 - 128)) * 64 + (128 + n % 64 - 128) = n by omega, if_pos ⟨cb _ (by omega), cb _ (by omega), by omega, h⟩]
  rw [if_neg h3]
  show nextC (UInt8.ofNat (240 + n / 262144)) (UInt8.ofNat (128 + n / 4096 % 64) :: UInt8.ofNat (128 + n / 64 % 64) :: UInt8.ofNat (128 + n % 64) :: z) = (n, 4)
  unfold nextC
  rw [ofNc (by omega), if_neg (by omega), if_neg (by omega), if_neg (by omega), if_pos (by omega)]
  simp only
  rw [ofNc (by omega), ofNc (by omega), ofNc (by omega), show (((240 + n / 262144 - 240) * 64 + (128 + n / 4096 % 64 - 128)) * 64 + (128 + n / 64 % 64 - 128)) * 64 + (128 + n % 64 - 128) = n by omega, if_pos ⟨cb _ (by omega), cb _ (by omega), cb _ (by omega), by omega, h⟩]
theorem okU_rb (n : Nat) (h : runeB n = true) (z : List UInt8) (hz : okU z) : okU (rb4 n ++ z) := by
  have hl := rb4_len n
  have hne : rb4 n ++ z ≠ [] := by
    intro e
    rw [(List.append_eq_nil_iff.1 e).1] at hl
    simp at hl
  rw [okU_iff hne]
  unfold bad1
  rw [nextP_rb n h z]
  refine ⟨fun e => ?_, ?_⟩
  · obtain ⟨e1, e2⟩ := e
    simp only at e1 e2
    rw [e1] at e2
    exact absurd e2 (by decide)
  · simp only
    rw [List.drop_left]
    exact hz
theorem nextP_rune (l : List UInt8) (h : l ≠ []) : runeB (nextP l).1 = true := by
  have hb : runeB 65533 = true := by decide
  cases l with
  | nil => exact absurd rfl h
  | cons c r =>
    have hc := c.toNat_lt
    have cc : ∀ c : UInt8, contB c = true → c.toNat - 128 < 64 := fun c h => by unfold contB at h; simp at h; omega
    rw [nextP]
    unfold nextC
    split
    · unfold runeB; rw [decide_eq_true (by simp only; omega), decide_eq_false (by simp only; omega)]; rfl
    · split
      · split
        · split
          · rename_i hh
            have := cc _ hh.1
            unfold runeB; rw [decide_eq_true (by simp only; omega), decide_eq_false (by simp only; omega)]; rfl
          · exact hb
        · exact hb
      · split
        · split
          · split
            · rename_i hh; exact hh.2.2.2
            · exact hb
          · exact hb
        · split
          · split
            · split
              · rename_i hh; exact hh.2.2.2.2
              · exact hb
            · exact hb
          · exact hb
/-- A text's runes. -/
def runesF : Nat → List UInt8 → List Nat
  | 0, _ => []
  | n + 1, l => match l with
    | [] => []
    | _ :: _ => (nextP l).1 :: runesF n (l.drop (nextP l).2)
theorem runesF_step (n : Nat) (l : List UInt8) (h : l ≠ []) : runesF (n + 1) l = (nextP l).1 :: runesF n (l.drop (nextP l).2) := by
  cases l with
  | nil => exact absurd rfl h
  | cons c r => rfl
theorem runesF_rune : ∀ (n : Nat) (l : List UInt8), ∀ r ∈ runesF n l, runeB r = true
  | 0, _, r, h => by simp [runesF] at h
  | n + 1, [], r, h => by simp [runesF] at h
  | n + 1, c :: t, r, h => by
    rw [runesF_step n _ (List.cons_ne_nil _ _)] at h
    rcases List.mem_cons.1 h with rfl | h
    · exact nextP_rune _ (List.cons_ne_nil _ _)
    · exact runesF_rune n _ r h
theorem runesF_len : ∀ (n : Nat) (l : List UInt8), (runesF n l).length ≤ n
  | 0, _ => by simp [runesF]
  | n + 1, [] => by simp [runesF]
  | n + 1, c :: t => by
    rw [runesF_step n _ (List.cons_ne_nil _ _), List.length_cons]
    have := runesF_len n ((c :: t).drop (nextP (c :: t)).2)
    omega
abbrev runesP (l : List UInt8) : List Nat := runesF l.length l
def wholeP (l : List UInt8) : List UInt8 := (runesP l).flatMap rb4

def nameB (c : UInt8) : Bool := (decide (97 ≤ c.toNat) && decide (c.toNat ≤ 122)) || ((decide (65 ≤ c.toNat) && decide (c.toNat ≤ 90)) || ((decide (48 ≤ c.toNat) && decide (c.toNat ≤ 57)) || c == 45))
def nameP (s : List UInt8) : Bool := !(s == []) && (decide (s.length ≤ 32) && s.all nameB)
/-- Does a sign of a coded word begin here? -/
def eqq (l : List UInt8) : Bool := [61, 63].isPrefixOf l
def plainF : Nat → List UInt8 → Bool
  | k, [] => decide (0 < k)
  | k, c :: r => if (c = 32 ∧ k = 0) ∨ c.toNat < 32 ∨ 126 < c.toNat ∨ eqq (c :: r) = true then false
    else if c = 32 then plainF 0 r else if k < 60 then plainF (k + 1) r else false
def plainP (s : List UInt8) : Bool := s == [] || plainF 0 s
def shownB (c : UInt8) : Bool := decide (32 ≤ c.toNat) && decide (c.toNat ≤ 126)
/-- Neither unseen bytes nor the signs of a coded word. -/
def cleanP : List UInt8 → Bool
  | [] => true
  | c :: r => shownB c && (!(eqq (c :: r)) && cleanP r)
def sizeB (w : List UInt8) : Bool := decide (1 ≤ w.length) && decide (w.length ≤ 60)
def sizesK (k : Nat) : List (List UInt8) → Bool
  | [] => true
  | x :: r => (decide (1 ≤ k + x.length) && decide (k + x.length ≤ 60)) && r.all sizeB
theorem sizesK0 (l : List (List UInt8)) : sizesK 0 l = l.all sizeB := by
  cases l with
  | nil => rfl
  | cons x r => simp [sizesK, sizeB]
theorem plainF_cut : ∀ (l : List UInt8) (k : Nat), k ≤ 60 → plainF k l = (sizesK k (cutS 32 l) && cleanP l)
  | [], k, hk => by
    by_cases h0 : 0 < k
    · rw [plainF, decide_eq_true h0]; simp [cutS, sizesK, cleanP, hk]; omega
    · rw [plainF, decide_eq_false h0]; simp [cutS, sizesK, cleanP, hk]; omega
  | c :: r, k, hk => by
    rw [plainF, cleanP, shownB, cutS]
    by_cases hs : c.toNat < 32 ∨ 126 < c.toNat ∨ eqq (c :: r) = true
    · rw [if_pos (.inr hs)]
      rcases hs with h | h | h
      · rw [decide_eq_false (by omega : ¬ 32 ≤ c.toNat)]; simp
      · rw [decide_eq_false (by omega : ¬ c.toNat ≤ 126)]; simp
      · rw [h]; simp
    · have h1 : decide (32 ≤ c.toNat) = true := decide_eq_true (by omega)
      have h2 : decide (c.toNat ≤ 126) = true := decide_eq_true (by omega)
      have h3 : eqq (c :: r) = false := by cases h : eqq (c :: r) with
        | true => exact absurd (.inr (.inr h)) hs
        | false => rfl
      by_cases hc : c = 32
      · subst hc
        by_cases h0 : k = 0
        · rw [if_pos (.inl ⟨rfl, h0⟩), if_pos (beq_self_eq_true _), sizesK, h0]; simp
        · rw [if_neg (fun e => e.elim (fun e => h0 e.2) hs), if_pos rfl, if_pos (beq_self_eq_true _), sizesK, plainF_cut r 0 (by omega), sizesK0, h1, h2, h3]
          have a1 : decide (1 ≤ k + ([] : List UInt8).length) = true := decide_eq_true (by simp; omega)
          have a2 : decide (k + ([] : List UInt8).length ≤ 60) = true := decide_eq_true (by simpa using hk)
          rw [a1, a2]; simp
      · have hcb : ¬ (c == 32) = true := by simpa using hc
        rw [if_neg (fun e => e.elim (fun e => hc e.1) hs), if_neg hc, if_neg hcb, h1, h2, h3]
        cases hcut : cutS 32 r with
        | nil => exact absurd hcut (cutS_ne _ _)
        | cons x t =>
          simp only [sizesK, List.length_cons, Bool.true_and, Bool.not_false]
          by_cases h60 : k < 60
          · rw [if_pos h60, plainF_cut r (k + 1) (by omega), hcut, sizesK, show k + 1 + x.length = k + (x.length + 1) by omega]
          · rw [if_neg h60, decide_eq_false (by omega : ¬ k + (x.length + 1) ≤ 60)]; simp
theorem plain_cut (l : List UInt8) : plainF 0 l = ((cutS 32 l).all sizeB && cleanP l) := by rw [plainF_cut l 0 (by omega), sizesK0]

def frontB : List UInt8 := [61, 63, 85, 84, 70, 45, 56, 63, 66, 63]
def codedP (g : List UInt8) : List UInt8 := frontB ++ encP g ++ [63, 61]
def groupsP : List UInt8 → List (List UInt8) → List (List UInt8)
  | now, [] => [now]
  | now, b :: r => if 45 < now.length + b.length then now :: groupsP b r else groupsP (now ++ b) r
def wordsP (v : List UInt8) : List (List UInt8) :=
  if v = [] then [] else if plainP v = true then cutS 32 v else (groupsP [] ((runesP v).map rb4)).map codedP
theorem groups_join : ∀ (r : List (List UInt8)) (now : List UInt8), (groupsP now r).flatten = now ++ r.flatten
  | [], now => by simp [groupsP]
  | b :: r, now => by
    rw [groupsP]
    split
    · rw [List.flatten_cons, groups_join r b]; simp
    · rw [groups_join r (now ++ b)]; simp
theorem groups_len : ∀ (r : List (List UInt8)) (now : List UInt8), now.length ≤ 45 → (∀ b ∈ r, b.length ≤ 4) → ∀ g ∈ groupsP now r, g.length ≤ 45
  | [], now, hn, _, g, hg => by simp only [groupsP, List.mem_singleton] at hg; subst hg; exact hn
  | b :: r, now, hn, hb, g, hg => by
    have h4 := hb b (by simp)
    rw [groupsP] at hg
    split at hg
    · rcases List.mem_cons.1 hg with rfl | hg
      · exact hn
      · exact groups_len r b (by omega) (fun x hx => hb x (by simp [hx])) g hg
    · exact groups_len r (now ++ b) (by rw [List.length_append]; omega) (fun x hx => hb x (by simp [hx])) g hg
theorem groups_num : ∀ (r : List (List UInt8)) (now : List UInt8), (groupsP now r).length ≤ r.length + 1
  | [], now => by simp [groupsP]
  | b :: r, now => by
    rw [groupsP]
    split
    · have := groups_num r b; simp; omega
    · have := groups_num r (now ++ b); simp; omega
/-- Runes that are joined: no bad bytes. -/
inductive Runed : List UInt8 → Prop
  | nil : Runed []
  | app {a : List UInt8} (n : Nat) (h : runeB n = true) (ha : Runed a) : Runed (a ++ rb4 n)
theorem Runed.ok : ∀ {a : List UInt8}, Runed a → ∀ z, okU z → okU (a ++ z)
  | _, .nil, z, hz => hz
  | _, .app n h ha, z, hz => by rw [List.append_assoc]; exact Runed.ok ha _ (okU_rb n h z hz)
theorem okU_nil : okU [] := rfl
theorem Runed.okU {a : List UInt8} (h : Runed a) : okU a := by have := h.ok [] okU_nil; rwa [List.append_nil] at this
theorem groups_runed : ∀ (l : List Nat) (now : List UInt8), Runed now → (∀ n ∈ l, runeB n = true) → ∀ g ∈ groupsP now (l.map rb4), Runed g
  | [], now, hn, _, g, hg => by simp only [List.map_nil, groupsP, List.mem_singleton] at hg; subst hg; exact hn
  | n :: l, now, hn, hb, g, hg => by
    rw [List.map_cons, groupsP] at hg
    have hr := hb n (by simp)
    split at hg
    · rcases List.mem_cons.1 hg with rfl | hg
      · exact hn
      · have h1 : Runed ([] ++ rb4 n) := .app n hr .nil
        rw [List.nil_append] at h1
        exact groups_runed l (rb4 n) h1 (fun x hx => hb x (by simp [hx])) g hg
    · exact groups_runed l (now ++ rb4 n) (.app n hr hn) (fun x hx => hb x (by simp [hx])) g hg
theorem cutS_join (b : UInt8) : ∀ l : List UInt8, ∀ x r, cutS b l = x :: r → x ++ r.flatMap (fun w => b :: w) = l
  | [], x, r, h => by simp only [cutS, List.cons.injEq] at h; obtain ⟨rfl, rfl⟩ := h; rfl
  | a :: t, x, r, h => by
    rw [cutS] at h
    cases hc : cutS b t with
    | nil => exact absurd hc (cutS_ne _ _)
    | cons y q =>
      have ih := cutS_join b t y q hc
      rw [hc] at h
      split at h
      · rename_i hab
        simp only [List.cons.injEq] at h
        obtain ⟨rfl, rfl⟩ := h
        have : a = b := by simpa using hab
        subst this
        rw [List.flatMap_cons, List.nil_append, List.cons_append, ih]
      · simp only [List.cons.injEq] at h
        obtain ⟨rfl, rfl⟩ := h
        rw [List.cons_append, ih]
theorem cutS_mem (b : UInt8) : ∀ l : List UInt8, ∀ w ∈ cutS b l, ∀ c ∈ w, c ∈ l ∧ c ≠ b
  | [], w, hw, c, hc => by simp only [cutS, List.mem_singleton] at hw; subst hw; simp at hc
  | a :: t, w, hw, c, hc => by
    rw [cutS] at hw
    split at hw
    · rcases List.mem_cons.1 hw with rfl | hw
      · simp at hc
      · have := cutS_mem b t w hw c hc
        exact ⟨by simp [this.1], this.2⟩
    · rename_i hab
      have hab' : a ≠ b := by simpa using hab
      split at hw
      · rename_i x r hcut
        rcases List.mem_cons.1 hw with rfl | hw
        · rcases List.mem_cons.1 hc with rfl | hc
          · exact ⟨by simp, hab'⟩
          · have := cutS_mem b t x (by rw [hcut]; simp) c hc
            exact ⟨by simp [this.1], this.2⟩
        · have := cutS_mem b t w (by rw [hcut]; simp [hw]) c hc
          exact ⟨by simp [this.1], this.2⟩
      · simp only [List.mem_singleton] at hw
        subst hw
        simp only [List.mem_singleton] at hc
        subst hc
        exact ⟨by simp, hab'⟩
end Go.Proofs.YtagokkpnfceidaaDoor
end

section
namespace Go.Proofs.YtagokkpnfceidaaDoor
open Go.RowKit

theorem u32_in {n : Int} (h1 : 0 ≤ n) (h2 : n ≤ 4294967295) : IntKind.u32.wrap n = n := by
  simp [IntKind.wrap, IntKind.bits, IntKind.signed]
  omega
theorem u32n (n : Nat) (h : n ≤ 4294967295) : IntKind.u32.wrap (n : Int) = (n : Int) := u32_in (by omega) (by omega)
theorem sh8 (v : Nat) (h : v < 65536) : IntKind.u32.wrap ((v : Int) * 2 ^ (min (8 : Int).toNat (IntKind.u32.bits))) = ((v * 256 : Nat) : Int) := by
  have : (min (8 : Int).toNat (IntKind.u32.bits)) = 8 := rfl
  rw [this, u32_in (by omega) (by omega)]; omega
theorem sh6 (v : Nat) (h : v < 262144) : IntKind.u32.wrap ((v : Int) * 2 ^ (min (6 : Int).toNat (IntKind.u32.bits))) = ((v * 64 : Nat) : Int) := by
  have : (min (6 : Int).toNat (IntKind.u32.bits)) = 6 := rfl
  rw [this, u32_in (by omega) (by omega)]; omega
theorem orU (k a b : Nat) (h : 2 ^ k * a + b ≤ 4294967295) (hb : b < 2 ^ k) : bits .or .u32 ((2 ^ k * a : Nat) : Int) (b : Int) = ((2 ^ k * a + b : Nat) : Int) := by
  have e2 : (2 : Nat) ^ k * a + b = 2 ^ k * a ||| b := Nat.two_pow_add_eq_or_of_lt hb a
  show IntKind.u32.wrap ((BitVec.ofInt 32 ((2 ^ k * a : Nat) : Int) ||| BitVec.ofInt 32 (b : Int)).toNat : Int) = _
  rw [BitVec.toNat_or, BitVec.ofInt_natCast, BitVec.ofInt_natCast, BitVec.toNat_ofNat, BitVec.toNat_ofNat, Nat.mod_eq_of_lt (by omega), Nat.mod_eq_of_lt (by omega), ← e2]
  exact u32n _ h
theorem or8 (a b : Nat) (ha : a < 65536) (hb : b < 256) : bits .or .u32 ((a * 256 : Nat) : Int) (b : Int) = ((a * 256 + b : Nat) : Int) := by
  have := orU 8 a b (by omega) (by omega)
  rw [show 2 ^ 8 * a = a * 256 by omega] at this
  exact this
theorem or6 (a b : Nat) (ha : a < 262144) (hb : b < 64) : bits .or .u32 ((a * 64 : Nat) : Int) (b : Int) = ((a * 64 + b : Nat) : Int) := by
  have := orU 6 a b (by omega) (by omega)
  rw [show 2 ^ 6 * a = a * 64 by omega] at this
  exact this
theorem andU (k n : Nat) (hk : k ≤ 16) (h : n ≤ 4294967295) : bits .and .u32 (n : Int) ((2 ^ k - 1 : Nat) : Int) = ((n % 2 ^ k : Nat) : Int) := by
  show IntKind.u32.wrap ((BitVec.ofInt 32 (n : Int) &&& BitVec.ofInt 32 ((2 ^ k - 1 : Nat) : Int)).toNat : Int) = _
  have hp : 2 ^ k ≤ 2 ^ 16 := Nat.pow_le_pow_right (by omega) hk
  have e : n &&& (2 ^ k - 1) = n % 2 ^ k := Nat.and_two_pow_sub_one_eq_mod n k
  have hp0 : 0 < 2 ^ k := Nat.pow_pos (by omega)
  have hm : n % 2 ^ k < 2 ^ k := Nat.mod_lt _ hp0
  rw [BitVec.toNat_and, BitVec.ofInt_natCast, BitVec.ofInt_natCast, BitVec.toNat_ofNat, BitVec.toNat_ofNat, Nat.mod_eq_of_lt (by omega), Nat.mod_eq_of_lt (by omega), e]
  exact u32n _ (by omega)
theorem and63u (n : Nat) (h : n ≤ 4294967295) : bits .and .u32 (n : Int) 63 = ((n % 64 : Nat) : Int) := andU 6 n (by omega) h
theorem and255u (n : Nat) (h : n ≤ 4294967295) : bits .and .u32 (n : Int) 255 = ((n % 256 : Nat) : Int) := andU 8 n (by omega) h
theorem and65535u (n : Nat) (h : n ≤ 4294967295) : bits .and .u32 (n : Int) 65535 = ((n % 65536 : Nat) : Int) := andU 16 n (by omega) h
theorem and0u (n : Nat) (h : n ≤ 4294967295) : bits .and .u32 (n : Int) 0 = 0 := by
  have := andU 0 n (by omega) h
  rw [show n % 2 ^ 0 = 0 by omega] at this
  exact this
theorem fdN (n k : Nat) : (n : Int).fdiv (k : Int) = ((n / k : Nat) : Int) := by
  rw [Int.fdiv_eq_ediv_of_nonneg _ (by omega)]; rfl
theorem u8m (n : Nat) : IntKind.u8.wrap (n : Int) = ((n % 256 : Nat) : Int) := by
  simp [IntKind.wrap, IntKind.bits, IntKind.signed]

theorem wb2 (x : Int) (f : Bool) (acc : List Int) (h : acc.length < 1000000000) : strings_Builder_WriteByte_2 x f acc = some ((), true, acc ++ [x]) := by
  rw [strings_Builder_WriteByte_2, strings_Builder_copyCheck_4, bind_some', appL_ok (by simp; omega) (by simp; omega)]; rfl
theorem ws5 (p : List UInt8) (f : Bool) (acc : List Int) (h : acc.length + p.length < 1000000000) : strings_Builder_WriteString_5 p f acc = some ((p.length : Int), (), true, acc ++ s2b p) := by
  rw [strings_Builder_WriteString_5, strings_Builder_copyCheck_4, bind_some', appL_ok (by rw [s2b_len]; omega) (by rw [s2b_len]; omega)]; rfl
theorem s2b_one (A : List UInt8) (c : UInt8) : s2b A ++ [(c.toNat : Int)] = s2b (A ++ [c]) := by rw [s2b_app]; rfl
theorem sstr4 (f : Bool) (A : List UInt8) : strings_Builder_String_4 f (s2b A) = some A := by rw [strings_Builder_String_4]; exact b2s_s2b A

theorem wr01 : wr (0 + 1) = 1 := by decide
theorem wr12 : wr (1 + 1) = 2 := by decide
theorem wr23 : wr (2 + 1) = 3 := by decide
theorem sh8z : IntKind.u32.wrap ((0 : Int) * 2 ^ (min (8 : Int).toNat (IntKind.u32.bits))) = ((0 * 256 : Nat) : Int) := sh8 0 (by omega)
theorem minI3 (l : List UInt8) (k : Nat) (h : k = min l.length 3) : (if (l.length : Int) < (3 : Int) then (l.length : Int) else (3 : Int)) = (k : Int) := by
  split <;> omega
theorem idx_2 {α : Type} (l : List α) : idx l 2 = l[2]? := idx_lit l 2
theorem idx_3 {α : Type} (l : List α) : idx l 3 = l[3]? := idx_lit l 3
theorem dec01 : decide ((0 : Int) < 3) = true := by decide
theorem dec13 : decide ((1 : Int) < 3) = true := by decide
theorem dec23 : decide ((2 : Int) < 3) = true := by decide
theorem dec33 : decide ((3 : Int) < 3) = false := by decide
theorem tE2a (a : UInt8) (f : Bool) (acc : List Int) : b64_Encode_L2 [a] f acc 0 0 = some ((a.toNat * 65536 : Nat) : Int) := by
  have ha := a.toNat_lt
  have hm := minI3 [a] 1 (by simp)
  rw [b64_Encode_L2, hm, dec01]
  simp only [if_true, show decide ((0 : Int) < ((1 : Nat) : Int)) = true from by decide, idx_0, List.getElem?_cons_zero, bind_some']
  rw [sh8z, u32n _ (by omega), or8 0 _ (by omega) (by omega), wr01, b64_Encode_L2, hm, dec13]
  simp only [if_true, show decide ((1 : Int) < ((1 : Nat) : Int)) = false from by decide, Bool.false_eq_true, if_false]
  rw [sh8 _ (by omega), wr12, b64_Encode_L2, hm, dec23]
  simp only [if_true, show decide ((2 : Int) < ((1 : Nat) : Int)) = false from by decide, Bool.false_eq_true, if_false]
  rw [sh8 _ (by omega), wr23, b64_Encode_L2, dec33]
  rw [if_neg (by decide)]
  exact congrArg (fun n : Nat => some (n : Int)) (by omega)
theorem tE2b (a b : UInt8) (f : Bool) (acc : List Int) : b64_Encode_L2 [a, b] f acc 0 0 = some ((a.toNat * 65536 + b.toNat * 256 : Nat) : Int) := by
  have ha := a.toNat_lt
  have hb := b.toNat_lt
  have hm := minI3 [a, b] 2 (by simp)
  rw [b64_Encode_L2, hm, dec01]
  simp only [if_true, show decide ((0 : Int) < ((2 : Nat) : Int)) = true from by decide, idx_0, List.getElem?_cons_zero, bind_some']
  rw [sh8z, u32n _ (by omega), or8 0 _ (by omega) (by omega), wr01, b64_Encode_L2, hm, dec13]
  simp only [if_true, show decide ((1 : Int) < ((2 : Nat) : Int)) = true from by decide, idx_1, List.getElem?_cons_succ, List.getElem?_cons_zero, bind_some']
  rw [sh8 _ (by omega), u32n _ (by omega), or8 _ _ (by omega) (by omega), wr12, b64_Encode_L2, hm, dec23]
  simp only [if_true, show decide ((2 : Int) < ((2 : Nat) : Int)) = false from by decide, Bool.false_eq_true, if_false]
  rw [sh8 _ (by omega), wr23, b64_Encode_L2, dec33]
  rw [if_neg (by decide)]
  exact congrArg (fun n : Nat => some (n : Int)) (by omega)
theorem tE2c (a b c : UInt8) (r : List UInt8) (f : Bool) (acc : List Int) : b64_Encode_L2 (a :: b :: c :: r) f acc 0 0 = some ((a.toNat * 65536 + b.toNat * 256 + c.toNat : Nat) : Int) := by
  have ha := a.toNat_lt
  have hb := b.toNat_lt
  have hc := c.toNat_lt
  have hm := minI3 (a :: b :: c :: r) 3 (by simp)
  rw [b64_Encode_L2, hm, dec01]
  simp only [if_true, show decide ((0 : Int) < ((3 : Nat) : Int)) = true from by decide, idx_0, List.getElem?_cons_zero, bind_some']
  rw [sh8z, u32n _ (by omega), or8 0 _ (by omega) (by omega), wr01, b64_Encode_L2, hm, dec13]
  simp only [if_true, show decide ((1 : Int) < ((3 : Nat) : Int)) = true from by decide, idx_1, List.getElem?_cons_succ, List.getElem?_cons_zero, bind_some']
  rw [sh8 _ (by omega), u32n _ (by omega), or8 _ _ (by omega) (by omega), wr12, b64_Encode_L2, hm, dec23]
  simp only [if_true, show decide ((2 : Int) < ((3 : Nat) : Int)) = true from by decide, idx_2, List.getElem?_cons_succ, List.getElem?_cons_zero, bind_some']
  rw [sh8 _ (by omega), u32n _ (by omega), or8 _ _ (by omega) (by omega), wr23, b64_Encode_L2, dec33]
  rw [if_neg (by decide)]
  exact congrArg (fun n : Nat => some (n : Int)) (by omega)
theorem dgN_eq (n : Nat) : dgN n = dgP n := rfl
theorem b64d (n : Nat) (h : n < 64) : b64_digit (n : Int) = some ((dgP n).toNat : Int) := by
  rw [b64_digit, need_ok (by omega), bind_some', need_ok (by omega), bind_some', Int.toNat_natCast, dgN_eq]
/-- The digits of a number of 24 bits, and signs. -/
theorem tE3 (l : List UInt8) (k N : Nat) (hk : k = min l.length 3) (hN : N < 16777216) (_ : Bool) (A : List UInt8) (hA : A.length < 100000000) :
    ∀ d i : Nat, i + d = 4 → ∀ (B : List UInt8), B.length = i → ∀ f, ∃ f', b64_Encode_L3 l (N : Int) (i : Int) f (s2b (A ++ B)) =
      some (f', s2b (A ++ B ++ (([dgP (N / 262144 % 64), (if 1 ≤ k then dgP (N / 4096 % 64) else 61), (if 2 ≤ k then dgP (N / 64 % 64) else 61), (if 3 ≤ k then dgP (N % 64) else 61)] : List UInt8).drop i))) := by
  have hm := minI3 l k hk
  intro d
  induction d with
  | zero =>
    intro i hi B hB f
    obtain rfl : i = 4 := by omega
    refine ⟨f, ?_⟩
    rw [b64_Encode_L3, show decide (((4 : Nat) : Int) < 4) = false from by decide]
    simp
  | succ d ih =>
    intro i hi B hB f
    have step : ∀ c : UInt8, ([dgP (N / 262144 % 64), (if 1 ≤ k then dgP (N / 4096 % 64) else 61), (if 2 ≤ k then dgP (N / 64 % 64) else 61), (if 3 ≤ k then dgP (N % 64) else 61)] : List UInt8).drop i = c :: ([dgP (N / 262144 % 64), (if 1 ≤ k then dgP (N / 4096 % 64) else 61), (if 2 ≤ k then dgP (N / 64 % 64) else 61), (if 3 ≤ k then dgP (N % 64) else 61)] : List UInt8).drop (i + 1) →
        ∃ f', b64_Encode_L3 l (N : Int) ((i + 1 : Nat) : Int) true (s2b (A ++ B) ++ [(c.toNat : Int)]) = some (f', s2b (A ++ B ++ (([dgP (N / 262144 % 64), (if 1 ≤ k then dgP (N / 4096 % 64) else 61), (if 2 ≤ k then dgP (N / 64 % 64) else 61), (if 3 ≤ k then dgP (N % 64) else 61)] : List UInt8).drop i))) := fun c hc => by
      obtain ⟨f', h⟩ := ih (i + 1) (by omega) (B ++ [c]) (by simp [hB]) true
      refine ⟨f', ?_⟩
      rw [s2b_one, hc, List.append_assoc A B [c], h]
      simp
    have hAB : (s2b (A ++ B)).length < 1000000000 := by rw [s2b_len, List.length_append]; omega
    have dig : ∀ (s p : Nat), wr (18 - (wr (6 * (i : Int)))) = (s : Int) → s ≤ 18 → p = 2 ^ s → (need (0 ≤ (wr (18 - (wr (6 * (i : Int)))))) >>= fun _ =>
      b64_digit (bits .and .u32 ((N : Int).fdiv (2 ^ (min (wr (18 - (wr (6 * (i : Int))))).toNat (IntKind.u32.bits)))) 63)) = some ((dgP (N / p % 64)).toNat : Int) := fun s p hs h18 hp => by
      have e : min ((s : Int)).toNat (IntKind.u32.bits) = s := by
        show min s 32 = s
        omega
      rw [hs, need_ok (by omega), bind_some', e, show (2 : Int) ^ s = ((p : Nat) : Int) by rw [hp]; simp, fdN, and63u _ (by have := Nat.div_le_self N p; omega), b64d _ (Nat.mod_lt _ (by omega))]
    rw [b64_Encode_L3, hm, show decide ((i : Int) < 4) = true from decide_eq_true (by omega), if_pos rfl]
    by_cases hik : k < i
    · rw [decide_eq_true (show (i : Int) > (k : Int) by omega), if_pos rfl]
      have hw := wb2 61 f _ hAB
      have e61 : (61 : Int) = ((61 : UInt8).toNat : Int) := rfl
      rw [hw, bind_some', wr_succ (by omega)]
      simp only
      rw [e61]
      refine step 61 ?_
      obtain rfl | rfl | rfl : i = 1 ∨ i = 2 ∨ i = 3 := by omega
      · simp [show ¬ 1 ≤ k by omega]
      · simp [show ¬ 2 ≤ k by omega]
      · simp [show ¬ 3 ≤ k by omega]
    · rw [decide_eq_false (show ¬ (i : Int) > (k : Int) by omega), if_neg (by decide)]
      have fin : ∀ (s p : Nat), wr (18 - (wr (6 * (i : Int)))) = (s : Int) → s ≤ 18 → p = 2 ^ s → ([dgP (N / 262144 % 64), (if 1 ≤ k then dgP (N / 4096 % 64) else 61), (if 2 ≤ k then dgP (N / 64 % 64) else 61), (if 3 ≤ k then dgP (N % 64) else 61)] : List UInt8).drop i = dgP (N / p % 64) :: ([dgP (N / 262144 % 64), (if 1 ≤ k then dgP (N / 4096 % 64) else 61), (if 2 ≤ k then dgP (N / 64 % 64) else 61), (if 3 ≤ k then dgP (N % 64) else 61)] : List UInt8).drop (i + 1) → ∃ f', (need (0 ≤ (wr (18 - (wr (6 * (i : Int)))))) >>= fun _ =>
      b64_digit (bits .and .u32 ((N : Int).fdiv (2 ^ (min (wr (18 - (wr (6 * (i : Int))))).toNat (IntKind.u32.bits)))) 63) >>= fun x6 =>
      strings_Builder_WriteByte_2 x6 f (s2b (A ++ B)) >>= fun x7 =>
      b64_Encode_L3 l (N : Int) (wr ((i : Int) + 1)) x7.2.1 x7.2.2) = some (f', s2b (A ++ B ++ (([dgP (N / 262144 % 64), (if 1 ≤ k then dgP (N / 4096 % 64) else 61), (if 2 ≤ k then dgP (N / 64 % 64) else 61), (if 3 ≤ k then dgP (N % 64) else 61)] : List UInt8).drop i))) := fun s p hs h18 hp hd => by
        have h := dig s p hs h18 hp
        rw [hs, need_ok (by omega), bind_some'] at h
        rw [hs, need_ok (by omega), bind_some', h, bind_some', wb2 _ f _ hAB, bind_some', wr_succ (by omega)]
        exact step _ hd
      obtain rfl | rfl | rfl | rfl : i = 0 ∨ i = 1 ∨ i = 2 ∨ i = 3 := by omega
      · exact fin 18 262144 (by decide) (by omega) rfl rfl
      · exact fin 12 4096 (by decide) (by omega) rfl (by simp [show 1 ≤ k by omega])
      · exact fin 6 64 (by decide) (by omega) rfl (by simp [show 2 ≤ k by omega])
      · exact fin 0 1 (by decide) (by omega) rfl (by simp [show 3 ≤ k by omega])
theorem tE1 : ∀ (l : List UInt8) (f : Bool) (A : List UInt8), A.length + 2 * l.length < 10000000 → ∃ f', b64_Encode_L1 l f (s2b A) = some (f', s2b (A ++ encP l))
  | [], f, A, _ => ⟨f, by rw [b64_Encode_L1]; simp [encP]⟩
  | [a], f, A, h => by
    have ha := a.toNat_lt
    obtain ⟨f1, h1⟩ := tE3 [a] 1 (a.toNat * 65536) (by simp) (by omega) f A (by simp at h; omega) 4 0 rfl [] rfl f
    rw [List.append_nil] at h1
    rw [b64_Encode_L1, show decide ((([a].length : Nat) : Int) > 0) = true from by simp, if_pos rfl, tE2a, bind_some']
    rw [show ((0 : Nat) : Int) = 0 from rfl] at h1
    rw [h1, bind_some', minI3 [a] 1 (by simp), cutL_ok (by omega) (by simp) (by omega), bind_some', b64_Encode_L1]
    refine ⟨f1, ?_⟩
    simp only [encP]
    rw [show a.toNat * 65536 / 262144 % 64 = a.toNat / 4 by omega, show a.toNat * 65536 / 4096 % 64 = a.toNat % 4 * 16 by omega]
    simp
  | [a, b], f, A, h => by
    have ha := a.toNat_lt
    have hb := b.toNat_lt
    obtain ⟨f1, h1⟩ := tE3 [a, b] 2 (a.toNat * 65536 + b.toNat * 256) (by simp) (by omega) f A (by simp at h; omega) 4 0 rfl [] rfl f
    rw [List.append_nil] at h1
    rw [b64_Encode_L1, show decide ((([a, b].length : Nat) : Int) > 0) = true from by simp, if_pos rfl, tE2b, bind_some']
    rw [show ((0 : Nat) : Int) = 0 from rfl] at h1
    rw [h1, bind_some', minI3 [a, b] 2 (by simp), cutL_ok (by omega) (by simp) (by omega), bind_some', b64_Encode_L1]
    refine ⟨f1, ?_⟩
    simp only [encP]
    rw [show (a.toNat * 65536 + b.toNat * 256) / 262144 % 64 = a.toNat / 4 by omega, show (a.toNat * 65536 + b.toNat * 256) / 4096 % 64 = a.toNat % 4 * 16 + b.toNat / 16 by omega, show (a.toNat * 65536 + b.toNat * 256) / 64 % 64 = b.toNat % 16 * 4 by omega]
    simp
  | a :: b :: c :: r, f, A, h => by
    have ha := a.toNat_lt
    have hb := b.toNat_lt
    have hc := c.toNat_lt
    obtain ⟨f1, h1⟩ := tE3 (a :: b :: c :: r) 3 (a.toNat * 65536 + b.toNat * 256 + c.toNat) (by simp) (by omega) f A (by simp at h; omega) 4 0 rfl [] rfl f
    rw [List.append_nil] at h1
    rw [b64_Encode_L1, show decide ((((a :: b :: c :: r).length : Nat) : Int) > 0) = true from decide_eq_true (by simp; omega), if_pos rfl, tE2c, bind_some']
    rw [show ((0 : Nat) : Int) = 0 from rfl] at h1
    rw [h1, bind_some', minI3 (a :: b :: c :: r) 3 (by simp), cutL_ok (by omega) (by simp; omega) (by omega), bind_some']
    have e : ((a :: b :: c :: r).take (((a :: b :: c :: r).length : Nat) : Int).toNat).drop ((3 : Nat) : Int).toNat = r := by rw [Int.toNat_natCast, Int.toNat_natCast, List.take_length]; rfl
    rw [e, show (a.toNat * 65536 + b.toNat * 256 + c.toNat) / 262144 % 64 = a.toNat / 4 by omega, show (a.toNat * 65536 + b.toNat * 256 + c.toNat) / 4096 % 64 = a.toNat % 4 * 16 + b.toNat / 16 by omega, show (a.toNat * 65536 + b.toNat * 256 + c.toNat) / 64 % 64 = b.toNat % 16 * 4 + c.toNat / 64 by omega, show (a.toNat * 65536 + b.toNat * 256 + c.toNat) % 64 = c.toNat % 64 by omega]
    obtain ⟨f2, h2⟩ := tE1 r f1 (A ++ [dgP (a.toNat / 4), dgP (a.toNat % 4 * 16 + b.toNat / 16), dgP (b.toNat % 16 * 4 + c.toNat / 64), dgP (c.toNat % 64)]) (by simp at h ⊢; omega)
    refine ⟨f2, ?_⟩
    simp only [encP, Nat.le_refl, if_true, show (1 : Nat) ≤ 3 from by omega, show (2 : Nat) ≤ 3 from by omega, List.drop_zero]
    rw [h2]
    simp
theorem tEnc (l : List UInt8) (h : l.length ≤ 1000000) : b64_Encode l = some (encP l) := by
  obtain ⟨f, h1⟩ := tE1 l false [] (by simp; omega)
  rw [List.nil_append] at h1
  rw [b64_Encode]
  have e : b64_Encode_L1 l false [] = some (f, s2b (encP l)) := h1
  rw [e, bind_some', sstr4, bind_some']
end Go.Proofs.YtagokkpnfceidaaDoor
end

section
namespace Go.Proofs.YtagokkpnfceidaaDoor
open Go.RowKit

theorem eqN' (n k : Nat) : ((n : Int) == (k : Int)) = (n == k) := by
  by_cases h : n = k
  · subst h; simp
  · rw [beq_eq_false_iff_ne.2 h, beq_eq_false_iff_ne.2 (by omega)]
theorem worthF : ∀ c : Fin 256, b64_worth ((c.1 : Nat) : Int) = some (match dvP (UInt8.ofNat c.1) with | some n => ((n : Int), true) | none => (0, false)) := by decide +kernel
theorem worth (c : UInt8) : b64_worth (c.toNat : Int) = some (match dvP c with | some n => ((n : Int), true) | none => (0, false)) := by
  have := worthF ⟨c.toNat, c.toNat_lt⟩
  simp only [UInt8.ofNat_toNat] at this
  exact this
theorem eq61 (c : UInt8) : ((c.toNat : Int) == 61) = decide (c = 61) := by
  have h := beqB c 61
  rw [show (((61 : UInt8).toNat : Nat) : Int) = 61 from rfl] at h
  rw [h]
  by_cases e : c = 61
  · rw [e]; rfl
  · rw [beq_eq_false_iff_ne.2 e, decide_eq_false e]
/-- How many of the four are digits. -/
def kF (y z : UInt8) (last : Bool) : Nat := if last = true ∧ z = 61 then (if y = 61 then 2 else 3) else 4
theorem wr41 : wr (4 - 1) = 3 := by decide
theorem wr31 : wr (3 - 1) = 2 := by decide
theorem tF1 (w x y z : UInt8) (last : Bool) : b64_four_L1 [w, x, y, z] last 4 = some (kF y z last : Int) := by
  rw [b64_four_L1]
  cases last with
  | false => rfl
  | true =>
    simp only [if_true, show decide ((4 : Int) > 2) = true from by decide, wr41, idx_3, List.getElem?_cons_succ, List.getElem?_cons_zero, bind_some', eq61]
    by_cases hz : z = 61
    · rw [decide_eq_true hz, if_pos rfl, b64_four_L1]
      simp only [if_true, show decide ((3 : Int) > 2) = true from by decide, wr31, idx_2, List.getElem?_cons_succ, List.getElem?_cons_zero, bind_some', eq61]
      by_cases hy : y = 61
      · rw [decide_eq_true hy, if_pos rfl, b64_four_L1]
        simp only [if_true, show decide ((2 : Int) > 2) = false from by decide, Bool.false_eq_true, if_false, bind_some']
        rw [kF, if_pos ⟨rfl, hz⟩, if_pos hy]; rfl
      · rw [decide_eq_false hy, if_neg (by decide), kF, if_pos ⟨rfl, hz⟩, if_neg hy]; rfl
    · rw [decide_eq_false hz, if_neg (by decide), kF, if_neg (fun h => hz h.2)]; rfl
/-- The number of four digits, k of them read. -/
def numF : Nat → List UInt8 → Nat → Nat → Option Nat
  | _, [], _, v => some v
  | k, c :: r, i, v => if k ≤ i then numF k r (i + 1) (v * 64) else match dvP c with
    | some n => numF k r (i + 1) (v * 64 + n)
    | none => none
theorem dv_lt {c : UInt8} {n : Nat} (h : dvP c = some n) : n < 64 := (dg_dv h).1
theorem tF2 (l : List UInt8) (hl : l.length = 4) (k : Nat) : ∀ d i v : Nat, i + d = 4 → v < 64 ^ i → b64_four_L2 l (k : Int) (v : Int) (i : Int) = some (match numF k (l.drop i) i v with | some n => .inl (n : Int) | none => .inr ()) := by
  intro d
  induction d with
  | zero =>
    intro i v hi hv
    obtain rfl : i = 4 := by omega
    rw [b64_four_L2, show decide (((4 : Nat) : Int) < 4) = false from by decide, if_neg (by decide), List.drop_eq_nil_of_le (by omega), numF]
  | succ d ih =>
    intro i v hi hv
    have hil : i < l.length := by omega
    have h3 : 64 ^ i ≤ 64 ^ 3 := Nat.pow_le_pow_right (by omega) (by omega)
    have hv2 : v < 262144 := by omega
    have h64 : 64 ^ (i + 1) = 64 ^ i * 64 := Nat.pow_succ 64 i
    rw [b64_four_L2, show decide ((i : Int) < 4) = true from decide_eq_true (by omega), if_pos rfl, sh6 _ hv2, wr_succ (by omega), dropE hil, numF]
    by_cases hk : k ≤ i
    · rw [decide_eq_true (show (i : Int) ≥ (k : Int) by omega), if_pos rfl, if_pos hk, ih (i + 1) (v * 64) (by omega) (by omega)]
    · rw [decide_eq_false (show ¬ (i : Int) ≥ (k : Int) by omega), if_neg (by decide), if_neg hk, idx_nat, getE hil, bind_some', worth, bind_some']
      cases hd : dvP l[i] with
      | none => rfl
      | some n =>
        have hn := dv_lt hd
        simp only [Bool.not_true, Bool.false_eq_true, if_false]
        rw [or6 _ _ hv2 hn, ih (i + 1) (v * 64 + n) (by omega) (by omega)]
theorem numF_lt (k : Nat) : ∀ (l : List UInt8) (i v n : Nat), numF k l i v = some n → n < (v + 1) * 64 ^ l.length
  | [], i, v, n, h => by simp only [numF, Option.some.injEq] at h; subst h; simp
  | c :: r, i, v, n, h => by
    rw [numF] at h
    have e : 64 ^ (c :: r).length = 64 * 64 ^ r.length := by rw [List.length_cons, Nat.pow_succ, Nat.mul_comm]
    have key : ∀ x, x < 64 → n < (v * 64 + x + 1) * 64 ^ r.length → n < (v + 1) * 64 ^ (c :: r).length := fun x hx hn => by
      rw [e, ← Nat.mul_assoc]
      refine Nat.lt_of_lt_of_le hn (Nat.mul_le_mul_right _ (by omega))
    split at h
    · exact key 0 (by omega) (numF_lt k r _ _ _ h)
    · split at h
      · rename_i m hm
        exact key m (dv_lt hm) (numF_lt k r _ _ _ h)
      · cases h
theorem fdc (n k : Nat) (hk : k ≤ 16) : (n : Int).fdiv (2 ^ (min ((k : Int)).toNat (IntKind.u32.bits))) = ((n / 2 ^ k : Nat) : Int) := by
  have e : min ((k : Int)).toNat (IntKind.u32.bits) = k := by
    show min k 32 = k
    omega
  rw [e, show (2 : Int) ^ k = ((2 ^ k : Nat) : Int) by simp, fdN]
theorem b2s3 (a b c : Nat) (ha : a < 256) (hb : b < 256) (hc : c < 256) : b2s [(a : Int), (b : Int), (c : Int)] = some [UInt8.ofNat a, UInt8.ofNat b, UInt8.ofNat c] := by
  have := b2s_ok [a, b, c] (by simp; omega)
  simpa using this
/-- What four hands back of a number. -/
theorem tF3 (n k : Nat) (hn : n < 16777216) (h2 : 2 ≤ k) (h4 : k ≤ 4) :
    (b2s [(IntKind.u8.wrap ((n : Int).fdiv (2 ^ (min (16 : Int).toNat (IntKind.u32.bits))))), (IntKind.u8.wrap ((n : Int).fdiv (2 ^ (min (8 : Int).toNat (IntKind.u32.bits))))), (IntKind.u8.wrap (n : Int))] >>= fun x9 =>
    cutL x9 0 (wr ((k : Int) - 1)) >>= fun x10 =>
    need (0 ≤ (wr (8 * (wr (4 - (k : Int)))))) >>= fun _ =>
    some (x10, ((bits .and .u32 (n : Int) (IntKind.u32.wrap ((IntKind.u32.wrap (1 * 2 ^ (min (wr (8 * (wr (4 - (k : Int))))).toNat (IntKind.u32.bits)))) - 1))) == 0))) =
    some (([UInt8.ofNat (n / 65536), UInt8.ofNat (n / 256 % 256), UInt8.ofNat (n % 256)] : List UInt8).take (k - 1), decide (n % 2 ^ (8 * (4 - k)) = 0)) := by
  have f16 := fdc n 16 (by omega)
  have f8 := fdc n 8 (by omega)
  rw [show ((16 : Nat) : Int) = 16 from rfl] at f16
  rw [show ((8 : Nat) : Int) = 8 from rfl] at f8
  rw [f16, f8, u8m, u8m, u8m, show n / 2 ^ 16 % 256 = n / 65536 by omega, show n / 2 ^ 8 % 256 = n / 256 % 256 by omega, b2s3 _ _ _ (by omega) (by omega) (by omega), bind_some']
  match k, h2, h4 with
  | 2, _, _ =>
    have a := and65535u n (by omega)
    rw [show wr (((2 : Nat) : Int) - 1) = 1 from by decide, cutL_ok (by omega) (by omega) (by simp), bind_some', need_ok (by decide), bind_some', show IntKind.u32.wrap ((IntKind.u32.wrap (1 * 2 ^ (min (wr (8 * (wr (4 - ((2 : Nat) : Int))))).toNat (IntKind.u32.bits)))) - 1) = 65535 from by decide, a]
    have e : (((n % 65536 : Nat) : Int) == 0) = decide (n % 2 ^ (8 * (4 - 2)) = 0) := by
      rw [show (0 : Int) = ((0 : Nat) : Int) from rfl, Bool.eq_iff_iff, beq_iff_eq, decide_eq_true_iff]
      omega
    rw [e]; rfl
  | 3, _, _ =>
    have a := and255u n (by omega)
    rw [show wr (((3 : Nat) : Int) - 1) = 2 from by decide, cutL_ok (by omega) (by omega) (by simp), bind_some', need_ok (by decide), bind_some', show IntKind.u32.wrap ((IntKind.u32.wrap (1 * 2 ^ (min (wr (8 * (wr (4 - ((3 : Nat) : Int))))).toNat (IntKind.u32.bits)))) - 1) = 255 from by decide, a]
    have e : (((n % 256 : Nat) : Int) == 0) = decide (n % 2 ^ (8 * (4 - 3)) = 0) := by
      rw [show (0 : Int) = ((0 : Nat) : Int) from rfl, Bool.eq_iff_iff, beq_iff_eq, decide_eq_true_iff]
      omega
    rw [e]; rfl
  | 4, _, _ =>
    have a := and0u n (by omega)
    rw [show wr (((4 : Nat) : Int) - 1) = 3 from by decide, cutL_ok (by omega) (by omega) (by simp), bind_some', need_ok (by decide), bind_some', show IntKind.u32.wrap ((IntKind.u32.wrap (1 * 2 ^ (min (wr (8 * (wr (4 - ((4 : Nat) : Int))))).toNat (IntKind.u32.bits)))) - 1) = 0 from by decide, a]
    have e : n % 2 ^ (8 * (4 - 4)) = 0 := by omega
    rw [decide_eq_true e]; rfl
theorem kF_rng (y z : UInt8) (last : Bool) : 2 ≤ kF y z last ∧ kF y z last ≤ 4 := by
  unfold kF; split
  · split <;> omega
  · omega
theorem tFour (w x y z : UInt8) (last : Bool) : ∃ u b, b64_four [w, x, y, z] last = some (u, b) ∧ fourP w x y z last = if b = true then some u else none := by
  have hk := kF_rng y z last
  have h2 := tF2 [w, x, y, z] rfl (kF y z last) 4 0 0 rfl (by omega)
  rw [List.drop_zero, show ((0 : Nat) : Int) = 0 from rfl] at h2
  rw [b64_four, tF1, bind_some', h2, bind_some']
  cases hn : numF (kF y z last) [w, x, y, z] 0 0 with
  | none =>
    refine ⟨[], false, rfl, ?_⟩
    rw [if_neg (by decide)]
    simp only [numF] at hn
    rw [fourP]
    rw [if_neg (by omega)] at hn
    cases hw : dvP w with
    | none => rfl
    | some a =>
      rw [hw] at hn
      simp only at hn
      rw [if_neg (by omega)] at hn
      cases hx : dvP x with
      | none => rfl
      | some b =>
        rw [hx] at hn
        simp only at hn ⊢
        by_cases hl : last = true ∧ z = 61
        · rw [if_pos hl]
          by_cases hy : y = 61
          · have e : kF y z last = 2 := by rw [kF, if_pos hl, if_pos hy]
            rw [e] at hn; simp at hn
          · have e : kF y z last = 3 := by rw [kF, if_pos hl, if_neg hy]
            rw [e] at hn
            rw [if_neg hy]
            cases hd : dvP y with
            | none => rfl
            | some c => rw [hd] at hn; simp at hn
        · have e : kF y z last = 4 := by rw [kF, if_neg hl]
          rw [e] at hn
          rw [if_neg hl]
          cases hd : dvP y with
          | none => rfl
          | some c =>
            rw [hd] at hn
            cases hdz : dvP z with
            | none => rfl
            | some d => rw [hdz] at hn; simp at hn
  | some n =>
    have hlt : n < 16777216 := by have := numF_lt _ _ _ _ _ hn; simpa using this
    simp only
    rw [tF3 n _ hlt hk.1 hk.2]
    refine ⟨_, _, rfl, ?_⟩
    simp only [numF] at hn
    rw [if_neg (by omega)] at hn
    rw [fourP]
    cases hw : dvP w with
    | none => rw [hw] at hn; cases hn
    | some a =>
      rw [hw] at hn
      simp only at hn
      rw [if_neg (by omega)] at hn
      cases hx : dvP x with
      | none => rw [hx] at hn; cases hn
      | some b =>
        have ha := dv_lt hw
        have hb := dv_lt hx
        rw [hx] at hn
        simp only at hn ⊢
        by_cases hl : last = true ∧ z = 61
        · rw [if_pos hl]
          by_cases hy : y = 61
          · have e : kF y z last = 2 := by rw [kF, if_pos hl, if_pos hy]
            rw [e] at hn ⊢
            simp only [show (2 : Nat) ≤ 0 + 1 + 1 from by omega, show (2 : Nat) ≤ 0 + 1 + 1 + 1 from by omega, if_true, Option.some.injEq] at hn
            rw [if_pos hy]
            subst hn
            by_cases h16 : b % 16 = 0
            · rw [if_pos h16, if_pos (decide_eq_true (by omega))]
              simp only [Option.some.injEq]
              show _ = [UInt8.ofNat (_ / 65536)]
              congr 2; omega
            · rw [if_neg h16, if_neg (by rw [decide_eq_true_iff]; omega)]
          · have e : kF y z last = 3 := by rw [kF, if_pos hl, if_neg hy]
            rw [e] at hn ⊢
            rw [if_neg hy]
            cases hd : dvP y with
            | none => rw [hd] at hn; simp at hn
            | some c =>
              have hc := dv_lt hd
              rw [hd] at hn
              simp only [show ¬ (3 : Nat) ≤ 0 + 1 + 1 from by omega, show (3 : Nat) ≤ 0 + 1 + 1 + 1 from by omega, if_true, if_false, Option.some.injEq] at hn
              subst hn
              simp only
              by_cases h4 : c % 4 = 0
              · rw [if_pos h4, if_pos (decide_eq_true (by omega))]
                simp only [Option.some.injEq]
                show _ = [UInt8.ofNat (_ / 65536), UInt8.ofNat (_ / 256 % 256)]
                congr 2
                · omega
                · congr 2; omega
              · rw [if_neg h4, if_neg (by rw [decide_eq_true_iff]; omega)]
        · have e : kF y z last = 4 := by rw [kF, if_neg hl]
          rw [e] at hn ⊢
          rw [if_neg hl]
          cases hd : dvP y with
          | none => rw [hd] at hn; simp at hn
          | some c =>
            have hc := dv_lt hd
            rw [hd] at hn
            cases hdz : dvP z with
            | none => rw [hdz] at hn; simp at hn
            | some d =>
              have hd2 := dv_lt hdz
              rw [hdz] at hn
              simp only [show ¬ (4 : Nat) ≤ 0 + 1 + 1 from by omega, show ¬ (4 : Nat) ≤ 0 + 1 + 1 + 1 from by omega, if_false, Option.some.injEq] at hn
              subst hn
              rw [if_pos (decide_eq_true (by omega))]
              simp only [Option.some.injEq]
              rw [show ((((0 * 64 + a) * 64 + b) * 64 + c) * 64 + d) / 65536 = a * 4 + b / 16 by omega, show ((((0 * 64 + a) * 64 + b) * 64 + c) * 64 + d) / 256 % 256 = b % 16 * 16 + c / 4 by omega, show ((((0 * 64 + a) * 64 + b) * 64 + c) * 64 + d) % 256 = c % 4 * 64 + d by omega]
              rfl
theorem fourP_len {w x y z : UInt8} {last : Bool} {u : List UInt8} (h : fourP w x y z last = some u) : u.length ≤ 3 := by
  rw [fourP] at h
  split at h
  · split at h
    · split at h
      · split at h
        · cases h; simp
        · cases h
      · split at h
        · split at h
          · cases h; simp
          · cases h
        · cases h
    · split at h
      · cases h; simp
      · cases h
  · cases h
theorem tD1 (s : List UInt8) (hs : s.length ≤ 1000000) : ∀ n k : Nat, s.length - k ≤ n → k ≤ s.length → (s.length - k) % 4 = 0 → ∀ (f : Bool) (A : List UInt8), A.length ≤ k →
    (∃ f' t, decP (s.drop k) = some t ∧ b64_Decode_L1 s (k : Int) f (s2b A) = some (.inl (f', s2b (A ++ t)))) ∨ (∃ o, decP (s.drop k) = none ∧ b64_Decode_L1 s (k : Int) f (s2b A) = some (.inr o)) := by
  intro n
  induction n with
  | zero =>
    intro k h1 h2 _ f A _
    obtain rfl : k = s.length := by omega
    refine .inl ⟨f, [], by rw [List.drop_length]; rfl, ?_⟩
    rw [b64_Decode_L1, ltI, decide_eq_false (by omega), if_neg (by decide), List.append_nil]
  | succ n ih =>
    intro k h1 h2 h4 f A hA
    by_cases hk : k = s.length
    · subst hk
      refine .inl ⟨f, [], by rw [List.drop_length]; rfl, ?_⟩
      rw [b64_Decode_L1, ltI, decide_eq_false (by omega), if_neg (by decide), List.append_nil]
    · have hk4 : k + 4 ≤ s.length := by omega
      obtain ⟨w, x, y, z, r, hd⟩ : ∃ w x y z r, s.drop k = w :: x :: y :: z :: r := by
        have hl : (s.drop k).length = s.length - k := List.length_drop
        match hq : s.drop k with
        | [] => rw [hq] at hl; simp at hl; omega
        | [a] => rw [hq] at hl; simp at hl; omega
        | [a, b] => rw [hq] at hl; simp at hl; omega
        | [a, b, c] => rw [hq] at hl; simp at hl; omega
        | w :: x :: y :: z :: r => exact ⟨w, x, y, z, r, rfl⟩
      have hr : s.drop (k + 4) = r := by rw [← List.drop_drop, hd]; rfl
      have e4 : wr ((k : Int) + 4) = ((k + 4 : Nat) : Int) := by rw [wr_in (by omega) (by omega)]; rfl
      have ec : (s.take (k + 4)).drop k = [w, x, y, z] := by
        rw [List.drop_take, show k + 4 - k = 4 by omega, hd]; rfl
      have elast : ((((k + 4 : Nat) : Int)) == (s.length : Int)) = r.isEmpty := by
        have hl : r.length = s.length - (k + 4) := by rw [← hr, List.length_drop]
        rw [eqN' (k + 4) s.length]
        cases r with
        | nil => simp at hl; rw [beq_iff_eq.2 (by omega)]; rfl
        | cons c r => rw [List.length_cons] at hl; rw [beq_eq_false_iff_ne.2 (by omega)]; rfl
      obtain ⟨u, b, hu, hf⟩ := tFour w x y z r.isEmpty
      rw [b64_Decode_L1, ltI, decide_eq_true (by omega), if_pos rfl, e4, cutL_ok (by omega) (by omega) (by omega), bind_some', Int.toNat_natCast, Int.toNat_natCast, ec, elast, hu, bind_some', hd, decP, hf]
      cases b with
      | false =>
        rw [if_neg (by decide)]
        refine .inr ⟨(f, s2b A), by simp [app2], ?_⟩
        rfl
      | true =>
        rw [if_pos rfl] at hf ⊢
        have hul := fourP_len hf
        simp only [Bool.not_true, Bool.false_eq_true, if_false]
        rw [ws5 _ _ _ (by rw [s2b_len]; omega), bind_some', ← s2b_app]
        rcases ih (k + 4) (by omega) (by omega) (by omega) true (A ++ u) (by rw [List.length_append]; omega) with ⟨f', t, g1, g2⟩ | ⟨o, g1, g2⟩
        · rw [hr] at g1
          refine .inl ⟨f', u ++ t, by rw [g1]; rfl, ?_⟩
          simp only
          rw [g2, List.append_assoc]
        · rw [hr] at g1
          refine .inr ⟨o, by rw [g1]; rfl, ?_⟩
          simp only
          rw [g2]
theorem tDec (s : List UInt8) (hs : s.length ≤ 1000000) : b64_Decode s = some (match decP s with | some t => (t, 0) | none => ([], 7)) := by
  have em : ((s.length : Int).tmod 4 != 0) = !(decide (s.length % 4 = 0)) := by
    rw [show (4 : Int) = ((4 : Nat) : Int) from rfl, tm]
    by_cases h : s.length % 4 = 0
    · rw [decide_eq_true h, h]; rfl
    · rw [decide_eq_false h]
      show (!((((s.length % 4 : Nat) : Int)) == 0)) = true
      rw [beq_eq_false_iff_ne.2 (by omega)]; rfl
  rw [b64_Decode, em]
  by_cases h : s.length % 4 = 0
  · rw [decide_eq_true h]
    simp only [Bool.not_true, Bool.false_eq_true, if_false]
    have hd := tD1 s hs s.length 0 (by omega) (by omega) (by omega) false [] (by simp)
    rw [List.drop_zero] at hd
    have e0 : s2b ([] : List UInt8) = [] := rfl
    rw [e0, show ((0 : Nat) : Int) = 0 from rfl] at hd
    rcases hd with ⟨f', t, g1, g2⟩ | ⟨o, g1, g2⟩
    · rw [g2, bind_some', g1]
      simp only
      rw [sstr4]; rfl
    · rw [g2, bind_some', g1]
  · rw [decide_eq_false h]
    simp only [Bool.not_false, if_true]
    cases hd : decP s with
    | none => rfl
    | some t =>
      have e := congrArg List.length (enc_dec s t hd)
      rw [encP_len] at e
      omega
end Go.Proofs.YtagokkpnfceidaaDoor
end

section
namespace Go.Proofs.YtagokkpnfceidaaDoor
open Go.RowKit

def iL (l : List Nat) : List Int := l.map fun x : Nat => (x : Int)
theorem iL_app (a b : List Nat) : iL (a ++ b) = iL a ++ iL b := by simp [iL]
theorem iL_len (a : List Nat) : (iL a).length = a.length := by simp [iL]
theorem bit_eq (n k : Nat) : ((wr ((n : Int).tdiv (k : Int))).tmod 2 : Int) = ((n / k % 2 : Nat) : Int) ∨ 9000000000000 ≤ n := by
  by_cases h : 9000000000000 ≤ n
  · exact .inr h
  · have := Nat.div_le_self n k
    rw [td, wrN _ (by omega), show (2 : Int) = ((2 : Nat) : Int) from rfl, tm]
    exact .inl rfl
theorem bitN (n k : Nat) (h : n < 9000000000000) : (wr ((n : Int).tdiv (k : Int))).tmod 2 = ((n / k % 2 : Nat) : Int) := (bit_eq n k).resolve_right (by omega)
theorem halfN (k : Nat) (h : k < 1000000) : wr ((k : Int).tdiv 2) = ((k / 2 : Nat) : Int) := by
  have := Nat.div_le_self k 2
  rw [show (2 : Int) = ((2 : Nat) : Int) from rfl, td, wrN _ (by omega)]
def bitsK (n : Nat) : Nat → Nat → List Nat
  | 0, _ => []
  | f + 1, k => if k = 0 then [] else (n / k % 2) :: bitsK n f (k / 2)
theorem bitsK8 (n : Nat) : bitsK n 8 128 = bits8 n := by simp [bitsK, bits8]
theorem bitsK6 (n : Nat) : bitsK n 6 32 = bits6 n := by simp [bitsK, bits6]
theorem rBL2 (p0 : List UInt8) (i : Nat) (hi : i < p0.length) : ∀ f k : Nat, k < 2 ^ f → k < 1000 → ∀ acc : List Int, acc.length + f ≤ 100000000 → R04_bits_L2 p0 (i : Int) acc (k : Int) = some (acc ++ iL (bitsK p0[i].toNat f k)) := by
  intro f
  induction f with
  | zero =>
    intro k hk _ acc _
    obtain rfl : k = 0 := by omega
    rw [R04_bits_L2, show decide (((0 : Nat) : Int) > 0) = false from by decide, if_neg (by decide)]
    simp [bitsK, iL]
  | succ f ih =>
    intro k hk hk2 acc ha
    have hc := p0[i].toNat_lt
    rw [R04_bits_L2]
    by_cases h0 : k = 0
    · subst h0
      rw [show decide (((0 : Nat) : Int) > 0) = false from by decide, if_neg (by decide)]
      simp [bitsK, iL]
    · have h2 : k / 2 < 2 ^ f := by rw [Nat.pow_succ] at hk; omega
      rw [decide_eq_true (by omega), if_pos rfl, idx_nat, getE hi, bind_some', need_ok (by omega), bind_some', wrN _ (by omega), bitN _ _ (by omega), appL_ok (by simp; omega) (by simp; omega), bind_some', halfN k (by omega), ih (k / 2) h2 (by omega) _ (by simp; omega), bitsK, if_neg h0]
      simp [iL]
theorem rBL1 (p0 : List UInt8) (hp : p0.length ≤ 1000000) : ∀ k, k ≤ p0.length → ∀ acc : List Int, acc.length ≤ 8 * k → R04_bits_L1 p0 acc (k : Int) = some (acc ++ iL ((p0.drop k).flatMap fun c => bits8 c.toNat)) := by
  refine upto ?_ fun k hk ih => ?_
  · intro acc _
    rw [R04_bits_L1, ltI, decide_eq_false (by omega), if_neg (by decide), List.drop_length]
    simp [iL]
  · intro acc ha
    have h2 := rBL2 p0 k hk 8 128 (by omega) (by omega) acc (by omega)
    rw [bitsK8, show ((128 : Nat) : Int) = 128 from rfl] at h2
    rw [R04_bits_L1, ltI, decide_eq_true hk, if_pos rfl, h2, bind_some', wr_succ (by omega), ih _ (by rw [List.length_append, iL_len]; simp [bits8]; omega), dropE hk, List.flatMap_cons, iL_app]
    simp
theorem rBits (l : List UInt8) (h : l.length ≤ 1000000) : R04_bits l = some (iL (l.flatMap fun c => bits8 c.toNat)) := by
  have := rBL1 l h 0 (by omega) [] (by simp)
  rw [List.nil_append, List.drop_zero, show ((0 : Nat) : Int) = 0 from rfl] at this
  rw [R04_bits, this, bind_some']
def digK (l : List Nat) : Nat → Nat → Nat → Nat
  | 0, _, v => v
  | f + 1, i, v => digK l f (i + 1) (2 * v + l.getD i 0)
theorem rDL (l : List Nat) (hl : ∀ x ∈ l, x ≤ 1) : ∀ d i v : Nat, i + d = 6 → v + 1 ≤ 1000 * 2 ^ i → R04_digit_L1 (iL l) (v : Int) (i : Int) = some (digK l d i v : Int) := by
  intro d
  induction d with
  | zero =>
    intro i v hi _
    obtain rfl : i = 6 := by omega
    rw [R04_digit_L1, show decide (((6 : Nat) : Int) < 6) = false from by decide, if_neg (by decide), digK]
  | succ d ih =>
    intro i v hi hv
    have hp : 2 ^ i ≤ 2 ^ 5 := Nat.pow_le_pow_right (by omega) (by omega)
    have e2 : 2 ^ (i + 1) = 2 ^ i * 2 := Nat.pow_succ 2 i
    have w2 : wr (2 * (v : Int)) = ((2 * v : Nat) : Int) := by rw [wr_in (by omega) (by omega)]; omega
    rw [R04_digit_L1, show decide ((i : Int) < 6) = true from decide_eq_true (by omega), if_pos rfl, digK, iL_len, ltI]
    by_cases hil : i < l.length
    · have hx : l[i] ≤ 1 := hl _ (List.getElem_mem hil)
      have hg : (iL l)[i]? = some (l[i] : Int) := by unfold iL; rw [List.getElem?_map, getE hil]; rfl
      rw [decide_eq_true hil, if_pos rfl, idx_nat, hg, bind_some', w2, wr_succ (by omega), wr_in (by omega) (by omega), show ((2 * v : Nat) : Int) + (l[i] : Int) = ((2 * v + l[i] : Nat) : Int) by omega, ih (i + 1) _ (by omega) (by omega), List.getD_eq_getElem?_getD, getE hil]
      rfl
    · rw [decide_eq_false hil, if_neg (by decide), w2, wr_succ (by omega), ih (i + 1) _ (by omega) (by omega), List.getD_eq_getElem?_getD, List.getElem?_eq_none (by omega)]
      rfl
def digT : List UInt8 := [65, 66, 67, 68, 69, 70, 71, 72, 73, 74, 75, 76, 77, 78, 79, 80, 81, 82, 83, 84, 85, 86, 87, 88, 89, 90, 97, 98, 99, 100, 101, 102, 103, 104, 105, 106, 107, 108, 109, 110, 111, 112, 113, 114, 115, 116, 117, 118, 119, 120, 121, 122, 48, 49, 50, 51, 52, 53, 54, 55, 56, 57, 43, 47]
theorem digTF : ∀ n : Fin 64, (digT.take (n.1 + 1)).drop n.1 = [dgP n.1] := by decide +kernel
theorem rDigits : R04_digits = some digT := rfl
theorem rDigit4 (l : List Nat) (hl : ∀ x ∈ l, x ≤ 1) (n : Nat) (hn : digK l 6 0 0 = n) (h64 : n < 64) : R04_digit (iL l) = some [dgP n] := by
  have h := rDL l hl 6 0 0 rfl (by omega)
  rw [hn, show ((0 : Nat) : Int) = 0 from rfl] at h
  rw [R04_digit, h, bind_some', rDigits, bind_some', wr_succ (by omega), cutL_ok (by omega) (by omega) (by show ((n + 1 : Nat) : Int) ≤ ((64 : Nat) : Int); omega), bind_some', Int.toNat_natCast, Int.toNat_natCast, digTF ⟨n, h64⟩]
theorem rEstep (l : List Nat) (hl : ∀ x ∈ l, x ≤ 1) (h1 : 1 ≤ l.length) (h2 : l.length ≤ 100000000) (n : Nat) (hn : digK l 6 0 0 = n) (h64 : n < 64) (s : List UInt8) (hs : s.length ≤ 100000000) :
    R04_Encode_L1 (iL l) s = R04_Encode_L1 (iL (l.drop 6)) (s ++ [dgP n]) := by
  have e : (if (6 : Int) > ((iL l).length : Int) then ((iL l).length : Int) else (6 : Int)) = ((min l.length 6 : Nat) : Int) := by rw [iL_len]; split <;> omega
  have e' : (if ((iL l).length : Int) < (6 : Int) then ((iL l).length : Int) else (6 : Int)) = ((min l.length 6 : Nat) : Int) := by rw [iL_len]; split <;> omega
  have ed : ((iL l).take (iL l).length).drop (min l.length 6) = iL (l.drop 6) := by
    rw [List.take_length]
    unfold iL
    rw [← List.map_drop]
    congr 1
    by_cases h6 : 6 ≤ l.length
    · rw [Nat.min_eq_right h6]
    · rw [Nat.min_eq_left (by omega), List.drop_length, List.drop_eq_nil_of_le (by omega)]
  conv => lhs; rw [R04_Encode_L1]
  rw [decide_eq_true (show (((iL l).length : Nat) : Int) > 0 by rw [iL_len]; omega), if_pos rfl, rDigit4 l hl n hn h64, bind_some', need_ok (by simp; omega), bind_some', e', cutL_ok (by omega) (by rw [iL_len]; omega) (by omega), bind_some', Int.toNat_natCast, Int.toNat_natCast, ed]
theorem rEnil (s : List UInt8) : R04_Encode_L1 (iL []) s = some s := by
  rw [R04_Encode_L1]; rfl
def noPad : List UInt8 → List UInt8
  | [] => []
  | [a] => [dgP (a.toNat / 4), dgP (a.toNat % 4 * 16)]
  | [a, b] => [dgP (a.toNat / 4), dgP (a.toNat % 4 * 16 + b.toNat / 16), dgP (b.toNat % 16 * 4)]
  | a :: b :: c :: r => dgP (a.toNat / 4) :: dgP (a.toNat % 4 * 16 + b.toNat / 16) :: dgP (b.toNat % 16 * 4 + c.toNat / 64) :: dgP (c.toNat % 64) :: noPad r
theorem bits01 (l : List UInt8) : ∀ x ∈ l.flatMap (fun c => bits8 c.toNat), x ≤ 1 := by
  intro x hx
  obtain ⟨c, -, hx⟩ := List.mem_flatMap.1 hx
  simp only [bits8, List.mem_cons, List.not_mem_nil, or_false] at hx
  rcases hx with rfl | rfl | rfl | rfl | rfl | rfl | rfl | rfl <;> omega
theorem bits_len (l : List UInt8) : (l.flatMap (fun c => bits8 c.toNat)).length = 8 * l.length := by
  induction l with
  | nil => rfl
  | cons c r ih => rw [List.flatMap_cons, List.length_append, ih, List.length_cons]; simp [bits8]; omega
theorem drop01 {l : List Nat} (h : ∀ x ∈ l, x ≤ 1) (k : Nat) : ∀ x ∈ l.drop k, x ≤ 1 := fun x hx => h x (List.mem_of_mem_drop hx)
theorem rE1 : ∀ (l : List UInt8) (s : List UInt8), s.length + 2 * l.length ≤ 10000000 → R04_Encode_L1 (iL (l.flatMap fun c => bits8 c.toNat)) s = some (s ++ noPad l)
  | [], s, _ => by rw [List.flatMap_nil, rEnil, noPad, List.append_nil]
  | [a], s, h => by
    have ha := a.toNat_lt
    have hb := bits01 [a]
    have hlen := bits_len [a]
    generalize hB : ([a].flatMap fun c => bits8 c.toNat) = B at hb hlen ⊢
    have hB' : B = bits8 a.toNat := by rw [← hB]; simp
    simp at h hlen
    rw [rEstep B hb (by omega) (by omega) (a.toNat / 4) (by rw [hB']; simp [digK, bits8]; omega) (by omega) s (by omega)]
    rw [rEstep (B.drop 6) (drop01 hb 6) (by rw [List.length_drop]; omega) (by rw [List.length_drop]; omega) (a.toNat % 4 * 16) (by rw [hB']; simp [digK, bits8]; omega) (by omega) _ (by simp; omega)]
    rw [List.drop_drop, List.drop_eq_nil_of_le (by omega), rEnil, noPad]
    simp
  | [a, b], s, h => by
    have ha := a.toNat_lt
    have hbl := b.toNat_lt
    have hb := bits01 [a, b]
    have hlen := bits_len [a, b]
    generalize hB : ([a, b].flatMap fun c => bits8 c.toNat) = B at hb hlen ⊢
    have hB' : B = bits8 a.toNat ++ bits8 b.toNat := by rw [← hB]; simp
    simp at h hlen
    rw [rEstep B hb (by omega) (by omega) (a.toNat / 4) (by rw [hB']; simp [digK, bits8]; omega) (by omega) s (by omega)]
    rw [rEstep (B.drop 6) (drop01 hb 6) (by rw [List.length_drop]; omega) (by rw [List.length_drop]; omega) (a.toNat % 4 * 16 + b.toNat / 16) (by rw [hB']; simp [digK, bits8]; omega) (by omega) _ (by simp; omega)]
    rw [List.drop_drop]
    rw [rEstep (B.drop 12) (drop01 hb 12) (by rw [List.length_drop]; omega) (by rw [List.length_drop]; omega) (b.toNat % 16 * 4) (by rw [hB']; simp [digK, bits8]; omega) (by omega) _ (by simp; omega)]
    rw [List.drop_drop, List.drop_eq_nil_of_le (by omega), rEnil, noPad]
    simp
  | a :: b :: c :: r, s, h => by
    have ha := a.toNat_lt
    have hbl := b.toNat_lt
    have hcl := c.toNat_lt
    have hb := bits01 (a :: b :: c :: r)
    have hlen := bits_len (a :: b :: c :: r)
    generalize hB : ((a :: b :: c :: r).flatMap fun c => bits8 c.toNat) = B at hb hlen ⊢
    have hB' : B = bits8 a.toNat ++ (bits8 b.toNat ++ (bits8 c.toNat ++ r.flatMap fun c => bits8 c.toNat)) := by rw [← hB]; simp
    simp at h hlen
    rw [rEstep B hb (by omega) (by omega) (a.toNat / 4) (by rw [hB']; simp [digK, bits8]; omega) (by omega) s (by omega)]
    rw [rEstep (B.drop 6) (drop01 hb 6) (by rw [List.length_drop]; omega) (by rw [List.length_drop]; omega) (a.toNat % 4 * 16 + b.toNat / 16) (by rw [hB']; simp [digK, bits8]; omega) (by omega) _ (by simp; omega)]
    rw [List.drop_drop]
    rw [rEstep (B.drop 12) (drop01 hb 12) (by rw [List.length_drop]; omega) (by rw [List.length_drop]; omega) (b.toNat % 16 * 4 + c.toNat / 64) (by rw [hB']; simp [digK, bits8]; omega) (by omega) _ (by simp; omega)]
    rw [List.drop_drop]
    rw [rEstep (B.drop 18) (drop01 hb 18) (by rw [List.length_drop]; omega) (by rw [List.length_drop]; omega) (c.toNat % 64) (by rw [hB']; simp [digK, bits8]; omega) (by omega) _ (by simp; omega)]
    rw [List.drop_drop]
    have hd : B.drop 24 = r.flatMap fun c => bits8 c.toNat := by rw [hB']; simp [bits8]
    rw [hd, rE1 r _ (by simp; omega), noPad]
    simp
theorem noPad_len : ∀ l : List UInt8, (noPad l).length % 4 = (if l.length % 3 = 0 then 0 else l.length % 3 + 1) ∧ (noPad l).length ≤ 2 * l.length
  | [] => by simp [noPad]
  | [_] => by simp [noPad]
  | [_, _] => by simp [noPad]
  | a :: b :: c :: r => by
    have := noPad_len r
    simp only [noPad, List.length_cons]
    have e : (r.length + 1 + 1 + 1) % 3 = r.length % 3 := by omega
    rw [e]
    omega
def padP (n : Nat) : List UInt8 := if n % 3 = 0 then [] else if n % 3 = 1 then [61, 61] else [61]
theorem enc_pad : ∀ l : List UInt8, encP l = noPad l ++ padP l.length
  | [] => rfl
  | [_] => rfl
  | [_, _] => rfl
  | a :: b :: c :: r => by
    have e : padP (a :: b :: c :: r).length = padP r.length := by unfold padP; simp only [List.length_cons, show (r.length + 1 + 1 + 1) % 3 = r.length % 3 by omega]
    rw [encP, noPad, e, enc_pad r]; simp
theorem rE2done (s : List UInt8) (h : s.length % 4 = 0) : R04_Encode_L2 s = some s := by
  have : (((s.length : Int).tmod 4) != 0) = false := by
    rw [show (4 : Int) = ((4 : Nat) : Int) from rfl, tm, h]; rfl
  rw [R04_Encode_L2, this, if_neg (by decide)]
theorem rE2step (s : List UInt8) (h : s.length % 4 ≠ 0) (hs : s.length ≤ 100000000) : R04_Encode_L2 s = R04_Encode_L2 (s ++ [61]) := by
  have : (((s.length : Int).tmod 4) != 0) = true := by
    rw [show (4 : Int) = ((4 : Nat) : Int) from rfl, tm]
    show (!((((s.length % 4 : Nat) : Int)) == 0)) = true
    rw [beq_eq_false_iff_ne.2 (by omega)]; rfl
  conv => lhs; rw [R04_Encode_L2]
  rw [this, if_pos rfl, need_ok (by simp; omega), bind_some']
theorem rEnc (l : List UInt8) (h : l.length ≤ 1000000) : R04_Encode l = some (encP l) := by
  have h1 := rE1 l [] (by simp; omega)
  rw [List.nil_append] at h1
  obtain ⟨m1, m2⟩ := noPad_len l
  rw [R04_Encode, rBits l h, bind_some', h1, bind_some', enc_pad]
  unfold padP
  by_cases h0 : l.length % 3 = 0
  · rw [if_pos h0] at m1 ⊢
    rw [rE2done _ m1, bind_some', List.append_nil]
  · rw [if_neg h0] at m1 ⊢
    by_cases h1 : l.length % 3 = 1
    · rw [if_pos h1, rE2step _ (by omega) (by omega), rE2step _ (by simp; omega) (by simp; omega), rE2done _ (by simp; omega), bind_some']
      simp
    · rw [if_neg h1, rE2step _ (by omega) (by omega), rE2done _ (by simp; omega), bind_some']
def fiF (c : UInt8) : List UInt8 → Nat → Option Nat
  | [], _ => none
  | x :: r, k => if x = c then some k else fiF c r (k + 1)
theorem fiDv : ∀ c : Fin 256, fiF (UInt8.ofNat c.1) digT 0 = dvP (UInt8.ofNat c.1) := by decide +kernel
theorem rVL (c : UInt8) (T : List UInt8) (hT : T.length = 64) : ∀ k, k ≤ T.length → R04_value_L1 (c.toNat : Int) T (k : Int) = some (match fiF c (T.drop k) k with | some j => .inr (j : Int) | none => .inl ()) := by
  refine upto ?_ fun k hk ih => ?_
  · rw [R04_value_L1, hT, show decide (((64 : Nat) : Int) < 64) = false from by decide, if_neg (by decide), ← hT, List.drop_length]; rfl
  · rw [R04_value_L1, decide_eq_true (show (k : Int) < 64 by omega), if_pos rfl, idx_nat, getE hk, bind_some', beqB, wr_succ (by omega), ih, dropE hk, fiF]
    by_cases h : T[k] = c
    · rw [if_pos h, h, if_pos (beq_self_eq_true _)]
    · rw [if_neg h, if_neg (by simpa using h)]
theorem rValue (c : UInt8) : R04_value (c.toNat : Int) = some (match dvP c with | some n => (n : Int) | none => 64) := by
  have h := rVL c digT rfl 0 (by omega)
  have e := fiDv ⟨c.toNat, c.toNat_lt⟩
  simp only [UInt8.ofNat_toNat] at e
  rw [List.drop_zero, e, show ((0 : Nat) : Int) = 0 from rfl] at h
  rw [R04_value, rDigits, bind_some', h, bind_some']
  cases dvP c <;> rfl
theorem rDL2 (p0 : List UInt8) (v5 : Int) (n : Nat) (hn : n < 64) : ∀ f k : Nat, k < 2 ^ f → k < 1000 → ∀ acc : List Int, acc.length + f ≤ 10000000 → R04_Decode_L2 p0 v5 (n : Int) acc (k : Int) = some (acc ++ iL (bitsK n f k)) := by
  intro f
  induction f with
  | zero =>
    intro k hk _ acc _
    obtain rfl : k = 0 := by omega
    rw [R04_Decode_L2, show decide (((0 : Nat) : Int) > 0) = false from by decide, if_neg (by decide), bind_some', if_neg (by decide)]
    simp [bitsK, iL]
  | succ f ih =>
    intro k hk hk2 acc ha
    rw [R04_Decode_L2]
    by_cases h0 : k = 0
    · subst h0
      rw [show decide (((0 : Nat) : Int) > 0) = false from by decide, if_neg (by decide), bind_some', if_neg (by decide)]
      simp [bitsK, iL]
    · have h2 : k / 2 < 2 ^ f := by rw [Nat.pow_succ] at hk; omega
      rw [decide_eq_true (show (k : Int) > 0 by omega), if_pos rfl, decide_eq_true (show (n : Int) < 64 by omega), bind_some', if_pos rfl, need_ok (by omega), bind_some', bitN _ _ (by omega), appL_ok (by simp; omega) (by simp; omega), bind_some', halfN k (by omega), ih (k / 2) h2 (by omega) _ (by simp; omega), bitsK, if_neg h0]
      simp [iL]
theorem rDL1 (p0 : List UInt8) (hp : p0.length ≤ 100000) : ∀ k, k ≤ p0.length → ∀ acc : List Int, acc.length ≤ 6 * k → R04_Decode_L1 p0 acc (k : Int) = some (acc ++ iL ((p0.drop k).flatMap bitsD)) := by
  refine upto ?_ fun k hk ih => ?_
  · intro acc _
    rw [R04_Decode_L1, ltI, decide_eq_false (by omega), if_neg (by decide), List.drop_length]
    simp [iL]
  · intro acc ha
    rw [R04_Decode_L1, ltI, decide_eq_true hk, if_pos rfl, idx_nat, getE hk, bind_some', rValue, bind_some', wr_succ (by omega), dropE hk, List.flatMap_cons, bitsD]
    cases hd : dvP p0[k] with
    | none =>
      simp only [List.nil_append]
      rw [R04_Decode_L2, show decide ((32 : Int) > 0) = true from by decide, if_pos rfl, show decide ((64 : Int) < 64) = false from by decide, bind_some', if_neg (by decide), bind_some', ih _ (by omega)]
    | some n =>
      have h2 := rDL2 p0 (k : Int) n (dv_lt hd) 6 32 (by omega) (by omega) acc (by omega)
      rw [bitsK6, show ((32 : Nat) : Int) = 32 from rfl] at h2
      simp only
      rw [h2, bind_some', ih _ (by rw [List.length_append, iL_len]; simp [bits6]; omega), iL_app, List.append_assoc]
theorem rDL4 (a b c d e f g h : Nat) (r : List Nat) (ha : a ≤ 1) (hb : b ≤ 1) (hc : c ≤ 1) (hd : d ≤ 1) (he : e ≤ 1) (hf : f ≤ 1) (hg : g ≤ 1) (hh : h ≤ 1) (p0 : List UInt8) (v8 : List Int) :
    R04_Decode_L4 p0 (iL (a :: b :: c :: d :: e :: f :: g :: h :: r)) v8 0 0 = some ((of8 a b c d e f g h : Nat) : Int) := by
  have step : ∀ (i v x : Nat), i < 8 → v ≤ 1000 → x ≤ 1 → (a :: b :: c :: d :: e :: f :: g :: h :: r)[i]? = some x → R04_Decode_L4 p0 (iL (a :: b :: c :: d :: e :: f :: g :: h :: r)) v8 (v : Int) (i : Int) = R04_Decode_L4 p0 (iL (a :: b :: c :: d :: e :: f :: g :: h :: r)) v8 ((v * 2 + x : Nat) : Int) ((i + 1 : Nat) : Int) := fun i v x hi hv hx hg => by
    have hg' : (iL (a :: b :: c :: d :: e :: f :: g :: h :: r))[i]? = some (x : Int) := by unfold iL; rw [List.getElem?_map, hg]; rfl
    conv => lhs; rw [R04_Decode_L4]
    rw [decide_eq_true (show (i : Int) < 8 by omega), if_pos rfl, idx_nat, hg', bind_some', wr_succ (by omega), wr_in (n := 2 * (v : Int)) (by omega) (by omega), wr_in (by omega) (by omega), show 2 * (v : Int) + (x : Int) = ((v * 2 + x : Nat) : Int) by omega]
  have s0 := step 0 0 a (by omega) (by omega) ha rfl
  rw [show ((0 : Nat) : Int) = 0 from rfl] at s0
  rw [s0, step 1 _ b (by omega) (by omega) hb rfl, step 2 _ c (by omega) (by omega) hc rfl, step 3 _ d (by omega) (by omega) hd rfl, step 4 _ e (by omega) (by omega) he rfl, step 5 _ f (by omega) (by omega) hf rfl, step 6 _ g (by omega) (by omega) hg rfl, step 7 _ h (by omega) (by omega) hh rfl, R04_Decode_L4, show decide (((7 + 1 : Nat) : Int) < 8) = false from by decide, if_neg (by decide)]
  simp only [of8, Nat.zero_mul, Nat.zero_add]
theorem rDL3 (p0 : List UInt8) : ∀ (B : List Nat), (∀ x ∈ B, x ≤ 1) → B.length ≤ 1000000 → ∀ A : List UInt8, A.length + B.length ≤ 10000000 → R04_Decode_L3 p0 (iL B) (s2b A) = some (s2b (A ++ bytes8 B))
  | a :: b :: c :: d :: e :: f :: g :: h :: r, hB, hl, A, hA => by
    have ha := hB a (by simp)
    have hb := hB b (by simp)
    have hc := hB c (by simp)
    have hd := hB d (by simp)
    have he := hB e (by simp)
    have hf := hB f (by simp)
    have hg := hB g (by simp)
    have hh := hB h (by simp)
    have h8 : of8 a b c d e f g h < 256 := by unfold of8; omega
    have ed : ((iL (a :: b :: c :: d :: e :: f :: g :: h :: r)).take (((iL (a :: b :: c :: d :: e :: f :: g :: h :: r)).length : Nat) : Int).toNat).drop (8 : Int).toNat = iL r := by
      rw [Int.toNat_natCast, List.take_length]; rfl
    simp only [List.length_cons] at hl hA
    rw [R04_Decode_L3, decide_eq_true (show (((iL (a :: b :: c :: d :: e :: f :: g :: h :: r)).length : Nat) : Int) ≥ 8 by rw [iL_len]; simp only [List.length_cons]; omega), if_pos rfl, rDL4 a b c d e f g h r ha hb hc hd he hf hg hh, bind_some', u8N _ h8, appL_ok (by simp [s2b_len]; omega) (by simp [s2b_len]; omega), bind_some', cutL_ok (by omega) (by rw [iL_len]; simp only [List.length_cons]; omega) (by omega), bind_some', ed]
    have e1 : s2b A ++ [((of8 a b c d e f g h : Nat) : Int)] = s2b (A ++ [UInt8.ofNat (of8 a b c d e f g h)]) := by
      rw [← s2b_one, u8n h8]
    rw [e1, rDL3 p0 r (fun x hx => hB x (by simp [hx])) (by omega) _ (by simp; omega), bytes8]
    simp
  | [], _, _, A, _ => by rw [R04_Decode_L3]; simp [iL, bytes8]
  | [a], _, _, A, _ => by rw [R04_Decode_L3]; simp [iL, bytes8]
  | [a, b], _, _, A, _ => by rw [R04_Decode_L3]; simp [iL, bytes8]
  | [a, b, c], _, _, A, _ => by rw [R04_Decode_L3]; simp [iL, bytes8]
  | [a, b, c, d], _, _, A, _ => by rw [R04_Decode_L3]; simp [iL, bytes8]
  | [a, b, c, d, e], _, _, A, _ => by rw [R04_Decode_L3]; simp [iL, bytes8]
  | [a, b, c, d, e, f], _, _, A, _ => by rw [R04_Decode_L3]; simp [iL, bytes8]
  | [a, b, c, d, e, f, g], _, _, A, _ => by rw [R04_Decode_L3]; simp [iL, bytes8]
theorem bitsD01 (l : List UInt8) : ∀ x ∈ l.flatMap bitsD, x ≤ 1 := by
  intro x hx
  obtain ⟨c, -, hx⟩ := List.mem_flatMap.1 hx
  rw [bitsD] at hx
  cases hd : dvP c with
  | none => rw [hd] at hx; simp at hx
  | some n =>
    rw [hd] at hx
    simp only [bits6, List.mem_cons, List.not_mem_nil, or_false] at hx
    rcases hx with rfl | rfl | rfl | rfl | rfl | rfl <;> omega
theorem bitsD_len (l : List UInt8) : (l.flatMap bitsD).length ≤ 6 * l.length := by
  induction l with
  | nil => simp
  | cons c r ih =>
    rw [List.flatMap_cons, List.length_append, List.length_cons]
    have : (bitsD c).length ≤ 6 := by
      rw [bitsD]
      cases dvP c <;> simp [bits6]
    omega
theorem bytes8_len : ∀ B : List Nat, (bytes8 B).length ≤ B.length
  | a :: b :: c :: d :: e :: f :: g :: h :: r => by
    have := bytes8_len r
    rw [bytes8]; simp only [List.length_cons]; omega
  | [] => by simp [bytes8]
  | [a] => by simp [bytes8]
  | [a, b] => by simp [bytes8]
  | [a, b, c] => by simp [bytes8]
  | [a, b, c, d] => by simp [bytes8]
  | [a, b, c, d, e] => by simp [bytes8]
  | [a, b, c, d, e, f] => by simp [bytes8]
  | [a, b, c, d, e, f, g] => by simp [bytes8]
theorem rDec (s : List UInt8) (hs : s.length ≤ 100000) : R04_Decode s = some (match decP s with | some t => (t, 0) | none => ([], 7)) := by
  have h1 := rDL1 s hs 0 (by omega) [] (by simp)
  rw [List.nil_append, List.drop_zero, show ((0 : Nat) : Int) = 0 from rfl] at h1
  have hb := bitsD_len s
  have hy := bytes8_len (s.flatMap bitsD)
  have h3 := rDL3 s (s.flatMap bitsD) (bitsD01 s) (by omega) [] (by rw [List.length_nil]; omega)
  rw [List.nil_append] at h3
  have e0 : s2b ([] : List UInt8) = [] := rfl
  rw [e0] at h3
  rw [R04_Decode, h1, bind_some', bind_some', h3, bind_some', b2s_s2b, bind_some', rEnc _ (by omega), bind_some']
  have hrd := rb_dec s
  unfold rbP at hrd
  by_cases he : encP (bytes8 (s.flatMap bitsD)) = s
  · rw [if_pos he] at hrd
    rw [← hrd, he, beq_self_eq_true]; rfl
  · rw [if_neg he] at hrd
    rw [← hrd, beq_eq_false_iff_ne.2 he]; rfl
end Go.Proofs.YtagokkpnfceidaaDoor
end

section
namespace Go.Proofs.YtagokkpnfceidaaDoor
open Go.RowKit

def wordOK (w : List UInt8) : Prop := 1 ≤ w.length ∧ w.length ≤ 72 ∧ ∀ c ∈ w, 33 ≤ c.toNat ∧ c.toNat ≤ 126
theorem clean_mid : ∀ (p x : List UInt8), cleanP (p ++ x) = true → x ≠ [] → eqq x = false
  | [], x, h, hx => by
    cases x with
    | nil => exact absurd rfl hx
    | cons c r =>
      simp only [List.nil_append, cleanP, Bool.and_eq_true] at h
      have := h.2.1
      revert this
      cases eqq (c :: r) <;> simp
  | c :: p, x, h, hx => by
    simp only [List.cons_append, cleanP, Bool.and_eq_true] at h
    exact clean_mid p x h.2.2 hx
theorem clean_shown : ∀ (l : List UInt8), cleanP l = true → ∀ c ∈ l, 32 ≤ c.toNat ∧ c.toNat ≤ 126
  | [], _, c, h => by simp at h
  | a :: l, h, c, hc => by
    simp only [cleanP, shownB, Bool.and_eq_true, decide_eq_true_eq] at h
    rcases List.mem_cons.1 hc with rfl | hc
    · exact h.1
    · exact clean_shown l h.2.2 c hc
theorem cutS_infix (b : UInt8) : ∀ l : List UInt8, ∀ w ∈ cutS b l, ∃ p q, l = p ++ (w ++ q)
  | [], w, hw => by simp only [cutS, List.mem_singleton] at hw; subst hw; exact ⟨[], [], rfl⟩
  | a :: t, w, hw => by
    have tl : ∀ w ∈ cutS b t, ∃ p q, a :: t = p ++ (w ++ q) := fun w hw => by
      obtain ⟨p, q, e⟩ := cutS_infix b t w hw
      exact ⟨a :: p, q, by rw [List.cons_append, ← e]⟩
    rw [cutS] at hw
    split at hw
    · rcases List.mem_cons.1 hw with rfl | hw
      · exact ⟨[], a :: t, rfl⟩
      · exact tl w hw
    · split at hw
      · rename_i x r hcut
        rcases List.mem_cons.1 hw with rfl | hw
        · have e := cutS_join b t x r hcut
          exact ⟨[], r.flatMap (fun w => b :: w), by rw [List.nil_append, List.cons_append, e]⟩
        · exact tl w (by rw [hcut]; simp [hw])
      · simp only [List.mem_singleton] at hw
        subst hw
        exact ⟨[], t, rfl⟩
theorem toNat_ne {c : UInt8} {k : Nat} (_ : k < 256) (h : c ≠ UInt8.ofNat k) : c.toNat ≠ k := by
  intro e
  apply h
  rw [← e, UInt8.ofNat_toNat]
theorem plain_words {v : List UInt8} (h : plainF 0 v = true) : ∀ w ∈ cutS 32 v, wordOK w ∧ eqq w = false := by
  rw [plain_cut, Bool.and_eq_true, List.all_eq_true] at h
  intro w hw
  have hs := h.1 w hw
  simp only [sizeB, Bool.and_eq_true, decide_eq_true_eq] at hs
  refine ⟨⟨hs.1, by omega, fun c hc => ?_⟩, ?_⟩
  · obtain ⟨h1, h2⟩ := cutS_mem 32 v w hw c hc
    have := clean_shown v h.2 c h1
    have h3 : c.toNat ≠ 32 := toNat_ne (by omega) h2
    omega
  · obtain ⟨p, q, e⟩ := cutS_infix 32 v w hw
    have hne : w ++ q ≠ [] := by
      intro e2
      have := congrArg List.length e2
      simp at this
      have := hs.1
      simp_all
    have h2 := h.2
    rw [e] at h2
    have := clean_mid p (w ++ q) h2 hne
    match w, this with
    | [], _ => rfl
    | [a], h => simp [eqq, List.isPrefixOf]
    | a :: b :: r, h => simpa [eqq, List.isPrefixOf] using h
theorem coded_len (g : List UInt8) : (codedP g).length = 12 + 4 * ((g.length + 2) / 3) := by
  unfold codedP frontB
  simp only [List.length_append, List.length_cons, List.length_nil, encP_len]
  omega
theorem coded_ok {g : List UInt8} (h : g.length ≤ 45) : wordOK (codedP g) := by
  have hl := coded_len g
  refine ⟨by omega, by omega, fun c hc => ?_⟩
  unfold codedP at hc
  rcases List.mem_append.1 hc with hc | hc
  · rcases List.mem_append.1 hc with hc | hc
    · have : ∀ c ∈ frontB, 33 ≤ c.toNat ∧ c.toNat ≤ 126 := by decide
      exact this c hc
    · exact encP_shown g c hc
  · have : ∀ c ∈ ([63, 61] : List UInt8), 33 ≤ c.toNat ∧ c.toNat ≤ 126 := by decide
    exact this c hc
theorem plainP_ne {v : List UInt8} (h0 : v ≠ []) : plainP v = plainF 0 v := by
  unfold plainP
  rw [beq_eq_false_iff_ne.2 h0]; rfl
theorem groups_ok (v : List UInt8) : ∀ g ∈ groupsP [] ((runesP v).map rb4), g.length ≤ 45 :=
  groups_len _ _ (by simp) (fun b hb => by obtain ⟨n, _, rfl⟩ := List.mem_map.1 hb; exact (rb4_len n).1)
theorem words_ok (v : List UInt8) : ∀ w ∈ wordsP v, wordOK w := by
  intro w hw
  unfold wordsP at hw
  split at hw
  · simp at hw
  · rename_i h0
    split at hw
    · rename_i hp
      rw [plainP_ne h0] at hp
      exact (plain_words hp w hw).1
    · obtain ⟨g, hg, rfl⟩ := List.mem_map.1 hw
      exact coded_ok (groups_ok v g hg)

def lputP (o : List UInt8 × Nat) (w : List UInt8) : List UInt8 × Nat :=
  if 76 ≤ o.2 + w.length then (o.1 ++ ([13, 10] ++ 32 :: w), 1 + w.length) else (o.1 ++ 32 :: w, o.2 + (1 + w.length))
def writeP (n v : List UInt8) : Option (List UInt8) :=
  if nameP n = true then some (((wordsP v).foldl lputP (n ++ [58], n.length + 1)).1 ++ [13, 10]) else none
def layF : Nat → List (List UInt8) → List UInt8
  | _, [] => []
  | k, w :: r => if 76 ≤ k + w.length then 13 :: 10 :: 32 :: (w ++ layF (1 + w.length) r) else 32 :: (w ++ layF (k + (1 + w.length)) r)
theorem layFold : ∀ (ws : List (List UInt8)) (o : List UInt8 × Nat), (ws.foldl lputP o).1 = o.1 ++ layF o.2 ws
  | [], o => by simp [layF]
  | w :: r, o => by
    rw [List.foldl_cons, layFold r, lputP, layF]
    split <;> simp
theorem name_mem {n : List UInt8} (h : nameP n = true) : 1 ≤ n.length ∧ n.length ≤ 32 ∧ ∀ c ∈ n, 33 ≤ c.toNat ∧ c.toNat ≤ 126 ∧ c.toNat ≠ 58 := by
  simp only [nameP, Bool.and_eq_true, decide_eq_true_eq, List.all_eq_true] at h
  refine ⟨?_, h.2.1, fun c hc => ?_⟩
  · cases n with
    | nil => simp at h
    | cons a r => simp
  · have := h.2.2 c hc
    simp only [nameB, Bool.or_eq_true, Bool.and_eq_true, decide_eq_true_eq, beq_iff_eq] at this
    rcases this with h1 | h1 | h1 | h1
    · omega
    · omega
    · omega
    · subst h1; decide

theorem shown_ne {c : UInt8} (h : 32 ≤ c.toNat) : c ≠ 13 ∧ c ≠ 10 := by
  constructor
  · rintro rfl; exact absurd h (by decide)
  · rintro rfl; exact absurd h (by decide)
def blankB (c : UInt8) : Bool := c == 32 || c == 9
def breakB : List UInt8 → Bool
  | a :: b :: c :: _ => a == 13 && (b == 10 && blankB c)
  | _ => false
def consO (c : UInt8) : Option (List UInt8) → Option (List UInt8)
  | some l => some (c :: l)
  | none => none
def lineF : Bool → List UInt8 → Option (List UInt8)
  | _, [] => some []
  | true, _ :: r => lineF false r
  | false, c :: r => if breakB (c :: r) = true then lineF true r else if c = 13 ∨ c = 10 then none else consO c (lineF false r)
def colP : List UInt8 → Option (List UInt8 × List UInt8)
  | [] => none
  | c :: r => if c = 58 then some ([], r) else match colP r with
    | some p => some (c :: p.1, p.2)
    | none => none
def tabB (c : UInt8) : UInt8 := if c = 9 then 32 else c
def fullB (w : List UInt8) : Bool := !(w == [])
def piecesP (l : List UInt8) : List (List UInt8) := (cutS 32 (l.map tabB)).filter fullB
def inP (w : List UInt8) : Option (List UInt8) := if 12 ≤ w.length ∧ w.take 10 = frontB ∧ w.drop (w.length - 2) = [63, 61] then some ((w.take (w.length - 2)).drop 10) else none
def decodedP (w : List UInt8) : Option (List UInt8) := match inP w with
  | some i => (match decP i with
    | some t => if utfF t.length t = true then some t else none
    | none => none)
  | none => none
def stepV (o : List UInt8 × (Bool × Bool)) (w : List UInt8) : List UInt8 × (Bool × Bool) :=
  match decodedP w with
  | some t => (o.1 ++ ((if o.2.1 = true ∧ o.2.2 = false then [32] else []) ++ t), (true, true))
  | none => (o.1 ++ ((if o.2.1 = true then [32] else []) ++ w), (true, false))
def valueP (ws : List (List UInt8)) : List UInt8 := (ws.foldl stepV ([], (false, false))).1
def cutCR (s : List UInt8) : Option (List UInt8) := if 2 ≤ s.length ∧ s.drop (s.length - 2) = [13, 10] then some (s.take (s.length - 2)) else none
def readP (s : List UInt8) : Option (List UInt8 × List UInt8) := match cutCR s with
  | none => none
  | some a => match lineF false a with
    | none => none
    | some l => match colP l with
      | none => none
      | some p => if nameP p.1 = true then some (p.1, valueP (piecesP p.2)) else none
theorem cutCR_app (a : List UInt8) : cutCR (a ++ [13, 10]) = some a := by
  unfold cutCR
  have e : (a ++ [13, 10]).length - 2 = a.length := by simp
  rw [e, List.drop_left, List.take_left, if_pos ⟨by simp, rfl⟩]
theorem line_app (b : List UInt8) : ∀ a : List UInt8, (∀ c ∈ a, 32 ≤ c.toNat) → lineF false (a ++ b) = match lineF false b with
    | some l => some (a ++ l)
    | none => none
  | [], _ => by rw [List.nil_append]; cases lineF false b <;> rfl
  | c :: a, h => by
    have hc := h c (by simp)
    have hn := shown_ne hc
    have hb : breakB (c :: (a ++ b)) = false := by
      have : (c == 13) = false := by simpa using hn.1
      unfold breakB
      split
      · rename_i heq; simp only [List.cons.injEq] at heq; rw [← heq.1, this]; rfl
      · rfl
    rw [List.cons_append, lineF, hb, if_neg (by decide), if_neg (fun e => e.elim hn.1 hn.2), line_app b a (fun x hx => h x (by simp [hx]))]
    cases lineF false b <;> rfl
theorem line_lay : ∀ (ws : List (List UInt8)) (k : Nat), (∀ w ∈ ws, wordOK w) → lineF false (layF k ws) = some (ws.flatMap (fun w => 32 :: w))
  | [], _, _ => rfl
  | w :: r, k, h => by
    obtain ⟨w1, w2, w3⟩ := h w (by simp)
    have hr : ∀ w ∈ r, wordOK w := fun x hx => h x (by simp [hx])
    have hw : ∀ c ∈ (32 : UInt8) :: w, 32 ≤ c.toNat := fun c hc => by
      rcases List.mem_cons.1 hc with rfl | hc
      · decide
      · have := w3 c hc; omega
    have key : ∀ k', lineF false (32 :: (w ++ layF k' r)) = some ((w :: r).flatMap (fun w => 32 :: w)) := fun k' => by
      rw [show 32 :: (w ++ layF k' r) = (32 :: w) ++ layF k' r by simp, line_app _ _ hw, line_lay r k' hr]
      simp
    rw [layF]
    split
    · have hb : ∀ z : List UInt8, breakB (13 :: 10 :: 32 :: z) = true := fun _ => by simp [breakB, blankB]
      rw [lineF, if_pos (hb _), lineF]
      exact key _
    · exact key _
theorem col_app (b : List UInt8) : ∀ a : List UInt8, (58 : UInt8) ∉ a → colP (a ++ 58 :: b) = some (a, b)
  | [], _ => by rw [List.nil_append, colP, if_pos rfl]
  | c :: a, h => by
    simp only [List.mem_cons, not_or] at h
    rw [List.cons_append, colP, if_neg (fun e => h.1 e.symm), col_app b a h.2]
theorem col_none : ∀ a : List UInt8, (58 : UInt8) ∉ a → colP a = none
  | [], _ => rfl
  | c :: a, h => by
    simp only [List.mem_cons, not_or] at h
    rw [colP, if_neg (fun e => h.1 e.symm), col_none a h.2]
theorem tab_id : ∀ l : List UInt8, (9 : UInt8) ∉ l → l.map tabB = l
  | [], _ => rfl
  | c :: l, h => by
    simp only [List.mem_cons, not_or] at h
    rw [List.map_cons, tab_id l h.2, tabB, if_neg (fun e => h.1 e.symm)]
theorem cut_words : ∀ ws : List (List UInt8), (∀ w ∈ ws, (32 : UInt8) ∉ w) → cutS 32 (ws.flatMap (fun w => 32 :: w)) = [] :: ws
  | [], _ => rfl
  | w :: r, h => by
    have hw := h w (by simp)
    have ih := cut_words r (fun x hx => h x (by simp [hx]))
    rw [List.flatMap_cons, List.cons_append, cutS, if_pos (beq_self_eq_true _)]
    cases r with
    | nil => rw [List.flatMap_nil, List.append_nil, cutS_free 32 w hw]
    | cons x t =>
      rw [List.flatMap_cons, List.cons_append, cutS, if_pos (beq_self_eq_true _)] at ih
      simp only [List.cons.injEq, true_and] at ih
      rw [List.flatMap_cons, List.cons_append, cutS_at 32 _ w hw, ih]
theorem pieces_words (ws : List (List UInt8)) (h : ∀ w ∈ ws, wordOK w) : piecesP (ws.flatMap (fun w => 32 :: w)) = ws := by
  unfold piecesP
  rw [tab_id, cut_words ws]
  · rw [List.filter_cons_of_neg (by simp [fullB]), List.filter_eq_self]
    intro w hw
    have := (h w hw).1
    cases w with
    | nil => simp at this
    | cons a r => rfl
  · intro w hw hc
    have := (h w hw).2.2 32 hc
    exact absurd this.1 (by decide)
  · intro hm
    obtain ⟨w, hw, hm⟩ := List.mem_flatMap.1 hm
    rcases List.mem_cons.1 hm with e | hm
    · exact absurd e (by decide)
    · have := (h w hw).2.2 9 hm
      exact absurd this.1 (by decide)
theorem decoded_coded {g : List UInt8} (h : okU g) : decodedP (codedP g) = some g := by
  have e1 : (codedP g).take 10 = frontB := by
    unfold codedP
    rw [List.append_assoc, List.take_append_of_le_length (by decide)]
    rfl
  have hl : (codedP g).length - 2 = (frontB ++ encP g).length := by unfold codedP; simp only [List.length_append, List.length_cons, List.length_nil]; omega
  have e2 : (codedP g).drop ((codedP g).length - 2) = [63, 61] := by
    rw [hl]; unfold codedP; rw [List.drop_left]
  have e3 : ((codedP g).take ((codedP g).length - 2)).drop 10 = encP g := by
    rw [hl]; unfold codedP; rw [List.take_left]
    exact List.drop_left (l₁ := frontB)
  have h12 : 12 ≤ (codedP g).length := by rw [coded_len]; omega
  unfold decodedP inP
  rw [if_pos ⟨h12, e1, e2⟩, e3]
  simp only [dec_enc, if_pos h]
theorem decoded_plain {w : List UInt8} (h : eqq w = false) : decodedP w = none := by
  unfold decodedP inP
  rw [if_neg]
  rintro ⟨h1, h2, h3⟩
  match w, h, h2, h1 with
  | [], _, h2, h1 => simp at h1
  | [a], _, h2, h1 => simp at h1
  | a :: b :: r, h, h2, _ =>
    simp only [frontB, List.take_succ_cons, List.cons.injEq] at h2
    rw [h2.1, h2.2.1] at h
    simp [eqq, List.isPrefixOf] at h
theorem value_plain : ∀ (ws : List (List UInt8)) (a : List UInt8) (b : Bool), (∀ w ∈ ws, decodedP w = none) → (ws.foldl stepV (a, (true, b))).1 = a ++ ws.flatMap (fun w => 32 :: w)
  | [], a, b, _ => by simp
  | w :: r, a, b, h => by
    rw [List.foldl_cons, stepV, h w (by simp)]
    simp only [if_true]
    rw [value_plain r _ _ (fun x hx => h x (by simp [hx]))]
    simp
theorem value_coded : ∀ (gs : List (List UInt8)) (a : List UInt8), (∀ g ∈ gs, okU g) → ((gs.map codedP).foldl stepV (a, (true, true))).1 = a ++ gs.flatten
  | [], a, _ => by simp
  | g :: r, a, h => by
    rw [List.map_cons, List.foldl_cons, stepV, decoded_coded (h g (by simp))]
    simp only [Bool.true_eq_false, and_false, if_false, List.nil_append]
    rw [value_coded r _ (fun x hx => h x (by simp [hx]))]
    simp
theorem value_words (v : List UInt8) : valueP (wordsP v) = if plainP v = true then v else wholeP v := by
  unfold wordsP
  by_cases h0 : v = []
  · subst h0; rw [if_pos rfl]; rfl
  rw [if_neg h0]
  by_cases hp : plainP v = true
  · rw [if_pos hp, if_pos hp]
    rw [plainP_ne h0] at hp
    have hw := plain_words hp
    cases hc : cutS 32 v with
    | nil => exact absurd hc (cutS_ne _ _)
    | cons x r =>
      rw [hc] at hw
      unfold valueP
      rw [List.foldl_cons, stepV, decoded_plain (hw x (by simp)).2]
      simp only [Bool.false_eq_true, if_false, List.nil_append]
      rw [value_plain r x false (fun w h => decoded_plain (hw w (by simp [h])).2)]
      exact cutS_join 32 v x r hc
  · rw [if_neg hp, if_neg hp]
    have hj := groups_join ((runesP v).map rb4) []
    have hu := groups_runed (runesP v) [] .nil (runesF_rune _ _)
    cases hg : groupsP [] ((runesP v).map rb4) with
    | nil => rw [hg] at hj; exact hj
    | cons g r =>
      rw [hg] at hj hu
      unfold valueP
      rw [List.map_cons, List.foldl_cons, stepV, decoded_coded (hu g (by simp)).okU]
      simp only [Bool.false_eq_true, false_and, if_false, List.nil_append]
      rw [value_coded r g (fun x hx => (hu x (by simp [hx])).okU)]
      rw [List.flatten_cons, List.nil_append] at hj
      rw [hj]; rfl
theorem back {n v s : List UInt8} (h : writeP n v = some s) : readP s = some (n, if plainP v = true then v else wholeP v) := by
  unfold writeP at h
  split at h
  · rename_i hn
    rw [layFold, Option.some.injEq] at h
    subst h
    obtain ⟨n1, n2, n3⟩ := name_mem hn
    have hc : (58 : UInt8) ∉ n := fun e => (n3 58 e).2.2 rfl
    have hs : ∀ c ∈ n ++ [58], 32 ≤ c.toNat := fun c hc => by
      rcases List.mem_append.1 hc with hc | hc
      · have := n3 c hc; omega
      · simp only [List.mem_singleton] at hc; subst hc; decide
    unfold readP
    rw [cutCR_app]
    simp only
    rw [line_app _ _ hs, line_lay _ _ (words_ok v)]
    simp only
    rw [List.append_assoc, List.singleton_append, col_app _ n hc]
    simp only
    rw [if_pos hn, pieces_words _ (words_ok v), value_words]
  · cases h
end Go.Proofs.YtagokkpnfceidaaDoor
end

section
namespace Go.Proofs.YtagokkpnfceidaaDoor
open Go.RowKit

theorem cutC_eq (b : UInt8) : ∀ l, cutC b l = cutS b l
  | [] => rfl
  | a :: t => by
    rw [cutC, cutS, cutC_eq b t]
    cases (a == b) <;> cases cutS b t <;> rfl
theorem tCut (b : UInt8) (l : List UInt8) (h : l.length ≤ 1000000) : octet_Cut l (b.toNat : Int) = some (cutS b l) := by
  rw [octet_Cut, need_ok (by omega), bind_some', cutC_eq]
  simp
theorem hasPre (l p : List UInt8) : internal_stringslite_HasPrefix l p = some (p.isPrefixOf l) := by
  rw [internal_stringslite_HasPrefix]
  have key : p.isPrefixOf l = decide (p.length ≤ l.length ∧ l.take p.length = p) := by
    rw [Bool.eq_iff_iff, List.isPrefixOf_iff_prefix, decide_eq_true_iff, List.prefix_iff_eq_take]
    constructor
    · intro h
      have := congrArg List.length h
      rw [List.length_take] at this
      exact ⟨by omega, h.symm⟩
    · intro h; exact h.2.symm
  rw [key]
  by_cases h : p.length ≤ l.length
  · rw [decide_eq_true (show (l.length : Int) ≥ (p.length : Int) by omega), if_pos rfl, cutL_ok (by omega) (by omega) (by omega), bind_some', bind_some']
    have e : (l.take ((p.length : Nat) : Int).toNat).drop (0 : Int).toNat = l.take p.length := by rw [Int.toNat_natCast]; rfl
    rw [e]
    by_cases h2 : l.take p.length = p
    · rw [decide_eq_true ⟨h, h2⟩, h2, beq_self_eq_true]
    · rw [decide_eq_false (fun e => h2 e.2), beq_eq_false_iff_ne.2 h2]
  · rw [decide_eq_false (show ¬ (l.length : Int) ≥ (p.length : Int) by omega), if_neg (by decide), bind_some', decide_eq_false (fun e => h e.1)]
theorem tBegins (s : List UInt8) (p : List UInt8) (k : Nat) (hk : k ≤ s.length) : octet_Begins s p (k : Int) = some (p.isPrefixOf (s.drop k)) := by
  rw [octet_Begins, decide_eq_true (show (k : Int) ≥ 0 by omega), if_pos rfl, decide_eq_true (show (k : Int) ≤ (s.length : Int) by omega), if_pos rfl, cutL_ok (by omega) (by omega) (by omega), bind_some', strings_HasPrefix, Int.toNat_natCast, Int.toNat_natCast, List.take_length, hasPre]
  rfl
def nameE (x : Int) : Option Bool :=  if (decide ((bits .or .u8 x 32) < 97)) then
        if (decide (x < 48)) then
          some (x != 45)
        else
          if (decide (x > 57)) then
            some (x != 45)
          else
            some false
      else
        if (decide ((bits .or .u8 x 32) > 122)) then
          if (decide (x < 48)) then
            some (x != 45)
          else
            if (decide (x > 57)) then
              some (x != 45)
            else
              some false
        else
          some false 
def nameR (x : Int) : Option Bool :=  if (decide (x ≥ 65)) then
        if (decide (x ≤ 90)) then
          some false
        else
          if (decide (x ≥ 97)) then
            if (decide (x ≤ 122)) then
              some false
            else
              if (decide (x ≥ 48)) then
                if (decide (x ≤ 57)) then
                  some false
                else
                  some (!(x == 45))
              else
                some (!(x == 45))
          else
            if (decide (x ≥ 48)) then
              if (decide (x ≤ 57)) then
                some false
              else
                some (!(x == 45))
            else
              some (!(x == 45))
      else
        if (decide (x ≥ 97)) then
          if (decide (x ≤ 122)) then
            some false
          else
            if (decide (x ≥ 48)) then
              if (decide (x ≤ 57)) then
                some false
              else
                some (!(x == 45))
            else
              some (!(x == 45))
        else
          if (decide (x ≥ 48)) then
            if (decide (x ≤ 57)) then
              some false
            else
              some (!(x == 45))
          else
            some (!(x == 45)) 
theorem nameEF : ∀ c : Fin 256, nameE ((c.1 : Nat) : Int) = some (!nameB (UInt8.ofNat c.1)) := by decide +kernel
theorem nameRF : ∀ c : Fin 256, nameR ((c.1 : Nat) : Int) = some (!nameB (UInt8.ofNat c.1)) := by decide +kernel
theorem nameE_ok (c : UInt8) : nameE (c.toNat : Int) = some (!nameB c) := by
  have := nameEF ⟨c.toNat, c.toNat_lt⟩
  simp only [UInt8.ofNat_toNat] at this
  exact this
theorem nameR_ok (c : UInt8) : nameR (c.toNat : Int) = some (!nameB c) := by
  have := nameRF ⟨c.toNat, c.toNat_lt⟩
  simp only [UInt8.ofNat_toNat] at this
  exact this
theorem tNameL (s : List UInt8) (hs : s.length ≤ 1000000) : ∀ k, k ≤ s.length → fold_name_L1 s (k : Int) = some (if (s.drop k).all nameB = true then .inl () else .inr ()) := by
  refine upto ?_ fun k hk ih => ?_
  · rw [fold_name_L1, ltI, decide_eq_false (by omega), if_neg (by decide), List.drop_length]; rfl
  · have e := nameE_ok s[k]
    unfold nameE at e
    rw [fold_name_L1, ltI, decide_eq_true hk, if_pos rfl, idx_nat, getE hk, bind_some', e, bind_some', wr_succ (by omega), ih, dropE hk, List.all_cons]
    cases nameB s[k] <;> rfl
theorem tName (s : List UInt8) (hs : s.length ≤ 1000000) : fold_name s = some (nameP s) := by
  have h := tNameL s hs 0 (by omega)
  have e := leN s.length 32
  rw [List.drop_zero, show ((0 : Nat) : Int) = 0 from rfl] at h
  rw [show ((32 : Nat) : Int) = 32 from rfl] at e
  rw [fold_name, h, bind_some', nameP, e]
  cases s.all nameB with
  | false => simp
  | true => cases (s == []) <;> cases decide (s.length ≤ 32) <;> rfl
theorem rNameL (s : List UInt8) (hs : s.length ≤ 1000000) : ∀ k, k ≤ s.length → R09_Name_L1 s (k : Int) = some (if (s.drop k).all nameB = true then .inl () else .inr ()) := by
  refine upto ?_ fun k hk ih => ?_
  · rw [R09_Name_L1, ltI, decide_eq_false (by omega), if_neg (by decide), List.drop_length]; rfl
  · have e := nameR_ok s[k]
    unfold nameR at e
    rw [R09_Name_L1, ltI, decide_eq_true hk, if_pos rfl, idx_nat, getE hk, bind_some', e, bind_some', wr_succ (by omega), ih, dropE hk, List.all_cons]
    cases nameB s[k] <;> rfl
theorem rName (s : List UInt8) (hs : s.length ≤ 1000000) : R09_Name s = some (nameP s) := by
  have h := rNameL s hs 0 (by omega)
  rw [List.drop_zero, show ((0 : Nat) : Int) = 0 from rfl] at h
  rw [R09_Name, h, nameP]
  by_cases h1 : s.length < 1
  · have : s = [] := List.length_eq_zero_iff.1 (by omega)
    subst this; rfl
  · have hne : (s == []) = false := by rw [beq_eq_false_iff_ne]; rintro rfl; simp at h1
    rw [decide_eq_false (show ¬ (s.length : Int) < 1 by omega), if_neg (by decide), bind_some', hne]
    by_cases h2 : s.length ≤ 32
    · rw [decide_eq_false (show ¬ (s.length : Int) > 32 by omega), if_neg (by decide), bind_some', decide_eq_true h2]
      cases s.all nameB <;> rfl
    · rw [decide_eq_true (show (s.length : Int) > 32 by omega), if_pos rfl, decide_eq_false h2]; rfl

theorem eqI (a b : Nat) : ((a : Int) == (b : Int)) = decide (a = b) := by
  rw [eqN']
  by_cases h : a = b
  · subst h; simp
  · rw [beq_eq_false_iff_ne.2 h, decide_eq_false h]
theorem eq32 (c : UInt8) : ((c.toNat : Int) == 32) = decide (c = 32) := eqC c 32 (by omega)
theorem gtI' (a b : Nat) : decide ((a : Int) > (b : Int)) = decide (b < a) := ltI b a
theorem tPlainL (s : List UInt8) (hs : s.length ≤ 1000000) : ∀ k, k ≤ s.length → ∀ j : Nat, j ≤ 60 → ∃ o, fold_Plain_L1 s (j : Int) (k : Int) = some o ∧ (match o with | .inl y => decide (y > 0) | .inr _ => false) = plainF j (s.drop k) := by
  refine upto ?_ fun k hk ih => ?_
  · intro j hj
    refine ⟨.inl (j : Int), by rw [fold_Plain_L1, ltI, decide_eq_false (by omega), if_neg (by decide)], ?_⟩
    rw [List.drop_length, plainF]
    simp only
    exact gtI' j 0
  · intro j hj
    have l32 := ltI s[k].toNat 32
    have g126 := gtI' s[k].toNat 126
    have ej := eqI j 0
    rw [show ((32 : Nat) : Int) = 32 from rfl] at l32
    rw [show ((126 : Nat) : Int) = 126 from rfl] at g126
    rw [show ((0 : Nat) : Int) = 0 from rfl] at ej
    have hb := tBegins s [61, 63] k (by omega)
    have hq : ([61, 63] : List UInt8).isPrefixOf (s.drop k) = eqq (s[k] :: s.drop (k + 1)) := by rw [← dropE hk]; rfl
    rw [hq] at hb
    rw [fold_Plain_L1, ltI, decide_eq_true hk, if_pos rfl, idx_nat, getE hk, bind_some', eq32, ej, l32, g126, hb, dropE hk, plainF]
    have no : ∃ o, (some (.inr ()) : Option (Int ⊕ Unit)) = some o ∧ (match o with | .inl y => decide (y > 0) | .inr _ => false) = false := ⟨_, rfl, rfl⟩
    by_cases h32 : s[k] = 32
    · by_cases h0 : j = 0
      · rw [if_pos (show ((s[k] = 32 ∧ j = 0) ∨ s[k].toNat < 32 ∨ 126 < s[k].toNat ∨ eqq (s[k] :: s.drop (k + 1)) = true) from .inl ⟨h32, h0⟩)]
        simp only [h32, h0, decide_true, if_true, bind_some']
        exact no
      · have g1 : decide (s[k].toNat < 32) = false := decide_eq_false (by rw [h32]; decide)
        have g2 : decide (126 < s[k].toNat) = false := decide_eq_false (by rw [h32]; decide)
        rw [g1, g2, decide_eq_true h32, decide_eq_false h0]
        simp only [if_true, Bool.false_eq_true, if_false, bind_some']
        cases hq : eqq (s[k] :: s.drop (k + 1)) with
        | true =>
          rw [if_pos rfl, if_pos (show ((s[k] = 32 ∧ j = 0) ∨ s[k].toNat < 32 ∨ 126 < s[k].toNat ∨ true = true) from .inr (.inr (.inr rfl)))]; exact no
        | false =>
          have hn : ¬ ((s[k] = 32 ∧ j = 0) ∨ s[k].toNat < 32 ∨ 126 < s[k].toNat ∨ false = true) := by
            rintro (e | e | e | e)
            · exact h0 e.2
            · exact absurd (decide_eq_true e) (by rw [g1]; decide)
            · exact absurd (decide_eq_true e) (by rw [g2]; decide)
            · cases e
          rw [if_neg hn, if_pos h32, wr_succ (by omega)]
          have := ih 0 (by omega)
          rw [show ((0 : Nat) : Int) = 0 from rfl] at this
          simpa using this
    · rw [decide_eq_false h32]
      simp only [Bool.false_eq_true, if_false, bind_some']
      by_cases h1 : s[k].toNat < 32
      · rw [if_pos (show ((s[k] = 32 ∧ j = 0) ∨ s[k].toNat < 32 ∨ 126 < s[k].toNat ∨ eqq (s[k] :: s.drop (k + 1)) = true) from .inr (.inl h1)), decide_eq_true h1]
        exact no
      · rw [decide_eq_false h1]
        simp only [Bool.false_eq_true, if_false]
        by_cases h2 : 126 < s[k].toNat
        · rw [if_pos (show ((s[k] = 32 ∧ j = 0) ∨ s[k].toNat < 32 ∨ 126 < s[k].toNat ∨ eqq (s[k] :: s.drop (k + 1)) = true) from .inr (.inr (.inl h2))), decide_eq_true h2]
          exact no
        · rw [decide_eq_false h2]
          simp only [Bool.false_eq_true, if_false, bind_some']
          cases hq : eqq (s[k] :: s.drop (k + 1)) with
          | true =>
            rw [if_pos (show ((s[k] = 32 ∧ j = 0) ∨ s[k].toNat < 32 ∨ 126 < s[k].toNat ∨ true = true) from .inr (.inr (.inr rfl)))]
            exact no
          | false =>
            have hn : ¬ ((s[k] = 32 ∧ j = 0) ∨ s[k].toNat < 32 ∨ 126 < s[k].toNat ∨ false = true) := by
              rintro (e | e | e | e)
              · exact h32 e.1
              · exact h1 e
              · exact h2 e
              · cases e
            rw [if_neg hn, if_neg h32, wr_succ (by omega), wr_succ (by omega)]
            simp only [Bool.false_eq_true, if_false]
            by_cases h60 : j < 60
            · rw [decide_eq_false (show ¬ ((j + 1 : Nat) : Int) > 60 by omega), if_neg (by decide), if_pos h60]
              exact ih (j + 1) (by omega)
            · rw [decide_eq_true (show ((j + 1 : Nat) : Int) > 60 by omega), if_pos rfl, if_neg h60]
              exact no
theorem tPlain (s : List UInt8) (hs : s.length ≤ 1000000) : fold_Plain s = some (plainP s) := by
  obtain ⟨o, h1, h2⟩ := tPlainL s hs 0 (by omega) 0 (by omega)
  rw [List.drop_zero] at h2
  rw [show ((0 : Nat) : Int) = 0 from rfl] at h1
  rw [fold_Plain, h1, plainP, ← h2]
  cases (s == []) with
  | true => rfl
  | false =>
    rw [if_neg (by decide), bind_some']
    cases o <;> rfl
end Go.Proofs.YtagokkpnfceidaaDoor
end
