/- Runes in plain terms: the reference's Next; texts without bad bytes; quotes. -/
import Derived.Test.YtlhjieapkcnghaaP02
import Derived.Test.YtlhjieapkcnghaaP19b
namespace Go.Proofs.Ytlhjieapkcnghaa
open Go.RowKit

def bytesN (n : Nat) : List Nat :=
  if n < 128 then [n] else if n < 2048 then [192 + n / 64, 128 + n % 64] else if n < 65536 then [224 + n / 4096, 128 + n / 64 % 64, 128 + n % 64] else [240 + n / 262144, 128 + n / 4096 % 64, 128 + n / 64 % 64, 128 + n % 64]
theorem bytes_eq (l : List Nat) (h : ∀ x ∈ l, x < 256) (m : List UInt8) : (l.map UInt8.ofNat == m) = decide (l = m.map UInt8.toNat) := by
  have key : l.map UInt8.ofNat = m ↔ l = m.map UInt8.toNat := by
    constructor
    · intro e
      subst e
      rw [List.map_map]
      conv => lhs; rw [← List.map_id l]
      refine List.map_congr_left fun x hx => ?_
      have := h x hx
      show x = (UInt8.ofNat x).toNat
      rw [UInt8.toNat_ofNat', Nat.mod_eq_of_lt this]
    · intro e
      subst e
      rw [List.map_map]
      conv => rhs; rw [← List.map_id m]
      exact List.map_congr_left fun x _ => by simp
  by_cases he : l.map UInt8.ofNat = m
  · rw [decide_eq_true (key.1 he), beq_iff_eq]; exact he
  · rw [decide_eq_false (fun k => he (key.2 k)), beq_eq_false_iff_ne]; exact he
theorem b2s_ok (l : List Nat) (h : ∀ x ∈ l, x < 256) : b2s (l.map fun x : Nat => (x : Int)) = some (l.map UInt8.ofNat) := by
  unfold b2s
  rw [if_pos]
  · rw [List.map_map]; rfl
  · rw [List.all_eq_true]
    intro n hn
    obtain ⟨x, hx, rfl⟩ := List.mem_map.1 hn
    have := h x hx
    simp only [decide_eq_true_eq]
    omega
theorem td (n k : Nat) : ((n : Int).tdiv (k : Int)) = ((n / k : Nat) : Int) := by rw [Int.tdiv_eq_ediv_of_nonneg (by omega)]; rfl
theorem tm (n k : Nat) : ((n : Int).tmod (k : Int)) = ((n % k : Nat) : Int) := by rw [Int.tmod_eq_emod_of_nonneg (by omega)]; rfl
theorem wrN (n : Nat) (h : n < 9000000000000) : wr (n : Int) = (n : Int) := wr_in (by omega) (by omega)
theorem u8N (n : Nat) (h : n < 256) : IntKind.u8.wrap (n : Int) = (n : Int) := u8_in (by omega) (by omega)
set_option maxRecDepth 20000 in
theorem rBytes (n : Nat) (h : runeB n = true) : R02_Bytes (n : Int) = some ((bytesN n).map UInt8.ofNat) := by
  have hn : n ≤ 1114111 := by unfold runeB at h; rw [Bool.and_eq_true] at h; exact of_decide_eq_true h.1
  have a1 : decide ((n : Int) < 128) = decide (n < 128) := ltI n 128
  have a2 : decide ((n : Int) < 2048) = decide (n < 2048) := ltI n 2048
  have a3 : decide ((n : Int) < 65536) = decide (n < 65536) := ltI n 65536
  have d64 : (n : Int).tdiv 64 = ((n / 64 : Nat) : Int) := td n 64
  have m64 : (n : Int).tmod 64 = ((n % 64 : Nat) : Int) := tm n 64
  have d4096 : (n : Int).tdiv 4096 = ((n / 4096 : Nat) : Int) := td n 4096
  have d262 : (n : Int).tdiv 262144 = ((n / 262144 : Nat) : Int) := td n 262144
  have w1 : ∀ a b : Nat, a + b < 256 → IntKind.u8.wrap (wr ((a : Int) + (b : Int))) = ((a + b : Nat) : Int) := fun a b h => by
    rw [wr_in (by omega) (by omega), u8_in (by omega) (by omega)]; rfl
  rw [R02_Bytes, rIsR, h]
  simp only [bind_some', Bool.not_true, Bool.false_eq_true, if_false, a1, a2, a3, d64, m64, d4096, d262]
  rw [wrN (n / 64) (by omega), wrN (n / 4096) (by omega), wrN (n / 262144) (by omega)]
  have t64 : (((n / 64 : Nat) : Int)).tmod 64 = ((n / 64 % 64 : Nat) : Int) := tm (n / 64) 64
  have t4096 : (((n / 4096 : Nat) : Int)).tmod 64 = ((n / 4096 % 64 : Nat) : Int) := tm (n / 4096) 64
  rw [t64, t4096]
  unfold bytesN
  by_cases h1 : n < 128
  · rw [decide_eq_true h1, if_pos h1, u8N n (by omega)]
    simp only [if_true]
    have := b2s_ok [n] (by simp; omega)
    simp only [List.map_cons, List.map_nil] at this
    rw [this]; rfl
  rw [decide_eq_false h1, if_neg h1]
  by_cases h2 : n < 2048
  · rw [decide_eq_true h2, if_pos h2]
    have e1 := w1 192 (n / 64) (by omega)
    have e2 := w1 128 (n % 64) (by omega)
    have := b2s_ok [192 + n / 64, 128 + n % 64] (by simp; omega)
    simp only [List.map_cons, List.map_nil] at this
    simp only [Bool.false_eq_true, if_false, if_true]
    rw [show (192 : Int) = ((192 : Nat) : Int) from rfl, show (128 : Int) = ((128 : Nat) : Int) from rfl, e1, e2, this]; rfl
  rw [decide_eq_false h2, if_neg h2]
  by_cases h3 : n < 65536
  · rw [decide_eq_true h3, if_pos h3]
    have e1 := w1 224 (n / 4096) (by omega)
    have e2 := w1 128 (n / 64 % 64) (by omega)
    have e3 := w1 128 (n % 64) (by omega)
    have := b2s_ok [224 + n / 4096, 128 + n / 64 % 64, 128 + n % 64] (by simp; omega)
    simp only [List.map_cons, List.map_nil] at this
    simp only [Bool.false_eq_true, if_false, if_true]
    rw [show (224 : Int) = ((224 : Nat) : Int) from rfl, show (128 : Int) = ((128 : Nat) : Int) from rfl, e1, e2, e3, this]; rfl
  rw [decide_eq_false h3, if_neg h3]
  have e0 := w1 240 (n / 262144) (by omega)
  have e1 := w1 128 (n / 4096 % 64) (by omega)
  have e2 := w1 128 (n / 64 % 64) (by omega)
  have e3 := w1 128 (n % 64) (by omega)
  have := b2s_ok [240 + n / 262144, 128 + n / 4096 % 64, 128 + n / 64 % 64, 128 + n % 64] (by simp; omega)
  simp only [List.map_cons, List.map_nil] at this
  simp only [Bool.false_eq_true, if_false]
  rw [show (240 : Int) = ((240 : Nat) : Int) from rfl, show (128 : Int) = ((128 : Nat) : Int) from rfl, e0, e1, e2, e3, this]; rfl
theorem bytesN_lt (n : Nat) (h : n ≤ 1114111) : ∀ x ∈ bytesN n, x < 256 := by
  unfold bytesN
  split
  · simp; omega
  · split
    · simp; omega
    · split <;> simp <;> omega
/-- Is the number one whose bytes are these? -/
def isNum (n : Int) (m : List Nat) : Prop := 0 ≤ n ∧ runeB n.toNat = true ∧ bytesN n.toNat = m
theorem rTest (s : List UInt8) (k m : Nat) (hm : k + m ≤ s.length) (hs : s.length < 9000000000000) (n : Int) :
    ( if (decide (n ≥ 0)) = true then
        R02_Rune n >>= fun x11 =>
        if x11 = true then
          R02_Bytes n >>= fun x12 =>
          cutL s k (wr ((k : Int) + m)) >>= fun x13 =>
          some (x12 == x13)
        else
          some false
      else
        some false : Option Bool) = some (decide (0 ≤ n) && (runeB n.toNat && decide (bytesN n.toNat = ((s.take (k + m)).drop k).map UInt8.toNat))) := by
  have e : wr ((k : Int) + m) = ((k + m : Nat) : Int) := by rw [wr_in (by omega) (by omega)]; rfl
  by_cases h : 0 ≤ n
  · obtain ⟨v, rfl⟩ : ∃ v : Nat, n = v := ⟨n.toNat, by omega⟩
    rw [decide_eq_true (show (v : Int) ≥ 0 by omega), rIsR, e, cutL_ok (by omega) (by omega) (by omega)]
    simp only [if_true, bind_some', Int.toNat_natCast, Bool.true_and]
    cases hr : runeB v with
    | false => rfl
    | true =>
      have hv : v ≤ 1114111 := by unfold runeB at hr; rw [Bool.and_eq_true] at hr; exact of_decide_eq_true hr.1
      rw [rBytes v hr]
      simp only [if_true, bind_some', bytes_eq _ (bytesN_lt v hv), Bool.true_and]
  · rw [decide_eq_false (show ¬ n ≥ 0 from h)]; rfl

theorem wr64 (a b : Int) (ha : -3000000 ≤ a) (ha2 : a ≤ 3000000) (hb : 0 ≤ b) (hb2 : b ≤ 255) : wr ((wr ((wr (64 * a)) + (wr b))) - 128) = 64 * a + b - 128 := by
  rw [wr_in (n := 64 * a) (by omega) (by omega), wr_in (n := b) (by omega) (by omega), wr_in (n := 64 * a + b) (by omega) (by omega), wr_in (by omega) (by omega)]
/-- What the next byte adds. -/
def addN (a : Int) (c : UInt8) : Int := 64 * a + c.toNat - 128
theorem rL2 (s : List UInt8) (k : Nat) (v6 : List Int) (m : Nat) (hm : k + m ≤ s.length) (hm4 : m ≤ 4) (hs : s.length < 9000000000000) : ∀ d (i : Nat) (v : Int), i + d = m → 1 ≤ i → (i = 1 → -300 ≤ v ∧ v ≤ 300) → (i = 2 → -30000 ≤ v ∧ v ≤ 30000) → (i = 3 → -3000000 ≤ v ∧ v ≤ 3000000) →
    R02_Next_L2 s k v6 m v i = some (((s.drop (k + i)).take d).foldl addN v) := by
  intro d
  induction d with
  | zero =>
    intro i v hi _ _ _ _
    rw [R02_Next_L2, ltI, decide_eq_false (by omega : ¬ i < m)]
    simp
  | succ d ih =>
    intro i v hi hi1 h1 h2 h3
    have hk : k + i < s.length := by omega
    have e1 : wr ((k : Int) + i) = ((k + i : Nat) : Int) := by rw [wr_in (by omega) (by omega)]; rfl
    have hc := s[k + i].toNat_lt
    have hb : -3000000 ≤ v ∧ v ≤ 3000000 := by omega
    rw [R02_Next_L2, ltI, decide_eq_true (by omega : i < m), e1, wr_succ (by omega)]
    simp only [if_true, idx_nat, getE hk, bind_some']
    rw [wr64 v _ hb.1 hb.2 (by omega) (by omega), dropE hk, List.take_succ_cons, List.foldl_cons]
    exact ih (i + 1) (addN v s[k + i]) (by omega) (by omega) (by omega) (by unfold addN; omega) (by unfold addN; omega)
def leadL : List Int := [0, 0, 192, 224, 240]
/-- The number that so many bytes would be. -/
def numN (c : UInt8) (r : List UInt8) (m : Nat) : Int := (r.take (m - 1)).foldl addN ((c.toNat : Int) - (leadL[m]?.getD 0))
def tstB (c : UInt8) (r : List UInt8) (m : Nat) : Bool := decide (0 ≤ numN c r m) && (runeB (numN c r m).toNat && decide (bytesN (numN c r m).toNat = ((c :: r).take m).map UInt8.toNat))
theorem rL1 (s : List UInt8) (k : Nat) (hk : k < s.length) (hs : s.length < 9000000000000) (m : Nat) (h1 : 1 ≤ m) (h4 : m ≤ 4) :
    R02_Next_L1 s k leadL m = if k + m ≤ s.length then (if tstB s[k] (s.drop (k + 1)) m = true then some (.inr (numN s[k] (s.drop (k + 1)) m, (m : Int))) else R02_Next_L1 s k leadL ((m + 1 : Nat) : Int)) else some (.inl ()) := by
  have e0 : wr ((s.length : Int) - k) = ((s.length - k : Nat) : Int) := by rw [wr_in (by omega) (by omega)]; omega
  have a4 : decide ((m : Int) ≤ 4) = true := decide_eq_true (by omega)
  have hc := s[k].toNat_lt
  rw [R02_Next_L1, e0, a4]
  by_cases hm : k + m ≤ s.length
  · have a5 : decide ((m : Int) ≤ ((s.length - k : Nat) : Int)) = true := decide_eq_true (by omega)
    obtain ⟨ld, hld, hl0, hl1⟩ : ∃ ld : Int, leadL[m]? = some ld ∧ 0 ≤ ld ∧ ld ≤ 240 := by
      match m, h1, h4 with
      | 1, _, _ => exact ⟨0, rfl, by omega, by omega⟩
      | 2, _, _ => exact ⟨192, rfl, by omega, by omega⟩
      | 3, _, _ => exact ⟨224, rfl, by omega, by omega⟩
      | 4, _, _ => exact ⟨240, rfl, by omega, by omega⟩
    have ew : wr ((wr (s[k].toNat : Int)) - ld) = (s[k].toNat : Int) - ld := by rw [wr_in (n := (s[k].toNat : Int)) (by omega) (by omega), wr_in (by omega) (by omega)]
    have h2 := rL2 s k leadL m hm h4 hs (m - 1) 1 ((s[k].toNat : Int) - ld) (by omega) (by omega) (by omega) (by omega) (by omega)
    have en : numN s[k] (s.drop (k + 1)) m = ((s.drop (k + 1)).take (m - 1)).foldl addN ((s[k].toNat : Int) - ld) := by rw [numN, hld]; rfl
    rw [← en, show ((1 : Nat) : Int) = 1 from rfl] at h2
    have ht := rTest s k m hm hs (numN s[k] (s.drop (k + 1)) m)
    have et : ((s.take (k + m)).drop k) = ((s[k] :: s.drop (k + 1)).take m) := by rw [← dropE hk, List.drop_take]; congr 1; omega
    rw [et] at ht
    rw [a5, if_pos hm, wr_succ (by omega)]
    simp only [if_true, bind_some', idx_nat, getE hk, hld, ew, h2]
    rw [ht]
    rfl
  · have a5 : decide ((m : Int) ≤ ((s.length - k : Nat) : Int)) = false := decide_eq_false (by omega)
    rw [a5, if_neg hm]
    rfl
theorem tst1 (c : UInt8) (r : List UInt8) : tstB c r 1 = decide (c.toNat < 128) ∧ numN c r 1 = (c.toNat : Int) := by
  have hc := c.toNat_lt
  have en : numN c r 1 = (c.toNat : Int) := by simp [numN, leadL]
  refine ⟨?_, en⟩
  have hr : runeB c.toNat = true := by unfold runeB; rw [decide_eq_true (by omega), decide_eq_false (by omega)]; rfl
  rw [tstB, en, decide_eq_true (by omega), Int.toNat_natCast, hr]
  simp only [Bool.true_and, List.take_succ_cons, List.take_zero, List.map_cons, List.map_nil]
  unfold bytesN
  by_cases h : c.toNat < 128
  · rw [decide_eq_true h, if_pos h]; simp
  · rw [decide_eq_false h, if_neg h, if_pos (by omega)]
    simp
theorem tst2 (c c1 : UInt8) (r : List UInt8) : tstB c (c1 :: r) 2 = decide ((192 ≤ c.toNat ∧ c.toNat < 224) ∧ contB c1 = true ∧ 128 ≤ (c.toNat - 192) * 64 + (c1.toNat - 128)) ∧ numN c (c1 :: r) 2 = 64 * ((c.toNat : Int) - 192) + c1.toNat - 128 := by
  have hc := c.toNat_lt
  have hc1 := c1.toNat_lt
  have en : numN c (c1 :: r) 2 = 64 * ((c.toNat : Int) - 192) + c1.toNat - 128 := by simp [numN, leadL, addN]
  refine ⟨?_, en⟩
  rw [tstB, en]
  simp only [List.take_succ_cons, List.take_zero, List.map_cons, List.map_nil]
  have hcont : contB c1 = true ↔ (128 ≤ c1.toNat ∧ c1.toNat < 192) := by unfold contB; simp
  by_cases hn : 0 ≤ 64 * ((c.toNat : Int) - 192) + c1.toNat - 128
  · obtain ⟨n, hn2⟩ : ∃ n : Nat, 64 * ((c.toNat : Int) - 192) + c1.toNat - 128 = n := ⟨(64 * ((c.toNat : Int) - 192) + c1.toNat - 128).toNat, by omega⟩
    rw [hn2, Int.toNat_natCast, decide_eq_true (by omega), Bool.true_and]
    have hlt : n < 5000 := by omega
    have hr : runeB n = true := by unfold runeB; rw [decide_eq_true (by omega), decide_eq_false (by omega)]; rfl
    rw [hr, Bool.true_and]
    congr 1
    apply propext
    rw [hcont]
    unfold bytesN
    by_cases h1 : n < 128
    · rw [if_pos h1]
      constructor
      · intro h; simp at h
      · intro h; omega
    · rw [if_neg h1]
      by_cases h2 : n < 2048
      · rw [if_pos h2]
        simp only [List.cons.injEq, and_true]
        omega
      · rw [if_neg h2, if_pos (by omega)]
        constructor
        · intro h; simp at h
        · intro h; omega
  · rw [decide_eq_false hn, Bool.false_and, decide_eq_false]
    rw [hcont]; omega
theorem tst3 (c c1 c2 : UInt8) (r : List UInt8) : tstB c (c1 :: c2 :: r) 3 = decide ((224 ≤ c.toNat ∧ c.toNat < 240) ∧ contB c1 = true ∧ contB c2 = true ∧ 2048 ≤ ((c.toNat - 224) * 64 + (c1.toNat - 128)) * 64 + (c2.toNat - 128) ∧ runeB (((c.toNat - 224) * 64 + (c1.toNat - 128)) * 64 + (c2.toNat - 128)) = true) ∧
    numN c (c1 :: c2 :: r) 3 = 64 * (64 * ((c.toNat : Int) - 224) + c1.toNat - 128) + c2.toNat - 128 := by
  have hc := c.toNat_lt
  have hc1 := c1.toNat_lt
  have hc2 := c2.toNat_lt
  have en : numN c (c1 :: c2 :: r) 3 = 64 * (64 * ((c.toNat : Int) - 224) + c1.toNat - 128) + c2.toNat - 128 := by simp [numN, leadL, addN]
  refine ⟨?_, en⟩
  rw [tstB, en]
  simp only [List.take_succ_cons, List.take_zero, List.map_cons, List.map_nil]
  have hcont : contB c1 = true ↔ (128 ≤ c1.toNat ∧ c1.toNat < 192) := by unfold contB; simp
  have hcont2 : contB c2 = true ↔ (128 ≤ c2.toNat ∧ c2.toNat < 192) := by unfold contB; simp
  by_cases hn : 0 ≤ 64 * (64 * ((c.toNat : Int) - 224) + c1.toNat - 128) + c2.toNat - 128
  · obtain ⟨n, hn2⟩ : ∃ n : Nat, 64 * (64 * ((c.toNat : Int) - 224) + c1.toNat - 128) + c2.toNat - 128 = n := ⟨(64 * (64 * ((c.toNat : Int) - 224) + c1.toNat - 128) + c2.toNat - 128).toNat, by omega⟩
    rw [hn2, Int.toNat_natCast, decide_eq_true (by omega), Bool.true_and]
    have hlt : n < 200000 := by omega
    have key : bytesN n = [c.toNat, c1.toNat, c2.toNat] ↔ ((224 ≤ c.toNat ∧ c.toNat < 240) ∧ (128 ≤ c1.toNat ∧ c1.toNat < 192) ∧ (128 ≤ c2.toNat ∧ c2.toNat < 192) ∧ 2048 ≤ n) := by
      unfold bytesN
      by_cases h1 : n < 128
      · rw [if_pos h1]
        exact ⟨fun h => by simp at h, fun h => by omega⟩
      rw [if_neg h1]
      by_cases h2 : n < 2048
      · rw [if_pos h2]
        exact ⟨fun h => by simp at h, fun h => by omega⟩
      rw [if_neg h2]
      by_cases h3 : n < 65536
      · rw [if_pos h3]
        simp only [List.cons.injEq, and_true]
        omega
      · rw [if_neg h3]
        exact ⟨fun h => by simp at h, fun h => by omega⟩
    rw [Bool.eq_iff_iff]
    simp only [Bool.and_eq_true, decide_eq_true_eq]
    rw [key, hcont, hcont2]
    constructor
    · rintro ⟨hr, a, b, c', d⟩
      have e : ((c.toNat - 224) * 64 + (c1.toNat - 128)) * 64 + (c2.toNat - 128) = n := by omega
      exact ⟨a, b, c', by omega, by rw [e]; exact hr⟩
    · rintro ⟨a, b, c', d, hr⟩
      have e : ((c.toNat - 224) * 64 + (c1.toNat - 128)) * 64 + (c2.toNat - 128) = n := by omega
      rw [e] at hr d
      exact ⟨hr, a, b, c', d⟩
  · rw [decide_eq_false hn, Bool.false_and, decide_eq_false]
    rw [hcont, hcont2]; omega
theorem tst4 (c c1 c2 c3 : UInt8) (r : List UInt8) : tstB c (c1 :: c2 :: c3 :: r) 4 = decide ((240 ≤ c.toNat ∧ c.toNat < 248) ∧ contB c1 = true ∧ contB c2 = true ∧ contB c3 = true ∧ 65536 ≤ (((c.toNat - 240) * 64 + (c1.toNat - 128)) * 64 + (c2.toNat - 128)) * 64 + (c3.toNat - 128) ∧ runeB ((((c.toNat - 240) * 64 + (c1.toNat - 128)) * 64 + (c2.toNat - 128)) * 64 + (c3.toNat - 128)) = true) ∧
    numN c (c1 :: c2 :: c3 :: r) 4 = 64 * (64 * (64 * ((c.toNat : Int) - 240) + c1.toNat - 128) + c2.toNat - 128) + c3.toNat - 128 := by
  have hc := c.toNat_lt
  have hc1 := c1.toNat_lt
  have hc2 := c2.toNat_lt
  have hc3 := c3.toNat_lt
  have en : numN c (c1 :: c2 :: c3 :: r) 4 = 64 * (64 * (64 * ((c.toNat : Int) - 240) + c1.toNat - 128) + c2.toNat - 128) + c3.toNat - 128 := by simp [numN, leadL, addN]
  refine ⟨?_, en⟩
  rw [tstB, en]
  simp only [List.take_succ_cons, List.take_zero, List.map_cons, List.map_nil]
  have hcont : contB c1 = true ↔ (128 ≤ c1.toNat ∧ c1.toNat < 192) := by unfold contB; simp
  have hcont2 : contB c2 = true ↔ (128 ≤ c2.toNat ∧ c2.toNat < 192) := by unfold contB; simp
  have hcont3 : contB c3 = true ↔ (128 ≤ c3.toNat ∧ c3.toNat < 192) := by unfold contB; simp
  by_cases hn : 0 ≤ 64 * (64 * (64 * ((c.toNat : Int) - 240) + c1.toNat - 128) + c2.toNat - 128) + c3.toNat - 128
  · obtain ⟨n, hn2⟩ : ∃ n : Nat, 64 * (64 * (64 * ((c.toNat : Int) - 240) + c1.toNat - 128) + c2.toNat - 128) + c3.toNat - 128 = n := ⟨(64 * (64 * (64 * ((c.toNat : Int) - 240) + c1.toNat - 128) + c2.toNat - 128) + c3.toNat - 128).toNat, by omega⟩
    rw [hn2, Int.toNat_natCast, decide_eq_true (by omega), Bool.true_and]
    have key : runeB n = true → (bytesN n = [c.toNat, c1.toNat, c2.toNat, c3.toNat] ↔ ((240 ≤ c.toNat ∧ c.toNat < 248) ∧ (128 ≤ c1.toNat ∧ c1.toNat < 192) ∧ (128 ≤ c2.toNat ∧ c2.toNat < 192) ∧ (128 ≤ c3.toNat ∧ c3.toNat < 192) ∧ 65536 ≤ n)) := fun hr => by
      have hlt : n ≤ 1114111 := by unfold runeB at hr; rw [Bool.and_eq_true] at hr; exact of_decide_eq_true hr.1
      unfold bytesN
      by_cases h1 : n < 128
      · rw [if_pos h1]
        exact ⟨fun h => by simp at h, fun h => by omega⟩
      rw [if_neg h1]
      by_cases h2 : n < 2048
      · rw [if_pos h2]
        exact ⟨fun h => by simp at h, fun h => by omega⟩
      rw [if_neg h2]
      by_cases h3 : n < 65536
      · rw [if_pos h3]
        exact ⟨fun h => by simp at h, fun h => by omega⟩
      · rw [if_neg h3]
        simp only [List.cons.injEq, and_true]
        omega
    rw [Bool.eq_iff_iff]
    simp only [Bool.and_eq_true, decide_eq_true_eq]
    rw [hcont, hcont2, hcont3]
    constructor
    · rintro ⟨hr, hb⟩
      obtain ⟨a, b, c', d', d⟩ := (key hr).1 hb
      have e : (((c.toNat - 240) * 64 + (c1.toNat - 128)) * 64 + (c2.toNat - 128)) * 64 + (c3.toNat - 128) = n := by omega
      exact ⟨a, b, c', d', by omega, by rw [e]; exact hr⟩
    · rintro ⟨a, b, c', d', d, hr⟩
      have e : (((c.toNat - 240) * 64 + (c1.toNat - 128)) * 64 + (c2.toNat - 128)) * 64 + (c3.toNat - 128) = n := by omega
      rw [e] at hr d
      exact ⟨hr, (key hr).2 ⟨a, b, c', d', d⟩⟩
  · rw [decide_eq_false hn, Bool.false_and, decide_eq_false]
    rw [hcont, hcont2, hcont3]; omega
theorem rNext (s : List UInt8) (k : Nat) (hk : k < s.length) (hs : s.length < 9000000000000) : R02_Next s k = some (((nextP (s.drop k)).1 : Int), ((nextP (s.drop k)).2 : Int)) := by
  have d1 : decide ((k : Int) < 0) = false := decide_eq_false (by omega)
  have d2 : decide ((k : Int) ≥ (s.length : Int)) = false := decide_eq_false (by omega)
  have hc := s[k].toNat_lt
  have l1 := rL1 s k hk hs 1 (by omega) (by omega)
  have l2 := rL1 s k hk hs 2 (by omega) (by omega)
  have l3 := rL1 s k hk hs 3 (by omega) (by omega)
  have l4 := rL1 s k hk hs 4 (by omega) (by omega)
  have l5 : R02_Next_L1 s k leadL ((4 + 1 : Nat) : Int) = some (.inl ()) := by
    rw [R02_Next_L1, show decide (((4 + 1 : Nat) : Int) ≤ 4) = false from rfl]
    simp only [Bool.false_eq_true, if_false, bind_some']
  have hdl : (s.drop (k + 1)).length = s.length - (k + 1) := List.length_drop
  rw [R02_Next, d1, d2, dropE hk, nextP]
  show (R02_Next_L1 s k leadL ((1 : Nat) : Int) >>= _) = _
  rw [l1, if_pos (by omega), (tst1 _ _).1, (tst1 _ _).2, l2]
  unfold nextC
  by_cases h1 : s[k].toNat < 128
  · rw [decide_eq_true h1, if_pos rfl, if_pos h1]; rfl
  rw [decide_eq_false h1, if_neg (by decide), if_neg h1]
  generalize hr : s.drop (k + 1) = r at *
  match r with
  | [] =>
    simp at hdl
    rw [if_neg (by omega)]
    simp
  | [c1] =>
    simp at hdl
    have hc1 := c1.toNat_lt
    rw [if_pos (by omega), (tst2 _ _ _).1, (tst2 _ _ _).2, l3, if_neg (by omega : ¬ k + 3 ≤ s.length)]
    dsimp only
    by_cases h2 : 192 ≤ s[k].toNat ∧ s[k].toNat < 224
    · rw [if_pos h2]
      by_cases h3 : contB c1 = true ∧ 128 ≤ (s[k].toNat - 192) * 64 + (c1.toNat - 128)
      · have h4 : 128 ≤ c1.toNat := by have := h3.1; unfold contB at this; simp at this; exact this.1
        rw [decide_eq_true ⟨h2, h3⟩, if_pos rfl, if_pos h3]
        simp only [bind_some']
        congr 2
        omega
      · rw [decide_eq_false (fun h => h3 h.2), if_neg (by decide), if_neg h3]; rfl
    · rw [decide_eq_false (fun h => h2 h.1), if_neg (by decide), if_neg h2]
      simp
  | [c1, c2] =>
    simp at hdl
    have hc1 := c1.toNat_lt
    have hc2 := c2.toNat_lt
    rw [if_pos (by omega), (tst2 _ _ _).1, (tst2 _ _ _).2, l3, if_pos (by omega : k + 3 ≤ s.length), (tst3 _ _ _ _).1, (tst3 _ _ _ _).2, l4, if_neg (by omega : ¬ k + 4 ≤ s.length)]
    dsimp only
    by_cases h2 : 192 ≤ s[k].toNat ∧ s[k].toNat < 224
    · rw [if_pos h2]
      by_cases h3 : contB c1 = true ∧ 128 ≤ (s[k].toNat - 192) * 64 + (c1.toNat - 128)
      · have h4 : 128 ≤ c1.toNat := by have := h3.1; unfold contB at this; simp at this; exact this.1
        rw [decide_eq_true ⟨h2, h3⟩, if_pos rfl, if_pos h3]
        simp only [bind_some']
        congr 2
        omega
      · rw [decide_eq_false (fun h => h3 h.2), if_neg (by decide), if_neg h3, decide_eq_false (fun h => by have := h.1; omega), if_neg (by decide)]; rfl
    · rw [decide_eq_false (fun h => h2 h.1), if_neg (by decide), if_neg h2]
      by_cases h5 : 224 ≤ s[k].toNat ∧ s[k].toNat < 240
      · rw [if_pos h5]
        by_cases h6 : contB c1 = true ∧ contB c2 = true ∧ 2048 ≤ ((s[k].toNat - 224) * 64 + (c1.toNat - 128)) * 64 + (c2.toNat - 128) ∧ runeB (((s[k].toNat - 224) * 64 + (c1.toNat - 128)) * 64 + (c2.toNat - 128)) = true
        · have h4 : 128 ≤ c1.toNat := by have := h6.1; unfold contB at this; simp at this; exact this.1
          have h4' : 128 ≤ c2.toNat := by have := h6.2.1; unfold contB at this; simp at this; exact this.1
          rw [decide_eq_true ⟨h5, h6⟩, if_pos rfl, if_pos h6]
          simp only [bind_some']
          congr 2
          omega
        · rw [decide_eq_false (fun h => h6 h.2), if_neg (by decide), if_neg h6]; rfl
      · rw [decide_eq_false (fun h => h5 h.1), if_neg (by decide), if_neg h5]
        simp
  | c1 :: c2 :: c3 :: r =>
    simp at hdl
    have hc1 := c1.toNat_lt
    have hc2 := c2.toNat_lt
    have hc3 := c3.toNat_lt
    rw [if_pos (by omega), (tst2 _ _ _).1, (tst2 _ _ _).2, l3, if_pos (by omega : k + 3 ≤ s.length), (tst3 _ _ _ _).1, (tst3 _ _ _ _).2, l4, if_pos (by omega : k + 4 ≤ s.length), (tst4 _ _ _ _ _).1, (tst4 _ _ _ _ _).2, l5]
    dsimp only
    by_cases h2 : 192 ≤ s[k].toNat ∧ s[k].toNat < 224
    · rw [if_pos h2]
      by_cases h3 : contB c1 = true ∧ 128 ≤ (s[k].toNat - 192) * 64 + (c1.toNat - 128)
      · have h4 : 128 ≤ c1.toNat := by have := h3.1; unfold contB at this; simp at this; exact this.1
        rw [decide_eq_true ⟨h2, h3⟩, if_pos rfl, if_pos h3]
        simp only [bind_some']
        congr 2
        omega
      · rw [decide_eq_false (fun h => h3 h.2), if_neg (by decide), if_neg h3, decide_eq_false (fun h => by have := h.1; omega), if_neg (by decide), decide_eq_false (fun h => by have := h.1; omega), if_neg (by decide)]; rfl
    · rw [decide_eq_false (fun h => h2 h.1), if_neg (by decide), if_neg h2]
      by_cases h5 : 224 ≤ s[k].toNat ∧ s[k].toNat < 240
      · rw [if_pos h5]
        by_cases h6 : contB c1 = true ∧ contB c2 = true ∧ 2048 ≤ ((s[k].toNat - 224) * 64 + (c1.toNat - 128)) * 64 + (c2.toNat - 128) ∧ runeB (((s[k].toNat - 224) * 64 + (c1.toNat - 128)) * 64 + (c2.toNat - 128)) = true
        · have h4 : 128 ≤ c1.toNat := by have := h6.1; unfold contB at this; simp at this; exact this.1
          have h4' : 128 ≤ c2.toNat := by have := h6.2.1; unfold contB at this; simp at this; exact this.1
          rw [decide_eq_true ⟨h5, h6⟩, if_pos rfl, if_pos h6]
          simp only [bind_some']
          congr 2
          omega
        · rw [decide_eq_false (fun h => h6 h.2), if_neg (by decide), if_neg h6, decide_eq_false (fun h => by have := h.1; omega), if_neg (by decide)]; rfl
      · rw [decide_eq_false (fun h => h5 h.1), if_neg (by decide), if_neg h5]
        by_cases h7 : 240 ≤ s[k].toNat ∧ s[k].toNat < 248
        · rw [if_pos h7]
          by_cases h8 : contB c1 = true ∧ contB c2 = true ∧ contB c3 = true ∧ 65536 ≤ (((s[k].toNat - 240) * 64 + (c1.toNat - 128)) * 64 + (c2.toNat - 128)) * 64 + (c3.toNat - 128) ∧ runeB ((((s[k].toNat - 240) * 64 + (c1.toNat - 128)) * 64 + (c2.toNat - 128)) * 64 + (c3.toNat - 128)) = true
          · have h4 : 128 ≤ c1.toNat := by have := h8.1; unfold contB at this; simp at this; exact this.1
            have h4' : 128 ≤ c2.toNat := by have := h8.2.1; unfold contB at this; simp at this; exact this.1
            have h4'' : 128 ≤ c3.toNat := by have := h8.2.2.1; unfold contB at this; simp at this; exact this.1
            rw [decide_eq_true ⟨h7, h8⟩, if_pos rfl, if_pos h8]
            simp only [bind_some']
            congr 2
            omega
          · rw [decide_eq_false (fun h => h8 h.2), if_neg (by decide), if_neg h8]; rfl
        · rw [decide_eq_false (fun h => h7 h.1), if_neg (by decide), if_neg h7]
          rfl
end Go.Proofs.Ytlhjieapkcnghaa
