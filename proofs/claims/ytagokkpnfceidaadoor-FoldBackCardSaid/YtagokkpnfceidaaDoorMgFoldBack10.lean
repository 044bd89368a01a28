/- The proof's texts, part 10 of 11: the walks by a logic in which data are by value, the plain laws, and at the end the law, for every input. -/
import Derived.Test.YtagokkpnfceidaaDoorMgFoldBack9
import Derived.ProofKit

section
namespace Go.Proofs.YtagokkpnfceidaaDoor
open Go.RowKit

abbrev bad1 (l : List UInt8) : Prop := (nextP l).1 = 65533 ∧ (nextP l).2 = 1
theorem utfF_nil : ∀ n, utfF n [] = true
  | 0 => rfl
  | _ + 1 => rfl
theorem utfF_more : ∀ (n n' : Nat) (l : List UInt8), l.length ≤ n → l.length ≤ n' → utfF n l = utfF n' l
  | 0, n', [], _, _ => by rw [utfF_nil, utfF_nil]
  | n + 1, n', [], _, _ => by rw [utfF_nil, utfF_nil]
  | 0, _, _ :: _, h, _ => by simp at h
  | n + 1, 0, _ :: _, _, h => by simp at h
  | n + 1, n' + 1, c :: r, h, h' => by
    obtain ⟨z1, z2⟩ := nextP_size (c :: r) (List.cons_ne_nil _ _)
    rw [utfF_step n _ (List.cons_ne_nil _ _), utfF_step n' _ (List.cons_ne_nil _ _)]
    rw [utfF_more n n' _ (by rw [List.length_drop]; omega) (by rw [List.length_drop]; omega)]
abbrev okU (l : List UInt8) : Prop := utfF l.length l = true
theorem okU_iff {l : List UInt8} (h : l ≠ []) : okU l ↔ ¬ bad1 l ∧ okU (l.drop (nextP l).2) := by
  obtain ⟨z1, z2⟩ := nextP_size l h
  obtain ⟨n, hn⟩ : ∃ n, l.length = n + 1 := ⟨l.length - 1, by omega⟩
  unfold okU
  rw [hn, utfF_step n l h, utfF_more n (l.drop (nextP l).2).length _ (by rw [List.length_drop]; omega) (Nat.le_refl _)]
  by_cases hb : bad1 l
  · rw [if_pos hb]; simp [hb]
  · rw [if_neg hb]; simp [hb]

def rb4 (n : Nat) : List UInt8 := (bytesN n).map UInt8.ofNat
theorem rb4_len (n : Nat) : (rb4 n).length ≤ 4 ∧ 1 ≤ (rb4 n).length := by
  unfold rb4 bytesN
  split
  · simp
  · split
    · simp
    · split <;> simp
theorem ofNc {n : Nat} (h : n < 256) : (UInt8.ofNat n).toNat = n := by rw [UInt8.toNat_ofNat', Nat.mod_eq_of_lt h]
theorem nextP_rb (n : Nat) (h : runeB n = true) (z : List UInt8) : nextP (rb4 n ++ z) = (n, (rb4 n).length) := by
  have hn : n ≤ 1114111 := by unfold runeB at h; rw [Bool.and_eq_true] at h; exact of_decide_eq_true h.1
  have cb : ∀ k, k < 64 → contB (UInt8.ofNat (128 + k)) = true := fun k hk => by
    unfold contB; rw [ofNc (by omega), decide_eq_true (by omega), decide_eq_true (by omega)]; rfl
  unfold rb4 bytesN
  by_cases h1 : n < 128
  · rw [if_pos h1]
    show nextC (UInt8.ofNat n) z = (n, 1)
    unfold nextC
    rw [ofNc (by omega), if_pos h1]
  rw [if_neg h1]
  by_cases h2 : n < 2048
  · rw [if_pos h2]
    show nextC (UInt8.ofNat (192 + n / 64)) (UInt8.ofNat (128 + n % 64) :: z) = (n, 2)
    unfold nextC
    rw [ofNc (by omega), if_neg (by omega), if_pos (by omega)]
    simp only
    rw [ofNc (by omega), if_pos ⟨cb _ (by omega), by omega⟩, show (192 + n / 64 - 192) * 64 + (128 + n % 64 - 128) = n by omega]
  rw [if_neg h2]
  by_cases h3 : n < 65536
  · rw [if_pos h3]
    show nextC (UInt8.ofNat (224 + n / 4096)) (UInt8.ofNat (128 + n / 64 % 64) :: UInt8.ofNat (128 + n % 64) :: z) = (n, 3)
    unfold nextC
    rw [ofNc (by omega), if_neg (by omega), if_neg (by omega), if_pos (by omega)]
    simp only
    rw [ofNc (by omega), ofNc (by omega), show ((224 + n / 4096 - 224) * 64 + (128 + n / 64 % 64 - 128)) * 64 + (128 + n % 64 - 128) = n by omega, if_pos ⟨cb _ (by omega), cb _ (by omega), by omega, h⟩]
  rw [if_neg h3]
  show nextC (UInt8.ofNat (240 + n / 262144)) (UInt8.ofNat (128 + n / 4096 % 64) :: UInt8.ofNat (128 + n / 64 % 64) :: UInt8.ofNat (128 + n % 64) :: z) = (n, 4)
  unfold nextC
  rw [ofNc (by omega), if_neg (by omega), if_neg (by omega), if_neg (by omega), if_pos (by omega)]
  simp only
  rw [ofNc (by omega), ofNc (by omega), ofNc (by omega), show (((240 + n / 262144 - 240) * 64 + (128 + n / 4096 % 64 - 128)) * 64 + (128 + n / 64 % 64 - 128)) * 64 + (128 + n % 64 - 128) = n by omega, if_pos ⟨cb _ (by omega), cb _ (by omega), cb _ (by omega), by omega, h⟩]
theorem okU_rb (n : Nat) (h : runeB n = true) (z : List UInt8) (hz : okU z) : okU (rb4 n ++ z) := by
  have hl := rb4_len n
  have hne : rb4 n ++ z ≠ [] := by
    intro e
    rw [(List.append_eq_nil_iff.1 e).1] at hl
    simp at hl
  rw [okU_iff hne]
  unfold bad1
  rw [nextP_rb n h z]
  refine ⟨fun e => ?_, ?_⟩
  · obtain ⟨e1, e2⟩ := e
    simp only at e1 e2
    rw [e1] at e2
    exact absurd e2 (by decide)
  · simp only
    rw [List.drop_left]
    exact hz
theorem nextP_rune (l : List UInt8) (h : l ≠ []) : runeB (nextP l).1 = true := by
  have hb : runeB 65533 = true := by decide
  cases l with
  | nil => exact absurd rfl h
  | cons c r =>
    have hc := c.toNat_lt
    have cc : ∀ c : UInt8, contB c = true → c.toNat - 128 < 64 := fun c h => by unfold contB at h; simp at h; omega
    rw [nextP]
    unfold nextC
    split
    · unfold runeB; rw [decide_eq_true (by simp only; omega), decide_eq_false (by simp only; omega)]; rfl
    · split
      · split
        · split
          · rename_i hh
            have := cc _ hh.1
            unfold runeB; rw [decide_eq_true (by simp only; omega), decide_eq_false (by simp only; omega)]; rfl
          · exact hb
        · exact hb
      · split
        · split
          · split
            · rename_i hh; exact hh.2.2.2
            · exact hb
          · exact hb
        · split
          · split
            · split
              · rename_i hh; exact hh.2.2.2.2
              · exact hb
            · exact hb
          · exact hb
/-- A text's runes. -/
def runesF : Nat → List UInt8 → List Nat
  | 0, _ => []
  | n + 1, l => match l with
    | [] => []
    | _ :: _ => (nextP l).1 :: runesF n (l.drop (nextP l).2)
theorem runesF_step (n : Nat) (l : List UInt8) (h : l ≠ []) : runesF (n + 1) l = (nextP l).1 :: runesF n (l.drop (nextP l).2) := by
  cases l with
  | nil => exact absurd rfl h
  | cons c r => rfl
theorem runesF_rune : ∀ (n : Nat) (l : List UInt8), ∀ r ∈ runesF n l, runeB r = true
  | 0, _, r, h => by simp [runesF] at h
  | n + 1, [], r, h => by simp [runesF] at h
  | n + 1, c :: t, r, h => by
    rw [runesF_step n _ (List.cons_ne_nil _ _)] at h
    rcases List.mem_cons.1 h with rfl | h
    · exact nextP_rune _ (List.cons_ne_nil _ _)
    · exact runesF_rune n _ r h
theorem runesF_len : ∀ (n : Nat) (l : List UInt8), (runesF n l).length ≤ n
  | 0, _ => by simp [runesF]
  | n + 1, [] => by simp [runesF]
  | n + 1, c :: t => by
    rw [runesF_step n _ (List.cons_ne_nil _ _), List.length_cons]
    have := runesF_len n ((c :: t).drop (nextP (c :: t)).2)
    omega
abbrev runesP (l : List UInt8) : List Nat := runesF l.length l
def wholeP (l : List UInt8) : List UInt8 := (runesP l).flatMap rb4

def nameB (c : UInt8) : Bool := (decide (97 ≤ c.toNat) && decide (c.toNat ≤ 122)) || ((decide (65 ≤ c.toNat) && decide (c.toNat ≤ 90)) || ((decide (48 ≤ c.toNat) && decide (c.toNat ≤ 57)) || c == 45))
def nameP (s : List UInt8) : Bool := !(s == []) && (decide (s.length ≤ 32) && s.all nameB)
/-- Does a sign of a coded word begin here? -/
def eqq (l : List UInt8) : Bool := [61, 63].isPrefixOf l
def plainF : Nat → List UInt8 → Bool
  | k, [] => decide (0 < k)
  | k, c :: r => if (c = 32 ∧ k = 0) ∨ c.toNat < 32 ∨ 126 < c.toNat ∨ eqq (c :: r) = true then false
    else if c = 32 then plainF 0 r else if k < 60 then plainF (k + 1) r else false
def plainP (s : List UInt8) : Bool := s == [] || plainF 0 s
def shownB (c : UInt8) : Bool := decide (32 ≤ c.toNat) && decide (c.toNat ≤ 126)
/-- Neither unseen bytes nor the signs of a coded word. -/
def cleanP : List UInt8 → Bool
  | [] => true
  | c :: r => shownB c && (!(eqq (c :: r)) && cleanP r)
def sizeB (w : List UInt8) : Bool := decide (1 ≤ w.length) && decide (w.length ≤ 60)
def sizesK (k : Nat) : List (List UInt8) → Bool
  | [] => true
  | x :: r => (decide (1 ≤ k + x.length) && decide (k + x.length ≤ 60)) && r.all sizeB
theorem sizesK0 (l : List (List UInt8)) : sizesK 0 l = l.all sizeB := by
  cases l with
  | nil => rfl
  | cons x r => simp [sizesK, sizeB]
theorem plainF_cut : ∀ (l : List UInt8) (k : Nat), k ≤ 60 → plainF k l = (sizesK k (cutS 32 l) && cleanP l)
  | [], k, hk => by
    by_cases h0 : 0 < k
    · rw [plainF, decide_eq_true h0]; simp [cutS, sizesK, cleanP, hk]; omega
    · rw [plainF, decide_eq_false h0]; simp [cutS, sizesK, cleanP, hk]; omega
  | c :: r, k, hk => by
    rw [plainF, cleanP, shownB, cutS]
    by_cases hs : c.toNat < 32 ∨ 126 < c.toNat ∨ eqq (c :: r) = true
    · rw [if_pos (.inr hs)]
      rcases hs with h | h | h
      · rw [decide_eq_false (by omega : ¬ 32 ≤ c.toNat)]; simp
      · rw [decide_eq_false (by omega : ¬ c.toNat ≤ 126)]; simp
      · rw [h]; simp
    · have h1 : decide (32 ≤ c.toNat) = true := decide_eq_true (by omega)
      have h2 : decide (c.toNat ≤ 126) = true := decide_eq_true (by omega)
      have h3 : eqq (c :: r) = false := by cases h : eqq (c :: r) with
        | true => exact absurd (.inr (.inr h)) hs
        | false => rfl
      by_cases hc : c = 32
      · subst hc
        by_cases h0 : k = 0
        · rw [if_pos (.inl ⟨rfl, h0⟩), if_pos (beq_self_eq_true _), sizesK, h0]; simp
        · rw [if_neg (fun e => e.elim (fun e => h0 e.2) hs), if_pos rfl, if_pos (beq_self_eq_true _), sizesK, plainF_cut r 0 (by omega), sizesK0, h1, h2, h3]
          have a1 : decide (1 ≤ k + ([] : List UInt8).length) = true := decide_eq_true (by simp; omega)
          have a2 : decide (k + ([] : List UInt8).length ≤ 60) = true := decide_eq_true (by simpa using hk)
          rw [a1, a2]; simp
      · have hcb : ¬ (c == 32) = true := by simpa using hc
        rw [if_neg (fun e => e.elim (fun e => hc e.1) hs), if_neg hc, if_neg hcb, h1, h2, h3]
        cases hcut : cutS 32 r with
        | nil => exact absurd hcut (cutS_ne _ _)
        | cons x t =>
          simp only [sizesK, List.length_cons, Bool.true_and, Bool.not_false]
          by_cases h60 : k < 60
          · rw [if_pos h60, plainF_cut r (k + 1) (by omega), hcut, sizesK, show k + 1 + x.length = k + (x.length + 1) by omega]
          · rw [if_neg h60, decide_eq_false (by omega : ¬ k + (x.length + 1) ≤ 60)]; simp
theorem plain_cut (l : List UInt8) : plainF 0 l = ((cutS 32 l).all sizeB && cleanP l) := by rw [plainF_cut l 0 (by omega), sizesK0]

def frontB : List UInt8 := [61, 63, 85, 84, 70, 45, 56, 63, 66, 63]
def codedP (g : List UInt8) : List UInt8 := frontB ++ encP g ++ [63, 61]
def groupsP : List UInt8 → List (List UInt8) → List (List UInt8)
  | now, [] => [now]
  | now, b :: r => if 45 < now.length + b.length then now :: groupsP b r else groupsP (now ++ b) r
def wordsP (v : List UInt8) : List (List UInt8) :=
  if v = [] then [] else if plainP v = true then cutS 32 v else (groupsP [] ((runesP v).map rb4)).map codedP
theorem groups_join : ∀ (r : List (List UInt8)) (now : List UInt8), (groupsP now r).flatten = now ++ r.flatten
  | [], now => by simp [groupsP]
  | b :: r, now => by
    rw [groupsP]
    split
    · rw [List.flatten_cons, groups_join r b]; simp
    · rw [groups_join r (now ++ b)]; simp
theorem groups_len : ∀ (r : List (List UInt8)) (now : List UInt8), now.length ≤ 45 → (∀ b ∈ r, b.length ≤ 4) → ∀ g ∈ groupsP now r, g.length ≤ 45
  | [], now, hn, _, g, hg => by simp only [groupsP, List.mem_singleton] at hg; subst hg; exact hn
  | b :: r, now, hn, hb, g, hg => by
    have h4 := hb b (by simp)
    rw [groupsP] at hg
    split at hg
    · rcases List.mem_cons.1 hg with rfl | hg
      · exact hn
      · exact groups_len r b (by omega) (fun x hx => hb x (by simp [hx])) g hg
    · exact groups_len r (now ++ b) (by rw [List.length_append]; omega) (fun x hx => hb x (by simp [hx])) g hg
theorem groups_num : ∀ (r : List (List UInt8)) (now : List UInt8), (groupsP now r).length ≤ r.length + 1
  | [], now => by simp [groupsP]
  | b :: r, now => by
    rw [groupsP]
    split
    · have := groups_num r b; simp; omega
    · have := groups_num r (now ++ b); simp; omega
/-- Runes that are joined: no bad bytes. -/
inductive Runed : List UInt8 → Prop
  | nil : Runed []
  | app {a : List UInt8} (n : Nat) (h : runeB n = true) (ha : Runed a) : Runed (a ++ rb4 n)
theorem Runed.ok : ∀ {a : List UInt8}, Runed a → ∀ z, okU z → okU (a ++ z)
  | _, .nil, z, hz => hz
  | _, .app n h ha, z, hz => by rw [List.append_assoc]; exact Runed.ok ha _ (okU_rb n h z hz)
theorem okU_nil : okU [] := rfl
theorem Runed.okU {a : List UInt8} (h : Runed a) : okU a := by have := h.ok [] okU_nil; rwa [List.append_nil] at this
theorem groups_runed : ∀ (l : List Nat) (now : List UInt8), Runed now → (∀ n ∈ l, runeB n = true) → ∀ g ∈ groupsP now (l.map rb4), Runed g
  | [], now, hn, _, g, hg => by simp only [List.map_nil, groupsP, List.mem_singleton] at hg; subst hg; exact hn
  | n :: l, now, hn, hb, g, hg => by
    rw [List.map_cons, groupsP] at hg
    have hr := hb n (by simp)
    split at hg
    · rcases List.mem_cons.1 hg with rfl | hg
      · exact hn
      · have h1 : Runed ([] ++ rb4 n) := .app n hr .nil
        rw [List.nil_append] at h1
        exact groups_runed l (rb4 n) h1 (fun x hx => hb x (by simp [hx])) g hg
    · exact groups_runed l (now ++ rb4 n) (.app n hr hn) (fun x hx => hb x (by simp [hx])) g hg
theorem cutS_join (b : UInt8) : ∀ l : List UInt8, ∀ x r, cutS b l = x :: r → x ++ r.flatMap (fun w => b :: w) = l
  | [], x, r, h => by simp only [cutS, List.cons.injEq] at h; obtain ⟨rfl, rfl⟩ := h; rfl
  | a :: t, x, r, h => by
    rw [cutS] at h
    cases hc : cutS b t with
    | nil => exact absurd hc (cutS_ne _ _)
    | cons y q =>
      have ih := cutS_join b t y q hc
      rw [hc] at h
      split at h
      · rename_i hab
        simp only [List.cons.injEq] at h
        obtain ⟨rfl, rfl⟩ := h
        have : a = b := by simpa using hab
        subst this
        rw [List.flatMap_cons, List.nil_append, List.cons_append, ih]
      · simp only [List.cons.injEq] at h
        obtain ⟨rfl, rfl⟩ := h
        rw [List.cons_append, ih]
theorem cutS_mem (b : UInt8) : ∀ l : List UInt8, ∀ w ∈ cutS b l, ∀ c ∈ w, c ∈ l ∧ c ≠ b
  | [], w, hw, c, hc => by simp only [cutS, List.mem_singleton] at hw; subst hw; simp at hc
  | a :: t, w, hw, c, hc => by
    rw [cutS] at hw
    split at hw
    · rcases List.mem_cons.1 hw with rfl | hw
      · simp at hc
      · have := cutS_mem b t w hw c hc
        exact ⟨by simp [this.1], this.2⟩
    · rename_i hab
      have hab' : a ≠ b := by simpa using hab
      split at hw
      · rename_i x r hcut
        rcases List.mem_cons.1 hw with rfl | hw
        · rcases List.mem_cons.1 hc with rfl | hc
          · exact ⟨by simp, hab'⟩
          · have := cutS_mem b t x (by rw [hcut]; simp) c hc
            exact ⟨by simp [this.1], this.2⟩
        · have := cutS_mem b t w (by rw [hcut]; simp [hw]) c hc
          exact ⟨by simp [this.1], this.2⟩
      · simp only [List.mem_singleton] at hw
        subst hw
        simp only [List.mem_singleton] at hc
        subst hc
        exact ⟨by simp, hab'⟩
end Go.Proofs.YtagokkpnfceidaaDoor
end

section
namespace Go.Proofs.YtagokkpnfceidaaDoor
open Go.RowKit

theorem u32_in {n : Int} (h1 : 0 ≤ n) (h2 : n ≤ 4294967295) : IntKind.u32.wrap n = n := by
  simp [IntKind.wrap, IntKind.bits, IntKind.signed]
  omega
theorem u32n (n : Nat) (h : n ≤ 4294967295) : IntKind.u32.wrap (n : Int) = (n : Int) := u32_in (by omega) (by omega)
theorem sh8 (v : Nat) (h : v < 65536) : IntKind.u32.wrap ((v : Int) * 2 ^ (min (8 : Int).toNat (IntKind.u32.bits))) = ((v * 256 : Nat) : Int) := by
  have : (min (8 : Int).toNat (IntKind.u32.bits)) = 8 := rfl
  rw [this, u32_in (by omega) (by omega)]; omega
theorem sh6 (v : Nat) (h : v < 262144) : IntKind.u32.wrap ((v : Int) * 2 ^ (min (6 : Int).toNat (IntKind.u32.bits))) = ((v * 64 : Nat) : Int) := by
  have : (min (6 : Int).toNat (IntKind.u32.bits)) = 6 := rfl
  rw [this, u32_in (by omega) (by omega)]; omega
theorem orU (k a b : Nat) (h : 2 ^ k * a + b ≤ 4294967295) (hb : b < 2 ^ k) : bits .or .u32 ((2 ^ k * a : Nat) : Int) (b : Int) = ((2 ^ k * a + b : Nat) : Int) := by
  have e2 : (2 : Nat) ^ k * a + b = 2 ^ k * a ||| b := Nat.two_pow_add_eq_or_of_lt hb a
  show IntKind.u32.wrap ((BitVec.ofInt 32 ((2 ^ k * a : Nat) : Int) ||| BitVec.ofInt 32 (b : Int)).toNat : Int) = _
  rw [BitVec.toNat_or, BitVec.ofInt_natCast, BitVec.ofInt_natCast, BitVec.toNat_ofNat, BitVec.toNat_ofNat, Nat.mod_eq_of_lt (by omega), Nat.mod_eq_of_lt (by omega), ← e2]
  exact u32n _ h
theorem or8 (a b : Nat) (ha : a < 65536) (hb : b < 256) : bits .or .u32 ((a * 256 : Nat) : Int) (b : Int) = ((a * 256 + b : Nat) : Int) := by
  have := orU 8 a b (by omega) (by omega)
  rw [show 2 ^ 8 * a = a * 256 by omega] at this
  exact this
theorem or6 (a b : Nat) (ha : a < 262144) (hb : b < 64) : bits .or .u32 ((a * 64 : Nat) : Int) (b : Int) = ((a * 64 + b : Nat) : Int) := by
  have := orU 6 a b (by omega) (by omega)
  rw [show 2 ^ 6 * a = a * 64 by omega] at this
  exact this
theorem andU (k n : Nat) (hk : k ≤ 16) (h : n ≤ 4294967295) : bits .and .u32 (n : Int) ((2 ^ k - 1 : Nat) : Int) = ((n % 2 ^ k : Nat) : Int) := by
  show IntKind.u32.wrap ((BitVec.ofInt 32 (n : Int) &&& BitVec.ofInt 32 ((2 ^ k - 1 : Nat) : Int)).toNat : Int) = _
  have hp : 2 ^ k ≤ 2 ^ 16 := Nat.pow_le_pow_right (by omega) hk
  have e : n &&& (2 ^ k - 1) = n % 2 ^ k := Nat.and_two_pow_sub_one_eq_mod n k
  have hp0 : 0 < 2 ^ k := Nat.pow_pos (by omega)
  have hm : n % 2 ^ k < 2 ^ k := Nat.mod_lt _ hp0
  rw [BitVec.toNat_and, BitVec.ofInt_natCast, BitVec.ofInt_natCast, BitVec.toNat_ofNat, BitVec.toNat_ofNat, Nat.mod_eq_of_lt (by omega), Nat.mod_eq_of_lt (by omega), e]
  exact u32n _ (by omega)
theorem and63u (n : Nat) (h : n ≤ 4294967295) : bits .and .u32 (n : Int) 63 = ((n % 64 : Nat) : Int) := andU 6 n (by omega) h
theorem and255u (n : Nat) (h : n ≤ 4294967295) : bits .and .u32 (n : Int) 255 = ((n % 256 : Nat) : Int) := andU 8 n (by omega) h
theorem and65535u (n : Nat) (h : n ≤ 4294967295) : bits .and .u32 (n : Int) 65535 = ((n % 65536 : Nat) : Int) := andU 16 n (by omega) h
theorem and0u (n : Nat) (h : n ≤ 4294967295) : bits .and .u32 (n : Int) 0 = 0 := by
  have := andU 0 n (by omega) h
  rw [show n % 2 ^ 0 = 0 by omega] at this
  exact this
theorem fdN (n k : Nat) : (n : Int).fdiv (k : Int) = ((n / k : Nat) : Int) := by
  rw [Int.fdiv_eq_ediv_of_nonneg _ (by omega)]; rfl
theorem u8m (n : Nat) : IntKind.u8.wrap (n : Int) = ((n % 256 : Nat) : Int) := by
  simp [IntKind.wrap, IntKind.bits, IntKind.signed]

theorem wb2 (x : Int) (f : Bool) (acc : List Int) (h : acc.length < 1000000000) : strings_Builder_WriteByte_2 x f acc = some ((), true, acc ++ [x]) := by
  rw [strings_Builder_WriteByte_2, strings_Builder_copyCheck_4, bind_some', appL_ok (by simp; omega) (by simp; omega)]; rfl
theorem ws5 (p : List UInt8) (f : Bool) (acc : List Int) (h : acc.length + p.length < 1000000000) : strings_Builder_WriteString_5 p f acc = some ((p.length : Int), (), true, acc ++ s2b p) := by
  rw [strings_Builder_WriteString_5, strings_Builder_copyCheck_4, bind_some', appL_ok (by rw [s2b_len]; omega) (by rw [s2b_len]; omega)]; rfl
theorem s2b_one (A : List UInt8) (c : UInt8) : s2b A ++ [(c.toNat : Int)] = s2b (A ++ [c]) := by rw [s2b_app]; rfl
theorem sstr4 (f : Bool) (A : List UInt8) : strings_Builder_String_4 f (s2b A) = some A := by rw [strings_Builder_String_4]; exact b2s_s2b A

theorem wr01 : wr (0 + 1) = 1 := by decide
theorem wr12 : wr (1 + 1) = 2 := by decide
theorem wr23 : wr (2 + 1) = 3 := by decide
theorem sh8z : IntKind.u32.wrap ((0 : Int) * 2 ^ (min (8 : Int).toNat (IntKind.u32.bits))) = ((0 * 256 : Nat) : Int) := sh8 0 (by omega)
theorem minI3 (l : List UInt8) (k : Nat) (h : k = min l.length 3) : (if (l.length : Int) < (3 : Int) then (l.length : Int) else (3 : Int)) = (k : Int) := by
  split <;> omega
theorem idx_2 {α : Type} (l : List α) : idx l 2 = l[2]? := idx_lit l 2
theorem idx_3 {α : Type} (l : List α) : idx l 3 = l[3]? := idx_lit l 3
theorem dec01 : decide ((0 : Int) < 3) = true := by decide
theorem dec13 : decide ((1 : Int) < 3) = true := by decide
theorem dec23 : decide ((2 : Int) < 3) = true := by decide
theorem dec33 : decide ((3 : Int) < 3) = false := by decide
theorem tE2a (a : UInt8) (f : Bool) (acc : List Int) : b64_Encode_L2 [a] f acc 0 0 = some ((a.toNat * 65536 : Nat) : Int) := by
  have ha := a.toNat_lt
  have hm := minI3 [a] 1 (by simp)
  rw [b64_Encode_L2, hm, dec01]
  simp only [if_true, show decide ((0 : Int) < ((1 : Nat) : Int)) = true from by decide, idx_0, List.getElem?_cons_zero, bind_some']
  rw [sh8z, u32n _ (by omega), or8 0 _ (by omega) (by omega), wr01, b64_Encode_L2, hm, dec13]
  simp only [if_true, show decide ((1 : Int) < ((1 : Nat) : Int)) = false from by decide, Bool.false_eq_true, if_false]
  rw [sh8 _ (by omega), wr12, b64_Encode_L2, hm, dec23]
  simp only [if_true, show decide ((2 : Int) < ((1 : Nat) : Int)) = false from by decide, Bool.false_eq_true, if_false]
  rw [sh8 _ (by omega), wr23, b64_Encode_L2, dec33]
  rw [if_neg (by decide)]
  exact congrArg (fun n : Nat => some (n : Int)) (by omega)
theorem tE2b (a b : UInt8) (f : Bool) (acc : List Int) : b64_Encode_L2 [a, b] f acc 0 0 = some ((a.toNat * 65536 + b.toNat * 256 : Nat) : Int) := by
  have ha := a.toNat_lt
  have hb := b.toNat_lt
  have hm := minI3 [a, b] 2 (by simp)
  rw [b64_Encode_L2, hm, dec01]
  simp only [if_true, show decide ((0 : Int) < ((2 : Nat) : Int)) = true from by decide, idx_0, List.getElem?_cons_zero, bind_some']
  rw [sh8z, u32n _ (by omega), or8 0 _ (by omega) (by omega), wr01, b64_Encode_L2, hm, dec13]
  simp only [if_true, show decide ((1 : Int) < ((2 : Nat) : Int)) = true from by decide, idx_1, List.getElem?_cons_succ, List.getElem?_cons_zero, bind_some']
  rw [sh8 _ (by omega), u32n _ (by omega), or8 _ _ (by omega) (by omega), wr12, b64_Encode_L2, hm, dec23]
  simp only [if_true, show decide ((2 : Int) < ((2 : Nat) : Int)) = false from by decide, Bool.false_eq_true, if_false]
  rw [sh8 _ (by omega), wr23, b64_Encode_L2, dec33]
  rw [if_neg (by decide)]
  exact congrArg (fun n : Nat => some (n : Int)) (by omega)
theorem tE2c (a b c : UInt8) (r : List UInt8) (f : Bool) (acc : List Int) : b64_Encode_L2 (a :: b :: c :: r) f acc 0 0 = some ((a.toNat * 65536 + b.toNat * 256 + c.toNat : Nat) : Int) := by
  have ha := a.toNat_lt
  have hb := b.toNat_lt
  have hc := c.toNat_lt
  have hm := minI3 (a :: b :: c :: r) 3 (by simp)
  rw [b64_Encode_L2, hm, dec01]
  simp only [if_true, show decide ((0 : Int) < ((3 : Nat) : Int)) = true from by decide, idx_0, List.getElem?_cons_zero, bind_some']
  rw [sh8z, u32n _ (by omega), or8 0 _ (by omega) (by omega), wr01, b64_Encode_L2, hm, dec13]
  simp only [if_true, show decide ((1 : Int) < ((3 : Nat) : Int)) = true from by decide, idx_1, List.getElem?_cons_succ, List.getElem?_cons_zero, bind_some']
  rw [sh8 _ (by omega), u32n _ (by omega), or8 _ _ (by omega) (by omega), wr12, b64_Encode_L2, hm, dec23]
  simp only [if_true, show decide ((2 : Int) < ((3 : Nat) : Int)) = true from by decide, idx_2, List.getElem?_cons_succ, List.getElem?_cons_zero, bind_some']
  rw [sh8 _ (by omega), u32n _ (by omega), or8 _ _ (by omega) (by omega), wr23, b64_Encode_L2, dec33]
  rw [if_neg (by decide)]
  exact congrArg (fun n : Nat => some (n : Int)) (by omega)
theorem dgN_eq (n : Nat) : dgN n = dgP n := rfl
theorem b64d (n : Nat) (h : n < 64) : b64_digit (n : Int) = some ((dgP n).toNat : Int) := by
  rw [b64_digit, need_ok (by omega), bind_some', need_ok (by omega), bind_some', Int.toNat_natCast, dgN_eq]
/-- The digits of a number of 24 bits, and signs. -/
theorem tE3 (l : List UInt8) (k N : Nat) (hk : k = min l.length 3) (hN : N < 16777216) (_ : Bool) (A : List UInt8) (hA : A.length < 100000000) :
    ∀ d i : Nat, i + d = 4 → ∀ (B : List UInt8), B.length = i → ∀ f, ∃ f', b64_Encode_L3 l (N : Int) (i : Int) f (s2b (A ++ B)) =
      some (f', s2b (A ++ B ++ (([dgP (N / 262144 % 64), (if 1 ≤ k then dgP (N / 4096 % 64) else 61), (if 2 ≤ k then dgP (N / 64 % 64) else 61), (if 3 ≤ k then dgP (N % 64) else 61)] : List UInt8).drop i))) := by
  have hm := minI3 l k hk
  intro d
  induction d with
  | zero =>
    intro i hi B hB f
    obtain rfl : i = 4 := by omega
    refine ⟨f, ?_⟩
    rw [b64_Encode_L3, show decide (((4 : Nat) : Int) < 4) = false from by decide]
    simp
  | succ d ih =>
    intro i hi B hB f
    have step : ∀ c : UInt8, ([dgP (N / 262144 % 64), (if 1 ≤ k then dgP (N / 4096 % 64) else 61), (if 2 ≤ k then dgP (N / 64 % 64) else 61), (if 3 ≤ k then dgP (N % 64) else 61)] : List UInt8).drop i = c :: ([dgP (N / 262144 % 64), (if 1 ≤ k then dgP (N / 4096 % 64) else 61), (if 2 ≤ k then dgP (N / 64 % 64) else 61), (if 3 ≤ k then dgP (N % 64) else 61)] : List UInt8).drop (i + 1) →
        ∃ f', b64_Encode_L3 l (N : Int) ((i + 1 : Nat) : Int) true (s2b (A ++ B) ++ [(c.toNat : Int)]) = some (f', s2b (A ++ B ++ (([dgP (N / 262144 % 64), (if 1 ≤ k then dgP (N / 4096 % 64) else 61), (if 2 ≤ k then dgP (N / 64 % 64) else 61), (if 3 ≤ k then dgP (N % 64) else 61)] : List UInt8).drop i))) := fun c hc => by
      obtain ⟨f', h⟩ := ih (i + 1) (by omega) (B ++ [c]) (by simp [hB]) true
      refine ⟨f', ?_⟩
      rw [s2b_one, hc, List.append_assoc A B [c], h]
      simp
    have hAB : (s2b (A ++ B)).length < 1000000000 := by rw [s2b_len, List.length_append]; omega
    have dig : ∀ (s p : Nat), wr (18 - (wr (6 * (i : Int)))) = (s : Int) → s ≤ 18 → p = 2 ^ s → (need (0 ≤ (wr (18 - (wr (6 * (i : Int)))))) >>= fun _ =>
      b64_digit (bits .and .u32 ((N : Int).fdiv (2 ^ (min (wr (18 - (wr (6 * (i : Int))))).toNat (IntKind.u32.bits)))) 63)) = some ((dgP (N / p % 64)).toNat : Int) := fun s p hs h18 hp => by
      have e : min ((s : Int)).toNat (IntKind.u32.bits) = s := by
        show min s 32 = s
        omega
      rw [hs, need_ok (by omega), bind_some', e, show (2 : Int) ^ s = ((p : Nat) : Int) by rw [hp]; simp, fdN, and63u _ (by have := Nat.div_le_self N p; omega), b64d _ (Nat.mod_lt _ (by omega))]
    rw [b64_Encode_L3, hm, show decide ((i : Int) < 4) = true from decide_eq_true (by omega), if_pos rfl]
    by_cases hik : k < i
    · rw [decide_eq_true (show (i : Int) > (k : Int) by omega), if_pos rfl]
      have hw := wb2 61 f _ hAB
      have e61 : (61 : Int) = ((61 : UInt8).toNat : Int) := rfl
      rw [hw, bind_some', wr_succ (by omega)]
      simp only
      rw [e61]
      refine step 61 ?_
      obtain rfl | rfl | rfl : i = 1 ∨ i = 2 ∨ i = 3 := by omega
      · simp [show ¬ 1 ≤ k by omega]
      · simp [show ¬ 2 ≤ k by omega]
      · simp [show ¬ 3 ≤ k by omega]
    · rw [decide_eq_false (show ¬ (i : Int) > (k : Int) by omega), if_neg (by decide)]
      have fin : ∀ (s p : Nat), wr (18 - (wr (6 * (i : Int)))) = (s : Int) → s ≤ 18 → p = 2 ^ s → ([dgP (N / 262144 % 64), (if 1 ≤ k then dgP (N / 4096 % 64) else 61), (if 2 ≤ k then dgP (N / 64 % 64) else 61), (if 3 ≤ k then dgP (N % 64) else 61)] : List UInt8).drop i = dgP (N / p % 64) :: ([dgP (N / 262144 % 64), (if 1 ≤ k then dgP (N / 4096 % 64) else 61), (if 2 ≤ k then dgP (N / 64 % 64) else 61), (if 3 ≤ k then dgP (N % 64) else 61)] : List UInt8).drop (i + 1) → ∃ f', (need (0 ≤ (wr (18 - (wr (6 * (i : Int)))))) >>= fun _ =>
      b64_digit (bits .and .u32 ((N : Int).fdiv (2 ^ (min (wr (18 - (wr (6 * (i : Int))))).toNat (IntKind.u32.bits)))) 63) >>= fun x6 =>
      strings_Builder_WriteByte_2 x6 f (s2b (A ++ B)) >>= fun x7 =>
      b64_Encode_L3 l (N : Int) (wr ((i : Int) + 1)) x7.2.1 x7.2.2) = some (f', s2b (A ++ B ++ (([dgP (N / 262144 % 64), (if 1 ≤ k then dgP (N / 4096 % 64) else 61), (if 2 ≤ k then dgP (N / 64 % 64) else 61), (if 3 ≤ k then dgP (N % 64) else 61)] : List UInt8).drop i))) := fun s p hs h18 hp hd => by
        have h := dig s p hs h18 hp
        rw [hs, need_ok (by omega), bind_some'] at h
        rw [hs, need_ok (by omega), bind_some', h, bind_some', wb2 _ f _ hAB, bind_some', wr_succ (by omega)]
        exact step _ hd
      obtain rfl | rfl | rfl | rfl : i = 0 ∨ i = 1 ∨ i = 2 ∨ i = 3 := by omega
      · exact fin 18 262144 (by decide) (by omega) rfl rfl
      · exact fin 12 4096 (by decide) (by omega) rfl (by simp [show 1 ≤ k by omega])
      · exact fin 6 64 (by decide) (by omega) rfl (by simp [show 2 ≤ k by omega])
      · exact fin 0 1 (by decide) (by omega) rfl (by simp [show 3 ≤ k by omega])
theorem tE1 : ∀ (l : List UInt8) (f : Bool) (A : List UInt8), A.length + 2 * l.length < 10000000 → ∃ f', b64_Encode_L1 l f (s2b A) = some (f', s2b (A ++ encP l))
  | [], f, A, _ => ⟨f, by rw [b64_Encode_L1]; simp [encP]⟩
  | [a], f, A, h => by
    have ha := a.toNat_lt
    obtain ⟨f1, h1⟩ := tE3 [a] 1 (a.toNat * 65536) (by simp) (by omega) f A (by simp at h; omega) 4 0 rfl [] rfl f
    rw [List.append_nil] at h1
    rw [b64_Encode_L1, show decide ((([a].length : Nat) : Int) > 0) = true from by simp, if_pos rfl, tE2a, bind_some']
    rw [show ((0 : Nat) : Int) = 0 from rfl] at h1
    rw [h1, bind_some', minI3 [a] 1 (by simp), cutL_ok (by omega) (by simp) (by omega), bind_some', b64_Encode_L1]
    refine ⟨f1, ?_⟩
    simp only [encP]
    rw [show a.toNat * 65536 / 262144 % 64 = a.toNat / 4 by omega, show a.toNat * 65536 / 4096 % 64 = a.toNat % 4 * 16 by omega]
    simp
  | [a, b], f, A, h => by
    have ha := a.toNat_lt
    have hb := b.toNat_lt
    obtain ⟨f1, h1⟩ := tE3 [a, b] 2 (a.toNat * 65536 + b.toNat * 256) (by simp) (by omega) f A (by simp at h; omega) 4 0 rfl [] rfl f
    rw [List.append_nil] at h1
    rw [b64_Encode_L1, show decide ((([a, b].length : Nat) : Int) > 0) = true from by simp, if_pos rfl, tE2b, bind_some']
    rw [show ((0 : Nat) : Int) = 0 from rfl] at h1
    rw [h1, bind_some', minI3 [a, b] 2 (by simp), cutL_ok (by omega) (by simp) (by omega), bind_some', b64_Encode_L1]
    refine ⟨f1, ?_⟩
    simp only [encP]
    rw [show (a.toNat * 65536 + b.toNat * 256) / 262144 % 64 = a.toNat / 4 by omega, show (a.toNat * 65536 + b.toNat * 256) / 4096 % 64 = a.toNat % 4 * 16 + b.toNat / 16 by omega, show (a.toNat * 65536 + b.toNat * 256) / 64 % 64 = b.toNat % 16 * 4 by omega]
    simp
  | a :: b :: c :: r, f, A, h => by
    have ha := a.toNat_lt
    have hb := b.toNat_lt
    have hc := c.toNat_lt
    obtain ⟨f1, h1⟩ := tE3 (a :: b :: c :: r) 3 (a.toNat * 65536 + b.toNat * 256 + c.toNat) (by simp) (by omega) f A (by simp at h; omega) 4 0 rfl [] rfl f
    rw [List.append_nil] at h1
    rw [b64_Encode_L1, show decide ((((a :: b :: c :: r).length : Nat) : Int) > 0) = true from decide_eq_true (by simp; omega), if_pos rfl, tE2c, bind_some']
    rw [show ((0 : Nat) : Int) = 0 from rfl] at h1
    rw [h1, bind_some', minI3 (a :: b :: c :: r) 3 (by simp), cutL_ok (by omega) (by simp; omega) (by omega), bind_some']
    have e : ((a :: b :: c :: r).take (((a :: b :: c :: r).length : Nat) : Int).toNat).drop ((3 : Nat) : Int).toNat = r := by rw [Int.toNat_natCast, Int.toNat_natCast, List.take_length]; rfl
    rw [e, show (a.toNat * 65536 + b.toNat * 256 + c.toNat) / 262144 % 64 = a.toNat / 4 by omega, show (a.toNat * 65536 + b.toNat * 256 + c.toNat) / 4096 % 64 = a.toNat % 4 * 16 + b.toNat / 16 by omega, show (a.toNat * 65536 + b.toNat * 256 + c.toNat) / 64 % 64 = b.toNat % 16 * 4 + c.toNat / 64 by omega, show (a.toNat * 65536 + b.toNat * 256 + c.toNat) % 64 = c.toNat % 64 by omega]
    obtain ⟨f2, h2⟩ := tE1 r f1 (A ++ [dgP (a.toNat / 4), dgP (a.toNat % 4 * 16 + b.toNat / 16), dgP (b.toNat % 16 * 4 + c.toNat / 64), dgP (c.toNat % 64)]) (by simp at h ⊢; omega)
    refine ⟨f2, ?_⟩
    simp only [encP, Nat.le_refl, if_true, show (1 : Nat) ≤ 3 from by omega, show (2 : Nat) ≤ 3 from by omega, List.drop_zero]
    rw [h2]
    simp
theorem tEnc (l : List UInt8) (h : l.length ≤ 1000000) : b64_Encode l = some (encP l) := by
  obtain ⟨f, h1⟩ := tE1 l false [] (by simp; omega)
  rw [List.nil_append] at h1
  rw [b64_Encode]
  have e : b64_Encode_L1 l false [] = some (f, s2b (encP l)) := h1
  rw [e, bind_some', sstr4, bind_some']
end Go.Proofs.YtagokkpnfceidaaDoor
end

section
namespace Go.Proofs.YtagokkpnfceidaaDoor
open Go.RowKit

theorem eqN' (n k : Nat) : ((n : Int) == (k : Int)) = (n == k) := by
  by_cases h : n = k
  · subst h; simp
  · rw [beq_eq_false_iff_ne.2 h, beq_eq_false_iff_ne.2 (by omega)]
theorem worthF : ∀ c : Fin 256, b64_worth ((c.1 : Nat) : Int) = some (match dvP (UInt8.ofNat c.1) with | some n => ((n : Int), true) | none => (0, false)) := by decide +kernel
theorem worth (c : UInt8) : b64_worth (c.toNat : Int) = some (match dvP c with | some n => ((n : Int), true) | none => (0, false)) := by
  have := worthF ⟨c.toNat, c.toNat_lt⟩
  simp only [UInt8.ofNat_toNat] at this
  exact this
theorem eq61 (c : UInt8) : ((c.toNat : Int) == 61) = decide (c = 61) := by
  have h := beqB c 61
  rw [show (((61 : UInt8).toNat : Nat) : Int) = 61 from rfl] at h
  rw [h]
  by_cases e : c = 61
  · rw [e]; rfl
  · rw [beq_eq_false_iff_ne.2 e, decide_eq_false e]
/-- How many of the four are digits. -/
def kF (y z : UInt8) (last : Bool) : Nat := if last = true ∧ z = 61 then (if y = 61 then 2 else 3) else 4
theorem wr41 : wr (4 - 1) = 3 := by decide
theorem wr31 : wr (3 - 1) = 2 := by decide
theorem tF1 (w x y z : UInt8) (last : Bool) : b64_four_L1 [w, x, y, z] last 4 = some (kF y z last : Int) := by
  rw [b64_four_L1]
  cases last with
  | false => rfl
  | true =>
    simp only [if_true, show decide ((4 : Int) > 2) = true from by decide, wr41, idx_3, List.getElem?_cons_succ, List.getElem?_cons_zero, bind_some', eq61]
    by_cases hz : z = 61
    · rw [decide_eq_true hz, if_pos rfl, b64_four_L1]
      simp only [if_true, show decide ((3 : Int) > 2) = true from by decide, wr31, idx_2, List.getElem?_cons_succ, List.getElem?_cons_zero, bind_some', eq61]
      by_cases hy : y = 61
      · rw [decide_eq_true hy, if_pos rfl, b64_four_L1]
        simp only [if_true, show decide ((2 : Int) > 2) = false from by decide, Bool.false_eq_true, if_false, bind_some']
        rw [kF, if_pos ⟨rfl, hz⟩, if_pos hy]; rfl
      · rw [decide_eq_false hy, if_neg (by decide), kF, if_pos ⟨rfl, hz⟩, if_neg hy]; rfl
    · rw [decide_eq_false hz, if_neg (by decide), kF, if_neg (fun h => hz h.2)]; rfl
/-- The number of four digits, k of them read. -/
def numF : Nat → List UInt8 → Nat → Nat → Option Nat
  | _, [], _, v => some v
  | k, c :: r, i, v => if k ≤ i then numF k r (i + 1) (v * 64) else match dvP c with
    | some n => numF k r (i + 1) (v * 64 + n)
    | none => none
theorem dv_lt {c : UInt8} {n : Nat} (h : dvP c = some n) : n < 64 := (dg_dv h).1
theorem tF2 (l : List UInt8) (hl : l.length = 4) (k : Nat) : ∀ d i v : Nat, i + d = 4 → v < 64 ^ i → b64_four_L2 l (k : Int) (v : Int) (i : Int) = some (match numF k (l.drop i) i v with | some n => .inl (n : Int) | none => .inr ()) := by
  intro d
  induction d with
  | zero =>
    intro i v hi hv
    obtain rfl : i = 4 := by omega
    rw [b64_four_L2, show decide (((4 : Nat) : Int) < 4) = false from by decide, if_neg (by decide), List.drop_eq_nil_of_le (by omega), numF]
  | succ d ih =>
    intro i v hi hv
    have hil : i < l.length := by omega
    have h3 : 64 ^ i ≤ 64 ^ 3 := Nat.pow_le_pow_right (by omega) (by omega)
    have hv2 : v < 262144 := by omega
    have h64 : 64 ^ (i + 1) = 64 ^ i * 64 := Nat.pow_succ 64 i
    rw [b64_four_L2, show decide ((i : Int) < 4) = true from decide_eq_true (by omega), if_pos rfl, sh6 _ hv2, wr_succ (by omega), dropE hil, numF]
    by_cases hk : k ≤ i
    · rw [decide_eq_true (show (i : Int) ≥ (k : Int) by omega), if_pos rfl, if_pos hk, ih (i + 1) (v * 64) (by omega) (by omega)]
    · rw [decide_eq_false (show ¬ (i : Int) ≥ (k : Int) by omega), if_neg (by decide), if_neg hk, idx_nat, getE hil, bind_some', worth, bind_some']
      cases hd : dvP l[i] with
      | none => rfl
      | some n =>
        have hn := dv_lt hd
        simp only [Bool.not_true, Bool.false_eq_true, if_false]
        rw [or6 _ _ hv2 hn, ih (i + 1) (v * 64 + n) (by omega) (by omega)]
theorem numF_lt (k : Nat) : ∀ (l : List UInt8) (i v n : Nat), numF k l i v = some n → n < (v + 1) * 64 ^ l.length
  | [], i, v, n, h => by simp only [numF, Option.some.injEq] at h; subst h; simp
  | c :: r, i, v, n, h => by
    rw [numF] at h
    have e : 64 ^ (c :: r).length = 64 * 64 ^ r.length := by rw [List.length_cons, Nat.pow_succ, Nat.mul_comm]
    have key : ∀ x, x < 64 → n < (v * 64 + x + 1) * 64 ^ r.length → n < (v + 1) * 64 ^ (c :: r).length := fun x hx hn => by
      rw [e, ← Nat.mul_assoc]
      refine Nat.lt_of_lt_of_le hn (Nat.mul_le_mul_right _ (by omega))
    split at h
    · exact key 0 (by omega) (numF_lt k r _ _ _ h)
    · split at h
      · rename_i m hm
        exact key m (dv_lt hm) (numF_lt k r _ _ _ h)
      · cases h
theorem fdc (n k : Nat) (hk : k ≤ 16) : (n : Int).fdiv (2 ^ (min ((k : Int)).toNat (IntKind.u32.bits))) = ((n / 2 ^ k : Nat) : Int) := by
  have e : min ((k : Int)).toNat (IntKind.u32.bits) = k := by
    show min k 32 = k
    omega
  rw [e, show (2 : Int) ^ k = ((2 ^ k : Nat) : Int) by simp, fdN]
theorem b2s3 (a b c : Nat) (ha : a < 256) (hb : b < 256) (hc : c < 256) : b2s [(a : Int), (b : Int), (c : Int)] = some [UInt8.ofNat a, UInt8.ofNat b, UInt8.ofNat c] := by
  have := b2s_ok [a, b, c] (by simp; omega)
  simpa using this
/-- What four hands back of a number. -/
theorem tF3 (n k : Nat) (hn : n < 16777216) (h2 : 2 ≤ k) (h4 : k ≤ 4) :
    (b2s [(IntKind.u8.wrap ((n : Int).fdiv (2 ^ (min (16 : Int).toNat (IntKind.u32.bits))))), (IntKind.u8.wrap ((n : Int).fdiv (2 ^ (min (8 : Int).toNat (IntKind.u32.bits))))), (IntKind.u8.wrap (n : Int))] >>= fun x9 =>
    cutL x9 0 (wr ((k : Int) - 1)) >>= fun x10 =>
    need (0 ≤ (wr (8 * (wr (4 - (k : Int)))))) >>= fun _ =>
    some (x10, ((bits .and .u32 (n : Int) (IntKind.u32.wrap ((IntKind.u32.wrap (1 * 2 ^ (min (wr (8 * (wr (4 - (k : Int))))).toNat (IntKind.u32.bits)))) - 1))) == 0))) =
    some (([UInt8.ofNat (n / 65536), UInt8.ofNat (n / 256 % 256), UInt8.ofNat (n % 256)] : List UInt8).take (k - 1), decide (n % 2 ^ (8 * (4 - k)) = 0)) := by
  have f16 := fdc n 16 (by omega)
  have f8 := fdc n 8 (by omega)
  rw [show ((16 : Nat) : Int) = 16 from rfl] at f16
  rw [show ((8 : Nat) : Int) = 8 from rfl] at f8
  rw [f16, f8, u8m, u8m, u8m, show n / 2 ^ 16 % 256 = n / 65536 by omega, show n / 2 ^ 8 % 256 = n / 256 % 256 by omega, b2s3 _ _ _ (by omega) (by omega) (by omega), bind_some']
  match k, h2, h4 with
  | 2, _, _ =>
    have a := and65535u n (by omega)
    rw [show wr (((2 : Nat) : Int) - 1) = 1 from by decide, cutL_ok (by omega) (by omega) (by simp), bind_some', need_ok (by decide), bind_some', show IntKind.u32.wrap ((IntKind.u32.wrap (1 * 2 ^ (min (wr (8 * (wr (4 - ((2 : Nat) : Int))))).toNat (IntKind.u32.bits)))) - 1) = 65535 from by decide, a]
    have e : (((n % 65536 : Nat) : Int) == 0) = decide (n % 2 ^ (8 * (4 - 2)) = 0) := by
      rw [show (0 : Int) = ((0 : Nat) : Int) from rfl, Bool.eq_iff_iff, beq_iff_eq, decide_eq_true_iff]
      omega
    rw [e]; rfl
  | 3, _, _ =>
    have a := and255u n (by omega)
    rw [show wr (((3 : Nat) : Int) - 1) = 2 from by decide, cutL_ok (by omega) (by omega) (by simp), bind_some', need_ok (by decide), bind_some', show IntKind.u32.wrap ((IntKind.u32.wrap (1 * 2 ^ (min (wr (8 * (wr (4 - ((3 : Nat) : Int))))).toNat (IntKind.u32.bits)))) - 1) = 255 from by decide, a]
    have e : (((n % 256 : Nat) : Int) == 0) = decide (n % 2 ^ (8 * (4 - 3)) = 0) := by
      rw [show (0 : Int) = ((0 : Nat) : Int) from rfl, Bool.eq_iff_iff, beq_iff_eq, decide_eq_true_iff]
      omega
    rw [e]; rfl
  | 4, _, _ =>
    have a := and0u n (by omega)
    rw [show wr (((4 : Nat) : Int) - 1) = 3 from by decide, cutL_ok (by omega) (by omega) (by simp), bind_some', need_ok (by decide), bind_some', show IntKind.u32.wrap ((IntKind.u32.wrap (1 * 2 ^ (min (wr (8 * (wr (4 - ((4 : Nat) : Int))))).toNat (IntKind.u32.bits)))) - 1) = 0 from by decide, a]
    have e : n % 2 ^ (8 * (4 - 4)) = 0 := by omega
    rw [decide_eq_true e]; rfl
theorem kF_rng (y z : UInt8) (last : Bool) : 2 ≤ kF y z last ∧ kF y z last ≤ 4 := by
  unfold kF; split
  · split <;> omega
  · omega
theorem tFour (w x y z : UInt8) (last : Bool) : ∃ u b, b64_four [w, x, y, z] last = some (u, b) ∧ fourP w x y z last = if b = true then some u else none := by
  have hk := kF_rng y z last
  have h2 := tF2 [w, x, y, z] rfl (kF y z last) 4 0 0 rfl (by omega)
  rw [List.drop_zero, show ((0 : Nat) : Int) = 0 from rfl] at h2
  rw [b64_four, tF1, bind_some', h2, bind_some']
  cases hn : numF (kF y z last) [w, x, y, z] 0 0 with
  | none =>
    refine ⟨[], false, rfl, ?_⟩
    rw [if_neg (by decide)]
    simp only [numF] at hn
    rw [fourP]
    rw [if_neg (by omega)] at hn
    cases hw : dvP w with
    | none => rfl
    | some a =>
      rw [hw] at hn
      simp only at hn
      rw [if_neg (by omega)] at hn
      cases hx : dvP x with
      | none => rfl
      | some b =>
        rw [hx] at hn
        simp only at hn ⊢
        by_cases hl : last = true ∧ z = 61
        · rw [if_pos hl]
          by_cases hy : y = 61
          · have e : kF y z last = 2 := by rw [kF, if_pos hl, if_pos hy]
            rw [e] at hn; simp at hn
          · have e : kF y z last = 3 := by rw [kF, if_pos hl, if_neg hy]
            rw [e] at hn
            rw [if_neg hy]
            cases hd : dvP y with
            | none => rfl
            | some c => rw [hd] at hn; simp at hn
        · have e : kF y z last = 4 := by rw [kF, if_neg hl]
          rw [e] at hn
          rw [if_neg hl]
          cases hd : dvP y with
          | none => rfl
          | some c =>
            rw [hd] at hn
            cases hdz : dvP z with
            | none => rfl
            | some d => rw [hdz] at hn; simp at hn
  | some n =>
    have hlt : n < 16777216 := by have := numF_lt _ _ _ _ _ hn; simpa using this
    simp only
    rw [tF3 n _ hlt hk.1 hk.2]
    refine ⟨_, _, rfl, ?_⟩
    simp only [numF] at hn
    rw [if_neg (by omega)] at hn
    rw [fourP]
    cases hw : dvP w with
    | none => rw [hw] at hn; cases hn
    | some a =>
      rw [hw] at hn
      simp only at hn
      rw [if_neg (by omega)] at hn
      cases hx : dvP x with
      | none => rw [hx] at hn; cases hn
      | some b =>
        have ha := dv_lt hw
        have hb := dv_lt hx
        rw [hx] at hn
        simp only at hn ⊢
        by_cases hl : last = true ∧ z = 61
        · rw [if_pos hl]
          by_cases hy : y = 61
          · have e : kF y z last = 2 := by rw [kF, if_pos hl, if_pos hy]
            rw [e] at hn ⊢
            simp only [show (2 : Nat) ≤ 0 + 1 + 1 from by omega, show (2 : Nat) ≤ 0 + 1 + 1 + 1 from by omega, if_true, Option.some.injEq] at hn
            rw [if_pos hy]
            subst hn
            by_cases h16 : b % 16 = 0
            · rw [if_pos h16, if_pos (decide_eq_true (by omega))]
              simp only [Option.some.injEq]
              show _ = [UInt8.ofNat (_ / 65536)]
              congr 2; omega
            · rw [if_neg h16, if_neg (by rw [decide_eq_true_iff]; omega)]
          · have e : kF y z last = 3 := by rw [kF, if_pos hl, if_neg hy]
            rw [e] at hn ⊢
            rw [if_neg hy]
            cases hd : dvP y with
            | none => rw [hd] at hn; simp at hn
            | some c =>
              have hc := dv_lt hd
              rw [hd] at hn
              simp only [show ¬ (3 : Nat) ≤ 0 + 1 + 1 from by omega, show (3 : Nat) ≤ 0 + 1 + 1 + 1 from by omega, if_true, if_false, Option.some.injEq] at hn
              subst hn
              simp only
              by_cases h4 : c % 4 = 0
              · rw [if_pos h4, if_pos (decide_eq_true (by omega))]
                simp only [Option.some.injEq]
                show _ = [UInt8.ofNat (_ / 65536), UInt8.ofNat (_ / 256 % 256)]
                congr 2
                · omega
                · congr 2; omega
              · rw [if_neg h4, if_neg (by rw [decide_eq_true_iff]; omega)]
        · have e : kF y z last = 4 := by rw [kF, if_neg hl]
          rw [e] at hn ⊢
          rw [if_neg hl]
          cases hd : dvP y with
          | none => rw [hd] at hn; simp at hn
          | some c =>
            have hc := dv_lt hd
            rw [hd] at hn
            cases hdz : dvP z with
            | none => rw [hdz] at hn; simp at hn
            | some d =>
              have hd2 := dv_lt hdz
              rw [hdz] at hn
              simp only [show ¬ (4 : Nat) ≤ 0 + 1 + 1 from by omega, show ¬ (4 : Nat) ≤ 0 + 1 + 1 + 1 from by omega, if_false, Option.some.injEq] at hn
              subst hn
              rw [if_pos (decide_eq_true (by omega))]
              simp only [Option.some.injEq]
              rw [show ((((0 * 64 + a) * 64 + b) * 64 + c) * 64 + d) / 65536 = a * 4 + b / 16 by omega, show ((((0 * 64 + a) * 64 + b) * 64 + c) * 64 + d) / 256 % 256 = b % 16 * 16 + c / 4 by omega, show ((((0 * 64 + a) * 64 + b) * 64 + c) * 64 + d) % 256 = c % 4 * 64 + d by omega]
              rfl
theorem fourP_len {w x y z : UInt8} {last : Bool} {u : List UInt8} (h : fourP w x y z last = some u) : u.length ≤ 3 := by
  rw [fourP] at h
  split at h
  · split at h
    · split at h
      · split at h
        · cases h; simp
        · cases h
      · split at h
        · split at h
          · cases h; simp
          · cases h
        · cases h
    · split at h
      · cases h; simp
      · cases h
  · cases h
theorem tD1 (s : List UInt8) (hs : s.length ≤ 1000000) : ∀ n k : Nat, s.length - k ≤ n → k ≤ s.length → (s.length - k) % 4 = 0 → ∀ (f : Bool) (A : List UInt8), A.length ≤ k →
    (∃ f' t, decP (s.drop k) = some t ∧ b64_Decode_L1 s (k : Int) f (s2b A) = some (.inl (f', s2b (A ++ t)))) ∨ (∃ o, decP (s.drop k) = none ∧ b64_Decode_L1 s (k : Int) f (s2b A) = some (.inr o)) := by
  intro n
  induction n with
  | zero =>
    intro k h1 h2 _ f A _
    obtain rfl : k = s.length := by omega
    refine .inl ⟨f, [], by rw [List.drop_length]; rfl, ?_⟩
    rw [b64_Decode_L1, ltI, decide_eq_false (by omega), if_neg (by decide), List.append_nil]
  | succ n ih =>
    intro k h1 h2 h4 f A hA
    by_cases hk : k = s.length
    · subst hk
      refine .inl ⟨f, [], by rw [List.drop_length]; rfl, ?_⟩
      rw [b64_Decode_L1, ltI, decide_eq_false (by omega), if_neg (by decide), List.append_nil]
    · have hk4 : k + 4 ≤ s.length := by omega
      obtain ⟨w, x, y, z, r, hd⟩ : ∃ w x y z r, s.drop k = w :: x :: y :: z :: r := by
        have hl : (s.drop k).length = s.length - k := List.length_drop
        match hq : s.drop k with
        | [] => rw [hq] at hl; simp at hl; omega
        | [a] => rw [hq] at hl; simp at hl; omega
        | [a, b] => rw [hq] at hl; simp at hl; omega
        | [a, b, c] => rw [hq] at hl; simp at hl; omega
        | w :: x :: y :: z :: r => exact ⟨w, x, y, z, r, rfl⟩
      have hr : s.drop (k + 4) = r := by rw [← List.drop_drop, hd]; rfl
      have e4 : wr ((k : Int) + 4) = ((k + 4 : Nat) : Int) := by rw [wr_in (by omega) (by omega)]; rfl
      have ec : (s.take (k + 4)).drop k = [w, x, y, z] := by
        rw [List.drop_take, show k + 4 - k = 4 by omega, hd]; rfl
      have elast : ((((k + 4 : Nat) : Int)) == (s.length : Int)) = r.isEmpty := by
        have hl : r.length = s.length - (k + 4) := by rw [← hr, List.length_drop]
        rw [eqN' (k + 4) s.length]
        cases r with
        | nil => simp at hl; rw [beq_iff_eq.2 (by omega)]; rfl
        | cons c r => rw [List.length_cons] at hl; rw [beq_eq_false_iff_ne.2 (by omega)]; rfl
      obtain ⟨u, b, hu, hf⟩ := tFour w x y z r.isEmpty
      rw [b64_Decode_L1, ltI, decide_eq_true (by omega), if_pos rfl, e4, cutL_ok (by omega) (by omega) (by omega), bind_some', Int.toNat_natCast, Int.toNat_natCast, ec, elast, hu, bind_some', hd, decP, hf]
      cases b with
      | false =>
        rw [if_neg (by decide)]
        refine .inr ⟨(f, s2b A), by simp [app2], ?_⟩
        rfl
      | true =>
        rw [if_pos rfl] at hf ⊢
        have hul := fourP_len hf
        simp only [Bool.not_true, Bool.false_eq_true, if_false]
        rw [ws5 _ _ _ (by rw [s2b_len]; omega), bind_some', ← s2b_app]
        rcases ih (k + 4) (by omega) (by omega) (by omega) true (A ++ u) (by rw [List.length_append]; omega) with ⟨f', t, g1, g2⟩ | ⟨o, g1, g2⟩
        · rw [hr] at g1
          refine .inl ⟨f', u ++ t, by rw [g1]; rfl, ?_⟩
          simp only
          rw [g2, List.append_assoc]
        · rw [hr] at g1
          refine .inr ⟨o, by rw [g1]; rfl, ?_⟩
          simp only
          rw [g2]
theorem tDec (s : List UInt8) (hs : s.length ≤ 1000000) : b64_Decode s = some (match decP s with | some t => (t, 0) | none => ([], 7)) := by
  have em : ((s.length : Int).tmod 4 != 0) = !(decide (s.length % 4 = 0)) := by
    rw [show (4 : Int) = ((4 : Nat) : Int) from rfl, tm]
    by_cases h : s.length % 4 = 0
    · rw [decide_eq_true h, h]; rfl
    · rw [decide_eq_false h]
      show (!((((s.length % 4 : Nat) : Int)) == 0)) = true
      rw [beq_eq_false_iff_ne.2 (by omega)]; rfl
  rw [b64_Decode, em]
  by_cases h : s.length % 4 = 0
  · rw [decide_eq_true h]
    simp only [Bool.not_true, Bool.false_eq_true, if_false]
    have hd := tD1 s hs s.length 0 (by omega) (by omega) (by omega) false [] (by simp)
    rw [List.drop_zero] at hd
    have e0 : s2b ([] : List UInt8) = [] := rfl
    rw [e0, show ((0 : Nat) : Int) = 0 from rfl] at hd
    rcases hd with ⟨f', t, g1, g2⟩ | ⟨o, g1, g2⟩
    · rw [g2, bind_some', g1]
      simp only
      rw [sstr4]; rfl
    · rw [g2, bind_some', g1]
  · rw [decide_eq_false h]
    simp only [Bool.not_false, if_true]
    cases hd : decP s with
    | none => rfl
    | some t =>
      have e := congrArg List.length (enc_dec s t hd)
      rw [encP_len] at e
      omega
end Go.Proofs.YtagokkpnfceidaaDoor
end

section
namespace Go.Proofs.YtagokkpnfceidaaDoor
open Go.RowKit

def iL (l : List Nat) : List Int := l.map fun x : Nat => (x : Int)
theorem iL_len (a : List Nat) : (iL a).length = a.length := by simp [iL]
end Go.Proofs.YtagokkpnfceidaaDoor
end

section
namespace Go.Proofs.YtagokkpnfceidaaDoor
open Go.RowKit

def wordOK (w : List UInt8) : Prop := 1 ≤ w.length ∧ w.length ≤ 72 ∧ ∀ c ∈ w, 33 ≤ c.toNat ∧ c.toNat ≤ 126
theorem clean_mid : ∀ (p x : List UInt8), cleanP (p ++ x) = true → x ≠ [] → eqq x = false
  | [], x, h, hx => by
    cases x with
    | nil => exact absurd rfl hx
    | cons c r =>
      simp only [List.nil_append, cleanP, Bool.and_eq_true] at h
      have := h.2.1
      revert this
      cases eqq (c :: r) <;> simp
  | c :: p, x, h, hx => by
    simp only [List.cons_append, cleanP, Bool.and_eq_true] at h
    exact clean_mid p x h.2.2 hx
theorem clean_shown : ∀ (l : List UInt8), cleanP l = true → ∀ c ∈ l, 32 ≤ c.toNat ∧ c.toNat ≤ 126
  | [], _, c, h => by simp at h
  | a :: l, h, c, hc => by
    simp only [cleanP, shownB, Bool.and_eq_true, decide_eq_true_eq] at h
    rcases List.mem_cons.1 hc with rfl | hc
    · exact h.1
    · exact clean_shown l h.2.2 c hc
theorem cutS_infix (b : UInt8) : ∀ l : List UInt8, ∀ w ∈ cutS b l, ∃ p q, l = p ++ (w ++ q)
  | [], w, hw => by simp only [cutS, List.mem_singleton] at hw; subst hw; exact ⟨[], [], rfl⟩
  | a :: t, w, hw => by
    have tl : ∀ w ∈ cutS b t, ∃ p q, a :: t = p ++ (w ++ q) := fun w hw => by
      obtain ⟨p, q, e⟩ := cutS_infix b t w hw
      exact ⟨a :: p, q, by rw [List.cons_append, ← e]⟩
    rw [cutS] at hw
    split at hw
    · rcases List.mem_cons.1 hw with rfl | hw
      · exact ⟨[], a :: t, rfl⟩
      · exact tl w hw
    · split at hw
      · rename_i x r hcut
        rcases List.mem_cons.1 hw with rfl | hw
        · have e := cutS_join b t x r hcut
          exact ⟨[], r.flatMap (fun w => b :: w), by rw [List.nil_append, List.cons_append, e]⟩
        · exact tl w (by rw [hcut]; simp [hw])
      · simp only [List.mem_singleton] at hw
        subst hw
        exact ⟨[], t, rfl⟩
theorem toNat_ne {c : UInt8} {k : Nat} (_ : k < 256) (h : c ≠ UInt8.ofNat k) : c.toNat ≠ k := by
  intro e
  apply h
  rw [← e, UInt8.ofNat_toNat]
theorem plain_words {v : List UInt8} (h : plainF 0 v = true) : ∀ w ∈ cutS 32 v, wordOK w ∧ eqq w = false := by
  rw [plain_cut, Bool.and_eq_true, List.all_eq_true] at h
  intro w hw
  have hs := h.1 w hw
  simp only [sizeB, Bool.and_eq_true, decide_eq_true_eq] at hs
  refine ⟨⟨hs.1, by omega, fun c hc => ?_⟩, ?_⟩
  · obtain ⟨h1, h2⟩ := cutS_mem 32 v w hw c hc
    have := clean_shown v h.2 c h1
    have h3 : c.toNat ≠ 32 := toNat_ne (by omega) h2
    omega
  · obtain ⟨p, q, e⟩ := cutS_infix 32 v w hw
    have hne : w ++ q ≠ [] := by
      intro e2
      have := congrArg List.length e2
      simp at this
      have := hs.1
      simp_all
    have h2 := h.2
    rw [e] at h2
    have := clean_mid p (w ++ q) h2 hne
    match w, this with
    | [], _ => rfl
    | [a], h => simp [eqq, List.isPrefixOf]
    | a :: b :: r, h => simpa [eqq, List.isPrefixOf] using h
theorem coded_len (g : List UInt8) : (codedP g).length = 12 + 4 * ((g.length + 2) / 3) := by
  unfold codedP frontB
  simp only [List.length_append, List.length_cons, List.length_nil, encP_len]
  omega
theorem coded_ok {g : List UInt8} (h : g.length ≤ 45) : wordOK (codedP g) := by
  have hl := coded_len g
  refine ⟨by omega, by omega, fun c hc => ?_⟩
  unfold codedP at hc
  rcases List.mem_append.1 hc with hc | hc
  · rcases List.mem_append.1 hc with hc | hc
    · have : ∀ c ∈ frontB, 33 ≤ c.toNat ∧ c.toNat ≤ 126 := by decide
      exact this c hc
    · exact encP_shown g c hc
  · have : ∀ c ∈ ([63, 61] : List UInt8), 33 ≤ c.toNat ∧ c.toNat ≤ 126 := by decide
    exact this c hc
theorem plainP_ne {v : List UInt8} (h0 : v ≠ []) : plainP v = plainF 0 v := by
  unfold plainP
  rw [beq_eq_false_iff_ne.2 h0]; rfl
theorem groups_ok (v : List UInt8) : ∀ g ∈ groupsP [] ((runesP v).map rb4), g.length ≤ 45 :=
  groups_len _ _ (by simp) (fun b hb => by obtain ⟨n, _, rfl⟩ := List.mem_map.1 hb; exact (rb4_len n).1)
theorem words_ok (v : List UInt8) : ∀ w ∈ wordsP v, wordOK w := by
  intro w hw
  unfold wordsP at hw
  split at hw
  · simp at hw
  · rename_i h0
    split at hw
    · rename_i hp
      rw [plainP_ne h0] at hp
      exact (plain_words hp w hw).1
    · obtain ⟨g, hg, rfl⟩ := List.mem_map.1 hw
      exact coded_ok (groups_ok v g hg)

def lputP (o : List UInt8 × Nat) (w : List UInt8) : List UInt8 × Nat :=
  if 76 ≤ o.2 + w.length then (o.1 ++ ([13, 10] ++ 32 :: w), 1 + w.length) else (o.1 ++ 32 :: w, o.2 + (1 + w.length))
def writeP (n v : List UInt8) : Option (List UInt8) :=
  if nameP n = true then some (((wordsP v).foldl lputP (n ++ [58], n.length + 1)).1 ++ [13, 10]) else none
def layF : Nat → List (List UInt8) → List UInt8
  | _, [] => []
  | k, w :: r => if 76 ≤ k + w.length then 13 :: 10 :: 32 :: (w ++ layF (1 + w.length) r) else 32 :: (w ++ layF (k + (1 + w.length)) r)
theorem layFold : ∀ (ws : List (List UInt8)) (o : List UInt8 × Nat), (ws.foldl lputP o).1 = o.1 ++ layF o.2 ws
  | [], o => by simp [layF]
  | w :: r, o => by
    rw [List.foldl_cons, layFold r, lputP, layF]
    split <;> simp
theorem name_mem {n : List UInt8} (h : nameP n = true) : 1 ≤ n.length ∧ n.length ≤ 32 ∧ ∀ c ∈ n, 33 ≤ c.toNat ∧ c.toNat ≤ 126 ∧ c.toNat ≠ 58 := by
  simp only [nameP, Bool.and_eq_true, decide_eq_true_eq, List.all_eq_true] at h
  refine ⟨?_, h.2.1, fun c hc => ?_⟩
  · cases n with
    | nil => simp at h
    | cons a r => simp
  · have := h.2.2 c hc
    simp only [nameB, Bool.or_eq_true, Bool.and_eq_true, decide_eq_true_eq, beq_iff_eq] at this
    rcases this with h1 | h1 | h1 | h1
    · omega
    · omega
    · omega
    · subst h1; decide

theorem shown_ne {c : UInt8} (h : 32 ≤ c.toNat) : c ≠ 13 ∧ c ≠ 10 := by
  constructor
  · rintro rfl; exact absurd h (by decide)
  · rintro rfl; exact absurd h (by decide)
def blankB (c : UInt8) : Bool := c == 32 || c == 9
def breakB : List UInt8 → Bool
  | a :: b :: c :: _ => a == 13 && (b == 10 && blankB c)
  | _ => false
def consO (c : UInt8) : Option (List UInt8) → Option (List UInt8)
  | some l => some (c :: l)
  | none => none
def lineF : Bool → List UInt8 → Option (List UInt8)
  | _, [] => some []
  | true, _ :: r => lineF false r
  | false, c :: r => if breakB (c :: r) = true then lineF true r else if c = 13 ∨ c = 10 then none else consO c (lineF false r)
def colP : List UInt8 → Option (List UInt8 × List UInt8)
  | [] => none
  | c :: r => if c = 58 then some ([], r) else match colP r with
    | some p => some (c :: p.1, p.2)
    | none => none
def tabB (c : UInt8) : UInt8 := if c = 9 then 32 else c
def fullB (w : List UInt8) : Bool := !(w == [])
def piecesP (l : List UInt8) : List (List UInt8) := (cutS 32 (l.map tabB)).filter fullB
def inP (w : List UInt8) : Option (List UInt8) := if 12 ≤ w.length ∧ w.take 10 = frontB ∧ w.drop (w.length - 2) = [63, 61] then some ((w.take (w.length - 2)).drop 10) else none
def decodedP (w : List UInt8) : Option (List UInt8) := match inP w with
  | some i => (match decP i with
    | some t => if utfF t.length t = true then some t else none
    | none => none)
  | none => none
def stepV (o : List UInt8 × (Bool × Bool)) (w : List UInt8) : List UInt8 × (Bool × Bool) :=
  match decodedP w with
  | some t => (o.1 ++ ((if o.2.1 = true ∧ o.2.2 = false then [32] else []) ++ t), (true, true))
  | none => (o.1 ++ ((if o.2.1 = true then [32] else []) ++ w), (true, false))
def valueP (ws : List (List UInt8)) : List UInt8 := (ws.foldl stepV ([], (false, false))).1
def cutCR (s : List UInt8) : Option (List UInt8) := if 2 ≤ s.length ∧ s.drop (s.length - 2) = [13, 10] then some (s.take (s.length - 2)) else none
def readP (s : List UInt8) : Option (List UInt8 × List UInt8) := match cutCR s with
  | none => none
  | some a => match lineF false a with
    | none => none
    | some l => match colP l with
      | none => none
      | some p => if nameP p.1 = true then some (p.1, valueP (piecesP p.2)) else none
theorem cutCR_app (a : List UInt8) : cutCR (a ++ [13, 10]) = some a := by
  unfold cutCR
  have e : (a ++ [13, 10]).length - 2 = a.length := by simp
  rw [e, List.drop_left, List.take_left, if_pos ⟨by simp, rfl⟩]
theorem line_app (b : List UInt8) : ∀ a : List UInt8, (∀ c ∈ a, 32 ≤ c.toNat) → lineF false (a ++ b) = match lineF false b with
    | some l => some (a ++ l)
    | none => none
  | [], _ => by rw [List.nil_append]; cases lineF false b <;> rfl
  | c :: a, h => by
    have hc := h c (by simp)
    have hn := shown_ne hc
    have hb : breakB (c :: (a ++ b)) = false := by
      have : (c == 13) = false := by simpa using hn.1
      unfold breakB
      split
      · rename_i heq; simp only [List.cons.injEq] at heq; rw [← heq.1, this]; rfl
      · rfl
    rw [List.cons_append, lineF, hb, if_neg (by decide), if_neg (fun e => e.elim hn.1 hn.2), line_app b a (fun x hx => h x (by simp [hx]))]
    cases lineF false b <;> rfl
theorem line_lay : ∀ (ws : List (List UInt8)) (k : Nat), (∀ w ∈ ws, wordOK w) → lineF false (layF k ws) = some (ws.flatMap (fun w => 32 :: w))
  | [], _, _ => rfl
  | w :: r, k, h => by
    obtain ⟨w1, w2, w3⟩ := h w (by simp)
    have hr : ∀ w ∈ r, wordOK w := fun x hx => h x (by simp [hx])
    have hw : ∀ c ∈ (32 : UInt8) :: w, 32 ≤ c.toNat := fun c hc => by
      rcases List.mem_cons.1 hc with rfl | hc
      · decide
      · have := w3 c hc; omega
    have key : ∀ k', lineF false (32 :: (w ++ layF k' r)) = some ((w :: r).flatMap (fun w => 32 :: w)) := fun k' => by
      rw [show 32 :: (w ++ layF k' r) = (32 :: w) ++ layF k' r by simp, line_app _ _ hw, line_lay r k' hr]
      simp
    rw [layF]
    split
    · have hb : ∀ z : List UInt8, breakB (13 :: 10 :: 32 :: z) = true := fun _ => by simp [breakB, blankB]
      rw [lineF, if_pos (hb _), lineF]
      exact key _
    · exact key _
theorem col_app (b : List UInt8) : ∀ a : List UInt8, (58 : UInt8) ∉ a → colP (a ++ 58 :: b) = some (a, b)
  | [], _ => by rw [List.nil_append, colP, if_pos rfl]
  | c :: a, h => by
    simp only [List.mem_cons, not_or] at h
    rw [List.cons_append, colP, if_neg (fun e => h.1 e.symm), col_app b a h.2]
theorem col_none : ∀ a : List UInt8, (58 : UInt8) ∉ a → colP a = none
  | [], _ => rfl
  | c :: a, h => by
    simp only [List.mem_cons, not_or] at h
    rw [colP, if_neg (fun e => h.1 e.symm), col_none a h.2]
theorem tab_id : ∀ l : List UInt8, (9 : UInt8) ∉ l → l.map tabB = l
  | [], _ => rfl
  | c :: l, h => by
    simp only [List.mem_cons, not_or] at h
    rw [List.map_cons, tab_id l h.2, tabB, if_neg (fun e => h.1 e.symm)]
theorem cut_words : ∀ ws : List (List UInt8), (∀ w ∈ ws, (32 : UInt8) ∉ w) → cutS 32 (ws.flatMap (fun w => 32 :: w)) = [] :: ws
  | [], _ => rfl
  | w :: r, h => by
    have hw := h w (by simp)
    have ih := cut_words r (fun x hx => h x (by simp [hx]))
    rw [List.flatMap_cons, List.cons_append, cutS, if_pos (beq_self_eq_true _)]
    cases r with
    | nil => rw [List.flatMap_nil, List.append_nil, cutS_free 32 w hw]
    | cons x t =>
      rw [List.flatMap_cons, List.cons_append, cutS, if_pos (beq_self_eq_true _)] at ih
      simp only [List.cons.injEq, true_and] at ih
      rw [List.flatMap_cons, List.cons_append, cutS_at 32 _ w hw, ih]
theorem pieces_words (ws : List (List UInt8)) (h : ∀ w ∈ ws, wordOK w) : piecesP (ws.flatMap (fun w => 32 :: w)) = ws := by
  unfold piecesP
  rw [tab_id, cut_words ws]
  · rw [List.filter_cons_of_neg (by simp [fullB]), List.filter_eq_self]
    intro w hw
    have := (h w hw).1
    cases w with
    | nil => simp at this
    | cons a r => rfl
  · intro w hw hc
    have := (h w hw).2.2 32 hc
    exact absurd this.1 (by decide)
  · intro hm
    obtain ⟨w, hw, hm⟩ := List.mem_flatMap.1 hm
    rcases List.mem_cons.1 hm with e | hm
    · exact absurd e (by decide)
    · have := (h w hw).2.2 9 hm
      exact absurd this.1 (by decide)
theorem decoded_coded {g : List UInt8} (h : okU g) : decodedP (codedP g) = some g := by
  have e1 : (codedP g).take 10 = frontB := by
    unfold codedP
    rw [List.append_assoc, List.take_append_of_le_length (by decide)]
    rfl
  have hl : (codedP g).length - 2 = (frontB ++ encP g).length := by unfold codedP; simp only [List.length_append, List.length_cons, List.length_nil]; omega
  have e2 : (codedP g).drop ((codedP g).length - 2) = [63, 61] := by
    rw [hl]; unfold codedP; rw [List.drop_left]
  have e3 : ((codedP g).take ((codedP g).length - 2)).drop 10 = encP g := by
    rw [hl]; unfold codedP; rw [List.take_left]
    exact List.drop_left (l₁ := frontB)
  have h12 : 12 ≤ (codedP g).length := by rw [coded_len]; omega
  unfold decodedP inP
  rw [if_pos ⟨h12, e1, e2⟩, e3]
  simp only [dec_enc, if_pos h]
theorem decoded_plain {w : List UInt8} (h : eqq w = false) : decodedP w = none := by
  unfold decodedP inP
  rw [if_neg]
  rintro ⟨h1, h2, h3⟩
  match w, h, h2, h1 with
  | [], _, h2, h1 => simp at h1
  | [a], _, h2, h1 => simp at h1
  | a :: b :: r, h, h2, _ =>
    simp only [frontB, List.take_succ_cons, List.cons.injEq] at h2
    rw [h2.1, h2.2.1] at h
    simp [eqq, List.isPrefixOf] at h
theorem value_plain : ∀ (ws : List (List UInt8)) (a : List UInt8) (b : Bool), (∀ w ∈ ws, decodedP w = none) → (ws.foldl stepV (a, (true, b))).1 = a ++ ws.flatMap (fun w => 32 :: w)
  | [], a, b, _ => by simp
  | w :: r, a, b, h => by
    rw [List.foldl_cons, stepV, h w (by simp)]
    simp only [if_true]
    rw [value_plain r _ _ (fun x hx => h x (by simp [hx]))]
    simp
theorem value_coded : ∀ (gs : List (List UInt8)) (a : List UInt8), (∀ g ∈ gs, okU g) → ((gs.map codedP).foldl stepV (a, (true, true))).1 = a ++ gs.flatten
  | [], a, _ => by simp
  | g :: r, a, h => by
    rw [List.map_cons, List.foldl_cons, stepV, decoded_coded (h g (by simp))]
    simp only [Bool.true_eq_false, and_false, if_false, List.nil_append]
    rw [value_coded r _ (fun x hx => h x (by simp [hx]))]
    simp
theorem value_words (v : List UInt8) : valueP (wordsP v) = if plainP v = true then v else wholeP v := by
  unfold wordsP
  by_cases h0 : v = []
  · subst h0; rw [if_pos rfl]; rfl
  rw [if_neg h0]
  by_cases hp : plainP v = true
  · rw [if_pos hp, if_pos hp]
    rw [plainP_ne h0] at hp
    have hw := plain_words hp
    cases hc : cutS 32 v with
    | nil => exact absurd hc (cutS_ne _ _)
    | cons x r =>
      rw [hc] at hw
      unfold valueP
      rw [List.foldl_cons, stepV, decoded_plain (hw x (by simp)).2]
      simp only [Bool.false_eq_true, if_false, List.nil_append]
      rw [value_plain r x false (fun w h => decoded_plain (hw w (by simp [h])).2)]
      exact cutS_join 32 v x r hc
  · rw [if_neg hp, if_neg hp]
    have hj := groups_join ((runesP v).map rb4) []
    have hu := groups_runed (runesP v) [] .nil (runesF_rune _ _)
    cases hg : groupsP [] ((runesP v).map rb4) with
    | nil => rw [hg] at hj; exact hj
    | cons g r =>
      rw [hg] at hj hu
      unfold valueP
      rw [List.map_cons, List.foldl_cons, stepV, decoded_coded (hu g (by simp)).okU]
      simp only [Bool.false_eq_true, false_and, if_false, List.nil_append]
      rw [value_coded r g (fun x hx => (hu x (by simp [hx])).okU)]
      rw [List.flatten_cons, List.nil_append] at hj
      rw [hj]; rfl
theorem back {n v s : List UInt8} (h : writeP n v = some s) : readP s = some (n, if plainP v = true then v else wholeP v) := by
  unfold writeP at h
  split at h
  · rename_i hn
    rw [layFold, Option.some.injEq] at h
    subst h
    obtain ⟨n1, n2, n3⟩ := name_mem hn
    have hc : (58 : UInt8) ∉ n := fun e => (n3 58 e).2.2 rfl
    have hs : ∀ c ∈ n ++ [58], 32 ≤ c.toNat := fun c hc => by
      rcases List.mem_append.1 hc with hc | hc
      · have := n3 c hc; omega
      · simp only [List.mem_singleton] at hc; subst hc; decide
    unfold readP
    rw [cutCR_app]
    simp only
    rw [line_app _ _ hs, line_lay _ _ (words_ok v)]
    simp only
    rw [List.append_assoc, List.singleton_append, col_app _ n hc]
    simp only
    rw [if_pos hn, pieces_words _ (words_ok v), value_words]
  · cases h
end Go.Proofs.YtagokkpnfceidaaDoor
end

section
namespace Go.Proofs.YtagokkpnfceidaaDoor
open Go.RowKit

theorem cutC_eq (b : UInt8) : ∀ l, cutC b l = cutS b l
  | [] => rfl
  | a :: t => by
    rw [cutC, cutS, cutC_eq b t]
    cases (a == b) <;> cases cutS b t <;> rfl
theorem tCut (b : UInt8) (l : List UInt8) (h : l.length ≤ 1000000) : octet_Cut l (b.toNat : Int) = some (cutS b l) := by
  rw [octet_Cut, need_ok (by omega), bind_some', cutC_eq]
  simp
theorem hasPre (l p : List UInt8) : internal_stringslite_HasPrefix l p = some (p.isPrefixOf l) := by
  rw [internal_stringslite_HasPrefix]
  have key : p.isPrefixOf l = decide (p.length ≤ l.length ∧ l.take p.length = p) := by
    rw [Bool.eq_iff_iff, List.isPrefixOf_iff_prefix, decide_eq_true_iff, List.prefix_iff_eq_take]
    constructor
    · intro h
      have := congrArg List.length h
      rw [List.length_take] at this
      exact ⟨by omega, h.symm⟩
    · intro h; exact h.2.symm
  rw [key]
  by_cases h : p.length ≤ l.length
  · rw [decide_eq_true (show (l.length : Int) ≥ (p.length : Int) by omega), if_pos rfl, cutL_ok (by omega) (by omega) (by omega), bind_some', bind_some']
    have e : (l.take ((p.length : Nat) : Int).toNat).drop (0 : Int).toNat = l.take p.length := by rw [Int.toNat_natCast]; rfl
    rw [e]
    by_cases h2 : l.take p.length = p
    · rw [decide_eq_true ⟨h, h2⟩, h2, beq_self_eq_true]
    · rw [decide_eq_false (fun e => h2 e.2), beq_eq_false_iff_ne.2 h2]
  · rw [decide_eq_false (show ¬ (l.length : Int) ≥ (p.length : Int) by omega), if_neg (by decide), bind_some', decide_eq_false (fun e => h e.1)]
theorem tBegins (s : List UInt8) (p : List UInt8) (k : Nat) (hk : k ≤ s.length) : octet_Begins s p (k : Int) = some (p.isPrefixOf (s.drop k)) := by
  rw [octet_Begins, decide_eq_true (show (k : Int) ≥ 0 by omega), if_pos rfl, decide_eq_true (show (k : Int) ≤ (s.length : Int) by omega), if_pos rfl, cutL_ok (by omega) (by omega) (by omega), bind_some', strings_HasPrefix, Int.toNat_natCast, Int.toNat_natCast, List.take_length, hasPre]
  rfl
theorem rBegins2 (s : List UInt8) (k : Nat) (hk : k ≤ s.length) (hs : s.length ≤ 1000000) : R01_Begins s [61, 63] (k : Int) = some (eqq (s.drop k)) := by
  have e2 : wr ((k : Int) + (([61, 63] : List UInt8).length : Int)) = ((k + 2 : Nat) : Int) := by
    show wr ((k : Int) + 2) = _
    rw [wr_in (by omega) (by omega)]; rfl
  rw [R01_Begins, decide_eq_true (show (k : Int) ≥ 0 by omega), if_pos rfl, decide_eq_true (show (k : Int) ≤ (s.length : Int) by omega), if_pos rfl, wr_in (n := (s.length : Int) - (k : Int)) (by omega) (by omega), e2]
  have hd : (s.drop k).length = s.length - k := List.length_drop
  by_cases h : k + 2 ≤ s.length
  · rw [decide_eq_true (show ((([61, 63] : List UInt8).length : Nat) : Int) ≤ (s.length : Int) - (k : Int) by show (2 : Int) ≤ _; omega), if_pos rfl, cutL_ok (by omega) (by omega) (by omega), bind_some', bind_some', Int.toNat_natCast, Int.toNat_natCast, List.drop_take, show k + 2 - k = 2 by omega]
    match hq : s.drop k with
    | [] => rw [hq] at hd; simp at hd; omega
    | [a] => rw [hq] at hd; simp at hd; omega
    | a :: b :: r =>
      simp only [List.take_succ_cons, List.take_zero, eqq, List.isPrefixOf, Bool.and_true]
      congr 1
      rw [Bool.eq_iff_iff]
      simp
      constructor
      · rintro ⟨rfl, rfl⟩; exact ⟨rfl, rfl⟩
      · rintro ⟨rfl, rfl⟩; exact ⟨rfl, rfl⟩
  · rw [decide_eq_false (show ¬ ((([61, 63] : List UInt8).length : Nat) : Int) ≤ (s.length : Int) - (k : Int) by show ¬ (2 : Int) ≤ _; omega), if_neg (by decide), bind_some']
    match hq : s.drop k with
    | [] => simp [eqq, List.isPrefixOf]
    | [a] => simp [eqq, List.isPrefixOf]
    | a :: b :: r => rw [hq] at hd; simp at hd; omega

def nameE (x : Int) : Option Bool :=  if (decide ((bits .or .u8 x 32) < 97)) then
        if (decide (x < 48)) then
          some (x != 45)
        else
          if (decide (x > 57)) then
            some (x != 45)
          else
            some false
      else
        if (decide ((bits .or .u8 x 32) > 122)) then
          if (decide (x < 48)) then
            some (x != 45)
          else
            if (decide (x > 57)) then
              some (x != 45)
            else
              some false
        else
          some false 
def nameR (x : Int) : Option Bool :=  if (decide (x ≥ 65)) then
        if (decide (x ≤ 90)) then
          some false
        else
          if (decide (x ≥ 97)) then
            if (decide (x ≤ 122)) then
              some false
            else
              if (decide (x ≥ 48)) then
                if (decide (x ≤ 57)) then
                  some false
                else
                  some (!(x == 45))
              else
                some (!(x == 45))
          else
            if (decide (x ≥ 48)) then
              if (decide (x ≤ 57)) then
                some false
              else
                some (!(x == 45))
            else
              some (!(x == 45))
      else
        if (decide (x ≥ 97)) then
          if (decide (x ≤ 122)) then
            some false
          else
            if (decide (x ≥ 48)) then
              if (decide (x ≤ 57)) then
                some false
              else
                some (!(x == 45))
            else
              some (!(x == 45))
        else
          if (decide (x ≥ 48)) then
            if (decide (x ≤ 57)) then
              some false
            else
              some (!(x == 45))
          else
            some (!(x == 45)) 
theorem nameEF : ∀ c : Fin 256, nameE ((c.1 : Nat) : Int) = some (!nameB (UInt8.ofNat c.1)) := by decide +kernel
theorem nameRF : ∀ c : Fin 256, nameR ((c.1 : Nat) : Int) = some (!nameB (UInt8.ofNat c.1)) := by decide +kernel
theorem nameE_ok (c : UInt8) : nameE (c.toNat : Int) = some (!nameB c) := by
  have := nameEF ⟨c.toNat, c.toNat_lt⟩
  simp only [UInt8.ofNat_toNat] at this
  exact this
theorem nameR_ok (c : UInt8) : nameR (c.toNat : Int) = some (!nameB c) := by
  have := nameRF ⟨c.toNat, c.toNat_lt⟩
  simp only [UInt8.ofNat_toNat] at this
  exact this
theorem tNameL (s : List UInt8) (hs : s.length ≤ 1000000) : ∀ k, k ≤ s.length → fold_name_L1 s (k : Int) = some (if (s.drop k).all nameB = true then .inl () else .inr ()) := by
  refine upto ?_ fun k hk ih => ?_
  · rw [fold_name_L1, ltI, decide_eq_false (by omega), if_neg (by decide), List.drop_length]; rfl
  · have e := nameE_ok s[k]
    unfold nameE at e
    rw [fold_name_L1, ltI, decide_eq_true hk, if_pos rfl, idx_nat, getE hk, bind_some', e, bind_some', wr_succ (by omega), ih, dropE hk, List.all_cons]
    cases nameB s[k] <;> rfl
theorem tName (s : List UInt8) (hs : s.length ≤ 1000000) : fold_name s = some (nameP s) := by
  have h := tNameL s hs 0 (by omega)
  have e := leN s.length 32
  rw [List.drop_zero, show ((0 : Nat) : Int) = 0 from rfl] at h
  rw [show ((32 : Nat) : Int) = 32 from rfl] at e
  rw [fold_name, h, bind_some', nameP, e]
  cases s.all nameB with
  | false => simp
  | true => cases (s == []) <;> cases decide (s.length ≤ 32) <;> rfl
theorem rNameL (s : List UInt8) (hs : s.length ≤ 1000000) : ∀ k, k ≤ s.length → R09_Name_L1 s (k : Int) = some (if (s.drop k).all nameB = true then .inl () else .inr ()) := by
  refine upto ?_ fun k hk ih => ?_
  · rw [R09_Name_L1, ltI, decide_eq_false (by omega), if_neg (by decide), List.drop_length]; rfl
  · have e := nameR_ok s[k]
    unfold nameR at e
    rw [R09_Name_L1, ltI, decide_eq_true hk, if_pos rfl, idx_nat, getE hk, bind_some', e, bind_some', wr_succ (by omega), ih, dropE hk, List.all_cons]
    cases nameB s[k] <;> rfl
theorem rName (s : List UInt8) (hs : s.length ≤ 1000000) : R09_Name s = some (nameP s) := by
  have h := rNameL s hs 0 (by omega)
  rw [List.drop_zero, show ((0 : Nat) : Int) = 0 from rfl] at h
  rw [R09_Name, h, nameP]
  by_cases h1 : s.length < 1
  · have : s = [] := List.length_eq_zero_iff.1 (by omega)
    subst this; rfl
  · have hne : (s == []) = false := by rw [beq_eq_false_iff_ne]; rintro rfl; simp at h1
    rw [decide_eq_false (show ¬ (s.length : Int) < 1 by omega), if_neg (by decide), bind_some', hne]
    by_cases h2 : s.length ≤ 32
    · rw [decide_eq_false (show ¬ (s.length : Int) > 32 by omega), if_neg (by decide), bind_some', decide_eq_true h2]
      cases s.all nameB <;> rfl
    · rw [decide_eq_true (show (s.length : Int) > 32 by omega), if_pos rfl, decide_eq_false h2]; rfl

theorem eqI (a b : Nat) : ((a : Int) == (b : Int)) = decide (a = b) := by
  rw [eqN']
  by_cases h : a = b
  · subst h; simp
  · rw [beq_eq_false_iff_ne.2 h, decide_eq_false h]
theorem eq32 (c : UInt8) : ((c.toNat : Int) == 32) = decide (c = 32) := eqC c 32 (by omega)
theorem gtI' (a b : Nat) : decide ((a : Int) > (b : Int)) = decide (b < a) := ltI b a
theorem tPlainL (s : List UInt8) (hs : s.length ≤ 1000000) : ∀ k, k ≤ s.length → ∀ j : Nat, j ≤ 60 → ∃ o, fold_Plain_L1 s (j : Int) (k : Int) = some o ∧ (match o with | .inl y => decide (y > 0) | .inr _ => false) = plainF j (s.drop k) := by
  refine upto ?_ fun k hk ih => ?_
  · intro j hj
    refine ⟨.inl (j : Int), by rw [fold_Plain_L1, ltI, decide_eq_false (by omega), if_neg (by decide)], ?_⟩
    rw [List.drop_length, plainF]
    simp only
    exact gtI' j 0
  · intro j hj
    have l32 := ltI s[k].toNat 32
    have g126 := gtI' s[k].toNat 126
    have ej := eqI j 0
    rw [show ((32 : Nat) : Int) = 32 from rfl] at l32
    rw [show ((126 : Nat) : Int) = 126 from rfl] at g126
    rw [show ((0 : Nat) : Int) = 0 from rfl] at ej
    have hb := tBegins s [61, 63] k (by omega)
    have hq : ([61, 63] : List UInt8).isPrefixOf (s.drop k) = eqq (s[k] :: s.drop (k + 1)) := by rw [← dropE hk]; rfl
    rw [hq] at hb
    rw [fold_Plain_L1, ltI, decide_eq_true hk, if_pos rfl, idx_nat, getE hk, bind_some', eq32, ej, l32, g126, hb, dropE hk, plainF]
    have no : ∃ o, (some (.inr ()) : Option (Int ⊕ Unit)) = some o ∧ (match o with | .inl y => decide (y > 0) | .inr _ => false) = false := ⟨_, rfl, rfl⟩
    by_cases h32 : s[k] = 32
    · by_cases h0 : j = 0
      · rw [if_pos (show ((s[k] = 32 ∧ j = 0) ∨ s[k].toNat < 32 ∨ 126 < s[k].toNat ∨ eqq (s[k] :: s.drop (k + 1)) = true) from .inl ⟨h32, h0⟩)]
        simp only [h32, h0, decide_true, if_true, bind_some']
        exact no
      · have g1 : decide (s[k].toNat < 32) = false := decide_eq_false (by rw [h32]; decide)
        have g2 : decide (126 < s[k].toNat) = false := decide_eq_false (by rw [h32]; decide)
        rw [g1, g2, decide_eq_true h32, decide_eq_false h0]
        simp only [if_true, Bool.false_eq_true, if_false, bind_some']
        cases hq : eqq (s[k] :: s.drop (k + 1)) with
        | true =>
          rw [if_pos rfl, if_pos (show ((s[k] = 32 ∧ j = 0) ∨ s[k].toNat < 32 ∨ 126 < s[k].toNat ∨ true = true) from .inr (.inr (.inr rfl)))]; exact no
        | false =>
          have hn : ¬ ((s[k] = 32 ∧ j = 0) ∨ s[k].toNat < 32 ∨ 126 < s[k].toNat ∨ false = true) := by
            rintro (e | e | e | e)
            · exact h0 e.2
            · exact absurd (decide_eq_true e) (by rw [g1]; decide)
            · exact absurd (decide_eq_true e) (by rw [g2]; decide)
            · cases e
          rw [if_neg hn, if_pos h32, wr_succ (by omega)]
          have := ih 0 (by omega)
          rw [show ((0 : Nat) : Int) = 0 from rfl] at this
          simpa using this
    · rw [decide_eq_false h32]
      simp only [Bool.false_eq_true, if_false, bind_some']
      by_cases h1 : s[k].toNat < 32
      · rw [if_pos (show ((s[k] = 32 ∧ j = 0) ∨ s[k].toNat < 32 ∨ 126 < s[k].toNat ∨ eqq (s[k] :: s.drop (k + 1)) = true) from .inr (.inl h1)), decide_eq_true h1]
        exact no
      · rw [decide_eq_false h1]
        simp only [Bool.false_eq_true, if_false]
        by_cases h2 : 126 < s[k].toNat
        · rw [if_pos (show ((s[k] = 32 ∧ j = 0) ∨ s[k].toNat < 32 ∨ 126 < s[k].toNat ∨ eqq (s[k] :: s.drop (k + 1)) = true) from .inr (.inr (.inl h2))), decide_eq_true h2]
          exact no
        · rw [decide_eq_false h2]
          simp only [Bool.false_eq_true, if_false, bind_some']
          cases hq : eqq (s[k] :: s.drop (k + 1)) with
          | true =>
            rw [if_pos (show ((s[k] = 32 ∧ j = 0) ∨ s[k].toNat < 32 ∨ 126 < s[k].toNat ∨ true = true) from .inr (.inr (.inr rfl)))]
            exact no
          | false =>
            have hn : ¬ ((s[k] = 32 ∧ j = 0) ∨ s[k].toNat < 32 ∨ 126 < s[k].toNat ∨ false = true) := by
              rintro (e | e | e | e)
              · exact h32 e.1
              · exact h1 e
              · exact h2 e
              · cases e
            rw [if_neg hn, if_neg h32, wr_succ (by omega), wr_succ (by omega)]
            simp only [Bool.false_eq_true, if_false]
            by_cases h60 : j < 60
            · rw [decide_eq_false (show ¬ ((j + 1 : Nat) : Int) > 60 by omega), if_neg (by decide), if_pos h60]
              exact ih (j + 1) (by omega)
            · rw [decide_eq_true (show ((j + 1 : Nat) : Int) > 60 by omega), if_pos rfl, if_neg h60]
              exact no
theorem tPlain (s : List UInt8) (hs : s.length ≤ 1000000) : fold_Plain s = some (plainP s) := by
  obtain ⟨o, h1, h2⟩ := tPlainL s hs 0 (by omega) 0 (by omega)
  rw [List.drop_zero] at h2
  rw [show ((0 : Nat) : Int) = 0 from rfl] at h1
  rw [fold_Plain, h1, plainP, ← h2]
  cases (s == []) with
  | true => rfl
  | false =>
    rw [if_neg (by decide), bind_some']
    cases o <;> rfl
theorem rPlain1 (s : List UInt8) (ws : List (List UInt8)) (hw : ws.length ≤ 2000000) : ∀ k, k ≤ ws.length → R09_Plain_L1 s ws (k : Int) = some (if (ws.drop k).all sizeB = true then .inl () else .inr ()) := by
  refine upto ?_ fun k hk ih => ?_
  · rw [R09_Plain_L1, ltI, decide_eq_false (by omega), if_neg (by decide), List.drop_length]; rfl
  · have l1 := ltI ws[k].length 1
    have g60 := gtI' ws[k].length 60
    rw [show ((1 : Nat) : Int) = 1 from rfl] at l1
    rw [show ((60 : Nat) : Int) = 60 from rfl] at g60
    rw [R09_Plain_L1, ltI, decide_eq_true hk, if_pos rfl, idx_nat, getE hk, bind_some', l1, bind_some', g60, wr_succ (by omega), ih, dropE hk, List.all_cons, sizeB]
    by_cases h1 : ws[k].length < 1
    · rw [decide_eq_true h1, if_pos rfl, bind_some', if_pos rfl, decide_eq_false (by omega)]; rfl
    · rw [decide_eq_false h1, if_neg (by decide), bind_some', decide_eq_true (show 1 ≤ ws[k].length by omega)]
      by_cases h2 : 60 < ws[k].length
      · rw [decide_eq_true h2, if_pos rfl, decide_eq_false (by omega)]; rfl
      · rw [decide_eq_false h2, if_neg (by decide), decide_eq_true (show ws[k].length ≤ 60 by omega)]; rfl
theorem rPlain2 (s : List UInt8) (hs : s.length ≤ 1000000) : ∀ k, k ≤ s.length → R09_Plain_L2 s (k : Int) = some (if cleanP (s.drop k) = true then .inl () else .inr ()) := by
  refine upto ?_ fun k hk ih => ?_
  · rw [R09_Plain_L2, ltI, decide_eq_false (by omega), if_neg (by decide), List.drop_length]; rfl
  · have l32 := ltI s[k].toNat 32
    have g126 := gtI' s[k].toNat 126
    rw [show ((32 : Nat) : Int) = 32 from rfl] at l32
    rw [show ((126 : Nat) : Int) = 126 from rfl] at g126
    rw [R09_Plain_L2, ltI, decide_eq_true hk, if_pos rfl, idx_nat, getE hk, bind_some', l32, bind_some', g126, rBegins2 s k (by omega) hs, bind_some', wr_succ (by omega), ih, dropE hk, cleanP, shownB]
    by_cases h1 : s[k].toNat < 32
    · rw [decide_eq_true h1, if_pos rfl, bind_some', if_pos rfl, decide_eq_false (by omega)]; rfl
    · rw [decide_eq_false h1, if_neg (by decide), decide_eq_true (show 32 ≤ s[k].toNat by omega)]
      by_cases h2 : 126 < s[k].toNat
      · rw [decide_eq_true h2, if_pos rfl, bind_some', if_pos rfl, decide_eq_false (show ¬ s[k].toNat ≤ 126 by omega)]; rfl
      · rw [decide_eq_false h2, if_neg (by decide), bind_some', decide_eq_true (show s[k].toNat ≤ 126 by omega)]
        cases eqq (s[k] :: s.drop (k + 1)) <;> rfl
theorem rPlain (s : List UInt8) (hs : s.length ≤ 1000000) : R09_Plain s = some (plainP s) := by
  have hc := rCut 32 s hs
  rw [show (((32 : UInt8).toNat : Nat) : Int) = 32 from rfl] at hc
  have hl := (cutS_len 32 s).1
  have h1 := rPlain1 s (cutS 32 s) (by omega) 0 (by omega)
  have h2 := rPlain2 s hs 0 (by omega)
  rw [List.drop_zero, show ((0 : Nat) : Int) = 0 from rfl] at h1 h2
  rw [R09_Plain, hc, bind_some', h1, bind_some', h2, plainP, plain_cut]
  cases (s == []) with
  | true => rfl
  | false =>
    rw [if_neg (by decide)]
    cases (cutS 32 s).all sizeB with
    | false => rfl
    | true => cases cleanP s <;> rfl
end Go.Proofs.YtagokkpnfceidaaDoor
end

section
namespace Go.Proofs.YtagokkpnfceidaaDoor
open Go.RowKit

theorem tRunesL (s : List UInt8) (hs : s.length ≤ 1000000) (x1 : List UInt8) : ∀ n k, k ≤ s.length → s.length - k ≤ n → ∃ out, utf_all_1_L1 s (k : Int) = some (out, ()) ∧ ∀ acc : List Int, acc.length ≤ k → utf_Runes_L1 x1 out acc = some (acc ++ iL (runesF n (s.drop k))) := by
  intro n
  induction n with
  | zero =>
    intro k h1 h2
    refine ⟨[], by rw [utf_all_1_L1, ltI, decide_eq_false (by omega)]; rfl, fun acc _ => ?_⟩
    rw [utf_Runes_L1]; simp [runesF, iL]
  | succ n ih =>
    intro k h1 h2
    by_cases hk : k < s.length
    · have hne : s.drop k ≠ [] := by rw [dropE hk]; exact List.cons_ne_nil _ _
      obtain ⟨z1, z2⟩ := nextP_size _ hne
      rw [List.length_drop] at z2
      have ew : wr ((k : Int) + ((nextP (s.drop k)).2 : Int)) = ((k + (nextP (s.drop k)).2 : Nat) : Int) := by rw [wr_in (by omega) (by omega)]; rfl
      obtain ⟨out, o1, o2⟩ := ih (k + (nextP (s.drop k)).2) (by omega) (by omega)
      rw [utf_all_1_L1, ltI, decide_eq_true hk, tNext s k hk (by omega)]
      simp only [if_true, bind_some']
      rw [ew, o1]
      refine ⟨_, rfl, fun acc ha => ?_⟩
      rw [utf_Runes_L1]
      simp only
      rw [appL_ok (by simp; omega) (by simp; omega), bind_some', o2 _ (by simp; omega), runesF_step n _ hne, List.drop_drop]
      simp [iL]
    · refine ⟨[], by rw [utf_all_1_L1, ltI, decide_eq_false hk]; rfl, fun acc _ => ?_⟩
      rw [utf_Runes_L1, List.drop_eq_nil_of_le (by omega)]; simp [runesF, iL]
theorem tRunes (s : List UInt8) (hs : s.length ≤ 1000000) : utf_Runes s = some (iL (runesP s)) := by
  obtain ⟨out, o1, o2⟩ := tRunesL s hs s s.length 0 (by omega) (by omega)
  have h := o2 [] (by simp)
  rw [List.nil_append, List.drop_zero] at h
  rw [utf_Runes, utf_all, bind_some', utf_all_1]
  rw [show ((0 : Nat) : Int) = 0 from rfl] at o1
  rw [o1]
  simp only [bind_some', List.append_nil, h]
theorem rRunesL (s : List UInt8) (hs : s.length ≤ 1000000) : ∀ n k, k ≤ s.length → s.length - k ≤ n → ∀ acc : List Int, acc.length ≤ k → R02_Runes_L1 s acc (k : Int) = some (acc ++ iL (runesF n (s.drop k))) := by
  intro n
  induction n with
  | zero =>
    intro k h1 h2 acc _
    rw [R02_Runes_L1, ltI, decide_eq_false (by omega)]; simp [runesF, iL]
  | succ n ih =>
    intro k h1 h2 acc ha
    by_cases hk : k < s.length
    · have hne : s.drop k ≠ [] := by rw [dropE hk]; exact List.cons_ne_nil _ _
      obtain ⟨z1, z2⟩ := nextP_size _ hne
      rw [List.length_drop] at z2
      have ew : wr ((k : Int) + ((nextP (s.drop k)).2 : Int)) = ((k + (nextP (s.drop k)).2 : Nat) : Int) := by rw [wr_in (by omega) (by omega)]; rfl
      rw [R02_Runes_L1, ltI, decide_eq_true hk, rNext s k hk (by omega)]
      simp only [if_true, bind_some']
      rw [appL_ok (by simp; omega) (by simp; omega), bind_some', ew, ih _ (by omega) (by omega) _ (by simp; omega), runesF_step n _ hne, List.drop_drop]
      simp [iL]
    · rw [R02_Runes_L1, ltI, decide_eq_false hk, List.drop_eq_nil_of_le (by omega)]; simp [runesF, iL]
theorem rRunes (s : List UInt8) (hs : s.length ≤ 1000000) : R02_Runes s = some (iL (runesP s)) := by
  have h := rRunesL s hs s.length 0 (by omega) (by omega) [] (by simp)
  rw [List.nil_append, List.drop_zero, show ((0 : Nat) : Int) = 0 from rfl] at h
  rw [R02_Runes, h, bind_some']
theorem tBytes (n : Nat) (h : runeB n = true) : utf_Bytes (n : Int) = some (rb4 n) := by
  rw [utf_Bytes, need_ok (by omega), bind_some', Int.toNat_natCast, need_ok (show runeN n = true from h), bind_some']
  rfl
theorem rBytes4 (n : Nat) (h : runeB n = true) : R02_Bytes (n : Int) = some (rb4 n) := rBytes n h
theorem rWholeL (l : List Nat) (hr : ∀ n ∈ l, runeB n = true) (hl : l.length ≤ 1000000) : ∀ k, k ≤ l.length → ∀ acc : List UInt8, acc.length ≤ 4 * k → R09_Whole_L1 (iL l) acc (k : Int) = some (acc ++ (l.drop k).flatMap rb4) := by
  refine upto ?_ fun k hk ih => ?_
  · intro acc _
    rw [R09_Whole_L1, iL_len, ltI, decide_eq_false (by omega), if_neg (by decide), List.drop_length]; simp
  · intro acc ha
    have hg : (iL l)[k]? = some (l[k] : Int) := by unfold iL; rw [List.getElem?_map, getE hk]; rfl
    have h4 := (rb4_len l[k]).1
    rw [R09_Whole_L1, iL_len, ltI, decide_eq_true hk, if_pos rfl, idx_nat, hg, bind_some', rBytes4 _ (hr _ (List.getElem_mem hk)), bind_some', need_ok (by omega), bind_some', wr_succ (by omega), ih _ (by rw [List.length_append]; omega), dropE hk, List.flatMap_cons, List.append_assoc]
theorem rWhole (s : List UInt8) (hs : s.length ≤ 1000000) : R09_Whole s = some (wholeP s) := by
  have h := rWholeL (runesP s) (runesF_rune _ _) (Nat.le_trans (runesF_len _ _) hs) 0 (by omega) [] (by simp)
  rw [List.nil_append, List.drop_zero, show ((0 : Nat) : Int) = 0 from rfl] at h
  rw [R09_Whole, rRunes s hs, bind_some', h, bind_some']; rfl
theorem codedN (x : List UInt8) (hx : x.length ≤ 1000000) {α : Type} (K : List UInt8 → Option α) : (b64_Encode x >>= fun x13 =>
        need ([61, 63, 85, 84, 70, 45, 56, 63, 66, 63].length + x13.length ≤ 9223372036854775807) >>= fun _ =>
        need (([61, 63, 85, 84, 70, 45, 56, 63, 66, 63] ++ x13).length + [63, 61].length ≤ 9223372036854775807) >>= fun _ => K (([61, 63, 85, 84, 70, 45, 56, 63, 66, 63] ++ x13) ++ [63, 61])) = K (codedP x) := by
  have hl := encP_len x
  rw [tEnc x hx, bind_some', need_ok (by simp; omega), bind_some', need_ok (by simp; omega), bind_some']
  rfl
theorem tW1 (ws : List (List UInt8)) (hw : ws.length ≤ 2000000) : ∀ k, k ≤ ws.length → fold_words_1_L1 ws (k : Int) = some (ws.drop k, ()) := by
  refine upto ?_ fun k hk ih => ?_
  · rw [fold_words_1_L1, ltI, decide_eq_false (by omega), if_neg (by decide), List.drop_length]
  · rw [fold_words_1_L1, ltI, decide_eq_true hk, if_pos rfl, idx_nat, getE hk, bind_some', wr_succ (by omega), ih, dropE hk]; rfl
theorem tW2 (l : List Nat) (hr : ∀ n ∈ l, runeB n = true) (hl : l.length ≤ 1000000) : ∀ k, k ≤ l.length → ∀ now : List UInt8, now.length ≤ 45 →
    ∃ G last, fold_words_1_L2 (iL l) now (k : Int) = some (G.map codedP, last) ∧ groupsP now ((l.drop k).map rb4) = G ++ [last] ∧ last.length ≤ 45 := by
  refine upto ?_ fun k hk ih => ?_
  · intro now hn
    refine ⟨[], now, ?_, ?_, hn⟩
    · rw [fold_words_1_L2, iL_len, ltI, decide_eq_false (by omega), if_neg (by decide)]; rfl
    · rw [List.drop_length]; rfl
  · intro now hn
    have hg : (iL l)[k]? = some (l[k] : Int) := by unfold iL; rw [List.getElem?_map, getE hk]; rfl
    have h4 := (rb4_len l[k]).1
    have e45 : wr (45 - (now.length : Int)) = ((45 - now.length : Nat) : Int) := by rw [wr_in (by omega) (by omega)]; omega
    rw [fold_words_1_L2, iL_len, ltI, decide_eq_true hk, if_pos rfl, idx_nat, hg, bind_some', tBytes _ (hr _ (List.getElem_mem hk)), bind_some', e45, gtI', wr_succ (by omega), dropE hk, List.map_cons, groupsP]
    by_cases h : 45 < now.length + (rb4 l[k]).length
    · rw [decide_eq_true (show 45 - now.length < (rb4 l[k]).length by omega), if_pos rfl, if_pos h]
      have hc := codedN now (by omega) (fun w => ((some (([] : List (List UInt8)), ([] : List UInt8))) >>= fun q => some (w :: q.1, q.2) : Option (List (List UInt8) × List UInt8)))
      rw [hc]
      obtain ⟨G, last, g1, g2, g3⟩ := ih (rb4 l[k]) (by omega)
      refine ⟨now :: G, last, ?_, ?_, g3⟩
      · simp only [bind_some', List.nil_append]
        rw [need_ok (by simp; omega), bind_some', g1]
        simp
      · rw [g2]; rfl
    · rw [decide_eq_false (show ¬ 45 - now.length < (rb4 l[k]).length by omega), if_neg (by decide), if_neg h]
      obtain ⟨G, last, g1, g2, g3⟩ := ih (now ++ rb4 l[k]) (by rw [List.length_append]; omega)
      refine ⟨G, last, ?_, g2, g3⟩
      simp only [bind_some', List.nil_append]
      rw [need_ok (by omega), bind_some', g1]
      simp
theorem tWords (v : List UInt8) (hv : v.length ≤ 1000000) : fold_words_1 v = some (wordsP v, ()) := by
  have hc := tCut 32 v hv
  rw [show (((32 : UInt8).toNat : Nat) : Int) = 32 from rfl] at hc
  have hl := (cutS_len 32 v).1
  rw [fold_words_1, wordsP]
  by_cases h0 : v = []
  · subst h0; rfl
  · rw [beq_eq_false_iff_ne.2 h0, if_neg (by decide), tPlain v hv, bind_some', if_neg h0]
    cases plainP v with
    | true =>
      have h1 := tW1 (cutS 32 v) (by omega) 0 (by omega)
      rw [List.drop_zero, show ((0 : Nat) : Int) = 0 from rfl] at h1
      simp only [if_true]
      rw [hc, bind_some', h1]
      simp
    | false =>
      obtain ⟨G, last, g1, g2, g3⟩ := tW2 (runesP v) (runesF_rune _ _) (Nat.le_trans (runesF_len _ _) hv) 0 (by omega) [] (by simp)
      rw [List.drop_zero] at g2
      rw [show ((0 : Nat) : Int) = 0 from rfl] at g1
      simp only [Bool.false_eq_true, if_false]
      rw [tRunes v hv, bind_some', g1, bind_some', g2]
      simp only
      have hcn := codedN last (by omega) (fun w => ((some (([] : List (List UInt8)), ())) >>= fun q => some (w :: q.1, q.2) : Option (List (List UInt8) × Unit)))
      rw [hcn]
      simp
theorem words_num (v : List UInt8) : (wordsP v).length ≤ v.length + 1 := by
  unfold wordsP
  split
  · simp
  · split
    · exact (cutS_len 32 v).1
    · have h1 := groups_num ((runesP v).map rb4) []
      have h2 := runesF_len v.length v
      rw [List.length_map] at h1 ⊢
      unfold runesP at h1 ⊢
      omega
theorem ws3 (p : List UInt8) (f : Bool) (acc : List Int) (n : Int) (h : acc.length + p.length < 1000000000) : strings_Builder_WriteString_3 p f acc n = some ((p.length : Int), (), true, acc ++ s2b p) := by
  rw [strings_Builder_WriteString_3, strings_Builder_copyCheck_2, bind_some', appL_ok (by rw [s2b_len]; omega) (by rw [s2b_len]; omega)]; rfl
theorem ws4 (p : List UInt8) (f : Bool) (acc : List Int) (n : Int) (h : acc.length + p.length < 1000000000) : strings_Builder_WriteString_4 p f acc n = some ((p.length : Int), (), true, acc ++ s2b p) := by
  rw [strings_Builder_WriteString_4, strings_Builder_copyCheck_5, bind_some', appL_ok (by rw [s2b_len]; omega) (by rw [s2b_len]; omega)]; rfl
theorem ws0 (p : List UInt8) (f : Bool) (n : Int) (h : p.length < 1000000000) : strings_Builder_WriteString p f n = some ((p.length : Int), (), true, s2b p) := by
  rw [strings_Builder_WriteString, strings_Builder_copyCheck, bind_some', appL_ok (by rw [s2b_len]; simp; omega) (by rw [s2b_len]; simp; omega)]; rfl
theorem tPut (w : List UInt8) (f : Bool) (o : List UInt8 × Nat) (hw : w.length ≤ 1000) (ho : o.1.length ≤ 10000000) (hk : o.2 ≤ 1000000) :
    fold_lines_put_2 w f (s2b o.1) (o.2 : Int) = some (true, s2b (lputP o w).1, ((lputP o w).2 : Int)) := by
  have ep : ∀ m : Nat, m ≤ 1000000 → wr ((m : Int) + (wr (1 + (w.length : Int)))) = ((m + (1 + w.length) : Nat) : Int) := fun m hm => by
    rw [wr_in (n := 1 + (w.length : Int)) (by omega) (by omega), wr_in (by omega) (by omega)]; omega
  rw [fold_lines_put_2, wr_in (n := 76 - (o.2 : Int)) (by omega) (by omega), lputP]
  by_cases h : 76 ≤ o.2 + w.length
  · rw [decide_eq_true (show (w.length : Int) ≥ 76 - (o.2 : Int) by omega), if_pos rfl, if_pos h, ws3 _ _ _ _ (by rw [s2b_len]; simp; omega)]
    simp only [bind_some']
    rw [need_ok (by simp; omega), bind_some', ws4 _ _ _ _ (by rw [List.length_append, s2b_len, s2b_len]; simp; omega), bind_some']
    have e0 := ep 0 (by omega)
    rw [show ((0 : Nat) : Int) = 0 from rfl] at e0
    rw [e0, ← s2b_app, ← s2b_app]
    simp
  · rw [decide_eq_false (show ¬ (w.length : Int) ≥ 76 - (o.2 : Int) by omega), if_neg (by decide), if_neg h]
    simp only [bind_some']
    rw [need_ok (by simp; omega), bind_some', ws4 _ _ _ _ (by rw [s2b_len]; simp; omega), bind_some', ep _ hk, ← s2b_app]
    rfl
theorem lput_len (o : List UInt8 × Nat) (w : List UInt8) : (lputP o w).1.length ≤ o.1.length + w.length + 3 ∧ (lputP o w).2 ≤ o.2 + w.length + 1 := by
  unfold lputP
  split <;> simp <;> omega
theorem tWriteL (x3 : List UInt8) : ∀ (ws : List (List UInt8)) (f : Bool) (o : List UInt8 × Nat), (∀ w ∈ ws, w.length ≤ 72) → o.1.length + 75 * ws.length ≤ 10000000 → o.2 + 75 * ws.length ≤ 1000000 →
    ∃ f', fold_Write_L1 x3 ws f (s2b o.1) (o.2 : Int) = some (f', s2b (ws.foldl lputP o).1, ((ws.foldl lputP o).2 : Int))
  | [], f, o, _, _, _ => ⟨f, by rw [fold_Write_L1]; rfl⟩
  | w :: r, f, o, hw, h1, h2 => by
    have hwl := hw w (by simp)
    simp only [List.length_cons] at h1 h2
    obtain ⟨g1, g2⟩ := lput_len o w
    obtain ⟨f', ih⟩ := tWriteL x3 r true (lputP o w) (fun x hx => hw x (by simp [hx])) (by omega) (by omega)
    refine ⟨f', ?_⟩
    rw [fold_Write_L1]
    try simp only
    rw [tPut w f o (by omega) (by omega) (by omega), bind_some']
    simp only
    rw [ih, List.foldl_cons]
theorem lenFold : ∀ (ws : List (List UInt8)) (o : List UInt8 × Nat), (∀ w ∈ ws, w.length ≤ 72) → (ws.foldl lputP o).1.length ≤ o.1.length + 75 * ws.length
  | [], o, _ => by simp
  | w :: r, o, hw => by
    have hwl := hw w (by simp)
    have g1 := (lput_len o w).1
    have := lenFold r (lputP o w) (fun x hx => hw x (by simp [hx]))
    rw [List.foldl_cons, List.length_cons]
    omega
def wrtV (o : Option (List UInt8)) : List UInt8 × Int := match o with
  | some s => (s, 0)
  | none => ([], 1)
theorem tWrite (n v : List UInt8) (hn : n.length ≤ 1000) (hv : v.length ≤ 1000) : fold_Write n v = some (wrtV (writeP n v)) := by
  have hw : ∀ w ∈ wordsP v, w.length ≤ 72 := fun w h => (words_ok v w h).2.1
  have hnum := words_num v
  rw [fold_Write, tName n (by omega), bind_some', writeP]
  cases hnm : nameP n with
  | false => rfl
  | true =>
    have e1 : wr ((n.length : Int) + 1) = ((n.length + 1 : Nat) : Int) := wr_succ (by omega)
    simp only [Bool.not_true, Bool.false_eq_true, if_false, if_true]
    rw [need_ok (by simp; omega), bind_some', e1, ws0 _ _ _ (by simp; omega), bind_some', fold_words, bind_some', tWords v (by omega), bind_some']
    obtain ⟨f', h⟩ := tWriteL v (wordsP v) true (n ++ [58], n.length + 1) hw (by simp; omega) (by simp only; omega)
    have hfl := lenFold (wordsP v) (n ++ [58], n.length + 1) hw
    dsimp only at h ⊢
    rw [h, bind_some']
    simp only
    rw [ws3 _ _ _ _ (by rw [s2b_len]; simp at hfl ⊢; omega), bind_some', ← s2b_app, strings_Builder_String_3, b2s_s2b, bind_some']
    rfl
end Go.Proofs.YtagokkpnfceidaaDoor
end

section
namespace Go.Proofs.YtagokkpnfceidaaDoor
open Go.RowKit

theorem hasSuf (l p : List UInt8) (hl : l.length ≤ 1000000) : internal_stringslite_HasSuffix l p = some (decide (p.length ≤ l.length ∧ l.drop (l.length - p.length) = p)) := by
  rw [internal_stringslite_HasSuffix]
  by_cases h : p.length ≤ l.length
  · have e : wr ((l.length : Int) - (p.length : Int)) = ((l.length - p.length : Nat) : Int) := by rw [wr_in (by omega) (by omega)]; omega
    rw [decide_eq_true (show (l.length : Int) ≥ (p.length : Int) by omega), if_pos rfl, e, cutL_ok (by omega) (by omega) (by omega), bind_some', bind_some', Int.toNat_natCast, Int.toNat_natCast, List.take_length]
    by_cases h2 : l.drop (l.length - p.length) = p
    · rw [decide_eq_true ⟨h, h2⟩, h2, beq_self_eq_true]
    · rw [decide_eq_false (fun e => h2 e.2), beq_eq_false_iff_ne.2 h2]
  · rw [decide_eq_false (show ¬ (l.length : Int) ≥ (p.length : Int) by omega), if_neg (by decide), bind_some', decide_eq_false (fun e => h e.1)]
theorem cutSuf (l p : List UInt8) (hl : l.length ≤ 1000000) : strings_CutSuffix l p = some (if p.length ≤ l.length ∧ l.drop (l.length - p.length) = p then (l.take (l.length - p.length), true) else (l, false)) := by
  rw [strings_CutSuffix, internal_stringslite_CutSuffix, hasSuf l p hl, bind_some']
  by_cases h : p.length ≤ l.length ∧ l.drop (l.length - p.length) = p
  · have h1 := h.1
    have e : wr ((l.length : Int) - (p.length : Int)) = ((l.length - p.length : Nat) : Int) := by rw [wr_in (by omega) (by omega)]; omega
    rw [decide_eq_true h, if_pos h, e]
    simp only [Bool.not_true, Bool.false_eq_true, if_false]
    rw [cutL_ok (by omega) (by omega) (by omega), bind_some', bind_some', Int.toNat_natCast]
    rfl
  · rw [decide_eq_false h, if_neg h]; rfl
theorem cutPre (l p : List UInt8) : strings_CutPrefix l p = some (if p.isPrefixOf l = true then (l.drop p.length, true) else (l, false)) := by
  rw [strings_CutPrefix, internal_stringslite_CutPrefix, hasPre, bind_some']
  cases h : p.isPrefixOf l with
  | true =>
    have hl := (List.isPrefixOf_iff_prefix.1 h).length_le
    simp only [Bool.not_true, Bool.false_eq_true, if_false, if_true]
    rw [cutL_ok (by omega) (by omega) (by omega), bind_some', bind_some', Int.toNat_natCast, Int.toNat_natCast, List.take_length]
  | false => rfl
theorem eq13 (c : UInt8) : ((c.toNat : Int) == 13) = decide (c = 13) := eqC c 13 (by omega)
theorem eq10 (c : UInt8) : ((c.toNat : Int) == 10) = decide (c = 10) := eqC c 10 (by omega)
theorem eq9 (c : UInt8) : ((c.toNat : Int) == 9) = decide (c = 9) := eqC c 9 (by omega)
theorem blankD (c : UInt8) : blankB c = (decide (c = 32) || decide (c = 9)) := by
  unfold blankB
  rw [Bool.eq_iff_iff]
  simp
theorem tBlank (c : UInt8) : fold_blank (c.toNat : Int) = some (blankB c) := by
  rw [fold_blank, eq32, eq9, blankD]
  cases decide (c = 32) <;> rfl
theorem brk_drop (a : List UInt8) (k : Nat) (hk : k < a.length) : breakB (a.drop k) = (([13, 10] : List UInt8).isPrefixOf (a.drop k) && (match a[k + 2]? with | some c => blankB c | none => false)) := by
  match hq : a.drop k with
  | [] =>
    have := congrArg List.length hq
    rw [List.length_drop] at this
    simp at this
    omega
  | [x] => simp [breakB, List.isPrefixOf]
  | [x, y] =>
    have hg : a[k + 2]? = none := by
      have := congrArg List.length hq
      rw [List.length_drop] at this
      simp at this
      exact List.getElem?_eq_none (by omega)
    rw [hg]; simp [breakB]
  | x :: y :: z :: r =>
    have hg : a[k + 2]? = some z := by rw [← List.getElem?_drop, hq]; rfl
    rw [hg]
    simp only [breakB, List.isPrefixOf, Bool.and_true]
    have e1 : ((13 : UInt8) == x) = (x == 13) := by rw [Bool.eq_iff_iff]; simp; exact eq_comm
    have e2 : ((10 : UInt8) == y) = (y == 10) := by rw [Bool.eq_iff_iff]; simp; exact eq_comm
    rw [e1, e2]
    cases (x == 13) <;> cases (y == 10) <;> rfl
theorem lineF_brk {a : List UInt8} {k : Nat} (hk : k < a.length) (h : breakB (a.drop k) = true) : lineF false (a.drop k) = lineF false (a.drop (k + 2)) ∧ k + 2 < a.length := by
  have h2 : k + 2 < a.length := by
    match hq : a.drop k with
    | [] => rw [hq] at h; cases h
    | [x] => rw [hq] at h; cases h
    | [x, y] => rw [hq] at h; cases h
    | x :: y :: z :: r =>
      have := congrArg List.length hq
      rw [List.length_drop] at this
      simp at this
      omega
  refine ⟨?_, h2⟩
  rw [dropE hk] at h ⊢
  rw [lineF, if_pos h, dropE (show k + 1 < a.length by omega), lineF]
theorem lineF_go {a : List UInt8} {k : Nat} (hk : k < a.length) (h : breakB (a.drop k) = false) : lineF false (a.drop k) = if a[k] = 13 ∨ a[k] = 10 then none else consO a[k] (lineF false (a.drop (k + 1))) := by
  rw [dropE hk] at h ⊢
  rw [lineF, h, if_neg (by decide)]
theorem tLineL (a : List UInt8) (b : Bool) (ha : a.length ≤ 1000000) : ∀ n k : Nat, k ≤ a.length → a.length - k ≤ n → ∀ (f : Bool) (A : List UInt8), A.length ≤ k →
    (∃ l f', lineF false (a.drop k) = some l ∧ fold_line_L1 (a, b) (k : Int) f (s2b A) = some (.inl (f', s2b (A ++ l)))) ∨ (∃ o, lineF false (a.drop k) = none ∧ fold_line_L1 (a, b) (k : Int) f (s2b A) = some (.inr o)) := by
  intro n
  induction n with
  | zero =>
    intro k h1 h2 f A _
    obtain rfl : k = a.length := by omega
    refine .inl ⟨[], f, by rw [List.drop_length]; rfl, ?_⟩
    rw [fold_line_L1, ltI, decide_eq_false (Nat.lt_irrefl _), if_neg (by decide), List.append_nil]
  | succ n ih =>
    intro k h1 h2 f A hA
    by_cases hk : k < a.length
    · have e2 : wr ((k : Int) + 2) = ((k + 2 : Nat) : Int) := by rw [wr_in (by omega) (by omega)]; rfl
      have ev : ∀ (K : Bool → Option ((Bool × List Int) ⊕ (Bool × List Int))), (( octet_Begins a [13, 10] (k : Int) >>= fun x6 =>
      if x6 then
        if (decide ((wr ((k : Int) + 2)) < (a.length : Int))) then
          idx a (wr ((k : Int) + 2)) >>= fun x7 =>
          fold_blank (x7.toNat : Int) >>= fun x8 =>
          some x8
        else
          some false
      else
        some false : Option (Bool)) >>= K) = K (breakB (a.drop k)) := fun K => by
        rw [tBegins a _ k (by omega), bind_some', brk_drop a k hk, e2, ltI]
        cases ([13, 10] : List UInt8).isPrefixOf (a.drop k) with
        | false => rfl
        | true =>
          by_cases h3 : k + 2 < a.length
          · rw [decide_eq_true h3, idx_nat, getE h3]
            simp only [if_true, bind_some', tBlank, Bool.true_and]
          · rw [decide_eq_false h3, List.getElem?_eq_none (by omega)]
            rfl
      rw [fold_line_L1, ltI, decide_eq_true hk, if_pos rfl]
      simp only
      rw [ev]
      cases hb : breakB (a.drop k) with
      | true =>
        obtain ⟨g1, g2⟩ := lineF_brk hk hb
        rw [if_pos rfl, wr_succ (by omega), wr_succ (by omega), g1]
        exact ih (k + 2) (by omega) (by omega) f A (by omega)
      | false =>
        have g1 := lineF_go hk hb
        rw [if_neg (by decide), idx_nat, getE hk, bind_some', bind_some', bind_some', eq13, eq10, g1]
        by_cases h13 : a[k] = 13
        · rw [decide_eq_true h13, if_pos (.inl h13)]
          exact .inr ⟨_, rfl, rfl⟩
        · rw [decide_eq_false h13]
          simp only [Bool.false_eq_true, if_false, bind_some']
          by_cases h10 : a[k] = 10
          · rw [decide_eq_true h10, if_pos (.inr h10)]
            exact .inr ⟨_, rfl, rfl⟩
          · rw [decide_eq_false h10, if_neg (show ¬ (a[k] = 13 ∨ a[k] = 10) from fun e => e.elim h13 h10)]
            simp only [Bool.false_eq_true, if_false]
            rw [wb2 _ _ _ (by rw [s2b_len]; omega), bind_some', s2b_one, wr_succ (by omega)]
            rcases ih (k + 1) (by omega) (by omega) true (A ++ [a[k]]) (by simp; omega) with ⟨l, f', q1, q2⟩ | ⟨o, q1, q2⟩
            · refine .inl ⟨a[k] :: l, f', by rw [q1]; rfl, ?_⟩
              rw [q2]; simp
            · exact .inr ⟨o, by rw [q1]; rfl, q2⟩
    · obtain rfl : k = a.length := by omega
      refine .inl ⟨[], f, by rw [List.drop_length]; rfl, ?_⟩
      rw [fold_line_L1, ltI, decide_eq_false (Nat.lt_irrefl _), if_neg (by decide), List.append_nil]
theorem tLine (s : List UInt8) (hs : s.length ≤ 1000000) : fold_line s = some (match cutCR s with | none => ([], false) | some a => match lineF false a with | some l => (l, true) | none => ([], false)) := by
  rw [fold_line, cutSuf s _ hs, bind_some', cutCR]
  have e : (2 ≤ s.length ∧ s.drop (s.length - 2) = [13, 10]) ↔ (([13, 10] : List UInt8).length ≤ s.length ∧ s.drop (s.length - ([13, 10] : List UInt8).length) = [13, 10]) := Iff.rfl
  by_cases h : 2 ≤ s.length ∧ s.drop (s.length - 2) = [13, 10]
  · rw [if_pos (e.1 h), if_pos h]
    simp only [Bool.not_true, Bool.false_eq_true, if_false]
    have hl := tLineL (s.take (s.length - 2)) true (by rw [List.length_take]; omega) (s.take (s.length - 2)).length 0 (by omega) (by omega) false [] (by simp)
    rw [List.drop_zero] at hl
    have e0 : s2b ([] : List UInt8) = [] := rfl
    rw [e0, show ((0 : Nat) : Int) = 0 from rfl] at hl
    show (fold_line_L1 (s.take (s.length - 2), true) 0 false [] >>= _) = _
    rcases hl with ⟨l, f', q1, q2⟩ | ⟨o, q1, q2⟩
    · rw [q2, bind_some', q1]
      simp only
      rw [List.nil_append, sstr4, bind_some']
    · rw [q2, bind_some', q1]
  · rw [if_neg (fun x => h (e.2 x)), if_neg h]; rfl
theorem col_mem {l : List UInt8} {p : List UInt8 × List UInt8} (h : colP l = some p) : l = p.1 ++ 58 :: p.2 ∧ (58 : UInt8) ∉ p.1 := by
  rcases index_one 58 l with ⟨-, h2⟩ | ⟨a, t, h1, h2, -⟩
  · rw [col_none l h2] at h; cases h
  · rw [h1, col_app t a h2] at h
    cases h
    exact ⟨h1, h2⟩
theorem tCol (l : List UInt8) (hl : l.length ≤ 1000000) : strings_Cut l [58] = some (match colP l with | some p => (p.1, p.2, true) | none => (l, [], false)) := by
  rw [strings_Cut, internal_stringslite_Cut, internal_stringslite_Index, need_ok (by omega), bind_some', bind_some']
  rcases index_one 58 l with ⟨h1, h2⟩ | ⟨a, t, h1, h2, h3⟩
  · rw [h1, col_none l h2]; rfl
  · have hlen : l.length = a.length + t.length + 1 := by rw [h1]; simp; omega
    have e1 : wr ((a.length : Int) + ((([58] : List UInt8).length : Nat) : Int)) = ((a.length + 1 : Nat) : Int) := by
      rw [wr_in (by simp; omega) (by simp; omega)]; rfl
    have c1 : colP l = some (a, t) := by rw [h1]; exact col_app t a h2
    rw [h3, c1, decide_eq_true (show (a.length : Int) ≥ 0 by omega), if_pos rfl, cutL_ok (by omega) (by omega) (by omega), bind_some', e1, cutL_ok (by omega) (by omega) (by omega), bind_some', bind_some']
    have e2 : (l.take ((a.length : Nat) : Int).toNat).drop (0 : Int).toNat = a := by
      rw [Int.toNat_natCast, h1]; simp
    have e3 : (l.take ((l.length : Nat) : Int).toNat).drop ((a.length + 1 : Nat) : Int).toNat = t := by
      rw [Int.toNat_natCast, Int.toNat_natCast, List.take_length, h1]; simp
    rw [e2, e3]
theorem repAll_eq (s b c : List UInt8) : Lib.replaceAll s b c = if b == c then s else Lib.replaceK b c (Lib.count s b) s := by
  unfold Lib.replaceAll Lib.replace Lib.replaceNum
  rw [if_pos (c := (-1 : Int) < 0 ∨ _) (.inl (by decide))]
theorem repK_tab : ∀ (n : Nat) (s : List UInt8), s.length ≤ n → Lib.replaceK [9] [32] (Lib.count s [9]) s = s.map tabB := by
  intro n
  induction n with
  | zero =>
    intro s h
    have h0 : s = [] := List.length_eq_zero_iff.1 (by omega)
    subst h0
    have hi : Lib.index [] [9] = -1 := rfl
    rw [Lib.count_miss hi, Lib.replaceK]; rfl
  | succ n ih =>
    intro s h
    rcases index_one 9 s with ⟨h1, h2⟩ | ⟨p, t, h1, h2, h3⟩
    · rw [Lib.count_miss h1, Lib.replaceK, tab_id s h2]
    · have hd : s.drop (p.length + ([9] : List UInt8).length) = t := by rw [h1]; simp
      have ht : s.take p.length = p := by rw [h1]; simp
      have hl := congrArg List.length h1
      rw [List.length_append, List.length_cons] at hl
      rw [Lib.count_hit (by simp) h3, hd, Nat.add_comm 1, Lib.replaceK_hit [9] [32] _ _ p.length h3, hd, ht, ih t (by omega), h1, List.map_append, List.map_cons, tab_id p h2, tabB, if_pos rfl]
      simp
theorem replace_tab (s : List UInt8) : Lib.replaceAll s [9] [32] = s.map tabB := by
  rw [repAll_eq, if_neg (by decide)]
  exact repK_tab s.length s (Nat.le_refl _)
theorem tTabs (s : List UInt8) (hs : s.length ≤ 1000000) : strings_ReplaceAll s [9] [32] = some (s.map tabB) := by
  have hle := Lib.countB_le ⟨([9] : List UInt8).toArray⟩ (by decide) s.length ⟨s.toArray⟩ (by show s.toArray.size ≤ _; simp)
  have hsz : (⟨s.toArray⟩ : ByteArray).size = s.length := by show s.toArray.size = _; simp
  rw [hsz] at hle
  rw [strings_ReplaceAll, need_ok (by omega), bind_some', need_ok (by simp), bind_some', need_ok (by simp only [List.length_cons, List.length_nil]; omega), bind_some', replace_tab]
end Go.Proofs.YtagokkpnfceidaaDoor
end

section
namespace Go.Proofs.YtagokkpnfceidaaDoor
open Go.RowKit

def decV (w : List UInt8) : List UInt8 × Bool := match decodedP w with
  | some t => (t, true)
  | none => (w, false)
theorem front_pre (w : List UInt8) : frontB.isPrefixOf w = decide (10 ≤ w.length ∧ w.take 10 = frontB) := by
  rw [Bool.eq_iff_iff, List.isPrefixOf_iff_prefix, decide_eq_true_iff, List.prefix_iff_eq_take]
  constructor
  · intro h
    have := congrArg List.length h
    rw [List.length_take] at this
    have e : frontB.length = 10 := rfl
    rw [e] at this h
    exact ⟨by omega, h.symm⟩
  · intro h; exact h.2.symm
theorem dec_len {s t : List UInt8} (h : decP s = some t) : t.length ≤ s.length := by
  have := congrArg List.length (enc_dec s t h)
  rw [encP_len] at this
  omega
/-- What both make of the inside of a coded word. -/
theorem inV (w i : List UInt8) (hi : inP w = some i) : decV w = (match decP i with | some t => if utfF t.length t = true then (t, true) else (w, false) | none => (w, false)) := by
  rw [decV, decodedP, hi]
  simp only
  cases decP i with
  | none => rfl
  | some t =>
    simp only
    cases utfF t.length t <;> rfl
theorem tDecoded (w : List UInt8) (hw : w.length ≤ 100000) : fold_decoded w = some (decV w) := by
  have hp := front_pre w
  rw [fold_decoded, cutPre]
  have hfl : ([61, 63, 85, 84, 70, 45, 56, 63, 66, 63] : List UInt8) = frontB := rfl
  rw [hfl, hp]
  by_cases h : 10 ≤ w.length ∧ w.take 10 = frontB
  · have hwd : w.drop frontB.length = w.drop 10 := rfl
    have hl : (w.drop 10).length = w.length - 10 := List.length_drop
    rw [decide_eq_true h, if_pos rfl, hwd, bind_some']
    simp only
    rw [cutSuf _ _ (by omega), bind_some']
    have eb : ([63, 61] : List UInt8).length = 2 := rfl
    rw [eb, hl]
    by_cases h2 : 2 ≤ w.length - 10 ∧ (w.drop 10).drop (w.length - 10 - 2) = [63, 61]
    · have hin : inP w = some ((w.take (w.length - 2)).drop 10) := by
        rw [inP, if_pos]
        refine ⟨by omega, h.2, ?_⟩
        rw [← h2.2, List.drop_drop]
        try (congr 1; omega)
      have hcut : (w.drop 10).take (w.length - 10 - 2) = (w.take (w.length - 2)).drop 10 := by
        rw [List.drop_take, show w.length - 2 - 10 = w.length - 10 - 2 by omega]
      rw [if_pos h2, hcut]
      simp only [Bool.not_true, Bool.false_eq_true, if_false, bind_some']
      have hil : ((w.take (w.length - 2)).drop 10).length ≤ 100000 := by rw [List.length_drop, List.length_take]; omega
      rw [tDec _ (by omega), bind_some', inV w _ hin]
      cases hd : decP ((w.take (w.length - 2)).drop 10) with
      | none => rfl
      | some t =>
        have htl := dec_len hd
        simp only [show ((0 : Int) != 0) = false from rfl, Bool.false_eq_true, if_false]
        rw [tUtf t (by omega), bind_some', bind_some']
        cases utfF t.length t <;> rfl
    · have hin : inP w = none := by
        rw [inP, if_neg]
        rintro ⟨q1, q2, q3⟩
        apply h2
        refine ⟨by omega, ?_⟩
        rw [← q3, List.drop_drop]
        try (congr 1; omega)
      rw [if_neg h2]
      simp only [Bool.not_true, Bool.false_eq_true, if_false, bind_some', Bool.not_false, if_true]
      rw [decV, decodedP, hin]
  · have hin : inP w = none := by
      rw [inP, if_neg]
      rintro ⟨q1, q2, q3⟩
      exact h ⟨by omega, q2⟩
    rw [decide_eq_false h, if_neg (by decide), bind_some']
    simp only
    rw [cutSuf _ _ (by omega), bind_some']
    simp only [Bool.not_false, if_true, bind_some']
    rw [decV, decodedP, hin]
theorem decV_len (w : List UInt8) : (decV w).1.length ≤ w.length := by
  rw [decV, decodedP]
  cases hi : inP w with
  | none => exact Nat.le_refl _
  | some i =>
    have hil : i.length ≤ w.length := by
      rw [inP] at hi
      split at hi
      · cases hi; rw [List.length_drop, List.length_take]; omega
      · cases hi
    simp only
    cases hd : decP i with
    | none => exact Nat.le_refl _
    | some t =>
      have := dec_len hd
      simp only
      cases utfF t.length t with
      | false => exact Nat.le_refl _
      | true => simp only [if_true]; omega
theorem stepV_eq (o : List UInt8 × (Bool × Bool)) (w : List UInt8) : stepV o w = (o.1 ++ ((if (o.2.1 && !(o.2.2 && (decV w).2)) = true then [32] else []) ++ (decV w).1), (true, (decV w).2)) := by
  rw [stepV, decV]
  cases decodedP w with
  | none => simp
  | some t =>
    obtain ⟨a, b, c⟩ := o
    cases b <;> cases c <;> rfl
theorem stepV_len (o : List UInt8 × (Bool × Bool)) (w : List UInt8) : (stepV o w).1.length ≤ o.1.length + w.length + 1 := by
  have := decV_len w
  rw [stepV_eq]
  simp only [List.length_append]
  split <;> simp <;> omega
def sumL (ws : List (List UInt8)) : Nat := (ws.map List.length).sum
theorem cut_sum (b : UInt8) : ∀ l : List UInt8, sumL (cutS b l) ≤ l.length
  | [] => by simp [cutS, sumL]
  | a :: t => by
    have ih := cut_sum b t
    rw [cutS]
    split
    · simp [sumL] at ih ⊢; omega
    · cases hc : cutS b t with
      | nil => exact absurd hc (cutS_ne _ _)
      | cons x r => rw [hc] at ih; simp [sumL] at ih ⊢; omega
theorem sum_mem {ws : List (List UInt8)} : ∀ w ∈ ws, w.length ≤ sumL ws := by
  intro w hw
  induction ws with
  | nil => simp at hw
  | cons x r ih =>
    rcases List.mem_cons.1 hw with rfl | hw
    · simp [sumL]
    · have := ih hw; simp [sumL] at this ⊢; omega
theorem sum_drop (ws : List (List UInt8)) (k : Nat) (hk : k < ws.length) : sumL (ws.drop k) = ws[k].length + sumL (ws.drop (k + 1)) := by
  unfold sumL
  rw [dropE hk, List.map_cons, List.sum_cons]
theorem tValL (x2 : List UInt8 × List UInt8 × Bool) (ws : List (List UInt8)) (hw : sumL ws ≤ 90000) (hn : ws.length ≤ 90000) : ∀ k, k ≤ ws.length → ∀ (o : List UInt8 × (Bool × Bool)) (f : Bool), o.1.length + sumL (ws.drop k) + ws.length ≤ 300000 + k →
    ∃ f', fold_Read_L1 x2 ws (k : Int) o.2.1 o.2.2 f (s2b o.1) = some (f', s2b (((ws.drop k).filter fullB).foldl stepV o).1) := by
  refine upto ?_ fun k hk ih => ?_
  · intro o f _
    refine ⟨f, ?_⟩
    rw [fold_Read_L1, ltI, decide_eq_false (by omega), if_neg (by decide), List.drop_length]; rfl
  · intro o f ho
    have hwl := sum_mem ws[k] (List.getElem_mem hk)
    have hsd := sum_drop ws k hk
    rw [fold_Read_L1, ltI, decide_eq_true hk, if_pos rfl, idx_nat, getE hk, bind_some', wr_succ (by omega), dropE hk]
    by_cases he : ws[k] = []
    · rw [he, beq_self_eq_true, if_pos rfl, List.filter_cons_of_neg (by simp [fullB])]
      exact ih o f (by omega)
    · rw [beq_eq_false_iff_ne.2 he, if_neg (by decide), List.filter_cons_of_pos (by simp [fullB, he]), List.foldl_cons, tDecoded _ (by omega), bind_some']
      have hl := stepV_len o ws[k]
      have hdl := decV_len ws[k]
      obtain ⟨f', hi⟩ := ih (stepV o ws[k]) true (by omega)
      have e1 := stepV_eq o ws[k]
      have s1 : (stepV o ws[k]).2.1 = true := by rw [e1]
      have s2 : (stepV o ws[k]).2.2 = (decV ws[k]).2 := by rw [e1]
      have s3 : (stepV o ws[k]).1 = o.1 ++ ((if (o.2.1 && !(o.2.2 && (decV ws[k]).2)) = true then [32] else []) ++ (decV ws[k]).1) := by rw [e1]
      rw [s1, s2] at hi
      refine ⟨f', ?_⟩
      rw [← hi, s3]
      have hb : ∀ (K : Bool → Option (Bool × List Int)), ((if o.2.1 = true then (if o.2.2 = true then some (!(decV ws[k]).2) else some true) else some false : Option Bool) >>= K) = K (o.2.1 && !(o.2.2 && (decV ws[k]).2)) := fun K => by
        cases o.2.1 <;> cases o.2.2 <;> rfl
      rw [hb]
      cases hc : (o.2.1 && !(o.2.2 && (decV ws[k]).2)) with
      | true =>
        simp only [if_true]
        rw [wb2 _ _ _ (by rw [s2b_len]; omega), bind_some']
        simp only
        rw [show ((32 : Int)) = ((32 : UInt8).toNat : Int) from rfl, s2b_one, ws5 _ _ _ (by rw [s2b_len, List.length_append]; simp; omega), bind_some', ← s2b_app]
        simp
      | false =>
        simp only [Bool.false_eq_true, if_false]
        rw [ws5 _ _ _ (by rw [s2b_len]; omega), bind_some', ← s2b_app]
        simp
def readV (o : Option (List UInt8 × List UInt8)) : List UInt8 × List UInt8 × Int := match o with
  | some p => (p.1, p.2, 0)
  | none => ([], [], 7)
theorem cutCR_len {s a : List UInt8} (h : cutCR s = some a) : a.length ≤ s.length := by
  rw [cutCR] at h
  split at h
  · cases h; rw [List.length_take]; omega
  · cases h
theorem lineF_len : ∀ (b : Bool) (a l : List UInt8), lineF b a = some l → l.length ≤ a.length
  | b, [], l, h => by rw [lineF] at h; cases h; simp
  | true, c :: r, l, h => by rw [lineF] at h; have := lineF_len false r l h; rw [List.length_cons]; omega
  | false, c :: r, l, h => by
    rw [lineF] at h
    split at h
    · have := lineF_len true r l h; rw [List.length_cons]; omega
    · split at h
      · cases h
      · cases hr : lineF false r with
        | none => rw [hr] at h; cases h
        | some q =>
          rw [hr] at h
          cases h
          have := lineF_len false r q hr
          simp only [List.length_cons]; omega
theorem tRead (s : List UInt8) (hs : s.length ≤ 80000) : fold_Read s = some (readV (readP s)) := by
  have h1 := tLine s (by omega)
  rw [readP]
  cases hc : cutCR s with
  | none =>
    rw [hc] at h1
    rw [fold_Read, h1, bind_some']
    rfl
  | some a =>
    have hal := cutCR_len hc
    rw [hc] at h1
    simp only at h1 ⊢
    cases hl : lineF false a with
    | none =>
      rw [hl] at h1
      rw [fold_Read, h1, bind_some']
      rfl
    | some l =>
      rw [hl] at h1
      rw [fold_Read, h1, bind_some']
      have hll := lineF_len false a l hl
      simp only
      rw [tCol l (by omega), bind_some']
      cases hp : colP l with
      | none => rfl
      | some p =>
        have hpl := congrArg List.length (col_mem hp).1
        rw [List.length_append, List.length_cons] at hpl
        simp only [Bool.not_true, Bool.false_eq_true, if_false]
        rw [tName _ (by omega), bind_some']
        cases hn : nameP p.1 with
        | false => rfl
        | true =>
          have hcl := cutS_len 32 (p.2.map tabB)
          have hcs := cut_sum 32 (p.2.map tabB)
          rw [List.length_map] at hcl hcs
          have hct := tCut 32 (p.2.map tabB) (by rw [List.length_map]; omega)
          rw [show (((32 : UInt8).toNat : Nat) : Int) = 32 from rfl] at hct
          simp only [Bool.not_true, Bool.false_eq_true, if_false, bind_some', if_true]
          rw [tTabs _ (by omega), bind_some', hct, bind_some']
          obtain ⟨f', h⟩ := tValL (p.1, p.2, true) (cutS 32 (p.2.map tabB)) (by omega) (by omega) 0 (by omega) ([], (false, false)) false (by rw [List.drop_zero]; simp; omega)
          rw [List.drop_zero, show ((0 : Nat) : Int) = 0 from rfl] at h
          have e0 : s2b ([] : List UInt8) = [] := rfl
          simp only [e0] at h
          rw [h, bind_some', sstr4, bind_some']
          rfl
end Go.Proofs.YtagokkpnfceidaaDoor
end

section
namespace Go.Proofs.YtagokkpnfceidaaDoor
open Go.RowKit

theorem wr_ex1 : writeP [83, 117, 98, 106, 101, 99, 116] [97, 32, 98] = some [83, 117, 98, 106, 101, 99, 116, 58, 32, 97, 32, 98, 13, 10] := by decide +kernel
theorem wr_ex2 : writeP [83, 117, 98, 106, 101, 99, 116] [10] = some [83, 117, 98, 106, 101, 99, 116, 58, 32, 61, 63, 85, 84, 70, 45, 56, 63, 66, 63, 67, 103, 61, 61, 63, 61, 13, 10] := by decide +kernel
theorem rd_ex : readP [83, 117, 98, 106, 101, 99, 116, 58, 32, 61, 63, 85, 84, 70, 45, 56, 63, 66, 63, 67, 103, 61, 61, 63, 61, 13, 10] = some ([83, 117, 98, 106, 101, 99, 116], [10]) := by decide +kernel
theorem awake09 : nunciolaw09_awake = some true := by
  rw [nunciolaw09_awake, tWrite _ _ (by simp) (by simp), bind_some', tWrite _ _ (by simp) (by simp), bind_some', wr_ex1, wr_ex2]
  simp only [wrtV]
  rw [tRead _ (by simp), bind_some', rd_ex]
  rfl
theorem few_ok (p : List UInt8) : nunciolaw09_few p = some (p.take 400) ∧ (p.take 400).length ≤ 400 := by
  have hl : (p.take 400).length ≤ 400 := by rw [List.length_take]; omega
  refine ⟨?_, hl⟩
  have e : (if 400 < (p.length : Int) then 400 else (p.length : Int)) = ((min p.length 400 : Nat) : Int) := by split <;> omega
  rw [nunciolaw09_few, e, cutL_ok (by omega) (by omega) (by omega), bind_some', Int.toNat_natCast, show (0 : Int).toNat = 0 from rfl, List.drop_zero]
  congr 1
  by_cases h : p.length ≤ 400
  · rw [Nat.min_eq_left h, List.take_length, List.take_of_length_le h]
  · rw [Nat.min_eq_right (by omega)]
theorem write_len {n v s : List UInt8} (h : writeP n v = some s) (hv : v.length ≤ 400) : s.length ≤ 40000 := by
  have hw : ∀ w ∈ wordsP v, w.length ≤ 72 := fun w h => (words_ok v w h).2.1
  have hnum := words_num v
  have hfl := lenFold (wordsP v) (n ++ [58], n.length + 1) hw
  unfold writeP at h
  split at h
  · rename_i hn
    have := (name_mem hn).2.1
    rw [Option.some.injEq] at h
    subst h
    simp at hfl ⊢
    omega
  · cases h
theorem lawFoldBack (p0 p1 : List UInt8) : nunciolaw09_FoldBack p0 p1 = some true := by
  obtain ⟨f0, l0⟩ := few_ok p0
  obtain ⟨f1, l1⟩ := few_ok p1
  rw [nunciolaw09_FoldBack, f0, bind_some', f1, bind_some', tWrite _ _ (by omega) (by omega), bind_some']
  cases hw : writeP (p0.take 400) (p1.take 400) with
  | none =>
    have hn : nameP (p0.take 400) = false := by
      unfold writeP at hw
      cases hn : nameP (p0.take 400) with
      | false => rfl
      | true => rw [hn, if_pos rfl] at hw; cases hw
    simp only [wrtV]
    rw [rName _ (by omega), hn, awake09]
    rfl
  | some s =>
    have hs := write_len hw l1
    have hb := back hw
    simp only [wrtV]
    rw [tRead s (by omega), hb, rPlain _ (by omega), rWhole _ (by omega), awake09]
    simp only [show ((0 : Int) != 0) = false from rfl, Bool.false_eq_true, if_false, bind_some', readV]
    cases plainP (p1.take 400) <;> simp
end Go.Proofs.YtagokkpnfceidaaDoor
end

section
namespace Go.Proofs.YtagokkpnfceidaaDoor
open Go.ChangeShapes Go.WideShapes Go.ChangeAt Go.RowKit

theorem Tryd.own : ownKnob Tryd.prog.godebug = none := by kernel_rfl
end Go.Proofs.YtagokkpnfceidaaDoor
end
