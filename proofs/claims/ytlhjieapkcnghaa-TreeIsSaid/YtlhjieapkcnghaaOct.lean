/-
  Plain functions on lists of bytes and numbers for the layer octet, and the facts about them. No program in sight.
-/
import Derived.Lib.Strings
import Derived.Below
import Derived.Laws.Bits
namespace Go.Proofs.Ytlhjieapkcnghaa
open Go.RowKit

/-! ### digits of a number -/
def digs (m : Nat) : List UInt8 :=
  if m < 10 then [UInt8.ofNat (48 + m)] else digs (m / 10) ++ [UInt8.ofNat (48 + m % 10)]
termination_by m
decreasing_by omega

theorem digs_lt (m : Nat) (h : m < 10) : digs m = [UInt8.ofNat (48 + m)] := by rw [digs, if_pos h]
theorem digs_ge (m : Nat) (h : 10 ≤ m) : digs m = digs (m / 10) ++ [UInt8.ofNat (48 + m % 10)] := by rw [digs, if_neg (by omega)]
theorem digs_pos (m : Nat) : 0 < (digs m).length := by
  by_cases h : m < 10
  · rw [digs_lt m h]; simp
  · rw [digs_ge m (by omega)]; simp
theorem digs_len (m : Nat) : ∀ k, m < 10 ^ (k + 1) → (digs m).length ≤ k + 1 := by
  intro k
  induction k generalizing m with
  | zero => intro h; rw [digs_lt m (by simpa using h)]; simp
  | succ k ih =>
    intro h
    by_cases h10 : m < 10
    · rw [digs_lt m h10]; simp
    · rw [digs_ge m (by omega)]
      have := ih (m / 10) (by rw [Nat.pow_succ] at h; omega)
      simp; omega

/-- The text of a number. -/
def textL (n : Int) : List UInt8 := if n < 0 then 45 :: digs n.natAbs else digs n.natAbs

/-- What is still to be written of a number: none behind its last digit. -/
def todo (k u : Nat) : List UInt8 := if k = 0 ∨ 0 < u then digs u else []
theorem todo_step (k u : Nat) (h : k = 0 ∨ 0 < u) : todo k u = todo (k + 1) (u / 10) ++ [UInt8.ofNat (48 + u % 10)] := by
  unfold todo
  rw [if_pos h]
  by_cases h10 : u < 10
  · rw [digs_lt u h10, if_neg (by omega), Nat.mod_eq_of_lt h10]; rfl
  · rw [digs_ge u (by omega), if_pos (by omega)]


/-! ### the number of a text -/
def isD (c : UInt8) : Bool := 48 ≤ c.toNat && c.toNat ≤ 57
def dv (c : UInt8) : Nat := c.toNat - 48
def val (l : List UInt8) : Nat := l.foldl (fun u c => u * 10 + dv c) 0
theorem val_snoc (l : List UInt8) (c : UInt8) : val (l ++ [c]) = val l * 10 + dv c := by simp [val]
def numGo (most : Nat) : List UInt8 → Nat → Option Nat
  | [], u => some u
  | c :: t, u => if isD c && decide (u ≤ (most - dv c) / 10) then numGo most t (u * 10 + dv c) else none
theorem dv_le {c : UInt8} (h : isD c = true) : dv c ≤ 9 := by
  simp [isD] at h; unfold dv; omega
theorem fold_ge (l : List UInt8) : ∀ u, u ≤ l.foldl (fun u c => u * 10 + dv c) u := by
  induction l with
  | nil => intro u; exact Nat.le_refl _
  | cons c t ih => intro u; simp only [List.foldl_cons]; exact Nat.le_trans (by omega) (ih _)
theorem numGo_some (most : Nat) (hm : 9 ≤ most) (l : List UInt8) : ∀ u r, u ≤ most → (numGo most l u = some r ↔ (l.all isD = true ∧ l.foldl (fun u c => u * 10 + dv c) u = r ∧ r ≤ most)) := by
  induction l with
  | nil => intro u r hu; simp [numGo]; omega
  | cons c t ih =>
    intro u r hu
    simp only [numGo, List.all_cons, List.foldl_cons]
    by_cases hd : isD c = true
    · have := dv_le hd
      by_cases hle : u ≤ (most - dv c) / 10
      · rw [if_pos (by simp [hd, hle]), ih _ _ (by omega)]; simp [hd]
      · rw [if_neg (by simp [hle])]
        have hg := fold_ge t (u * 10 + dv c)
        simp only [reduceCtorEq, false_iff]
        rintro ⟨_, h2, h3⟩
        omega
    · rw [if_neg (by simp [hd])]; simp [hd]

theorem digs_all (m : Nat) : (digs m).all isD = true := by
  induction m using Nat.strongRecOn with
  | _ m ih =>
    by_cases h : m < 10
    · rw [digs_lt m h]; simp [isD]; omega
    · rw [digs_ge m (by omega), List.all_append, ih _ (by omega)]; simp [isD]; omega
theorem digs_val (m : Nat) : val (digs m) = m := by
  induction m using Nat.strongRecOn with
  | _ m ih =>
    by_cases h : m < 10
    · rw [digs_lt m h]; simp [val, dv]; omega
    · rw [digs_ge m (by omega), val_snoc, ih _ (by omega)]; simp [dv]; omega
theorem digs_head (m : Nat) (h : 1 ≤ m) : (digs m).head? ≠ some 48 := by
  induction m using Nat.strongRecOn with
  | _ m ih =>
    by_cases h' : m < 10
    · rw [digs_lt m h']; simp
      intro e
      have := congrArg UInt8.toNat e
      simp at this; omega
    · rw [digs_ge m (by omega)]
      have hp := digs_pos (m / 10)
      have := ih (m / 10) (by omega) (by omega)
      cases hd : digs (m / 10) with
      | nil => rw [hd] at hp; simp at hp
      | cons a b => rw [hd] at this; simpa using this
theorem snoc_cases (l : List UInt8) (h : l ≠ []) : ∃ t c, l = t ++ [c] := ⟨l.dropLast, l.getLast h, (List.dropLast_concat_getLast h).symm⟩
theorem dv_back {c : UInt8} (h : isD c = true) : UInt8.ofNat (48 + dv c) = c := by
  simp [isD] at h; unfold dv
  have : 48 + (c.toNat - 48) = c.toNat := by omega
  rw [this]; simp
/-- A list of digits without a needless 0 ahead is the text of its value. -/
theorem digs_of_val : ∀ (n : Nat) (l : List UInt8), l.length = n → l ≠ [] → l.all isD = true → (l.head? ≠ some 48 ∨ l.length = 1) → digs (val l) = l ∧ (l.head? ≠ some 48 → 1 ≤ val l) := by
  intro n
  induction n with
  | zero => intro l hl h; exact absurd (List.eq_nil_of_length_eq_zero hl) h
  | succ n ih =>
    intro l hl h ha hh
    obtain ⟨t, c, rfl⟩ := snoc_cases l h
    rw [List.all_append] at ha
    have hac : isD c = true := by simp at ha; exact ha.2
    have hat : t.all isD = true := by simp at ha; simp; exact ha.1
    have hc9 := dv_le hac
    by_cases ht : t = []
    · subst ht
      have e : val ([] ++ [c]) = dv c := by simp [val]
      rw [e, digs_lt _ (by omega), dv_back hac]
      refine ⟨rfl, fun h48 => ?_⟩
      simp at h48
      simp [isD] at hac
      unfold dv
      have : c.toNat ≠ 48 := fun e => h48 (by rw [← UInt8.toNat_inj]; simpa using e)
      omega
    · have h1 : t.length = n := by simp at hl; omega
      have hth : t.head? ≠ some 48 := by
        rcases hh with hh | hh
        · cases t with
          | nil => exact absurd rfl ht
          | cons a b => simpa using hh
        · simp at hh; exact absurd hh ht
      obtain ⟨i1, i2⟩ := ih t h1 ht hat (.inl hth)
      have i3 := i2 hth
      rw [val_snoc, digs_ge _ (by omega), show (val t * 10 + dv c) / 10 = val t by omega, i1, show (val t * 10 + dv c) % 10 = dv c by omega, dv_back hac]
      exact ⟨rfl, fun _ => by omega⟩

/-- The number whose text it is, and whether there is one. -/
def numP (l : List UInt8) : Int × Bool :=
  let below := l.head? == some 45
  let rest := if below then l.tail else l
  if rest = [] ∨ (1 < rest.length ∧ rest.head? = some 48) ∨ (below = true ∧ rest = [48]) then (0, false)
  else match numGo (if below then 9223372036854775808 else 9223372036854775807) rest 0 with
    | some u => (if below then -(u : Int) else u, true)
    | none => (0, false)

def inI64 (n : Int) : Prop := -9223372036854775808 ≤ n ∧ n ≤ 9223372036854775807

theorem digs_ne (m : Nat) : digs m ≠ [] := fun h => by have := digs_pos m; rw [h] at this; simp at this
theorem digs_head_ne (m : Nat) (c : UInt8) (hc : isD c = false) : (digs m).head? ≠ some c := by
  intro h
  have ha := digs_all m
  cases hd : digs m with
  | nil => rw [hd] at h; simp at h
  | cons a b => rw [hd] at h ha; simp at h ha; rw [h, hc] at ha; simp at ha
theorem digs_zero_only (m : Nat) (h : (digs m).head? = some 48) : m = 0 := by
  rcases Nat.eq_zero_or_pos m with h0 | h0
  · exact h0
  · exact absurd h (digs_head m h0)

theorem numP_text (n : Int) (hn : inI64 n) : numP (textL n) = (n, true) := by
  obtain ⟨h0, h1⟩ := hn
  rcases Int.lt_or_le n 0 with h | h
  · have ht : textL n = 45 :: digs n.natAbs := by rw [textL, if_pos h]
    rw [ht]
    simp only [numP, List.head?_cons, BEq.rfl, if_true, List.tail_cons]
    have hpos : 1 ≤ n.natAbs := by omega
    rw [if_neg (by
      rintro (h' | ⟨_, h'⟩ | ⟨_, h'⟩)
      · exact digs_ne _ h'
      · exact digs_head _ hpos h'
      · exact digs_head _ hpos (by rw [h']; rfl))]
    rw [(numGo_some _ (by omega) (digs n.natAbs) 0 n.natAbs (by omega)).2 ⟨digs_all _, digs_val _, by omega⟩]
    simp; omega
  · have ht : textL n = digs n.natAbs := by rw [textL, if_neg (by omega)]
    rw [ht]
    have hb : ((digs n.natAbs).head? == some 45) = false := by
      simpa using digs_head_ne n.natAbs 45 (by decide)
    simp only [numP, hb, Bool.false_eq_true, if_false]
    rw [if_neg (by
      rintro (h' | ⟨h2, h'⟩ | ⟨h2, _⟩)
      · exact digs_ne _ h'
      · rw [digs_zero_only _ h', digs_lt 0 (by omega)] at h2; simp at h2
      · cases h2)]
    rw [(numGo_some _ (by omega) (digs n.natAbs) 0 n.natAbs (by omega)).2 ⟨digs_all _, digs_val _, by omega⟩]
    simp; omega

theorem numP_true (l : List UInt8) (n : Int) (h : numP l = (n, true)) : l = textL n ∧ inI64 n := by
  unfold numP at h
  by_cases hb : l.head? = some 45
  · obtain ⟨t, rfl⟩ : ∃ t, l = 45 :: t := by
      cases l with
      | nil => simp at hb
      | cons a b => simp at hb; exact ⟨b, by rw [hb]⟩
    simp only [List.head?_cons, BEq.rfl, if_true, List.tail_cons] at h
    split at h
    · simp at h
    · rename_i hne
      split at h
      · rename_i u hu
        simp only [Prod.mk.injEq, and_true] at h
        obtain ⟨a1, a2, a3⟩ := (numGo_some _ (by omega) t 0 u (by omega)).1 hu
        have htne : t ≠ [] := fun e => hne (.inl e)
        have hhead : t.head? ≠ some 48 := by
          intro e
          by_cases hl1 : 1 < t.length
          · exact hne (.inr (.inl ⟨hl1, e⟩))
          · cases t with
            | nil => exact htne rfl
            | cons a b =>
              have : b = [] := by simp at hl1; exact hl1
              subst this; simp at e; subst e
              exact hne (.inr (.inr ⟨by simp, rfl⟩))
        obtain ⟨b1, b2⟩ := digs_of_val _ t rfl htne a1 (.inl hhead)
        have hv : val t = u := a2
        have := b2 hhead
        rw [hv] at b1 this
        subst h
        refine ⟨?_, by unfold inI64; omega⟩
        rw [textL, if_pos (by omega)]
        rw [show (-(u : Int)).natAbs = u by omega, b1]
      · simp at h
  · have hb' : (l.head? == some 45) = false := by simpa using hb
    simp only [hb', Bool.false_eq_true, if_false] at h
    split at h
    · simp at h
    · rename_i hne
      split at h
      · rename_i u hu
        simp only [Prod.mk.injEq, and_true] at h
        obtain ⟨a1, a2, a3⟩ := (numGo_some _ (by omega) l 0 u (by omega)).1 hu
        have htne : l ≠ [] := fun e => hne (.inl e)
        have hhead : l.head? ≠ some 48 ∨ l.length = 1 := by
          by_cases e : l.head? = some 48
          · right
            by_cases hl1 : 1 < l.length
            · exact absurd (.inr (.inl ⟨hl1, e⟩)) hne
            · cases l with
              | nil => exact absurd rfl htne
              | cons a b => simp at hl1 ⊢; exact hl1
          · exact .inl e
        obtain ⟨b1, b2⟩ := digs_of_val _ l rfl htne a1 hhead
        have hv : val l = u := a2
        rw [hv] at b1
        subst h
        refine ⟨?_, by unfold inI64; omega⟩
        rw [textL, if_neg (by omega), Int.natAbs_natCast, b1]
      · simp at h
theorem ite_zero (c : Prop) [Decidable c] (o : Option Nat) (f : Nat → Int) {m : Int} (h : (if c then (0, false) else match o with | some u => (f u, true) | none => (0, false)) = (m, false)) : m = 0 := by
  split at h
  · cases h; rfl
  · cases o <;> cases h; rfl
theorem numP_false (l : List UInt8) (h : ∀ n, inI64 n → l ≠ textL n) : numP l = (0, false) := by
  cases hp : numP l with
  | mk n b =>
    cases b with
    | true => obtain ⟨h1, h2⟩ := numP_true l n hp; exact absurd h1 (h n h2)
    | false =>
      have : n = 0 := by
        exact ite_zero _ _ (fun u => if l.head? == some 45 then -(u : Int) else u) hp
      rw [this]
theorem textL_len (n : Int) (hn : inI64 n) : 1 ≤ (textL n).length ∧ (textL n).length ≤ 20 := by
  obtain ⟨h0, h1⟩ := hn
  have hp := digs_pos n.natAbs
  have := digs_len n.natAbs 18 (by omega)
  unfold textL
  split <;> (try simp) <;> omega
end Go.Proofs.Ytlhjieapkcnghaa
