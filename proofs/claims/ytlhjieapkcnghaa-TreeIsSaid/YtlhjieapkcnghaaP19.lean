/- Chapter 19 in plain terms: nodes, what is looked at of them, the same. -/
import Derived.Test.YtlhjieapkcnghaaPl
import Derived.Test.YtlhjieapkcnghaaD19
namespace Go.Proofs.Ytlhjieapkcnghaa
open Go.RowKit

/-! ### nodes -/
mutual
/-- How many nodes. -/
def nn : api_Node → Nat
  | ⟨_, _, _, _, a, b, c⟩ => 1 + nns a + nns b + nns c
def nns : List api_Node → Nat
  | [] => 0
  | x :: r => nn x + nns r
end
mutual
/-- How deep. -/
def dp : api_Node → Nat
  | ⟨_, _, _, _, a, b, c⟩ => 1 + max (dps a) (max (dps b) (dps c))
def dps : List api_Node → Nat
  | [] => 0
  | x :: r => max (dp x) (dps r)
end
mutual
/-- Texts of a size that is looked at. -/
def sm : api_Node → Prop
  | ⟨_, s, t, _, a, b, c⟩ => s.length ≤ 40 ∧ t.length ≤ 60 ∧ sms a ∧ sms b ∧ sms c
def sms : List api_Node → Prop
  | [] => True
  | x :: r => sm x ∧ sms r
end
theorem nn_eq (x : api_Node) : nn x = 1 + nns x.L + nns x.Then + nns x.Else := by cases x; rw [nn]
theorem dp_eq (x : api_Node) : dp x = 1 + max (dps x.L) (max (dps x.Then) (dps x.Else)) := by cases x; rw [dp]
theorem sm_eq (x : api_Node) : sm x ↔ (x.Name.length ≤ 40 ∧ x.Text.length ≤ 60 ∧ sms x.L ∧ sms x.Then ∧ sms x.Else) := by cases x; rw [sm]
theorem nn_pos (x : api_Node) : 1 ≤ nn x := by rw [nn_eq]; omega
theorem nns_len : ∀ l : List api_Node, l.length ≤ nns l
  | [] => by simp [nns]
  | x :: r => by have := nns_len r; have := nn_pos x; simp [nns]; omega
theorem nns_mem : ∀ {l : List api_Node} {x : api_Node}, x ∈ l → nn x ≤ nns l
  | y :: r, x, h => by
    rcases List.mem_cons.1 h with rfl | h
    · simp [nns]
    · have := nns_mem h; simp [nns]; omega
theorem sms_mem : ∀ {l : List api_Node} {x : api_Node}, x ∈ l → sms l → sm x
  | y :: r, x, h, hs => by
    rw [sms] at hs
    rcases List.mem_cons.1 h with rfl | h
    · exact hs.1
    · exact sms_mem h hs.2
theorem nns_app : ∀ a b : List api_Node, nns (a ++ b) = nns a + nns b
  | [], b => by simp [nns]
  | x :: r, b => by simp [nns, nns_app r b]; omega

/-! ### what is looked at -/
def lightG (g : List api_Node → Nat → List api_Node × Nat) : List api_Node → Nat → List api_Node × Nat
  | [], n => ([], n)
  | x :: r, n => if n = 0 then ([], 0) else
    (⟨x.Kind, x.Name.take 40, x.Text.take 60, x.N, (g x.L (n - 1)).1, (g x.Then (g x.L (n - 1)).2).1, (g x.Else (g x.Then (g x.L (n - 1)).2).2).1⟩ ::
      (lightG g r (g x.Else (g x.Then (g x.L (n - 1)).2).2).2).1, (lightG g r (g x.Else (g x.Then (g x.L (n - 1)).2).2).2).2)
def lightP : Nat → List api_Node → Nat → List api_Node × Nat
  | 0, _, n => ([], n)
  | d + 1, l, n => lightG (lightP d) l n
def LG (d : Nat) (g : List api_Node → Nat → List api_Node × Nat) : Prop := ∀ (l : List api_Node) (n : Nat), nns (g l n).1 + (g l n).2 = n ∧ dps (g l n).1 ≤ d ∧ sms (g l n).1
theorem lightG_ok {d : Nat} {g : List api_Node → Nat → List api_Node × Nat} (hg : LG d g) : LG (d + 1) (lightG g) := fun l => by
  induction l with
  | nil => intro n; simp [lightG, nns, dps, sms]
  | cons x r ih =>
    intro n
    unfold lightG
    split
    · subst_vars; simp [nns, dps, sms]
    · obtain ⟨a1, a2, a3⟩ := hg x.L (n - 1)
      obtain ⟨b1, b2, b3⟩ := hg x.Then (g x.L (n - 1)).2
      obtain ⟨c1, c2, c3⟩ := hg x.Else (g x.Then (g x.L (n - 1)).2).2
      obtain ⟨d1, d2, d3⟩ := ih (g x.Else (g x.Then (g x.L (n - 1)).2).2).2
      simp only [nns, nn_eq, dps, dp_eq, sms, sm_eq]
      refine ⟨by omega, by omega, ⟨?_, ?_, a3, b3, c3⟩, d3⟩
      · simp; omega
      · simp; omega
theorem lightP_ok : ∀ d, LG d (lightP d)
  | 0 => fun l n => by simp [lightP, nns, dps, sms]
  | d + 1 => lightG_ok (lightP_ok d)
theorem takeMin {l : List UInt8} {k : Nat} : (l.take (if (k : Int) < (l.length : Int) then (k : Int) else (l.length : Int)).toNat).drop (0 : Int).toNat = l.take k := by
  split
  · simp
  · simp
    rw [List.take_of_length_le (by omega)]
theorem cutMin (l : List UInt8) (k : Nat) : cutL l 0 (if (k : Int) < (l.length : Int) then (k : Int) else (l.length : Int)) = some (l.take k) := by
  rw [cutL_ok (by omega) (by split <;> omega) (by split <;> omega), takeMin]
def LIs (g : List api_Node → Nat → List api_Node × Nat) (f : List api_Node → Int → Option (List api_Node × Int)) : Prop := ∀ (l : List api_Node) (n : Nat), n ≤ 60 → f l n = some ((g l n).1, ((g l n).2 : Int))
theorem light_L1 {d : Nat} (hd : d + 1 ≤ 15) (hf : LIs (lightP d) (fun l n => nunciolaw19_Light l d n)) (l : List api_Node) : ∀ k, k ≤ l.length → ∀ (n : Nat) (acc : List api_Node), acc.length = k → k + n ≤ 60 →
    nunciolaw19_Light_L1 l ((d + 1 : Nat) : Int) n acc k = some (((lightG (lightP d) (l.drop k) n).2 : Int), acc ++ (lightG (lightP d) (l.drop k) n).1) := by
  refine upto ?_ fun k hk ih => ?_
  · intro n acc _ _
    rw [nunciolaw19_Light_L1]
    simp [lightG]
  · intro n acc ha hn
    rw [nunciolaw19_Light_L1, dropE hk]
    have h40 := cutMin (l[k].Name) 40
    have h60 := cutMin (l[k].Text) 60
    simp only [ltI, hk, decide_true, if_true]
    by_cases h0 : n = 0
    · subst h0
      simp [lightG]
    · have e1 : wr (((d + 1 : Nat) : Int) - 1) = d := by rw [wr_in (by omega) (by omega)]; omega
      have e2 : wr ((n : Int) - 1) = ((n - 1 : Nat) : Int) := by rw [wr_in (by omega) (by omega)]; omega
      have hpos : decide ((n : Int) > 0) = true := decide_eq_true (by omega)
      have hpos2 : decide (((d + 1 : Nat) : Int) > 0) = true := decide_eq_true (by omega)
      simp only [hpos, hpos2, if_true, bind_some', idx_nat, getE hk, e1, e2]
      rw [show (40 : Int) = ((40 : Nat) : Int) from rfl, h40, bind_some', show (60 : Int) = ((60 : Nat) : Int) from rfl, h60, bind_some']
      obtain ⟨a1, -, -⟩ := lightP_ok d l[k].L (n - 1)
      have f1 := hf l[k].L (n - 1) (by omega)
      obtain ⟨b1, -, -⟩ := lightP_ok d l[k].Then (lightP d l[k].L (n - 1)).2
      have f2 := hf l[k].Then (lightP d l[k].L (n - 1)).2 (by omega)
      obtain ⟨c1, -, -⟩ := lightP_ok d l[k].Else (lightP d l[k].Then (lightP d l[k].L (n - 1)).2).2
      have f3 := hf l[k].Else (lightP d l[k].Then (lightP d l[k].L (n - 1)).2).2 (by omega)
      simp only at f1 f2 f3
      simp only [f1, f2, f3, bind_some']
      rw [appL_ok (by simp; omega) (by simp; omega), bind_some', wr_succ (by omega)]
      rw [ih _ _ (by simp [ha]) (by omega), lightG, if_neg h0]
      simp
theorem light_is : ∀ d, d ≤ 15 → LIs (lightP d) (fun l n => nunciolaw19_Light l (d : Nat) n)
  | 0, _ => fun l n hn => by
    have h0 : decide (((0 : Nat) : Int) > 0) = false := rfl
    show nunciolaw19_Light l ((0 : Nat) : Int) n = _
    rw [nunciolaw19_Light, nunciolaw19_Light_L1]
    simp only [h0, bind_some']
    have e : ∀ b c : Bool, (if b = true then if c = true then some false else some false else some false : Option Bool) = some false := fun b c => by cases b <;> cases c <;> rfl
    rw [e]
    rfl
  | d + 1, h => fun l n hn => by
    have := light_L1 h (light_is d (by omega)) l 0 (by omega) n [] rfl (by omega)
    show nunciolaw19_Light l ((d + 1 : Nat) : Int) n = _
    rw [nunciolaw19_Light]
    rw [show ((0 : Nat) : Int) = 0 from rfl] at this
    rw [this]
    simp [lightP]
theorem light_some (l : List api_Node) : nunciolaw19_light l = some (lightP 15 l 60).1 := by
  have := light_is 15 (by omega) l 60 (by omega)
  rw [nunciolaw19_light]
  simp only at this
  rw [show (15 : Int) = ((15 : Nat) : Int) from rfl, show (60 : Int) = ((60 : Nat) : Int) from rfl, this]
  rfl
/-- What is looked at is small. -/
theorem light_small (l : List api_Node) : nns (lightP 15 l 60).1 ≤ 60 ∧ dps (lightP 15 l 60).1 ≤ 15 ∧ sms (lightP 15 l 60).1 := by
  obtain ⟨h1, h2, h3⟩ := lightP_ok 15 l 60
  exact ⟨by omega, h2, h3⟩

/-! ### the same -/
mutual
def sameN : api_Node → api_Node → Bool
  | ⟨k, s, t, n, a, b, c⟩, y => k == y.Kind && (s == y.Name && (t == y.Text && (n == y.N && (sameL a y.L && (sameL b y.Then && sameL c y.Else)))))
def sameL : List api_Node → List api_Node → Bool
  | [], m => m.isEmpty
  | x :: r, m => match m with
    | [] => false
    | y :: q => sameN x y && sameL r q
end
theorem sameN_eq (x y : api_Node) : sameN x y = (x.Kind == y.Kind && (x.Name == y.Name && (x.Text == y.Text && (x.N == y.N && (sameL x.L y.L && (sameL x.Then y.Then && sameL x.Else y.Else)))))) := by cases x; rw [sameN]
theorem sameL_refl : ∀ n (l : List api_Node), nns l ≤ n → sameL l l = true := by
  intro n
  induction n with
  | zero => intro l h; cases l with
    | nil => simp [sameL]
    | cons x r => have := nn_pos x; simp [nns] at h; omega
  | succ n ih =>
    intro l
    induction l with
    | nil => intro _; simp [sameL]
    | cons x r ihr =>
      intro h
      rw [nns, nn_eq] at h
      rw [sameL, sameN_eq, ih _ (by omega : nns x.L ≤ n), ih _ (by omega : nns x.Then ≤ n), ih _ (by omega : nns x.Else ≤ n), ihr (by omega)]
      simp
theorem sameL_len : ∀ (a b : List api_Node), a.length ≠ b.length → sameL a b = false
  | [], [], h => absurd rfl h
  | [], y :: q, _ => by simp [sameL]
  | x :: r, [], _ => by simp [sameL]
  | x :: r, y :: q, h => by
    rw [sameL, sameL_len r q (by simpa using h)]
    simp
section
variable (n : Nat) (ih : ∀ a b : List api_Node, nns a ≤ n → tree_Same a b = some (sameL a b))
include ih
theorem tSame1 (x y : api_Node) (h : nn x ≤ n + 1) : tree_Same_1 x y = some (sameN x y) := by
  rw [nn_eq] at h
  rw [tree_Same_1, sameN_eq, ih x.L y.L (by omega), ih x.Then y.Then (by omega), ih x.Else y.Else (by omega)]
  simp only [bind_some']
  cases (x.Kind == y.Kind) <;> cases (x.Name == y.Name) <;> cases (x.Text == y.Text) <;> cases (x.N == y.N) <;> cases (sameL x.L y.L) <;> cases (sameL x.Then y.Then) <;> cases (sameL x.Else y.Else) <;> rfl
theorem tSameL (a b : List api_Node) (hl : a.length = b.length) (h : nns a ≤ n + 1) (hlen : a.length < 9223372036854775807) : ∀ k, k ≤ a.length →
    slices_EqualFunc_api_Node_api_Node_api_Node_api_Node_tree_Same_1_L1 a b k = some (if sameL (a.drop k) (b.drop k) then .inl () else .inr ()) := by
  refine upto ?_ fun k hk ihk => ?_
  · rw [slices_EqualFunc_api_Node_api_Node_api_Node_api_Node_tree_Same_1_L1]
    rw [hl, List.drop_length, ← hl, List.drop_length]
    simp [sameL]
  · have hk2 : k < b.length := by omega
    rw [slices_EqualFunc_api_Node_api_Node_api_Node_api_Node_tree_Same_1_L1, wr_succ (by omega), ihk]
    have hx := nns_mem (List.getElem_mem hk)
    simp only [ltI, hk, decide_true, if_true, idx_nat, getE hk, getE hk2, bind_some', tSame1 n ih a[k] b[k] (by omega)]
    rw [dropE hk, dropE hk2, sameL]
    cases sameN a[k] b[k] <;> rfl
end
theorem neI (a b : Nat) : ((a : Int) != (b : Int)) = (a != b) := by
  by_cases h : a = b
  · subst h; simp
  · have : (a : Int) ≠ b := by omega
    rw [bne_iff_ne.2 h, bne_iff_ne.2 this]
theorem tSame : ∀ n (a b : List api_Node), n < 9223372036854775807 → nns a ≤ n → tree_Same a b = some (sameL a b) := by
  intro n
  induction n with
  | zero =>
    intro a b _ h
    have ha : a = [] := List.eq_nil_of_length_eq_zero (by have := nns_len a; omega)
    subst ha
    rw [tree_Same, slices_EqualFunc_api_Node_api_Node_api_Node_api_Node_tree_Same_1, neI]
    cases b with
    | nil => rw [show (0 : Int) = ((0 : Nat) : Int) from rfl, slices_EqualFunc_api_Node_api_Node_api_Node_api_Node_tree_Same_1_L1]; simp [sameL]
    | cons y q => simp [sameL]
  | succ n ih =>
    intro a b hn h
    rw [tree_Same, slices_EqualFunc_api_Node_api_Node_api_Node_api_Node_tree_Same_1, neI]
    by_cases hl : a.length = b.length
    · have := tSameL n (fun a b => ih a b (by omega)) a b hl h (by have := nns_len a; omega) 0 (by omega)
      rw [show (0 : Int) = ((0 : Nat) : Int) from rfl, this]
      simp only [hl, bne_self_eq_false, Bool.false_eq_true, if_false, bind_some', List.drop_zero]
      cases sameL a b <;> rfl
    · rw [sameL_len a b hl, bne_iff_ne.2 hl]
      rfl
section
variable (n : Nat) (ih : ∀ a b : List api_Node, nns a ≤ n → R19_Same a b = some (sameL a b))
include ih
theorem rSameL (a b : List api_Node) (hl : a.length = b.length) (h : nns a ≤ n + 1) (hlen : a.length < 9223372036854775807) : ∀ k, k ≤ a.length →
    R19_Same_L1 a b k = some (if sameL (a.drop k) (b.drop k) then .inl () else .inr ()) := by
  refine upto ?_ fun k hk ihk => ?_
  · rw [R19_Same_L1]
    rw [hl, List.drop_length, ← hl, List.drop_length]
    simp [sameL]
  · have hk2 : k < b.length := by omega
    have hx := nns_mem (List.getElem_mem hk)
    rw [nn_eq] at hx
    rw [R19_Same_L1, wr_succ (by omega), ihk]
    simp only [ltI, hk, decide_true, if_true, idx_nat, getE hk, getE hk2, bind_some']
    rw [ih a[k].L b[k].L (by omega), ih a[k].Then b[k].Then (by omega), ih a[k].Else b[k].Else (by omega)]
    simp only [bind_some']
    rw [dropE hk, dropE hk2, sameL, sameN_eq]
    have e : ∀ p q : Int, (p != q) = !(p == q) := fun p q => rfl
    simp only [e]
    cases (a[k].Kind == b[k].Kind) <;> cases (a[k].Name == b[k].Name) <;> cases (a[k].Text == b[k].Text) <;> cases (a[k].N == b[k].N) <;> cases (sameL a[k].L b[k].L) <;> cases (sameL a[k].Then b[k].Then) <;> cases (sameL a[k].Else b[k].Else) <;> rfl
end
theorem rSame : ∀ n (a b : List api_Node), n < 9223372036854775807 → nns a ≤ n → R19_Same a b = some (sameL a b) := by
  intro n
  induction n with
  | zero =>
    intro a b _ h
    have ha : a = [] := List.eq_nil_of_length_eq_zero (by have := nns_len a; omega)
    subst ha
    rw [R19_Same, neI]
    cases b with
    | nil => rw [show (0 : Int) = ((0 : Nat) : Int) from rfl, R19_Same_L1]; simp [sameL]
    | cons y q => simp [sameL]
  | succ n ih =>
    intro a b hn h
    rw [R19_Same, neI]
    by_cases hl : a.length = b.length
    · have := rSameL n (fun a b => ih a b (by omega)) a b hl h (by have := nns_len a; omega) 0 (by omega)
      rw [show (0 : Int) = ((0 : Nat) : Int) from rfl, this]
      simp only [hl, bne_self_eq_false, Bool.false_eq_true, if_false, bind_some', List.drop_zero]
      cases sameL a b <;> rfl
    · rw [sameL_len a b hl, bne_iff_ne.2 hl]
      rfl
end Go.Proofs.Ytlhjieapkcnghaa
