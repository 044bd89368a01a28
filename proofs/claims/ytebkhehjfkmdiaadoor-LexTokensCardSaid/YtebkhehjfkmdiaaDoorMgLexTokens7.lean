/- The proof's texts, part 7 of 10: the walks by a logic in which data are by value, the plain laws, and at the end the law, for every input. -/
import Derived.Test.YtebkhehjfkmdiaaDoorMgLexTokens6

section
namespace Go.Proofs.YtebkhehjfkmdiaaDoor
open Go.RowKit

def rFold (neg : Bool) (n : Int) (c : UInt8) : Int := if neg then wrap64 (wrap64 (10 * n) - ((c.toNat : Int) - 48)) else wrap64 (wrap64 (10 * n) + ((c.toNat : Int) - 48))
def rnumP (l : List UInt8) : Int × Bool :=
  if l.length < 1 ∨ 20 < l.length then (0, false)
  else
    let neg := l.head? == some 45
    let rest := if neg then l.tail else l
    if rest.all isD then
      let n := rest.foldl (rFold neg) 0
      if textL n = l then (n, true) else (0, false)
    else (0, false)
theorem wrap64_rng (n : Int) : -9223372036854775808 ≤ wrap64 n ∧ wrap64 n ≤ 9223372036854775807 := by
  simp [wrap64]; omega
theorem all_at (rs : ByteArray) (k : Nat) (h : k < rs.size) : (rs.data.toList.drop k).all isD = (isD rs[k] && (rs.data.toList.drop (k + 1)).all isD) := by
  have h' : k < rs.data.toList.length := by rw [← size_len]; exact h
  rw [List.drop_eq_getElem_cons h']; rfl
theorem fold_at (neg : Bool) (rs : ByteArray) (k : Nat) (h : k < rs.size) (n : Int) : (rs.data.toList.drop k).foldl (rFold neg) n = (rs.data.toList.drop (k + 1)).foldl (rFold neg) (rFold neg n rs[k]) := by
  have h' : k < rs.data.toList.length := by rw [← size_len]; exact h
  rw [List.drop_eq_getElem_cons h']; rfl
theorem isD_int (c : UInt8) : isD c = decide ((48 : Int) ≤ (c.toNat : Int) ∧ (c.toNat : Int) ≤ 57) := by
  rw [Bool.eq_iff_iff]; simp [isD]; omega
set_option maxHeartbeats 4000000 in
theorem rnumber_any (s : ByteArray) (hs : s.size ≤ maxLen) (w : World) :
    Calls Tryd.prog 84 #[.string s] w fun e w' => e = .returned (.tuple #[.int .i64 (rnumP s.data.toList).1, .bool (rnumP s.data.toList).2]) ∧ Below w.heap.size w w' := by
  unfold maxLen at hs
  by_cases hlen : s.data.toList.length < 1 ∨ 20 < s.data.toList.length
  · have hr : rnumP s.data.toList = (0, false) := by rw [rnumP, if_pos hlen]
    rw [hr]; clear hr
    rw [← size_len] at hlen
    go_enter Tryd.func84, Tryd.ntmps84
    go_wp2_with fail
    all_goals (go_ret2; exact ⟨rfl, Below.refl _ _⟩)
  · have hl1 : 0 < s.size := by rw [size_len]; omega
    have hl2 : s.size ≤ 20 := by rw [size_len]; omega
    have hneg : (s.data.toList.head? == some 45) = decide ((s[0].toNat : Int) = 45) := by
      rw [getElem_data]
      cases hl : s.data.toList with
      | nil => rw [size_len, hl] at hl1; simp at hl1
      | cons a t => rw [Bool.eq_iff_iff]; simp [← UInt8.toNat_inj]; omega
    have hr : rnumP s.data.toList = (if (if (s.data.toList.head? == some 45) then s.data.toList.tail else s.data.toList).all isD then
      (if textL ((if (s.data.toList.head? == some 45) then s.data.toList.tail else s.data.toList).foldl (rFold (s.data.toList.head? == some 45)) 0) = s.data.toList then ((if (s.data.toList.head? == some 45) then s.data.toList.tail else s.data.toList).foldl (rFold (s.data.toList.head? == some 45)) 0, true) else (0, false)) else (0, false)) := by
      rw [rnumP, if_neg hlen]
    rw [hneg] at hr
    by_cases h45 : (s[0].toNat : Int) = 45
    · rw [decide_eq_true h45] at hr
      simp only [↓reduceIte, ← List.drop_one] at hr
      have HR := Lib.hid hr; clear hr
      clear hneg hlen
      go_enter Tryd.func84, Tryd.ntmps84
      go_wp2_with fail
      go_loop [5, 6] (fun n i => ∃ (k : Nat) (m : Int), k ≤ s.size ∧ i = .int .i64 k ∧ n = .int .i64 m ∧ -9223372036854775808 ≤ m ∧ m ≤ 9223372036854775807 ∧ (s.data.toList.drop 1).all isD = (s.data.toList.drop k).all isD ∧ (s.data.toList.drop 1).foldl (rFold true) 0 = (s.data.toList.drop k).foldl (rFold true) m) (fun _ i => s.size - (intOf i).toNat)
      case atStart => exact ⟨1, 0, by omega, rfl, rfl, by omega, by omega, rfl, rfl⟩
      case round =>
        obtain ⟨k, m, hk, rfl, rfl, hm0, hm1, hal, hfo⟩ := hrel
        have HA := Lib.hid hal; clear hal
        have HF := Lib.hid hfo; clear hfo
        by_cases hlt : k < s.size
        · have HS1 := Lib.hid (all_at s k hlt)
          have HS2 := Lib.hid (fold_at true s k hlt m)
          have hwr := wrap64_rng (wrap64 (10 * m) - ((s[k].toNat : Int) - 48))
          have HW := Lib.hid hwr; clear hwr
          generalize hck : s[k] = c at HS1 HS2 HW
          have hck2 : s[k] = c := hck
          clear hck
          by_cases hd : (48 : Int) ≤ (c.toNat : Int) ∧ (c.toNat : Int) ≤ 57
          · obtain ⟨g1, g2⟩ := hd
            go_wp2
            go_round
            case rel => exact ⟨k + 1, _, by omega, by go_num, rfl, HW.out.1, HW.out.2, by rw [HA.out, HS1.out, isD_int, decide_eq_true ⟨g1, g2⟩]; rfl, by rw [HF.out, HS2.out]; rfl⟩
            case measure => simp [intOf]; omega
          · have hbad : (s.data.toList.drop 1).all isD = false := by
              rw [HA.out, HS1.out, isD_int, decide_eq_false hd]; rfl
            have HB := Lib.hid hbad; clear hbad
            go_wp2
            all_goals
              go_ret2
              exact ⟨ret_ib (by rw [HR.out, HB.out]; rfl) (by rw [HR.out, HB.out]; rfl), Below.refl _ _⟩
        · have hge : s.size ≤ k := by omega
          have hz : s.data.toList.drop k = [] := List.drop_of_length_le (by rw [← size_len]; exact hge)
          have hall : (s.data.toList.drop 1).all isD = true := by rw [HA.out, hz]; rfl
          have hfin : (s.data.toList.drop 1).foldl (rFold true) 0 = m := by rw [HF.out, hz]; rfl
          clear hz
          have HB := Lib.hid hall; clear hall
          have HC := Lib.hid hfin; clear hfin
          by_cases hq : textL m = s.data.toList
          · have hqb : (textL m == s.toList) = true := by rw [Lib.toList_data]; simpa using hq
            have HQ := Lib.hid hq; clear hq
            go_wp2_with fail
            refine (rtext_any m hm0 hm1 _).mono ?_
            rintro e w' ⟨rfl, hb⟩
            go_wp2_with fail
            go_ret2
            exact ⟨ret_ib (by rw [HR.out, HB.out, HC.out, if_pos HQ.out]; rfl) (by rw [HR.out, HB.out, HC.out, if_pos HQ.out]; rfl), hb⟩
          · have hqb : (textL m == s.toList) = false := by rw [Lib.toList_data]; simpa using hq
            have HQ := Lib.hid hq; clear hq
            go_wp2_with fail
            refine (rtext_any m hm0 hm1 _).mono ?_
            rintro e w' ⟨rfl, hb⟩
            go_wp2_with fail
            go_ret2
            exact ⟨ret_ib (by rw [HR.out, HB.out, HC.out, if_neg HQ.out]; rfl) (by rw [HR.out, HB.out, HC.out, if_neg HQ.out]; rfl), hb⟩
    · rw [decide_eq_false h45] at hr
      simp only [Bool.false_eq_true, ↓reduceIte] at hr
      have HR := Lib.hid hr; clear hr
      have hb45 : ((s[0].toNat : Int) == 45) = false := by simpa using h45
      clear hneg hlen
      go_enter Tryd.func84, Tryd.ntmps84
      go_wp2_with fail
      go_loop [5, 6] (fun n i => ∃ (k : Nat) (m : Int), k ≤ s.size ∧ i = .int .i64 k ∧ n = .int .i64 m ∧ -9223372036854775808 ≤ m ∧ m ≤ 9223372036854775807 ∧ s.data.toList.all isD = (s.data.toList.drop k).all isD ∧ s.data.toList.foldl (rFold false) 0 = (s.data.toList.drop k).foldl (rFold false) m) (fun _ i => s.size - (intOf i).toNat)
      case atStart => exact ⟨0, 0, by omega, rfl, rfl, by omega, by omega, rfl, rfl⟩
      case round =>
        obtain ⟨k, m, hk, rfl, rfl, hm0, hm1, hal, hfo⟩ := hrel
        have HA := Lib.hid hal; clear hal
        have HF := Lib.hid hfo; clear hfo
        by_cases hlt : k < s.size
        · have HS1 := Lib.hid (all_at s k hlt)
          have HS2 := Lib.hid (fold_at false s k hlt m)
          have hwr := wrap64_rng (wrap64 (10 * m) + ((s[k].toNat : Int) - 48))
          have HW := Lib.hid hwr; clear hwr
          generalize hck : s[k] = c at HS1 HS2 HW
          have hck2 : s[k] = c := hck
          clear hck
          by_cases hd : (48 : Int) ≤ (c.toNat : Int) ∧ (c.toNat : Int) ≤ 57
          · obtain ⟨g1, g2⟩ := hd
            go_wp2
            go_round
            case rel => exact ⟨k + 1, _, by omega, by go_num, rfl, HW.out.1, HW.out.2, by rw [HA.out, HS1.out, isD_int, decide_eq_true ⟨g1, g2⟩]; rfl, by rw [HF.out, HS2.out]; rfl⟩
            case measure => simp [intOf]; omega
          · have hbad : s.data.toList.all isD = false := by
              rw [HA.out, HS1.out, isD_int, decide_eq_false hd]; rfl
            have HB := Lib.hid hbad; clear hbad
            go_wp2
            all_goals
              go_ret2
              exact ⟨ret_ib (by rw [HR.out, HB.out]; rfl) (by rw [HR.out, HB.out]; rfl), Below.refl _ _⟩
        · have hge : s.size ≤ k := by omega
          have hz : s.data.toList.drop k = [] := List.drop_of_length_le (by rw [← size_len]; exact hge)
          have hall : s.data.toList.all isD = true := by rw [HA.out, hz]; rfl
          have hfin : s.data.toList.foldl (rFold false) 0 = m := by rw [HF.out, hz]; rfl
          clear hz
          have HB := Lib.hid hall; clear hall
          have HC := Lib.hid hfin; clear hfin
          by_cases hq : textL m = s.data.toList
          · have hqb : (textL m == s.toList) = true := by rw [Lib.toList_data]; simpa using hq
            have HQ := Lib.hid hq; clear hq
            go_wp2_with fail
            refine (rtext_any m hm0 hm1 _).mono ?_
            rintro e w' ⟨rfl, hb⟩
            go_wp2_with fail
            go_ret2
            exact ⟨ret_ib (by rw [HR.out, HB.out, HC.out, if_pos HQ.out]; rfl) (by rw [HR.out, HB.out, HC.out, if_pos HQ.out]; rfl), hb⟩
          · have hqb : (textL m == s.toList) = false := by rw [Lib.toList_data]; simpa using hq
            have HQ := Lib.hid hq; clear hq
            go_wp2_with fail
            refine (rtext_any m hm0 hm1 _).mono ?_
            rintro e w' ⟨rfl, hb⟩
            go_wp2_with fail
            go_ret2
            exact ⟨ret_ib (by rw [HR.out, HB.out, HC.out, if_neg HQ.out]; rfl) (by rw [HR.out, HB.out, HC.out, if_neg HQ.out]; rfl), hb⟩

theorem wrap64_off (x : Int) : ∃ k : Int, wrap64 x = x - 18446744073709551616 * k := ⟨(x + 9223372036854775808) / 18446744073709551616, by simp only [wrap64]; omega⟩
theorem wrap64_add (x k : Int) : wrap64 (x - 18446744073709551616 * k) = wrap64 x := by simp only [wrap64]; omega
theorem wrap_step_neg (x d : Int) : wrap64 (wrap64 (10 * wrap64 x) - d) = wrap64 (10 * x - d) := by
  obtain ⟨k, hk⟩ := wrap64_off x
  obtain ⟨j, hj⟩ := wrap64_off (10 * wrap64 x)
  rw [hj, hk, ← wrap64_add (10 * x - d) (10 * k + j)]
  congr 1; omega
theorem wrap_step_pos (x d : Int) : wrap64 (wrap64 (10 * wrap64 x) + d) = wrap64 (10 * x + d) := by
  obtain ⟨k, hk⟩ := wrap64_off x
  obtain ⟨j, hj⟩ := wrap64_off (10 * wrap64 x)
  rw [hj, hk, ← wrap64_add (10 * x + d) (10 * k + j)]
  congr 1; omega
theorem fold_gen (W : Nat → Int) (g : Int → UInt8 → Int) (hs : ∀ v c, isD c = true → g (W v) c = W (v * 10 + dv c)) (l : List UInt8) (h : l.all isD = true) :
    ∀ v : Nat, l.foldl g (W v) = W (l.foldl (fun u c => u * 10 + dv c) v) := by
  induction l with
  | nil => intro v; rfl
  | cons c t ih =>
    intro v
    simp only [List.all_cons, Bool.and_eq_true] at h
    simp only [List.foldl_cons]
    rw [hs v c h.1, ih h.2]
def Wneg (v : Nat) : Int := wrap64 (-(v : Int))
def Wpos (v : Nat) : Int := wrap64 (v : Int)
theorem step_neg (v : Nat) (c : UInt8) (h : isD c = true) : rFold true (Wneg v) c = Wneg (v * 10 + dv c) := by
  have hc : (10 * (-(v : Int)) - ((c.toNat : Int) - 48)) = -((v * 10 + dv c : Nat) : Int) := by
    simp [isD] at h; unfold dv; omega
  unfold Wneg
  rw [← hc, ← wrap_step_neg, rFold, if_pos rfl]
theorem step_pos (v : Nat) (c : UInt8) (h : isD c = true) : rFold false (Wpos v) c = Wpos (v * 10 + dv c) := by
  have hc : (10 * (v : Int) + ((c.toNat : Int) - 48)) = ((v * 10 + dv c : Nat) : Int) := by
    simp [isD] at h; unfold dv; omega
  unfold Wpos
  rw [← hc, ← wrap_step_pos, rFold, if_neg (by simp)]
theorem wrap64_id (n : Int) (h : inI64 n) : wrap64 n = n := by
  obtain ⟨a, b⟩ := h; simp only [wrap64]; omega
theorem fold_rng (neg : Bool) (l : List UInt8) (n : Int) (h : inI64 n) : inI64 (l.foldl (rFold neg) n) := by
  induction l generalizing n with
  | nil => exact h
  | cons c t ih =>
    refine ih _ ?_
    unfold rFold
    split <;> exact wrap64_rng _
theorem rnumP_eq (l : List UInt8) : rnumP l = numP l := by
  by_cases hx : ∃ n, inI64 n ∧ l = textL n
  · obtain ⟨n, hn, rfl⟩ := hx
    rw [numP_text n hn]
    obtain ⟨l1, l2⟩ := textL_len n hn
    rw [rnumP, if_neg (by omega)]
    rcases Int.lt_or_le n 0 with h | h
    · have ht : textL n = 45 :: digs n.natAbs := by rw [textL, if_pos h]
      have hf := fold_gen Wneg (rFold true) step_neg (digs n.natAbs) (digs_all _) 0
      have hv : (digs n.natAbs).foldl (fun u c => u * 10 + dv c) 0 = n.natAbs := digs_val _
      have h0 : Wneg 0 = 0 := by simp [Wneg, wrap64]
      rw [hv, h0, Wneg, show (-(n.natAbs : Int)) = n by omega, wrap64_id n hn] at hf
      have e : ((textL n).head? == some 45) = true := by rw [ht]; rfl
      simp only [e, ↓reduceIte]
      have et : (textL n).tail = digs n.natAbs := by rw [ht]; rfl
      rw [et, hf, digs_all]
      simp
    · have ht : textL n = digs n.natAbs := by rw [textL, if_neg (by omega)]
      have hf := fold_gen Wpos (rFold false) step_pos (digs n.natAbs) (digs_all _) 0
      have hv : (digs n.natAbs).foldl (fun u c => u * 10 + dv c) 0 = n.natAbs := digs_val _
      have h0 : Wpos 0 = 0 := by simp [Wpos, wrap64]
      rw [hv, h0, Wpos, show (n.natAbs : Int) = n by omega, wrap64_id n hn] at hf
      have e : ((textL n).head? == some 45) = false := by
        rw [ht]; simpa using digs_head_ne n.natAbs 45 (by decide)
      simp only [e, Bool.false_eq_true, ↓reduceIte]
      rw [show (textL n).all isD = true by rw [ht]; exact digs_all _, show (textL n).foldl (rFold false) 0 = n by rw [ht]; exact hf]
      simp
  · rw [numP_false l (fun n hn e => hx ⟨n, hn, e⟩)]
    rw [rnumP]
    by_cases h1 : l.length < 1 ∨ 20 < l.length
    · rw [if_pos h1]
    · rw [if_neg h1]
      dsimp only
      rw [if_neg (c := textL _ = l) (fun e => hx ⟨_, fold_rng _ _ 0 (by unfold inI64; omega), e.symm⟩)]
      exact ite_self _
end Go.Proofs.YtebkhehjfkmdiaaDoor
end

section
namespace Go.Proofs.YtebkhehjfkmdiaaDoor
open Go.RowKit

theorem rnumber_ok (l : List UInt8) (hl : l.length ≤ 9223372036854775807) : PCall Tryd.prog 84 [sV l] (.tup [.p (iV (rnumP l).1), .p (bV (rnumP l).2)]) := by
  refine PCall.ofCallsG (R := .tuple #[.int .i64 (rnumP l).1, .bool (rnumP l).2]) (by kernel_rfl) (fun _ _ => dtup2 rfl rfl) fun w us _ hs h => ?_
  obtain ⟨a, rfl⟩ := us1 hs
  obtain ⟨_, h0'⟩ := h 0 _ a rfl rfl
  rw [given_str h0']
  refine (rnumber_any ⟨l.toArray⟩ (by show l.toArray.size ≤ 9223372036854775807; simpa using hl) w).mono fun e w' h => ?_
  first | exact h | exact ⟨h.1, below_same h.2⟩
theorem number_ok (l : List UInt8) (hl : l.length ≤ 9223372036854775807) : PCall Tryd.prog 102 [sV l] (.tup [.p (iV (numP l).1), .p (bV (numP l).2)]) := by
  refine PCall.ofCallsG (R := .tuple #[.int .i64 (numP l).1, .bool (numP l).2]) (by kernel_rfl) (fun _ _ => dtup2 rfl rfl) fun w us _ hs h => ?_
  obtain ⟨a, rfl⟩ := us1 hs
  obtain ⟨_, h0'⟩ := h 0 _ a rfl rfl
  rw [given_str h0']
  refine (number_any ⟨l.toArray⟩ (by show l.toArray.size ≤ 9223372036854775807; simpa using hl) w).mono fun e w' h => ?_
  exact ⟨h.1, below_same h.2.symm⟩
end Go.Proofs.YtebkhehjfkmdiaaDoor
end
