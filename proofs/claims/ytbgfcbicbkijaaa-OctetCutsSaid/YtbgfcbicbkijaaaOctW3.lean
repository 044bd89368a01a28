/- The walks of the layer octet and of its reference: the number of a text. -/
import Derived.Test.YtbgfcbicbkijaaaOctW2
import Derived.Test.YtbgfcbicbkijaaaShelf
import Derived.Deep.DeepCutAuto
import Derived.Deep.CutRange
namespace Go.Proofs.Ytbgfcbicbkijaaa
open Go.RowKit

def numCore (below : Bool) (rest : List UInt8) : Int × Bool :=
  if rest = [] ∨ (1 < rest.length ∧ rest.head? = some 48) ∨ (below = true ∧ rest = [48]) then (0, false)
  else match numGo (if below then 9223372036854775808 else 9223372036854775807) rest 0 with
    | some u => (if below then -(u : Int) else u, true)
    | none => (0, false)
theorem numP_core (l : List UInt8) : numP l = numCore (Lib.hasPrefix l [45]) (Lib.trimPrefix l [45]) := by
  cases l with
  | nil => simp [numP, numCore, Lib.hasPrefix, Lib.trimPrefix]
  | cons a t =>
    by_cases ha : a = 45
    · subst ha; simp [numP, numCore, Lib.hasPrefix, Lib.trimPrefix]; rfl
    · have hb : ¬ (45 : UInt8) = a := fun e => ha e.symm
      simp [numP, numCore, Lib.hasPrefix, Lib.trimPrefix, hb, ha]; rfl
theorem numGo_at (most : Nat) (rs : ByteArray) (k n : Nat) (h : k < rs.size) : numGo most (rs.data.toList.drop k) n =
    if isD rs[k] && decide (n ≤ (most - dv rs[k]) / 10) then numGo most (rs.data.toList.drop (k + 1)) (n * 10 + dv rs[k]) else none := by
  have h' : k < rs.data.toList.length := by rw [← size_len]; exact h
  rw [List.drop_eq_getElem_cons h']; rfl
theorem neg_u64 (u : Nat) (h : u ≤ 9223372036854775808) : wrap64 (IntKind.u64.wrap (-(u : Int))) = -(u : Int) := by
  simp [wrap64, IntKind.wrap, IntKind.bits, IntKind.signed]
  omega
theorem digit_cond (most n : Nat) (h9 : 9 ≤ most) (c : UInt8) : (isD c && decide (n ≤ (most - dv c) / 10)) = decide ((48 : Int) ≤ (c.toNat : Int) ∧ (c.toNat : Int) ≤ 57 ∧ (n : Int) ≤ ((most : Int) - ((c.toNat : Int) - 48)) / 10) := by
  rw [Bool.eq_iff_iff]; simp only [isD, dv, Bool.and_eq_true, decide_eq_true_eq, Nat.le_div_iff_mul_le (show 0 < 10 by decide), Int.le_ediv_iff_mul_le (show (0 : Int) < 10 by decide)]
  omega
def badB (below : Bool) (rs : ByteArray) : Bool := rs.toList.isEmpty || (decide (1 < (rs.size : Int)) && (if h : 0 < rs.size then ((rs[0].toNat : Int) == 48) else false)) || (below && rs.toList == [48])
theorem badB_eq (below : Bool) (rs : ByteArray) : badB below rs = (rs.data.toList.isEmpty || (decide (1 < rs.data.toList.length) && decide ((rs.data.toList.getD 0 0).toNat = 48)) || (below && rs.data.toList == [48])) := by
  unfold badB
  rw [Lib.toList_data]
  congr 2
  by_cases h1 : 1 < (rs.size : Int)
  · have h0 : 0 < rs.size := by omega
    rw [dif_pos h0, getElem_data, size_len]
    rw [size_len] at h1
    have h2 : 1 < rs.data.toList.length := by omega
    rw [decide_eq_true h1, decide_eq_true h2]
    simp only [Bool.true_and]
    rw [Bool.eq_iff_iff]; simp; omega
  · have h2 : ¬ 1 < rs.data.toList.length := by rw [← size_len]; omega
    rw [decide_eq_false h1, decide_eq_false h2]; simp
theorem bad_true (below : Bool) (rs : ByteArray) (h : badB below rs = true) : numCore below rs.data.toList = (0, false) := by
  rw [numCore, if_pos]
  rw [badB_eq] at h
  simp only [Bool.or_eq_true, Bool.and_eq_true, decide_eq_true_eq, List.isEmpty_iff, beq_iff_eq] at h
  rcases h with (h | ⟨h1, h2⟩) | h
  · exact .inl h
  · refine .inr (.inl ⟨h1, ?_⟩)
    cases hl : rs.data.toList with
    | nil => rw [hl] at h1; simp at h1
    | cons a t => rw [hl] at h2; simp at h2; simp [← UInt8.toNat_inj, h2]
  · exact .inr (.inr h)
theorem bad_false (below : Bool) (rs : ByteArray) (h : badB below rs = false) : numCore below rs.data.toList =
    match numGo (if below then 9223372036854775808 else 9223372036854775807) rs.data.toList 0 with
    | some u => (if below then -(u : Int) else u, true)
    | none => (0, false) := by
  rw [numCore, if_neg]
  rw [badB_eq] at h
  rintro (h' | ⟨h1, h2⟩ | ⟨h1, h2⟩)
  · simp [h'] at h
  · cases hl : rs.data.toList with
    | nil => rw [hl] at h1; simp at h1
    | cons a t =>
      rw [hl] at h2; simp at h2; subst h2
      rw [hl] at h h1
      simp at h1; simp [h1] at h
  · simp [h1, h2] at h
set_option maxHeartbeats 4000000 in
theorem number_core (below : Bool) (s rs : ByteArray) (hs : rs.size ≤ maxLen) (w : World)
    (hc : ∀ w, Calls Try.prog 52 #[.string s, .string ⟨#[45]⟩] w fun e w' => e = .returned (.tuple #[.string rs, .bool below]) ∧ w' = w) :
    Calls Try.prog 33 #[.string s] w fun e w' => e = .returned (.tuple #[.int .i64 (numCore below rs.data.toList).1, .bool (numCore below rs.data.toList).2]) ∧ w = w' := by
  unfold maxLen at hs
  have HC := Lib.hid hc; clear hc
  have hb1 := bad_true below rs
  have hb2 := bad_false below rs
  have HB1 := Lib.hid hb1; clear hb1
  have HB2 := Lib.hid hb2; clear hb2
  cases below
  all_goals
    go_enter Try.func33, Try.ntmps33
    go_upto_region 2 with ((go_at_call 52; refine (HC.out _).mono ?_; rintro e w' ⟨rfl, rfl⟩))
  · go_cut [33] (fun c wx => c = .bool (badB false rs) ∧ wx = w')
    case first =>
      go_wp2_with fail
      all_goals
        go_meet
        refine ⟨congrArg Value.bool ?_, rfl⟩
        unfold badB
        first
          | (simp [*]; done)
          | (simp [*]; intros; omega)
          | (rw [show decide (1 < (rs.size : Int)) = false from decide_eq_false (by omega)]; simp)
    case rest =>
      obtain ⟨rfl, rfl⟩ := hcut
      cases hbad : badB false rs
      · have hr := HB2.out hbad
        simp only [Bool.false_eq_true, ↓reduceIte] at hr
        have HR := Lib.hid hr; clear hr
        go_wp2_with fail
        go_loop [7, 39] (fun u i => ∃ (k n : Nat), k ≤ rs.size ∧ i = .int .i64 k ∧ u = .int .u64 n ∧ n ≤ 9223372036854775807 ∧ numGo 9223372036854775807 rs.data.toList 0 = numGo 9223372036854775807 (rs.data.toList.drop k) n) (fun _ i => rs.size - (intOf i).toNat)
        case atStart => exact ⟨0, 0, by omega, rfl, rfl, by omega, by simp⟩
        case round =>
          obtain ⟨k, n, hk, rfl, rfl, hn, hg⟩ := hrel
          have HG := Lib.hid hg; clear hg
          by_cases hlt : k < rs.size
          · have hstep := numGo_at 9223372036854775807 rs k n hlt
            have HS := Lib.hid hstep; clear hstep
            generalize hck : rs[k] = c at HS
            have hck2 : rs[k] = c := hck
            clear hck
            by_cases hgood : (48 : Int) ≤ (c.toNat : Int) ∧ (c.toNat : Int) ≤ 57 ∧ (n : Int) ≤ (9223372036854775807 - ((c.toNat : Int) - 48)) / 10
            · obtain ⟨g1, g2, g3⟩ := hgood
              go_wp2
              go_round
              case rel => exact ⟨k + 1, n * 10 + dv c, by omega, by go_num, by congr 1; unfold dv; omega, by unfold dv; omega, by rw [HG.out, HS.out, if_pos (by rw [digit_cond _ _ (by omega)]; exact decide_eq_true ⟨g1, g2, by omega⟩)]⟩
              case measure => simp [intOf]; omega
            · have hbad : numGo 9223372036854775807 rs.data.toList 0 = none := by
                rw [HG.out, HS.out, if_neg]
                rw [digit_cond _ _ (by omega)]; intro e; exact hgood (of_decide_eq_true e)
              have HB := Lib.hid hbad; clear hbad
              go_wp2
              all_goals
                go_ret2
                exact ⟨ret_ib (by rw [HR.out, HB.out]) (by rw [HR.out, HB.out]), rfl⟩
          · have hge : rs.size ≤ k := by omega
            have hfin : numGo 9223372036854775807 rs.data.toList 0 = some n := by
              rw [HG.out, List.drop_of_length_le (by rw [← size_len]; exact hge)]; rfl
            have HB := Lib.hid hfin; clear hfin
            go_wp2
            go_ret2
            exact ⟨ret_ib (by rw [HR.out, HB.out]) (by rw [HR.out, HB.out]), rfl⟩
      · have HR := Lib.hid (HB1.out hbad)
        go_wp2_with fail
        go_ret2
        exact ⟨ret_ib (by rw [HR.out]) (by rw [HR.out]), rfl⟩
  · go_cut [33] (fun c wx => c = .bool (badB true rs) ∧ wx = w')
    case first =>
      go_wp2_with fail
      all_goals
        go_meet
        refine ⟨congrArg Value.bool ?_, rfl⟩
        unfold badB
        first
          | (simp [*]; done)
          | (simp [*]; intros; omega)
          | (rw [show decide (1 < (rs.size : Int)) = false from decide_eq_false (by omega)]; simp)
    case rest =>
      obtain ⟨rfl, rfl⟩ := hcut
      cases hbad : badB true rs
      · have hr := HB2.out hbad
        simp only [↓reduceIte] at hr
        have HR := Lib.hid hr; clear hr
        go_wp2_with fail
        go_loop [7, 39] (fun u i => ∃ (k n : Nat), k ≤ rs.size ∧ i = .int .i64 k ∧ u = .int .u64 n ∧ n ≤ 9223372036854775808 ∧ numGo 9223372036854775808 rs.data.toList 0 = numGo 9223372036854775808 (rs.data.toList.drop k) n) (fun _ i => rs.size - (intOf i).toNat)
        case atStart => exact ⟨0, 0, by omega, rfl, rfl, by omega, by simp⟩
        case round =>
          obtain ⟨k, n, hk, rfl, rfl, hn, hg⟩ := hrel
          have HG := Lib.hid hg; clear hg
          by_cases hlt : k < rs.size
          · have hstep := numGo_at 9223372036854775808 rs k n hlt
            have HS := Lib.hid hstep; clear hstep
            generalize hck : rs[k] = c at HS
            have hck2 : rs[k] = c := hck
            clear hck
            by_cases hgood : (48 : Int) ≤ (c.toNat : Int) ∧ (c.toNat : Int) ≤ 57 ∧ (n : Int) ≤ (9223372036854775808 - ((c.toNat : Int) - 48)) / 10
            · obtain ⟨g1, g2, g3⟩ := hgood
              go_wp2
              go_round
              case rel => exact ⟨k + 1, n * 10 + dv c, by omega, by go_num, by congr 1; unfold dv; omega, by unfold dv; omega, by rw [HG.out, HS.out, if_pos (by rw [digit_cond _ _ (by omega)]; exact decide_eq_true ⟨g1, g2, by omega⟩)]⟩
              case measure => simp [intOf]; omega
            · have hbad : numGo 9223372036854775808 rs.data.toList 0 = none := by
                rw [HG.out, HS.out, if_neg]
                rw [digit_cond _ _ (by omega)]; intro e; exact hgood (of_decide_eq_true e)
              have HB := Lib.hid hbad; clear hbad
              go_wp2
              all_goals
                go_ret2
                exact ⟨ret_ib (by rw [HR.out, HB.out]) (by rw [HR.out, HB.out]), rfl⟩
          · have hge : rs.size ≤ k := by omega
            have hfin : numGo 9223372036854775808 rs.data.toList 0 = some n := by
              rw [HG.out, List.drop_of_length_le (by rw [← size_len]; exact hge)]; rfl
            have HB := Lib.hid hfin; clear hfin
            go_wp2
            go_ret2
            exact ⟨ret_ib ((neg_u64 n hn).trans (by rw [HR.out, HB.out])) (by rw [HR.out, HB.out]), rfl⟩
      · have HR := Lib.hid (HB1.out hbad)
        go_wp2_with fail
        go_ret2
        exact ⟨ret_ib (by rw [HR.out]) (by rw [HR.out]), rfl⟩

theorem number_any (s : ByteArray) (hs : s.size ≤ maxLen) (w : World) :
    Calls Try.prog 33 #[.string s] w fun e w' => e = .returned (.tuple #[.int .i64 (numP s.data.toList).1, .bool (numP s.data.toList).2]) ∧ w = w' := by
  have h := number_core (Lib.hasPrefix s.data.toList [45]) s ⟨(Lib.trimPrefix s.data.toList [45]).toArray⟩ (by
    have := Lib.trimPrefix_le s.data.toList [45]
    rw [size_len] at hs ⊢; simp only []; omega) w (fun w => Try.strings_CutPrefix s ⟨#[45]⟩ w)
  rw [numP_core]
  exact h
end Go.Proofs.Ytbgfcbicbkijaaa
