/- The walks of the layer kind and of its reference: names, plain kinds, elements. -/
import Derived.Test.YtbgfcbicbkijaaaKind
import Derived.Test.YtbgfcbicbkijaaaKit
namespace Go.Proofs.Ytbgfcbicbkijaaa
open Go.RowKit

theorem name_at (n : Nat) (hn : n < 10) : ([Value.string { data := #[] }, Value.string { data := #[116, 101, 120, 116] }, Value.string { data := #[110, 117, 109, 98, 101, 114] }, Value.string { data := #[116, 114, 117, 116, 104] }, Value.string { data := #[112, 97, 105, 114] }, Value.string { data := #[97, 108, 101, 114, 116] }, Value.string { data := #[103, 114, 111, 117, 112] }, Value.string { data := #[116, 101, 120, 116, 115] }, Value.string { data := #[112, 97, 105, 114, 115] }, Value.string { data := #[97, 108, 101, 114, 116, 115] }] : List Value)[n]'hn = .string ⟨(nameL n).toArray⟩ := by
  match n, hn with
  | 0, _ => rfl
  | 1, _ => rfl
  | 2, _ => rfl
  | 3, _ => rfl
  | 4, _ => rfl
  | 5, _ => rfl
  | 6, _ => rfl
  | 7, _ => rfl
  | 8, _ => rfl
  | 9, _ => rfl
  | n + 10, h => omega
theorem name_at9 (n : Nat) (hn : n < 9) : ([Value.string { data := #[116, 101, 120, 116] }, Value.string { data := #[110, 117, 109, 98, 101, 114] }, Value.string { data := #[116, 114, 117, 116, 104] }, Value.string { data := #[112, 97, 105, 114] }, Value.string { data := #[97, 108, 101, 114, 116] }, Value.string { data := #[103, 114, 111, 117, 112] }, Value.string { data := #[116, 101, 120, 116, 115] }, Value.string { data := #[112, 97, 105, 114, 115] }, Value.string { data := #[97, 108, 101, 114, 116, 115] }] : List Value)[n]'hn = .string ⟨(nameL ((n : Int) + 1)).toArray⟩ := by
  match n, hn with
  | 0, _ => rfl
  | 1, _ => rfl
  | 2, _ => rfl
  | 3, _ => rfl
  | 4, _ => rfl
  | 5, _ => rfl
  | 6, _ => rfl
  | 7, _ => rfl
  | 8, _ => rfl
  | n + 9, h => omega
set_option maxHeartbeats 2000000 in
theorem name_any (k : Int) (w : World) :
    Calls Try.prog 32 #[.int .i64 k] w fun e w' => e = .returned (.string ⟨(nameL k).toArray⟩) ∧ Below w.heap.size w w' := by
  by_cases h : k < 0 ∨ 10 ≤ k
  · have hr : nameL k = [] := by rw [nameL, if_pos h]
    rw [hr]; clear hr
    go_enter Try.func32, Try.ntmps32
    go_wp2
    all_goals
      go_ret
      exact ⟨rfl, (Below.refl _ _).alloc (Nat.le_refl _) _⟩
  · obtain ⟨n, rfl⟩ := Int.eq_ofNat_of_zero_le (by omega : 0 ≤ k)
    have hn : n < 10 := by omega
    have hx := name_at n hn
    clear h
    go_enter Try.func32, Try.ntmps32
    go_wp2
    all_goals
      go_ret
      exact ⟨rfl, (Below.refl _ _).alloc (Nat.le_refl _) _⟩
set_option maxHeartbeats 2000000 in
theorem of_any (s : ByteArray) (w : World) :
    Calls Try.prog 37 #[.string s] w fun e w' => e = .returned (.tuple #[.int .i64 (ofP s.data.toList).1, .bool (ofP s.data.toList).2]) ∧ Below w.heap.size w w' := by
  go_enter Try.func37, Try.ntmps37
  go_wp2_with fail
  go_loopw [4] (fun i wr => ∃ n : Nat, n ≤ 9 ∧ i = .int .i64 (10 - n) ∧ ofP s.data.toList = ofGo s.data.toList n ∧ Below w.heap.size w wr) (fun i _ => (10 - intOf i).toNat)
  case atStart => exact ⟨9, by omega, rfl, rfl, Below.refl _ _⟩
  case round =>
    obtain ⟨n, hn, rfl, ho, hb⟩ := hrel
    have HB := Lib.hid hb; clear hb
    have HO := Lib.hid ho; clear ho
    by_cases h0 : n = 0
    · subst h0
      go_wp2_with fail
      go_ret2
      exact ⟨ret_ib (by rw [HO.out]; rfl) (by rw [HO.out]; rfl), HB.out⟩
    · obtain ⟨m, rfl⟩ : ∃ m, n = m + 1 := ⟨n - 1, by omega⟩
      have hk : (10 : Int) - ((m + 1 : Nat) : Int) = 9 - (m : Int) := by omega
      rw [hk]
      clear hk h0
      have hm : m ≤ 8 := by omega
      by_cases he : nameL (9 - (m : Int)) = s.data.toList
      · have hq : (nameL (9 - (m : Int)) == s.toList) = true := by rw [Lib.toList_data]; simpa using he
        have hs : Hid (ofGo s.data.toList (m + 1) = (9 - (m : Int), true)) := by rw [Hid, ofGo, if_pos he]
        clear he
        have hc := fun w => name_any (9 - (m : Int)) w
        generalize nameL (9 - (m : Int)) = N at hc hq
        have HC := Lib.hid hc; clear hc
        go_wp2_with fail
        refine (HC.out _).mono ?_
        rintro e w1 ⟨rfl, b1⟩
        go_wp2_with fail
        go_ret2
        exact ⟨ret_ib (by rw [HO.out, hs.out]) (by rw [HO.out, hs.out]), HB.out.trans (b1.mono HB.out.size)⟩
      · have hq : (nameL (9 - (m : Int)) == s.toList) = false := by rw [Lib.toList_data]; simpa using he
        have hs : Hid (ofGo s.data.toList (m + 1) = ofGo s.data.toList m) := by rw [Hid, ofGo, if_neg he]
        clear he
        have hc := fun w => name_any (9 - (m : Int)) w
        generalize nameL (9 - (m : Int)) = N at hc hq
        have HC := Lib.hid hc; clear hc
        go_wp2_with fail
        refine (HC.out _).mono ?_
        rintro e w1 ⟨rfl, b1⟩
        go_wp2_with fail
        go_roundw
        case rel => exact ⟨m, by omega, by congr 1; omega, by rw [HO.out, hs.out], HB.out.trans (b1.mono HB.out.size)⟩
        case measure => simp [intOf]; omega
theorem plain_any (k : Int) (w : World) :
    Calls Try.prog 40 #[.int .i64 k] w fun e w' => e = .returned (.bool (plainB k)) ∧ w = w' := by
  go_enter Try.func40, Try.ntmps40
  go_wp2
  all_goals (go_ret; refine ⟨ret_bool ?_, rfl⟩; unfold plainB; simp; try omega)
theorem rplain_any (k : Int) (w : World) :
    Calls Try.prog 41 #[.int .i64 k] w fun e w' => e = .returned (.bool (plainB k)) ∧ w = w' := by
  go_enter Try.func41, Try.ntmps41
  go_wp2
  all_goals (go_ret; refine ⟨ret_bool ?_, rfl⟩; unfold plainB; rw [Bool.eq_iff_iff]; simp; try omega)
set_option maxHeartbeats 1000000 in
theorem elem_any (k : Int) (w : World) :
    Calls Try.prog 28 #[.int .i64 k] w fun e w' => e = .returned (.tuple #[.int .i64 (elemP k).1, .bool (elemP k).2]) ∧ w = w' := by
  go_enter Try.func28, Try.ntmps28
  go_wp2
  all_goals (go_ret2; refine ⟨ret_ib ?_ ?_, rfl⟩ <;> simp_all [elemP])
set_option maxHeartbeats 1000000 in
theorem relem_any (k : Int) (w : World) :
    Calls Try.prog 29 #[.int .i64 k] w fun e w' => e = .returned (.tuple #[.int .i64 (elemP k).1, .bool (elemP k).2]) ∧ w = w' := by
  go_enter Try.func29, Try.ntmps29
  go_wp2
  all_goals (go_ret2; refine ⟨ret_ib ?_ ?_, rfl⟩ <;> simp_all [elemP])
set_option maxHeartbeats 2000000 in
theorem rname_any (k : Int) (h0 : -9223372036854775808 ≤ k) (h1 : k ≤ 9223372036854775807) (w : World) :
    Calls Try.prog 39 #[.int .i64 k] w fun e w' => e = .returned (.string ⟨(nameL k).toArray⟩) ∧ Below w.heap.size w w' := by
  by_cases h : k < 1 ∨ 9 < k
  · have hr : nameL k = [] := by
      rw [nameL]
      split
      · rfl
      · have : k = 0 := by omega
        subst this; rfl
    rw [hr]; clear hr
    go_enter Try.func39, Try.ntmps39
    go_wp2
    all_goals
      go_ret
      exact ⟨rfl, Below.refl _ _⟩
  · obtain ⟨n, rfl⟩ : ∃ n : Nat, k = (n : Int) + 1 := ⟨(k - 1).toNat, by omega⟩
    have hn : n < 9 := by omega
    have hx := name_at9 n hn
    clear h h0 h1
    go_enter Try.func39, Try.ntmps39
    go_wp2
    go_ret
    exact ⟨rfl, (Below.refl _ _).alloc (Nat.le_refl _) _⟩
end Go.Proofs.Ytbgfcbicbkijaaa
