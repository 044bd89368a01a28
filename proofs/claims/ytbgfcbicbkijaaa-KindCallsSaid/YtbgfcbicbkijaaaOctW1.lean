/- The walks of the layer octet and of its reference: pairs of digits, bytes, lists of texts. -/
import Derived.Test.YtbgfcbicbkijaaaOctW
namespace Go.Proofs.Ytbgfcbicbkijaaa
open Go.RowKit

set_option maxHeartbeats 400000 in
theorem few_any (s : ByteArray) (hs : s.size ≤ maxLen) (w : World) :
    Calls Try.prog 11 #[.string s] w fun e w' => e = .returned (.string ⟨(s.data.toList.take 300).toArray⟩) ∧ w = w' := by
  unfold maxLen at hs
  have hx : s.extract 0 (min s.size 300) = ⟨(s.data.toList.take 300).toArray⟩ := by
    rw [Lib.extract_eq, size_len, List.drop_zero, Nat.sub_zero]
    congr 2
    rw [List.take_eq_take_iff]; omega
  by_cases h : (s.size : Int) ≤ 300
  · have e : s.extract 0 (min s.size 300) = s := by
      rw [Lib.extract_eq, size_len, List.drop_zero, Nat.sub_zero, List.take_of_length_le (by rw [size_len] at h; omega), Lib.mk_data]
    rw [← hx, e]; clear hx e
    go_enter Try.func11, Try.ntmps11
    go_wp2
    go_ret
    exact ⟨rfl, rfl⟩
  · have e : min s.size 300 = 300 := by omega
    rw [e] at hx
    rw [← hx]; clear hx e
    go_enter Try.func11, Try.ntmps11
    go_wp2
    go_ret
    exact ⟨rfl, rfl⟩
def hexD : List UInt8 := [48, 49, 50, 51, 52, 53, 54, 55, 56, 57, 65, 66, 67, 68, 69, 70]
def pairL (c : Int) : List UInt8 := [hexD[(c / 16).toNat]?.getD 0, hexD[(c % 16).toNat]?.getD 0]
theorem hex_at (n : Nat) (h : n < 16) : (({ data := #[48, 49, 50, 51, 52, 53, 54, 55, 56, 57, 65, 66, 67, 68, 69, 70] } : ByteArray)[n]'h) = hexD[n]?.getD 0 := by
  have : ∀ k : Fin 16, (({ data := #[48, 49, 50, 51, 52, 53, 54, 55, 56, 57, 65, 66, 67, 68, 69, 70] } : ByteArray)[k.1]'k.2) = hexD[k.1]?.getD 0 := by decide
  exact this ⟨n, h⟩
set_option maxHeartbeats 400000 in
theorem pair_any (c : Int) (h0 : 0 ≤ c) (h1 : c ≤ 255) (w : World) :
    Calls Try.prog 13 #[.int .u8 c] w fun e w' => e = .returned (.string ⟨(pairL c).toArray⟩) ∧ Below w.heap.size w w' := by
  have a1 : 0 ≤ c / 16 := by omega
  have a2 : c / 16 < 16 := by omega
  have a3 : 0 ≤ c % 16 := by omega
  have a4 : c % 16 < 16 := by omega
  have hx := hex_at
  have kc := fun W => conv2 (P := Try.prog) 51 9 5 Try.underlying51 Try.underlying5 Try.underlying9 w.heap.size (hexD[(c / 16).toNat]?.getD 0) (hexD[(c % 16).toNat]?.getD 0) 2 W
  go_enter Try.func13, Try.ntmps13
  go_wp2
  go_region
  go_wp2
  go_ret
  exact ⟨rfl, ((Below.refl _ _).alloc (Nat.le_refl _) _).drew⟩
set_option maxHeartbeats 400000 in
theorem rpair_any (c : Int) (h0 : 0 ≤ c) (h1 : c ≤ 255) (w : World) :
    Calls Try.prog 15 #[.int .u8 c] w fun e w' => e = .returned (.string ⟨(pairL c).toArray⟩) ∧ Below w.heap.size w w' := by
  have a1 : 0 ≤ c / 16 := by omega
  have a2 : c / 16 < 16 := by omega
  have a3 : 0 ≤ c % 16 := by omega
  have a4 : c % 16 < 16 := by omega
  go_enter Try.func15, Try.ntmps15
  go_wp2
  go_quiet (fail)
  go_wp2
  go_ret
  refine ⟨ret_str ?_, below_drewN (Below.refl _ _) _⟩
  have key : ∀ a b : Fin 16, (({ data := #[48, 49, 50, 51, 52, 53, 54, 55, 56, 57, 65, 66, 67, 68, 69, 70] } : ByteArray).extract a.1 (a.1 + 1) ++ ({ data := #[48, 49, 50, 51, 52, 53, 54, 55, 56, 57, 65, 66, 67, 68, 69, 70] } : ByteArray).extract b.1 (b.1 + 1)).data.toList = [hexD[a.1]?.getD 0, hexD[b.1]?.getD 0] := by decide
  have := key ⟨(c / 16).toNat, by omega⟩ ⟨(c % 16).toNat, by omega⟩
  rw [← Lib.mk_data (_ ++ _), pairL, ← this]
  rw [show (c / 16 + 1).toNat = (c / 16).toNat + 1 by omega, show (c % 16 + 1).toNat = (c % 16).toNat + 1 by omega]
def rbyteP (l : List UInt8) (at_ : Int) : Int × Bool :=
  if at_ < 0 ∨ at_ > (l.length : Int) - 2 then (0, false)
  else let x := digitV (l.getD at_.toNat 0).toNat; let y := digitV (l.getD (at_.toNat + 1) 0).toNat
    if x > 15 ∨ y > 15 then (0, false) else (16 * x + y, true)
set_option maxHeartbeats 800000 in
theorem rbyte_any (s : ByteArray) (at_ : Int) (h0 : -9223372036854775808 ≤ at_) (h1 : at_ ≤ 9223372036854775807) (hs : s.size ≤ maxLen) (w : World) :
    Calls Try.prog 14 #[.string s, .int .i64 at_] w fun e w' => e = .returned (.tuple #[.int .u8 (rbyteP s.data.toList at_).1, .bool (rbyteP s.data.toList at_).2]) ∧ Below w.heap.size w w' := by
  unfold maxLen at hs
  by_cases hn : at_ < 0
  · have hr : rbyteP s.data.toList at_ = (0, false) := by rw [rbyteP, if_pos (.inl hn)]
    rw [hr]; clear hr
    go_enter Try.func14, Try.ntmps14
    go_wp2_with fail
    go_ret2
    exact ⟨rfl, Below.refl _ _⟩
  · obtain ⟨i, rfl⟩ := Int.eq_ofNat_of_zero_le (by omega : 0 ≤ at_)
    by_cases hi : (i : Int) > (s.size : Int) - 2
    · have hr : rbyteP s.data.toList i = (0, false) := by rw [rbyteP, if_pos (.inr (by rw [← size_len]; exact hi))]
      rw [hr]; clear hr
      go_enter Try.func14, Try.ntmps14
      go_wp2_with fail
      go_ret2
      exact ⟨rfl, Below.refl _ _⟩
    · have b1 : i < s.size := by omega
      have b2 : i + 1 < s.size := by omega
      have hx := byte_lt s[i]
      have hy := byte_lt s[i+1]
      have hr : Hid (rbyteP s.data.toList i = if digitV s[i].toNat > 15 ∨ digitV s[i+1].toNat > 15 then (0, false) else (16 * digitV s[i].toNat + digitV s[i+1].toNat, true)) := by
        rw [Hid, rbyteP, if_neg (by rw [← size_len]; omega)]; simp only [getElem_data, Int.toNat_natCast]
      generalize hxx : s[i] = x at hx hr
      generalize hyy : s[i+1] = y at hy hr
      have dx := digit_rng x.toNat
      have dy := digit_rng y.toNat
      go_enter Try.func14, Try.ntmps14
      go_wp2_with fail
      go_quiet ((go_at_call 46; exact Calls.quiet_of_same (digit_any _ (by omega) (by omega) _)))
      go_wp2
      all_goals
        go_ret2
        refine ⟨ret_ib ?_ ?_, below_drewN (Below.refl _ _) _⟩ <;> rw [hr.out] <;> first | (rw [if_pos (by omega)]; done) | rw [if_neg (by omega)]
set_option maxHeartbeats 800000 in
theorem same_any (a b : Value) (l r : List (List UInt8)) (ok ok' : Nat → Prop) (w : World) (ha : Sl w ok a l.length (strC l)) (hb : Sl w ok' b r.length (strC r)) :
    Calls Try.prog 22 #[a, b] w fun e w' => e = .returned (.bool (decide (l = r))) ∧ Below w.heap.size w w' := by
  obtain ⟨pa, ca, rfl, ha1, ha2, ha3⟩ := ha
  obtain ⟨pb, cb, rfl, hb1, hb2, hb3⟩ := hb
  unfold maxLen at ha2 hb2
  by_cases hl : l.length = r.length
  · go_enter Try.func22, Try.ntmps22
    go_wp2
    go_loopw [5] (fun i wr => ∃ (k q : Nat), k ≤ l.length ∧ i = .int .i64 k ∧ l.take k = r.take k ∧ wr = w.drewN q) (fun i _ => l.length - (intOf i).toNat)
    case atStart => exact ⟨0, 0, by omega, rfl, rfl, rfl⟩
    case round =>
      obtain ⟨k, q, hk, rfl, ht, rfl⟩ := hrel
      have HT := Lib.hid ht; clear ht
      have HL := Lib.hid hl; clear hl
      by_cases hlt : k < l.length
      · have hlr : k < r.length := by have := HL.out; omega
        obtain ⟨b, off, rfl, -, c1⟩ := ha3 k _ (strC_get l k hlt)
        obtain ⟨b', off', rfl, -, c2⟩ := hb3 k _ (strC_get r k hlr)
        have HA := Lib.hid ha3; clear ha3
        have HB := Lib.hid hb3; clear hb3
        by_cases he : l[k] = r[k]
        · have hbe : (l[k] == r[k]) = true := by simpa using he
          have HE := Lib.hid he; clear he
          go_wp2
          go_quiet (fail)
          go_wp2
          go_roundw
          case rel => exact ⟨k + 1, q + _, by omega, by go_num, by rw [List.take_succ_eq_append_getElem hlt, List.take_succ_eq_append_getElem hlr, HT.out, HE.out], rfl⟩
          case measure => simp [intOf]; omega
        · have hbe : (l[k] == r[k]) = false := by simpa using he
          have HE := Lib.hid he; clear he
          go_wp2
          go_quiet (fail)
          go_wp2
          go_ret
          refine ⟨ret_bool ?_, below_drewN (below_drewN (Below.refl _ _) _) _⟩
          simp; intro h; apply HE.out; simp [h]
      · have hk2 : k = l.length := by omega
        have hk3 : Hid (l = r) := by
          have := HT.out; rw [hk2, List.take_length, HL.out, List.take_length] at this; exact this
        have hge : l.length ≤ k := by omega
        clear hk2
        go_wp2
        go_ret
        exact ⟨ret_bool (by simpa using hk3.out), below_drewN (Below.refl _ _) _⟩
  · go_enter Try.func22, Try.ntmps22
    go_wp2
    go_ret
    exact ⟨ret_bool (by simp; intro h; exact hl (by rw [h])), Below.refl _ _⟩
end Go.Proofs.Ytbgfcbicbkijaaa
