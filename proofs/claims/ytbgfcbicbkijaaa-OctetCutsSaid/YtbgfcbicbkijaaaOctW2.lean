/- The walks of the layer octet and of its reference: numbers as texts. -/
import Derived.Test.YtbgfcbicbkijaaaOctW1
namespace Go.Proofs.Ytbgfcbicbkijaaa
open Go.RowKit

theorem conv1 {P : Program} (src dst e : TypeId) (hs : P.underlying src = some (.slice e)) (he : P.underlying e = some (.int .u8)) (hd : P.underlying dst = some .string)
   (x : Int) (y : UInt8) (hxy : x = y.toNat) (b c : Nat) (W : World) (h0 : W.cell? ⟨b, 0, none⟩ = some (.int .u8 x)) :
   (convert src dst (.slice (some ⟨b, 0, none⟩) 1 c)).run P W = .ok (.string ⟨#[y]⟩) W := by
  subst hxy
  have := run_convert_bytes_back (P := P) W src dst e ⟨b, 0, none⟩ c [y] hs he hd (by
    intro j hj
    have hj2 : j = 0 := by simp at hj; omega
    subst hj2
    simpa [Addr.add] using h0)
  exact this
theorem bs_app (a b : List UInt8) : (⟨a.toArray⟩ : ByteArray) ++ (⟨b.toArray⟩ : ByteArray) = ⟨(a ++ b).toArray⟩ := by
  rw [← Lib.mk_data (_ ++ _)]; simp
set_option maxHeartbeats 800000 in
theorem digits_any (m : Nat) (h : m < 18446744073709551616) (w : World) :
    Calls Try.prog 53 #[.int .u64 m] w fun e w' => e = .returned (.string ⟨(digs m).toArray⟩) ∧ Below w.heap.size w w' := by
  go_enter Try.func53, Try.ntmps53
  go_wp2
  go_loopw [0, 3] (fun n s wr => ∃ (u : Nat) (suf : List UInt8), u < 18446744073709551616 ∧ n = .int .u64 u ∧ s = .string ⟨suf.toArray⟩ ∧ digs m = digs u ++ suf ∧ Below w.heap.size w wr) (fun n _ _ => (intOf n).toNat)
  case atStart => exact ⟨m, [], h, rfl, rfl, by simp, Below.refl _ _⟩
  case round =>
    obtain ⟨u, suf, hu, rfl, rfl, hd, hb⟩ := hrel
    have hsl : suf.length ≤ 20 := by
      have e := congrArg List.length hd
      have := digs_len m 19 (by omega)
      simp at e; omega
    have HD := Lib.hid hd; clear hd
    have HB := Lib.hid hb; clear hb
    by_cases hlt : 9 < u
    · have kc := conv1 (P := Try.prog) 51 9 5 Try.underlying51 Try.underlying5 Try.underlying9 (48 + (u : Int) % 10) (UInt8.ofNat (48 + u % 10)) (dig_byte u).symm
      go_wp2
      go_roundw
      case rel => exact ⟨u / 10, (48 + UInt8.ofNat (u % 10)) :: suf, by omega, by simp, congrArg Value.string (bs_app [_] suf), by rw [HD.out, digs_ge u (by omega)]; simp, HB.out.trans ((Below.refl _ _).alloc HB.out.size _)⟩
      case measure => simp [intOf]; omega
    · have kc := conv1 (P := Try.prog) 51 9 5 Try.underlying51 Try.underlying5 Try.underlying9 (48 + (u : Int)) (UInt8.ofNat (48 + u)) (by simp; omega)
      go_wp2
      go_ret
      refine ⟨ret_str ?_, HB.out.trans ((Below.refl _ _).alloc HB.out.size _)⟩
      rw [HD.out, digs_lt u (by omega)]
      rw [show UInt8.ofNat (48 + u) = 48 + UInt8.ofNat u from by simp]
      exact bs_app [_] suf
set_option maxHeartbeats 800000 in
theorem rtext_any (n : Int) (h0 : -9223372036854775808 ≤ n) (h1 : n ≤ 9223372036854775807) (w : World) :
    Calls Try.prog 36 #[.int .i64 n] w fun e w' => e = .returned (.string ⟨(textL n).toArray⟩) ∧ Below w.heap.size w w' := by
  rcases Int.lt_or_le n 0 with hn | hn
  · obtain ⟨m, rfl⟩ : ∃ m : Nat, n = -((m : Int) + 1) := ⟨(-n - 1).toNat, by omega⟩
    have ht : textL (-((m : Int) + 1)) = 45 :: digs (m + 1) := by
      rw [textL, if_pos hn]; congr 2
    have hdg := fun w => digits_any (m + 1) (by omega) w
    have hl : (digs (m + 1)).length ≤ 20 := digs_len _ 19 (by omega)
    rw [ht]; clear ht
    generalize digs (m + 1) = D at hdg hl
    have HG := Lib.hid hdg; clear hdg
    go_enter Try.func36, Try.ntmps36
    go_wp2_with fail
    rw [show -(-((m : Int) + 1) + 1) + 1 = ((m + 1 : Nat) : Int) from by omega]
    refine (HG.out _).mono ?_
    rintro e w' ⟨rfl, hb⟩
    go_wp2_with fail
    go_ret
    exact ⟨ret_str (bs_app [45] _), hb⟩
  · obtain ⟨m, rfl⟩ := Int.eq_ofNat_of_zero_le hn
    have ht : textL (m : Int) = digs m := by
      rw [textL, if_neg (by omega), Int.natAbs_natCast]
    rw [ht]; clear ht
    have hdg := fun w => digits_any m (by omega) w
    generalize digs m = D at hdg
    have HG := Lib.hid hdg; clear hdg
    go_enter Try.func36, Try.ntmps36
    go_wp2_with fail
    refine (HG.out _).mono ?_
    rintro e w' ⟨rfl, hb⟩
    go_wp2_with fail
    go_ret
    exact ⟨rfl, hb⟩
end Go.Proofs.Ytbgfcbicbkijaaa
