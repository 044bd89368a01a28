/- The walks of the layer octet and of its reference. -/
import Derived.Test.YtlhjieapkcnghaaOct
import Derived.Test.YtlhjieapkcnghaaKit
namespace Go.Proofs.Ytlhjieapkcnghaa
open Go.RowKit

def ByteRow (C : Array Value) (k : Nat) (suf : List UInt8) : Prop := C.size = 20 ∧ suf.length = k ∧ k ≤ 20 ∧ C.toList.drop (20 - k) = suf.map fun b => Value.int .u8 b.toNat

theorem byteRow_push {C : Array Value} {k : Nat} {suf : List UInt8} (h : ByteRow C k suf) (hk : k < 20) (b : UInt8) (v : Value) (hv : v = .int .u8 b.toNat) (i : Nat) (hi : i = 19 - k) :
    ByteRow (C.setIfInBounds i v) (k + 1) (b :: suf) := by
  obtain ⟨h1, h2, h3, h4⟩ := h
  subst hi hv
  refine ⟨by simpa using h1, by simp [h2], by omega, ?_⟩
  have e : 20 - (k + 1) = 19 - k := by omega
  have hl : C.toList.length = 20 := by simpa using h1
  rw [e, Array.toList_setIfInBounds, List.drop_set, if_neg (by omega), List.map_cons, ← h4, List.drop_eq_getElem_cons (i := 19 - k) (by omega)]
  have e2 : 19 - k + 1 = 20 - k := by omega
  simp [e2]

theorem wrap_neg_u64 (m : Nat) (h : m ≤ 9223372036854775808) : IntKind.u64.wrap (-IntKind.u64.wrap (-(m : Int))) = m := by
  simp only [IntKind.wrap, IntKind.bits, IntKind.signed, Bool.false_and, Bool.false_eq_true, if_false]; omega
theorem dig_byte (u : Nat) : (((UInt8.ofNat (48 + u % 10)).toNat : Nat) : Int) = 48 + (u : Int) % 10 := by
  simp; omega
theorem todo_pos {k u : Nat} (h : k = 0 ∨ 0 < u) : 0 < (todo k u).length := by
  unfold todo; rw [if_pos h]; exact digs_pos u
theorem byteRow_cell {C : Array Value} {k : Nat} {suf : List UInt8} (h : ByteRow C k suf) (i : Nat) (hi : i < 20) : ∃ v, C[i]? = some v :=
  ⟨C[i]'(by have := h.1; omega), Array.getElem?_eq_getElem _⟩
theorem more_next (k u : Nat) : Value.bool (decide ((0 : Int) < (u : Int) / 10)) = .bool (decide (k + 1 = 0 ∨ 0 < u / 10)) := by
  congr 1; simp; omega
theorem byteRow_read {C : Array Value} {k : Nat} {suf : List UInt8} (h : ByteRow C k suf) : ∀ j (hj : j < suf.length), C[20 - k + j]? = some (.int .u8 (suf[j].toNat : Int)) := by
  obtain ⟨h1, h2, h3, h4⟩ := h
  intro j hj
  have : (C.toList.drop (20 - k))[j]? = some (.int .u8 (suf[j].toNat : Int)) := by rw [h4]; simp [List.getElem?_eq_getElem hj]
  rw [List.getElem?_drop] at this
  rw [← this]; simp

set_option maxRecDepth 100000 in
set_option maxHeartbeats 4000000 in
theorem text_any (n : Int) (h0 : -9223372036854775808 ≤ n) (h1 : n ≤ 9223372036854775807) (w : World) :
    Calls Try.prog 126 #[.int .i64 n] w fun e w' => e = .returned (.string ⟨(textL n).toArray⟩) ∧ Below w.heap.size w w' := by
  rcases Int.lt_or_le n 0 with hn | hn
  · obtain ⟨m, rfl⟩ : ∃ m : Nat, n = -(m : Int) := ⟨n.natAbs, by omega⟩
    have hl : Hid ((digs m).length ≤ 19) := digs_len m 18 (by omega)
    have e5 := wrap_neg_u64 m (by omega)
    have hm0 : 0 < m := by omega
    go_enter Try.func126, Try.ntmps126
    go_wp2
    clear e5
    go_loopw [4, 5, 7] (fun i u more wr => ∃ (k u' : Nat) (suf : List UInt8) (C : Array Value), k ≤ 19 ∧ i = .int .i64 (20 - k) ∧ u = .int .u64 u' ∧ u' ≤ 9223372036854775808 ∧ more = .bool (decide (k = 0 ∨ 0 < u')) ∧ ByteRow C k suf ∧ digs m = todo k u' ++ suf ∧ wr = w.alloc (.cells C 150)) (fun i _ _ _ => (intOf i).toNat)
    case atStart => exact ⟨0, m, [], _, by omega, rfl, rfl, by omega, by simp, ⟨rfl, rfl, by omega, by simp⟩, by simp [todo], rfl⟩
    case round =>
      obtain ⟨k, u, suf, C, hk, rfl, rfl, hu, rfl, hC, hd, rfl⟩ := hrel
      have HC := Lib.hid hC; clear hC
      have HD := Lib.hid hd; clear hd
      by_cases hm : k = 0 ∨ 0 < u
      · have hk19 : k < 19 := by
          have e := congrArg List.length HD.out
          have := todo_pos hm
          have := hl.out; have := HC.out.2.1
          simp at e; omega
        obtain ⟨v0, hv0⟩ := byteRow_cell HC.out (20 - k - 1) (by omega)
        have hmd : decide (k = 0 ∨ 0 < u) = true := by simpa using hm
        rw [hmd]
        clear hmd
        have HM := Lib.hid hm; clear hm
        go_wp2
        go_roundw
        case rel => exact ⟨k + 1, u / 10, _, _, by omega, by congr 1; omega, by simp, by omega, more_next k u, byteRow_push HC.out (by omega) (UInt8.ofNat (48 + u % 10)) _ (by rw [dig_byte]) _ (by omega), by rw [HD.out, todo_step k u HM.out]; simp, rfl⟩
        case measure => simp [intOf]; omega
      · have hmd : decide (k = 0 ∨ 0 < u) = false := by simpa using hm
        rw [hmd]
        clear hmd
        have hm1 : ¬ k = 0 := by omega
        have hm2 : ¬ 0 < u := by omega
        obtain ⟨v0, hv0⟩ := byteRow_cell HC.out (20 - k - 1) (by omega)
        have HM := Lib.hid hm; clear hm
        have hdm : digs m = suf := by rw [HD.out, todo, if_neg HM.out]; rfl
        have ks := fun W => slice_arr (P := Try.prog) 150 w.heap.size 20 (20 - k - 1) (20 - (k : Int) - 1) (by omega) (by omega) (by kernel_rfl) (by kernel_rfl) (by kernel_rfl) W
        have hrow := byteRow_push HC.out (by omega) 45 (.int .u8 45) rfl (20 - k - 1) (by omega)
        have htl : textL (-(m : Int)) = 45 :: suf := by simp [textL, hm0, hdm]
        have kc := conv_out (P := Try.prog) 49 9 5 Try.underlying49 Try.underlying5 Try.underlying9 ⟨w.heap.size, 20 - k - 1, none⟩ (textL (-m)) (20 - (20 - k - 1)) (20 - (20 - k - 1)) (by rw [htl]; simp; have := HC.out.2.1; omega) (w.alloc (.cells (C.setIfInBounds (20 - k - 1) (.int .u8 45)) 150)) (by
          rw [htl]
          intro j hj
          have := byteRow_read hrow j hj
          rw [add_at, World.cell?_alloc_mark]
          rw [show 20 - k - 1 + j = 20 - (k + 1) + j by omega]
          exact this)
        clear hrow hdm htl
        go_wp2
        go_ret
        exact ⟨rfl, (Below.refl _ _).alloc (Nat.le_refl _) _⟩
  · obtain ⟨m, rfl⟩ := Int.eq_ofNat_of_zero_le hn
    have hl : Hid ((digs m).length ≤ 19) := digs_len m 18 (by omega)
    go_enter Try.func126, Try.ntmps126
    go_wp2
    go_loopw [4, 5, 7] (fun i u more wr => ∃ (k u' : Nat) (suf : List UInt8) (C : Array Value), k ≤ 19 ∧ i = .int .i64 (20 - k) ∧ u = .int .u64 u' ∧ u' ≤ 9223372036854775808 ∧ more = .bool (decide (k = 0 ∨ 0 < u')) ∧ ByteRow C k suf ∧ digs m = todo k u' ++ suf ∧ wr = w.alloc (.cells C 150)) (fun i _ _ _ => (intOf i).toNat)
    case atStart => exact ⟨0, m, [], _, by omega, rfl, rfl, by omega, by simp, ⟨rfl, rfl, by omega, by simp⟩, by simp [todo], rfl⟩
    case round =>
      obtain ⟨k, u, suf, C, hk, rfl, rfl, hu, rfl, hC, hd, rfl⟩ := hrel
      have HC := Lib.hid hC; clear hC
      have HD := Lib.hid hd; clear hd
      by_cases hm : k = 0 ∨ 0 < u
      · have hk19 : k < 19 := by
          have e := congrArg List.length HD.out
          have := todo_pos hm
          have := hl.out; have := HC.out.2.1
          simp at e; omega
        obtain ⟨v0, hv0⟩ := byteRow_cell HC.out (20 - k - 1) (by omega)
        have hmd : decide (k = 0 ∨ 0 < u) = true := by simpa using hm
        rw [hmd]
        clear hmd
        have HM := Lib.hid hm; clear hm
        go_wp2
        go_roundw
        case rel => exact ⟨k + 1, u / 10, _, _, by omega, by congr 1; omega, by simp, by omega, more_next k u, byteRow_push HC.out (by omega) (UInt8.ofNat (48 + u % 10)) _ (by rw [dig_byte]) _ (by omega), by rw [HD.out, todo_step k u HM.out]; simp, rfl⟩
        case measure => simp [intOf]; omega
      · have hmd : decide (k = 0 ∨ 0 < u) = false := by simpa using hm
        rw [hmd]
        clear hmd
        have hm1 : 1 ≤ k := by omega
        have HM := Lib.hid hm; clear hm
        have htl : textL (m : Int) = suf := by rw [textL, if_neg (by omega), Int.natAbs_natCast, HD.out, todo, if_neg HM.out]; rfl
        have ks := fun W => slice_arr (P := Try.prog) 150 w.heap.size 20 (20 - k) (20 - (k : Int)) (by omega) (by omega) (by kernel_rfl) (by kernel_rfl) (by kernel_rfl) W
        have kc := conv_out (P := Try.prog) 49 9 5 Try.underlying49 Try.underlying5 Try.underlying9 ⟨w.heap.size, 20 - k, none⟩ (textL m) (20 - (20 - k)) (20 - (20 - k)) (by rw [htl]; have := HC.out.2.1; omega) (w.alloc (.cells C 150)) (by
          rw [htl]
          intro j hj
          rw [add_at, World.cell?_alloc_mark]
          exact byteRow_read HC.out j hj)
        clear htl
        go_wp2
        go_ret
        exact ⟨rfl, (Below.refl _ _).alloc (Nat.le_refl _) _⟩

def digitV (c : Int) : Int := if 48 ≤ c ∧ c ≤ 57 then c - 48 else if 65 ≤ c ∧ c ≤ 70 then c - 55 else if 97 ≤ c ∧ c ≤ 102 then c - 87 else 16
theorem digit_rng (c : Nat) : 0 ≤ digitV c ∧ digitV c ≤ 16 := by
  unfold digitV
  split
  · omega
  · split
    · omega
    · split <;> omega
set_option maxHeartbeats 400000 in
theorem digit_any (c : Int) (h0 : 0 ≤ c) (h1 : c ≤ 255) (w : World) :
    Calls Try.prog 100 #[.int .u8 c] w fun e w' => e = .returned (.int .i64 (digitV c)) ∧ w' = w := by
  go_enter Try.func100, Try.ntmps100
  go_wp2
  all_goals (go_ret; refine ⟨?_, rfl⟩; simp only [digitV])
  all_goals (congr 2 <;> simp <;> (try split) <;> omega)
end Go.Proofs.Ytlhjieapkcnghaa
