/- The walks of the layer octet and of its reference. -/
import Derived.Test.YtbgfcbicbkijaaaOct
import Derived.Test.YtbgfcbicbkijaaaKit
namespace Go.Proofs.Ytbgfcbicbkijaaa
open Go.RowKit

def ByteRow (C : Array Value) (k : Nat) (suf : List UInt8) : Prop := C.size = 20 ∧ suf.length = k ∧ k ≤ 20 ∧ C.toList.drop (20 - k) = suf.map fun b => Value.int .u8 b.toNat

theorem byteRow_push {C : Array Value} {k : Nat} {suf : List UInt8} (h : ByteRow C k suf) (hk : k < 20) (b : UInt8) (v : Value) (hv : v = .int .u8 b.toNat) (i : Nat) (hi : i = 19 - k) :
    ByteRow (C.setIfInBounds i v) (k + 1) (b :: suf) := by
  obtain ⟨h1, h2, h3, h4⟩ := h
  subst hi hv
  refine ⟨by simpa using h1, by simp [h2], by omega, ?_⟩
  have e : 20 - (k + 1) = 19 - k := by omega
  have hl : C.toList.length = 20 := by simpa using h1
  rw [e, Array.toList_setIfInBounds, List.drop_set, if_neg (by omega), List.map_cons, ← h4, List.drop_eq_getElem_cons (i := 19 - k) (by omega)]
  have e2 : 19 - k + 1 = 20 - k := by omega
  simp [e2]

theorem wrap_neg_u64 (m : Nat) (h : m ≤ 9223372036854775808) : IntKind.u64.wrap (-IntKind.u64.wrap (-(m : Int))) = m := by
  simp only [IntKind.wrap, IntKind.bits, IntKind.signed, Bool.false_and, Bool.false_eq_true, if_false]; omega
theorem dig_byte (u : Nat) : (((UInt8.ofNat (48 + u % 10)).toNat : Nat) : Int) = 48 + (u : Int) % 10 := by
  simp; omega
theorem todo_pos {k u : Nat} (h : k = 0 ∨ 0 < u) : 0 < (todo k u).length := by
  unfold todo; rw [if_pos h]; exact digs_pos u
theorem byteRow_cell {C : Array Value} {k : Nat} {suf : List UInt8} (h : ByteRow C k suf) (i : Nat) (hi : i < 20) : ∃ v, C[i]? = some v :=
  ⟨C[i]'(by have := h.1; omega), Array.getElem?_eq_getElem _⟩
theorem more_next (k u : Nat) : Value.bool (decide ((0 : Int) < (u : Int) / 10)) = .bool (decide (k + 1 = 0 ∨ 0 < u / 10)) := by
  congr 1; simp; omega
theorem byteRow_read {C : Array Value} {k : Nat} {suf : List UInt8} (h : ByteRow C k suf) : ∀ j (hj : j < suf.length), C[20 - k + j]? = some (.int .u8 (suf[j].toNat : Int)) := by
  obtain ⟨h1, h2, h3, h4⟩ := h
  intro j hj
  have : (C.toList.drop (20 - k))[j]? = some (.int .u8 (suf[j].toNat : Int)) := by rw [h4]; simp [List.getElem?_eq_getElem hj]
  rw [List.getElem?_drop] at this
  rw [← this]; simp

set_option maxHeartbeats 1000000 in
theorem text_any (n : Int) (h0 : -9223372036854775808 ≤ n) (h1 : n ≤ 9223372036854775807) (w : World) :
    Calls Try.prog 34 #[.int .i64 n] w fun e w' => e = .returned (.string ⟨(textL n).toArray⟩) ∧ Below w.heap.size w w' := by
  rcases Int.lt_or_le n 0 with hn | hn
  · obtain ⟨m, rfl⟩ : ∃ m : Nat, n = -(m : Int) := ⟨n.natAbs, by omega⟩
    have hl : Hid ((digs m).length ≤ 19) := digs_len m 18 (by omega)
    have e5 := wrap_neg_u64 m (by omega)
    have hm0 : 0 < m := by omega
    go_enter Try.func34, Try.ntmps34
    go_wp2
    clear e5
    go_loopw [4, 5, 7] (fun i u more wr => ∃ (k u' : Nat) (suf : List UInt8) (C : Array Value), k ≤ 19 ∧ i = .int .i64 (20 - k) ∧ u = .int .u64 u' ∧ u' ≤ 9223372036854775808 ∧ more = .bool (decide (k = 0 ∨ 0 < u')) ∧ ByteRow C k suf ∧ digs m = todo k u' ++ suf ∧ wr = w.alloc (.cells C 72)) (fun i _ _ _ => (intOf i).toNat)
    case atStart => exact ⟨0, m, [], _, by omega, rfl, rfl, by omega, by simp, ⟨rfl, rfl, by omega, by simp⟩, by simp [todo], rfl⟩
    case round =>
      obtain ⟨k, u, suf, C, hk, rfl, rfl, hu, rfl, hC, hd, rfl⟩ := hrel
      have HC := Lib.hid hC; clear hC
      have HD := Lib.hid hd; clear hd
      by_cases hm : k = 0 ∨ 0 < u
      · have hk19 : k < 19 := by
          have e := congrArg List.length HD.out
          have := todo_pos hm
          have := hl.out; have := HC.out.2.1
          simp at e; omega
        obtain ⟨v0, hv0⟩ := byteRow_cell HC.out (20 - k - 1) (by omega)
        have hmd : decide (k = 0 ∨ 0 < u) = true := by simpa using hm
        rw [hmd]
        clear hmd
        have HM := Lib.hid hm; clear hm
        go_wp2
        go_roundw
        case rel => exact ⟨k + 1, u / 10, _, _, by omega, by congr 1; omega, by simp, by omega, more_next k u, byteRow_push HC.out (by omega) (UInt8.ofNat (48 + u % 10)) _ (by rw [dig_byte]) _ (by omega), by rw [HD.out, todo_step k u HM.out]; simp, rfl⟩
        case measure => simp [intOf]; omega
      · have hmd : decide (k = 0 ∨ 0 < u) = false := by simpa using hm
        rw [hmd]
        clear hmd
        have hm1 : ¬ k = 0 := by omega
        have hm2 : ¬ 0 < u := by omega
        obtain ⟨v0, hv0⟩ := byteRow_cell HC.out (20 - k - 1) (by omega)
        have HM := Lib.hid hm; clear hm
        have hdm : digs m = suf := by rw [HD.out, todo, if_neg HM.out]; rfl
        have ks := fun W => slice_arr (P := Try.prog) 72 w.heap.size 20 (20 - k - 1) (20 - (k : Int) - 1) (by omega) (by omega) (by kernel_rfl) (by kernel_rfl) (by kernel_rfl) W
        have hrow := byteRow_push HC.out (by omega) 45 (.int .u8 45) rfl (20 - k - 1) (by omega)
        have htl : textL (-(m : Int)) = 45 :: suf := by simp [textL, hm0, hdm]
        have kc := conv_out (P := Try.prog) 51 9 5 Try.underlying51 Try.underlying5 Try.underlying9 ⟨w.heap.size, 20 - k - 1, none⟩ (textL (-m)) (20 - (20 - k - 1)) (20 - (20 - k - 1)) (by rw [htl]; simp; have := HC.out.2.1; omega) (w.alloc (.cells (C.setIfInBounds (20 - k - 1) (.int .u8 45)) 72)) (by
          rw [htl]
          intro j hj
          have := byteRow_read hrow j hj
          rw [add_at, World.cell?_alloc_mark]
          rw [show 20 - k - 1 + j = 20 - (k + 1) + j by omega]
          exact this)
        clear hrow hdm htl
        go_wp2
        go_ret
        exact ⟨rfl, (Below.refl _ _).alloc (Nat.le_refl _) _⟩
  · obtain ⟨m, rfl⟩ := Int.eq_ofNat_of_zero_le hn
    have hl : Hid ((digs m).length ≤ 19) := digs_len m 18 (by omega)
    go_enter Try.func34, Try.ntmps34
    go_wp2
    go_loopw [4, 5, 7] (fun i u more wr => ∃ (k u' : Nat) (suf : List UInt8) (C : Array Value), k ≤ 19 ∧ i = .int .i64 (20 - k) ∧ u = .int .u64 u' ∧ u' ≤ 9223372036854775808 ∧ more = .bool (decide (k = 0 ∨ 0 < u')) ∧ ByteRow C k suf ∧ digs m = todo k u' ++ suf ∧ wr = w.alloc (.cells C 72)) (fun i _ _ _ => (intOf i).toNat)
    case atStart => exact ⟨0, m, [], _, by omega, rfl, rfl, by omega, by simp, ⟨rfl, rfl, by omega, by simp⟩, by simp [todo], rfl⟩
    case round =>
      obtain ⟨k, u, suf, C, hk, rfl, rfl, hu, rfl, hC, hd, rfl⟩ := hrel
      have HC := Lib.hid hC; clear hC
      have HD := Lib.hid hd; clear hd
      by_cases hm : k = 0 ∨ 0 < u
      · have hk19 : k < 19 := by
          have e := congrArg List.length HD.out
          have := todo_pos hm
          have := hl.out; have := HC.out.2.1
          simp at e; omega
        obtain ⟨v0, hv0⟩ := byteRow_cell HC.out (20 - k - 1) (by omega)
        have hmd : decide (k = 0 ∨ 0 < u) = true := by simpa using hm
        rw [hmd]
        clear hmd
        have HM := Lib.hid hm; clear hm
        go_wp2
        go_roundw
        case rel => exact ⟨k + 1, u / 10, _, _, by omega, by congr 1; omega, by simp, by omega, more_next k u, byteRow_push HC.out (by omega) (UInt8.ofNat (48 + u % 10)) _ (by rw [dig_byte]) _ (by omega), by rw [HD.out, todo_step k u HM.out]; simp, rfl⟩
        case measure => simp [intOf]; omega
      · have hmd : decide (k = 0 ∨ 0 < u) = false := by simpa using hm
        rw [hmd]
        clear hmd
        have hm1 : 1 ≤ k := by omega
        have HM := Lib.hid hm; clear hm
        have htl : textL (m : Int) = suf := by rw [textL, if_neg (by omega), Int.natAbs_natCast, HD.out, todo, if_neg HM.out]; rfl
        have ks := fun W => slice_arr (P := Try.prog) 72 w.heap.size 20 (20 - k) (20 - (k : Int)) (by omega) (by omega) (by kernel_rfl) (by kernel_rfl) (by kernel_rfl) W
        have kc := conv_out (P := Try.prog) 51 9 5 Try.underlying51 Try.underlying5 Try.underlying9 ⟨w.heap.size, 20 - k, none⟩ (textL m) (20 - (20 - k)) (20 - (20 - k)) (by rw [htl]; have := HC.out.2.1; omega) (w.alloc (.cells C 72)) (by
          rw [htl]
          intro j hj
          rw [add_at, World.cell?_alloc_mark]
          exact byteRow_read HC.out j hj)
        clear htl
        go_wp2
        go_ret
        exact ⟨rfl, (Below.refl _ _).alloc (Nat.le_refl _) _⟩

def worthV (c : Int) : Int := if 48 ≤ c ∧ c ≤ 57 then c - 48 else if 97 ≤ bits .or .u8 c 32 ∧ bits .or .u8 c 32 ≤ 102 then bits .or .u8 c 32 - 87 else 0
def worthB (c : Int) : Bool := decide (48 ≤ c ∧ c ≤ 57 ∨ 97 ≤ bits .or .u8 c 32 ∧ bits .or .u8 c 32 ≤ 102)
set_option maxHeartbeats 400000 in
theorem worth_any (c : Int) (h0 : 0 ≤ c) (h1 : c ≤ 255) (w : World) :
    Calls Try.prog 45 #[.int .u8 c] w fun e w' => e = .returned (.tuple #[.int .u8 (worthV c), .bool (worthB c)]) ∧ w = w' := by
  go_enter Try.func45, Try.ntmps45
  go_wp2
  all_goals (go_ret2; refine ⟨?_, rfl⟩; simp only [worthV, worthB])
  all_goals (congr 5 <;> simp <;> (try split) <;> omega)
theorem worth_rng {c : Int} (h : worthB c = true) : 0 ≤ worthV c ∧ worthV c ≤ 15 := by
  have h2 := of_decide_eq_true h
  unfold worthV
  split
  · omega
  · split <;> omega
theorem or_nib : ∀ a b : Fin 16, bits .or .u8 (((a.1 : Nat) : Int) * 16 % 256) ((b.1 : Nat) : Int) = 16 * ((a.1 : Nat) : Int) + ((b.1 : Nat) : Int) := by decide
theorem or_pair {x y : Int} (hx : worthB x = true) (hy : worthB y = true) : bits .or .u8 (worthV x * 16 % 256) (worthV y) = 16 * worthV x + worthV y := by
  obtain ⟨a1, a2⟩ := worth_rng hx
  obtain ⟨b1, b2⟩ := worth_rng hy
  have := or_nib ⟨(worthV x).toNat, by omega⟩ ⟨(worthV y).toNat, by omega⟩
  simp only [Int.toNat_of_nonneg a1, Int.toNat_of_nonneg b1] at this
  exact this
/-- The byte whose two digits stand at a place of a text. -/
def byteP (l : List UInt8) (at_ : Int) : Int × Bool :=
  if at_ < 0 ∨ at_ > (l.length : Int) - 2 then (0, false)
  else let x : Int := (l.getD at_.toNat 0).toNat; let y : Int := (l.getD (at_.toNat + 1) 0).toNat
    if worthB x && worthB y then (16 * worthV x + worthV y, true) else (0, false)
set_option maxHeartbeats 800000 in
theorem byte_any (s : ByteArray) (at_ : Int) (h0 : -9223372036854775808 ≤ at_) (h1 : at_ ≤ 9223372036854775807) (hs : s.size ≤ maxLen) (w : World) :
    Calls Try.prog 12 #[.string s, .int .i64 at_] w fun e w' => e = .returned (.tuple #[.int .u8 (byteP s.data.toList at_).1, .bool (byteP s.data.toList at_).2]) ∧ w = w' := by
  unfold maxLen at hs
  by_cases hn : at_ < 0
  · have hr : byteP s.data.toList at_ = (0, false) := by rw [byteP, if_pos (.inl hn)]
    rw [hr]; clear hr
    go_enter Try.func12, Try.ntmps12
    go_wp2_with fail
    go_ret2
    exact ⟨rfl, rfl⟩
  · obtain ⟨i, rfl⟩ := Int.eq_ofNat_of_zero_le (by omega : 0 ≤ at_)
    by_cases hi : (i : Int) > (s.size : Int) - 2
    · have hr : byteP s.data.toList i = (0, false) := by rw [byteP, if_pos (.inr (by rw [← size_len]; exact hi))]
      rw [hr]; clear hr
      go_enter Try.func12, Try.ntmps12
      go_wp2_with fail
      go_ret2
      exact ⟨rfl, rfl⟩
    · have b1 : i < s.size := by omega
      have b2 : i + 1 < s.size := by omega
      have hx := byte_lt s[i]
      have hy := byte_lt s[i+1]
      have hr : Hid (byteP s.data.toList i = if worthB s[i].toNat && worthB s[i+1].toNat then (16 * worthV s[i].toNat + worthV s[i+1].toNat, true) else (0, false)) := by
        rw [Hid, byteP, if_neg (by rw [← size_len]; omega)]; simp only [getElem_data, Int.toNat_natCast]
      generalize hxx : s[i] = x at hx hr
      generalize hyy : s[i+1] = y at hy hr
      cases hvx : worthB x.toNat <;> cases hvy : worthB y.toNat
      all_goals
        go_enter Try.func12, Try.ntmps12
        go_wp2_with fail
        refine (worth_any _ (by omega) (by omega) _).mono ?_
        rintro e w' ⟨rfl, rfl⟩
        go_wp2_with fail
        refine (worth_any _ (by omega) (by omega) _).mono ?_
        rintro e w' ⟨rfl, rfl⟩
        go_wp2_with fail
        go_ret2
        refine ⟨ret_ib ?_ ?_, rfl⟩ <;> rw [hr.out] <;> simp [hvx, hvy, or_pair]
def digitV (c : Int) : Int := if 48 ≤ c ∧ c ≤ 57 then c - 48 else if 65 ≤ c ∧ c ≤ 70 then c - 55 else if 97 ≤ c ∧ c ≤ 102 then c - 87 else 16
theorem digit_rng (c : Nat) : 0 ≤ digitV c ∧ digitV c ≤ 16 := by
  unfold digitV
  split
  · omega
  · split
    · omega
    · split <;> omega
set_option maxHeartbeats 400000 in
theorem digit_any (c : Int) (h0 : 0 ≤ c) (h1 : c ≤ 255) (w : World) :
    Calls Try.prog 46 #[.int .u8 c] w fun e w' => e = .returned (.int .i64 (digitV c)) ∧ w' = w := by
  go_enter Try.func46, Try.ntmps46
  go_wp2
  all_goals (go_ret; refine ⟨?_, rfl⟩; simp only [digitV])
  all_goals (congr 2 <;> simp <;> (try split) <;> omega)
end Go.Proofs.Ytbgfcbicbkijaaa
