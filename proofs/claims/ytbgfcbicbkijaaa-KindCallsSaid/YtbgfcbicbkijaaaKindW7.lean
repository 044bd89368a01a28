/- The walk of kind's Call at count, write, same and at no name. Printed by mkcall7.py. -/
import Derived.Test.YtbgfcbicbkijaaaKindW6
namespace Go.Proofs.Ytbgfcbicbkijaaa
open Go.RowKit

theorem one_of {L : List Int} (h : L.length = 1) : ∃ x, L = [x] := by
  match L, h with
  | [x], _ => exact ⟨x, rfl⟩
theorem two_of {L : List Int} (h : L.length = 2) : ∃ x y, L = [x, y] := by
  match L, h with
  | [x, y], _ => exact ⟨x, y, rfl⟩
theorem count_not {L : List Int} (h : L.length ≠ 1) : countP L = (0, false) := by
  unfold countP
  split
  · exact absurd rfl h
  · rfl
theorem same_not {L : List Int} (h : L.length ≠ 2) : sameP L = (0, false) := by
  unfold sameP
  split
  · exact absurd rfl h
  · rfl
theorem write_not {L : List Int} (h : [3] ≠ L) : writeP L = isP 1 [2] L := by unfold writeP; rw [if_neg h]
theorem progCall_none {n : List UInt8} {L : List Int} (h : n ∉ callsL) : progCall n L = (0, false) := by
  unfold progCall
  simp only [callsL, List.mem_cons, List.mem_nil_iff, or_false, not_or] at h
  obtain ⟨h0, h1, h2, h3, h4, h5, h6, h7, h8, h9, h10, h11, h12, h13, h14, h15, h16, h17, h18, h19, h20, h21⟩ := h
  simp [h0, h1, h2, h3, h4, h5, h6, h7, h8, h9, h10, h11, h12, h13, h14, h15, h16, h17, h18, h19, h20, h21]
theorem below_one (w : World) (o : Obj) : Below w.heap.size w (w.alloc o) := (Below.refl w.heap.size w).alloc (Nat.le_refl _) o
theorem below_oneq (w : World) (o : Obj) (q : Nat) : Below w.heap.size w ((w.alloc o).drewN q) := by
  have h := below_one w o
  exact ⟨h.os, h.tape, h.output, h.size, h.block⟩
theorem below_twoq (w : World) (o o' : Obj) (q p : Nat) : Below w.heap.size w ((((w.alloc o).drewN q).alloc o').drewN p) := by
  have h := (below_oneq w o q).alloc (by simp [World.drewN]) o'
  exact ⟨h.os, h.tape, h.output, h.size, h.block⟩

set_option maxHeartbeats 4000000 in
set_option maxRecDepth 100000 in
theorem call_count (s : ByteArray) (L : List Int) (lv : Value) (ok : Nat → Prop) (w : World) (hl : Sl w ok lv L.length (intC L)) (h : s.toList = [99, 111, 117, 110, 116]) : CallGoal s L lv w := by
  have hP : progCall s.toList L = countP L := by rw [h]; rfl
  rw [CallGoal, hP]; clear hP
  obtain ⟨a, cap, rfl, hl1, hl2, hl3⟩ := hl
  unfold maxLen at hl2
  by_cases h1 : L.length = 1
  · obtain ⟨x, rfl⟩ := one_of h1
    obtain ⟨b, off, rfl, -, c1⟩ := hl3 0 _ rfl
    have hlt := cell_lt c1
    have c2 : w.cell? ⟨b, off, none⟩ = some (.int .i64 x) := c1
    clear c1
    clear hl3 h1
    have t_upper : (s.toList == [117, 112, 112, 101, 114]) = false := by rw [h]; rfl
    have t_lower : (s.toList == [108, 111, 119, 101, 114]) = false := by rw [h]; rfl
    have t_trim : (s.toList == [116, 114, 105, 109]) = false := by rw [h]; rfl
    have t_size : (s.toList == [115, 105, 122, 101]) = false := by rw [h]; rfl
    have t_first : (s.toList == [102, 105, 114, 115, 116]) = false := by rw [h]; rfl
    have t_last : (s.toList == [108, 97, 115, 116]) = false := by rw [h]; rfl
    have t_default : (s.toList == [100, 101, 102, 97, 117, 108, 116]) = false := by rw [h]; rfl
    have t_cat : (s.toList == [99, 97, 116]) = false := by rw [h]; rfl
    have t_replace : (s.toList == [114, 101, 112, 108, 97, 99, 101]) = false := by rw [h]; rfl
    have t_join : (s.toList == [106, 111, 105, 110]) = false := by rw [h]; rfl
    have t_keys : (s.toList == [107, 101, 121, 115]) = false := by rw [h]; rfl
    have t_get : (s.toList == [103, 101, 116]) = false := by rw [h]; rfl
    have t_has : (s.toList == [104, 97, 115]) = false := by rw [h]; rfl
    have t_count : (s.toList == [99, 111, 117, 110, 116]) = true := by rw [h]; rfl
    clear h
    cases he : (elemP x).2
    · have hR : countP [x] = (0, false) := by simp [countP, he]
      rw [hR]; clear hR
      go_enter Try.func20, Try.ntmps20
      go_wp2_with (go_at_call 28; refine (elem_any _ _).mono ?_; rintro e w' ⟨rfl, rfl⟩)
      go_ret2
      exact ⟨rfl, below_one _ _⟩
    · have hR : countP [x] = (2, true) := by simp [countP, he]
      rw [hR]; clear hR
      go_enter Try.func20, Try.ntmps20
      go_wp2_with (go_at_call 28; refine (elem_any _ _).mono ?_; rintro e w' ⟨rfl, rfl⟩)
      go_ret2
      exact ⟨rfl, below_one _ _⟩
  · rw [count_not h1]
    clear hl3
    have hb : ((L.length : Int) == 1) = false := by simp; omega
    have t_upper : (s.toList == [117, 112, 112, 101, 114]) = false := by rw [h]; rfl
    have t_lower : (s.toList == [108, 111, 119, 101, 114]) = false := by rw [h]; rfl
    have t_trim : (s.toList == [116, 114, 105, 109]) = false := by rw [h]; rfl
    have t_size : (s.toList == [115, 105, 122, 101]) = false := by rw [h]; rfl
    have t_first : (s.toList == [102, 105, 114, 115, 116]) = false := by rw [h]; rfl
    have t_last : (s.toList == [108, 97, 115, 116]) = false := by rw [h]; rfl
    have t_default : (s.toList == [100, 101, 102, 97, 117, 108, 116]) = false := by rw [h]; rfl
    have t_cat : (s.toList == [99, 97, 116]) = false := by rw [h]; rfl
    have t_replace : (s.toList == [114, 101, 112, 108, 97, 99, 101]) = false := by rw [h]; rfl
    have t_join : (s.toList == [106, 111, 105, 110]) = false := by rw [h]; rfl
    have t_keys : (s.toList == [107, 101, 121, 115]) = false := by rw [h]; rfl
    have t_get : (s.toList == [103, 101, 116]) = false := by rw [h]; rfl
    have t_has : (s.toList == [104, 97, 115]) = false := by rw [h]; rfl
    have t_count : (s.toList == [99, 111, 117, 110, 116]) = true := by rw [h]; rfl
    clear h h1
    go_enter Try.func20, Try.ntmps20
    go_wp2_with fail
    go_ret2
    exact ⟨rfl, below_one _ _⟩

set_option maxHeartbeats 4000000 in
set_option maxRecDepth 100000 in
theorem call_same (s : ByteArray) (L : List Int) (lv : Value) (ok : Nat → Prop) (w : World) (hl : Sl w ok lv L.length (intC L)) (h : s.toList = [115, 97, 109, 101]) : CallGoal s L lv w := by
  have hP : progCall s.toList L = sameP L := by rw [h]; rfl
  rw [CallGoal, hP]; clear hP
  obtain ⟨a, cap, rfl, hl1, hl2, hl3⟩ := hl
  unfold maxLen at hl2
  by_cases h1 : L.length = 2
  · obtain ⟨x, y, rfl⟩ := two_of h1
    obtain ⟨b, off, rfl, -, c1⟩ := hl3 0 _ rfl
    obtain ⟨b', off', e, -, d1⟩ := hl3 1 _ rfl
    cases e
    have hlt := cell_lt c1
    have c2 : w.cell? ⟨b, off, none⟩ = some (.int .i64 x) := c1
    have d2 : w.cell? ⟨b, off + 1, none⟩ = some (.int .i64 y) := d1
    clear hl3 h1 c1 d1
    have t_upper : (s.toList == [117, 112, 112, 101, 114]) = false := by rw [h]; rfl
    have t_lower : (s.toList == [108, 111, 119, 101, 114]) = false := by rw [h]; rfl
    have t_trim : (s.toList == [116, 114, 105, 109]) = false := by rw [h]; rfl
    have t_size : (s.toList == [115, 105, 122, 101]) = false := by rw [h]; rfl
    have t_first : (s.toList == [102, 105, 114, 115, 116]) = false := by rw [h]; rfl
    have t_last : (s.toList == [108, 97, 115, 116]) = false := by rw [h]; rfl
    have t_default : (s.toList == [100, 101, 102, 97, 117, 108, 116]) = false := by rw [h]; rfl
    have t_cat : (s.toList == [99, 97, 116]) = false := by rw [h]; rfl
    have t_replace : (s.toList == [114, 101, 112, 108, 97, 99, 101]) = false := by rw [h]; rfl
    have t_join : (s.toList == [106, 111, 105, 110]) = false := by rw [h]; rfl
    have t_keys : (s.toList == [107, 101, 121, 115]) = false := by rw [h]; rfl
    have t_get : (s.toList == [103, 101, 116]) = false := by rw [h]; rfl
    have t_has : (s.toList == [104, 97, 115]) = false := by rw [h]; rfl
    have t_count : (s.toList == [99, 111, 117, 110, 116]) = false := by rw [h]; rfl
    have t_write : (s.toList == [119, 114, 105, 116, 101]) = false := by rw [h]; rfl
    have t_same : (s.toList == [115, 97, 109, 101]) = true := by rw [h]; rfl
    clear h
    by_cases hxy : x = y
    · subst hxy
      have hR : sameP [x, x] = if plainB x then (3, true) else (0, false) := by simp [sameP]
      rw [hR]; clear hR
      cases he : plainB x
      · go_enter Try.func20, Try.ntmps20
        go_wp2_with fail
        go_quiet ((go_at_call 40; exact Calls.quiet_of_same ((plain_any _ _).mono fun _ _ h => ⟨h.1, h.2.symm⟩)))
        all_goals (try (go_wp2_with fail))
        go_ret2
        exact ⟨rfl, below_oneq _ _ _⟩
      · go_enter Try.func20, Try.ntmps20
        go_wp2_with fail
        go_quiet ((go_at_call 40; exact Calls.quiet_of_same ((plain_any _ _).mono fun _ _ h => ⟨h.1, h.2.symm⟩)))
        all_goals (try (go_wp2_with fail))
        go_ret2
        exact ⟨rfl, below_oneq _ _ _⟩
    · have hR : sameP [x, y] = (0, false) := by simp [sameP, hxy]
      rw [hR]; clear hR
      have hq : (x == y) = false := by simpa using hxy
      clear hxy
      go_enter Try.func20, Try.ntmps20
      go_wp2_with fail
      go_quiet (fail)
      all_goals (try (go_wp2_with fail))
      go_ret2
      exact ⟨rfl, below_oneq _ _ _⟩
  · rw [same_not h1]
    clear hl3
    have hb : ((L.length : Int) == 2) = false := by simp; omega
    have t_upper : (s.toList == [117, 112, 112, 101, 114]) = false := by rw [h]; rfl
    have t_lower : (s.toList == [108, 111, 119, 101, 114]) = false := by rw [h]; rfl
    have t_trim : (s.toList == [116, 114, 105, 109]) = false := by rw [h]; rfl
    have t_size : (s.toList == [115, 105, 122, 101]) = false := by rw [h]; rfl
    have t_first : (s.toList == [102, 105, 114, 115, 116]) = false := by rw [h]; rfl
    have t_last : (s.toList == [108, 97, 115, 116]) = false := by rw [h]; rfl
    have t_default : (s.toList == [100, 101, 102, 97, 117, 108, 116]) = false := by rw [h]; rfl
    have t_cat : (s.toList == [99, 97, 116]) = false := by rw [h]; rfl
    have t_replace : (s.toList == [114, 101, 112, 108, 97, 99, 101]) = false := by rw [h]; rfl
    have t_join : (s.toList == [106, 111, 105, 110]) = false := by rw [h]; rfl
    have t_keys : (s.toList == [107, 101, 121, 115]) = false := by rw [h]; rfl
    have t_get : (s.toList == [103, 101, 116]) = false := by rw [h]; rfl
    have t_has : (s.toList == [104, 97, 115]) = false := by rw [h]; rfl
    have t_count : (s.toList == [99, 111, 117, 110, 116]) = false := by rw [h]; rfl
    have t_write : (s.toList == [119, 114, 105, 116, 101]) = false := by rw [h]; rfl
    have t_same : (s.toList == [115, 97, 109, 101]) = true := by rw [h]; rfl
    clear h h1
    go_enter Try.func20, Try.ntmps20
    go_wp2_with fail
    go_quiet (fail)
    all_goals (try (go_wp2_with fail))
    go_ret2
    exact ⟨rfl, below_oneq _ _ _⟩

set_option maxHeartbeats 4000000 in
set_option maxRecDepth 100000 in
theorem call_write (s : ByteArray) (L : List Int) (lv : Value) (ok : Nat → Prop) (w : World) (hl : Sl w ok lv L.length (intC L)) (h : s.toList = [119, 114, 105, 116, 101]) : CallGoal s L lv w := by
  have hP : progCall s.toList L = writeP L := by rw [h]; rfl
  rw [CallGoal, hP]; clear hP
  have his := fun (w' : World) (hw : w' = (w.alloc (.cells #[lv] 30)).alloc (.cells #[.int .i64 2] 31)) => is_at 1 [2] w L lv ok w' _ hl hw rfl (by decide)
  obtain ⟨a, cap, rfl, hl1, hl2, hl3⟩ := hl
  unfold maxLen at hl2
  by_cases h1 : L.length = 1
  · obtain ⟨x, rfl⟩ := one_of h1
    obtain ⟨b, off, rfl, -, c1⟩ := hl3 0 _ rfl
    have hlt := cell_lt c1
    have c2 : w.cell? ⟨b, off, none⟩ = some (.int .i64 x) := c1
    clear hl3 h1 c1
    have t_upper : (s.toList == [117, 112, 112, 101, 114]) = false := by rw [h]; rfl
    have t_lower : (s.toList == [108, 111, 119, 101, 114]) = false := by rw [h]; rfl
    have t_trim : (s.toList == [116, 114, 105, 109]) = false := by rw [h]; rfl
    have t_size : (s.toList == [115, 105, 122, 101]) = false := by rw [h]; rfl
    have t_first : (s.toList == [102, 105, 114, 115, 116]) = false := by rw [h]; rfl
    have t_last : (s.toList == [108, 97, 115, 116]) = false := by rw [h]; rfl
    have t_default : (s.toList == [100, 101, 102, 97, 117, 108, 116]) = false := by rw [h]; rfl
    have t_cat : (s.toList == [99, 97, 116]) = false := by rw [h]; rfl
    have t_replace : (s.toList == [114, 101, 112, 108, 97, 99, 101]) = false := by rw [h]; rfl
    have t_join : (s.toList == [106, 111, 105, 110]) = false := by rw [h]; rfl
    have t_keys : (s.toList == [107, 101, 121, 115]) = false := by rw [h]; rfl
    have t_get : (s.toList == [103, 101, 116]) = false := by rw [h]; rfl
    have t_has : (s.toList == [104, 97, 115]) = false := by rw [h]; rfl
    have t_count : (s.toList == [99, 111, 117, 110, 116]) = false := by rw [h]; rfl
    have t_write : (s.toList == [119, 114, 105, 116, 101]) = true := by rw [h]; rfl
    clear h
    by_cases hx : x = 3
    · subst hx
      have hR : writeP [3] = (1, true) := rfl
      rw [hR]; clear hR his
      go_enter Try.func20, Try.ntmps20
      go_wp2_with fail
      go_ret2
      exact ⟨rfl, below_one _ _⟩
    · have hR : writeP [x] = isP 1 [2] [x] := write_not (by simp; omega)
      rw [hR]; clear hR
      generalize isP 1 [2] [x] = P at his ⊢
      have HIS := Lib.hid his; clear his
      have hq : (x == 3) = false := by simpa using hx
      clear hx
      go_enter Try.func20, Try.ntmps20
      go_wp2_with (go_at_call 47; refine (HIS.out _ rfl).mono ?_; rintro e w' ⟨rfl, q, rfl⟩)
      go_ret2
      exact ⟨rfl, below_call _ _ _ _⟩
  · have hR : writeP L = isP 1 [2] L := write_not (by intro e; rw [← e] at h1; exact h1 rfl)
    rw [hR]; clear hR
    generalize isP 1 [2] L = P at his ⊢
    have HIS := Lib.hid his; clear his
    clear hl3
    have hb : ((L.length : Int) == 1) = false := by simp; omega
    have t_upper : (s.toList == [117, 112, 112, 101, 114]) = false := by rw [h]; rfl
    have t_lower : (s.toList == [108, 111, 119, 101, 114]) = false := by rw [h]; rfl
    have t_trim : (s.toList == [116, 114, 105, 109]) = false := by rw [h]; rfl
    have t_size : (s.toList == [115, 105, 122, 101]) = false := by rw [h]; rfl
    have t_first : (s.toList == [102, 105, 114, 115, 116]) = false := by rw [h]; rfl
    have t_last : (s.toList == [108, 97, 115, 116]) = false := by rw [h]; rfl
    have t_default : (s.toList == [100, 101, 102, 97, 117, 108, 116]) = false := by rw [h]; rfl
    have t_cat : (s.toList == [99, 97, 116]) = false := by rw [h]; rfl
    have t_replace : (s.toList == [114, 101, 112, 108, 97, 99, 101]) = false := by rw [h]; rfl
    have t_join : (s.toList == [106, 111, 105, 110]) = false := by rw [h]; rfl
    have t_keys : (s.toList == [107, 101, 121, 115]) = false := by rw [h]; rfl
    have t_get : (s.toList == [103, 101, 116]) = false := by rw [h]; rfl
    have t_has : (s.toList == [104, 97, 115]) = false := by rw [h]; rfl
    have t_count : (s.toList == [99, 111, 117, 110, 116]) = false := by rw [h]; rfl
    have t_write : (s.toList == [119, 114, 105, 116, 101]) = true := by rw [h]; rfl
    clear h h1
    go_enter Try.func20, Try.ntmps20
    go_wp2_with (go_at_call 47; refine (HIS.out _ rfl).mono ?_; rintro e w' ⟨rfl, q, rfl⟩)
    go_ret2
    exact ⟨rfl, below_call _ _ _ _⟩

set_option maxHeartbeats 4000000 in
set_option maxRecDepth 100000 in
theorem call_none (s : ByteArray) (L : List Int) (lv : Value) (ok : Nat → Prop) (w : World) (hl : Sl w ok lv L.length (intC L)) (h : s.toList ∉ callsL) : CallGoal s L lv w := by
  have hP : progCall s.toList L = (0, false) := progCall_none h
  rw [CallGoal, hP]; clear hP
  obtain ⟨a, cap, rfl, hl1, hl2, hl3⟩ := hl
  unfold maxLen at hl2
  clear hl3
  have t_upper : (s.toList == [117, 112, 112, 101, 114]) = false := by rw [beq_eq_false_iff_ne]; intro e; exact h (by rw [e]; decide)
  have t_lower : (s.toList == [108, 111, 119, 101, 114]) = false := by rw [beq_eq_false_iff_ne]; intro e; exact h (by rw [e]; decide)
  have t_trim : (s.toList == [116, 114, 105, 109]) = false := by rw [beq_eq_false_iff_ne]; intro e; exact h (by rw [e]; decide)
  have t_size : (s.toList == [115, 105, 122, 101]) = false := by rw [beq_eq_false_iff_ne]; intro e; exact h (by rw [e]; decide)
  have t_first : (s.toList == [102, 105, 114, 115, 116]) = false := by rw [beq_eq_false_iff_ne]; intro e; exact h (by rw [e]; decide)
  have t_last : (s.toList == [108, 97, 115, 116]) = false := by rw [beq_eq_false_iff_ne]; intro e; exact h (by rw [e]; decide)
  have t_default : (s.toList == [100, 101, 102, 97, 117, 108, 116]) = false := by rw [beq_eq_false_iff_ne]; intro e; exact h (by rw [e]; decide)
  have t_cat : (s.toList == [99, 97, 116]) = false := by rw [beq_eq_false_iff_ne]; intro e; exact h (by rw [e]; decide)
  have t_replace : (s.toList == [114, 101, 112, 108, 97, 99, 101]) = false := by rw [beq_eq_false_iff_ne]; intro e; exact h (by rw [e]; decide)
  have t_join : (s.toList == [106, 111, 105, 110]) = false := by rw [beq_eq_false_iff_ne]; intro e; exact h (by rw [e]; decide)
  have t_keys : (s.toList == [107, 101, 121, 115]) = false := by rw [beq_eq_false_iff_ne]; intro e; exact h (by rw [e]; decide)
  have t_get : (s.toList == [103, 101, 116]) = false := by rw [beq_eq_false_iff_ne]; intro e; exact h (by rw [e]; decide)
  have t_has : (s.toList == [104, 97, 115]) = false := by rw [beq_eq_false_iff_ne]; intro e; exact h (by rw [e]; decide)
  have t_count : (s.toList == [99, 111, 117, 110, 116]) = false := by rw [beq_eq_false_iff_ne]; intro e; exact h (by rw [e]; decide)
  have t_write : (s.toList == [119, 114, 105, 116, 101]) = false := by rw [beq_eq_false_iff_ne]; intro e; exact h (by rw [e]; decide)
  have t_same : (s.toList == [115, 97, 109, 101]) = false := by rw [beq_eq_false_iff_ne]; intro e; exact h (by rw [e]; decide)
  have t_less : (s.toList == [108, 101, 115, 115]) = false := by rw [beq_eq_false_iff_ne]; intro e; exact h (by rw [e]; decide)
  have t_add : (s.toList == [97, 100, 100]) = false := by rw [beq_eq_false_iff_ne]; intro e; exact h (by rw [e]; decide)
  have t_sub : (s.toList == [115, 117, 98]) = false := by rw [beq_eq_false_iff_ne]; intro e; exact h (by rw [e]; decide)
  have t_both : (s.toList == [98, 111, 116, 104]) = false := by rw [beq_eq_false_iff_ne]; intro e; exact h (by rw [e]; decide)
  have t_either : (s.toList == [101, 105, 116, 104, 101, 114]) = false := by rw [beq_eq_false_iff_ne]; intro e; exact h (by rw [e]; decide)
  have t_not : (s.toList == [110, 111, 116]) = false := by rw [beq_eq_false_iff_ne]; intro e; exact h (by rw [e]; decide)
  clear h
  go_enter Try.func20, Try.ntmps20
  go_wp2_with fail
  go_ret2
  exact ⟨rfl, below_one _ _⟩

theorem call_any (s : ByteArray) (L : List Int) (lv : Value) (ok : Nat → Prop) (w : World) (hl : Sl w ok lv L.length (intC L)) : CallGoal s L lv w := by
  by_cases h : s.toList ∈ callsL
  · simp only [callsL, List.mem_cons, List.mem_nil_iff, or_false] at h
    rcases h with h | h | h | h | h | h | h | h | h | h | h | h | h | h | h | h | h | h | h | h | h | h
    · exact call_add s L lv ok w hl h
    · exact call_both s L lv ok w hl h
    · exact call_cat s L lv ok w hl h
    · exact call_count s L lv ok w hl h
    · exact call_default s L lv ok w hl h
    · exact call_either s L lv ok w hl h
    · exact call_first s L lv ok w hl h
    · exact call_get s L lv ok w hl h
    · exact call_has s L lv ok w hl h
    · exact call_join s L lv ok w hl h
    · exact call_keys s L lv ok w hl h
    · exact call_last s L lv ok w hl h
    · exact call_less s L lv ok w hl h
    · exact call_lower s L lv ok w hl h
    · exact call_not s L lv ok w hl h
    · exact call_replace s L lv ok w hl h
    · exact call_same s L lv ok w hl h
    · exact call_size s L lv ok w hl h
    · exact call_sub s L lv ok w hl h
    · exact call_trim s L lv ok w hl h
    · exact call_upper s L lv ok w hl h
    · exact call_write s L lv ok w hl h
  · exact call_none s L lv ok w hl h
end Go.Proofs.Ytbgfcbicbkijaaa
