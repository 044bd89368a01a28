/- The walk of kind's Call, a name at a time. Printed by mkcall.py but for its head and end. -/
import Derived.Test.YtbgfcbicbkijaaaKindW4
namespace Go.Proofs.Ytbgfcbicbkijaaa
open Go.RowKit

def CallGoal (s : ByteArray) (L : List Int) (lv : Value) (w : World) : Prop :=
  Calls Try.prog 20 #[.string s, lv] w fun e w' => e = .returned (.tuple #[.int .i64 (progCall s.toList L).1, .bool (progCall s.toList L).2]) ∧ Below w.heap.size w w'
theorem is_at (g : Int) (want : List Int) (w : World) (L : List Int) (lv : Value) (ok : Nat → Prop) (w' : World) (C : Array Value) (hl : Sl w ok lv L.length (intC L))
    (hw : w' = (w.alloc (.cells #[lv] 30)).alloc (.cells C 31)) (hC : C = (intC want).toArray) (hm : want.length ≤ 1000) :
    Calls Try.prog 47 #[.int .i64 g, .slice (some ⟨w.heap.size + 1, 0, none⟩) want.length want.length, .pointer (some ⟨w.heap.size, 0, none⟩)] w' fun e w'' => e = .returned (.tuple #[.int .i64 (isP g want L).1, .bool (isP g want L).2]) ∧ ∃ q, w'' = w'.drewN q :=
  is_any g w.heap.size (w.heap.size + 1) want L lv ok w' (by omega) (by subst hw hC; exact heap_at_new _ _ _ (by simp)) (by subst hw; simp [World.cell?_alloc_past]) (by subst hw; exact (hl.alloc _).alloc _)
theorem below_call (w : World) (o o' : Obj) (q : Nat) : Below w.heap.size w (((w.alloc o).alloc o').drewN q) := by
  have h := ((Below.refl w.heap.size w).alloc (Nat.le_refl _) o).alloc (by simp) o'
  exact ⟨h.os, h.tape, h.output, h.size, h.block⟩
set_option maxHeartbeats 4000000 in
set_option maxRecDepth 100000 in
theorem call_upper (s : ByteArray) (L : List Int) (lv : Value) (ok : Nat → Prop) (w : World) (hl : Sl w ok lv L.length (intC L)) (h : s.toList = [117, 112, 112, 101, 114]) : CallGoal s L lv w := by
  have his := fun (w' : World) (hw : w' = (w.alloc (.cells #[lv] 30)).alloc (.cells #[.int .i64 1] 31)) => is_at 1 [1] w L lv ok w' _ hl hw rfl (by decide)
  have hP : progCall s.toList L = isP 1 [1] L := by rw [h]; rfl
  rw [CallGoal, hP]; clear hP
  generalize isP 1 [1] L = P at his ⊢
  have HIS := Lib.hid his; clear his
  obtain ⟨a, cap, rfl, hl1, hl2, hl3⟩ := hl
  clear hl3
  unfold maxLen at hl2
  have t_upper : (s.toList == [117, 112, 112, 101, 114]) = true := by rw [h]; rfl
  clear h
  go_enter Try.func20, Try.ntmps20
  go_wp2_with (go_at_call 47; refine (HIS.out _ rfl).mono ?_; rintro e w' ⟨rfl, q, rfl⟩)
  go_ret2
  exact ⟨rfl, below_call _ _ _ _⟩
set_option maxHeartbeats 4000000 in
set_option maxRecDepth 100000 in
theorem call_lower (s : ByteArray) (L : List Int) (lv : Value) (ok : Nat → Prop) (w : World) (hl : Sl w ok lv L.length (intC L)) (h : s.toList = [108, 111, 119, 101, 114]) : CallGoal s L lv w := by
  have his := fun (w' : World) (hw : w' = (w.alloc (.cells #[lv] 30)).alloc (.cells #[.int .i64 1] 31)) => is_at 1 [1] w L lv ok w' _ hl hw rfl (by decide)
  have hP : progCall s.toList L = isP 1 [1] L := by rw [h]; rfl
  rw [CallGoal, hP]; clear hP
  generalize isP 1 [1] L = P at his ⊢
  have HIS := Lib.hid his; clear his
  obtain ⟨a, cap, rfl, hl1, hl2, hl3⟩ := hl
  clear hl3
  unfold maxLen at hl2
  have t_upper : (s.toList == [117, 112, 112, 101, 114]) = false := by rw [h]; rfl
  have t_lower : (s.toList == [108, 111, 119, 101, 114]) = true := by rw [h]; rfl
  clear h
  go_enter Try.func20, Try.ntmps20
  go_wp2_with (go_at_call 47; refine (HIS.out _ rfl).mono ?_; rintro e w' ⟨rfl, q, rfl⟩)
  go_ret2
  exact ⟨rfl, below_call _ _ _ _⟩
set_option maxHeartbeats 4000000 in
set_option maxRecDepth 100000 in
theorem call_trim (s : ByteArray) (L : List Int) (lv : Value) (ok : Nat → Prop) (w : World) (hl : Sl w ok lv L.length (intC L)) (h : s.toList = [116, 114, 105, 109]) : CallGoal s L lv w := by
  have his := fun (w' : World) (hw : w' = (w.alloc (.cells #[lv] 30)).alloc (.cells #[.int .i64 1] 31)) => is_at 1 [1] w L lv ok w' _ hl hw rfl (by decide)
  have hP : progCall s.toList L = isP 1 [1] L := by rw [h]; rfl
  rw [CallGoal, hP]; clear hP
  generalize isP 1 [1] L = P at his ⊢
  have HIS := Lib.hid his; clear his
  obtain ⟨a, cap, rfl, hl1, hl2, hl3⟩ := hl
  clear hl3
  unfold maxLen at hl2
  have t_upper : (s.toList == [117, 112, 112, 101, 114]) = false := by rw [h]; rfl
  have t_lower : (s.toList == [108, 111, 119, 101, 114]) = false := by rw [h]; rfl
  have t_trim : (s.toList == [116, 114, 105, 109]) = true := by rw [h]; rfl
  clear h
  go_enter Try.func20, Try.ntmps20
  go_wp2_with (go_at_call 47; refine (HIS.out _ rfl).mono ?_; rintro e w' ⟨rfl, q, rfl⟩)
  go_ret2
  exact ⟨rfl, below_call _ _ _ _⟩
set_option maxHeartbeats 4000000 in
set_option maxRecDepth 100000 in
theorem call_size (s : ByteArray) (L : List Int) (lv : Value) (ok : Nat → Prop) (w : World) (hl : Sl w ok lv L.length (intC L)) (h : s.toList = [115, 105, 122, 101]) : CallGoal s L lv w := by
  have his := fun (w' : World) (hw : w' = (w.alloc (.cells #[lv] 30)).alloc (.cells #[.int .i64 1] 31)) => is_at 2 [1] w L lv ok w' _ hl hw rfl (by decide)
  have hP : progCall s.toList L = isP 2 [1] L := by rw [h]; rfl
  rw [CallGoal, hP]; clear hP
  generalize isP 2 [1] L = P at his ⊢
  have HIS := Lib.hid his; clear his
  obtain ⟨a, cap, rfl, hl1, hl2, hl3⟩ := hl
  clear hl3
  unfold maxLen at hl2
  have t_upper : (s.toList == [117, 112, 112, 101, 114]) = false := by rw [h]; rfl
  have t_lower : (s.toList == [108, 111, 119, 101, 114]) = false := by rw [h]; rfl
  have t_trim : (s.toList == [116, 114, 105, 109]) = false := by rw [h]; rfl
  have t_size : (s.toList == [115, 105, 122, 101]) = true := by rw [h]; rfl
  clear h
  go_enter Try.func20, Try.ntmps20
  go_wp2_with (go_at_call 47; refine (HIS.out _ rfl).mono ?_; rintro e w' ⟨rfl, q, rfl⟩)
  go_ret2
  exact ⟨rfl, below_call _ _ _ _⟩
set_option maxHeartbeats 4000000 in
set_option maxRecDepth 100000 in
theorem call_first (s : ByteArray) (L : List Int) (lv : Value) (ok : Nat → Prop) (w : World) (hl : Sl w ok lv L.length (intC L)) (h : s.toList = [102, 105, 114, 115, 116]) : CallGoal s L lv w := by
  have his := fun (w' : World) (hw : w' = (w.alloc (.cells #[lv] 30)).alloc (.cells #[.int .i64 1, .int .i64 2] 31)) => is_at 1 [1, 2] w L lv ok w' _ hl hw rfl (by decide)
  have hP : progCall s.toList L = isP 1 [1, 2] L := by rw [h]; rfl
  rw [CallGoal, hP]; clear hP
  generalize isP 1 [1, 2] L = P at his ⊢
  have HIS := Lib.hid his; clear his
  obtain ⟨a, cap, rfl, hl1, hl2, hl3⟩ := hl
  clear hl3
  unfold maxLen at hl2
  have t_upper : (s.toList == [117, 112, 112, 101, 114]) = false := by rw [h]; rfl
  have t_lower : (s.toList == [108, 111, 119, 101, 114]) = false := by rw [h]; rfl
  have t_trim : (s.toList == [116, 114, 105, 109]) = false := by rw [h]; rfl
  have t_size : (s.toList == [115, 105, 122, 101]) = false := by rw [h]; rfl
  have t_first : (s.toList == [102, 105, 114, 115, 116]) = true := by rw [h]; rfl
  clear h
  go_enter Try.func20, Try.ntmps20
  go_wp2_with (go_at_call 47; refine (HIS.out _ rfl).mono ?_; rintro e w' ⟨rfl, q, rfl⟩)
  go_ret2
  exact ⟨rfl, below_call _ _ _ _⟩
set_option maxHeartbeats 4000000 in
set_option maxRecDepth 100000 in
theorem call_last (s : ByteArray) (L : List Int) (lv : Value) (ok : Nat → Prop) (w : World) (hl : Sl w ok lv L.length (intC L)) (h : s.toList = [108, 97, 115, 116]) : CallGoal s L lv w := by
  have his := fun (w' : World) (hw : w' = (w.alloc (.cells #[lv] 30)).alloc (.cells #[.int .i64 1, .int .i64 2] 31)) => is_at 1 [1, 2] w L lv ok w' _ hl hw rfl (by decide)
  have hP : progCall s.toList L = isP 1 [1, 2] L := by rw [h]; rfl
  rw [CallGoal, hP]; clear hP
  generalize isP 1 [1, 2] L = P at his ⊢
  have HIS := Lib.hid his; clear his
  obtain ⟨a, cap, rfl, hl1, hl2, hl3⟩ := hl
  clear hl3
  unfold maxLen at hl2
  have t_upper : (s.toList == [117, 112, 112, 101, 114]) = false := by rw [h]; rfl
  have t_lower : (s.toList == [108, 111, 119, 101, 114]) = false := by rw [h]; rfl
  have t_trim : (s.toList == [116, 114, 105, 109]) = false := by rw [h]; rfl
  have t_size : (s.toList == [115, 105, 122, 101]) = false := by rw [h]; rfl
  have t_first : (s.toList == [102, 105, 114, 115, 116]) = false := by rw [h]; rfl
  have t_last : (s.toList == [108, 97, 115, 116]) = true := by rw [h]; rfl
  clear h
  go_enter Try.func20, Try.ntmps20
  go_wp2_with (go_at_call 47; refine (HIS.out _ rfl).mono ?_; rintro e w' ⟨rfl, q, rfl⟩)
  go_ret2
  exact ⟨rfl, below_call _ _ _ _⟩
set_option maxHeartbeats 4000000 in
set_option maxRecDepth 100000 in
theorem call_default (s : ByteArray) (L : List Int) (lv : Value) (ok : Nat → Prop) (w : World) (hl : Sl w ok lv L.length (intC L)) (h : s.toList = [100, 101, 102, 97, 117, 108, 116]) : CallGoal s L lv w := by
  have his := fun (w' : World) (hw : w' = (w.alloc (.cells #[lv] 30)).alloc (.cells #[.int .i64 1, .int .i64 1] 31)) => is_at 1 [1, 1] w L lv ok w' _ hl hw rfl (by decide)
  have hP : progCall s.toList L = isP 1 [1, 1] L := by rw [h]; rfl
  rw [CallGoal, hP]; clear hP
  generalize isP 1 [1, 1] L = P at his ⊢
  have HIS := Lib.hid his; clear his
  obtain ⟨a, cap, rfl, hl1, hl2, hl3⟩ := hl
  clear hl3
  unfold maxLen at hl2
  have t_upper : (s.toList == [117, 112, 112, 101, 114]) = false := by rw [h]; rfl
  have t_lower : (s.toList == [108, 111, 119, 101, 114]) = false := by rw [h]; rfl
  have t_trim : (s.toList == [116, 114, 105, 109]) = false := by rw [h]; rfl
  have t_size : (s.toList == [115, 105, 122, 101]) = false := by rw [h]; rfl
  have t_first : (s.toList == [102, 105, 114, 115, 116]) = false := by rw [h]; rfl
  have t_last : (s.toList == [108, 97, 115, 116]) = false := by rw [h]; rfl
  have t_default : (s.toList == [100, 101, 102, 97, 117, 108, 116]) = true := by rw [h]; rfl
  clear h
  go_enter Try.func20, Try.ntmps20
  go_wp2_with (go_at_call 47; refine (HIS.out _ rfl).mono ?_; rintro e w' ⟨rfl, q, rfl⟩)
  go_ret2
  exact ⟨rfl, below_call _ _ _ _⟩
set_option maxHeartbeats 4000000 in
set_option maxRecDepth 100000 in
theorem call_cat (s : ByteArray) (L : List Int) (lv : Value) (ok : Nat → Prop) (w : World) (hl : Sl w ok lv L.length (intC L)) (h : s.toList = [99, 97, 116]) : CallGoal s L lv w := by
  have his := fun (w' : World) (hw : w' = (w.alloc (.cells #[lv] 30)).alloc (.cells #[.int .i64 1, .int .i64 1] 31)) => is_at 1 [1, 1] w L lv ok w' _ hl hw rfl (by decide)
  have hP : progCall s.toList L = isP 1 [1, 1] L := by rw [h]; rfl
  rw [CallGoal, hP]; clear hP
  generalize isP 1 [1, 1] L = P at his ⊢
  have HIS := Lib.hid his; clear his
  obtain ⟨a, cap, rfl, hl1, hl2, hl3⟩ := hl
  clear hl3
  unfold maxLen at hl2
  have t_upper : (s.toList == [117, 112, 112, 101, 114]) = false := by rw [h]; rfl
  have t_lower : (s.toList == [108, 111, 119, 101, 114]) = false := by rw [h]; rfl
  have t_trim : (s.toList == [116, 114, 105, 109]) = false := by rw [h]; rfl
  have t_size : (s.toList == [115, 105, 122, 101]) = false := by rw [h]; rfl
  have t_first : (s.toList == [102, 105, 114, 115, 116]) = false := by rw [h]; rfl
  have t_last : (s.toList == [108, 97, 115, 116]) = false := by rw [h]; rfl
  have t_default : (s.toList == [100, 101, 102, 97, 117, 108, 116]) = false := by rw [h]; rfl
  have t_cat : (s.toList == [99, 97, 116]) = true := by rw [h]; rfl
  clear h
  go_enter Try.func20, Try.ntmps20
  go_wp2_with (go_at_call 47; refine (HIS.out _ rfl).mono ?_; rintro e w' ⟨rfl, q, rfl⟩)
  go_ret2
  exact ⟨rfl, below_call _ _ _ _⟩
set_option maxHeartbeats 4000000 in
set_option maxRecDepth 100000 in
theorem call_replace (s : ByteArray) (L : List Int) (lv : Value) (ok : Nat → Prop) (w : World) (hl : Sl w ok lv L.length (intC L)) (h : s.toList = [114, 101, 112, 108, 97, 99, 101]) : CallGoal s L lv w := by
  have his := fun (w' : World) (hw : w' = (w.alloc (.cells #[lv] 30)).alloc (.cells #[.int .i64 1, .int .i64 1, .int .i64 1] 31)) => is_at 1 [1, 1, 1] w L lv ok w' _ hl hw rfl (by decide)
  have hP : progCall s.toList L = isP 1 [1, 1, 1] L := by rw [h]; rfl
  rw [CallGoal, hP]; clear hP
  generalize isP 1 [1, 1, 1] L = P at his ⊢
  have HIS := Lib.hid his; clear his
  obtain ⟨a, cap, rfl, hl1, hl2, hl3⟩ := hl
  clear hl3
  unfold maxLen at hl2
  have t_upper : (s.toList == [117, 112, 112, 101, 114]) = false := by rw [h]; rfl
  have t_lower : (s.toList == [108, 111, 119, 101, 114]) = false := by rw [h]; rfl
  have t_trim : (s.toList == [116, 114, 105, 109]) = false := by rw [h]; rfl
  have t_size : (s.toList == [115, 105, 122, 101]) = false := by rw [h]; rfl
  have t_first : (s.toList == [102, 105, 114, 115, 116]) = false := by rw [h]; rfl
  have t_last : (s.toList == [108, 97, 115, 116]) = false := by rw [h]; rfl
  have t_default : (s.toList == [100, 101, 102, 97, 117, 108, 116]) = false := by rw [h]; rfl
  have t_cat : (s.toList == [99, 97, 116]) = false := by rw [h]; rfl
  have t_replace : (s.toList == [114, 101, 112, 108, 97, 99, 101]) = true := by rw [h]; rfl
  clear h
  go_enter Try.func20, Try.ntmps20
  go_wp2_with (go_at_call 47; refine (HIS.out _ rfl).mono ?_; rintro e w' ⟨rfl, q, rfl⟩)
  go_ret2
  exact ⟨rfl, below_call _ _ _ _⟩
set_option maxHeartbeats 4000000 in
set_option maxRecDepth 100000 in
theorem call_join (s : ByteArray) (L : List Int) (lv : Value) (ok : Nat → Prop) (w : World) (hl : Sl w ok lv L.length (intC L)) (h : s.toList = [106, 111, 105, 110]) : CallGoal s L lv w := by
  have his := fun (w' : World) (hw : w' = (w.alloc (.cells #[lv] 30)).alloc (.cells #[.int .i64 7, .int .i64 1] 31)) => is_at 1 [7, 1] w L lv ok w' _ hl hw rfl (by decide)
  have hP : progCall s.toList L = isP 1 [7, 1] L := by rw [h]; rfl
  rw [CallGoal, hP]; clear hP
  generalize isP 1 [7, 1] L = P at his ⊢
  have HIS := Lib.hid his; clear his
  obtain ⟨a, cap, rfl, hl1, hl2, hl3⟩ := hl
  clear hl3
  unfold maxLen at hl2
  have t_upper : (s.toList == [117, 112, 112, 101, 114]) = false := by rw [h]; rfl
  have t_lower : (s.toList == [108, 111, 119, 101, 114]) = false := by rw [h]; rfl
  have t_trim : (s.toList == [116, 114, 105, 109]) = false := by rw [h]; rfl
  have t_size : (s.toList == [115, 105, 122, 101]) = false := by rw [h]; rfl
  have t_first : (s.toList == [102, 105, 114, 115, 116]) = false := by rw [h]; rfl
  have t_last : (s.toList == [108, 97, 115, 116]) = false := by rw [h]; rfl
  have t_default : (s.toList == [100, 101, 102, 97, 117, 108, 116]) = false := by rw [h]; rfl
  have t_cat : (s.toList == [99, 97, 116]) = false := by rw [h]; rfl
  have t_replace : (s.toList == [114, 101, 112, 108, 97, 99, 101]) = false := by rw [h]; rfl
  have t_join : (s.toList == [106, 111, 105, 110]) = true := by rw [h]; rfl
  clear h
  go_enter Try.func20, Try.ntmps20
  go_wp2_with (go_at_call 47; refine (HIS.out _ rfl).mono ?_; rintro e w' ⟨rfl, q, rfl⟩)
  go_ret2
  exact ⟨rfl, below_call _ _ _ _⟩
end Go.Proofs.Ytbgfcbicbkijaaa
