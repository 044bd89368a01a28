/- The walk of kind's Call, a name at a time. Printed by mkcall.py but for its head and end. -/
import Derived.Test.YtbgfcbicbkijaaaKindW5
namespace Go.Proofs.Ytbgfcbicbkijaaa
open Go.RowKit

set_option maxHeartbeats 4000000 in
set_option maxRecDepth 100000 in
theorem call_keys (s : ByteArray) (L : List Int) (lv : Value) (ok : Nat → Prop) (w : World) (hl : Sl w ok lv L.length (intC L)) (h : s.toList = [107, 101, 121, 115]) : CallGoal s L lv w := by
  have his := fun (w' : World) (hw : w' = (w.alloc (.cells #[lv] 30)).alloc (.cells #[.int .i64 8] 31)) => is_at 7 [8] w L lv ok w' _ hl hw rfl (by decide)
  have hP : progCall s.toList L = isP 7 [8] L := by rw [h]; rfl
  rw [CallGoal, hP]; clear hP
  generalize isP 7 [8] L = P at his ⊢
  have HIS := Lib.hid his; clear his
  obtain ⟨a, cap, rfl, hl1, hl2, hl3⟩ := hl
  clear hl3
  unfold maxLen at hl2
  have t_upper : (s.toList == [117, 112, 112, 101, 114]) = false := by rw [h]; rfl
  have t_lower : (s.toList == [108, 111, 119, 101, 114]) = false := by rw [h]; rfl
  have t_trim : (s.toList == [116, 114, 105, 109]) = false := by rw [h]; rfl
  have t_size : (s.toList == [115, 105, 122, 101]) = false := by rw [h]; rfl
  have t_first : (s.toList == [102, 105, 114, 115, 116]) = false := by rw [h]; rfl
  have t_last : (s.toList == [108, 97, 115, 116]) = false := by rw [h]; rfl
  have t_default : (s.toList == [100, 101, 102, 97, 117, 108, 116]) = false := by rw [h]; rfl
  have t_cat : (s.toList == [99, 97, 116]) = false := by rw [h]; rfl
  have t_replace : (s.toList == [114, 101, 112, 108, 97, 99, 101]) = false := by rw [h]; rfl
  have t_join : (s.toList == [106, 111, 105, 110]) = false := by rw [h]; rfl
  have t_keys : (s.toList == [107, 101, 121, 115]) = true := by rw [h]; rfl
  clear h
  go_enter Try.func20, Try.ntmps20
  go_wp2_with (go_at_call 47; refine (HIS.out _ rfl).mono ?_; rintro e w' ⟨rfl, q, rfl⟩)
  go_ret2
  exact ⟨rfl, below_call _ _ _ _⟩
set_option maxHeartbeats 4000000 in
set_option maxRecDepth 100000 in
theorem call_get (s : ByteArray) (L : List Int) (lv : Value) (ok : Nat → Prop) (w : World) (hl : Sl w ok lv L.length (intC L)) (h : s.toList = [103, 101, 116]) : CallGoal s L lv w := by
  have his := fun (w' : World) (hw : w' = (w.alloc (.cells #[lv] 30)).alloc (.cells #[.int .i64 8, .int .i64 1] 31)) => is_at 1 [8, 1] w L lv ok w' _ hl hw rfl (by decide)
  have hP : progCall s.toList L = isP 1 [8, 1] L := by rw [h]; rfl
  rw [CallGoal, hP]; clear hP
  generalize isP 1 [8, 1] L = P at his ⊢
  have HIS := Lib.hid his; clear his
  obtain ⟨a, cap, rfl, hl1, hl2, hl3⟩ := hl
  clear hl3
  unfold maxLen at hl2
  have t_upper : (s.toList == [117, 112, 112, 101, 114]) = false := by rw [h]; rfl
  have t_lower : (s.toList == [108, 111, 119, 101, 114]) = false := by rw [h]; rfl
  have t_trim : (s.toList == [116, 114, 105, 109]) = false := by rw [h]; rfl
  have t_size : (s.toList == [115, 105, 122, 101]) = false := by rw [h]; rfl
  have t_first : (s.toList == [102, 105, 114, 115, 116]) = false := by rw [h]; rfl
  have t_last : (s.toList == [108, 97, 115, 116]) = false := by rw [h]; rfl
  have t_default : (s.toList == [100, 101, 102, 97, 117, 108, 116]) = false := by rw [h]; rfl
  have t_cat : (s.toList == [99, 97, 116]) = false := by rw [h]; rfl
  have t_replace : (s.toList == [114, 101, 112, 108, 97, 99, 101]) = false := by rw [h]; rfl
  have t_join : (s.toList == [106, 111, 105, 110]) = false := by rw [h]; rfl
  have t_keys : (s.toList == [107, 101, 121, 115]) = false := by rw [h]; rfl
  have t_get : (s.toList == [103, 101, 116]) = true := by rw [h]; rfl
  clear h
  go_enter Try.func20, Try.ntmps20
  go_wp2_with (go_at_call 47; refine (HIS.out _ rfl).mono ?_; rintro e w' ⟨rfl, q, rfl⟩)
  go_ret2
  exact ⟨rfl, below_call _ _ _ _⟩
set_option maxHeartbeats 4000000 in
set_option maxRecDepth 100000 in
theorem call_has (s : ByteArray) (L : List Int) (lv : Value) (ok : Nat → Prop) (w : World) (hl : Sl w ok lv L.length (intC L)) (h : s.toList = [104, 97, 115]) : CallGoal s L lv w := by
  have his := fun (w' : World) (hw : w' = (w.alloc (.cells #[lv] 30)).alloc (.cells #[.int .i64 8, .int .i64 1] 31)) => is_at 3 [8, 1] w L lv ok w' _ hl hw rfl (by decide)
  have hP : progCall s.toList L = isP 3 [8, 1] L := by rw [h]; rfl
  rw [CallGoal, hP]; clear hP
  generalize isP 3 [8, 1] L = P at his ⊢
  have HIS := Lib.hid his; clear his
  obtain ⟨a, cap, rfl, hl1, hl2, hl3⟩ := hl
  clear hl3
  unfold maxLen at hl2
  have t_upper : (s.toList == [117, 112, 112, 101, 114]) = false := by rw [h]; rfl
  have t_lower : (s.toList == [108, 111, 119, 101, 114]) = false := by rw [h]; rfl
  have t_trim : (s.toList == [116, 114, 105, 109]) = false := by rw [h]; rfl
  have t_size : (s.toList == [115, 105, 122, 101]) = false := by rw [h]; rfl
  have t_first : (s.toList == [102, 105, 114, 115, 116]) = false := by rw [h]; rfl
  have t_last : (s.toList == [108, 97, 115, 116]) = false := by rw [h]; rfl
  have t_default : (s.toList == [100, 101, 102, 97, 117, 108, 116]) = false := by rw [h]; rfl
  have t_cat : (s.toList == [99, 97, 116]) = false := by rw [h]; rfl
  have t_replace : (s.toList == [114, 101, 112, 108, 97, 99, 101]) = false := by rw [h]; rfl
  have t_join : (s.toList == [106, 111, 105, 110]) = false := by rw [h]; rfl
  have t_keys : (s.toList == [107, 101, 121, 115]) = false := by rw [h]; rfl
  have t_get : (s.toList == [103, 101, 116]) = false := by rw [h]; rfl
  have t_has : (s.toList == [104, 97, 115]) = true := by rw [h]; rfl
  clear h
  go_enter Try.func20, Try.ntmps20
  go_wp2_with (go_at_call 47; refine (HIS.out _ rfl).mono ?_; rintro e w' ⟨rfl, q, rfl⟩)
  go_ret2
  exact ⟨rfl, below_call _ _ _ _⟩
set_option maxHeartbeats 4000000 in
set_option maxRecDepth 100000 in
theorem call_less (s : ByteArray) (L : List Int) (lv : Value) (ok : Nat → Prop) (w : World) (hl : Sl w ok lv L.length (intC L)) (h : s.toList = [108, 101, 115, 115]) : CallGoal s L lv w := by
  have his := fun (w' : World) (hw : w' = (w.alloc (.cells #[lv] 30)).alloc (.cells #[.int .i64 2, .int .i64 2] 31)) => is_at 3 [2, 2] w L lv ok w' _ hl hw rfl (by decide)
  have hP : progCall s.toList L = isP 3 [2, 2] L := by rw [h]; rfl
  rw [CallGoal, hP]; clear hP
  generalize isP 3 [2, 2] L = P at his ⊢
  have HIS := Lib.hid his; clear his
  obtain ⟨a, cap, rfl, hl1, hl2, hl3⟩ := hl
  clear hl3
  unfold maxLen at hl2
  have t_upper : (s.toList == [117, 112, 112, 101, 114]) = false := by rw [h]; rfl
  have t_lower : (s.toList == [108, 111, 119, 101, 114]) = false := by rw [h]; rfl
  have t_trim : (s.toList == [116, 114, 105, 109]) = false := by rw [h]; rfl
  have t_size : (s.toList == [115, 105, 122, 101]) = false := by rw [h]; rfl
  have t_first : (s.toList == [102, 105, 114, 115, 116]) = false := by rw [h]; rfl
  have t_last : (s.toList == [108, 97, 115, 116]) = false := by rw [h]; rfl
  have t_default : (s.toList == [100, 101, 102, 97, 117, 108, 116]) = false := by rw [h]; rfl
  have t_cat : (s.toList == [99, 97, 116]) = false := by rw [h]; rfl
  have t_replace : (s.toList == [114, 101, 112, 108, 97, 99, 101]) = false := by rw [h]; rfl
  have t_join : (s.toList == [106, 111, 105, 110]) = false := by rw [h]; rfl
  have t_keys : (s.toList == [107, 101, 121, 115]) = false := by rw [h]; rfl
  have t_get : (s.toList == [103, 101, 116]) = false := by rw [h]; rfl
  have t_has : (s.toList == [104, 97, 115]) = false := by rw [h]; rfl
  have t_count : (s.toList == [99, 111, 117, 110, 116]) = false := by rw [h]; rfl
  have t_write : (s.toList == [119, 114, 105, 116, 101]) = false := by rw [h]; rfl
  have t_same : (s.toList == [115, 97, 109, 101]) = false := by rw [h]; rfl
  have t_less : (s.toList == [108, 101, 115, 115]) = true := by rw [h]; rfl
  clear h
  go_enter Try.func20, Try.ntmps20
  go_wp2_with (go_at_call 47; refine (HIS.out _ rfl).mono ?_; rintro e w' ⟨rfl, q, rfl⟩)
  go_ret2
  exact ⟨rfl, below_call _ _ _ _⟩
set_option maxHeartbeats 4000000 in
set_option maxRecDepth 100000 in
theorem call_add (s : ByteArray) (L : List Int) (lv : Value) (ok : Nat → Prop) (w : World) (hl : Sl w ok lv L.length (intC L)) (h : s.toList = [97, 100, 100]) : CallGoal s L lv w := by
  have his := fun (w' : World) (hw : w' = (w.alloc (.cells #[lv] 30)).alloc (.cells #[.int .i64 2, .int .i64 2] 31)) => is_at 2 [2, 2] w L lv ok w' _ hl hw rfl (by decide)
  have hP : progCall s.toList L = isP 2 [2, 2] L := by rw [h]; rfl
  rw [CallGoal, hP]; clear hP
  generalize isP 2 [2, 2] L = P at his ⊢
  have HIS := Lib.hid his; clear his
  obtain ⟨a, cap, rfl, hl1, hl2, hl3⟩ := hl
  clear hl3
  unfold maxLen at hl2
  have t_upper : (s.toList == [117, 112, 112, 101, 114]) = false := by rw [h]; rfl
  have t_lower : (s.toList == [108, 111, 119, 101, 114]) = false := by rw [h]; rfl
  have t_trim : (s.toList == [116, 114, 105, 109]) = false := by rw [h]; rfl
  have t_size : (s.toList == [115, 105, 122, 101]) = false := by rw [h]; rfl
  have t_first : (s.toList == [102, 105, 114, 115, 116]) = false := by rw [h]; rfl
  have t_last : (s.toList == [108, 97, 115, 116]) = false := by rw [h]; rfl
  have t_default : (s.toList == [100, 101, 102, 97, 117, 108, 116]) = false := by rw [h]; rfl
  have t_cat : (s.toList == [99, 97, 116]) = false := by rw [h]; rfl
  have t_replace : (s.toList == [114, 101, 112, 108, 97, 99, 101]) = false := by rw [h]; rfl
  have t_join : (s.toList == [106, 111, 105, 110]) = false := by rw [h]; rfl
  have t_keys : (s.toList == [107, 101, 121, 115]) = false := by rw [h]; rfl
  have t_get : (s.toList == [103, 101, 116]) = false := by rw [h]; rfl
  have t_has : (s.toList == [104, 97, 115]) = false := by rw [h]; rfl
  have t_count : (s.toList == [99, 111, 117, 110, 116]) = false := by rw [h]; rfl
  have t_write : (s.toList == [119, 114, 105, 116, 101]) = false := by rw [h]; rfl
  have t_same : (s.toList == [115, 97, 109, 101]) = false := by rw [h]; rfl
  have t_less : (s.toList == [108, 101, 115, 115]) = false := by rw [h]; rfl
  have t_add : (s.toList == [97, 100, 100]) = true := by rw [h]; rfl
  clear h
  go_enter Try.func20, Try.ntmps20
  go_wp2_with (go_at_call 47; refine (HIS.out _ rfl).mono ?_; rintro e w' ⟨rfl, q, rfl⟩)
  go_ret2
  exact ⟨rfl, below_call _ _ _ _⟩
set_option maxHeartbeats 4000000 in
set_option maxRecDepth 100000 in
theorem call_sub (s : ByteArray) (L : List Int) (lv : Value) (ok : Nat → Prop) (w : World) (hl : Sl w ok lv L.length (intC L)) (h : s.toList = [115, 117, 98]) : CallGoal s L lv w := by
  have his := fun (w' : World) (hw : w' = (w.alloc (.cells #[lv] 30)).alloc (.cells #[.int .i64 2, .int .i64 2] 31)) => is_at 2 [2, 2] w L lv ok w' _ hl hw rfl (by decide)
  have hP : progCall s.toList L = isP 2 [2, 2] L := by rw [h]; rfl
  rw [CallGoal, hP]; clear hP
  generalize isP 2 [2, 2] L = P at his ⊢
  have HIS := Lib.hid his; clear his
  obtain ⟨a, cap, rfl, hl1, hl2, hl3⟩ := hl
  clear hl3
  unfold maxLen at hl2
  have t_upper : (s.toList == [117, 112, 112, 101, 114]) = false := by rw [h]; rfl
  have t_lower : (s.toList == [108, 111, 119, 101, 114]) = false := by rw [h]; rfl
  have t_trim : (s.toList == [116, 114, 105, 109]) = false := by rw [h]; rfl
  have t_size : (s.toList == [115, 105, 122, 101]) = false := by rw [h]; rfl
  have t_first : (s.toList == [102, 105, 114, 115, 116]) = false := by rw [h]; rfl
  have t_last : (s.toList == [108, 97, 115, 116]) = false := by rw [h]; rfl
  have t_default : (s.toList == [100, 101, 102, 97, 117, 108, 116]) = false := by rw [h]; rfl
  have t_cat : (s.toList == [99, 97, 116]) = false := by rw [h]; rfl
  have t_replace : (s.toList == [114, 101, 112, 108, 97, 99, 101]) = false := by rw [h]; rfl
  have t_join : (s.toList == [106, 111, 105, 110]) = false := by rw [h]; rfl
  have t_keys : (s.toList == [107, 101, 121, 115]) = false := by rw [h]; rfl
  have t_get : (s.toList == [103, 101, 116]) = false := by rw [h]; rfl
  have t_has : (s.toList == [104, 97, 115]) = false := by rw [h]; rfl
  have t_count : (s.toList == [99, 111, 117, 110, 116]) = false := by rw [h]; rfl
  have t_write : (s.toList == [119, 114, 105, 116, 101]) = false := by rw [h]; rfl
  have t_same : (s.toList == [115, 97, 109, 101]) = false := by rw [h]; rfl
  have t_less : (s.toList == [108, 101, 115, 115]) = false := by rw [h]; rfl
  have t_add : (s.toList == [97, 100, 100]) = false := by rw [h]; rfl
  have t_sub : (s.toList == [115, 117, 98]) = true := by rw [h]; rfl
  clear h
  go_enter Try.func20, Try.ntmps20
  go_wp2_with (go_at_call 47; refine (HIS.out _ rfl).mono ?_; rintro e w' ⟨rfl, q, rfl⟩)
  go_ret2
  exact ⟨rfl, below_call _ _ _ _⟩
set_option maxHeartbeats 4000000 in
set_option maxRecDepth 100000 in
theorem call_both (s : ByteArray) (L : List Int) (lv : Value) (ok : Nat → Prop) (w : World) (hl : Sl w ok lv L.length (intC L)) (h : s.toList = [98, 111, 116, 104]) : CallGoal s L lv w := by
  have his := fun (w' : World) (hw : w' = (w.alloc (.cells #[lv] 30)).alloc (.cells #[.int .i64 3, .int .i64 3] 31)) => is_at 3 [3, 3] w L lv ok w' _ hl hw rfl (by decide)
  have hP : progCall s.toList L = isP 3 [3, 3] L := by rw [h]; rfl
  rw [CallGoal, hP]; clear hP
  generalize isP 3 [3, 3] L = P at his ⊢
  have HIS := Lib.hid his; clear his
  obtain ⟨a, cap, rfl, hl1, hl2, hl3⟩ := hl
  clear hl3
  unfold maxLen at hl2
  have t_upper : (s.toList == [117, 112, 112, 101, 114]) = false := by rw [h]; rfl
  have t_lower : (s.toList == [108, 111, 119, 101, 114]) = false := by rw [h]; rfl
  have t_trim : (s.toList == [116, 114, 105, 109]) = false := by rw [h]; rfl
  have t_size : (s.toList == [115, 105, 122, 101]) = false := by rw [h]; rfl
  have t_first : (s.toList == [102, 105, 114, 115, 116]) = false := by rw [h]; rfl
  have t_last : (s.toList == [108, 97, 115, 116]) = false := by rw [h]; rfl
  have t_default : (s.toList == [100, 101, 102, 97, 117, 108, 116]) = false := by rw [h]; rfl
  have t_cat : (s.toList == [99, 97, 116]) = false := by rw [h]; rfl
  have t_replace : (s.toList == [114, 101, 112, 108, 97, 99, 101]) = false := by rw [h]; rfl
  have t_join : (s.toList == [106, 111, 105, 110]) = false := by rw [h]; rfl
  have t_keys : (s.toList == [107, 101, 121, 115]) = false := by rw [h]; rfl
  have t_get : (s.toList == [103, 101, 116]) = false := by rw [h]; rfl
  have t_has : (s.toList == [104, 97, 115]) = false := by rw [h]; rfl
  have t_count : (s.toList == [99, 111, 117, 110, 116]) = false := by rw [h]; rfl
  have t_write : (s.toList == [119, 114, 105, 116, 101]) = false := by rw [h]; rfl
  have t_same : (s.toList == [115, 97, 109, 101]) = false := by rw [h]; rfl
  have t_less : (s.toList == [108, 101, 115, 115]) = false := by rw [h]; rfl
  have t_add : (s.toList == [97, 100, 100]) = false := by rw [h]; rfl
  have t_sub : (s.toList == [115, 117, 98]) = false := by rw [h]; rfl
  have t_both : (s.toList == [98, 111, 116, 104]) = true := by rw [h]; rfl
  clear h
  go_enter Try.func20, Try.ntmps20
  go_wp2_with (go_at_call 47; refine (HIS.out _ rfl).mono ?_; rintro e w' ⟨rfl, q, rfl⟩)
  go_ret2
  exact ⟨rfl, below_call _ _ _ _⟩
set_option maxHeartbeats 4000000 in
set_option maxRecDepth 100000 in
theorem call_either (s : ByteArray) (L : List Int) (lv : Value) (ok : Nat → Prop) (w : World) (hl : Sl w ok lv L.length (intC L)) (h : s.toList = [101, 105, 116, 104, 101, 114]) : CallGoal s L lv w := by
  have his := fun (w' : World) (hw : w' = (w.alloc (.cells #[lv] 30)).alloc (.cells #[.int .i64 3, .int .i64 3] 31)) => is_at 3 [3, 3] w L lv ok w' _ hl hw rfl (by decide)
  have hP : progCall s.toList L = isP 3 [3, 3] L := by rw [h]; rfl
  rw [CallGoal, hP]; clear hP
  generalize isP 3 [3, 3] L = P at his ⊢
  have HIS := Lib.hid his; clear his
  obtain ⟨a, cap, rfl, hl1, hl2, hl3⟩ := hl
  clear hl3
  unfold maxLen at hl2
  have t_upper : (s.toList == [117, 112, 112, 101, 114]) = false := by rw [h]; rfl
  have t_lower : (s.toList == [108, 111, 119, 101, 114]) = false := by rw [h]; rfl
  have t_trim : (s.toList == [116, 114, 105, 109]) = false := by rw [h]; rfl
  have t_size : (s.toList == [115, 105, 122, 101]) = false := by rw [h]; rfl
  have t_first : (s.toList == [102, 105, 114, 115, 116]) = false := by rw [h]; rfl
  have t_last : (s.toList == [108, 97, 115, 116]) = false := by rw [h]; rfl
  have t_default : (s.toList == [100, 101, 102, 97, 117, 108, 116]) = false := by rw [h]; rfl
  have t_cat : (s.toList == [99, 97, 116]) = false := by rw [h]; rfl
  have t_replace : (s.toList == [114, 101, 112, 108, 97, 99, 101]) = false := by rw [h]; rfl
  have t_join : (s.toList == [106, 111, 105, 110]) = false := by rw [h]; rfl
  have t_keys : (s.toList == [107, 101, 121, 115]) = false := by rw [h]; rfl
  have t_get : (s.toList == [103, 101, 116]) = false := by rw [h]; rfl
  have t_has : (s.toList == [104, 97, 115]) = false := by rw [h]; rfl
  have t_count : (s.toList == [99, 111, 117, 110, 116]) = false := by rw [h]; rfl
  have t_write : (s.toList == [119, 114, 105, 116, 101]) = false := by rw [h]; rfl
  have t_same : (s.toList == [115, 97, 109, 101]) = false := by rw [h]; rfl
  have t_less : (s.toList == [108, 101, 115, 115]) = false := by rw [h]; rfl
  have t_add : (s.toList == [97, 100, 100]) = false := by rw [h]; rfl
  have t_sub : (s.toList == [115, 117, 98]) = false := by rw [h]; rfl
  have t_both : (s.toList == [98, 111, 116, 104]) = false := by rw [h]; rfl
  have t_either : (s.toList == [101, 105, 116, 104, 101, 114]) = true := by rw [h]; rfl
  clear h
  go_enter Try.func20, Try.ntmps20
  go_wp2_with (go_at_call 47; refine (HIS.out _ rfl).mono ?_; rintro e w' ⟨rfl, q, rfl⟩)
  go_ret2
  exact ⟨rfl, below_call _ _ _ _⟩
set_option maxHeartbeats 4000000 in
set_option maxRecDepth 100000 in
theorem call_not (s : ByteArray) (L : List Int) (lv : Value) (ok : Nat → Prop) (w : World) (hl : Sl w ok lv L.length (intC L)) (h : s.toList = [110, 111, 116]) : CallGoal s L lv w := by
  have his := fun (w' : World) (hw : w' = (w.alloc (.cells #[lv] 30)).alloc (.cells #[.int .i64 3] 31)) => is_at 3 [3] w L lv ok w' _ hl hw rfl (by decide)
  have hP : progCall s.toList L = isP 3 [3] L := by rw [h]; rfl
  rw [CallGoal, hP]; clear hP
  generalize isP 3 [3] L = P at his ⊢
  have HIS := Lib.hid his; clear his
  obtain ⟨a, cap, rfl, hl1, hl2, hl3⟩ := hl
  clear hl3
  unfold maxLen at hl2
  have t_upper : (s.toList == [117, 112, 112, 101, 114]) = false := by rw [h]; rfl
  have t_lower : (s.toList == [108, 111, 119, 101, 114]) = false := by rw [h]; rfl
  have t_trim : (s.toList == [116, 114, 105, 109]) = false := by rw [h]; rfl
  have t_size : (s.toList == [115, 105, 122, 101]) = false := by rw [h]; rfl
  have t_first : (s.toList == [102, 105, 114, 115, 116]) = false := by rw [h]; rfl
  have t_last : (s.toList == [108, 97, 115, 116]) = false := by rw [h]; rfl
  have t_default : (s.toList == [100, 101, 102, 97, 117, 108, 116]) = false := by rw [h]; rfl
  have t_cat : (s.toList == [99, 97, 116]) = false := by rw [h]; rfl
  have t_replace : (s.toList == [114, 101, 112, 108, 97, 99, 101]) = false := by rw [h]; rfl
  have t_join : (s.toList == [106, 111, 105, 110]) = false := by rw [h]; rfl
  have t_keys : (s.toList == [107, 101, 121, 115]) = false := by rw [h]; rfl
  have t_get : (s.toList == [103, 101, 116]) = false := by rw [h]; rfl
  have t_has : (s.toList == [104, 97, 115]) = false := by rw [h]; rfl
  have t_count : (s.toList == [99, 111, 117, 110, 116]) = false := by rw [h]; rfl
  have t_write : (s.toList == [119, 114, 105, 116, 101]) = false := by rw [h]; rfl
  have t_same : (s.toList == [115, 97, 109, 101]) = false := by rw [h]; rfl
  have t_less : (s.toList == [108, 101, 115, 115]) = false := by rw [h]; rfl
  have t_add : (s.toList == [97, 100, 100]) = false := by rw [h]; rfl
  have t_sub : (s.toList == [115, 117, 98]) = false := by rw [h]; rfl
  have t_both : (s.toList == [98, 111, 116, 104]) = false := by rw [h]; rfl
  have t_either : (s.toList == [101, 105, 116, 104, 101, 114]) = false := by rw [h]; rfl
  have t_not : (s.toList == [110, 111, 116]) = true := by rw [h]; rfl
  clear h
  go_enter Try.func20, Try.ntmps20
  go_wp2_with (go_at_call 47; refine (HIS.out _ rfl).mono ?_; rintro e w' ⟨rfl, q, rfl⟩)
  go_ret2
  exact ⟨rfl, below_call _ _ _ _⟩
end Go.Proofs.Ytbgfcbicbkijaaa
