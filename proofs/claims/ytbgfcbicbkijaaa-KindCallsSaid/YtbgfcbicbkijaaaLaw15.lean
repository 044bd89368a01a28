/- The statements of layer 15: what the laws compute, walked. -/
import Derived.Test.YtbgfcbicbkijaaaKindW7
import Derived.Test.YtbgfcbicbkijaaaOctW1
namespace Go.Proofs.Ytbgfcbicbkijaaa
open Go.RowKit

theorem ex_field : fieldP 5 [108, 97, 98, 101, 108, 115] = (8, true) := by decide
theorem ex_get : progCall [103, 101, 116] [8, 1] = (1, true) := by decide
theorem ex_get2 : progCall [103, 101, 116] [1] = (0, false) := by decide
theorem ex_same : progCall [115, 97, 109, 101] [2, 2] = (3, true) := by decide
theorem ex_same2 : progCall [115, 97, 109, 101] [4, 4] = (0, false) := by decide
theorem callLit (n : List UInt8) (L : List Int) (P : Int × Bool) (h : progCall n L = P) (m : Nat) (hm : L.length = m) (hb : m ≤ 1000) (w : World) (C : Array Value) (hC : C = (intC L).toArray) :
    Calls Try.prog 20 #[.string ⟨n.toArray⟩, .slice (some ⟨w.heap.size, 0, none⟩) m m] (w.alloc (.cells C 31)) fun e w' => e = .returned (.tuple #[.int .i64 P.1, .bool P.2]) ∧ Below w.heap.size w w' := by
  subst hm
  subst hC
  have := call_any ⟨n.toArray⟩ L _ _ (w.alloc (.cells (intC L).toArray 31)) (Sl.lit w (intC L).toArray 31 L.length (intC L) (by simp [intC]) (by omega))
  unfold CallGoal at this
  rw [Lib.toList_data, show (ByteArray.mk n.toArray).data.toList = n from rfl, h] at this
  refine this.mono ?_
  rintro e w' ⟨he, hb⟩
  exact ⟨he, ((Below.refl _ _).alloc (Nat.le_refl _) _).trans (hb.mono (by simp))⟩
set_option maxHeartbeats 1000000 in
theorem awake15_any (w : World) : Calls Try.prog 25 #[] w fun e w' => e = .returned (.bool true) ∧ Below w.heap.size w w' := by
  have h1 := fun w => field_any 5 ⟨#[108, 97, 98, 101, 108, 115]⟩ w
  simp only [ex_field] at h1
  have h2 := fun w => callLit _ _ _ ex_get 2 rfl (by decide) w #[.int .i64 8, .int .i64 1] rfl
  have h3 := fun w => callLit _ _ _ ex_get2 1 rfl (by decide) w #[.int .i64 1] rfl
  have h4 := fun w => callLit _ _ _ ex_same 2 rfl (by decide) w #[.int .i64 2, .int .i64 2] rfl
  have h5 := fun w => callLit _ _ _ ex_same2 2 rfl (by decide) w #[.int .i64 4, .int .i64 4] rfl
  have H1 := Lib.hid h1; clear h1
  have H2 := Lib.hid h2; clear h2
  have H3 := Lib.hid h3; clear h3
  have H4 := Lib.hid h4; clear h4
  have H5 := Lib.hid h5; clear h5
  go_enter Try.func25, Try.ntmps25
  go_wp2_with fail
  refine (H1.out _).mono ?_
  rintro e w1 ⟨rfl, b1⟩
  go_wp2_with fail
  refine (H2.out _).mono ?_
  rintro e w2 ⟨rfl, b2⟩
  go_wp2_with fail
  refine (H3.out _).mono ?_
  rintro e w3 ⟨rfl, b3⟩
  go_wp2_with fail
  refine (H4.out _).mono ?_
  rintro e w4 ⟨rfl, b4⟩
  go_wp2_with fail
  refine (H5.out _).mono ?_
  rintro e w5 ⟨rfl, b5⟩
  go_wp2_with fail
  go_ret
  refine ⟨rfl, ?_⟩
  have q2 := b1.trans (b2.mono b1.size)
  have q3 := q2.trans (b3.mono q2.size)
  have q4 := q3.trans (b4.mono q3.size)
  exact q4.trans (b5.mono q4.size)
theorem of_name (k : Int) : ofP (nameL k) = if 1 ≤ k ∧ k ≤ 9 then (k, true) else (0, false) := by
  by_cases h : 1 ≤ k ∧ k ≤ 9
  · rw [if_pos h]
    have : ∀ c : Fin 10, 1 ≤ c.1 → ofP (nameL ((c.1 : Nat) : Int)) = (((c.1 : Nat) : Int), true) := by decide
    have h2 := this ⟨k.toNat, by omega⟩ (by simp; omega)
    simp only [Int.toNat_of_nonneg (show 0 ≤ k by omega)] at h2
    exact h2
  · rw [if_neg h]
    have : nameL k = [] := by
      rw [nameL]
      split
      · rfl
      · have : k = 0 := by omega
        subst this; rfl
    rw [this]; rfl
theorem name_nil (k : Int) : (nameL k == []) = !decide (1 ≤ k ∧ k ≤ 9) := by
  by_cases h : 1 ≤ k ∧ k ≤ 9
  · have : ∀ c : Fin 10, 1 ≤ c.1 → (nameL ((c.1 : Nat) : Int) == []) = false := by decide
    have h2 := this ⟨k.toNat, by omega⟩ (by simp; omega)
    simp only [Int.toNat_of_nonneg (show 0 ≤ k by omega)] at h2
    rw [h2]; simp [h]
  · have : nameL k = [] := by
      rw [nameL]
      split
      · rfl
      · have : k = 0 := by omega
        subst this; rfl
    rw [this]; simp; omega
set_option maxHeartbeats 2000000 in
theorem law_kindNames (k : Int) (s : ByteArray) (h0 : -9223372036854775808 ≤ k) (h1 : k ≤ 9223372036854775807) (_hs : s.size ≤ maxLen) (w : World) :
    Calls Try.prog 9 #[.int .i64 k, .string s] w fun e w' => e = .returned (.bool true) ∧ Below w.heap.size w w' := by
  have f1 := fun w => of_any s w
  have f2 := fun w => rof_any s w
  have f3 := fun w => name_any k w
  have f4 := fun w => rname_any k h0 h1 w
  have f5 := fun w => of_any ⟨(nameL k).toArray⟩ w
  have f6 := fun w => plain_any k w
  have f7 := fun w => rplain_any k w
  have hb := of_name k
  have hn := name_nil k
  simp only [hb] at f5
  clear hb
  generalize ofP s.data.toList = P at f1 f2
  generalize nameL k = N at f3 f4 f5 hn
  generalize plainB k = B at f6 f7
  have F1 := Lib.hid f1; clear f1
  have F2 := Lib.hid f2; clear f2
  have F3 := Lib.hid f3; clear f3
  have F4 := Lib.hid f4; clear f4
  have F6 := Lib.hid f6; clear f6
  have F7 := Lib.hid f7; clear f7
  have F8 := Lib.hid awake15_any
  by_cases h : 1 ≤ k ∧ k ≤ 9
  · simp only [if_pos h] at f5
    rw [decide_eq_true h] at hn
    have F5 := Lib.hid f5; clear f5
    clear h
    go_enter Try.func9, Try.ntmps9
    go_wp2_with fail
    refine (F1.out _).mono ?_
    rintro e w1 ⟨rfl, b1⟩
    go_wp2_with fail
    refine (F2.out _).mono ?_
    rintro e w2 ⟨rfl, b2⟩
    go_wp2_with fail
    refine (F3.out _).mono ?_
    rintro e w3 ⟨rfl, b3⟩
    go_wp2_with fail
    refine (F5.out _).mono ?_
    rintro e w4 ⟨rfl, b4⟩
    go_wp2_with fail
    refine (F3.out _).mono ?_
    rintro e w5 ⟨rfl, b5⟩
    go_wp2_with fail
    refine (F4.out _).mono ?_
    rintro e w6 ⟨rfl, b6⟩
    go_wp2_with fail
    refine (F6.out _).mono ?_
    rintro e w7 ⟨rfl, rfl⟩
    go_wp2_with fail
    refine (F7.out _).mono ?_
    rintro e w7 ⟨rfl, rfl⟩
    go_wp2_with fail
    refine (F4.out _).mono ?_
    rintro e w7 ⟨rfl, b7⟩
    go_wp2_with fail
    refine (F8.out _).mono ?_
    rintro e w8 ⟨rfl, b8⟩
    go_wp2_with fail
    go_ret
    refine ⟨rfl, ?_⟩
    have q2 := b1.trans (b2.mono b1.size)
    have q3 := q2.trans (b3.mono q2.size)
    have q4 := q3.trans (b4.mono q3.size)
    have q5 := q4.trans (b5.mono q4.size)
    have q6 := q5.trans (b6.mono q5.size)
    have q7 := q6.trans (b7.mono q6.size)
    exact q7.trans (b8.mono q7.size)
  · simp only [if_neg h] at f5
    rw [decide_eq_false h] at hn
    have F5 := Lib.hid f5; clear f5
    clear h
    go_enter Try.func9, Try.ntmps9
    go_wp2_with fail
    refine (F1.out _).mono ?_
    rintro e w1 ⟨rfl, b1⟩
    go_wp2_with fail
    refine (F2.out _).mono ?_
    rintro e w2 ⟨rfl, b2⟩
    go_wp2_with fail
    refine (F3.out _).mono ?_
    rintro e w3 ⟨rfl, b3⟩
    go_wp2_with fail
    refine (F5.out _).mono ?_
    rintro e w4 ⟨rfl, b4⟩
    go_wp2_with fail
    refine (F3.out _).mono ?_
    rintro e w5 ⟨rfl, b5⟩
    go_wp2_with fail
    refine (F4.out _).mono ?_
    rintro e w6 ⟨rfl, b6⟩
    go_wp2_with fail
    refine (F6.out _).mono ?_
    rintro e w7 ⟨rfl, rfl⟩
    go_wp2_with fail
    refine (F7.out _).mono ?_
    rintro e w7 ⟨rfl, rfl⟩
    go_wp2_with fail
    refine (F4.out _).mono ?_
    rintro e w7 ⟨rfl, b7⟩
    go_wp2_with fail
    refine (F8.out _).mono ?_
    rintro e w8 ⟨rfl, b8⟩
    go_wp2_with fail
    go_ret
    refine ⟨rfl, ?_⟩
    have q2 := b1.trans (b2.mono b1.size)
    have q3 := q2.trans (b3.mono q2.size)
    have q4 := q3.trans (b4.mono q3.size)
    have q5 := q4.trans (b5.mono q4.size)
    have q6 := q5.trans (b6.mono q5.size)
    have q7 := q6.trans (b7.mono q6.size)
    exact q7.trans (b8.mono q7.size)
theorem fieldGo_mem (k : Int) (l : List UInt8) : ∀ t : List (Int × List UInt8 × Int), (∃ f ∈ t, f.1 = k ∧ f.2.1 = l) → (fieldGo k l t).2 = true
  | [], h => by obtain ⟨f, hf, -⟩ := h; cases hf
  | g :: t, h => by
    unfold fieldGo
    split
    · rfl
    · rename_i hg
      obtain ⟨f, hf, e⟩ := h
      rcases List.mem_cons.1 hf with rfl | hf
      · exact absurd e hg
      · exact fieldGo_mem k l t ⟨f, hf, e⟩
theorem field_there (k : Int) (j : Nat) (h : j < (fieldsL k).length) : (fieldP k (fieldsL k)[j]).2 = true := by
  have hm : (fieldsL k)[j] ∈ fieldsL k := List.getElem_mem h
  generalize (fieldsL k)[j] = l at hm
  unfold fieldsL at hm
  obtain ⟨f, hf, he⟩ := List.mem_map.1 hm
  obtain ⟨h1, h2⟩ := List.mem_filter.1 hf
  exact fieldGo_mem k l tab ⟨f, h1, by simpa using h2, he⟩
set_option maxHeartbeats 2000000 in
theorem law_kindFields (k : Int) (s : ByteArray) (_h0 : -9223372036854775808 ≤ k) (_h1 : k ≤ 9223372036854775807) (_hs : s.size ≤ maxLen) (w : World) :
    Calls Try.prog 6 #[.int .i64 k, .string s] w fun e w' => e = .returned (.bool true) ∧ Below w.heap.size w w' := by
  have f1 := fun w => field_any k s w
  have f2 := fun w => rfield_any k s w
  have f3 := fun w => elem_any k w
  have f4 := fun w => relem_any k w
  have f5 := fun w => fields_any k w
  have f6 := fun w => rfields_any k w
  have ht := field_there k
  have hl := fieldsL_len k
  have f7 := fun (j : Nat) (hj : j < (fieldsL k).length) w => field_any k ⟨(fieldsL k)[j].toArray⟩ w
  simp only at f7
  generalize fieldP k s.data.toList = P at f1 f2
  generalize elemP k = E at f3 f4
  generalize fieldsL k = N at f5 f6 f7 ht hl
  have F1 := Lib.hid f1; clear f1
  have F2 := Lib.hid f2; clear f2
  have F3 := Lib.hid f3; clear f3
  have F4 := Lib.hid f4; clear f4
  have F5 := Lib.hid f5; clear f5
  have F6 := Lib.hid f6; clear f6
  have F7 := Lib.hid f7; clear f7
  have HT := Lib.hid ht; clear ht
  have F8 := Lib.hid awake15_any
  go_enter Try.func6, Try.ntmps6
  go_wp2_with fail
  refine (F1.out _).mono ?_
  rintro e w1 ⟨rfl, b1⟩
  go_wp2_with fail
  refine (F2.out _).mono ?_
  rintro e w2 ⟨rfl, b2⟩
  go_wp2_with fail
  refine (F3.out _).mono ?_
  rintro e w3 ⟨rfl, rfl⟩
  go_wp2_with fail
  refine (F4.out _).mono ?_
  rintro e w3 ⟨rfl, rfl⟩
  go_wp2_with fail
  refine (F5.out _).mono ?_
  rintro e w3 ⟨v, rfl, s3, b3⟩
  obtain ⟨a, cap, rfl, sl1, sl2, sl3⟩ := s3
  unfold maxLen at sl2
  have S3 := Lib.hid sl3; clear sl3
  have q3 : Below w.heap.size w w3 := by
    have q2 := b1.trans (b2.mono b1.size)
    exact q2.trans (b3.mono q2.size)
  clear b1 b2 b3
  go_wp2_with fail
  go_loopw [15] (fun i wr => ∃ j : Nat, j ≤ N.length ∧ i = .int .i64 j ∧ Below w3.heap.size w3 wr) (fun i _ => N.length - (intOf i).toNat)
  case atStart => exact ⟨0, by omega, rfl, Below.refl _ _⟩
  case round =>
    obtain ⟨j, hj, rfl, hb⟩ := hrel
    by_cases hlt : j < N.length
    · obtain ⟨b, off, rfl, -, c1⟩ := S3.out j (.string ⟨N[j].toArray⟩) (by simp [strC, hlt])
      have hblt := cell_lt c1
      have c2 : _ := (hb.cell (p := ⟨b, off + j, none⟩) hblt).trans c1
      have hth := HT.out j hlt
      have F7j := F7.out j hlt
      clear hblt c1
      generalize N[j] = nm at c2 hth F7j
      generalize fieldP k nm = Q at hth F7j
      have G7 := Lib.hid F7j; clear F7j
      have HB := Lib.hid hb; clear hb
      have Q3 := Lib.hid q3; clear q3
      go_wp2_with fail
      refine (G7.out _).mono ?_
      rintro e w4 ⟨rfl, b4⟩
      go_wp2_with fail
      go_roundw
      case rel => exact ⟨j + 1, by omega, by go_num, HB.out.trans (b4.mono HB.out.size)⟩
      case measure => simp [intOf]; omega
    · have hj2 : j = N.length := by omega
      subst hj2
      have hge : N.length ≤ N.length := Nat.le_refl _
      have HB := Lib.hid hb; clear hb
      have Q3 := Lib.hid q3; clear q3
      go_wp2_with fail
      refine (F6.out _).mono ?_
      rintro e w4 ⟨v, rfl, s4, b4⟩
      go_wp2_with fail
      refine (same_any _ v N N (fun _ => True) _ w4 ⟨a, cap, rfl, sl1, by unfold maxLen; omega, fun j u hj => ?_⟩ s4).mono ?_
      · obtain ⟨b, off, ha, -, c1⟩ := S3.out j u hj
        have hblt := cell_lt c1
        have hb2 := HB.out.trans (b4.mono HB.out.size)
        exact ⟨b, off, ha, trivial, (hb2.cell (p := ⟨b, off + j, none⟩) hblt).trans c1⟩
      rintro e w5 ⟨rfl, b5⟩
      go_wp2_with fail
      refine (F8.out _).mono ?_
      rintro e w6 ⟨rfl, b6⟩
      go_wp2_with fail
      go_ret
      refine ⟨ret_bool (by simp), ?_⟩
      have r1 := Q3.out.trans (HB.out.mono Q3.out.size)
      have r2 := r1.trans (b4.mono r1.size)
      have r3 := r2.trans (b5.mono r2.size)
      exact r3.trans (b6.mono r3.size)
end Go.Proofs.Ytbgfcbicbkijaaa
