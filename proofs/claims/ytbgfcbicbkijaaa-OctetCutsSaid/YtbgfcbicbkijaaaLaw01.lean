/- The statements of layer 1: what the laws compute, walked. -/
import Derived.Test.YtbgfcbicbkijaaaCutW2
import Derived.Test.YtbgfcbicbkijaaaOctW5
import Derived.Test.YtbgfcbicbkijaaaOctW4
namespace Go.Proofs.Ytbgfcbicbkijaaa
open Go.RowKit Go.Shelf

theorem ex_byte : byteP [37, 99, 51] 1 = (195, true) := by decide
theorem ex_text : textL (-120) = [45, 49, 50, 48] := by
  rw [textL, if_pos (by omega), show (-120 : Int).natAbs = 120 from rfl, digs_ge 120 (by omega), digs_ge (120 / 10) (by omega), digs_lt _ (by omega)]; rfl
theorem ex_pair : pairL 10 = [48, 65] := by decide
theorem ex_cut : cutL 59 [97, 59, 59, 98] = [[97], [], [98]] := by decide
set_option maxHeartbeats 1000000 in
theorem awake01_any (w : World) : Calls Try.prog 16 #[] w fun e w' => e = .returned (.bool true) ∧ Below w.heap.size w w' := by
  have h1 := fun w => byte_any ⟨#[37, 99, 51]⟩ 1 (by omega) (by omega) (by decide) w
  have h2 := fun w => text_any (-120) (by omega) (by omega) w
  have h3 := fun w => pair_any 10 (by omega) (by omega) w
  have h4 := fun w => cut_any ⟨#[97, 59, 59, 98]⟩ 59 (by decide) w
  simp only [ex_byte, ex_text, ex_pair, show (59 : Int).toNat.toUInt8 = 59 from rfl, ex_cut] at h1 h2 h3 h4
  have H1 := Lib.hid h1; clear h1
  have H2 := Lib.hid h2; clear h2
  have H3 := Lib.hid h3; clear h3
  have H4 := Lib.hid h4; clear h4
  go_enter Try.func16, Try.ntmps16
  go_wp2_with fail
  refine (H1.out _).mono ?_
  rintro e w1 ⟨rfl, rfl⟩
  go_wp2_with fail
  refine (H2.out _).mono ?_
  rintro e w1 ⟨rfl, b1⟩
  go_wp2_with fail
  refine (H3.out _).mono ?_
  rintro e w2 ⟨rfl, b2⟩
  go_wp2_with fail
  refine (H4.out _).mono ?_
  rintro e w3 ⟨v, rfl, s3, b3⟩
  go_wp2_with fail
  refine (same_any v _ [[97], [], [98]] [[97], [], [98]] _ _ _ (s3.alloc _) (Sl.lit w3 _ _ 3 _ rfl (by omega))).mono ?_
  rintro e w4 ⟨rfl, b4⟩
  go_wp2_with fail
  go_ret
  refine ⟨rfl, ?_⟩
  have q1 : Below w.heap.size w w2 := b1.trans (b2.mono b1.size)
  have q2 : Below w.heap.size w w3 := q1.trans (b3.mono q1.size)
  have q3 := q2.alloc q2.size (.cells #[.string ⟨#[97]⟩, .string ⟨#[]⟩, .string ⟨#[98]⟩] 9)
  exact q3.trans (b4.mono (by simp; have := q2.size; omega))
theorem hex_same : ∀ c : Fin 256, worthB ((c.1 : Nat) : Int) = decide (¬ digitV ((c.1 : Nat) : Int) > 15) ∧ (worthB ((c.1 : Nat) : Int) = true → worthV ((c.1 : Nat) : Int) = digitV ((c.1 : Nat) : Int)) := by decide +kernel
theorem byteP_eq (l : List UInt8) (at_ : Int) : byteP l at_ = rbyteP l at_ := by
  unfold byteP rbyteP
  split
  · rfl
  · dsimp only
    generalize l.getD at_.toNat 0 = x
    generalize l.getD (at_.toNat + 1) 0 = y
    obtain ⟨x1, x2⟩ := hex_same ⟨x.toNat, x.toNat_lt⟩
    obtain ⟨y1, y2⟩ := hex_same ⟨y.toNat, y.toNat_lt⟩
    simp only at x1 x2 y1 y2
    by_cases hx : worthB (x.toNat : Int) = true
    · by_cases hy : worthB (y.toNat : Int) = true
      · rw [hx] at x1; rw [hy] at y1
        have x3 := of_decide_eq_true x1.symm
        have y3 := of_decide_eq_true y1.symm
        rw [if_pos (by simp [hx, hy]), if_neg (by simp; omega), x2 hx, y2 hy]
      · simp at hy
        rw [hy] at y1
        have y3 := of_decide_eq_false y1.symm
        rw [if_neg (by simp [hy]), if_pos (.inr (by simpa using y3))]
    · simp at hx
      rw [hx] at x1
      have x3 := of_decide_eq_false x1.symm
      rw [if_neg (by simp [hx]), if_pos (.inl (by simpa using x3))]
theorem pair_back : ∀ c : Fin 256, byteP (pairL ((c.1 : Nat) : Int)) 0 = (((c.1 : Nat) : Int), true) := by decide +kernel
set_option maxHeartbeats 1000000 in
theorem law_pairs (c : Int) (s : ByteArray) (at_ : Int) (hc0 : 0 ≤ c) (hc1 : c ≤ 255) (hs : s.size ≤ maxLen) (h0 : -9223372036854775808 ≤ at_) (h1 : at_ ≤ 9223372036854775807) (w : World) :
    Calls Try.prog 3 #[.int .u8 c, .string s, .int .i64 at_] w fun e w' => e = .returned (.bool true) ∧ Below w.heap.size w w' := by
  have hb : byteP (pairL c) 0 = (c, true) := by
    have := pair_back ⟨c.toNat, by omega⟩
    simp only [Int.toNat_of_nonneg hc0] at this
    exact this
  have ht : (List.take 300 s.data.toList).length ≤ 300 := by rw [List.length_take]; omega
  have hsz : ({ data := (List.take 300 s.data.toList).toArray } : ByteArray).size ≤ maxLen := by rw [size_len]; unfold maxLen; simp only []; omega
  have f1 := fun w => few_any s hs w
  have f2 := fun w => pair_any c hc0 hc1 w
  have f3 := fun w => byte_any ⟨(pairL c).toArray⟩ 0 (by omega) (by omega) (by simp [pairL, maxLen, size_len]) w
  have f4 := fun w => byte_any ⟨(s.data.toList.take 300).toArray⟩ at_ h0 h1 hsz w
  have f5 := fun w => rbyte_any ⟨(s.data.toList.take 300).toArray⟩ at_ h0 h1 hsz w
  have f6 := fun w => rpair_any c hc0 hc1 w
  simp only [hb] at f3
  simp only [← byteP_eq] at f5
  generalize List.take 300 s.data.toList = L at f1 f4 f5
  clear ht hsz hb
  generalize pairL c = p at f2 f3 f6
  generalize hB : byteP L at_ = B at f4 f5
  clear hB
  obtain ⟨x, y⟩ := B
  have F1 := Lib.hid f1; clear f1
  have F2 := Lib.hid f2; clear f2
  have F3 := Lib.hid f3; clear f3
  have F4 := Lib.hid f4; clear f4
  have F5 := Lib.hid f5; clear f5
  have F6 := Lib.hid f6; clear f6
  have F7 := Lib.hid awake01_any
  go_enter Try.func3, Try.ntmps3
  go_wp2_with fail
  refine (F1.out _).mono ?_
  rintro e w1 ⟨rfl, rfl⟩
  go_wp2_with fail
  refine (F2.out _).mono ?_
  rintro e w1 ⟨rfl, b1⟩
  go_wp2_with fail
  refine (F3.out _).mono ?_
  rintro e w2 ⟨rfl, rfl⟩
  go_wp2_with fail
  refine (F4.out _).mono ?_
  rintro e w2 ⟨rfl, rfl⟩
  go_wp2_with fail
  refine (F5.out _).mono ?_
  rintro e w2 ⟨rfl, b2⟩
  go_wp2_with fail
  refine (F2.out _).mono ?_
  rintro e w3 ⟨rfl, b3⟩
  go_wp2_with fail
  refine (F6.out _).mono ?_
  rintro e w4 ⟨rfl, b4⟩
  go_wp2_with fail
  refine (F7.out _).mono ?_
  rintro e w5 ⟨rfl, b5⟩
  go_wp2_with fail
  go_ret
  refine ⟨rfl, ?_⟩
  have q2 := b1.trans (b2.mono b1.size)
  have q3 := q2.trans (b3.mono q2.size)
  have q4 := q3.trans (b4.mono q3.size)
  exact q4.trans (b5.mono q4.size)
theorem low_low : ∀ c : Fin 256, low (low (UInt8.ofNat c.1)) = low (UInt8.ofNat c.1) := by decide +kernel
theorem foldL_idem (l : List UInt8) : foldL (foldL l) = foldL l := by
  simp only [foldL, List.map_map]
  apply List.map_congr_left
  intro c _
  have := low_low ⟨c.toNat, c.toNat_lt⟩
  simpa using this
set_option maxHeartbeats 2000000 in
theorem law_folds (a b : ByteArray) (ha : a.size ≤ maxLen) (hb : b.size ≤ maxLen) (w : World) :
    Calls Try.prog 4 #[.string a, .string b] w fun e w' => e = .returned (.bool true) ∧ Below w.heap.size w w' := by
  have e1 : ({ data := (List.take 300 a.data.toList).toArray } : ByteArray).size ≤ 300 := by rw [size_len]; simp only [List.length_take]; omega
  have e2 : ({ data := (List.take 300 b.data.toList).toArray } : ByteArray).size ≤ 300 := by rw [size_len]; simp only [List.length_take]; omega
  have f1 := fun w => few_any a ha w
  have f2 := fun w => few_any b hb w
  generalize List.take 300 a.data.toList = A at f1 e1
  generalize List.take 300 b.data.toList = B at f2 e2
  have hx : (foldL A).length = A.length := foldL_len A
  have e3 : ({ data := (foldL A).toArray } : ByteArray).size ≤ 300 := by rw [size_len] at e1 ⊢; simp only at e1 ⊢; omega
  have g1 := fun w => fold_any ⟨A.toArray⟩ (by unfold maxLen; omega) w
  have g2 := fun w => rfold_any ⟨A.toArray⟩ (by omega) w
  have g3 := fun w => fold_any ⟨(foldL A).toArray⟩ (by unfold maxLen; omega) w
  have g4 := fun w => alike_any ⟨A.toArray⟩ ⟨B.toArray⟩ (by unfold maxLen; omega) (by unfold maxLen; omega) w
  have g5 := fun w => rfold_any ⟨B.toArray⟩ (by omega) w
  have g6 := fun w => alike_any ⟨A.toArray⟩ ⟨(foldL A).toArray⟩ (by unfold maxLen; omega) (by unfold maxLen; omega) w
  simp only [foldL_idem, decide_true] at g1 g2 g3 g4 g5 g6
  generalize foldL A = FA at g1 g2 g3 g4 g5 g6
  generalize foldL B = FB at g4 g5
  clear e1 e2 e3 hx
  have F1 := Lib.hid f1; clear f1
  have F2 := Lib.hid f2; clear f2
  have G1 := Lib.hid g1; clear g1
  have G2 := Lib.hid g2; clear g2
  have G3 := Lib.hid g3; clear g3
  have G5 := Lib.hid g5; clear g5
  have G6 := Lib.hid g6; clear g6
  have G7 := Lib.hid awake01_any
  have hq : (FA == FB) = decide (FA = FB) := by rw [Bool.eq_iff_iff]; simp
  generalize hd : decide (FA = FB) = d at g4 hq
  clear hd
  have G4 := Lib.hid g4; clear g4
  go_enter Try.func4, Try.ntmps4
  go_wp2_with fail
  refine (F1.out _).mono ?_
  rintro e w1 ⟨rfl, rfl⟩
  go_wp2_with fail
  refine (F2.out _).mono ?_
  rintro e w1 ⟨rfl, rfl⟩
  go_wp2_with fail
  refine (G1.out _).mono ?_
  rintro e w1 ⟨rfl, b1⟩
  go_wp2_with fail
  refine (G2.out _).mono ?_
  rintro e w2 ⟨rfl, b2⟩
  go_wp2_with fail
  refine (G3.out _).mono ?_
  rintro e w3 ⟨rfl, b3⟩
  go_wp2_with fail
  refine (G4.out _).mono ?_
  rintro e w4 ⟨rfl, b4⟩
  go_wp2_with fail
  refine (G2.out _).mono ?_
  rintro e w5 ⟨rfl, b5⟩
  go_wp2_with fail
  refine (G5.out _).mono ?_
  rintro e w6 ⟨rfl, b6⟩
  go_wp2_with fail
  refine (G6.out _).mono ?_
  rintro e w7 ⟨rfl, b7⟩
  go_wp2_with fail
  refine (G7.out _).mono ?_
  rintro e w8 ⟨rfl, b8⟩
  go_wp2_with fail
  go_ret
  refine ⟨rfl, ?_⟩
  have q2 := b1.trans (b2.mono b1.size)
  have q3 := q2.trans (b3.mono q2.size)
  have q4 := q3.trans (b4.mono q3.size)
  have q5 := q4.trans (b5.mono q4.size)
  have q6 := q5.trans (b6.mono q5.size)
  have q7 := q6.trans (b7.mono q6.size)
  exact q7.trans (b8.mono q7.size)
set_option maxHeartbeats 2000000 in
theorem law_numbers (n : Int) (s : ByteArray) (h0 : -9223372036854775808 ≤ n) (h1 : n ≤ 9223372036854775807) (hs : s.size ≤ maxLen) (w : World) :
    Calls Try.prog 8 #[.int .i64 n, .string s] w fun e w' => e = .returned (.bool true) ∧ Below w.heap.size w w' := by
  have e1 : ({ data := (List.take 300 s.data.toList).toArray } : ByteArray).size ≤ 300 := by rw [size_len]; simp only [List.length_take]; omega
  have e2 : ({ data := (textL n).toArray } : ByteArray).size ≤ 300 := by rw [size_len]; have := (textL_len n ⟨h0, h1⟩).2; simp only; omega
  have hnt := numP_text n ⟨h0, h1⟩
  have f1 := fun w => few_any s hs w
  have g1 := fun w => text_any n h0 h1 w
  have g2 := fun w => rtext_any n h0 h1 w
  have g3 := fun w => number_any ⟨(textL n).toArray⟩ (by unfold maxLen; omega) w
  have g4 := fun w => number_any ⟨(List.take 300 s.data.toList).toArray⟩ (by unfold maxLen; omega) w
  have g5 := fun w => rnumber_any ⟨(List.take 300 s.data.toList).toArray⟩ (by unfold maxLen; omega) w
  simp only [hnt, rnumP_eq] at g3 g4 g5
  generalize List.take 300 s.data.toList = A at f1 g4 g5
  clear e1 e2 hnt
  generalize textL n = T at g1 g2 g3
  generalize numP A = B at g4 g5
  obtain ⟨x, y⟩ := B
  have F1 := Lib.hid f1; clear f1
  have G1 := Lib.hid g1; clear g1
  have G2 := Lib.hid g2; clear g2
  have G3 := Lib.hid g3; clear g3
  have G4 := Lib.hid g4; clear g4
  have G5 := Lib.hid g5; clear g5
  have G7 := Lib.hid awake01_any
  go_enter Try.func8, Try.ntmps8
  go_wp2_with fail
  refine (F1.out _).mono ?_
  rintro e w1 ⟨rfl, rfl⟩
  go_wp2_with fail
  refine (G1.out _).mono ?_
  rintro e w1 ⟨rfl, b1⟩
  go_wp2_with fail
  refine (G3.out _).mono ?_
  rintro e w2 ⟨rfl, rfl⟩
  go_wp2_with fail
  refine (G4.out _).mono ?_
  rintro e w2 ⟨rfl, rfl⟩
  go_wp2_with fail
  refine (G5.out _).mono ?_
  rintro e w3 ⟨rfl, b3⟩
  go_wp2_with fail
  refine (G1.out _).mono ?_
  rintro e w4 ⟨rfl, b4⟩
  go_wp2_with fail
  refine (G2.out _).mono ?_
  rintro e w5 ⟨rfl, b5⟩
  go_wp2_with fail
  refine (G7.out _).mono ?_
  rintro e w8 ⟨rfl, b8⟩
  go_wp2_with fail
  go_ret
  refine ⟨rfl, ?_⟩
  have q3 := b1.trans (b3.mono b1.size)
  have q4 := q3.trans (b4.mono q3.size)
  have q5 := q4.trans (b5.mono q4.size)
  exact q5.trans (b8.mono q5.size)
end Go.Proofs.Ytbgfcbicbkijaaa
