/- The statement OctetCuts: the pieces of a text agree with the reference, and joined they are the text again. -/
import Derived.Test.YtbgfcbicbkijaaaLaw01
import Derived.Test.YtbgfcbicbkijaaaCutW3
namespace Go.Proofs.Ytbgfcbicbkijaaa
open Go.RowKit Go.Shelf

theorem join_cut (b : UInt8) : ∀ l : List UInt8, Lib.join (cutL b l) [b] = l
  | [] => by simp [cutL, Lib.join, List.intercalate]
  | a :: t => by
    have ih := join_cut b t
    unfold cutL
    split
    · rename_i h
      have : a = b := by simpa using h
      subst this
      cases hc : cutL a t with
      | nil => exact absurd hc (cutL_ne a t)
      | cons h r =>
        rw [hc] at ih
        cases r <;> simp [Lib.join, List.intercalate] at ih ⊢ <;> exact ih
    · split
      · rename_i h r hc
        rw [hc] at ih
        cases r <;> simp [Lib.join, List.intercalate] at ih ⊢ <;> exact ih
      · rename_i hc; exact absurd hc (cutL_ne b t)
set_option maxHeartbeats 2000000 in
theorem law_cuts (s : ByteArray) (c : Int) (hs : s.size ≤ maxLen) (hc0 : 0 ≤ c) (hc1 : c ≤ 255) (w : World) :
    Calls Try.prog 10 #[.string s, .int .u8 c] w fun e w' => e = .returned (.bool true) ∧ Below w.heap.size w w' := by
  have e1 : ({ data := (List.take 300 s.data.toList).toArray } : ByteArray).size ≤ 300 := by rw [size_len]; simp only [List.length_take]; omega
  have e2 : (List.take 300 s.data.toList).length ≤ 300 := by rw [List.length_take]; omega
  have f1 := fun w => few_any s hs w
  generalize List.take 300 s.data.toList = A at f1 e1 e2
  have hcl := cutL_len c.toNat.toUInt8 A
  have hjc := join_cut c.toNat.toUInt8 A
  have g1 := fun w => cut_any ⟨A.toArray⟩ c (by omega) w
  have g2 := fun w => rcut_any ⟨A.toArray⟩ c hc0 hc1 (by omega) w
  simp only at g1 g2
  have hbt : c = ((c.toNat.toUInt8).toNat : Int) := by simp; omega
  generalize hb : c.toNat.toUInt8 = b at g1 g2 hcl hjc hbt
  clear hb
  have g3 := fun v ok w h => join_any v (cutL b A) ⟨#[b]⟩ ok w h (by omega) (by simp only; rw [hjc]; omega)
  simp only [hjc] at g3
  have kc := conv1 (P := Try.prog) 51 9 5 Try.underlying51 Try.underlying5 Try.underlying9 c b hbt
  clear e1 e2 hcl hjc hbt
  generalize cutL b A = L at g1 g2 g3
  have F1 := Lib.hid f1; clear f1
  have G1 := Lib.hid g1; clear g1
  have G2 := Lib.hid g2; clear g2
  have G3 := Lib.hid g3; clear g3
  have G7 := Lib.hid awake01_any
  go_enter Try.func10, Try.ntmps10
  go_wp2_with fail
  refine (F1.out _).mono ?_
  rintro e w1 ⟨rfl, rfl⟩
  go_wp2_with fail
  refine (G1.out _).mono ?_
  rintro e w1 ⟨v1, rfl, s1, b1⟩
  have S1 := Lib.hid s1; clear s1
  go_wp2_with fail
  refine (G2.out _).mono ?_
  rintro e w2 ⟨v2, rfl, s2, b2⟩
  have s12 := Lib.hid (S1.out.mono (ok' := fun _ => True) (fun b _ hlt => b2.block b hlt) (fun _ _ _ => trivial))
  have S2 := Lib.hid s2; clear s2
  go_wp2_with fail
  refine (same_any v1 v2 L L _ _ _ s12.out S2.out).mono ?_
  rintro e w3 ⟨rfl, b3⟩
  have s13 := Lib.hid (s12.out.mono (ok' := fun _ => True) (fun b _ hlt => b3.block b hlt) (fun _ _ _ => trivial))
  go_wp2_with fail
  refine (G3.out v1 _ _ (s13.out.alloc _)).mono ?_
  rintro e w4 ⟨rfl, b4⟩
  go_wp2_with fail
  refine (G7.out _).mono ?_
  rintro e w5 ⟨rfl, b5⟩
  go_wp2_with fail
  go_ret
  refine ⟨rfl, ?_⟩
  have q2 := b1.trans (b2.mono b1.size)
  have q3 := q2.trans (b3.mono q2.size)
  have q4 := (q3.alloc q3.size (.cells #[.int .u8 c] 5)).trans (b4.mono (by simp; have := q3.size; omega))
  exact q4.trans (b5.mono q4.size)
end Go.Proofs.Ytbgfcbicbkijaaa
