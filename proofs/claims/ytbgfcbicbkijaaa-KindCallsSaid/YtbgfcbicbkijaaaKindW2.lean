/- The walks of the layer kind and of its reference: which kind a name is, the table of fields. -/
import Derived.Test.YtbgfcbicbkijaaaKindW
import Derived.Test.YtbgfcbicbkijaaaOwn
namespace Go.Proofs.Ytbgfcbicbkijaaa
open Go.RowKit

set_option maxHeartbeats 2000000 in
theorem rof_any (s : ByteArray) (w : World) :
    Calls Try.prog 38 #[.string s] w fun e w' => e = .returned (.tuple #[.int .i64 (ofP s.data.toList).1, .bool (ofP s.data.toList).2]) ∧ Below w.heap.size w w' := by
  go_enter Try.func38, Try.ntmps38
  go_wp2
  go_loopw [4] (fun i wr => ∃ j : Nat, j ≤ 9 ∧ i = .int .i64 ((j : Int) + 1) ∧ ofP s.data.toList = ofGo s.data.toList (9 - j) ∧ Below w.heap.size w wr) (fun i _ => (10 - intOf i).toNat)
  case atStart => exact ⟨0, by omega, rfl, rfl, Below.refl _ _⟩
  case round =>
    obtain ⟨j, hj, rfl, ho, hb⟩ := hrel
    have HB := Lib.hid hb; clear hb
    have HO := Lib.hid ho; clear ho
    by_cases h9 : j = 9
    · subst h9
      go_wp2
      go_ret2
      exact ⟨ret_ib (by rw [HO.out]; rfl) (by rw [HO.out]; rfl), HB.out⟩
    · have hlt : j < 9 := by omega
      clear h9
      have hx := name_at9 j hlt
      have hs0 : ofGo s.data.toList (9 - j) = if nameL ((j : Int) + 1) = s.data.toList then ((j : Int) + 1, true) else ofGo s.data.toList (9 - (j + 1)) := by
        rw [show 9 - j = (9 - (j + 1)) + 1 by omega, ofGo]
        rw [show (9 : Int) - ((9 - (j + 1) : Nat) : Int) = (j : Int) + 1 by omega]
      by_cases he : nameL ((j : Int) + 1) = s.data.toList
      · have hq : (nameL ((j : Int) + 1) == s.toList) = true := by rw [Lib.toList_data]; simpa using he
        rw [if_pos he] at hs0
        have hs := Lib.hid hs0; clear hs0 he
        generalize nameL ((j : Int) + 1) = N at hx hq
        go_wp2
        go_ret2
        exact ⟨ret_ib (by rw [HO.out, hs.out]) (by rw [HO.out, hs.out]), HB.out.alloc HB.out.size _⟩
      · have hq : (nameL ((j : Int) + 1) == s.toList) = false := by rw [Lib.toList_data]; simpa using he
        rw [if_neg he] at hs0
        have hs := Lib.hid hs0; clear hs0 he
        generalize nameL ((j : Int) + 1) = N at hx hq
        go_wp2
        go_roundw
        case rel => exact ⟨j + 1, by omega, by congr 1, by rw [HO.out, hs.out], HB.out.alloc HB.out.size _⟩
        case measure => simp [intOf]; omega
def tabC : List Value := tab.flatMap fun f => [.int .i64 f.1, .string ⟨f.2.1.toArray⟩, .int .i64 f.2.2]
set_option maxHeartbeats 2000000 in
theorem table_any (w : World) :
    Calls Try.prog 50 #[] w fun e w' => e = .returned (.slice (some ⟨w.heap.size, 0, none⟩) 13 13) ∧ w' = w.alloc (.cells tabC.toArray 65) := by
  go_enter Try.func50, Try.ntmps50
  go_wp2
  go_ret
  exact ⟨rfl, rfl⟩
theorem tabC_at : ∀ j : Fin 13, tabC[j.1 * 3]? = some (.int .i64 (tab.getD j.1 (0, [], 0)).1) ∧ tabC[j.1 * 3 + 1]? = some (.string ⟨(tab.getD j.1 (0, [], 0)).2.1.toArray⟩) ∧ tabC[j.1 * 3 + 2]? = some (.int .i64 (tab.getD j.1 (0, [], 0)).2.2) := by
  intro j
  match j with
  | 0 => exact ⟨rfl, rfl, rfl⟩
  | 1 => exact ⟨rfl, rfl, rfl⟩
  | 2 => exact ⟨rfl, rfl, rfl⟩
  | 3 => exact ⟨rfl, rfl, rfl⟩
  | 4 => exact ⟨rfl, rfl, rfl⟩
  | 5 => exact ⟨rfl, rfl, rfl⟩
  | 6 => exact ⟨rfl, rfl, rfl⟩
  | 7 => exact ⟨rfl, rfl, rfl⟩
  | 8 => exact ⟨rfl, rfl, rfl⟩
  | 9 => exact ⟨rfl, rfl, rfl⟩
  | 10 => exact ⟨rfl, rfl, rfl⟩
  | 11 => exact ⟨rfl, rfl, rfl⟩
  | 12 => exact ⟨rfl, rfl, rfl⟩
theorem tab_get (j : Nat) (h : j < tab.length) : tab[j]'h = tab.getD j (0, [], 0) := by
  rw [List.getD, List.getElem?_eq_getElem h]; rfl
set_option maxHeartbeats 2000000 in
theorem field_any (k : Int) (s : ByteArray) (w : World) :
    Calls Try.prog 26 #[.int .i64 k, .string s] w fun e w' => e = .returned (.tuple #[.int .i64 (fieldP k s.data.toList).1, .bool (fieldP k s.data.toList).2]) ∧ Below w.heap.size w w' := by
  go_enter Try.func26, Try.ntmps26
  go_wp2_with fail
  refine (table_any _).mono ?_
  rintro e w1 ⟨rfl, rfl⟩
  generalize hT : tabC.toArray = T
  have hcell : ∀ j, j < 39 → T[j]? = tabC[j]? := by intro j _; rw [← hT]; simp
  have HCL := Lib.hid hcell; clear hcell hT
  go_wp2_with fail
  go_loopw [10] (fun i wr => ∃ j : Nat, j ≤ 13 ∧ i = .int .i64 j ∧ fieldP k s.data.toList = fieldGo k s.data.toList (tab.drop j) ∧ Below (w.heap.size + 1) (w.alloc (.cells T 65)) wr) (fun i _ => (13 - intOf i).toNat)
  case atStart => exact ⟨0, by omega, rfl, rfl, Below.refl _ _⟩
  case round =>
    obtain ⟨j, hj, rfl, ho, hb⟩ := hrel
    have HO := Lib.hid ho; clear ho
    have c0 : ∀ o, wr.cell? ⟨w.heap.size, o, none⟩ = T[o]? := fun o => by
      rw [hb.cell (p := ⟨w.heap.size, o, none⟩) (by simp), World.cell?_alloc_mark]
    by_cases hlt : j < 13
    · obtain ⟨a1, a2, a3⟩ := tabC_at ⟨j, hlt⟩
      simp only at a1 a2 a3
      rw [← HCL.out _ (by omega), ← c0] at a1 a2 a3
      have hst : fieldGo k s.data.toList (tab.drop j) = if (tab.getD j (0, [], 0)).1 = k ∧ (tab.getD j (0, [], 0)).2.1 = s.data.toList then ((tab.getD j (0, [], 0)).2.2, true) else fieldGo k s.data.toList (tab.drop (j + 1)) := by
        have hl : j < tab.length := hlt
        rw [List.drop_eq_getElem_cons hl, fieldGo, tab_get j hl]
      generalize tab.getD j (0, [], 0) = f at a1 a2 a3 hst
      obtain ⟨f1, f2, f3⟩ := f
      simp only at a1 a2 a3 hst
      have HB := Lib.hid hb; clear hb
      clear c0
      by_cases h1 : f1 = k
      · have q1 : (f1 == k) = true := by simpa using h1
        by_cases h2 : f2 = s.data.toList
        · have q2 : (f2 == s.toList) = true := by rw [Lib.toList_data]; simpa using h2
          rw [if_pos ⟨h1, h2⟩] at hst
          have HS := Lib.hid hst; clear hst h1 h2
          go_wp2_with fail
          go_ret2
          exact ⟨ret_ib (by rw [HO.out, HS.out]) (by rw [HO.out, HS.out]), ((Below.refl _ _).alloc (Nat.le_refl _) _).trans ((HB.out.alloc (by have := HB.out.size; simp at this; omega) _).mono (by simp))⟩
        · have q2 : (f2 == s.toList) = false := by rw [Lib.toList_data]; simpa using h2
          rw [if_neg (fun e => h2 e.2)] at hst
          have HS := Lib.hid hst; clear hst h1 h2
          go_wp2_with fail
          go_roundw
          case rel => exact ⟨j + 1, by omega, by go_num, by rw [HO.out, HS.out], HB.out.alloc (by have := HB.out.size; simp at this; omega) _⟩
          case measure => simp [intOf]; omega
      · have q1 : (f1 == k) = false := by simpa using h1
        rw [if_neg (fun e => h1 e.1)] at hst
        have HS := Lib.hid hst; clear hst h1
        go_wp2_with fail
        go_roundw
        case rel => exact ⟨j + 1, by omega, by go_num, by rw [HO.out, HS.out], HB.out.alloc (by have := HB.out.size; simp at this; omega) _⟩
        case measure => simp [intOf]; omega
    · have hge : 13 ≤ j := by omega
      have hfin : fieldP k s.data.toList = (0, false) := by
        rw [HO.out, List.drop_of_length_le (show tab.length ≤ j from hge)]; rfl
      have HF := Lib.hid hfin; clear hfin
      have HB := Lib.hid hb; clear hb
      go_wp2_with fail
      go_ret2
      exact ⟨ret_ib (by rw [HF.out]) (by rw [HF.out]), ((Below.refl _ _).alloc (Nat.le_refl _) _).trans (HB.out.mono (by simp))⟩
end Go.Proofs.Ytbgfcbicbkijaaa
