/- The walk of the reference's Call. -/
import Derived.Test.YtbgfcbicbkijaaaKindR
import Derived.Test.YtbgfcbicbkijaaaKindW4
namespace Go.Proofs.Ytbgfcbicbkijaaa
open Go.RowKit

set_option maxHeartbeats 4000000 in
theorem rcall_any (s : ByteArray) (L : List Int) (lv : Value) (ok : Nat → Prop) (w : World) (hl : Sl w ok lv L.length (intC L)) :
    Calls Try.prog 21 #[.string s, lv] w fun e w' => e = .returned (.tuple #[.int .i64 (callP s.toList L).1, .bool (callP s.toList L).2]) ∧ Below w.heap.size w w' := by
  obtain ⟨a, cap, rfl, sl1, sl2, sl3⟩ := hl
  unfold maxLen at sl2
  have S := Lib.hid sl3; clear sl3
  rw [Lib.toList_data]
  unfold callP
  generalize hP : rowGo s.data.toList L rowsL = P
  have HP := Lib.hid hP; clear hP
  go_enter Try.func21, Try.ntmps21
  go_wp2_with fail
  refine (rows_at _).mono ?_
  rintro e w1 ⟨B, rfl, hb, hr⟩
  have HB := Lib.hid hb
  have HR := Lib.hid hr; clear hr
  have S1 : Hid (∀ j u, (intC L)[j]? = some u → ∃ b off, a = some ⟨b, off, none⟩ ∧ w1.cell? ⟨b, off + j, none⟩ = some u) := fun j u hj => by
    obtain ⟨b, off, ha, -, hc⟩ := S.out j u hj
    exact ⟨b, off, ha, (hb.cell (p := ⟨b, off + j, none⟩) (cell_lt hc)).trans hc⟩
  clear S hb
  go_wp2_with fail
  go_loopw [7] (fun i wr => ∃ (j q : Nat), j ≤ 27 ∧ i = .int .i64 j ∧ Hid (P = rowGo s.data.toList L (rowsL.drop j)) ∧ wr = w1.drewN q) (fun i _ => 27 - (intOf i).toNat)
  case atStart => exact ⟨0, 0, by omega, rfl, HP.out.symm, rfl⟩
  case round =>
    obtain ⟨j, q, hj, rfl, HG, rfl⟩ := hrel
    by_cases hlt : j < 27
    · have hji : (j : Int) < 27 := by omega
      have hl : j < rowsL.length := hlt
      obtain ⟨c1, c2, b, c3, c4⟩ := HR.out j rowsL[j] (List.getElem?_eq_getElem hl)
      have HS : Hid (rowGo s.data.toList L (rowsL.drop j) = if rowsL[j].1 = s.data.toList ∧ rowsL[j].2.1 = L then (rowsL[j].2.2, true) else rowGo s.data.toList L (rowsL.drop (j + 1))) := by
        rw [List.drop_eq_getElem_cons hl]; rfl
      have hin : rowsL[j].2.1.length ≤ 3 := (show ∀ r ∈ rowsL, r.2.1.length ≤ 3 by decide) _ (List.getElem_mem hl)
      generalize rowsL[j] = r at c1 c2 c3 c4 HS hin
      clear hl
      obtain ⟨nm, inn, g⟩ := r
      simp only at c1 c2 c3 c4 HS hin
      have C4 := Lib.hid c4; clear c4
      have hstart : ∃ b1 b2 : Bool, (nm == s.toList) = b1 ∧ ((inn.length : Int) == (L.length : Int)) = b2 ∧ Hid ((b1 && b2) = true → nm = s.data.toList ∧ inn.length = L.length) ∧ Hid ((b1 && b2) = false → ¬ (nm = s.data.toList ∧ inn = L)) := by
        refine ⟨_, _, rfl, rfl, ?_, ?_⟩
        · rw [Lib.toList_data]; intro h; simp at h; exact ⟨h.1, by omega⟩
        · rw [Lib.toList_data]; intro h h2; rw [h2.1, h2.2] at h; simp at h
      obtain ⟨b1, b2, hb1, hb2, hyes, hno⟩ := hstart
      cases b1 <;> cases b2
      all_goals
        go_wp2_with fail
        go_loopw [8, 9] (fun sm i wr => ∃ (k q : Nat) (t : Bool), k ≤ 3 ∧ sm = .bool t ∧ i = .int .i64 k ∧ Hid (t = true → nm = s.data.toList ∧ inn.length = L.length ∧ k ≤ L.length ∧ inn.take k = L.take k) ∧ Hid (t = false → ¬ (nm = s.data.toList ∧ inn = L)) ∧ wr = w1.drewN q) (fun _ i _ => 4 - (intOf i).toNat)
        case atStart => exact ⟨0, q, _, by omega, rfl, rfl, fun h => ⟨(hyes.out h).1, (hyes.out h).2, by omega, rfl⟩, hno.out, rfl⟩
        case round =>
          obtain ⟨k, q2, t, hk, rfl, rfl, HY, HN, rfl⟩ := hrel
          cases t
          · have HE : Hid (P = rowGo s.data.toList L (rowsL.drop (j + 1))) := by
              rw [Hid, HG.out, HS.out, if_neg (HN.out rfl)]
            go_wp2_with fail
            go_roundw
            case rel => exact ⟨j + 1, q2, by omega, by go_num, HE.out, rfl⟩
            case measure => simp [intOf]; omega
          · obtain ⟨y1, y2, y3, y4⟩ := HY.out rfl
            have Y1 := Lib.hid y1
            have Y2 := Lib.hid y2
            have Y4 := Lib.hid y4
            by_cases hkl : k < L.length
            · have hki : k < inn.length := by omega
              have HT : Hid (inn[k] = L[k] → inn.take (k + 1) = L.take (k + 1)) := fun e => by
                rw [List.take_succ_eq_append_getElem hki, List.take_succ_eq_append_getElem hkl, y4, e]
              have HT2 : Hid (inn[k] ≠ L[k] → inn ≠ L) := fun e e2 => e (by simp [e2])
              obtain ⟨pb, off, hpa, d1⟩ := S1.out k _ (intC_get L k hkl)
              subst hpa
              have d2 := C4.out k _ (intC_get inn k hki)
              clear y1 y2 y4
              by_cases he : inn[k] = L[k]
              · have hq : (inn[k] == L[k]) = true := by simpa using he
                have HQ := Lib.hid he; clear he
                generalize inn[k] = u at d2 hq HQ HT HT2
                generalize L[k] = v at d1 hq HQ HT HT2
                go_wp2_with fail
                go_quiet (fail)
                go_wp2_with fail
                go_roundw
                case rel =>
                  refine ⟨k + 1, q2 + _, true, by omega, rfl, by go_num, fun _ => ⟨Y1.out, Y2.out, by omega, ?_⟩, fun h => (by cases h), rfl⟩
                  exact HT.out HQ.out
                case measure => simp [intOf]; omega
              · have hq : (inn[k] == L[k]) = false := by simpa using he
                have HQ := Lib.hid he; clear he
                generalize inn[k] = u at d2 hq HQ HT HT2
                generalize L[k] = v at d1 hq HQ HT HT2
                go_wp2_with fail
                go_quiet (fail)
                go_wp2_with fail
                go_roundw
                case rel =>
                  refine ⟨k + 1, q2 + _, false, by omega, rfl, by go_num, fun h => (by cases h), fun _ => ?_, rfl⟩
                  exact fun e => HT2.out HQ.out e.2
                case measure => simp [intOf]; omega
            · have hkk : k = L.length := by omega
              subst hkk
              have hge : L.length ≤ L.length := Nat.le_refl _
              have HE : Hid (P = (g, true)) := by
                have e : inn = L := by
                  have h4 := y4
                  rw [← y2, List.take_length, y2, List.take_length] at h4
                  exact h4
                rw [Hid, HG.out, HS.out, if_pos ⟨y1, e⟩]
              clear y1 y2 y4
              go_wp2_with fail
              go_ret2
              exact ⟨by rw [HE.out]; rfl, belowQ HB.out _⟩
    · have hj2 : j = 27 := by omega
      subst hj2
      have HE : Hid (P = (0, false)) := HG.out
      go_wp2_with fail
      go_ret2
      exact ⟨by rw [HE.out]; rfl, belowQ HB.out _⟩
end Go.Proofs.Ytbgfcbicbkijaaa
