/- The walk of kind's Call, and of the library's Equal at kinds. -/
import Derived.Test.YtbgfcbicbkijaaaKindW3
import Derived.Test.YtbgfcbicbkijaaaKindC
namespace Go.Proofs.Ytbgfcbicbkijaaa
open Go.RowKit

theorem intC_get (l : List Int) (k : Nat) (h : k < l.length) : (intC l)[k]? = some (.int .i64 l[k]) := by simp [intC, List.getElem?_eq_getElem h]
set_option maxHeartbeats 800000 in
theorem equal_any (a b : Value) (l r : List Int) (ok ok' : Nat → Prop) (w : World) (ha : Sl w ok a l.length (intC l)) (hb : Sl w ok' b r.length (intC r)) :
    Calls Try.prog 48 #[a, b] w fun e w' => e = .returned (.bool (decide (r = l))) ∧ ∃ q, w' = w.drewN q := by
  obtain ⟨pa, ca, rfl, ha1, ha2, ha3⟩ := ha
  obtain ⟨pb, cb, rfl, hb1, hb2, hb3⟩ := hb
  unfold maxLen at ha2 hb2
  by_cases hl : l.length = r.length
  · go_enter Try.func48, Try.ntmps48
    go_wp2
    go_loopw [5, 13] (fun _ i wr => ∃ (k q : Nat), k ≤ l.length ∧ i = .int .i64 k ∧ l.take k = r.take k ∧ wr = w.drewN q) (fun _ i _ => l.length - (intOf i).toNat)
    case atStart => exact ⟨0, 0, by omega, rfl, rfl, rfl⟩
    case round =>
      obtain ⟨k, q, hk, rfl, ht, rfl⟩ := hrel
      have HT := Lib.hid ht; clear ht
      have HL := Lib.hid hl; clear hl
      by_cases hlt : k < l.length
      · have hlr : k < r.length := by have := HL.out; omega
        obtain ⟨b, off, rfl, -, c1⟩ := ha3 k _ (intC_get l k hlt)
        obtain ⟨b', off', rfl, -, c2⟩ := hb3 k _ (intC_get r k hlr)
        have HA := Lib.hid ha3; clear ha3
        have HB := Lib.hid hb3; clear hb3
        by_cases he : l[k] = r[k]
        · have hbe : (l[k] == r[k]) = true := by simpa using he
          have HE := Lib.hid he; clear he
          go_wp2
          go_quiet (fail)
          go_wp2
          go_roundw
          case rel => exact ⟨k + 1, q + _, by omega, by go_num, by rw [List.take_succ_eq_append_getElem hlt, List.take_succ_eq_append_getElem hlr, HT.out, HE.out], rfl⟩
          case measure => simp [intOf]; omega
        · have hbe : (l[k] == r[k]) = false := by simpa using he
          have HE := Lib.hid he; clear he
          go_wp2
          go_quiet (fail)
          go_wp2
          go_ret
          refine ⟨ret_bool ?_, _, drewN2 w q _⟩
          simp; intro h; apply HE.out; simp [h]
      · have hk2 : k = l.length := by omega
        have hk3 : Hid (l = r) := by
          have := HT.out; rw [hk2, List.take_length, HL.out, List.take_length] at this; exact this
        have hge : l.length ≤ k := by omega
        have hge2 : r.length ≤ k := by have := HL.out; omega
        clear hk2
        go_wp2
        go_ret
        exact ⟨ret_bool (by simpa using hk3.out.symm), q, rfl⟩
  · go_enter Try.func48, Try.ntmps48
    go_wp2
    go_ret
    exact ⟨ret_bool (by simp; intro h; exact hl (by rw [h])), 0, rfl⟩
/-- What the closure answers. -/
def isVal (want L : List Int) (g : Int) : Value := .tuple #[.int .i64 (isP g want L).1, .bool (isP g want L).2]
set_option maxHeartbeats 800000 in
theorem is_any (g : Int) (b vb : Nat) (want : List Int) (L : List Int) (lv : Value) (ok : Nat → Prop) (w : World) (hn : want.length ≤ 1000)
    (hc : w.heap[vb]? = some (.cells (intC want).toArray 31)) (hb : w.cell? ⟨b, 0, none⟩ = some lv) (hl : Sl w ok lv L.length (intC L)) :
    Calls Try.prog 47 #[.int .i64 g, .slice (some ⟨vb, 0, none⟩) want.length want.length, .pointer (some ⟨b, 0, none⟩)] w fun e w' => e = .returned (.tuple #[.int .i64 (isP g want L).1, .bool (isP g want L).2]) ∧ ∃ q, w' = w.drewN q := by
  have hs : Sl w (fun _ => True) (.slice (some ⟨vb, 0, none⟩) want.length want.length) want.length (intC want) := by
    refine ⟨_, _, rfl, Nat.le_refl _, by unfold maxLen; omega, fun j u hj => ⟨vb, 0, rfl, trivial, ?_⟩⟩
    rw [cell_of_row w vb _ _ _ _ hc, Nat.zero_add]; simpa using hj
  have he := fun w' (hw : w' = w) => equal_any lv _ L want ok _ w' (by subst hw; exact hl) (by subst hw; exact hs)
  obtain ⟨a, cap, rfl, -⟩ := hl
  clear hs hc hn
  have HE := Lib.hid he; clear he
  by_cases h : want = L
  · have hr : isP g want L = (g, true) := by rw [isP, if_pos h]
    rw [hr]
    have hd : decide (want = L) = true := decide_eq_true h
    rw [hd] at HE
    clear hd hr h
    go_enter Try.func47, Try.ntmps47
    go_wp2_with fail
    refine (HE.out _ rfl).mono ?_
    rintro e w' ⟨rfl, q, rfl⟩
    go_wp2_with fail
    go_ret2
    exact ⟨rfl, q, rfl⟩
  · have hr : isP g want L = (0, false) := by rw [isP, if_neg h]
    rw [hr]
    have hd : decide (want = L) = false := decide_eq_false h
    rw [hd] at HE
    clear hd hr h
    go_enter Try.func47, Try.ntmps47
    go_wp2_with fail
    refine (HE.out _ rfl).mono ?_
    rintro e w' ⟨rfl, q, rfl⟩
    go_wp2_with fail
    go_ret2
    exact ⟨rfl, q, rfl⟩
end Go.Proofs.Ytbgfcbicbkijaaa
