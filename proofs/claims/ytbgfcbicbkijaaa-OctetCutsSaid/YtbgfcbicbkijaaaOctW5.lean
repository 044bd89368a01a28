/- The walks of the layer octet and of its reference: texts folded. -/
import Derived.Test.YtbgfcbicbkijaaaOct
import Derived.Test.YtbgfcbicbkijaaaKit
import Derived.Maps.AppendAt
import Derived.Maps.AppendAt
import Derived.Maps.AppendAt
namespace Go.Proofs.Ytbgfcbicbkijaaa
open Go.RowKit

def low (c : UInt8) : UInt8 := if 65 ≤ c.toNat ∧ c.toNat ≤ 90 then c + 32 else c
def foldL (l : List UInt8) : List UInt8 := l.map low
/-- A row of cells whose first n are these bytes. -/
def Head (C : Array Value) (l : List UInt8) : Prop := l.length ≤ C.size ∧ ∀ j (h : j < l.length), C[j]? = some (.int .u8 (l[j].toNat : Int))
theorem head_bytes (s : ByteArray) (cap : Nat) : Head (bytesRow s cap) s.data.toList := by
  have hsz : s.data.toList.length = s.data.size := by simp
  refine ⟨by simp [bytesRow], fun j h => ?_⟩
  have := bytesRow_at s cap j (by rw [← hsz]; exact h)
  rw [this]; simp
theorem head_set {C : Array Value} {l : List UInt8} (h : Head C l) (k : Nat) (c : UInt8) (v : Value) (hv : v = .int .u8 c.toNat) : Head (C.setIfInBounds k v) (l.set k c) := by
  subst hv
  refine ⟨by simpa using h.1, fun j hj => ?_⟩
  have hj' : j < l.length := by simpa using hj
  rw [Array.getElem?_setIfInBounds]
  by_cases e : k = j
  · subst e
    have := h.1
    rw [if_pos rfl, if_pos (by omega)]; simp
  · rw [if_neg e, h.2 j hj']; simp [List.getElem_set_ne e]
set_option maxRecDepth 100000 in
theorem or32 : ∀ c : Fin 256, 65 ≤ c.1 ∧ c.1 ≤ 90 → bits .or .u8 ((c.1 : Nat) : Int) 32 = ((c.1 + 32 : Nat) : Int) := by decide
theorem low_up {c : UInt8} (h : (65 : Int) ≤ (c.toNat : Int) ∧ (c.toNat : Int) ≤ 90) : bits .or .u8 (c.toNat : Int) 32 = ((low c).toNat : Int) := by
  have h2 : 65 ≤ c.toNat ∧ c.toNat ≤ 90 := by omega
  have := or32 ⟨c.toNat, c.toNat_lt⟩ h2
  simp only at this
  rw [this, low, if_pos h2]
  simp; omega
theorem low_id {c : UInt8} (h : ¬ ((65 : Int) ≤ (c.toNat : Int) ∧ (c.toNat : Int) ≤ 90)) : low c = c := by
  rw [low, if_neg (by omega)]
/-- k bytes folded, the others as they were. -/
def partF (l : List UInt8) (k : Nat) : List UInt8 := (l.take k).map low ++ l.drop k
theorem partF_len (l : List UInt8) (k : Nat) : (partF l k).length = l.length := by simp [partF]; omega
theorem partF_cons (a : UInt8) (t : List UInt8) (k : Nat) : partF (a :: t) (k + 1) = low a :: partF t k := by simp [partF]
theorem partF_at : ∀ (l : List UInt8) (k : Nat) (h : k < l.length), (partF l k)[k]? = some l[k]
  | a :: t, 0, _ => by simp [partF]
  | a :: t, k + 1, h => by
    rw [partF_cons, List.getElem?_cons_succ, partF_at t k (by simpa using h)]; rfl
theorem partF_set : ∀ (l : List UInt8) (k : Nat) (h : k < l.length), (partF l k).set k (low l[k]) = partF l (k + 1)
  | a :: t, 0, _ => by simp [partF]
  | a :: t, k + 1, h => by
    rw [partF_cons, partF_cons, List.set_cons_succ]
    congr 1
    exact partF_set t k (by simpa using h)
theorem partF_all (l : List UInt8) : partF l l.length = foldL l := by simp [partF, foldL]
theorem partF_keep (l : List UInt8) (k : Nat) (h : k < l.length) (hc : low l[k] = l[k]) : partF l (k + 1) = partF l k := by
  rw [← partF_set l k h, hc]
  apply List.ext_getElem?
  intro j
  rw [List.getElem?_set]
  split
  · rename_i e
    subst e
    rw [partF_at l k h, if_pos (by rw [partF_len]; exact h)]
  · rfl
set_option maxHeartbeats 1000000 in
theorem fold_any (s : ByteArray) (hs : s.size ≤ maxLen) (w : World) :
    Calls Try.prog 17 #[.string s] w fun e w' => e = .returned (.string ⟨(foldL s.data.toList).toArray⟩) ∧ Below w.heap.size w w' := by
  unfold maxLen at hs
  have kb := fun w => run_bytes_of_string (P := Try.prog) w 9 51 5 s Try.underlying9 Try.underlying51 Try.underlying5
  go_enter Try.func17, Try.ntmps17
  go_wp2
  generalize hg : bytesRow s (grownCap w s.size 0 5) = C0
  have hC0 : Hid (Head C0 s.data.toList) := by rw [← hg]; exact head_bytes s _
  clear hg kb
  have hl : Hid (s.size = s.data.toList.length) := size_len s
  go_loopw [10] (fun i wr => ∃ (k : Nat) (C : Array Value), k ≤ s.size ∧ i = .int .i64 k ∧ Head C (partF s.data.toList k) ∧ C.size = C0.size ∧ wr = (w.alloc (.cells C 5 (C0.size, C0.size + 1))).drew) (fun i _ => s.size - (intOf i).toNat)
  case atStart => exact ⟨0, C0, by omega, rfl, by simpa [partF] using hC0.out, rfl, rfl⟩
  case round =>
    obtain ⟨k, C, hk, rfl, hh, hcs, rfl⟩ := hrel
    have HH := Lib.hid hh; clear hh
    have HCS := Lib.hid hcs; clear hcs
    by_cases hlt : k < s.size
    · have hk' : k < s.data.toList.length := by rw [← hl.out]; exact hlt
      have hsz : Hid (s.data.toList.length ≤ C0.size) := by have := HH.out.1; rw [partF_len, HCS.out] at this; exact this
      have hcell : C[k]? = some (.int .u8 (s.data.toList[k].toNat : Int)) := by
        have hp := partF_at s.data.toList k hk'
        have := HH.out.2 k (by rw [partF_len]; exact hk')
        rw [this]
        rw [List.getElem?_eq_getElem (by rw [partF_len]; exact hk')] at hp
        simp only [Option.some.injEq] at hp
        rw [hp]
      have hlt2 : k < C0.size := by have := hsz.out; omega
      have hcw : ((w.alloc (.cells C 5 (C0.size, C0.size + 1))).drew).cell? ⟨w.heap.size, k, none⟩ = some (.int .u8 (s.data.toList[k].toNat : Int)) := by
        rw [World.cell?_drew, World.cell?_alloc_mark]; exact hcell
      have hfz : ((w.alloc (.cells C 5 (C0.size, C0.size + 1))).drew).frozen? ⟨w.heap.size, k, none⟩ = false := by
        rw [World.frozen?_drew, World.frozen?_alloc_mark]; simp; omega
      clear hcell
      generalize hc : s.data.toList[k] = c at hcw
      by_cases hup : (65 : Int) ≤ (c.toNat : Int) ∧ (c.toNat : Int) ≤ 90
      · obtain ⟨g1, g2⟩ := hup
        have HC := Lib.hid hc; clear hc
        go_wp2
        go_roundw
        case rel => exact ⟨k + 1, C.setIfInBounds k (.int .u8 (bits .or .u8 (c.toNat : Int) 32)), by omega, by go_num, by
          have := head_set HH.out k (low c) _ (congrArg (Value.int .u8) (low_up ⟨g1, g2⟩))
          rw [← HC.out, partF_set _ _ hk', HC.out] at this; exact this, by rw [Array.size_setIfInBounds]; exact HCS.out, by rw [setCell_mark]⟩
        case measure => simp [intOf]; omega
      · have hkeep : Hid (partF s.data.toList (k + 1) = partF s.data.toList k) := partF_keep _ _ hk' (by rw [hc]; exact low_id hup)
        clear hc
        go_wp2
        all_goals
          go_roundw
          case rel => exact ⟨k + 1, C, by omega, by go_num, by rw [hkeep.out]; exact HH.out, HCS.out, rfl⟩
          case measure => simp [intOf]; omega
    · have hge : s.size ≤ k := by omega
      have kc := conv_out (P := Try.prog) 51 9 5 Try.underlying51 Try.underlying5 Try.underlying9 ⟨w.heap.size, 0, none⟩ (foldL s.data.toList) s.size (grownCap w s.size 0 5) (by rw [hl.out]; simp [foldL]) ((w.alloc (.cells C 5 (C0.size, C0.size + 1))).drew) (by
        have e : partF s.data.toList k = foldL s.data.toList := by
          rw [← partF_all]; unfold partF
          rw [List.take_of_length_le (by rw [← hl.out]; exact hge), List.take_of_length_le (Nat.le_refl _), List.drop_of_length_le (by rw [← hl.out]; exact hge), List.drop_of_length_le (Nat.le_refl _)]
        intro j hj
        rw [add_at, World.cell?_drew, World.cell?_alloc_mark, Nat.zero_add]
        have h2 := HH.out.2 j (by rw [e]; exact hj)
        rw [h2]; simp only [e])
      go_wp2
      go_ret
      exact ⟨rfl, ((Below.refl _ _).alloc (Nat.le_refl _) _).drew⟩

theorem Try.infoByte : (Try.prog.info? 5).map (fun i => (i.zero, i.size, i.bytes)) = some (some (.int .u8 0), 1, 1) := by kernel_rfl
theorem low_plus {c : UInt8} (h : (65 : Int) ≤ (c.toNat : Int) ∧ (c.toNat : Int) ≤ 90) : (c.toNat : Int) + 32 = ((low c).toNat : Int) := by
  rw [low, if_pos (by omega)]; simp; omega
set_option maxHeartbeats 1000000 in
theorem rfold_any (s : ByteArray) (hs : s.size ≤ 1000000000) (w : World) :
    Calls Try.prog 18 #[.string s] w fun e w' => e = .returned (.string ⟨(foldL s.data.toList).toArray⟩) ∧ Below w.heap.size w w' := by
  obtain ⟨i0, hi, hz0, hz1, hz2⟩ := info_parts Try.infoByte
  go_enter Try.func18, Try.ntmps18
  go_wp2
  go_loopw [3, 4] (fun v i wr => ∃ (k : Nat), k ≤ s.size ∧ i = .int .i64 k ∧ wr.ownsRow w.heap.size 5 1 v k (byteC ((s.data.toList.take k).map low)) ∧ Below w.heap.size w wr) (fun _ i _ => s.size - (intOf i).toNat)
  case atStart => exact ⟨0, by omega, rfl, World.ownsRow_made w #[] 0 (Nat.le_refl _) (by unfold maxLen; omega) rfl, (Below.refl _ _).alloc (Nat.le_refl _) _⟩
  case round =>
    obtain ⟨k, hk, rfl, hown, hb⟩ := hrel
    have HB := Lib.hid hb; clear hb
    have hl : Hid (s.size = s.data.toList.length) := size_len s
    by_cases hlt : k < s.size
    · generalize hck : s[k] = c
      have hck2 : s[k] = c := hck
      have HC := Lib.hid hck; clear hck
      by_cases hup : (65 : Int) ≤ (c.toNat : Int) ∧ (c.toNat : Int) ≤ 90
      · have hlow := Lib.hid (low_plus hup)
        obtain ⟨g1, g2⟩ := hup
        go_wp2_with (at_builtin; refine wpList_append_own _ rfl _ _ 51 rfl w.heap.size 5 i0 (.int .u8 0) 1 1 Try.underlying51 hi hz0 hz1 hz2 rfl (by decide) _ _ _ rfl (hown.alloc _) ⟨wr.heap.size, 0, none⟩ 1 1 [.int .u8 ((c.toNat : Int) + 32)] rfl rfl (cell_one_new _ _ _) (by simp [Value.oneCell']) (by unfold maxLen; omega) (by omega) (by have := HB.out.size; simp; omega) ?_; intro v' w1 hown' hgrow _)
        have hb1 : Below w.heap.size w w1 := (HB.out.alloc HB.out.size _).grown hgrow (by have := HB.out.size; simp; omega) (fun q hq => (hown.lt q hq).1)
        have HO := Lib.hid hown'; clear hown'
        have HB1 := Lib.hid hb1; clear hb1
        clear hgrow hown
        go_wp2
        go_roundw
        case rel => exact ⟨k + 1, by omega, by go_num, by
          have := HO.out
          rw [List.take_succ_eq_append_getElem (by rw [← hl.out]; exact hlt), List.map_append, byteC, List.map_append]
          have hc1 := HC.out
          rw [getElem_data, List.getD, List.getElem?_eq_getElem (by rw [← hl.out]; exact hlt)] at hc1
          have hc2 : s.data.toList[k]'(by rw [← hl.out]; exact hlt) = c := hc1
          rw [hc2]
          simpa [byteC, ← hlow.out] using this, HB1.out⟩
        case measure => simp [intOf]; omega
      · have hlow := Lib.hid (low_id hup)
        rcases (by omega : (c.toNat : Int) < 65 ∨ (65 : Int) ≤ (c.toNat : Int) ∧ (90 : Int) < (c.toNat : Int)) with g | ⟨g, g2⟩
        · clear hup
          go_wp2_with (at_builtin; refine wpList_append_own _ rfl _ _ 51 rfl w.heap.size 5 i0 (.int .u8 0) 1 1 Try.underlying51 hi hz0 hz1 hz2 rfl (by decide) _ _ _ rfl (hown.alloc _) ⟨wr.heap.size, 0, none⟩ 1 1 [.int .u8 ((c.toNat : Int))] rfl rfl (cell_one_new _ _ _) (by simp [Value.oneCell']) (by unfold maxLen; omega) (by omega) (by have := HB.out.size; simp; omega) ?_; intro v' w1 hown' hgrow _)
          have hb1 : Below w.heap.size w w1 := (HB.out.alloc HB.out.size _).grown hgrow (by have := HB.out.size; simp; omega) (fun q hq => (hown.lt q hq).1)
          have HO := Lib.hid hown'; clear hown'
          have HB1 := Lib.hid hb1; clear hb1
          clear hgrow hown
          go_wp2
          go_roundw
          case rel => exact ⟨k + 1, by omega, by go_num, by
            have := HO.out
            rw [List.take_succ_eq_append_getElem (by rw [← hl.out]; exact hlt), List.map_append, byteC, List.map_append]
            have hc1 := HC.out
            rw [getElem_data, List.getD, List.getElem?_eq_getElem (by rw [← hl.out]; exact hlt)] at hc1
            have hc2 : s.data.toList[k]'(by rw [← hl.out]; exact hlt) = c := hc1
            rw [hc2]
            simpa [byteC, hlow.out] using this, HB1.out⟩
          case measure => simp [intOf]; omega
        · clear hup
          go_wp2_with (at_builtin; refine wpList_append_own _ rfl _ _ 51 rfl w.heap.size 5 i0 (.int .u8 0) 1 1 Try.underlying51 hi hz0 hz1 hz2 rfl (by decide) _ _ _ rfl (hown.alloc _) ⟨wr.heap.size, 0, none⟩ 1 1 [.int .u8 ((c.toNat : Int))] rfl rfl (cell_one_new _ _ _) (by simp [Value.oneCell']) (by unfold maxLen; omega) (by omega) (by have := HB.out.size; simp; omega) ?_; intro v' w1 hown' hgrow _)
          have hb1 : Below w.heap.size w w1 := (HB.out.alloc HB.out.size _).grown hgrow (by have := HB.out.size; simp; omega) (fun q hq => (hown.lt q hq).1)
          have HO := Lib.hid hown'; clear hown'
          have HB1 := Lib.hid hb1; clear hb1
          clear hgrow hown
          go_wp2
          go_roundw
          case rel => exact ⟨k + 1, by omega, by go_num, by
            have := HO.out
            rw [List.take_succ_eq_append_getElem (by rw [← hl.out]; exact hlt), List.map_append, byteC, List.map_append]
            have hc1 := HC.out
            rw [getElem_data, List.getD, List.getElem?_eq_getElem (by rw [← hl.out]; exact hlt)] at hc1
            have hc2 : s.data.toList[k]'(by rw [← hl.out]; exact hlt) = c := hc1
            rw [hc2]
            simpa [byteC, hlow.out] using this, HB1.out⟩
          case measure => simp [intOf]; omega
    · have hge : s.size ≤ k := by omega
      have hfin : Hid (((s.data.toList.take k).map low) = foldL s.data.toList) := by
        rw [Hid, List.take_of_length_le (by rw [← hl.out]; exact hge)]; rfl
      rw [hfin.out] at hown
      have kc := conv_owned (P := Try.prog) 51 9 5 Try.underlying51 Try.underlying5 Try.underlying9 hown
      clear hown
      go_wp2
      go_ret
      exact ⟨rfl, HB.out⟩

theorem foldL_len (l : List UInt8) : (foldL l).length = l.length := by simp [foldL]
set_option maxHeartbeats 1000000 in
theorem alike_any (a b : ByteArray) (ha : a.size ≤ maxLen) (hb : b.size ≤ maxLen) (w : World) :
    Calls Try.prog 19 #[.string a, .string b] w fun e w' => e = .returned (.bool (decide (foldL a.data.toList = foldL b.data.toList))) ∧ Below w.heap.size w w' := by
  by_cases hl : a.size = b.size
  · have hlb : ((a.size : Int) == (b.size : Int)) = true := by simp [hl]
    have h1 := fun w => fold_any a ha w
    have h2 := fun w => fold_any b hb w
    clear hl ha hb
    generalize foldL a.data.toList = A at h1
    generalize foldL b.data.toList = B at h2
    have H1 := Lib.hid h1; clear h1
    have H2 := Lib.hid h2; clear h2
    have hq : (A == B) = decide (A = B) := by rw [Bool.eq_iff_iff]; simp
    have HQ := Lib.hid hq; clear hq
    go_enter Try.func19, Try.ntmps19
    go_wp2_with fail
    refine (H1.out _).mono ?_
    rintro e w1 ⟨rfl, hb1⟩
    go_wp2_with fail
    refine (H2.out _).mono ?_
    rintro e w2 ⟨rfl, hb2⟩
    go_wp2_with fail
    go_ret
    exact ⟨ret_bool HQ.out, hb1.trans (hb2.mono hb1.size)⟩
  · have hlb : ((a.size : Int) == (b.size : Int)) = false := by simp; omega
    have hf : decide (foldL a.data.toList = foldL b.data.toList) = false := by
      refine decide_eq_false fun h => hl ?_
      have := congrArg List.length h
      rw [foldL_len, foldL_len] at this
      rw [size_len, size_len b]; exact this
    rw [hf]; clear hf hl
    go_enter Try.func19, Try.ntmps19
    go_wp2_with fail
    go_ret
    exact ⟨rfl, Below.refl _ _⟩
end Go.Proofs.Ytbgfcbicbkijaaa
