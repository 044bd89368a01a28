/- The walks of the reference's Cut and of octet's Join. -/
import Derived.Test.YtbgfcbicbkijaaaCutW2
namespace Go.Proofs.Ytbgfcbicbkijaaa
open Go.RowKit Go.Shelf

theorem cutL_free (b : UInt8) : ∀ p : List UInt8, (∀ x ∈ p, x ≠ b) → cutL b p = [p]
  | [], _ => rfl
  | a :: t, h => by
    have ha : ¬ (a == b) = true := by simpa using h a (by simp)
    rw [cutL, if_neg ha, cutL_free b t (fun x hx => h x (by simp [hx]))]
theorem cutL_at (b : UInt8) (t : List UInt8) : ∀ p : List UInt8, (∀ x ∈ p, x ≠ b) → cutL b (p ++ b :: t) = p :: cutL b t
  | [], _ => by simp [cutL]
  | a :: p, h => by
    have ha : ¬ (a == b) = true := by simpa using h a (by simp)
    rw [List.cons_append, cutL, if_neg ha, cutL_at b t p (fun x hx => h x (by simp [hx]))]
theorem split_at (l : List UInt8) (f i : Nat) (h : f ≤ i) : l.drop f = (l.drop f).take (i - f) ++ l.drop i := by
  have := List.take_append_drop (i - f) (l.drop f)
  rw [List.drop_drop, show f + (i - f) = i by omega] at this
  exact this.symm
def CutRel (b : UInt8) (l : List UInt8) (done : List (List UInt8)) (f i : Nat) : Prop :=
  f ≤ i ∧ cutL b l = done ++ cutL b (l.drop f) ∧ ∀ x ∈ (l.drop f).take (i - f), x ≠ b
theorem CutRel.start (b : UInt8) (l : List UInt8) : CutRel b l [] 0 0 := ⟨Nat.le_refl _, by simp, by simp⟩
theorem CutRel.go {b : UInt8} {l : List UInt8} {done : List (List UInt8)} {f i : Nat} (h : CutRel b l done f i) (hi : i < l.length) (hne : l[i] ≠ b) : CutRel b l done f (i + 1) := by
  obtain ⟨h1, h2, h3⟩ := h
  refine ⟨by omega, h2, fun x hx => ?_⟩
  rw [show i + 1 - f = (i - f) + 1 by omega, List.take_succ_eq_append_getElem (by simp; omega)] at hx
  rw [List.mem_append] at hx
  rcases hx with hx | hx
  · exact h3 x hx
  · simp at hx; rw [hx]; simpa [show f + (i - f) = i by omega] using hne
theorem CutRel.cut {b : UInt8} {l : List UInt8} {done : List (List UInt8)} {f i : Nat} (h : CutRel b l done f i) (hi : i < l.length) (he : l[i] = b) : CutRel b l (done ++ [(l.drop f).take (i - f)]) (i + 1) (i + 1) := by
  obtain ⟨h1, h2, h3⟩ := h
  refine ⟨Nat.le_refl _, ?_, by simp⟩
  have e : l.drop f = (l.drop f).take (i - f) ++ b :: l.drop (i + 1) := by
    have := split_at l f i h1
    rw [List.drop_eq_getElem_cons hi, he] at this
    exact this
  rw [h2]
  conv => lhs; rw [e]
  rw [cutL_at b _ _ h3]; simp
theorem CutRel.fin {b : UInt8} {l : List UInt8} {done : List (List UInt8)} {f i : Nat} (h : CutRel b l done f i) (hi : l.length ≤ i) : cutL b l = done ++ [l.drop f] := by
  obtain ⟨h1, h2, h3⟩ := h
  rw [List.take_of_length_le (by simp; omega)] at h3
  rw [h2, cutL_free b _ h3]
set_option maxHeartbeats 2000000 in
theorem rcut_any (s : ByteArray) (c : Int) (hc0 : 0 ≤ c) (hc1 : c ≤ 255) (hs : s.size ≤ 1000000000) (w : World) :
    Calls Try.prog 43 #[.string s, .int .u8 c] w fun e w' => ∃ v, e = .returned v ∧ Sl w' (fun b => w.heap.size ≤ b) v (cutL c.toNat.toUInt8 s.data.toList).length (strC (cutL c.toNat.toUInt8 s.data.toList)) ∧ Below w.heap.size w w' := by
  obtain ⟨i0, hi, hz0, hz1, hz2⟩ := info_parts Try.infoStr
  have hcb : ∀ x : UInt8, (x = c.toNat.toUInt8) ↔ (x.toNat : Int) = c := by
    intro x
    rw [← UInt8.toNat_inj]; simp; omega
  have HCB := Lib.hid hcb; clear hcb
  generalize hb : c.toNat.toUInt8 = b at HCB
  clear hb
  have hsl : Hid (s.size = s.data.toList.length) := size_len s
  go_enter Try.func43, Try.ntmps43
  go_wp2
  go_loopw [5, 6, 7] (fun v f i wr => ∃ (done : List (List UInt8)) (fn k : Nat), k ≤ s.size ∧ f = .int .i64 fn ∧ i = .int .i64 k ∧ CutRel b s.data.toList done fn k ∧ done.length ≤ k ∧ wr.ownsRow w.heap.size 9 1 v done.length (strC done) ∧ Below w.heap.size w wr) (fun _ _ i _ => s.size - (intOf i).toNat)
  case atStart => exact ⟨[], 0, 0, by omega, rfl, rfl, CutRel.start b _, by simp, World.ownsRow_made w #[] 0 (Nat.le_refl _) (by unfold maxLen; omega) rfl, (Below.refl _ _).alloc (Nat.le_refl _) _⟩
  case round =>
    obtain ⟨done, fn, k, hk, rfl, rfl, hrel, hdk, hown, hbl⟩ := hrel
    have hfk : fn ≤ k := hrel.1
    have HR := Lib.hid hrel; clear hrel
    have HB := Lib.hid hbl; clear hbl
    by_cases hlt : k < s.size
    · have hk' : k < s.data.toList.length := by rw [← hsl.out]; exact hlt
      have hge : s[k] = s.data.toList[k] := by rw [getElem_data, List.getD, List.getElem?_eq_getElem hk']; rfl
      by_cases he : (s[k].toNat : Int) = c
      · have hrel' := Lib.hid (CutRel.cut HR.out hk' (by rw [← hge]; exact (HCB.out _).2 he))
        have hex : s.extract fn k = ⟨((s.data.toList.drop fn).take (k - fn)).toArray⟩ := Lib.extract_eq _ _ _
        have HX := Lib.hid hex; clear hex
        clear hge
        go_wp2_with (at_builtin; refine wpL_append _ rfl _ _ 35 rfl w.heap.size 9 i0 (.string ByteArray.empty) 1 16 Try.underlying35 hi hz0 hz1 hz2 rfl (by decide) _ _ _ rfl (hown.alloc _) ⟨wr.heap.size, 0, none⟩ 1 1 [.string (s.extract fn k)] rfl rfl (cell_one_new _ _ _) (by simp [Value.oneCell']) (by unfold maxLen; omega) (by omega) (by have := HB.out.size; simp; omega) ?_; intro v' w1 hown' hgrow _)
        have hb1 : Below w.heap.size w w1 := (HB.out.alloc HB.out.size _).grown hgrow (by have := HB.out.size; simp; omega) (fun q hq => (hown.lt q hq).1)
        have HO := Lib.hid hown'; clear hown'
        have HB1 := Lib.hid hb1; clear hb1
        clear hgrow hown
        go_wp2
        go_roundw
        case rel => exact ⟨done ++ [(s.data.toList.drop fn).take (k - fn)], k + 1, k + 1, by omega, by go_num, by go_num, hrel'.out, by simp; omega, by have := HO.out; rw [HX.out] at this; simpa [strC] using this, HB1.out⟩
        case measure => simp [intOf]; omega
      · have hrel' := Lib.hid (CutRel.go HR.out hk' (by rw [← hge]; intro e; exact he ((HCB.out _).1 e)))
        have he2 : ((s[k].toNat : Int) == c) = false := by simpa using he
        clear hge
        go_wp2
        go_roundw
        case rel => exact ⟨done, fn, k + 1, by omega, rfl, by go_num, hrel'.out, by omega, hown, HB.out⟩
        case measure => simp [intOf]; omega
    · have hfin := CutRel.fin HR.out (by rw [← hsl.out]; omega)
      have hex : s.extract fn s.size = ⟨(s.data.toList.drop fn).toArray⟩ := by
        rw [Lib.extract_eq, List.take_of_length_le (by rw [List.length_drop, ← hsl.out]; omega)]
      have HX := Lib.hid hex; clear hex
      have HF := Lib.hid hfin; clear hfin
      have hfs : fn ≤ s.size := by omega
      have hge : s.size ≤ k := by omega
      go_wp2_with (at_builtin; refine wpL_append _ rfl _ _ 35 rfl w.heap.size 9 i0 (.string ByteArray.empty) 1 16 Try.underlying35 hi hz0 hz1 hz2 rfl (by decide) _ _ _ rfl (hown.alloc _) ⟨wr.heap.size, 0, none⟩ 1 1 [.string (s.extract fn s.size)] rfl rfl (cell_one_new _ _ _) (by simp [Value.oneCell']) (by unfold maxLen; omega) (by omega) (by have := HB.out.size; simp; omega) ?_; intro v' w1 hown' hgrow _)
      have hb1 : Below w.heap.size w w1 := (HB.out.alloc HB.out.size _).grown hgrow (by have := HB.out.size; simp; omega) (fun q hq => (hown.lt q hq).1)
      have HO := Lib.hid hown'; clear hown'
      have HB1 := Lib.hid hb1; clear hb1
      clear hgrow hown
      go_wp2
      go_ret
      refine ⟨_, rfl, ?_, HB1.out⟩
      have := Sl.of_owns HO.out
      rw [HX.out] at this
      rw [HF.out]
      simpa [strC] using this
theorem strC_eq (l : List (List UInt8)) : strC l = (l.map fun x => (⟨x.toArray⟩ : ByteArray)).map Value.string := by simp [strC]
set_option maxHeartbeats 1000000 in
theorem join_any (v : Value) (l : List (List UInt8)) (by_ : ByteArray) (ok : Nat → Prop) (w : World) (h : Sl w ok v l.length (strC l)) (hn : l.length ≤ 1000000000) (hlen : (Lib.join l by_.data.toList).length ≤ 1000000000) :
    Calls Try.prog 44 #[v, .string by_] w fun e w' => e = .returned (.string ⟨(Lib.join l by_.data.toList).toArray⟩) ∧ Below w.heap.size w w' := by
  have hj : ∀ w', w' = w → Calls Try.prog 56 #[v, .string by_] w' fun e w'' => e = .returned (.string ⟨(Lib.join l by_.data.toList).toArray⟩) ∧ Below w'.heap.size w' w'' := by
    rintro w' rfl
    obtain ⟨a, cap, rfl, h1, h2, h3⟩ := h
    cases l with
    | nil =>
      refine (Try.strings_Join_none a cap by_ w').mono fun e w'' ⟨he, hw⟩ => ?_
      subst he hw
      exact ⟨rfl, Below.refl _ _⟩
    | cons x t =>
      obtain ⟨b, off, rfl, -, hc⟩ := h3 0 (.string ⟨x.toArray⟩) (by simp [strC])
      have := Try.strings_Join b off cap ((x :: t).map fun x => (⟨x.toArray⟩ : ByteArray)) by_ w' (fun j y hy => by
        obtain ⟨b', off', e, -, hc'⟩ := h3 j (.string y) (by rw [strC_eq]; simp only [List.getElem?_map] at hy ⊢; rw [hy]; rfl)
        cases e; exact hc') (cell_lt hc) (by simp at hn ⊢; omega) (by simpa using h1) (by
          rw [List.map_map]
          have e : (fun x : ByteArray => x.data.toList) ∘ (fun x : List UInt8 => (⟨x.toArray⟩ : ByteArray)) = id := by funext y; simp
          rw [e, List.map_id]; omega)
      rw [List.map_map] at this
      have e : (fun x : ByteArray => x.data.toList) ∘ (fun x : List UInt8 => (⟨x.toArray⟩ : ByteArray)) = id := by funext y; simp
      rw [e, List.map_id, List.length_map] at this
      exact this
  clear h hn hlen
  generalize Lib.join l by_.data.toList = J at hj
  have HJ := Lib.hid hj; clear hj
  go_enter Try.func44, Try.ntmps44
  go_wp2_with fail
  refine (HJ.out _ rfl).mono ?_
  rintro e w' ⟨rfl, hb⟩
  go_wp2_with fail
  go_ret
  exact ⟨rfl, hb⟩
end Go.Proofs.Ytbgfcbicbkijaaa
