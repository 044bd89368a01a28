/- The walks of octet's Cut and of the reference's Cut. -/
import Derived.Test.YtbgfcbicbkijaaaCutW
import Derived.Test.YtbgfcbicbkijaaaOwn
namespace Go.Proofs.Ytbgfcbicbkijaaa
open Go.RowKit Go.Shelf
attribute [local go_sem] Oper.semAt_some

theorem Try.infoStr : (Try.prog.info? 9).map (fun i => (i.zero, i.size, i.bytes)) = some (some (.string ByteArray.empty), 1, 16) := by kernel_rfl
theorem cutL_len (b : UInt8) (l : List UInt8) : (cutL b l).length ≤ l.length + 1 := by
  induction l with
  | nil => simp [cutL]
  | cons a t ih =>
    unfold cutL
    split
    · simp; exact ih
    · split
      · rename_i h; rw [h] at ih; simp at ih ⊢; omega
      · simp
def CutI (w : World) (pre : List (List UInt8)) (M : Nat → Prop) (W : World) : Prop :=
  ∃ v, W.heap[w.heap.size]? = some (.cells #[v] 35) ∧ W.ownsRow (w.heap.size + 3) 9 1 v pre.length (strC pre) ∧ (M = fun k => k = w.heap.size ∨ v.ownBlock = some k) ∧ Below w.heap.size w W
set_option maxHeartbeats 2000000 in
theorem cut_any (s : ByteArray) (c : Int) (hs : s.size ≤ 1000000000) (w : World) :
    Calls Try.prog 42 #[.string s, .int .u8 c] w fun e w' => ∃ v, e = .returned v ∧ Sl w' (fun b => w.heap.size ≤ b) v (cutL c.toNat.toUInt8 s.data.toList).length (strC (cutL c.toNat.toUInt8 s.data.toList)) ∧ Below w.heap.size w w' := by
  obtain ⟨i0, hi, hz0, hz1, hz2⟩ := info_parts Try.infoStr
  refine (callsIn_wide (n := 5)).1 ?_
  refine callsIn_of_wp_marks Try.func42 rfl trivial ?_ rfl
  simp only [Try.ntmps42, List.size_toArray, List.length_cons, List.length_nil, Nat.reduceAdd, Nat.reduceSub, Array.replicate_succ, Array.replicate_zero, List.push_toArray, List.append_toArray, List.nil_append, List.cons_append]
  gi_wp2_with (refine ⟨trivial, ?_⟩; gi_at_call 55; refine (callsIn_wide.2 (pieces_any _ _ _)).mono ?_; rintro e w' ⟨rfl, rfl⟩)
  refine wp_range (g := 58) (cap := #[.pointer (some ⟨w.heap.size + 1, 0, none⟩), .pointer (some ⟨w.heap.size + 2, 0, none⟩)]) ?hg (enters_of Try.func58 (by kernel_rfl) rfl)
    (encs := fun x : List UInt8 => #[.string ⟨x.toArray⟩]) (xs := cutL c.toNat.toUInt8 s.data.toList) (C := fun k => k = w.heap.size + 1 ∨ k = w.heap.size + 2) (Cw := fun k => k = w.heap.size + 1)
    ?hit ?hps ?hC (fun k => k < w.heap.size) ?hS
    (CutI w)
    (fun _ _ _ => False) ?hI (fun _ _ _ _ h _ => h.elim) (fun k => k = w.heap.size) ?hM0 ?h0 ?round ?done (fun _ _ _ h _ _ => h.elim)
  case hg => rfl
  case hps => intro x; rfl
  case hC => intro k hk; simp; omega
  case hS => intro k hk; exact ⟨by omega, by simp; omega⟩
  case hM0 => intro k hk; exact ⟨by omega, by simp; omega⟩
  case hit =>
    intro W hW
    refine pieces_iter (w.heap.size + 1) (w.heap.size + 2) s c (by omega) (by unfold maxLen; omega) W (hW.heap ((heap_at_old _ _ _ (by simp)).trans (heap_at_new _ _ _ (by simp))) (fun h => h)) (hW.heap (heap_at_new _ _ _ (by simp)) (fun h => h))
  case hI =>
    rintro pre M W W' ⟨v, h1, h2, rfl, h4⟩ hc
    refine ⟨v, hc.heap h1 (fun h => h.1 (.inl rfl)), ownsRow_chg h2 hc (fun k hk h => h.1 (.inr hk)), rfl, h4.trans (hc.below h4.size (fun k hk => by have := hk.2; omega))⟩
  case h0 =>
    refine ⟨.slice none 0 0, ?_, World.ownsRow_nil _ _ _ _, by simp [Value.ownBlock], ?_⟩
    · exact (heap_at_old _ _ _ (by simp; omega)).trans ((heap_at_old _ _ _ (by simp)).trans (heap_at_new _ _ _ rfl))
    · exact (((Below.refl _ _).alloc (Nat.le_refl _) _).alloc (by simp) _).alloc (by simp; omega) _
  case round =>
    intro l pre x M W hI hpre hMl hSl hlW hM hsz
    have HI := Lib.hid hI; clear hI
    gi_wp2
    refine ⟨Chg.refl _ _, fun W2 hc2 hI2 => ?_⟩
    obtain ⟨v, h1, h2, rfl, h4⟩ := hI2
    have hlen : pre.length + 1 ≤ 1000000001 := by
      have e1 := hpre.length_le
      have e2 := cutL_len c.toNat.toUInt8 s.data.toList
      rw [← size_len] at e2
      rw [List.length_append, List.length_singleton] at e1; omega
    have hv := h2.lt
    have hB : w.heap.size < W2.heap.size := (Array.getElem?_eq_some_iff.1 h1).1
    have c1 : W2.cell? ⟨w.heap.size, 0, none⟩ = some v := by rw [cell_of_row W2 w.heap.size 0 _ _ _ h1]; rfl
    have f1 : W2.frozen? ⟨w.heap.size, 0, none⟩ = false := by simp [World.frozen?, h1]
    have H1 := Lib.hid h1; clear h1
    have H4 := Lib.hid h4; clear h4
    have HV := Lib.hid hv; clear hv
    clear hpre hMl hSl hM
    have hB3 : w.heap.size + 3 ≤ W2.heap.size := by have := hc2.size; simp at hsz; omega
    clear hc2
    gi_wp2_with (gi_at_builtin; refine wpLIn_append _ rfl _ _ 35 rfl (w.heap.size + 3) 9 i0 (.string ByteArray.empty) 1 16 Try.underlying35 hi hz0 hz1 hz2 rfl (by decide) _ _ _ rfl (h2.alloc _) ⟨W2.heap.size, 0, none⟩ 1 1 [.string ⟨x.toArray⟩] rfl rfl (cell_one_new _ _ _) (by simp [Value.oneCell']) (by unfold maxLen; omega) (by omega) (by simp; omega) ?_)
    intro v' w1 hown' hgrow hnew
    obtain ⟨g', cap', rfl⟩ := ownsRow_succ hown'
    obtain ⟨r1, r2, r3, r4⟩ := box_round H1.out h2 (by omega) hgrow hnew hown'
    have hne : some w.heap.size ≠ v.ownBlock := fun e => by have := HV.out _ e.symm; omega
    have hb1 : w1.heap[w.heap.size]? = some (.cells #[v] 35) := (hgrow.block _ (by simp; omega) hne).trans ((Below.heap_alloc _ _ _ hB).trans H1.out)
    have c3 : w1.cell? ⟨w.heap.size, 0, none⟩ = some v := by rw [cell_of_row w1 w.heap.size 0 _ _ _ hb1]; rfl
    have f3 : w1.frozen? ⟨w.heap.size, 0, none⟩ = false := by simp [World.frozen?, hb1]
    have R1 := Lib.hid r1; clear r1
    have R2 := Lib.hid r2; clear r2
    have R3 := Lib.hid r3; clear r3
    have R4 := Lib.hid r4; clear r4
    clear c1 f1 hne hnew hgrow hown' hb1
    gi_wp2
    refine ⟨fun k => k = w.heap.size ∨ (Value.slice (some ⟨g', 0, none⟩) (pre.length + 1) cap').ownBlock = some k, ⟨_, R1.out, ?_, rfl, H4.out.trans (R3.out.below H4.out.size ?_)⟩, R3.out, R4.out⟩
    · have := R2.out; simpa [strC] using this
    · rintro k (rfl | hk)
      · exact Nat.le_refl _
      · have := HV.out k hk; omega
  case done =>
    rintro M W ⟨v, h1, h2, rfl, h4⟩ hD hMD
    have c1 : W.cell? ⟨w.heap.size, 0, none⟩ = some v := by rw [cell_of_row W w.heap.size 0 _ _ _ h1]; rfl
    have hMD := Lib.hid hMD
    have HD := Lib.hid hD; clear hD
    have H1 := Lib.hid h1; clear h1
    gi_wp2
    refine ⟨by simp, .inl ⟨_, _, rfl, run_takeDeferred (by first | exact HD.out | simpa using HD.out), ?_⟩⟩
    refine ⟨_, results_tmp rfl _ _ _, ?_⟩
    refine ⟨_, rfl, ?_, ?_⟩
    · have hlt := h2.lt
      refine (Sl.of_owns' h2).mono (fun b hb _ => ?_) (fun b hb _ => by have := (hlt b hb).1; omega)
      exact World.putObj_heap_other (by simpa using hMD.out b (.inr hb))
    · exact h4.trans ((Below.refl _ W).grown (grownBy_putObj' W _ _) h4.size (fun k e => by cases e; omega))
end Go.Proofs.Ytbgfcbicbkijaaa
