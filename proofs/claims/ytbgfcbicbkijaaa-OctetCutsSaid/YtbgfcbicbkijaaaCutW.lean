/- The walks of octet's pieces (an iterator) and Cut, and of the reference's Cut. -/
import Derived.Test.YtbgfcbicbkijaaaIter
import Derived.Test.YtbgfcbicbkijaaaOctW5
import Derived.Test.YtbgfcbicbkijaaaShelf
namespace Go.Proofs.Ytbgfcbicbkijaaa
open Go.RowKit Go.Shelf
attribute [local go_sem] Oper.semAt_some

/-- The pieces of a text. -/
def cutL (b : UInt8) : List UInt8 → List (List UInt8)
  | [] => [[]]
  | a :: t => if a == b then [] :: cutL b t else match cutL b t with
    | h :: r => (a :: h) :: r
    | [] => [[a]]
theorem cutL_ne (b : UInt8) : ∀ l, cutL b l ≠ []
  | [] => by simp [cutL]
  | a :: t => by
    unfold cutL
    split
    · simp
    · split <;> simp
theorem index_range (l : List UInt8) (b : UInt8) : Lib.indexByte l b = -1 ∨ (0 ≤ Lib.indexByte l b ∧ Lib.indexByte l b < l.length) := by
  induction l with
  | nil => left; rfl
  | cons a t ih =>
    unfold Lib.indexByte
    split
    · right; simp
    · split
      · left; rfl
      · rename_i h; right
        rcases ih with ih | ih
        · simp [ih] at h
        · simp; omega
theorem cutL_none (b : UInt8) (l : List UInt8) (h : Lib.indexByte l b = -1) : cutL b l = [l] := by
  induction l with
  | nil => rfl
  | cons a t ih =>
    unfold Lib.indexByte at h
    split at h
    · simp at h
    · rename_i hab
      split at h
      · rename_i ht
        rw [cutL, if_neg hab, ih (by simpa using ht)]
      · rename_i ht
        rcases index_range t b with ih2 | ih2
        · simp [ih2] at ht
        · omega
theorem cutL_some (b : UInt8) (l : List UInt8) (i : Nat) (h : Lib.indexByte l b = i) : cutL b l = l.take i :: cutL b (l.drop (i + 1)) := by
  induction l generalizing i with
  | nil => simp [Lib.indexByte] at h
  | cons a t ih =>
    unfold Lib.indexByte at h
    split at h
    · rename_i hab
      have : i = 0 := by omega
      subst this
      rw [cutL, if_pos hab]; rfl
    · rename_i hab
      split at h
      · simp at h
      · obtain ⟨j, rfl⟩ : ∃ j, i = j + 1 := ⟨i - 1, by
          rename_i ht
          rcases index_range t b with h2 | h2
          · simp [h2] at ht
          · omega⟩
        rw [cutL, if_neg hab, ih j (by omega)]
        simp

def strAt (w : World) (b : Nat) : Nat := match w.cell? ⟨b, 0, none⟩ with | some (.string s) => s.size | _ => 0
theorem strAt_eq {w : World} {b : Nat} {s : ByteArray} (h : w.cell? ⟨b, 0, none⟩ = some (.string s)) : strAt w b = s.size := by simp [strAt, h]

set_option maxHeartbeats 2000000 in
theorem pieces_iter (b1 b2 : Nat) (s : ByteArray) (c : Int) (hb : b1 ≠ b2) (hs : s.size ≤ maxLen) (w : World)
    (h1 : w.heap[b1]? = some (.cells #[.string s] 9)) (h2 : w.heap[b2]? = some (.cells #[.int .u8 c] 5)) :
    Iter Try.prog 58 #[.pointer (some ⟨b1, 0, none⟩), .pointer (some ⟨b2, 0, none⟩)] (fun x : List UInt8 => #[.string ⟨x.toArray⟩]) (cutL c.toNat.toUInt8 s.data.toList) (fun k => k = b1 ∨ k = b2) (fun k => k = b1) w := by
  intro n l S J Jx M0 hS hM0 hJ hJx hY h0
  unfold maxLen at hs
  refine callsIn_of_wp Try.func58 rfl trivial ?_ rfl
  simp only [Try.ntmps58, List.size_toArray, List.length_cons, List.length_nil, Nat.reduceAdd, Nat.reduceSub, Array.replicate_succ, Array.replicate_zero, List.push_toArray, List.append_toArray, List.nil_append, List.cons_append]
  gi_wp2
  gi_loopw [] (fun wr => ∃ (pre : List (List UInt8)) (rest : ByteArray) (M : Nat → Prop), cutL c.toNat.toUInt8 s.data.toList = pre ++ cutL c.toNat.toUInt8 rest.data.toList ∧ rest.size ≤ s.size ∧ J pre M wr ∧
      wr.heap[b1]? = some (.cells #[.string rest] 9) ∧ wr.heap[b2]? = some (.cells #[.int .u8 c] 5) ∧ (∀ k, M k → ¬ (k = b1 ∨ k = b2) ∧ k < wr.heap.size))
    (fun wr => strAt wr b1)
  case atStart => exact ⟨[], s, M0, by simp, Nat.le_refl _, h0, h1, h2, hM0⟩
  case round =>
    obtain ⟨pre, rest, M, hcut, hle, hj, hb1, hb2, hM⟩ := hrel
    have c1 : wr.cell? ⟨b1, 0, none⟩ = some (.string rest) := by rw [cell_of_row wr b1 0 _ _ _ hb1]; rfl
    have c2 : wr.cell? ⟨b2, 0, none⟩ = some (.int .u8 c) := by rw [cell_of_row wr b2 0 _ _ _ hb2]; rfl
    have f1 : wr.frozen? ⟨b1, 0, none⟩ = false := by simp [World.frozen?, hb1]
    have HJ := Lib.hid hj; clear hj
    have HC := Lib.hid hcut; clear hcut
    rcases index_range rest.data.toList c.toNat.toUInt8 with hi | hi
    · have hpc : cutL c.toNat.toUInt8 rest.data.toList = [rest.data.toList] := cutL_none _ _ hi
      have hpre : pre ++ [rest.data.toList] <+: cutL c.toNat.toUInt8 s.data.toList := by rw [HC.out, hpc]; exact List.prefix_rfl
      obtain ⟨fn, tmps, assign, body, hy, hR⟩ := hY pre rest.data.toList M wr HJ.out hpre (fun k hk => (hM k hk).2)
      rw [Lib.mk_data] at hy
      clear hpre
      have HP := Lib.hid hpc; clear hpc
      have HR := Lib.hid hR; clear hR
      gi_wp2_with (refine ⟨trivial, nofun, ?_⟩; gi_at_call 59; refine (callsIn_wide.2 (Try.strings_IndexByte _ _ _)).mono ?_; rintro e w' ⟨rfl, rfl⟩)
      refine ⟨nofun, HR.out.mono ?_⟩
      rintro e W' (⟨rfl, M', hj', -, -⟩ | ⟨rfl, M', hj', -, -⟩)
      · gi_wp2
        refine bodyPost_ret (results_none rfl _ _ _) rfl ⟨⟨_, rfl⟩, .inl ⟨M', ?_⟩⟩
        rw [HC.out, HP.out]; exact hj'
      · gi_wp2
        exact bodyPost_ret (results_none rfl _ _ _) rfl ⟨⟨_, rfl⟩, .inr ⟨M', hj'⟩⟩
    · obtain ⟨i, hie⟩ : ∃ i : Nat, Lib.indexByte rest.data.toList c.toNat.toUInt8 = i := ⟨_, (Int.toNat_of_nonneg hi.1).symm⟩
      rw [hie] at hi
      have hlt : i < rest.size := by rw [size_len]; omega
      clear hi
      have hpc : cutL c.toNat.toUInt8 rest.data.toList = rest.data.toList.take i :: cutL c.toNat.toUInt8 (rest.data.toList.drop (i + 1)) := cutL_some _ _ _ hie
      have hpre : pre ++ [rest.data.toList.take i] <+: cutL c.toNat.toUInt8 s.data.toList := by
        rw [HC.out, hpc]; exact ⟨cutL c.toNat.toUInt8 (rest.data.toList.drop (i + 1)), by simp⟩
      obtain ⟨fn, tmps, assign, body, hy, hR⟩ := hY pre (rest.data.toList.take i) M wr HJ.out hpre (fun k hk => (hM k hk).2)
      have hex : rest.extract 0 i = ⟨(rest.data.toList.take i).toArray⟩ := by rw [Lib.extract_eq]; simp
      rw [← hex] at hy
      clear hpre hex
      have HP := Lib.hid hpc; clear hpc
      have HR := Lib.hid hR; clear hR
      gi_wp2_with (refine ⟨trivial, nofun, ?_⟩; gi_at_call 59; refine (callsIn_wide.2 (Try.strings_IndexByte _ _ _)).mono ?_; rintro e w' ⟨rfl, rfl⟩)
      refine ⟨nofun, HR.out.mono ?_⟩
      rintro e W' (⟨rfl, M', hj', hc', hm'⟩ | ⟨rfl, M', hj', -, -⟩)
      · have hb1l : b1 < w'.heap.size := (Array.getElem?_eq_some_iff.1 hb1).1
        have hb2l : b2 < w'.heap.size := (Array.getElem?_eq_some_iff.1 hb2).1
        have hb1' : W'.heap[b1]? = some (.cells #[.string rest] 9) := (hc'.block b1 hb1l (fun h => (hM b1 h).1 (.inl rfl))).trans hb1
        have hb2' : W'.heap[b2]? = some (.cells #[.int .u8 c] 5) := (hc'.block b2 hb2l (fun h => (hM b2 h).1 (.inr rfl))).trans hb2
        have c1' : W'.cell? ⟨b1, 0, none⟩ = some (.string rest) := by rw [cell_of_row W' b1 0 _ _ _ hb1']; rfl
        have f1' : W'.frozen? ⟨b1, 0, none⟩ = false := by simp [World.frozen?, hb1']
        have HJ' := Lib.hid hj'; clear hj'
        have HM' := Lib.hid hm'; clear hm'
        have HC' := Lib.hid hc'; clear hc'
        have hb1s := Lib.hid hb1'; clear hb1'
        have hb2s := Lib.hid hb2'; clear hb2'
        gi_wp2
        go_roundw
        case rel =>
          refine ⟨pre ++ [rest.data.toList.take i], rest.extract (i + 1) rest.size, M', ?_, ?_, ?_, ?_, ?_, ?_⟩
          · have e : (rest.data.toList.drop (i + 1)).take (rest.size - (i + 1)) = rest.data.toList.drop (i + 1) := List.take_of_length_le (by rw [List.length_drop, ← size_len]; omega)
            rw [HC.out, HP.out, Lib.extract_data, List.append_assoc, List.singleton_append, e]
          · rw [ByteArray.size_extract]; omega
          · exact hJ _ _ _ _ HJ'.out ((Chg.refl _ _).setCell (.inl ⟨fun h => by rcases (HM'.out b1 h).1 with h | h; exact (hM b1 h).1 (.inl rfl); omega, fun h => (hS b1 h).1 rfl⟩) _)
          · exact setCell_row hb1s.out 0 _
          · rw [setCell_other 0 _ (Ne.symm hb)]; exact hb2s.out
          · intro k hk
            rw [setCell_size]
            refine ⟨?_, (HM'.out k hk).2⟩
            rcases (HM'.out k hk).1 with h | h
            · exact (hM k h).1
            · rintro (rfl | rfl) <;> omega
        case measure =>
          rw [strAt_eq (s := rest.extract (i + 1) rest.size) (by rw [cell_of_row _ b1 0 _ _ _ (setCell_row hb1s.out 0 _)]; rfl), strAt_eq c1, ByteArray.size_extract]
          omega
      · gi_wp2
        exact bodyPost_ret (results_none rfl _ _ _) rfl ⟨⟨_, rfl⟩, .inr ⟨M', hj'⟩⟩
set_option maxHeartbeats 400000 in
theorem pieces_any (s : ByteArray) (c : Int) (w : World) :
    Calls Try.prog 55 #[.string s, .int .u8 c] w fun e w' => e = .returned (.func (.func 58) #[] #[.pointer (some ⟨w.heap.size, 0, none⟩), .pointer (some ⟨w.heap.size + 1, 0, none⟩)]) ∧
      w' = (w.alloc (.cells #[.string s] 9)).alloc (.cells #[.int .u8 c] 5) := by
  go_enter Try.func55, Try.ntmps55
  go_wp2
  go_ret
  exact ⟨rfl, rfl⟩
end Go.Proofs.Ytbgfcbicbkijaaa
