/- General lemmas for all walks: conversions, slices of arrays, strings. -/
import Derived.Test.YtlhjieapkcnghaaRows
import Derived.WalkKit
import Derived.WalkSpells
import Derived.RegionTactic
import Derived.ChangeAlike
import Derived.StillTailTactics
import Derived.Deep.QuietTactic
import Derived.BigQuiet
import Derived.Lib.Hide
import Derived.Deep.DeepFit
import Derived.Lib.Strings
import Derived.WalkSmall
namespace Go.Proofs.Ytlhjieapkcnghaa
open Go.RowKit

theorem conv_out {P : Program} (src dst e : TypeId) (hs : P.underlying src = some (.slice e)) (he : P.underlying e = some (.int .u8)) (hd : P.underlying dst = some .string)
   (a : Addr) (l : List UInt8) (n c : Nat) (hn : n = l.length) (W : World) (h : ∀ j (hj : j < l.length), W.cell? (a.add j) = some (.int .u8 (l[j].toNat : Int))) :
   (convert src dst (.slice (some a) n c)).run P W = .ok (.string ⟨l.toArray⟩) W := by
  subst hn
  exact run_convert_bytes_back (P := P) W src dst e a c l hs he hd h

theorem add_at (b o j : Nat) : (⟨b, o, none⟩ : Addr).add j = ⟨b, o + j, none⟩ := by
  unfold Addr.add; split
  · subst_vars; rfl
  · rfl
theorem slice_arr {P : Program} (t : TypeId) (b N : Nat) (a : Nat) (l : Int) (hl : l = a) (ha : a < N) (ht : P.underlying t = some (.array (P.arrayLen t) (P.elem t))) (hN : P.arrayLen t = N) (he : (P.info? (P.elem t)).map (·.size) = some 1) (W : World) :
    (Instr.sliceAt t (.pointer (some ⟨b, 0, none⟩)) (some (.int .i64 l)) none none).run P W = .ok (.slice (some ⟨b, a, none⟩) (N - a) (N - a)) W := by
  subst hl
  rw [run_sliceAt_array_l W t ⟨b, 0, none⟩ ht .i64 a (by omega) (by omega), hN]
  have hs : (sizeOf (P.elem t)).run P W = .ok 1 W := by
    cases h : P.info? (P.elem t) with
    | none => simp [h] at he
    | some i => simp [h] at he; simp [sizeOf, typeInfo, h, he]
  rw [hs]
  simp only [Result.andThen, slicedAt, Int.toNat_natCast, Nat.mul_one]
  rw [if_neg (by omega)]
  simp [Addr.add]; intro h0; omega


/-- string(b) at a fresh literal of two bytes -/
theorem conv2 {P : Program} (src dst e : TypeId) (hs : P.underlying src = some (.slice e)) (he : P.underlying e = some (.int .u8)) (hd : P.underlying dst = some .string)
   (b : Nat) (x y : UInt8) (c : Nat) (W : World) (h0 : W.cell? ⟨b, 0, none⟩ = some (.int .u8 x.toNat)) (h1 : W.cell? ⟨b, 1, none⟩ = some (.int .u8 y.toNat)) :
   (convert src dst (.slice (some ⟨b, 0, none⟩) 2 c)).run P W = .ok (.string ⟨#[x, y]⟩) W := by
  have := run_convert_bytes_back (P := P) W src dst e ⟨b, 0, none⟩ c [x, y] hs he hd (by
    intro j hj
    have hj2 : j < 2 := by simpa using hj
    match j, hj2 with
    | 0, _ => simpa [Addr.add] using h0
    | 1, _ => simpa [Addr.add] using h1)
  exact this

/-- A cell below a 'Below'. -/
theorem bcell {B : Nat} {W w1 : World} (hb : Below B W w1) : (∀ b o, b < B → w1.cell? ⟨b, o, none⟩ = W.cell? ⟨b, o, none⟩) ∧ (∀ b o, b < B → w1.frozen? ⟨b, o, none⟩ = W.frozen? ⟨b, o, none⟩) :=
  ⟨fun b o h => hb.cell (p := ⟨b, o, none⟩) h, fun b o h => hb.frozen (p := ⟨b, o, none⟩) h⟩

theorem ret_int {k : IntKind} {a b : Int} (h : a = b) : Ending.returned (.int k a) = .returned (.int k b) := by rw [h]
theorem ret_bool {a b : Bool} (h : a = b) : Ending.returned (.bool a) = .returned (.bool b) := by rw [h]
theorem ret_str {a b : ByteArray} (h : a = b) : Ending.returned (.string a) = .returned (.string b) := by rw [h]
theorem ret_ib {k : IntKind} {a b : Int} {c d : Bool} (h : a = b) (g : c = d) : Ending.returned (.tuple #[.int k a, .bool c]) = .returned (.tuple #[.int k b, .bool d]) := by rw [h, g]
theorem ret_sb {a b : ByteArray} {c d : Bool} (h : a = b) (g : c = d) : Ending.returned (.tuple #[.string a, .bool c]) = .returned (.tuple #[.string b, .bool d]) := by rw [h, g]

/-- bytes of a string -/
theorem getElem_data (s : ByteArray) (i : Nat) (h : i < s.size) : s[i] = s.data.toList.getD i 0 := by
  have h' : i < s.data.toList.length := by simpa using h
  rw [List.getD, List.getElem?_eq_getElem h']
  rfl
theorem size_len (s : ByteArray) : s.size = s.data.toList.length := by simp
theorem byte_lt (x : UInt8) : x.toNat < 256 := x.toNat_lt

/-! ### slices that are read -/
/-- In world w the slice value v has n elements whose cells are xs, all in blocks that ok allows. -/
def Sl (w : World) (ok : Nat → Prop) (v : Value) (n : Nat) (xs : List Value) : Prop :=
  ∃ (a : Option Addr) (cap : Nat), v = .slice a n cap ∧ n ≤ cap ∧ cap ≤ maxLen ∧
    ∀ j u, xs[j]? = some u → ∃ b off, a = some ⟨b, off, none⟩ ∧ ok b ∧ w.cell? ⟨b, off + j, none⟩ = some u

theorem cell_lt {w : World} {b o : Nat} {u : Value} (h : w.cell? ⟨b, o, none⟩ = some u) : b < w.heap.size := World.block_lt_of_cell? w ⟨b, o, none⟩ h

theorem Sl.mono {w w' : World} {ok ok' : Nat → Prop} {v : Value} {n : Nat} {xs : List Value} (h : Sl w ok v n xs)
    (hf : ∀ b, ok b → b < w.heap.size → w'.heap[b]? = w.heap[b]?) (hok : ∀ b, ok b → b < w.heap.size → ok' b) : Sl w' ok' v n xs := by
  obtain ⟨a, cap, rfl, h1, h2, h3⟩ := h
  refine ⟨a, cap, rfl, h1, h2, fun j u hj => ?_⟩
  obtain ⟨b, off, rfl, hb, hc⟩ := h3 j u hj
  have hlt := cell_lt hc
  exact ⟨b, off, rfl, hok b hb hlt, (World.cell?_of_block (w := w) (hf b hb hlt)).trans hc⟩

theorem Sl.below {w w' : World} {B : Nat} {ok : Nat → Prop} {v : Value} {n : Nat} {xs : List Value} (h : Sl w ok v n xs) (hb : Below B w w') (hok : ∀ b, ok b → b < B) : Sl w' ok v n xs :=
  h.mono (fun b hb' _ => hb.block b (hok b hb')) (fun _ h _ => h)

theorem Sl.drewN {w : World} {ok : Nat → Prop} {v : Value} {n : Nat} {xs : List Value} (h : Sl w ok v n xs) (k : Nat) : Sl (w.drewN k) ok v n xs :=
  h.mono (fun _ _ _ => rfl) (fun _ h _ => h)

/-- Cells of a list of texts. -/
def strC (l : List (List UInt8)) : List Value := l.map fun x => .string ⟨x.toArray⟩
theorem strC_len (l : List (List UInt8)) : (strC l).length = l.length := by simp [strC]
theorem strC_get (l : List (List UInt8)) (k : Nat) (h : k < l.length) : (strC l)[k]? = some (.string ⟨l[k].toArray⟩) := by simp [strC, List.getElem?_eq_getElem h]

/-- A row that the call owns reads as a slice. -/
theorem Sl.of_owns {w : World} {base : Nat} {e : TypeId} {v : Value} {n : Nat} {xs : List Value} (h : w.ownsRow base e 1 v n xs) : Sl w (fun b => base ≤ b) v n xs := by
  have hl := h.1
  rcases h.2 with ⟨rfl, rfl⟩ | ⟨g, cap, cur, rfl, hg, hh, hn, hc, hs, ht⟩
  · refine ⟨none, 0, rfl, Nat.le_refl _, by unfold maxLen; omega, fun j u hj => ?_⟩
    have : xs = [] := List.eq_nil_of_length_eq_zero (by simpa using hl)
    subst this; simp at hj
  · refine ⟨_, cap, rfl, hn, hc, fun j u hj => ⟨g, 0, rfl, hg, ?_⟩⟩
    rw [cell_of_row w g _ cur e (0, 0) hh]
    rw [← ht, List.getElem?_take] at hj
    split at hj
    · simpa using hj
    · cases hj

/-- A store into the newest block, whatever its mark. -/
theorem setCell_mark (w : World) (C : Array Value) (t : TypeId) (fr : Nat × Nat) (i : Nat) (v : Value) :
    (w.alloc (.cells C t fr)).setCell ⟨w.heap.size, i, none⟩ v = w.alloc (.cells (C.setIfInBounds i v) t fr) := by
  have hm : ∀ (a : Array Obj) (x : Obj) (f : Obj → Obj), (a.push x).modify a.size f = a.push (f x) := by
    intro a x f
    apply Array.ext
    · simp
    · intro i h1 h2
      simp only [Array.getElem_modify, Array.getElem_push]
      by_cases h : a.size = i
      · subst h
        simp
      · have hi : i < a.size := by simp at h1; omega
        simp [h, hi]
  show ({ w.alloc (.cells C t fr) with heap := (w.heap.push (.cells C t fr)).modify w.heap.size _ } : World) = _
  rw [hm]
  rfl

/-- Cells of bytes. -/
def byteC (l : List UInt8) : List Value := l.map fun b => .int .u8 (b.toNat : Int)
theorem byteC_len (l : List UInt8) : (byteC l).length = l.length := by simp [byteC]
/-- string(b) of a row of bytes that the call owns. -/
theorem conv_owned {P : Program} (src dst e : TypeId) (hs : P.underlying src = some (.slice e)) (he : P.underlying e = some (.int .u8)) (hd : P.underlying dst = some .string)
    {W : World} {base : Nat} {v : Value} {n : Nat} {l : List UInt8} (h : W.ownsRow base e 1 v n (byteC l)) : (convert src dst v).run P W = .ok (.string ⟨l.toArray⟩) W := by
  have hl : l.length = n := by have := h.1; simpa [byteC_len] using this
  rcases h.2 with ⟨rfl, h0⟩ | ⟨g, cap, cur, rfl, hg, hh, hn, hc, hsz, ht⟩
  · have : l = [] := List.eq_nil_of_length_eq_zero (by omega)
    subst this
    rw [run_convert_bytes_string W src dst e none 0 0 hs he hd]
    rfl
  · refine conv_out src dst e hs he hd ⟨g, 0, none⟩ l n cap hl.symm W fun j hj => ?_
    rw [add_at, Nat.zero_add, cell_of_row W g j cur e (0, 0) hh]
    have : (cur.toList.take (n * 1))[j]? = some (.int .u8 (l[j].toNat : Int)) := by rw [ht]; simp [byteC, List.getElem?_eq_getElem hj]
    rw [List.getElem?_take] at this
    split at this
    · simpa using this
    · cases this

theorem setCell_row {W : World} {b : Nat} {C : Array Value} {t : TypeId} {fr : Nat × Nat} (h : W.heap[b]? = some (.cells C t fr)) (i : Nat) (v : Value) :
    (W.setCell ⟨b, i, none⟩ v).heap[b]? = some (.cells (C.setIfInBounds i v) t fr) := by
  simp only [World.setCell, Array.getElem?_modify, h]
  simp
theorem setCell_other {W : World} {b k : Nat} (i : Nat) (v : Value) (h : k ≠ b) : (W.setCell ⟨b, i, none⟩ v).heap[k]? = W.heap[k]? := Below.heap_setCell W ⟨b, i, none⟩ v k h
theorem setCell_size (W : World) (a : Addr) (v : Value) : (W.setCell a v).heap.size = W.heap.size := by simp [World.setCell]

theorem heap_alloc_if (w : World) (o : Obj) (k : Nat) : (w.alloc o).heap[k]? = if k = w.heap.size then some o else w.heap[k]? := by
  show (w.heap.push o)[k]? = _
  rw [Array.getElem?_push]

theorem Sl.of_owns' {w : World} {base : Nat} {e : TypeId} {v : Value} {n : Nat} {xs : List Value} (h : w.ownsRow base e 1 v n xs) : Sl w (fun b => v.ownBlock = some b) v n xs := by
  have hl := h.1
  rcases h.2 with ⟨rfl, rfl⟩ | ⟨g, cap, cur, rfl, hg, hh, hn, hc, hs, ht⟩
  · refine ⟨none, 0, rfl, Nat.le_refl _, by unfold maxLen; omega, fun j u hj => ?_⟩
    have : xs = [] := List.eq_nil_of_length_eq_zero (by simpa using hl)
    subst this; simp at hj
  · refine ⟨_, cap, rfl, hn, hc, fun j u hj => ⟨g, 0, rfl, rfl, ?_⟩⟩
    rw [cell_of_row w g _ cur e (0, 0) hh]
    rw [← ht, List.getElem?_take] at hj
    split at hj
    · simpa using hj
    · cases hj

theorem heap_at_new (w : World) (o : Obj) (k : Nat) (h : k = w.heap.size) : (w.alloc o).heap[k]? = some o := by rw [heap_alloc_if, if_pos h]
theorem heap_at_old (w : World) (o : Obj) (k : Nat) (h : k < w.heap.size) : (w.alloc o).heap[k]? = w.heap[k]? := by rw [heap_alloc_if, if_neg (by omega)]

/-- A slice literal that has just been laid. -/
theorem Sl.lit (w : World) (C : Array Value) (t : TypeId) (n : Nat) (xs : List Value) (hx : xs = C.toList) (hn : n ≤ 1000000) : Sl (w.alloc (.cells C t)) (fun b => b = w.heap.size) (.slice (some ⟨w.heap.size, 0, none⟩) n n) n xs := by
  subst hx
  refine ⟨_, n, rfl, Nat.le_refl _, by unfold maxLen; omega, fun j u hj => ⟨w.heap.size, 0, rfl, rfl, ?_⟩⟩
  rw [World.cell?_alloc_mark]
  simpa using hj
theorem Sl.alloc {w : World} {ok : Nat → Prop} {v : Value} {n : Nat} {xs : List Value} (h : Sl w ok v n xs) (o : Obj) : Sl (w.alloc o) ok v n xs :=
  h.mono (fun b _ hlt => heap_at_old w o b hlt) (fun _ h _ => h)

theorem Sl.lit' (w : World) (g : Nat) (hg : g = w.heap.size) (C : Array Value) (t : TypeId) (n : Nat) (xs : List Value) (hx : xs = C.toList) (hn : n ≤ 1000000) : Sl (w.alloc (.cells C t)) (fun b => b = g) (.slice (some ⟨g, 0, none⟩) n n) n xs := by
  subst hg; exact Sl.lit w C t n xs hx hn

theorem drewN2 (w : World) (q n : Nat) : (w.drewN q).drewN n = w.drewN (q + n) := by
  simp [World.drewN, Nat.add_assoc]
end Go.Proofs.Ytlhjieapkcnghaa
