/- The walks of the reference's rows, of the calls they name and of what a call gives. -/
import Derived.Test.YtbgfcbicbkijaaaKindW3
import Derived.Test.YtbgfcbicbkijaaaKindC
namespace Go.Proofs.Ytbgfcbicbkijaaa
open Go.RowKit

def allocL : World → List Obj → World
  | w, [] => w
  | w, o :: t => allocL (w.alloc o) t
theorem allocL_size : ∀ (os : List Obj) (w : World), (allocL w os).heap.size = w.heap.size + os.length
  | [], w => rfl
  | o :: t, w => by rw [allocL, allocL_size t]; simp; omega
theorem allocL_below : ∀ (os : List Obj) (w a : World) (B : Nat), Below B a w → B ≤ w.heap.size → Below B a (allocL w os)
  | [], _, _, _, h, _ => h
  | o :: t, w, a, B, h, hB => allocL_below t _ a B (h.alloc hB o) (by simp; omega)
theorem allocL_at : ∀ (os : List Obj) (w : World) (j : Nat) (o : Obj), os[j]? = some o → (allocL w os).heap[w.heap.size + j]? = some o
  | [], _, _, _, h => by simp at h
  | p :: t, w, 0, o, h => by
    simp only [List.getElem?_cons_zero, Option.some.injEq] at h
    subst h
    have hb := allocL_below t (w.alloc p) (w.alloc p) (w.heap.size + 1) (Below.refl _ _) (by simp)
    rw [allocL, Nat.add_zero, hb.block _ (by omega)]
    exact heap_at_new _ _ _ rfl
  | p :: t, w, j + 1, o, h => by
    rw [allocL]
    have := allocL_at t (w.alloc p) j o (by simpa using h)
    rw [← this]; congr 1; simp; omega
def rowsC : Nat → List (List UInt8 × List Int × Int) → List Value
  | _, [] => []
  | b, r :: t => .string ⟨r.1.toArray⟩ :: .slice (some ⟨b, 0, none⟩) r.2.1.length r.2.1.length :: .int .i64 r.2.2 :: rowsC (b + 1) t
def insO (t : List (List UInt8 × List Int × Int)) : List Obj := t.map fun r => .cells (intC r.2.1).toArray 31
set_option maxHeartbeats 4000000 in
set_option maxRecDepth 100000 in
theorem rows_any (w : World) : Calls Try.prog 49 #[] w fun e w' => e = .returned (.slice (some ⟨w.heap.size + 27, 0, none⟩) 27 27) ∧ w' = (allocL w (insO rowsL)).alloc (.cells (rowsC w.heap.size rowsL).toArray 61) := by
  go_enter Try.func49, Try.ntmps49
  go_wp2
  go_ret
  exact ⟨rfl, rfl⟩
theorem rowsC_at : ∀ (t : List (List UInt8 × List Int × Int)) (b j : Nat) (r : List UInt8 × List Int × Int), t[j]? = some r → (rowsC b t)[j * 3]? = some (.string ⟨r.1.toArray⟩) ∧ (rowsC b t)[j * 3 + 1]? = some (.slice (some ⟨b + j, 0, none⟩) r.2.1.length r.2.1.length) ∧ (rowsC b t)[j * 3 + 2]? = some (.int .i64 r.2.2)
  | [], _, _, _, h => by simp at h
  | p :: t, b, 0, r, h => by
    simp only [List.getElem?_cons_zero, Option.some.injEq] at h
    subst h
    exact ⟨rfl, rfl, rfl⟩
  | p :: t, b, j + 1, r, h => by
    have := rowsC_at t (b + 1) j r (by simpa using h)
    have e0 : (j + 1) * 3 = j * 3 + 1 + 1 + 1 := by omega
    have e1 : b + (j + 1) = b + 1 + j := by omega
    rw [e0, e1]
    simp only [rowsC, List.getElem?_cons_succ]
    exact this
/-- What a world holds where the rows lie. -/
theorem belowQ {B : Nat} {a w : World} (h : Below B a w) (q : Nat) : Below B a (w.drewN q) := ⟨h.os, h.tape, h.output, h.size, h.block⟩
def RowsAt (w : World) (B : Nat) : Prop := ∀ j r, rowsL[j]? = some r → w.cell? ⟨B, j * 3, none⟩ = some (.string ⟨r.1.toArray⟩) ∧ w.cell? ⟨B, j * 3 + 2, none⟩ = some (.int .i64 r.2.2) ∧
  ∃ b, w.cell? ⟨B, j * 3 + 1, none⟩ = some (.slice (some ⟨b, 0, none⟩) r.2.1.length r.2.1.length) ∧ ∀ k u, (intC r.2.1)[k]? = some u → w.cell? ⟨b, k, none⟩ = some u
theorem RowsAt.below {w w' : World} {B B' : Nat} (h : RowsAt w B) (hb : Below B' w w') (hB : w.heap.size ≤ B') : RowsAt w' B := by
  intro j r hr
  obtain ⟨h1, h2, b, h3, h4⟩ := h j r hr
  have t : ∀ (c o : Nat) (u : Value), w.cell? ⟨c, o, none⟩ = some u → w'.cell? ⟨c, o, none⟩ = some u := fun c o u hu => by
    rw [hb.cell (p := ⟨c, o, none⟩) (Nat.lt_of_lt_of_le (cell_lt hu) hB)]; exact hu
  exact ⟨t _ _ _ h1, t _ _ _ h2, b, t _ _ _ h3, fun k u hk => t _ _ _ (h4 k u hk)⟩
theorem rows_at (w : World) : Calls Try.prog 49 #[] w fun e w' => ∃ B, e = .returned (.slice (some ⟨B, 0, none⟩) 27 27) ∧ Below w.heap.size w w' ∧ RowsAt w' B := by
  refine (rows_any w).mono ?_
  rintro e w' ⟨rfl, rfl⟩
  have hsz := allocL_size (insO rowsL) w
  have hlen : (insO rowsL).length = 27 := rfl
  rw [hlen] at hsz
  have hb := allocL_below (insO rowsL) w w w.heap.size (Below.refl _ _) (Nat.le_refl _)
  refine ⟨w.heap.size + 27, rfl, hb.alloc (by omega) _, ?_⟩
  intro j r hr
  obtain ⟨c1, c2, c3⟩ := rowsC_at rowsL w.heap.size j r hr
  have hj : j < 27 := by
    have := (List.getElem?_eq_some_iff.1 hr).1
    exact this
  have key : ∀ o, ((allocL w (insO rowsL)).alloc (.cells (rowsC w.heap.size rowsL).toArray 61)).cell? ⟨w.heap.size + 27, o, none⟩ = (rowsC w.heap.size rowsL)[o]? := fun o => by
    rw [← hsz, World.cell?_alloc_mark]; simp
  rw [key, key]
  refine ⟨c1, c3, w.heap.size + j, (key _).trans c2, fun k u hk => ?_⟩
  have h5 := allocL_at (insO rowsL) w j (.cells (intC r.2.1).toArray 31) (by rw [insO, List.getElem?_map, hr]; rfl)
  have h6 : ((allocL w (insO rowsL)).alloc (.cells (rowsC w.heap.size rowsL).toArray 61)).heap[w.heap.size + j]? = some (.cells (intC r.2.1).toArray 31) := by
    rw [← h5]; exact Below.heap_alloc _ _ _ (by omega)
  rw [cell_of_row _ _ _ _ _ _ h6]
  simpa using hk
end Go.Proofs.Ytbgfcbicbkijaaa
