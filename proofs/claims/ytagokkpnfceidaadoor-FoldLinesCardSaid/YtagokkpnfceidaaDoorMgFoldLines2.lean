/- The proof's texts, part 2 of 10: the walks by a logic in which data are by value, the plain laws, and at the end the law, for every input. -/
import Derived.Test.YtagokkpnfceidaaDoorMgFoldLines1
import Derived.Laws.MakeOwn
import Derived.Lib.AppendStr
import Derived.Orders
import Derived.OrdersIn

section
namespace Go.Proofs.YtagokkpnfceidaaDoor
open Go.RowKit

section
variable {P : Program} {tb : Tbl}
def placesOf (tb : Tbl) : List Field → Option (List (Nat × Nat))
  | [] => some []
  | f :: r => match tb.lookup f.type, placesOf tb r with
    | some ti, some l => some ((f.offset, ti.size) :: l)
    | _, _ => none
theorem placesOf_eq (hT : TblOk P tb) : ∀ (l : List Field) (ps : List (Nat × Nat)), placesOf tb l = some ps → l.mapM (fun f => (P.info? f.type).map fun i => (f.offset, i.size)) = some ps
  | [], ps, h => by simp [placesOf] at h; subst h; rfl
  | f :: r, ps, h => by
    unfold placesOf at h
    split at h
    · rename_i ti l hf hl
      cases h
      obtain ⟨_, i, h1, h2, _⟩ := hT _ _ hf
      simp [List.mapM_cons, h1, h2, placesOf_eq hT r l hl]
    · cases h
def aBuild (tb : Tbl) (t : Nat) (ps : Option (List (Nat × D))) (s : S) (K : D → S → Prop) : Prop :=
  match tb.lookup t, ps with
  | some ti, some ps => match absV ti.zero with
    | some x => match dcells (.p x) with
      | some z => match ti.d with
        | .struct fields => match placesOf tb fields.toList with
          | some pl => match fillD (fun i => pl[i]?) z ps with
            | some cs => K (aggD cs) s
            | none => False
          | none => False
        | .array _ e => match tb.lookup e with
          | some te => match fillD (fun i => some (i * te.size, te.size)) z ps with
            | some cs => K (aggD cs) s
            | none => False
          | none => False
        | _ => False
      | none => False
    | none => False
  | _, _ => False
theorem aBuild_sound (hT : TblOk P tb) {G : Gh} {w : World} {s : S} (hI : Inv G s w) {K : D → S → Prop} {ev : Operand → Option D} {a : Act} (hev : ∀ x d, ev x = some d → DRel G w d (a.eval x)) (t : Nat) (parts : Array (Nat × Operand))
    (h : aBuild tb t (evps ev parts.toList) s K) : Out P G w ((Instr.build t (parts.map fun (i, x) => (i, a.eval x))).run P w) K := by
  unfold aBuild at h
  split at h
  · rename_i ti ps ht hps
    obtain ⟨hu, it, i1, i2, i3, i4, _⟩ := hT t ti ht
    split at h
    · rename_i x hx
      split at h
      · rename_i z hz
        have hzr : CellsRel G w z ti.zero.cells := dcells_rel (.p x _ (absV_rel hx)) hz
        have hparts : (parts.map fun (i, x) => (i, a.eval x)).toList = parts.toList.map fun (i, x) => (i, a.eval x) := by simp
        split at h
        · rename_i fields hd
          split at h
          · rename_i pl hpl
            split at h
            · rename_i cs hcs
              obtain ⟨zs, f1, f2⟩ := fillD_rel hev (fun i => pl[i]?) parts.toList ps z ti.zero.cells cs hps hzr hcs
              refine .pure hI _ (run_build w t _ zs ?_) f2.agg h
              rw [hd] at hu
              rw [hparts]
              simp only [Program.built, i1, hu, i4, placesOf_eq hT _ _ hpl]
              simpa using f1
            · exact h.elim
          · exact h.elim
        · rename_i n e hd
          split at h
          · rename_i te he
            split at h
            · rename_i cs hcs
              obtain ⟨zs, f1, f2⟩ := fillD_rel hev _ parts.toList ps z ti.zero.cells cs hps hzr hcs
              refine .pure hI _ (run_build w t _ zs ?_) f2.agg h
              rw [hd] at hu
              obtain ⟨_, ie, e1, e2, _⟩ := hT e te he
              rw [hparts]
              simp only [Program.built, i1, hu, i4, e1, e2]
              exact f1
            · exact h.elim
          · exact h.elim
        · exact h.elim
      · exact h.elim
    · exact h.elim
  · exact h.elim

def chunk (size : Nat) : Nat → List V → List (List V)
  | 0, _ => []
  | n + 1, l => l.take size :: chunk size n (l.drop size)
theorem chunk_at (size : Nat) : ∀ (n : Nat) (l : List V), l.length = n * size → (chunk size n l).length = n ∧ (∀ e ∈ chunk size n l, e.length = size) ∧ ∀ (i k : Nat) e c, (chunk size n l)[i]? = some e → e[k]? = some c → l[i * size + k]? = some c
  | 0, l, _ => ⟨rfl, by simp [chunk], by simp [chunk]⟩
  | n + 1, l, h => by
    have hs : (n + 1) * size = size + n * size := by rw [Nat.add_mul]; omega
    obtain ⟨h1, h2, h3⟩ := chunk_at size n (l.drop size) (by simp; omega)
    refine ⟨by simp [chunk, h1], fun e he => ?_, fun i k e c he hc => ?_⟩
    · simp only [chunk, List.mem_cons] at he
      rcases he with rfl | he
      · simp; omega
      · exact h2 e he
    · cases i with
      | zero =>
        simp only [chunk, List.getElem?_cons_zero, Option.some.injEq] at he
        subst he
        rw [List.getElem?_take] at hc
        split at hc
        · simpa using hc
        · cases hc
      | succ i =>
        simp only [chunk, List.getElem?_cons_succ] at he
        have := h3 i k e c he hc
        rw [List.getElem?_drop] at this
        have e1 : (i + 1) * size + k = size + (i * size + k) := by rw [Nat.add_mul]; omega
        rw [e1]; exact this
theorem flat_rep {α : Type} (z : List α) : ∀ (n j : Nat), j < n * z.length → (List.replicate n z).flatten[j]? = z[j % z.length]?
  | 0, j, h => by simp at h
  | n + 1, j, h => by
    rw [List.replicate_succ, List.flatten_cons]
    by_cases hj : j < z.length
    · rw [List.getElem?_append_left hj, Nat.mod_eq_of_lt hj]
    · rw [List.getElem?_append_right (by omega), flat_rep z n (j - z.length) (by rw [Nat.add_mul] at h; omega), ← Nat.mod_eq_sub_mod (by omega)]
def aBuildSlice (tb : Tbl) (t n : Nat) (ps : Option (List (Nat × D))) (s : S) (K : D → S → Prop) : Prop :=
  match tb.lookup t, ps with
  | some ti, some ps => match ti.d with
    | .slice e => match tb.lookup e with
      | some te => match absV te.zero with
        | some x => match dcells (.p x) with
          | some z => if n * te.size ≤ 16777216 ∧ z.length = te.size ∧ 0 < te.size then
            match fillD (fun i => some (i * te.size, te.size)) (List.replicate n z).flatten ps with
              | some cs => match unps cs with
                | some vs => K (.p (.sl true (chunk te.size n vs))) s
                | none => if te.size = 1 then K (.sf cs) s else False
              | none => False
            else False
          | none => False
        | none => False
      | none => False
    | _ => False
  | _, _ => False
theorem fillD_len (places : Nat → Option (Nat × Nat)) : ∀ (ps : List (Nat × D)) (ds cs : List D), fillD places ds ps = some cs → cs.length = ds.length
  | [], ds, cs, h => by simp [fillD] at h; rw [h]
  | (i, d) :: r, ds, cs, h => by
    unfold fillD at h
    simp only [forceL_eq] at h
    split at h
    · split at h
      · rename_i hc
        rw [fillD_len places r _ cs h]
        simp; omega
      · cases h
    · cases h
theorem aBuildSlice_sound (hT : TblOk P tb) {G : Gh} {w : World} {s : S} (hI : Inv G s w) {K : D → S → Prop} {ev : Operand → Option D} {a : Act} (hev : ∀ x d, ev x = some d → DRel G w d (a.eval x)) (t n : Nat) (parts : Array (Nat × Operand))
    (h : aBuildSlice tb t n (evps ev parts.toList) s K) : Out P G w ((Instr.buildSlice t n (parts.map fun (i, x) => (i, a.eval x))).run P w) K := by
  unfold aBuildSlice at h
  split at h
  · rename_i ti ps ht hps
    have hu := hT.und ht
    split at h
    · rename_i e hd
      rw [hd] at hu
      split at h
      · rename_i te he
        split at h
        · rename_i x hx
          split at h
          · rename_i z hz
            split at h
            · rename_i hc
              obtain ⟨hc1, hc2, hc3⟩ := hc
              split at h
              · rename_i cs hcs
                have hzr : CellsRel G w z te.zero.cells := dcells_rel (.p x _ (absV_rel hx)) hz
                have hzs : te.zero.cells.size = te.size := by rw [hzr.1]; exact hc2
                have hparts : (parts.map fun (i, x) => (i, a.eval x)).toList = parts.toList.map fun (i, x) => (i, a.eval x) := by simp
                have hflen : (List.replicate n z).flatten.length = n * te.size := by simp [hc2]
                obtain ⟨Z, hZ0, hZs⟩ : ∃ Z : Array Value, (n * te.size = 0 → Z = #[]) ∧ (n * te.size ≠ 0 → Z = te.zero.cells) := by
                  by_cases h0 : n * te.size = 0
                  · exact ⟨#[], fun _ => rfl, fun h => absurd h0 h⟩
                  · exact ⟨te.zero.cells, fun h => absurd h h0, fun _ => rfl⟩
                have hbase : CellsRel G w (List.replicate n z).flatten ((Array.range (n * te.size)).map fun x => Z[x % Z.size]!) := by
                  refine ⟨by simp [hc2], fun j c u hcj hu' => ?_⟩
                  have hj : j < n * te.size := by rw [← hflen]; exact (List.getElem?_eq_some_iff.1 hcj).1
                  have hZe := hZs (by omega)
                  subst hZe
                  rw [flat_rep z n j (by rw [hc2]; exact hj), hc2] at hcj
                  have hm : j % te.size < te.zero.cells.size := by
                    rw [hzs]; have := (List.getElem?_eq_some_iff.1 hcj).1; omega
                  have hu2 : te.zero.cells[j % te.size]! = u := by
                    rw [Array.getElem?_map, Array.getElem?_range] at hu'
                    simpa only [hj, if_true, Option.map_some, Option.some.injEq, hzs] using hu'
                  rw [getElem!_pos te.zero.cells (j % te.size) hm] at hu2
                  exact hzr.2 _ c u hcj (by rw [Array.getElem?_eq_getElem hm, hu2])
                obtain ⟨zs, f1, f2⟩ := fillD_rel hev _ parts.toList ps _ _ cs hps hbase hcs
                have hcl : cs.length = n * te.size := by rw [fillD_len _ _ _ _ hcs, hflen]
                obtain ⟨s1, s2⟩ := newRow_stp hI zs e
                have hrun : (Instr.buildSlice t n (parts.map fun (i, x) => (i, a.eval x))).run P w = .ok (.slice (some ⟨w.heap.size, 0, none⟩) n n) (w.alloc (.cells zs e)) := by
                  have hn : ¬ (n * te.size > 2 ^ 24) := by omega
                  simp only [Instr.buildSlice, Sem.run_bind, run_underlying hu, Result.andThen_ok, hT.sz he, hn, if_false]
                  by_cases h0 : n * te.size = 0
                  · have := hZ0 h0; subst this
                    rw [if_pos h0]
                    simp only [Sem.run_bind, Sem.run_pure, Result.andThen_ok, hparts, f1]
                    rfl
                  · have := hZs h0; subst this
                    rw [if_neg h0]
                    simp only [Sem.run_bind, Sem.run_pure, Result.andThen_ok, hT.zr he, hparts, f1]
                    rfl
                split at h
                · rename_i vs hvs
                  obtain ⟨u1, u2⟩ := unps_rel (G := G) (w := w) cs vs hvs
                  obtain ⟨k1, k2, k3⟩ := chunk_at te.size n vs (by rw [u1, hcl])
                  refine ⟨_, _, _, _, _, hrun, s1, s2, .p _ _ ?_, h⟩
                  have hr := row_rel (C := (G.with w.heap.size).com) (w := w.alloc (.cells zs e)) w.heap.size zs e (0, 0) (heap_alloc_new w _) (fun o => .inr rfl) true (chunk te.size n vs) te.size n (by rw [k1]; exact Nat.le_refl _)
                    (by have := Nat.le_mul_of_pos_right n hc3; unfold maxLen; omega) (fun _ => k1.symm) k2 (fun i k e' c he' hc' => ?_)
                  · rw [k1] at hr; exact hr
                  · have hv := k3 i k e' c he' hc'
                    obtain ⟨d, hd', hun⟩ := u2 _ c hv
                    have hlt : i * te.size + k < zs.size := by rw [f2.1]; exact (List.getElem?_eq_some_iff.1 hd').1
                    obtain ⟨o1, o2⟩ := f2.2 _ d zs[i * te.size + k] hd' (Array.getElem?_eq_getElem hlt)
                    exact ⟨_, Array.getElem?_eq_getElem hlt, o1, (unp_rel o2 hun).mono s1.ext.size s1.ext.com⟩
                · split at h
                  · rename_i h1
                    have hcn : n = cs.length := by rw [hcl, h1, Nat.mul_one]
                    have hg : ∀ (i : Nat) d, cs[i]? = some d → ∃ u, zs[i]? = some u ∧ u.oneCell' = true ∧ DRel G w d u := fun i d hd => by
                      have hlt : i < zs.size := by rw [f2.1]; exact (List.getElem?_eq_some_iff.1 hd).1
                      obtain ⟨o1, o2⟩ := f2.2 _ d zs[i] hd (Array.getElem?_eq_getElem hlt)
                      exact ⟨_, Array.getElem?_eq_getElem hlt, o1, o2⟩
                    refine ⟨_, _, _, _, _, hrun, s1, s2, ?_, h⟩
                    rw [hcn]
                    refine .sf cs w.heap.size (fun i => zs.getD i undef) (fun i d hd => ?_) (fun i d hd => ?_)
                    · obtain ⟨u, g1, g2, g3⟩ := hg i d hd
                      have e1 : zs.getD i undef = u := by simp [Array.getD_eq_getD_getElem?, g1]
                      refine ⟨.inr rfl, ?_, by rw [e1]; exact g2⟩
                      have hc := cell_of_row (w.alloc (.cells zs e)) w.heap.size i zs e (0, 0) (heap_alloc_new w _)
                      rw [e1, hc]; exact g1
                    · obtain ⟨u, g1, g2, g3⟩ := hg i d hd
                      have e1 : zs.getD i undef = u := by simp [Array.getD_eq_getD_getElem?, g1]
                      rw [e1]; exact g3.mono s1
                  · exact h.elim
              · exact h.elim
            · exact h.elim
          · exact h.elim
        · exact h.elim
      · exact h.elim
    · exact h.elim
  · exact h.elim
end
end Go.Proofs.YtagokkpnfceidaaDoor
end

section
namespace Go.Proofs.YtagokkpnfceidaaDoor
open Go.RowKit

section
variable {P : Program} {tb : Tbl}
/-- The cells of a slice, one behind the other. -/
theorem VRel.flat {C : Nat → Nat → Prop} {w : World} {full : Bool} {es : List (List V)} {a : Option Addr} {n cap : Nat} (h : VRel C w (.sl full es) (.slice a n cap)) (size : Nat) (hs : ∀ x ∈ es, x.length = size) (hz : 0 < size) :
    ∃ us : List Value, us.length = n * size ∧ (∀ (i k : Nat) e c, es[i]? = some e → e[k]? = some c → ∃ u, us[i * size + k]? = some u ∧ VRel C w c u) ∧ (∀ u ∈ us, u.oneCell' = true) ∧
      (n = 0 ∨ ∃ b off, a = some ⟨b, off, none⟩ ∧ ∀ (j : Nat) u, us[j]? = some u → w.cell? ⟨b, off + j, none⟩ = some u ∧ C b (off + j)) := by
  generalize hn : Value.slice a n cap = v at h
  cases h with
  | sl full es a' cap' sz b off us g1 g2 g3 g4 g5 g6 g7 g8 =>
    cases hn
    have key : ∀ j, j < es.length * size → ∃ e c, es[j / size]? = some e ∧ e[j % size]? = some c ∧ j = j / size * size + j % size := fun j hj => by
      have h1 : j / size < es.length := Nat.div_lt_of_lt_mul (by rw [Nat.mul_comm]; exact hj)
      have h2 : j % size < (es[j / size]).length := by rw [hs _ (List.getElem_mem h1)]; exact Nat.mod_lt _ hz
      exact ⟨_, _, List.getElem?_eq_getElem h1, List.getElem?_eq_getElem h2, by rw [Nat.mul_comm]; exact (Nat.div_add_mod j size).symm⟩
    have hsz : ∀ (i : Nat) e, es[i]? = some e → sz = size := fun i e he => by
      have hm := List.mem_of_getElem? he
      rw [← g4 e hm, hs e hm]
    refine ⟨(List.range (es.length * size)).map us, by simp, fun i k e c he hc => ?_, fun u hu => ?_, ?_⟩
    · have hz2 := hsz i e he
      subst hz2
      have hi := (List.getElem?_eq_some_iff.1 he).1
      have hk : k < sz := by rw [← hs e (List.mem_of_getElem? he)]; exact (List.getElem?_eq_some_iff.1 hc).1
      have hlt : i * sz + k < es.length * sz := by
        have : (i + 1) * sz ≤ es.length * sz := Nat.mul_le_mul_right _ hi
        rw [Nat.add_mul] at this; omega
      exact ⟨us (i * sz + k), by rw [List.getElem?_map, List.getElem?_range hlt]; rfl, g7 i k e c he hc⟩
    · obtain ⟨j, hj, rfl⟩ := List.mem_map.1 hu
      obtain ⟨e, c, he, hc, hj2⟩ := key j (by simpa using hj)
      have hz2 := hsz _ e he
      subst hz2
      rw [hj2]
      exact (g6 _ _ e c he hc).2.2.2
    · cases hl : es with
      | nil => exact .inl rfl
      | cons x r =>
        refine .inr ?_
        have hx : es[0]? = some x := by rw [hl]; rfl
        have hz2 := hsz 0 x hx
        subst hz2
        have hxl : 0 < x.length := by rw [hs x (List.mem_of_getElem? hx)]; exact hz
        obtain ⟨ha, -⟩ := g6 0 0 x x[0] hx (List.getElem?_eq_getElem hxl)
        refine ⟨b, off, ha, fun j u hu => ?_⟩
        have hj : j < es.length * sz := by have := (List.getElem?_eq_some_iff.1 hu).1; simpa [hl] using this
        obtain ⟨e, c, he, hc, hj2⟩ := key j hj
        obtain ⟨-, p2, p3, -⟩ := g6 _ _ e c he hc
        rw [List.getElem?_map, List.getElem?_range (by rw [← hl]; exact hj)] at hu
        cases hu
        have e2 : off + j = off + j / sz * sz + j % sz := by omega
        rw [← hj2] at p3
        rw [e2]
        exact ⟨p3, p2⟩

/-- What an append of something leaves: block g holds the old cells and the new ones; g is new, or the row that could grow. -/
structure Grown (w w' : World) (e : TypeId) (size N : Nat) (cells : List Value) (g cap : Nat) (own : Option Nat) : Prop where
  os : w'.os = w.os
  tape : w'.tape = w.tape
  output : w'.output = w.output
  size_le : w.heap.size ≤ w'.heap.size
  row : ∃ cur : Array Value, w'.heap[g]? = some (.cells cur e (0, 0)) ∧ cur.size = cap * size ∧ cur.toList.take (N * size) = cells
  fits : N ≤ cap
  max : cap ≤ maxLen
  old : ∀ k, k < w.heap.size → k ≠ g → w'.heap[k]? = w.heap[k]?
  which : g = w.heap.size ∨ own = some g
  shp : ShKept w w'
theorem setRow_shp {w : World} {b : Nat} {us vs : Array Value} {ty : TypeId} {fr : Nat × Nat} (h : w.heap[b]? = some (.cells us ty fr)) (hs : vs.size = us.size) : ShKept w (w.setRow b vs) := fun k sh hk => by
  by_cases hkb : k = b
  · subst hkb
    rw [shape_of h] at hk
    rw [shape_of (setRow_heap w k us vs ty fr h), hs]; exact hk
  · rw [shape_eq (setRow_other w b k vs hkb)]; exact hk

theorem grow_new (w : World) (e : TypeId) (size n m old : Nat) (z : Value) (hz : z.cells.size = size) (olds news : List Value) (hl : olds.length = n * size) (hm : news.length = m * size) (hb : n + m ≤ maxLen) (own : Option Nat) :
    Grown w (w.drew.alloc (.cells (olds.toArray ++ news.toArray ++ Builtin.zeroCells z.cells (grownCap w (n + m) old e - (n + m))) e)) e size (n + m) (olds ++ news) w.heap.size (grownCap w (n + m) old e) own := by
  have hge := grownCap_ge w (n + m) old e
  refine ⟨rfl, rfl, rfl, by simp, ⟨_, heap_alloc_new w.drew _, ?_, ?_⟩, hge, grownCap_le_maxLen w _ old e hb, fun k hk _ => Below.heap_alloc w.drew _ k hk, .inl rfl, shAlloc w.drew _⟩
  · simp only [Array.size_append, List.size_toArray, size_zeroCells, hz, hl, hm, ← Nat.add_mul]
    congr 1
    omega
  · simp only [Array.toList_append, List.append_assoc]
    rw [← List.append_assoc, show (n + m) * size = (olds ++ news).length by rw [List.length_append, hl, hm, Nat.add_mul]]
    exact List.take_left
theorem append_run (hT : TblOk P tb) (w : World) {t e : Nat} (ty : TypeId) {ti te : TI} (ht : tb.lookup t = some ti) (hd : ti.d = .slice e) (he : tb.lookup e = some te) (hz : te.zero.cells.size = te.size)
    (a : Option Addr) (n cap : Nat) (olds : List Value) (hol : olds.length = n * te.size) (hold : n = 0 ∨ ∃ b off, a = some ⟨b, off, none⟩ ∧ ∀ (j : Nat) u, olds[j]? = some u → w.cell? ⟨b, off + j, none⟩ = some u)
    (ha : a = none → cap = 0) (hncap : n ≤ cap) (hcap : cap ≤ maxLen)
    (own : Option Nat) (hown : cap = n ∨ ∃ (b : Nat) (us : Array Value), a = some ⟨b, 0, none⟩ ∧ own = some b ∧ w.heap[b]? = some (.cells us e (0, 0)) ∧ us.size = cap * te.size)
    (b' off' m c : Nat) (news : List Value) (hnl : news.length = m * te.size) (hnew : ∀ (j : Nat) u, news[j]? = some u → w.cell? ⟨b', off' + j, none⟩ = some u) (h1 : ∀ u ∈ news, u.oneCell' = true)
    (hm : 0 < m) (hmax : n + m ≤ maxLen) (hbytes : (n + m) * te.bytes ≤ 140737488355328) :
    ∃ g cap' w', (Builtin.append_ #[t, t] ty #[.slice a n cap, .slice (some ⟨b', off', none⟩) m c]).run P w = .ok (.slice (some ⟨g, 0, none⟩) (n + m) cap') w' ∧ Grown w w' e te.size (n + m) (olds ++ news) g cap' own := by
  obtain ⟨_, i, i1, i2, i3, i4, _⟩ := hT e te he
  have hu := hT.und ht
  rw [hd] at hu
  have hnew' : ∀ (j : Nat) u, news[j]? = some u → w.cell? ((⟨b', off', none⟩ : Addr).add j) = some u := fun j u hj => by rw [addAt]; exact hnew j u hj
  have h63 : ((n + m : Nat) : Int) ≤ 9223372036854775807 := by unfold maxLen at hmax; omega
  by_cases hroom : n + m ≤ cap
  · rcases hown with hc | ⟨b, us, rfl, rfl, hb, hus⟩
    · omega
    · have hfit : n * i.size + news.length ≤ us.size := by rw [hnl, hus, i2, ← Nat.add_mul]; exact Nat.mul_le_mul_right _ hroom
      have hr := run_append_room (P := P) w t ty e i hu i1 b n cap us hb ⟨b', off', none⟩ m c news (by rw [i2]; exact hnl) hnew' h1 hroom hfit
      have hol2 : us.toList.take (n * te.size) = olds := by
        apply List.ext_getElem?
        intro j
        rw [List.getElem?_take]
        split
        · rename_i hj
          rcases hold with h0 | ⟨b2, off2, h2, h3⟩
          · subst h0; simp at hj
          · cases h2
            have hj2 : j < olds.length := by omega
            have := h3 j olds[j] (List.getElem?_eq_getElem hj2)
            rw [cell_of_row w b _ us e (0, 0) hb, Nat.zero_add] at this
            rw [List.getElem?_eq_getElem hj2, ← this]; simp
        · rename_i hj
          rw [List.getElem?_eq_none (by omega)]
      refine ⟨b, cap, _, hr, rfl, rfl, rfl, by simp [World.setRow], ⟨_, setRow_heap w b us _ e _ hb, ?_, ?_⟩, hroom, hcap, fun k _ hk => setRow_other w b k _ hk, .inr rfl, setRow_shp hb ?_⟩
      rotate_right
      · simp only [List.size_toArray, List.length_append, List.length_take, List.length_drop, Array.length_toList]; omega
      · simp only [List.size_toArray, List.length_append, List.length_take, List.length_drop, Array.length_toList]
        omega
      · rw [i2, hol2]
        rw [show (n + m) * te.size = (olds ++ news).length by rw [List.length_append, hol, hnl, Nat.add_mul]]
        exact List.take_left
  · have hfits := growslice_fits (need := n + m) (old := cap) (bytes := i.bytes) (by omega) (by rw [i3]; exact hbytes)
    cases a with
    | none =>
      have hc0 := ha rfl
      have hn0 : n = 0 := by omega
      subst hn0; subst hc0
      have hol0 : olds = [] := List.eq_nil_of_length_eq_zero (by simpa using hol)
      subst hol0
      have hr := run_append_nil (P := P) w t ty e i te.zero hu i1 i4 ⟨b', off', none⟩ m c news (by rw [i2]; exact hnl) hnew' hm (by unfold maxLen at hmax; omega) (by rw [i3]; rw [Nat.zero_add] at hbytes; omega)
      have hg := grow_new w e te.size 0 m 0 te.zero hz [] news (by simp) hnl hmax own
      simp only [Nat.zero_add, List.nil_append, Array.empty_append] at hg ⊢
      exact ⟨_, _, _, hr, hg⟩
    | some ad =>
      have holds : ∀ (j : Nat) v, olds[j]? = some v → w.cell? (ad.add j) = some v := fun j v hj => by
        rcases hold with h0 | ⟨b2, off2, h2, h3⟩
        · subst h0
          have : olds = [] := List.eq_nil_of_length_eq_zero (by simpa using hol)
          subst this; simp at hj
        · cases h2; rw [addAt]; exact h3 j v hj
      have hr := run_append_grow (P := P) w t ty e i te.zero hu i1 i4 ad n cap olds (by rw [i2]; exact hol) holds ⟨b', off', none⟩ m c news (by rw [i2]; exact hnl) hnew' (by omega) h63 hfits
      exact ⟨_, _, _, hr, grow_new w e te.size n m cap te.zero hz olds news hol hnl hmax own⟩

/-- The ghost behind an append by token t. -/
def Gh.grow (G : Gh) (t g N size : Nat) : Gh :=
  { com := fun b o => G.com b o ∨ (b = g ∧ o < N * size), name := G.name, tok := G.tok.set t ⟨N, some g, N * size, none⟩ }
theorem grow_stp {G : Gh} {s : S} {w w' : World} (hI : Inv G s w) {t : Nat} {T : Tok} (hT : G.tok[t]? = some T) {e size n m g cap : Nat} {cells : List Value} (hG : Grown w w' e size (n + m) cells g cap T.blk) (hp : T.pro = none) (hn : T.len = n) (hm : 0 < m)
    (hc : T.blk = some g → T.cells = n * size) (hcl : cells.length = (n + m) * size)
    (hold : T.blk = some g → ∀ j u, j < n * size → cells[j]? = some u → w.cell? ⟨g, j, none⟩ = some u) :
    Stp G w (G.grow t g (n + m) size) w' ∧ Inv (G.grow t g (n + m) size) { s with live := s.live.set t (n + m) } w' := by
  have hTm : T ∈ G.tok := List.mem_of_getElem? hT
  obtain ⟨cur, r1, r2, r3⟩ := hG.row
  have hgn : g ∉ G.name := fun hm => by
    rcases hG.which with h | h
    · have := name_lt hI g hm; omega
    · exact (hI.tok t T g hT (.inl h)).2.1 hm
  have hg' : g < w'.heap.size := (Array.getElem?_eq_some_iff.1 r1).1
  have hgt : ∀ (t' : Nat) T', G.tok[t']? = some T' → T'.has g → t' = t := fun t' T' h1 h2 => by
    rcases hG.which with h | h
    · have := (hI.tok t' T' g h1 h2).1; omega
    · exact (hI.tok t T g hT (.inl h)).2.2 t' T' h1 h2
  have hlt : t < G.tok.length := (List.getElem?_eq_some_iff.1 hT).1
  have hlive : G.tok.map (·.len) = s.live := hI.live
  have hst : Stp G w (G.grow t g (n + m) size) w' := by
    refine ⟨⟨hG.os, hG.tape, hG.output, hG.size_le, fun b o u h hu => ⟨.inl h, ?_⟩, fun b h1 h2 h3 => ?_, fun b o h => ?_, fun b h => ?_, fun _ _ h => .inl h, hG.shp⟩, fun nm b h => h, fun t' T' h => ?_⟩
    · have hb := hI.com b o h
      by_cases hbg : b = g
      · subst hbg
        rcases hG.which with h1 | h1
        · omega
        · have ho := (hb.2.2 T hTm).1 h1
          rw [hc h1] at ho
          have hoc : o < cells.length := by rw [hcl, Nat.add_mul]; omega
          have h2 := hold h1 o cells[o] ho (List.getElem?_eq_getElem hoc)
          rw [hu] at h2
          rw [cell_of_row w' b o cur e (0, 0) r1]
          have h3 : cells[o]? = some u := by rw [List.getElem?_eq_getElem hoc]; exact h2.symm
          rw [← r3, List.getElem?_take] at h3
          split at h3
          · simpa using h3
          · cases h3
      · rw [World.cell?_of_block (w := w) (hG.old b hb.1 hbg)]; exact hu
    · refine hG.old b h1 fun e => ?_
      subst e
      rcases hG.which with h | h
      · omega
      · exact h3 T hTm (.inl h)
    · rcases h with h | ⟨rfl, -⟩
      · exact .inl h
      · rcases hG.which with h | h
        · exact .inr (.inl (by omega))
        · exact .inr (.inr (.inr ⟨T, hTm, .inl h⟩))
    · rcases h with h | ⟨T', hT', hb⟩
      · exact .inr (.inl h)
      · have hT' : T' ∈ G.tok.set t ⟨n + m, some g, (n + m) * size, none⟩ := hT'
        rcases List.mem_or_eq_of_mem_set hT' with h | h
        · exact .inr (.inr ⟨T', h, hb⟩)
        · subst h
          have hb := Tok.has_row.1 hb
          cases hb
          rcases hG.which with h | h
          · exact .inl (by omega)
          · exact .inr (.inr ⟨T, hTm, .inl h⟩)
    · by_cases htt : t' = t
      · subst htt
        rw [hT] at h
        cases h
        exact ⟨⟨n + m, some g, (n + m) * size, none⟩, List.getElem?_set_self hlt, ⟨by simp only; omega, by simp [hp]⟩, fun e => by simp only at e; omega⟩
      · refine ⟨T', ?_, .refl T', fun _ => ⟨rfl, fun b hb => hG.old b (hI.tok t' T' b h hb).1 fun e => htt (hgt t' T' h (e ▸ hb))⟩⟩
        show (G.tok.set t _)[t']? = _
        rw [List.getElem?_set_ne (fun e => htt e.symm)]; exact h
  refine ⟨hst, ⟨fun b o h => ?_, hI.names, hI.nodup, fun i b cs hb hcs => ?_, ?_, fun t' T' b h hb => ?_, fun T' hT' => ?_, hI.glob.mono hst.ext.com⟩⟩
  rotate_right
  · have hT' : T' ∈ G.tok.set t ⟨n + m, some g, (n + m) * size, none⟩ := hT'
    obtain ⟨i, hi⟩ := List.getElem?_of_mem hT'
    by_cases hit : t = i
    · subst hit
      rw [List.getElem?_set_self hlt] at hi
      cases hi
      exact ⟨fun q hq => (nomatch hq), fun b o ⟨q, hq, _⟩ => (nomatch hq)⟩
    · rw [List.getElem?_set_ne hit] at hi
      have hm := List.mem_of_getElem? hi
      exact ⟨Tok.ok_ext (hI.pro T' hm) hst.ext fun b hb => hG.old b (hI.tok i T' b hi hb).1 fun e => hit (hgt i T' hi (e ▸ hb)).symm, fun b o hr => .inl ((hI.pro T' hm).2 b o hr)⟩
  · have htok : ∀ T' ∈ G.tok.set t ⟨n + m, some g, (n + m) * size, none⟩, T'.may b o := fun T' hT' => by
      rcases List.mem_or_eq_of_mem_set hT' with h' | h'
      · rcases h with h | ⟨rfl, h⟩
        · exact (hI.com b o h).2.2 T' h'
        · have key : T'.has b → T'.may b o := fun hb => by
            obtain ⟨t', ht'⟩ := List.getElem?_of_mem h'
            have e1 := hgt t' T' ht' hb
            subst e1
            rw [hT] at ht'
            cases ht'
            rcases List.getElem?_of_mem hT' with ⟨i, hi⟩
            by_cases hit : t' = i
            · subst hit
              rw [List.getElem?_set_self hlt] at hi
              cases hi; exact Tok.may_row.2 fun _ => h
            · rw [List.getElem?_set_ne hit] at hi
              exact absurd (hgt i T hi hb).symm hit
          exact ⟨fun hb => (key (.inl hb)).1 hb, fun hb => (key (.inr hb)).2 hb⟩
      · subst h'
        refine Tok.may_row.2 fun hb => ?_
        cases hb
        rcases h with h | ⟨-, h⟩
        · rcases hG.which with h1 | h1
          · have := (hI.com _ o h).1; omega
          · have ho := ((hI.com _ o h).2.2 T hTm).1 h1
            rw [hc h1] at ho
            show o < (n + m) * size
            rw [Nat.add_mul]; omega
        · exact h
    rcases h with h | ⟨rfl, h⟩
    · obtain ⟨h1, h2, -⟩ := hI.com b o h
      exact ⟨Nat.lt_of_lt_of_le h1 hG.size_le, h2, htok⟩
    · exact ⟨hg', hgn, htok⟩
  · have hbn : b ∈ G.name := List.mem_of_getElem? hb
    exact (hI.var i b cs hb hcs).mono hst (by rw [hG.old b (name_lt hI b hbn) fun e => hgn (e ▸ hbn)])
  · show (G.tok.set t _).map (·.len) = s.live.set t (n + m)
    rw [List.map_set, hlive]
  · have h : (G.tok.set t ⟨n + m, some g, (n + m) * size, none⟩)[t']? = some T' := h
    have hb2 : b < w'.heap.size ∧ b ∉ G.name ∧ (b = g ∨ ∃ T'', G.tok[t']? = some T'' ∧ T''.has b) ∧ (t' = t → b = g) := by
      by_cases htt : t' = t
      · subst htt
        rw [List.getElem?_set_self hlt] at h
        cases h
        have hb := Tok.has_row.1 hb
        cases hb
        exact ⟨hg', hgn, .inl rfl, fun _ => rfl⟩
      · rw [List.getElem?_set_ne (fun e => htt e.symm)] at h
        obtain ⟨h1, h2, -⟩ := hI.tok t' T' b h hb
        exact ⟨Nat.lt_of_lt_of_le h1 hG.size_le, h2, .inr ⟨T', h, hb⟩, fun e => absurd e htt⟩
    refine ⟨hb2.1, hb2.2.1, fun t'' T'' h0 hb'' => ?_⟩
    have h'' : (G.tok.set t ⟨n + m, some g, (n + m) * size, none⟩)[t'']? = some T'' := h0
    clear h0
    by_cases h1 : t'' = t
    · subst h1
      rw [List.getElem?_set_self hlt] at h''
      cases h''
      have hb'' := Tok.has_row.1 hb''
      cases hb''
      by_cases h2 : t' = t''
      · exact h2.symm
      · rw [List.getElem?_set_ne (fun e => h2 e.symm)] at h
        exact absurd (hgt t' T' h hb) h2
    · rw [List.getElem?_set_ne (fun e => h1 e.symm)] at h''
      by_cases h2 : t' = t
      · have := hb2.2.2.2 h2
        subst this
        exact absurd (hgt t'' T'' h'' hb'') h1
      · rw [List.getElem?_set_ne (fun e => h2 e.symm)] at h
        exact (hI.tok t' T' b h hb).2.2 t'' T'' h'' hb''

theorem row_rel2 {C : Nat → Nat → Prop} {w : World} (b : Nat) (arr : Array Value) (ty : TypeId) (fr : Nat × Nat) (hb : w.heap[b]? = some (.cells arr ty fr)) (es : List (List V)) (size cap : Nat) (hC : ∀ o, o < es.length * size → C b o) (full : Bool)
    (h1 : es.length ≤ cap) (h2 : cap ≤ maxLen) (h3 : full = true → cap = es.length) (h4 : ∀ e ∈ es, e.length = size)
    (h : ∀ (i k : Nat) e c, es[i]? = some e → e[k]? = some c → ∃ u, arr[i * size + k]? = some u ∧ u.oneCell' = true ∧ VRel C w c u) : VRel C w (.sl full es) (.slice (some ⟨b, 0, none⟩) es.length cap) := by
  refine .sl full es _ cap size b 0 (fun j => arr.getD j undef) h1 h2 h3 h4 (fun h => by cases h) (fun i k e c he hc => ?_) (fun i k e c he hc => ?_) (fun _ ad had => by cases had; exact (Array.getElem?_eq_some_iff.1 hb).1)
  · obtain ⟨u, hu, ho, _⟩ := h i k e c he hc
    have hg : arr.getD (i * size + k) undef = u := by simp [Array.getD_eq_getD_getElem?, hu]
    have hi := (List.getElem?_eq_some_iff.1 he).1
    have hk : k < size := by rw [← h4 e (List.mem_of_getElem? he)]; exact (List.getElem?_eq_some_iff.1 hc).1
    have hlt : i * size + k < es.length * size := by
      have : (i + 1) * size ≤ es.length * size := Nat.mul_le_mul_right _ hi
      rw [Nat.add_mul] at this; omega
    refine ⟨rfl, by rw [Nat.zero_add]; exact hC _ hlt, ?_, ?_⟩
    · rw [cell_of_row w b _ arr ty fr hb, Nat.zero_add, hg, hu]
    · rw [hg]; exact ho
  · obtain ⟨u, hu, _, hv⟩ := h i k e c he hc
    have hg : arr.getD (i * size + k) undef = u := by simp [Array.getD_eq_getD_getElem?, hu]
    show VRel C w c (arr.getD (i * size + k) undef)
    rw [hg]; exact hv
theorem addTok_stp {G : Gh} {s : S} {w : World} (hI : Inv G s w) (n : Nat) : Stp G w { G with tok := G.tok ++ [⟨n, none, 0, none⟩] } w ∧ Inv { G with tok := G.tok ++ [⟨n, none, 0, none⟩] } { s with live := s.live ++ [n] } w := by
  have key : ∀ (t : Nat) T, G.tok[t]? = some T → (G.tok ++ [⟨n, none, 0, none⟩])[t]? = some T := fun t T h => by
    rw [List.getElem?_append_left (List.getElem?_eq_some_iff.1 h).1]; exact h
  have back : ∀ (t : Nat) T b, (G.tok ++ [⟨n, none, 0, none⟩])[t]? = some T → T.has b → G.tok[t]? = some T := fun t T b h hb => by
    by_cases ht : t < G.tok.length
    · rw [List.getElem?_append_left ht] at h; exact h
    · rw [List.getElem?_append_right (by omega)] at h
      have h2 : T ∈ [(⟨n, none, 0, none⟩ : Tok)] := List.mem_of_getElem? h
      simp at h2
      subst h2
      have hb := Tok.has_row.1 hb
      cases hb
  have hst : Stp G w { G with tok := G.tok ++ [⟨n, none, 0, none⟩] } w := by
    refine ⟨⟨rfl, rfl, rfl, Nat.le_refl _, fun _ _ _ h k => ⟨h, k⟩, fun _ _ _ _ => rfl, fun _ _ h => .inl h, fun b h => ?_, fun _ _ h => h, .refl w⟩, fun _ _ h => h, fun t T h => ⟨T, key t T h, .refl T, fun _ => ⟨rfl, fun _ _ => rfl⟩⟩⟩
    rcases h with h | ⟨T, hT, hb⟩
    · exact .inr (.inl h)
    · obtain ⟨t, ht⟩ := List.getElem?_of_mem hT
      exact .inr (.inr ⟨T, List.mem_of_getElem? (back t T b ht hb), hb⟩)
  refine ⟨hst, ⟨fun b o h => ?_, hI.names, hI.nodup, fun i b cs hb hcs => ?_, by simp [hI.live], fun t T b h hb => ?_, fun T hT => ?_, hI.glob.mono hst.ext.com⟩⟩
  rotate_right
  · obtain ⟨t, ht⟩ := List.getElem?_of_mem hT
    have ht : (G.tok ++ [⟨n, none, 0, none⟩])[t]? = some T := ht
    by_cases hl : t < G.tok.length
    · rw [List.getElem?_append_left hl] at ht
      exact hI.pro T (List.mem_of_getElem? ht)
    · rw [List.getElem?_append_right (by omega)] at ht
      have h2 : T ∈ [(⟨n, none, 0, none⟩ : Tok)] := List.mem_of_getElem? ht
      simp at h2
      subst h2
      exact ⟨fun q hq => (nomatch hq), fun b o ⟨q, hq, _⟩ => (nomatch hq)⟩
  · obtain ⟨h1, h2, h3⟩ := hI.com b o h
    refine ⟨h1, h2, fun T hT => ?_⟩
    obtain ⟨t, ht⟩ := List.getElem?_of_mem hT
    exact ⟨fun hb => (h3 T (List.mem_of_getElem? (back t T b ht (.inl hb)))).1 hb, fun hb => (h3 T (List.mem_of_getElem? (back t T b ht (.inr hb)))).2 hb⟩
  · exact (hI.var i b cs hb hcs).mono hst rfl
  · obtain ⟨h1, h2, h3⟩ := hI.tok t T b (back t T b h hb) hb
    exact ⟨h1, h2, fun t' T' h' hb' => h3 t' T' (back t' T' b h' hb') hb'⟩
def aApp (tb : Tbl) (t : Nat) (x y : D) (s : S) (K : D → S → Prop) : Prop :=
  match tb.lookup t, unp y with
  | some ti, some (.sl _ fs) => match ti.d with
    | .slice e => match tb.lookup e with
      | some te => if te.zero.cells.size = te.size ∧ 0 < te.size ∧ e < 1000000 then
        match x with
        | .own tk e' sz es => if (e' = e ∨ e' = e + 1000000) ∧ sz = te.size then s.live[tk]? = some es.length ∧ ((∀ x ∈ fs, x.length = te.size) ∧ (es.length + fs.length) * te.bytes ≤ 140737488355328 ∧ es.length + fs.length ≤ 9223372036854775807) ∧
            K (.own tk e' te.size (es ++ fs)) { s with live := s.live.set tk (es ++ fs).length } else False
        | .p (.sl true es) => (es.length = 0 ∨ 0 < fs.length) ∧ (∀ x ∈ es, x.length = te.size) ∧ ((∀ x ∈ fs, x.length = te.size) ∧ (es.length + fs.length) * te.bytes ≤ 140737488355328 ∧ es.length + fs.length ≤ 9223372036854775807) ∧
            K (.own s.live.length e te.size (es ++ fs)) { s with live := s.live ++ [(es ++ fs).length] }
        | _ => False
        else False
      | none => False
    | _ => False
  | _, _ => False
theorem run_append_zero (hT : TblOk P tb) (w : World) {t e : Nat} (ty : TypeId) {ti te : TI} (ht : tb.lookup t = some ti) (hd : ti.d = .slice e) (he : tb.lookup e = some te) (a : Option Addr) (n cap : Nat) (hn : n ≤ cap) (b : Option Addr) (c : Nat) :
    (Builtin.append_ #[t, t] ty #[.slice a n cap, .slice b 0 c]).run P w = .ok (.slice a n cap) w := by
  have hu := hT.und ht
  rw [hd] at hu
  have hf : (Builtin.firstCells te.size 0 (.slice b 0 c)).run P w = .ok #[] w := by
    cases b with
    | none => simp [Builtin.firstCells]
    | some b => simp [Builtin.firstCells, loadCells, loadCellsFrom]
  cases a with
  | none => simp [Builtin.append_, run_underlying hu, hT.sz he, Builtin.lenOf, hn, hf]
  | some a => simp [Builtin.append_, run_underlying hu, hT.sz he, Builtin.lenOf, hn, hf, storeCells]
/-- The append by a token. -/
theorem app_own_core (hT : TblOk P tb) {G : Gh} {w : World} {s : S} (hI : Inv G s w) {K : D → S → Prop} {t e : Nat} (ty : TypeId) {ti te : TI} (ht : tb.lookup t = some ti) (hd : ti.d = .slice e) (he : tb.lookup e = some te) (hz : te.zero.cells.size = te.size) (hz0 : 0 < te.size)
    {tk : Nat} {es fs : List (List V)} {full : Bool} {v : Value} {a : Option Addr} {cap : Nat} {T : Tok} (x1 : VRel G.com w (.sl false es) (.slice a es.length cap)) (x2 : ∀ x ∈ es, x.length = te.size) (x3 : G.tok[tk]? = some T) (x0 : T.pro = none) (hlen : es.length = T.len) {em : Nat} (hem : rowTy em = e) (hO : (cap = es.length ∨ ∃ (b : Nat) (us : Array Value) (T' : Tok), a = some ⟨b, 0, none⟩ ∧ G.tok[tk]? = some T' ∧ T'.blk = some b ∧ T'.cells = es.length * te.size ∧ w.heap[b]? = some (.cells us e (0, 0)) ∧ us.size = cap * te.size)) (hcl0 : fs.length = 0 → DRel G w (.own tk em te.size es) (.slice a es.length cap)) (hy : VRel G.com w (.sl full fs) v) (hl : s.live[tk]? = some es.length) (hfs : ∀ x ∈ fs, x.length = te.size)
    (hby : (es.length + fs.length) * te.bytes ≤ 140737488355328) (hmax : es.length + fs.length ≤ 9223372036854775807) (h : K (.own tk em te.size (es ++ fs)) { s with live := s.live.set tk (es.length + fs.length) }) :
    Out P G w ((Builtin.append_ #[t, t] ty #[.slice a es.length cap, v]).run P w) K := by
  obtain ⟨a2, cap2, e2, c1, c2, -⟩ := x1.isSlice
  cases e2
  obtain ⟨ya, yc, rfl, d1, d2, -⟩ := hy.isSlice
  by_cases hm : fs.length = 0
  · have hfs0 : fs = [] := List.eq_nil_of_length_eq_zero hm
    have hcl1 := hcl0 hm
    subst hfs0
    refine ⟨_, w, G, _, s, run_append_zero hT w ty ht hd he a es.length cap c1 ya yc, .refl G w, hI, hcl1, ?_⟩
    have e1 : s.live.set tk es.length = s.live := List.ext_getElem? fun i => by
      by_cases hi : tk = i
      · subst hi
        rw [List.getElem?_set_self (List.getElem?_eq_some_iff.1 hl).1, hl]
      · rw [List.getElem?_set_ne hi]
    simpa [e1] using h
  · obtain ⟨olds, o1, o2, o3, o4⟩ := x1.flat te.size x2 hz0
    obtain ⟨news, n1, n2, n3, n4⟩ := hy.flat te.size hfs hz0
    rcases n4 with n4 | ⟨b', off', rfl, n4⟩
    · exact absurd n4 hm
    have ha : a = none → cap = 0 := fun h0 => by
      cases x1 with
      | sl _ _ _ _ _ _ _ _ _ _ _ _ g5 => exact g5 h0
    obtain ⟨own, hown, hT1, hT2⟩ : ∃ own : Option Nat, (cap = es.length ∨ ∃ (b : Nat) (us : Array Value), a = some ⟨b, 0, none⟩ ∧ own = some b ∧ w.heap[b]? = some (.cells us e (0, 0)) ∧ us.size = cap * te.size) ∧
        (∀ g, own = some g → T.blk = some g ∧ T.cells = es.length * te.size ∧ a = some ⟨g, 0, none⟩) ∧ True := by
      rcases hO with h0 | ⟨b, us, T', e1, e2, e3, e4, e5, e6⟩
      · exact ⟨none, .inl h0, (fun g hg => by cases hg), trivial⟩
      · rw [x3] at e2
        cases e2
        exact ⟨some b, .inr ⟨b, us, e1, rfl, e5, e6⟩, (fun g hg => by cases hg; exact ⟨e3, e4, e1⟩), trivial⟩
    obtain ⟨g, cap', w', hr, hG⟩ := append_run hT w ty ht hd he hz a es.length cap olds o1 (o4.imp id fun ⟨b, off, q1, q2⟩ => ⟨b, off, q1, fun j u hj => (q2 j u hj).1⟩) ha c1 c2 own hown b' off' fs.length yc news n1 (fun j u hj => (n4 j u hj).1) n3 (by omega) (by unfold maxLen; exact hmax) hby
    have hG2 : Grown w w' e te.size (es.length + fs.length) (olds ++ news) g cap' T.blk := { hG with which := hG.which.imp id fun h0 => (hT1 g h0).1 }
    have hcl : (olds ++ news).length = (es.length + fs.length) * te.size := by rw [List.length_append, o1, n1, Nat.add_mul]
    have hne : T.blk = some g → own = some g := fun h0 => by
      rcases hG.which with h1 | h1
      · have := (hI.tok tk T g x3 (.inl h0)).1; omega
      · exact h1
    obtain ⟨s1, s2⟩ := grow_stp hI x3 hG2 x0 hlen.symm (by omega) (fun h0 => (hT1 g (hne h0)).2.1) hcl (fun h0 j u hj hu => by
      have h1 := (hT1 g (hne h0)).2.2
      rw [List.getElem?_append_left (by rw [o1]; exact hj)] at hu
      rcases o4 with o4 | ⟨b, off, q1, q2⟩
      · rw [o4] at hj; simp at hj
      · rw [q1] at h1
        cases h1
        have := (q2 j u hu).1
        rw [Nat.zero_add] at this; exact this)
    obtain ⟨cur, r1, r2, r3⟩ := hG.row
    have hes : (es ++ fs).length = es.length + fs.length := List.length_append
    have hv : VRel (G.grow tk g (es.length + fs.length) te.size).com w' (.sl false (es ++ fs)) (.slice (some ⟨g, 0, none⟩) (es ++ fs).length cap') := by
      refine row_rel2 g cur e (0, 0) r1 (es ++ fs) te.size cap' (fun o ho => .inr ⟨rfl, by rw [hes] at ho; exact ho⟩) false (by rw [hes]; exact hG.fits) hG.max (fun h0 => by cases h0) (fun x hx => by
        rcases List.mem_append.1 hx with h0 | h0
        · exact x2 x h0
        · exact hfs x h0) (fun i k x c hx hc => ?_)
      have hcur : ∀ j u, (olds ++ news)[j]? = some u → cur[j]? = some u := fun j u hj => by
        rw [← r3, List.getElem?_take] at hj
        split at hj
        · simpa using hj
        · cases hj
      by_cases hi : i < es.length
      · rw [List.getElem?_append_left hi] at hx
        obtain ⟨u, hu, hvu⟩ := o2 i k x c hx hc
        refine ⟨u, hcur _ u ?_, o3 u (List.mem_of_getElem? hu), hvu.mono s1.ext.size s1.ext.com⟩
        rw [List.getElem?_append_left (List.getElem?_eq_some_iff.1 hu).1]; exact hu
      · rw [List.getElem?_append_right (by omega)] at hx
        obtain ⟨u, hu, hvu⟩ := n2 (i - es.length) k x c hx hc
        refine ⟨u, hcur _ u ?_, n3 u (List.mem_of_getElem? hu), hvu.mono s1.ext.size s1.ext.com⟩
        have e1 : i * te.size + k = olds.length + ((i - es.length) * te.size + k) := by
          rw [o1, ← Nat.add_assoc, ← Nat.add_mul]; congr 2; omega
        rw [e1, List.getElem?_append_right (by omega), Nat.add_sub_cancel_left]; exact hu
    have hset : (G.grow tk g (es.length + fs.length) te.size).tok[tk]? = some ⟨es.length + fs.length, some g, (es.length + fs.length) * te.size, none⟩ := List.getElem?_set_self (List.getElem?_eq_some_iff.1 x3).1
    refine ⟨_, w', _, _, _, hr, s1, s2, ?_, h⟩
    rw [hes] at hv
    refine .own tk em te.size (es ++ fs) _ _ hv (fun x hx => ?_) hset rfl (by rw [hes]; exact Nat.le_refl _) (fun _ => ?_)
    · rcases List.mem_append.1 hx with h0 | h0
      · exact x2 x h0
      · exact hfs x h0
    · rw [hes]
      exact ⟨_, cap', rfl, .inr (.inl ⟨g, cur, _, rfl, hset, rfl, rfl, by rw [hem]; exact r1, r2⟩)⟩
theorem app_own (hT : TblOk P tb) {G : Gh} {w : World} {s : S} (hI : Inv G s w) {K : D → S → Prop} {t e : Nat} (ty : TypeId) {ti te : TI} (ht : tb.lookup t = some ti) (hd : ti.d = .slice e) (he : tb.lookup e = some te) (hz : te.zero.cells.size = te.size) (hz0 : 0 < te.size)
    {tk : Nat} {es fs : List (List V)} {full : Bool} {u v : Value} {em : Nat} (hem : rowTy em = e) (hx : DRel G w (.own tk em te.size es) u) (hy : VRel G.com w (.sl full fs) v) (hl : s.live[tk]? = some es.length) (hfs : ∀ x ∈ fs, x.length = te.size)
    (hby : (es.length + fs.length) * te.bytes ≤ 140737488355328) (hmax : es.length + fs.length ≤ 9223372036854775807) (h : K (.own tk em te.size (es ++ fs)) { s with live := s.live.set tk (es.length + fs.length) }) :
    Out P G w ((Builtin.append_ #[t, t] ty #[u, v]).run P w) K := by
  cases hx with
  | own _ _ _ _ u T x1 x2 x3 x0 x4 x5 =>
    have hlen : es.length = T.len := by
      have : (G.tok.map (·.len))[tk]? = some T.len := by rw [List.getElem?_map, x3]; rfl
      rw [hI.live, hl] at this
      exact Option.some.inj this
    obtain ⟨a, cap, rfl, hO⟩ := x5 hlen
    obtain ⟨a2, cap2, e2, c1, -⟩ := x1.isSlice
    cases e2
    exact app_own_core hT hI ty ht hd he hz hz0 x1 x2 x3 x0 hlen hem (hO.elim (fun h0 => .inl (by omega)) fun h => h.elim (fun ⟨b, us, T', h1, h2, h3, h4, h5, h6⟩ => .inr ⟨b, us, T', h1, h2, h3, h4, by rw [hem] at h5; exact h5, h6⟩) fun h => .inl h.2) (fun _ => .own tk em te.size es _ T x1 x2 x3 x0 x4 x5) hy hl hfs hby hmax h
theorem aApp_sound (hT : TblOk P tb) {G : Gh} {w : World} {s : S} (hI : Inv G s w) {K : D → S → Prop} {t : Nat} (ty : TypeId) {x y : D} {u v : Value} (hx : DRel G w x u) (hy : DRel G w y v) (h : aApp tb t x y s K) :
    Out P G w ((Builtin.append_ #[t, t] ty #[u, v]).run P w) K := by
  unfold aApp at h
  split at h
  · rename_i ti full fs ht hyu
    have hy := unp_rel hy hyu
    split at h
    · rename_i e hd
      split at h
      · rename_i te he
        split at h
        · rename_i hz
          split at h
          · rename_i tk e' sz es
            split at h
            · rename_i he'
              obtain ⟨hem, rfl⟩ := he'
              have hem : rowTy e' = e := hem.elim (fun h => by subst h; exact rowTy_lt hz.2.2) fun h => by subst h; exact rowTy_add e
              obtain ⟨h1, ⟨h2, h3, h4⟩, h5⟩ := h
              rw [List.length_append] at h5
              exact app_own hT hI ty ht hd he hz.1 hz.2.1 hem hx hy h1 h2 h3 h4 h5
            · exact h.elim
          · rename_i es
            obtain ⟨h6, h1, ⟨h2, h3, h4⟩, h5⟩ := h
            rw [List.length_append] at h5
            cases hx with
            | p _ u hx =>
              obtain ⟨a, cap, rfl, c1, c2, c3, c4⟩ := hx.isSlice
              obtain ⟨s1, s2⟩ := addTok_stp hI es.length
              have hx' : VRel G.com w (.sl false es) (.slice a es.length cap) := by
                cases hx with
                | sl _ _ _ _ size b off us g1 g2 g3 g4 g5 g6 g7 g8 => exact .sl false es a cap size b off us g1 g2 (fun h => by cases h) g4 g5 g6 g7 (fun h => by cases h)
              have hlive : G.tok.length = s.live.length := by rw [← hI.live]; simp
              have htok : (G.tok ++ [(⟨es.length, none, 0, none⟩ : Tok)])[s.live.length]? = some ⟨es.length, none, 0, none⟩ := by rw [← hlive]; exact List.getElem?_concat_length
              have hd' : es.length = 0 → DRel { G with tok := G.tok ++ [⟨es.length, none, 0, none⟩] } w (.own s.live.length e te.size es) (.slice a es.length cap) := fun h0 =>
                .own _ _ _ _ _ ⟨es.length, none, 0, none⟩ hx' h1 htok rfl (Nat.le_refl _) (fun _ => ⟨a, cap, rfl, .inl ⟨by rw [c3 rfl]; exact h0, c4 rfl⟩⟩)
              obtain ⟨r, w', G', d, s', r1, r2, r3, r4, r5⟩ := app_own_core (K := K) (T := ⟨es.length, none, 0, none⟩) hT s2 ty ht hd he hz.1 hz.2.1 hx' h1 htok rfl rfl (rowTy_lt hz.2.2) (.inl (c3 rfl)) (fun h0 => hd' (h6.elim id fun h7 => by omega)) (hy.mono s1.ext.size s1.ext.com) List.getElem?_concat_length h2 h3 h4 (by
                have e1 : (s.live ++ [es.length]).set s.live.length (es.length + fs.length) = s.live ++ [es.length + fs.length] := by simp
                simpa only [e1] using h5)
              exact ⟨r, w', G', d, s', r1, s1.trans r2, r3, r4, r5⟩
          · exact h.elim
        · exact h.elim
      · exact h.elim
    · exact h.elim
  · exact h.elim
theorem run_append_zero_str (hT : TblOk P tb) (w : World) {t t' e : Nat} (ty : TypeId) {ti te : TI} (ht : tb.lookup t = some ti) (hd : ti.d = .slice e) (hus : P.underlying t' = some .string) (he : tb.lookup e = some te) (a : Option Addr) (n cap : Nat) (hn : n ≤ cap) (z : ByteArray) (hz : z.size = 0) :
    (Builtin.append_ #[t, t'] ty #[.slice a n cap, .string z]).run P w = .ok (.slice a n cap) w := by
  have hu := hT.und ht
  rw [hd] at hu
  have hf : (Builtin.firstCells te.size 0 (.string z)).run P w = .ok #[] w := by
    have := Lib.run_firstCells_string (P := P) w te.size z
    rw [hz] at this
    rw [this]
    have h0 : Lib.strCells z = [] := List.eq_nil_of_length_eq_zero (by rw [Lib.strCells_length]; exact hz)
    rw [h0]
  cases a with
  | none => simp [Builtin.append_, run_underlying hu, run_underlying hus, hT.sz he, Builtin.lenOf, hz, hn, hf]
  | some a => simp [Builtin.append_, run_underlying hu, run_underlying hus, hT.sz he, Builtin.lenOf, hz, hn, hf, storeCells]
theorem append_run_str (hT : TblOk P tb) (w : World) {t t' e : Nat} (ty : TypeId) {ti te : TI} (ht : tb.lookup t = some ti) (hd : ti.d = .slice e) (hus : P.underlying t' = some .string) (he : tb.lookup e = some te) (hz : te.zero.cells.size = te.size) (hs1 : te.size = 1)
    (a : Option Addr) (n cap : Nat) (olds : List Value) (hol : olds.length = n * te.size) (hold : n = 0 ∨ ∃ b off, a = some ⟨b, off, none⟩ ∧ ∀ (j : Nat) u, olds[j]? = some u → w.cell? ⟨b, off + j, none⟩ = some u)
    (ha : a = none → cap = 0) (hncap : n ≤ cap) (hcap : cap ≤ maxLen)
    (own : Option Nat) (hown : cap = n ∨ ∃ (b : Nat) (us : Array Value), a = some ⟨b, 0, none⟩ ∧ own = some b ∧ w.heap[b]? = some (.cells us e (0, 0)) ∧ us.size = cap * te.size)
    (z : ByteArray) (hm : 0 < z.size) (hmax : n + z.size ≤ maxLen) (hbytes : (n + z.size) * te.bytes ≤ 140737488355328) :
    ∃ g cap' w', (Builtin.append_ #[t, t'] ty #[.slice a n cap, .string z]).run P w = .ok (.slice (some ⟨g, 0, none⟩) (n + z.size) cap') w' ∧ Grown w w' e te.size (n + z.size) (olds ++ Lib.strCells z) g cap' own := by
  obtain ⟨_, i, i1, i2, i3, i4, _⟩ := hT e te he
  have hu := hT.und ht
  rw [hd] at hu
  have hnl : (Lib.strCells z).length = z.size * te.size := by rw [Lib.strCells_length, hs1, Nat.mul_one]
  have h63 : ((n + z.size : Nat) : Int) ≤ 9223372036854775807 := by unfold maxLen at hmax; omega
  by_cases hroom : n + z.size ≤ cap
  · rcases hown with hc | ⟨b, us, rfl, rfl, hb, hus2⟩
    · omega
    · have hr := Lib.run_append_room_string (P := P) w t t' ty e i hu hus i1 (by rw [i2]; exact hs1) b n cap us hb z hroom (by rw [hus2, hs1, Nat.mul_one]; exact hroom)
      have hol2 : us.toList.take (n * te.size) = olds := by
        apply List.ext_getElem?
        intro j
        rw [List.getElem?_take]
        split
        · rename_i hj
          rcases hold with h0 | ⟨b2, off2, h2, h3⟩
          · subst h0; simp at hj
          · cases h2
            have hj2 : j < olds.length := by omega
            have := h3 j olds[j] (List.getElem?_eq_getElem hj2)
            rw [cell_of_row w b _ us e (0, 0) hb, Nat.zero_add] at this
            rw [List.getElem?_eq_getElem hj2, ← this]; simp
        · rename_i hj
          rw [List.getElem?_eq_none (by omega)]
      rw [hs1, Nat.mul_one] at hol2
      refine ⟨b, cap, _, hr, rfl, rfl, rfl, by simp [World.setRow], ⟨_, setRow_heap w b us _ e _ hb, ?_, ?_⟩, hroom, hcap, fun k _ hk => setRow_other w b k _ hk, .inr rfl, setRow_shp hb ?_⟩
      rotate_right
      · simp only [List.size_toArray, List.length_append, List.length_take, List.length_drop, Array.length_toList, Lib.strCells_length]; rw [hus2, hs1]; omega
      · rw [hs1, Nat.mul_one] at hus2 ⊢
        simp only [List.size_toArray, List.length_append, List.length_take, List.length_drop, Array.length_toList, Lib.strCells_length]
        omega
      · rw [hol2]
        rw [show (n + z.size) * te.size = (olds ++ Lib.strCells z).length by rw [List.length_append, hol, hnl, Nat.add_mul]]
        exact List.take_left
  · have hfits := growslice_fits (need := n + z.size) (old := cap) (bytes := i.bytes) (by omega) (by rw [i3]; exact hbytes)
    cases a with
    | none =>
      have hc0 := ha rfl
      have hn0 : n = 0 := by omega
      subst hn0; subst hc0
      have hol0 : olds = [] := List.eq_nil_of_length_eq_zero (by simpa using hol)
      subst hol0
      have hr := run_append_nil_string (P := P) w t t' ty e i te.zero hu hus i1 i4 z hm (by unfold maxLen at hmax; omega) (by rw [i3]; rw [Nat.zero_add] at hbytes; omega)
      have hg := grow_new w e te.size 0 z.size 0 te.zero hz [] (Lib.strCells z) (by simp) hnl hmax own
      have hsc : z.data.map (fun b => Value.int .u8 b.toNat) = (Lib.strCells z).toArray := by
        unfold Lib.strCells
        apply Array.ext'
        simp
      rw [hsc] at hr
      simp only [Nat.zero_add, List.nil_append, Array.empty_append] at hg ⊢
      exact ⟨_, _, _, hr, hg⟩
    | some ad =>
      have holds : ∀ (j : Nat) v, olds[j]? = some v → w.cell? (ad.add j) = some v := fun j v hj => by
        rcases hold with h0 | ⟨b2, off2, h2, h3⟩
        · subst h0
          have : olds = [] := List.eq_nil_of_length_eq_zero (by simpa using hol)
          subst this; simp at hj
        · cases h2; rw [addAt]; exact h3 j v hj
      have hr := Lib.run_append_grow_string (P := P) w t t' ty e i te.zero hu hus i1 i4 ad n cap olds (by rw [i2]; exact hol) holds z (by omega) h63 hfits
      exact ⟨_, _, _, hr, grow_new w e te.size n z.size cap te.zero hz olds (Lib.strCells z) hol hnl hmax own⟩
/-- The append of a string's bytes by a token. -/
theorem app_own_str_core (hT : TblOk P tb) {G : Gh} {w : World} {s : S} (hI : Inv G s w) {K : D → S → Prop} {t t' e : Nat} (ty : TypeId) {ti te : TI} (ht : tb.lookup t = some ti) (hd : ti.d = .slice e) (hus : P.underlying t' = some .string) (hs1 : te.size = 1) (he : tb.lookup e = some te) (hz : te.zero.cells.size = te.size) (hz0 : 0 < te.size)
    {tk : Nat} {es fs : List (List V)} {z : ByteArray} (hfz : fs = (bytesOf z).map byteV) {a : Option Addr} {cap : Nat} {T : Tok} (x1 : VRel G.com w (.sl false es) (.slice a es.length cap)) (x2 : ∀ x ∈ es, x.length = te.size) (x3 : G.tok[tk]? = some T) (x0 : T.pro = none) (hlen : es.length = T.len) {em : Nat} (hem : rowTy em = e) (hO : (cap = es.length ∨ ∃ (b : Nat) (us : Array Value) (T' : Tok), a = some ⟨b, 0, none⟩ ∧ G.tok[tk]? = some T' ∧ T'.blk = some b ∧ T'.cells = es.length * te.size ∧ w.heap[b]? = some (.cells us e (0, 0)) ∧ us.size = cap * te.size)) (hcl0 : fs.length = 0 → DRel G w (.own tk em te.size es) (.slice a es.length cap)) (hl : s.live[tk]? = some es.length)
    (hby : (es.length + fs.length) * te.bytes ≤ 140737488355328) (hmax : es.length + fs.length ≤ 9223372036854775807) (h : K (.own tk em te.size (es ++ fs)) { s with live := s.live.set tk (es.length + fs.length) }) :
    Out P G w ((Builtin.append_ #[t, t'] ty #[.slice a es.length cap, .string z]).run P w) K := by
  have hflen : fs.length = z.size := by rw [hfz, List.length_map]; rfl
  have hfs : ∀ x ∈ fs, x.length = te.size := fun x hx => by
    rw [hfz] at hx
    obtain ⟨c, -, rfl⟩ := List.mem_map.1 hx
    rw [hs1]; rfl
  obtain ⟨a2, cap2, e2, c1, c2, -⟩ := x1.isSlice
  cases e2
  by_cases hm : fs.length = 0
  · have hfs0 : fs = [] := List.eq_nil_of_length_eq_zero hm
    have hcl1 := hcl0 hm
    subst hfs0
    refine ⟨_, w, G, _, s, run_append_zero_str hT w ty ht hd hus he a es.length cap c1 z (by rw [← hflen]; exact hm), .refl G w, hI, hcl1, ?_⟩
    have e1 : s.live.set tk es.length = s.live := List.ext_getElem? fun i => by
      by_cases hi : tk = i
      · subst hi
        rw [List.getElem?_set_self (List.getElem?_eq_some_iff.1 hl).1, hl]
      · rw [List.getElem?_set_ne hi]
    simpa [e1] using h
  · obtain ⟨olds, o1, o2, o3, o4⟩ := x1.flat te.size x2 hz0
    obtain ⟨news, hnews⟩ : ∃ news, news = Lib.strCells z := ⟨_, rfl⟩
    have n1 : news.length = fs.length * te.size := by rw [hnews, Lib.strCells_length, hflen, hs1, Nat.mul_one]
    have n3 : ∀ u ∈ news, u.oneCell' = true := by rw [hnews]; exact Lib.strCells_oneCell z
    have n2 : ∀ (i k : Nat) x c, fs[i]? = some x → x[k]? = some c → ∃ u, news[i * te.size + k]? = some u ∧ VRel G.com w c u := fun i k x c hx hc => by
      rw [hfz, List.getElem?_map] at hx
      obtain ⟨y, hy, rfl⟩ := Option.map_eq_some_iff.1 hx
      have hk : k = 0 := by have := (List.getElem?_eq_some_iff.1 hc).1; simpa [byteV] using this
      subst hk
      have hcv : c = .v (.int .u8 y.toNat) := by simpa [byteV] using hc.symm
      subst hcv
      refine ⟨.int .u8 y.toNat, ?_, .v _ rfl⟩
      rw [hnews, hs1, Nat.mul_one, Nat.add_zero]
      unfold Lib.strCells
      unfold bytesOf at hy
      simp only [List.getElem?_map, hy, Option.map_some]
    have ha : a = none → cap = 0 := fun h0 => by
      cases x1 with
      | sl _ _ _ _ _ _ _ _ _ _ _ _ g5 => exact g5 h0
    obtain ⟨own, hown, hT1, hT2⟩ : ∃ own : Option Nat, (cap = es.length ∨ ∃ (b : Nat) (us : Array Value), a = some ⟨b, 0, none⟩ ∧ own = some b ∧ w.heap[b]? = some (.cells us e (0, 0)) ∧ us.size = cap * te.size) ∧
        (∀ g, own = some g → T.blk = some g ∧ T.cells = es.length * te.size ∧ a = some ⟨g, 0, none⟩) ∧ True := by
      rcases hO with h0 | ⟨b, us, T', e1, e2, e3, e4, e5, e6⟩
      · exact ⟨none, .inl h0, (fun g hg => by cases hg), trivial⟩
      · rw [x3] at e2
        cases e2
        exact ⟨some b, .inr ⟨b, us, e1, rfl, e5, e6⟩, (fun g hg => by cases hg; exact ⟨e3, e4, e1⟩), trivial⟩
    obtain ⟨g, cap', w', hr, hG⟩ := append_run_str hT w ty ht hd hus he hz hs1 a es.length cap olds o1 (o4.imp id fun ⟨b, off, q1, q2⟩ => ⟨b, off, q1, fun j u hj => (q2 j u hj).1⟩) ha c1 c2 own hown z (by rw [← hflen]; omega) (by rw [← hflen]; unfold maxLen; exact hmax) (by rw [← hflen]; exact hby)
    rw [← hflen, ← hnews] at hG
    rw [← hflen] at hr
    have hG2 : Grown w w' e te.size (es.length + fs.length) (olds ++ news) g cap' T.blk := { hG with which := hG.which.imp id fun h0 => (hT1 g h0).1 }
    have hcl : (olds ++ news).length = (es.length + fs.length) * te.size := by rw [List.length_append, o1, n1, Nat.add_mul]
    have hne : T.blk = some g → own = some g := fun h0 => by
      rcases hG.which with h1 | h1
      · have := (hI.tok tk T g x3 (.inl h0)).1; omega
      · exact h1
    obtain ⟨s1, s2⟩ := grow_stp hI x3 hG2 x0 hlen.symm (by omega) (fun h0 => (hT1 g (hne h0)).2.1) hcl (fun h0 j u hj hu => by
      have h1 := (hT1 g (hne h0)).2.2
      rw [List.getElem?_append_left (by rw [o1]; exact hj)] at hu
      rcases o4 with o4 | ⟨b, off, q1, q2⟩
      · rw [o4] at hj; simp at hj
      · rw [q1] at h1
        cases h1
        have := (q2 j u hu).1
        rw [Nat.zero_add] at this; exact this)
    obtain ⟨cur, r1, r2, r3⟩ := hG.row
    have hes : (es ++ fs).length = es.length + fs.length := List.length_append
    have hv : VRel (G.grow tk g (es.length + fs.length) te.size).com w' (.sl false (es ++ fs)) (.slice (some ⟨g, 0, none⟩) (es ++ fs).length cap') := by
      refine row_rel2 g cur e (0, 0) r1 (es ++ fs) te.size cap' (fun o ho => .inr ⟨rfl, by rw [hes] at ho; exact ho⟩) false (by rw [hes]; exact hG.fits) hG.max (fun h0 => by cases h0) (fun x hx => by
        rcases List.mem_append.1 hx with h0 | h0
        · exact x2 x h0
        · exact hfs x h0) (fun i k x c hx hc => ?_)
      have hcur : ∀ j u, (olds ++ news)[j]? = some u → cur[j]? = some u := fun j u hj => by
        rw [← r3, List.getElem?_take] at hj
        split at hj
        · simpa using hj
        · cases hj
      by_cases hi : i < es.length
      · rw [List.getElem?_append_left hi] at hx
        obtain ⟨u, hu, hvu⟩ := o2 i k x c hx hc
        refine ⟨u, hcur _ u ?_, o3 u (List.mem_of_getElem? hu), hvu.mono s1.ext.size s1.ext.com⟩
        rw [List.getElem?_append_left (List.getElem?_eq_some_iff.1 hu).1]; exact hu
      · rw [List.getElem?_append_right (by omega)] at hx
        obtain ⟨u, hu, hvu⟩ := n2 (i - es.length) k x c hx hc
        refine ⟨u, hcur _ u ?_, n3 u (List.mem_of_getElem? hu), hvu.mono s1.ext.size s1.ext.com⟩
        have e1 : i * te.size + k = olds.length + ((i - es.length) * te.size + k) := by
          rw [o1, ← Nat.add_assoc, ← Nat.add_mul]; congr 2; omega
        rw [e1, List.getElem?_append_right (by omega), Nat.add_sub_cancel_left]; exact hu
    have hset : (G.grow tk g (es.length + fs.length) te.size).tok[tk]? = some ⟨es.length + fs.length, some g, (es.length + fs.length) * te.size, none⟩ := List.getElem?_set_self (List.getElem?_eq_some_iff.1 x3).1
    refine ⟨_, w', _, _, _, hr, s1, s2, ?_, h⟩
    rw [hes] at hv
    refine .own tk em te.size (es ++ fs) _ _ hv (fun x hx => ?_) hset rfl (by rw [hes]; exact Nat.le_refl _) (fun _ => ?_)
    · rcases List.mem_append.1 hx with h0 | h0
      · exact x2 x h0
      · exact hfs x h0
    · rw [hes]
      exact ⟨_, cap', rfl, .inr (.inl ⟨g, cur, _, rfl, hset, rfl, rfl, by rw [hem]; exact r1, r2⟩)⟩
theorem app_own_str (hT : TblOk P tb) {G : Gh} {w : World} {s : S} (hI : Inv G s w) {K : D → S → Prop} {t t' e : Nat} (ty : TypeId) {ti te : TI} (ht : tb.lookup t = some ti) (hd : ti.d = .slice e) (hus : P.underlying t' = some .string) (hs1 : te.size = 1) (he : tb.lookup e = some te) (hz : te.zero.cells.size = te.size) (hz0 : 0 < te.size)
    {tk : Nat} {es fs : List (List V)} {u : Value} {z : ByteArray} (hfz : fs = (bytesOf z).map byteV) {em : Nat} (hem : rowTy em = e) (hx : DRel G w (.own tk em te.size es) u) (hl : s.live[tk]? = some es.length)
    (hby : (es.length + fs.length) * te.bytes ≤ 140737488355328) (hmax : es.length + fs.length ≤ 9223372036854775807) (h : K (.own tk em te.size (es ++ fs)) { s with live := s.live.set tk (es.length + fs.length) }) :
    Out P G w ((Builtin.append_ #[t, t'] ty #[u, .string z]).run P w) K := by
  have hflen : fs.length = z.size := by rw [hfz, List.length_map]; rfl
  have hfs : ∀ x ∈ fs, x.length = te.size := fun x hx => by
    rw [hfz] at hx
    obtain ⟨c, -, rfl⟩ := List.mem_map.1 hx
    rw [hs1]; rfl
  cases hx with
  | own _ _ _ _ u T x1 x2 x3 x0 x4 x5 =>
    have hlen : es.length = T.len := by
      have : (G.tok.map (·.len))[tk]? = some T.len := by rw [List.getElem?_map, x3]; rfl
      rw [hI.live, hl] at this
      exact Option.some.inj this
    obtain ⟨a, cap, rfl, hO⟩ := x5 hlen
    obtain ⟨a2, cap2, e2, c1, -⟩ := x1.isSlice
    cases e2
    exact app_own_str_core hT hI ty ht hd hus hs1 he hz hz0 hfz x1 x2 x3 x0 hlen hem (hO.elim (fun h0 => .inl (by omega)) fun h => h.elim (fun ⟨b, us, T', h1, h2, h3, h4, h5, h6⟩ => .inr ⟨b, us, T', h1, h2, h3, h4, by rw [hem] at h5; exact h5, h6⟩) fun h => .inl h.2) (fun _ => .own tk em te.size es _ T x1 x2 x3 x0 x4 x5) hl hby hmax h
def aAppS (tb : Tbl) (t t' : Nat) (x y : D) (s : S) (K : D → S → Prop) : Prop :=
  match tb.lookup t, tb.lookup t', y with
  | some ti, some tu, .p (.v (.string z)) => match ti.d, tu.d with
    | .slice e, .string => match tb.lookup e with
      | some te => if te.zero.cells.size = te.size ∧ te.size = 1 ∧ e < 1000000 then
        match x with
        | .own tk e' sz es => if (e' = e ∨ e' = e + 1000000) ∧ sz = te.size then s.live[tk]? = some es.length ∧ ((es.length + (bytesOf z).length) * te.bytes ≤ 140737488355328 ∧ es.length + (bytesOf z).length ≤ 9223372036854775807) ∧
            K (.own tk e' te.size (es ++ (bytesOf z).map byteV)) { s with live := s.live.set tk (es ++ (bytesOf z).map byteV).length } else False
        | .p (.sl true es) => (es.length = 0 ∨ 0 < (bytesOf z).length) ∧ (∀ x ∈ es, x.length = te.size) ∧ ((es.length + (bytesOf z).length) * te.bytes ≤ 140737488355328 ∧ es.length + (bytesOf z).length ≤ 9223372036854775807) ∧
            K (.own s.live.length e te.size (es ++ (bytesOf z).map byteV)) { s with live := s.live ++ [(es ++ (bytesOf z).map byteV).length] }
        | _ => False
        else False
      | none => False
    | _, _ => False
  | _, _, _ => False
theorem aAppS_sound (hT : TblOk P tb) {G : Gh} {w : World} {s : S} (hI : Inv G s w) {K : D → S → Prop} {t t' : Nat} (ty : TypeId) {x y : D} {u v : Value} (hx : DRel G w x u) (hy : DRel G w y v) (h : aAppS tb t t' x y s K) :
    Out P G w ((Builtin.append_ #[t, t'] ty #[u, v]).run P w) K := by
  unfold aAppS at h
  split at h
  · rename_i ti tu z ht htu
    have hv : v = .string z := by cases hy with | p _ _ h => cases h; rfl
    subst hv
    have hb : ((bytesOf z).map byteV).length = (bytesOf z).length := List.length_map _
    split at h
    · rename_i e hd hdu
      have hus := hT.und htu
      rw [hdu] at hus
      split at h
      · rename_i te he
        split at h
        · rename_i hz
          split at h
          · rename_i tk e' sz es
            split at h
            · rename_i he'
              obtain ⟨hem, rfl⟩ := he'
              have hem : rowTy e' = e := hem.elim (fun h => by subst h; exact rowTy_lt hz.2.2) fun h => by subst h; exact rowTy_add e
              obtain ⟨h1, ⟨h3, h4⟩, h5⟩ := h
              rw [List.length_append] at h5
              exact app_own_str hT hI ty ht hd hus hz.2.1 he hz.1 (by omega) rfl hem hx h1 (by rw [hb]; exact h3) (by rw [hb]; exact h4) h5
            · exact h.elim
          · rename_i es
            obtain ⟨h6, h1, ⟨h3, h4⟩, h5⟩ := h
            rw [List.length_append] at h5
            cases hx with
            | p _ u hx =>
              obtain ⟨a, cap, rfl, c1, c2, c3, c4⟩ := hx.isSlice
              obtain ⟨s1, s2⟩ := addTok_stp hI es.length
              have hx' : VRel G.com w (.sl false es) (.slice a es.length cap) := by
                cases hx with
                | sl _ _ _ _ size b off us g1 g2 g3 g4 g5 g6 g7 g8 => exact .sl false es a cap size b off us g1 g2 (fun h => by cases h) g4 g5 g6 g7 (fun h => by cases h)
              have hlive : G.tok.length = s.live.length := by rw [← hI.live]; simp
              have htok : (G.tok ++ [(⟨es.length, none, 0, none⟩ : Tok)])[s.live.length]? = some ⟨es.length, none, 0, none⟩ := by rw [← hlive]; exact List.getElem?_concat_length
              have hd' : es.length = 0 → DRel { G with tok := G.tok ++ [⟨es.length, none, 0, none⟩] } w (.own s.live.length e te.size es) (.slice a es.length cap) := fun h0 =>
                .own _ _ _ _ _ ⟨es.length, none, 0, none⟩ hx' h1 htok rfl (Nat.le_refl _) (fun _ => ⟨a, cap, rfl, .inl ⟨by rw [c3 rfl]; exact h0, c4 rfl⟩⟩)
              obtain ⟨r, w', G', d, s', r1, r2, r3, r4, r5⟩ := app_own_str_core (K := K) (T := ⟨es.length, none, 0, none⟩) hT s2 ty ht hd hus hz.2.1 he hz.1 (by omega) rfl hx' h1 htok rfl rfl (rowTy_lt hz.2.2) (.inl (c3 rfl)) (fun h0 => hd' (h6.elim id fun h7 => by rw [hb] at h0; omega)) List.getElem?_concat_length (by rw [hb]; exact h3) (by rw [hb]; exact h4) (by
                have e1 : (s.live ++ [es.length]).set s.live.length (es.length + ((bytesOf z).map byteV).length) = s.live ++ [es.length + ((bytesOf z).map byteV).length] := by simp
                simpa only [e1] using h5)
              exact ⟨r, w', G', d, s', r1, s1.trans r2, r3, r4, r5⟩
          · exact h.elim
        · exact h.elim
      · exact h.elim
    · exact h.elim
  · exact h.elim
def aMakeSlice (tb : Tbl) (t : Nat) (l c : D) (s : S) (K : D → S → Prop) : Prop :=
  match tb.lookup t, l, c with
  | some ti, .p (.v (.int _ n)), .p (.v (.int _ m)) => match ti.d with
    | .slice e => match tb.lookup e with
      | some te => match absV te.zero with
        | some x => match (dcells (.p x)).bind unps with
          | some zs => (zs.length = te.size ∧ 0 < te.size) ∧ (0 ≤ n ∧ m = n ∧ n * te.bytes ≤ 140737488355328 ∧ n ≤ 9223372036854775807) ∧ K (.p (.sl true (List.replicate n.toNat zs))) s
          | none => False
        | none => False
      | none => False
    | _ => False
  | _, _, _ => False
theorem aMakeSlice_sound (hT : TblOk P tb) {G : Gh} {w : World} {s : S} (hI : Inv G s w) {K : D → S → Prop} {t : Nat} {l c : D} {u v : Value} (hl : DRel G w l u) (hc : DRel G w c v) (h : aMakeSlice tb t l c s K) :
    Out P G w ((Instr.makeSlice t u v).run P w) K := by
  unfold aMakeSlice at h
  split at h
  · rename_i ti k n k' m ht
    have e1 : u = .int k n := by cases hl with | p _ _ h => cases h; rfl
    have e2 : v = .int k' m := by cases hc with | p _ _ h => cases h; rfl
    subst e1; subst e2
    split at h
    · rename_i e hd
      split at h
      · rename_i te he
        split at h
        · rename_i x hx
          split at h
          · rename_i zs hzs
            obtain ⟨⟨z1, z2⟩, ⟨h1, h2, h3, h4⟩, hK⟩ := h
            subst h2
            obtain ⟨z, hz, hzu⟩ := Option.bind_eq_some_iff.1 hzs
            have hu := hT.und ht
            rw [hd] at hu
            obtain ⟨_, i, i1, i2, i3, i4, _⟩ := hT e te he
            have hzr : CellsRel G w z te.zero.cells := dcells_rel (.p x _ (absV_rel hx)) hz
            obtain ⟨q1, q2⟩ := unps_rel (G := G) (w := w) z zs hzu
            have hzsz : te.zero.cells.size = te.size := by rw [hzr.1, ← q1]; exact z1
            obtain ⟨N, rfl⟩ : ∃ N : Nat, m = (N : Int) := ⟨m.toNat, by omega⟩
            have hr := run_make (P := P) w t e i te.zero hu i1 i4 k k' (N : Int) (N : Int) h1 (Int.le_refl _) (by rw [i3, Int.mul_comm]; omega) h4
            rw [Int.toNat_natCast, i2] at hr
            obtain ⟨s1, s2⟩ := newRow_stp hI (madeCells te.zero.cells (N * te.size)) e
            have hrow : VRel (G.with w.heap.size).com (w.alloc (.cells (madeCells te.zero.cells (N * te.size)) e)) (.sl true (List.replicate N zs)) (.slice (some ⟨w.heap.size, 0, none⟩) (List.replicate N zs).length N) := by
              refine row_rel2 w.heap.size (madeCells te.zero.cells (N * te.size)) e (0, 0) (World.alloc_heap_new w _) (List.replicate N zs) te.size N (fun o _ => .inr rfl) true (by simp) (by unfold maxLen; omega) (fun _ => by simp) (fun y hy => by rw [(List.mem_replicate.1 hy).2]; exact z1) (fun a b y c hy hc => ?_)
              have hy2 : y = zs := (List.mem_replicate.1 (List.mem_of_getElem? hy)).2
              subst hy2
              have ha : a < N := by have := (List.getElem?_eq_some_iff.1 hy).1; simpa using this
              have hb : b < te.size := by rw [← z1]; exact (List.getElem?_eq_some_iff.1 hc).1
              have hlt : a * te.size + b < N * te.size := by
                have : (a + 1) * te.size ≤ N * te.size := Nat.mul_le_mul_right _ ha
                rw [Nat.add_mul] at this; omega
              have hmod : (a * te.size + b) % te.size = b := by rw [Nat.mul_comm, Nat.mul_add_mod]; exact Nat.mod_eq_of_lt hb
              have hbs : b < te.zero.cells.size := by omega
              obtain ⟨d, d1, d2⟩ := q2 b c hc
              have hcell := hzr.2 b d te.zero.cells[b] d1 (Array.getElem?_eq_getElem hbs)
              refine ⟨te.zero.cells[b], ?_, hcell.1, (unp_rel hcell.2 d2).mono s1.ext.size s1.ext.com⟩
              unfold madeCells
              rw [Array.getElem?_map, Array.getElem?_range, if_pos hlt]
              simp only [Option.map_some, hzsz, hmod, Option.some.injEq]
              simp [hbs]
            rw [List.length_replicate] at hrow
            rw [Int.toNat_natCast] at hK
            exact ⟨_, _, _, _, s, hr, s1, s2, .p _ _ hrow, hK⟩
          · exact h.elim
        · exact h.elim
      · exact h.elim
    · exact h.elim
  · exact h.elim
end
end Go.Proofs.YtagokkpnfceidaaDoor
end

section
namespace Go.Proofs.YtagokkpnfceidaaDoor
open Go.RowKit

abbrev Env := List (Nat × D)
structure St where
  env : Env
  s : S
def ev (env : Env) : Operand → Option D
  | .tmp t => env.lookup t
  | .const u => (absV u).map .p
  | .func f => some (.fn (.func f) [] [])
  | .global _ => none
structure Rel (N : Nat) (G : Gh) (σ : St) (a : Act) (w : World) : Prop where
  inv : Inv G σ.s w
  env : EnvRel G w σ.env a
  size : a.tmps.size = N
theorem ev_rel {G : Gh} {w : World} {env : Env} {a : Act} (h : EnvRel G w env a) (x : Operand) (d : D) (hx : ev env x = some d) : DRel G w d (a.eval x) := by
  cases x with
  | tmp t => exact (h t d hx).2
  | const u =>
    simp only [ev, Option.map_eq_some_iff] at hx
    obtain ⟨v, hv, rfl⟩ := hx
    exact .p v u (absV_rel hv)
  | func f =>
    simp only [ev, Option.some.injEq] at hx
    subst hx
    exact .fn _ _ _ #[] #[] rfl rfl (fun j c u h => by simp at h) (fun j c u h => by simp at h)
  | global g => simp [ev] at hx

def isFn (P : Program) (f : FuncId) : Bool :=
  match P.funcs[f]? with
  | some fn => fn.name != "runtime.NumGoroutine" && fn.body.isSome
  | none => false
/-- The function, handed data, hands back r and leaves all that was as it was. -/
structure PCall (P : Program) (f : FuncId) (args : List V) (r : D) : Prop where
  fn : isFn P f = true
  out : ∀ (C : Nat → Nat → Prop) (w : World) (us : Array Value), GlobOk C w → us.size = args.length → (∀ (j : Nat) x u, args[j]? = some x → us[j]? = some u → VRel C w x u) →
    Calls P f us w fun e w' => ∃ u, e = .returned u ∧ DRel ⟨fun b o => C b o ∨ w.heap.size ≤ b, [], []⟩ w' r u ∧ Below w.heap.size w w'

def aOp (tb : Tbl) (o : Op) (e : Operand → Option D) (s : S) (K : D → S → Prop) : Prop :=
  match o with
  | .move x => match e x with | some d => K d s | none => False
  | .assign x => match e x with | some d => K d s | none => False
  | .pick c x y => match e c with
    | some (.p (.v (.bool true))) => match e x with | some d => K d s | none => False
    | some (.p (.v (.bool false))) => match e y with | some d => K d s | none => False
    | _ => False
  | .alloc t => aAlloc tb t s K
  | .box t x => match e x with | some d => aBox tb t d s K | none => False
  | .build t ps => aBuild tb t (evps e ps.toList) s K
  | .buildSlice t n ps => aBuildSlice tb t n (evps e ps.toList) s K
  | .makeSlice t x y => match e x, e y with | some a, some b => aMakeSlice tb t a b s K | _, _ => False
  | .load t x => match tb.lookup t, e x with
    | some ti, some (.p (.ep cs)) => aLoadV ti cs fun v => K (.p v) s
    | some ti, some (.ef d) => isAggD ti.d = false ∧ K d s
    | some ti, some (.ptr nm off) => match s.heap[nm]? with
      | some ds => aLoadD ti (ds.drop off) fun d => K d s
      | none => False
    | _, _ => False
  | .store t x y => match e x, e y with | some a, some b => aStore tb t a b s K | _, _ => False
  | .nilCheck x => match e x with | some d => aNilCheck d s K | none => False
  | .binOp op t x y _ => match e x, e y with | some a, some b => aBinOp tb op t a b s K | _, _ => False
  | .unOp op _ x => match e x with | some d => aUn op d s K | none => False
  | .convert src dst x => match e x with | some d => aConv tb src dst d s K | none => False
  | .makeFunc f xs ys => aMakeFunc f (evs e xs.toList) (evs e ys.toList) s K
  | .slice t x lo hi none => match e x, evo e lo, evo e hi with | some d, some l, some h => aSlice tb t d l h s K | _, _, _ => False
  | .fieldAddr t x f => match e x with | some d => aFieldAddr tb t d f s K | none => False
  | .field t x f => match e x with | some d => aField tb t d f s K | none => False
  | .indexAddr t x i => match e x, e i with | some a, some b => aIndexAddr tb t a b s K | _, _ => False
  | .index t x i => match e x, e i with | some a, some b => aIndex tb t a b s K | _, _ => False
  | .extract x i => match e x with | some d => aExtract d i s K | none => False
  | .call c => match c.callee, evs e c.args.toList, c.argTypes.toList with
    | .builtin .len, some [x], [t] => aLen tb t x s K
    | .builtin .append, some [x, y], [t, t'] => if t = t' then aApp tb t x y s K else aAppS tb t t' x y s K
    | .builtin .min, some [x, y], _ => aMinMax false x y s K
    | .builtin .max, some [x, y], _ => aMinMax true x y s K
    | .builtin .max, some [x, y, z], _ => aMinMax3 true x y z s K
    | _, _, _ => False
  | _ => False
/-- Ownership of a slice stays behind where it is handed on. -/
def dn : D → D
  | .own _ _ _ es => .p (.sl false es)
  | d => d
/-- The function, handed args where memory is s, hands back r and leaves memory as s'. -/
structure CallOK (P : Program) (f : FuncId) (args : List D) (s : S) (r : D) (s' : S) : Prop where
  fn : isFn P f = true
  out : ∀ (G : Gh) (w : World) (us : Array Value), Inv G s w → us.size = args.length → (∀ (j : Nat) d u, args[j]? = some d → us[j]? = some u → DRel G w d u) →
    Calls P f us w fun e w' => ∃ u G', e = .returned u ∧ Stp G w G' w' ∧ Inv G' s' w' ∧ DRel G' w' r u
/-- Whatever reads as xs reads as ys. -/
def RelL (xs ys : List V) : Prop := ∀ C w (us : Array Value), us.size = xs.length → (∀ (j : Nat) c u, xs[j]? = some c → us[j]? = some u → VRel C w c u) → us.size = ys.length ∧ ∀ (j : Nat) c u, ys[j]? = some c → us[j]? = some u → VRel C w c u
/-- An element handed to the loop: it takes it, or says no. -/
def aYield (t : Nat) (xs : List (List V)) (ds : List D) (s : S) (K : D → S → Prop) : Prop :=
  ∃ k x vs, s.live[t]? = some k ∧ xs[k]? = some x ∧ unps ds = some vs ∧ RelL vs x ∧ K (.p (.v (.bool true))) ⟨s.heap, s.live.set t (k + 1)⟩ ∧ K (.p (.v (.bool false))) ⟨s.heap, s.live.set t (xs.length + 1)⟩
/-- What a call must be: any (gn), or one that turns no memory and looks at no token. -/
structure CallC (gn : Bool) (P : Program) (f : FuncId) (args : List D) (s : S) (r : D) (s' : S) : Prop where
  ok : CallOK P f args s r s'
  quiet : gn = false → s' = s ∧ ∀ live, CallOK P f args ⟨s.heap, live⟩ r ⟨s.heap, live⟩
def aCall (gn : Bool) (P : Program) (c : Call) (e : Operand → Option D) (s : S) (K : D → S → Prop) : Prop :=
  match c.callee with
  | .value f => match e f, evs e c.args.toList with
    | some (.fn (.func g) first cap), some ds => ∃ r s', CallC gn P g ((first ++ ds ++ cap).map dn) s r s' ∧ K r s'
    | some (.yld P' t xs), some ds => gn = true ∧ P' = P ∧ aYield t xs ds s K
    | _, _ => False
  | _ => False
def isCall : Op → Option Call
  | .call c => match c.callee with | .value _ => some c | _ => none
  | _ => none
def aStep (gn : Bool) (P : Program) (tb : Tbl) (o : Op) (e : Operand → Option D) (s : S) (K : D → S → Prop) : Prop :=
  match isCall o with
  | some c => aCall gn P c e s K
  | none => aOp tb o e s K

/-- What an operation's run comes to. -/
def Res (_P : Program) (G : Gh) (w : World) (r : Result Next) (K : D → S → Prop) : Prop :=
  ∃ u w' G' d s', (r = .ok (.value u) w' ∨ (r = .ok .skip w' ∧ u = undef)) ∧ Stp G w G' w' ∧ Inv G' s' w' ∧ DRel G' w' d u ∧ K d s'
section
variable {P : Program} {tb : Tbl}
theorem Out.res {G : Gh} {w : World} {sem : Sem Value} {K : D → S → Prop} (h : Out P G w (sem.run P w) K) : Res P G w ((sem >>= fun x => Pure.pure (Next.value x) : Sem Next).run P w) K := by
  obtain ⟨u, w', G', d, s', hr, r⟩ := h
  exact ⟨u, w', G', d, s', .inl (by simp [hr]), r⟩
theorem evo_rel {G : Gh} {w : World} {e : Operand → Option D} {a : Act} (hev : ∀ x d, e x = some d → DRel G w d (a.eval x)) (x : Option Operand) (l : Option D) (h : evo e x = some l) : OptRel G w l (x.map a.eval) := by
  cases x with
  | none => simp [evo] at h; subst h; trivial
  | some x =>
    unfold evo at h
    split at h
    · rename_i h0; cases h0
    · rename_i x' h0
      cases h0
      split at h
      · rename_i d hd; cases h; exact hev _ d hd
      · cases h
set_option maxHeartbeats 1000000 in
theorem aOp_sound (hT : TblOk P tb) {G : Gh} {w : World} {s : S} (hI : Inv G s w) {K : D → S → Prop} {e : Operand → Option D} {a : Act} (hev : ∀ x d, e x = some d → DRel G w d (a.eval x)) (o : Oper) (h : aOp tb o.op e s K) :
    Res P G w ((execOp a.eval o).run P w) K := by
  unfold execOp
  unfold aOp at h
  split at h
  · -- move
    rename_i x ho
    simp only [ho]
    split at h
    · rename_i d hd
      exact ⟨_, w, G, d, s, .inl rfl, .refl G w, hI, hev _ d hd, h⟩
    · exact h.elim
  · rename_i x ho
    simp only [ho]
    split at h
    · rename_i d hd
      exact ⟨_, w, G, d, s, .inl rfl, .refl G w, hI, hev _ d hd, h⟩
    · exact h.elim
  · rename_i c x y ho
    simp only [ho]
    split at h
    · rename_i hc
      have hb := hev c _ hc
      have hbv : a.eval c = .bool true := by
        generalize a.eval c = q at hb
        cases hb with | p _ _ hb => cases hb; rfl
      split at h
      · rename_i d hd
        exact ⟨_, w, G, d, s, .inl (by simp [hbv, asBool]), .refl G w, hI, hev _ d hd, h⟩
      · exact h.elim
    · rename_i hc
      have hb := hev c _ hc
      have hbv : a.eval c = .bool false := by
        generalize a.eval c = q at hb
        cases hb with | p _ _ hb => cases hb; rfl
      split at h
      · rename_i d hd
        exact ⟨_, w, G, d, s, .inl (by simp [hbv, asBool]), .refl G w, hI, hev _ d hd, h⟩
      · exact h.elim
    · exact h.elim
  · rename_i t ho
    simp only [ho]
    exact (aAlloc_sound hT hI t h).res
  · rename_i t x ho
    simp only [ho]
    split at h
    · rename_i d hd
      exact (aBox_sound hT hI t (hev _ d hd) h).res
    · exact h.elim
  · rename_i t ps ho
    simp only [ho]
    exact (aBuild_sound hT hI hev t ps h).res
  · rename_i t n ps ho
    simp only [ho]
    exact (aBuildSlice_sound hT hI hev t n ps h).res
  · rename_i t x y ho
    simp only [ho]
    split at h
    · rename_i p q hp hq
      exact (aMakeSlice_sound hT hI (hev _ _ hp) (hev _ _ hq) h).res
    · exact h.elim
  · rename_i t x ho
    simp only [ho]
    split at h
    · rename_i ti cs ht hx
      have := hev x _ hx
      generalize a.eval x = q at this
      cases this with
      | p _ _ hq => exact (aLoadV_sound hT hI ht hq h).res
    · rename_i ti d ht hx
      have := hev x _ hx
      generalize a.eval x = q at this
      cases this with
      | ef _ b off u h1 h2 h3 =>
        obtain ⟨ha, h⟩ := h
        have hr := (run_loadAt hT ht w b off [u] (fun j v hv => by
          cases j with
          | zero => cases hv; exact h2
          | succ j => simp at hv)).2 ha u rfl
        exact (Out.pure hI d hr h3 h).res
    · rename_i ti nm off ht hx
      split at h
      · rename_i ds hds
        exact (aLoadD_sound hT hI ht (hev x _ hx) hds h).res
      · exact h.elim
    · exact h.elim
  · rename_i t x y ho
    simp only [ho]
    split at h
    · rename_i p q hp hq
      obtain ⟨w', G', s', hr, r1, r2, r3⟩ := aStore_sound hT hI (hev _ _ hp) (hev _ _ hq) h
      exact ⟨undef, w', G', .undef, s', .inr ⟨by simp [hr], rfl⟩, r1, r2, .undef, r3⟩
    · exact h.elim
  · rename_i x ho
    simp only [ho]
    split at h
    · rename_i d hd
      have hr := hev _ d hd
      unfold aNilCheck at h
      split at h
      · cases hr2 : a.eval x with
        | pointer p =>
          rw [hr2] at hr
          cases p with
          | none => cases hr with | p _ _ hr => cases hr
          | some p => exact ⟨_, w, G, _, s, .inl rfl, .refl G w, hI, hr, h⟩
        | _ => rw [hr2] at hr; cases hr with | p _ _ hr => cases hr
      · rename_i b cs
        obtain ⟨hb, h⟩ := h
        subst hb
        have hr : VRel G.com w (.ep cs) (a.eval x) := by cases hr with | p _ _ hr => cases hr with | opt _ _ _ _ h2 => exact h2 rfl
        cases hr2 : a.eval x with
        | pointer p =>
          rw [hr2] at hr
          cases p with
          | none => cases hr
          | some p => exact ⟨_, w, G, _, s, .inl rfl, .refl G w, hI, .p _ _ hr, h⟩
        | _ => rw [hr2] at hr; cases hr
      · cases hr2 : a.eval x with
        | pointer p =>
          rw [hr2] at hr
          cases p with
          | none => cases hr
          | some p => exact ⟨_, w, G, _, s, .inl rfl, .refl G w, hI, hr, h⟩
        | _ => rw [hr2] at hr; cases hr
      · cases hr2 : a.eval x with
        | func f us vs =>
          rw [hr2] at hr
          have hr3 := hr
          cases hr
          exact ⟨_, w, G, _, s, .inl rfl, .refl G w, hI, hr3, h⟩
        | _ => rw [hr2] at hr; cases hr
      · exact h.elim
    · exact h.elim
  · rename_i op t x y t' ho
    simp only [ho]
    split at h
    · rename_i p q hp hq
      exact (aBinOp_sound hT hI (hev _ _ hp) (hev _ _ hq) x y h).res
    · exact h.elim
  · rename_i op t x ho
    simp only [ho]
    split at h
    · rename_i d hd
      exact (aUn_sound hI (hev _ _ hd) h).res
    · exact h.elim
  · rename_i src dst x ho
    simp only [ho]
    split at h
    · rename_i d hd
      exact (aConv_sound hT hI (hev _ _ hd) h).res
    · exact h.elim
  · rename_i f xs ys ho
    simp only [ho]
    exact (aMakeFunc_sound hI hev f xs ys h).res
  · rename_i t x lo hi ho
    simp only [ho]
    split at h
    · rename_i d l m hd hl hm
      exact (aSlice_sound hT hI (hev _ _ hd) (evo_rel hev lo l hl) (evo_rel hev hi m hm) h).res
    · exact h.elim
  · rename_i t x f ho
    simp only [ho]
    split at h
    · rename_i d hd
      exact (aFieldAddr_sound hT hI (hev _ _ hd) h).res
    · exact h.elim
  · rename_i t x f ho
    simp only [ho]
    split at h
    · rename_i d hd
      exact (aField_sound hT hI (hev _ _ hd) h).res
    · exact h.elim
  · rename_i t x i ho
    simp only [ho]
    split at h
    · rename_i p q hp hq
      exact (aIndexAddr_sound hT hI (hev _ _ hp) (hev _ _ hq) h).res
    · exact h.elim
  · rename_i t x i ho
    simp only [ho]
    split at h
    · rename_i p q hp hq
      exact (aIndex_sound hT hI (hev _ _ hp) (hev _ _ hq) h).res
    · exact h.elim
  · rename_i x i ho
    simp only [ho]
    split at h
    · rename_i d hd
      exact (aExtract_sound hI (hev _ _ hd) h).res
    · exact h.elim
  · rename_i c ho
    simp only [ho]
    split at h
    · rename_i x t hc hx ht
      obtain ⟨e1, e2⟩ := evs_rel hev _ _ hx
      have hargs : ∃ x1, c.args = #[x1] := by
        have : c.args.toList.length = 1 := by rw [← e1]; rfl
        match h : c.args.toList, this with
        | [x1], _ => exact ⟨x1, by rw [← Array.toArray_toList (xs := c.args), h]⟩
      obtain ⟨x1, hargs⟩ := hargs
      have htys : c.argTypes = #[t] := by rw [← Array.toArray_toList (xs := c.argTypes), ht]
      have hd := e2 0 x (a.eval x1) rfl (by rw [hargs]; rfl)
      obtain ⟨u, w', G', d, s', hr, r⟩ := aLen_sound (ty := o.type) hT hI hd h
      refine ⟨u, w', G', d, s', .inl ?_, r⟩
      simp [resolve, hc, invoke, builtin, hargs, htys, hr]
    · rename_i x y t t' hc hx ht
      split at h
      · rename_i htt
        subst htt
        obtain ⟨e1, e2⟩ := evs_rel hev _ _ hx
        have hargs : ∃ x1 y1, c.args = #[x1, y1] := by
          have : c.args.toList.length = 2 := by rw [← e1]; rfl
          match h : c.args.toList, this with
          | [x1, y1], _ => exact ⟨x1, y1, by rw [← Array.toArray_toList (xs := c.args), h]⟩
        obtain ⟨x1, y1, hargs⟩ := hargs
        have htys : c.argTypes = #[t, t] := by rw [← Array.toArray_toList (xs := c.argTypes), ht]
        have hd := e2 0 x (a.eval x1) rfl (by rw [hargs]; rfl)
        have hd2 := e2 1 y (a.eval y1) rfl (by rw [hargs]; rfl)
        obtain ⟨u, w', G', d, s', hr, r⟩ := aApp_sound hT hI o.type hd hd2 h
        refine ⟨u, w', G', d, s', .inl ?_, r⟩
        simp [resolve, hc, invoke, builtin, hargs, htys, hr]
      · obtain ⟨e1, e2⟩ := evs_rel hev _ _ hx
        have hargs : ∃ x1 y1, c.args = #[x1, y1] := by
          have : c.args.toList.length = 2 := by rw [← e1]; rfl
          match h : c.args.toList, this with
          | [x1, y1], _ => exact ⟨x1, y1, by rw [← Array.toArray_toList (xs := c.args), h]⟩
        obtain ⟨x1, y1, hargs⟩ := hargs
        have htys : c.argTypes = #[t, t'] := by rw [← Array.toArray_toList (xs := c.argTypes), ht]
        have hd := e2 0 x (a.eval x1) rfl (by rw [hargs]; rfl)
        have hd2 := e2 1 y (a.eval y1) rfl (by rw [hargs]; rfl)
        obtain ⟨u, w', G', d, s', hr, r⟩ := aAppS_sound hT hI o.type hd hd2 h
        refine ⟨u, w', G', d, s', .inl ?_, r⟩
        simp [resolve, hc, invoke, builtin, hargs, htys, hr]
    · rename_i x y hc hx
      obtain ⟨e1, e2⟩ := evs_rel hev _ _ hx
      have hargs : ∃ x1 y1, c.args = #[x1, y1] := by
        have : c.args.toList.length = 2 := by rw [← e1]; rfl
        match h : c.args.toList, this with
        | [x1, y1], _ => exact ⟨x1, y1, by rw [← Array.toArray_toList (xs := c.args), h]⟩
      obtain ⟨x1, y1, hargs⟩ := hargs
      have hd := e2 0 x (a.eval x1) rfl (by rw [hargs]; rfl)
      have hd2 := e2 1 y (a.eval y1) rfl (by rw [hargs]; rfl)
      obtain ⟨u, w', G', d, s', hr, r⟩ := aMinMax_sound (P := P) hI hd hd2 c.argTypes o.type h
      refine ⟨u, w', G', d, s', .inl ?_, r⟩
      simp at hr
      simp [resolve, hc, invoke, builtin, hargs, hr]
    · rename_i x y hc hx
      obtain ⟨e1, e2⟩ := evs_rel hev _ _ hx
      have hargs : ∃ x1 y1, c.args = #[x1, y1] := by
        have : c.args.toList.length = 2 := by rw [← e1]; rfl
        match h : c.args.toList, this with
        | [x1, y1], _ => exact ⟨x1, y1, by rw [← Array.toArray_toList (xs := c.args), h]⟩
      obtain ⟨x1, y1, hargs⟩ := hargs
      have hd := e2 0 x (a.eval x1) rfl (by rw [hargs]; rfl)
      have hd2 := e2 1 y (a.eval y1) rfl (by rw [hargs]; rfl)
      obtain ⟨u, w', G', d, s', hr, r⟩ := aMinMax_sound (P := P) hI hd hd2 c.argTypes o.type h
      refine ⟨u, w', G', d, s', .inl ?_, r⟩
      simp at hr
      simp [resolve, hc, invoke, builtin, hargs, hr]
    · rename_i x y z hc hx
      obtain ⟨e1, e2⟩ := evs_rel hev _ _ hx
      have hargs : ∃ x1 y1 z1, c.args = #[x1, y1, z1] := by
        have : c.args.toList.length = 3 := by rw [← e1]; rfl
        match h : c.args.toList, this with
        | [x1, y1, z1], _ => exact ⟨x1, y1, z1, by rw [← Array.toArray_toList (xs := c.args), h]⟩
      obtain ⟨x1, y1, z1, hargs⟩ := hargs
      have hd := e2 0 x (a.eval x1) rfl (by rw [hargs]; rfl)
      have hd2 := e2 1 y (a.eval y1) rfl (by rw [hargs]; rfl)
      have hd3 := e2 2 z (a.eval z1) rfl (by rw [hargs]; rfl)
      obtain ⟨u, w', G', d, s', hr, r⟩ := aMinMax3_sound (P := P) hI hd hd2 hd3 c.argTypes o.type h
      refine ⟨u, w', G', d, s', .inl ?_, r⟩
      simp at hr
      simp [resolve, hc, invoke, builtin, hargs, hr]
    · exact h.elim
  · exact h.elim
end
end Go.Proofs.YtagokkpnfceidaaDoor
end

section
namespace Go.Proofs.YtagokkpnfceidaaDoor
open Go.RowKit

section
variable {P : Program} {tb : Tbl}
theorem DRel.weak {G : Gh} {C : Nat → Nat → Prop} {w : World} {d : D} {u : Value} (h : DRel ⟨C, [], []⟩ w d u) (hc : ∀ b o, C b o → G.com b o) : DRel G w d u := by
  induction h with
  | p x u h => exact .p x u (h.mono (Nat.le_refl _) fun b o u h1 h2 => ⟨hc b o h1, h2⟩)
  | ptr nm off b h => simp at h
  | own t e size es u T h1 h2 h3 => simp at h3
  | fn f first cap us vs h1 h2 _ _ ih1 ih2 => exact .fn f first cap us vs h1 h2 ih1 ih2
  | yld t T p h => simp at h
  | sp P u b nm off i e n v h => simp at h
  | agg cs us h1 h2 _ ih => exact .agg cs us h1 h2 ih
  | tup cs us h1 _ ih => exact .tup cs us h1 ih
  | sf ds b us h1 _ ih => exact .sf ds b us (fun i d hd => ⟨hc _ _ (h1 i d hd).1, (h1 i d hd).2⟩) ih
  | ef d b off u h1 h2 _ ih => exact .ef d b off u (hc _ _ h1) h2 ih
  | x t v X u T h => simp at h
  | mh nm b h => simp at h
  | undef => exact .undef
/-- Behind a step that turns nothing below the heap's size: what is new stands for good. -/
theorem below_stp {G : Gh} {s : S} {w w' : World} (hI : Inv G s w) (h : Below w.heap.size w w') :
    Stp G w { G with com := fun b o => G.com b o ∨ (w.heap.size ≤ b ∧ b < w'.heap.size) } w' ∧ Inv { G with com := fun b o => G.com b o ∨ (w.heap.size ≤ b ∧ b < w'.heap.size) } s w' := by
  have hst : Stp G w { G with com := fun b o => G.com b o ∨ (w.heap.size ≤ b ∧ b < w'.heap.size) } w' := by
    refine ⟨⟨h.os, h.tape, h.output, h.size, fun b o u hc hu => ⟨.inl hc, ?_⟩, fun b hb _ _ => h.block b hb, fun b o hc => ?_, fun b hb => .inr hb, fun _ _ h => .inl h, fun b sh hk => by rw [shape_eq (h.block b (shape_lt hk))]; exact hk⟩, fun _ _ h => h, fun t T hT => ⟨T, hT, .refl T, fun _ => ⟨rfl, fun b hb => h.block b (hI.tok t T b hT hb).1⟩⟩⟩
    · rw [h.cell (p := ⟨b, o, none⟩) (hI.com b o hc).1]; exact hu
    · rcases hc with hc | hc
      · exact .inl hc
      · exact .inr (.inl hc.1)
  refine ⟨hst, ⟨fun b o hc => ?_, hI.names, hI.nodup, fun i b cs hb hcs => ?_, hI.live, fun t T b hT hb => ?_, hI.proS hst rfl, hI.glob.mono hst.ext.com⟩⟩
  · rcases hc with hc | hc
    · obtain ⟨h1, h2⟩ := hI.com b o hc
      exact ⟨Nat.lt_of_lt_of_le h1 h.size, h2⟩
    · have key : ∀ T ∈ G.tok, ¬ T.has b := fun T hT hb => by
        obtain ⟨t, ht⟩ := List.getElem?_of_mem hT
        have := (hI.tok t T b ht hb).1; omega
      exact ⟨hc.2, fun hm => by have := name_lt hI b hm; omega, fun T hT => ⟨fun hb => absurd (.inl hb) (key T hT), fun hb => absurd (.inr hb) (key T hT)⟩⟩
  · exact (hI.var i b cs hb hcs).mono hst (by rw [h.block b (name_lt hI b (List.mem_of_getElem? hb))])
  · obtain ⟨h1, h2⟩ := hI.tok t T b hT hb
    exact ⟨Nat.lt_of_lt_of_le h1 h.size, h2⟩
theorem DRel.lt {C : Nat → Nat → Prop} {w : World} {x : V} {u : Value} (h : VRel C w x u) : VRel (fun b o => C b o ∧ b < w.heap.size) w x u :=
  h.mono (Nat.le_refl _) fun _ _ _ h1 h2 => ⟨⟨h1, cellLt h2⟩, h2⟩
theorem DRel.ltD {C : Nat → Nat → Prop} {w : World} {d : D} {u : Value} (h : DRel ⟨C, [], []⟩ w d u) : DRel ⟨fun b o => C b o ∧ b < w.heap.size, [], []⟩ w d u := by
  induction h with
  | p x u h => exact .p x u (DRel.lt h)
  | ptr nm off b h => simp at h
  | own t e size es u T h1 h2 h3 => simp at h3
  | fn f first cap us vs h1 h2 _ _ ih1 ih2 => exact .fn f first cap us vs h1 h2 ih1 ih2
  | yld t T p h => simp at h
  | sp P u b nm off i e n v h => simp at h
  | agg cs us h1 h2 _ ih => exact .agg cs us h1 h2 ih
  | tup cs us h1 _ ih => exact .tup cs us h1 ih
  | sf ds b us h1 _ ih => exact .sf ds b us (fun i d hd => ⟨⟨(h1 i d hd).1, cellLt (h1 i d hd).2.1⟩, (h1 i d hd).2⟩) ih
  | ef d b off u h1 h2 _ ih => exact .ef d b off u ⟨h1, cellLt h2⟩ h2 ih
  | x t v X u T h => simp at h
  | mh nm b h => simp at h
  | undef => exact .undef
theorem isFn_call {f : FuncId} (h : isFn P f = true) (args : Array Value) (w : World) : (callFunc f args).run P w = .ok (.enter f args) w := by
  unfold isFn at h
  split at h
  · rename_i fn hf
    simp only [Bool.and_eq_true, bne_iff_ne, ne_eq] at h
    obtain ⟨c, hc⟩ := Option.isSome_iff_exists.1 h.2
    simp [callFunc, hf, h.1, hc]
  · cases h
theorem dn_rel {G : Gh} {w : World} {d : D} {u : Value} (h : DRel G w d u) : DRel G w (dn d) u := by
  unfold dn
  split
  · cases h with
    | own _ _ _ _ u T hx => exact .p _ _ hx
  · exact h
/-- Data alone: in whatever memory. -/
theorem PCall.ok {f : FuncId} {xs : List V} {r : D} (h : PCall P f xs r) (s : S) : CallOK P f (xs.map .p) s r s := by
  refine ⟨h.fn, fun G w us hI hs hrel => (h.out G.com w us hI.glob (by simpa using hs) fun j x u hx hu => ?_).mono fun en w' ⟨u, he, hd, hb⟩ => ?_⟩
  · have := hrel j (.p x) u (by rw [List.getElem?_map, hx]; rfl) hu
    cases this with | p _ _ h => exact h
  · obtain ⟨s1, s2⟩ := below_stp hI hb
    exact ⟨u, _, he, s1, s2, hd.ltD.weak fun b o hco => by
      rcases hco with ⟨hco | hco, hlt⟩
      · exact .inl hco
      · exact .inr ⟨hco, hlt⟩⟩
theorem PCall.c {gn : Bool} {f : FuncId} {xs : List V} {r : D} {s : S} (h : PCall P f xs r) : CallC gn P f (xs.map .p) s r s := ⟨h.ok s, fun _ => ⟨rfl, fun _ => h.ok _⟩⟩
/-- The fence of a function's frame; of a round's of loop l. -/
def FW : Option Nat → Fence
  | none => Fence.wide
  | some l => Fence.wide.inRound l
theorem FW_fn (rd : Option Nat) (f : FuncId) : (FW rd).fn f := by cases rd <;> trivial
theorem FW_round (rd : Option Nat) : (FW rd).round = rd := by cases rd <;> rfl
theorem FW_depth (rd : Option Nat) : (FW rd).depth = none := by cases rd <;> rfl
theorem FW_room (rd : Option Nat) (n : Nat) : (FW rd).room n := by cases rd <;> exact room_wide _
theorem FW_calls {rd : Option Nat} {n : Nat} {f : FuncId} {args : Array Value} {w : World} {R : Ending → World → Prop} (h : Calls P f args w R) : CallsIn (FW rd) n P f args w R := by cases rd <;> exact callsIn_wide.2 h
theorem FW_rnd {rd : Option Nat} {l : Nat} {f : FuncId} {tmps : Array Value} {a b : Code} {w : World} {R : Ending → World → Prop} (h : RoundIn Fence.wide 0 P l f tmps a b w R) : RoundIn (FW rd) (0 - 1) P l f tmps a b w R := by cases rd <;> exact h
theorem FW_n {rd : Option Nat} (n : Nat) : (FW rd).depth.isSome = true → 1 ≤ n := fun h => by rw [FW_depth] at h; cases h
theorem wpIn_of {rd : Option Nat} {o : Oper} {a : Act} {w : World} {next : Act → World → Prop} {Q : Exit → Act → World → Prop} (hd : ∀ c, o.op ≠ .defer c) (h : o.uponIn (FW rd) 0 P a next Q ((execOp a.eval o).run P w)) : o.wpIn (FW rd) 0 P a w next Q :=
  ⟨fun _ _ => FW_fn _ _, by rw [Oper.semAt_eq _ _ _ hd]; exact h⟩
/-- A call of yield. -/
theorem aYield_sound {rd : Option Nat} {N : Nat} {G : Gh} {σ : St} {a : Act} {w : World} (hR : Rel N G σ a w) {o : Oper} {c : Call} (hoc : o.op = .call c) {f : Operand} (hc : c.callee = .value f) {t : Nat} {xs : List (List V)} {ds : List D}
    (hf : DRel G w (.yld P t xs) (a.eval f)) (hds : ds.length = c.args.toList.length ∧ ∀ (j : Nat) d u, ds[j]? = some d → (c.args.toList.map a.eval)[j]? = some u → DRel G w d u) {K : D → S → Prop} (h : aYield t xs ds σ.s K)
    {next : Act → World → Prop} {Q : Exit → Act → World → Prop} (hn : ∀ u w' G' d s', Stp G w G' w' → Inv G' s' w' → DRel G' w' d u → K d s' → next (a.put o.dst u) w') : o.wpIn (FW rd) 0 P a w next Q := by
  obtain ⟨k, x, vs, h1, h2, h3, h4, k1, k2⟩ := h
  generalize hfv : a.eval f = fv at hf
  generalize hP : P = P' at hf
  generalize hxs : xs = xs' at hf
  cases hf with
  | yld t T p hT hp =>
    subst hP; subst hxs
    obtain ⟨q, hq, rfl⟩ := Option.map_eq_some_iff.1 hp
    have hI := hR.inv
    have hTm : T ∈ G.tok := List.mem_of_getElem? hT
    have hlt : t < G.tok.length := (List.getElem?_eq_some_iff.1 hT).1
    have hlen : T.len = k := by
      have : (G.tok.map (·.len))[t]? = some T.len := by rw [List.getElem?_map, hT]; rfl
      rw [hI.live, h1] at this
      exact (Option.some.inj this).symm
    have hkx : k < q.p.xs.length := (List.getElem?_eq_some_iff.1 h2).1
    obtain ⟨g1, g2⟩ := hI.pro T hTm
    have hst := g1 q hq
    rw [hlen] at hst
    obtain ⟨e1, e2⟩ := hds
    obtain ⟨u1, u2⟩ := unps_rel (G := G) (w := w) ds vs h3
    obtain ⟨r1, r2⟩ := h4 G.com w (c.args.map a.eval) (by rw [u1, e1]; simp) (fun j x u hx hu => by
      obtain ⟨d, hd, hdx⟩ := u2 j x hx
      exact unp_rel (e2 j d u hd (by simpa using hu)) hdx)
    have hown : ∀ b, q.own b → T.has b := fun b hb => .inr ⟨q, hq, hb⟩
    obtain ⟨fn, tmps, assign, body, hrun, hrnd⟩ := q.p.law k q.own q.rel G.com w x (c.args.map a.eval) hst h2 r1 r2 (fun b o hr => g2 b o ⟨q, hq, hr⟩)
      (fun b o hb => ⟨(hI.com b o hb).1, fun hm => by
        obtain ⟨q', hq', hr⟩ := ((hI.com b o hb).2.2 T hTm).2 ⟨q, hq, hm⟩
        rw [hq] at hq'; cases hq'; exact hr⟩)
      (fun b hb => (hI.tok t T b hT (hown b hb)).1)
    have hrun2 : (execOp a.eval o).run q.p.P w = .ok (.round q.p.l fn tmps assign body) w := by
      unfold execOp
      simp only [hoc]
      simp [resolve, hc, hfv, Deferred.ofValue, invoke, hrun]
    refine wpIn_of (by rw [hoc]; intro c; simp) ?_
    rw [hrun2, Oper.uponIn_round]
    refine ⟨FW_n _, FW_rnd (hrnd.mono fun e w' ⟨k', M', K', he, hst', hy⟩ => ?_)⟩
    have hk' : k < k' ∧ (k' = k + 1 ∨ k' = q.p.xs.length + 1) := by rcases he with ⟨-, rfl⟩ | ⟨-, rfl⟩ <;> omega
    obtain ⟨T', hT'⟩ : ∃ T' : Tok, T' = ⟨k', none, 0, some ⟨M', K', q.p⟩⟩ := ⟨_, rfl⟩
    have hT'o : ∀ b, T'.has b → M' b := fun b hb => by
      subst hT'
      rcases hb with hb | ⟨q', hq', hb⟩
      · cases hb
      · cases hq'; exact hb
    have hMn : ∀ b, q.own b → b ∉ G.name := fun b hb => (hI.tok t T b hT (hown b hb)).2.1
    have hMt : ∀ (t' : Nat) T'' b, G.tok[t']? = some T'' → T''.has b → q.own b → t' = t := fun t' T'' b h' hb hm => (hI.tok t T b hT (hown b hm)).2.2 t' T'' h' hb
    obtain ⟨G', hG'⟩ : ∃ G' : Gh, G' = ⟨K', G.name, G.tok.set t T'⟩ := ⟨_, rfl⟩
    have hset : ∀ (t' : Nat) T'', G'.tok[t']? = some T'' → (t' = t ∧ T'' = T') ∨ (t' ≠ t ∧ G.tok[t']? = some T'') := fun t' T'' h' => by
      subst hG'
      have h' : (G.tok.set t T')[t']? = some T'' := h'
      by_cases htt : t' = t
      · subst htt
        rw [List.getElem?_set_self hlt] at h'
        exact .inl ⟨rfl, (Option.some.inj h').symm⟩
      · rw [List.getElem?_set_ne (fun e => htt e.symm)] at h'
        exact .inr ⟨htt, h'⟩
    have hstp : Stp G w G' w' := by
      refine ⟨⟨hy.os, hy.tape, hy.output, hy.size, fun b o u hb hu => ?_, fun b hb hn ht => hy.old b hb fun hm => ht T hTm (hown b hm), fun b o hb => ?_, fun b hb => ?_, fun b o hb => by subst hG'; exact hy.mono b o hb, hy.shp⟩, fun nm b hb => by subst hG'; exact hb, fun t' T'' h' => ?_⟩
      · subst hG'; exact hy.com b o u hb hu
      · subst hG'
        rcases (hy.new b o hb).2 with h | h | h
        · exact .inl h
        · exact .inr (.inl h)
        · exact .inr (.inr (.inr ⟨T, hTm, hown b h⟩))
      · rcases hb with hb | ⟨T'', hT'', hb⟩
        · subst hG'; exact .inr (.inl hb)
        · obtain ⟨t', ht'⟩ := List.getElem?_of_mem hT''
          rcases hset t' T'' ht' with ⟨-, rfl⟩ | ⟨-, h'⟩
          · rcases (hy.own b (hT'o b hb)).2 with h | h
            · exact .inr (.inr ⟨T, hTm, hown b h⟩)
            · exact .inl h
          · exact .inr (.inr ⟨T'', List.mem_of_getElem? h', hb⟩)
      · by_cases htt : t' = t
        · subst htt
          rw [hT] at h'; cases h'
          refine ⟨T', by subst hG'; exact List.getElem?_set_self hlt, ⟨by subst hT'; show T.len ≤ k'; omega, by subst hT'; simp [hq]⟩, fun e => ?_⟩
          subst hT'
          have e : T.len = k' := e
          omega
        · refine ⟨T'', by subst hG'; show (G.tok.set t T')[t']? = _; rw [List.getElem?_set_ne (fun e => htt e.symm)]; exact h', .refl _, fun _ => ⟨rfl, fun b hb => ?_⟩⟩
          exact hy.old b (hI.tok t' T'' b h' hb).1 fun hm => htt (hMt t' T'' b h' hb hm)
    have hinv : Inv G' ⟨σ.s.heap, σ.s.live.set t k'⟩ w' := by
      refine ⟨fun b o hb => ?_, by subst hG'; exact hI.names, by subst hG'; exact hI.nodup, fun i b cs hb hcs => ?_, ?_, fun t' T'' b h' hb => ?_, fun T'' hT'' => ?_, hR.inv.glob.mono hstp.ext.com⟩
      · have hb0 : K' b o := by subst hG'; exact hb
        obtain ⟨n1, n2⟩ := hy.new b o hb0
        refine ⟨n1, fun hm => ?_, fun T'' hT'' => ?_⟩
        · have hm : b ∈ G.name := by subst hG'; exact hm
          rcases n2 with h | h | h
          · exact (hI.com b o h).2.1 hm
          · have := name_lt hI b hm; omega
          · exact hMn b h hm
        · obtain ⟨t', ht'⟩ := List.getElem?_of_mem hT''
          rcases hset t' T'' ht' with ⟨-, rfl⟩ | ⟨hne, h'⟩
          · subst hT'
            exact ⟨fun h => (nomatch h), fun _ => ⟨_, rfl, hb0⟩⟩
          · rcases n2 with h | h | h
            · exact (hI.com b o h).2.2 T'' (List.mem_of_getElem? h')
            · have key : ¬ T''.has b := fun hh => by have := (hI.tok t' T'' b h' hh).1; omega
              exact ⟨fun hh => absurd (.inl hh) key, fun hh => absurd (.inr hh) key⟩
            · have key : ¬ T''.has b := fun hh => hne (hMt t' T'' b h' hh h)
              exact ⟨fun hh => absurd (.inl hh) key, fun hh => absurd (.inr hh) key⟩
      · have hb : G.name[i]? = some b := by subst hG'; exact hb
        have hbn : b ∈ G.name := List.mem_of_getElem? hb
        exact (hI.var i b cs hb hcs).mono hstp (by rw [hy.old b (name_lt hI b hbn) fun hm => hMn b hm hbn])
      · subst hG'; subst hT'
        show (G.tok.set t _).map (·.len) = _
        rw [List.map_set, hI.live]
      · rcases hset t' T'' h' with ⟨rfl, rfl⟩ | ⟨hne, h0⟩
        · have hm := hT'o b hb
          obtain ⟨o1, o2⟩ := hy.own b hm
          refine ⟨o1, fun hn => ?_, fun t2 T2 ht2 hb2 => ?_⟩
          · have hn : b ∈ G.name := by subst hG'; exact hn
            rcases o2 with h | h
            · exact hMn b h hn
            · have := name_lt hI b hn; omega
          · rcases hset t2 T2 ht2 with ⟨rfl, -⟩ | ⟨hne2, h2'⟩
            · rfl
            · rcases o2 with h | h
              · exact hMt t2 T2 b h2' hb2 h
              · have := (hI.tok t2 T2 b h2' hb2).1; omega
        · obtain ⟨o1, o2, o3⟩ := hI.tok t' T'' b h0 hb
          refine ⟨Nat.lt_of_lt_of_le o1 hy.size, by subst hG'; exact o2, fun t2 T2 ht2 hb2 => ?_⟩
          rcases hset t2 T2 ht2 with ⟨rfl, rfl⟩ | ⟨hne2, h2'⟩
          · rcases (hy.own b (hT'o b hb2)).2 with h | h
            · exact absurd (hMt t' T'' b h0 hb h) hne
            · omega
          · exact o3 t2 T2 h2' hb2
      · obtain ⟨t', ht'⟩ := List.getElem?_of_mem hT''
        rcases hset t' T'' ht' with ⟨rfl, rfl⟩ | ⟨hne, h'⟩
        · subst hT'; subst hG'
          refine ⟨fun q' hq' => ?_, fun b o ⟨q', hq', hr⟩ => ?_⟩
          · cases hq'; exact hst'
          · cases hq'; exact hr
        · have hm := List.mem_of_getElem? h'
          refine ⟨Tok.ok_ext (hI.pro T'' hm) hstp.ext fun b hb => hy.old b (hI.tok t' T'' b h' hb).1 fun hM => hne (hMt t' T'' b h' hb hM), fun b o hr => ?_⟩
          exact hstp.ext.mono b o ((hI.pro T'' hm).2 b o hr)
    rcases he with ⟨rfl, rfl⟩ | ⟨rfl, rfl⟩
    · exact hn _ w' G' _ _ hstp hinv (.p _ _ (.v _ rfl)) k1
    · exact hn _ w' G' _ _ hstp hinv (.p _ _ (.v _ rfl)) k2
theorem aCall_sound {rd : Option Nat} {gn : Bool} {N : Nat} {G : Gh} {σ : St} {a : Act} {w : World} (hR : Rel N G σ a w) {o : Oper} {c : Call} (ho : isCall o.op = some c) {e : Operand → Option D} (hev : ∀ x d, e x = some d → DRel G w d (a.eval x)) {K : D → S → Prop} (h : aCall gn P c e σ.s K)
    {next : Act → World → Prop} {Q : Exit → Act → World → Prop} (hn : ∀ u w' G' d s', Stp G w G' w' → Inv G' s' w' → DRel G' w' d u → K d s' → next (a.put o.dst u) w') : o.wpIn (FW rd) 0 P a w next Q := by
  have hoc : o.op = .call c := by
    cases hop : o.op with
    | call c' =>
      rw [hop] at ho
      simp only [isCall] at ho
      split at ho
      · cases ho; rfl
      · cases ho
    | _ => rw [hop] at ho; cases ho
  unfold aCall at h
  split at h
  · rename_i f hc
    split at h
    · rename_i g first cap ds hf hds
      obtain ⟨r, s', hcall, hK⟩ := h
      have hfv : ∃ us vs, a.eval f = .func (.func g) us vs ∧ us.size = first.length ∧ vs.size = cap.length ∧ (∀ (j : Nat) c u, first[j]? = some c → us[j]? = some u → DRel G w c u) ∧ (∀ (j : Nat) c u, cap[j]? = some c → vs[j]? = some u → DRel G w c u) := by
        have := hev f _ hf
        generalize a.eval f = q at this
        cases this with
        | fn _ _ _ us vs h1 h2 h3 h4 => exact ⟨us, vs, rfl, h1.symm, h2.symm, h3, h4⟩
      obtain ⟨us, vs, hfv, l1, l2, k1, k2⟩ := hfv
      obtain ⟨e1, e2⟩ := evs_rel hev _ _ hds
      have hrun : (execOp a.eval o).run P w = .ok (.enter g (us ++ c.args.map a.eval ++ vs)) w := by
        unfold execOp
        simp only [hoc]
        simp [resolve, hc, hfv, Deferred.ofValue, invoke, isFn_call hcall.ok.fn]
      refine wpIn_of (by rw [hoc]; intro c; simp) ?_
      rw [hrun, Oper.uponIn_enter]
      refine ⟨FW_n _, FW_calls ?_⟩
      refine (hcall.ok.out G w (us ++ c.args.map a.eval ++ vs) hR.inv (by simp [l1, l2, e1]) (fun j d u hd hu => ?_)).mono fun en w' ⟨u, G', he, h1, h2, h3⟩ => ?_
      · rw [List.getElem?_map] at hd
        obtain ⟨d0, hd0, rfl⟩ := Option.map_eq_some_iff.1 hd
        refine dn_rel ?_
        have hsz : (c.args.map a.eval).size = ds.length := by simp [e1]
        by_cases hj : j < first.length + ds.length
        · rw [List.getElem?_append_left (by simpa using hj)] at hd0
          rw [Array.getElem?_append_left (by simp [l1]; simp at hsz; omega)] at hu
          by_cases hj2 : j < first.length
          · rw [List.getElem?_append_left hj2] at hd0
            rw [Array.getElem?_append_left (by omega)] at hu
            exact k1 j d0 u hd0 hu
          · rw [List.getElem?_append_right (by omega)] at hd0
            rw [Array.getElem?_append_right (by omega), l1] at hu
            exact e2 _ d0 u hd0 (by simpa using hu)
        · rw [List.getElem?_append_right (by simp; omega)] at hd0
          rw [Array.getElem?_append_right (by simp [l1]; simp at hsz; omega)] at hu
          simp only [List.length_append] at hd0
          simp only [Array.size_append, l1, hsz] at hu
          exact k2 _ d0 u hd0 hu
      · subst he
        exact hn u w' G' r s' h1 h2 h3 hK
    · rename_i P' t xs ds hf hds
      obtain ⟨-, rfl, hy⟩ := h
      exact aYield_sound hR hoc hc (hev f _ hf) (evs_rel hev _ _ hds) hy hn
    · exact h.elim
  · exact h.elim
theorem aStep_sound (hT : TblOk P tb) {rd : Option Nat} {gn : Bool} {N : Nat} {G : Gh} {σ : St} {a : Act} {w : World} (hR : Rel N G σ a w) {o : Oper} {K : D → S → Prop} (h : aStep gn P tb o.op (ev σ.env) σ.s K)
    {next : Act → World → Prop} {Q : Exit → Act → World → Prop} (hn : ∀ u w' G' d s', Stp G w G' w' → Inv G' s' w' → DRel G' w' d u → K d s' → next (a.put o.dst u) w') : o.wpIn (FW rd) 0 P a w next Q := by
  have hev := ev_rel hR.env
  unfold aStep at h
  split at h
  · rename_i c hc
    exact aCall_sound hR hc hev h hn
  · obtain ⟨u, w', G', d, s', hr, r1, r2, r3, r4⟩ := aOp_sound hT hR.inv hev o h
    refine wpIn_of (fun c hc => ?_) ?_
    · rw [hc] at h; simp [aOp] at h
    rcases hr with hr | ⟨hr, rfl⟩
    · rw [hr]; exact hn u w' G' d s' r1 r2 r3 r4
    · rw [hr]; exact hn undef w' G' d s' r1 r2 r3 r4

def isGuard (ops : List Oper) (i : Nat) : Bool := ops.any fun o => match o.guard with | some (j, _) => j == i | none => false
def splitB (g : Bool) (d : D) (k : D → Prop) : Prop :=
  match g, d with
  | true, .p (.v (.bool b)) => (b = true → k (.p (.v (.bool true)))) ∧ (b = false → k (.p (.v (.bool false))))
  | _, d => k d
def putE (N : Nat) (env : Env) (dst : Option Nat) (d : D) (k : Env → Prop) : Prop :=
  match dst with
  | none => k env
  | some t => if t < N then k ((t, d) :: env) else False
def aWant (ops : List Oper) (env : Env) : Option (Nat × Bool) → Option Bool
  | none => some true
  | some (j, want) => match (ops[j]?).bind (·.dst) with
    | some t => match env.lookup t with
      | some (.p (.v (.bool b))) => some (b == want)
      | some .undef => some false
      | _ => none
    | none => none
theorem putE_rel {N : Nat} {G G' : Gh} {σ : St} {a : Act} {w w' : World} (hR : Rel N G σ a w) (hS : Stp G w G' w') {s' : S} (hI : Inv G' s' w') {dst : Option Nat} {d : D} {u : Value} (hd : DRel G' w' d u) {k : Env → Prop} (h : putE N σ.env dst d k) :
    ∃ env', Rel N G' ⟨env', s'⟩ (a.put dst u) w' ∧ k env' := by
  unfold putE at h
  split at h
  · exact ⟨σ.env, ⟨hI, hR.env.mono hS, hR.size⟩, h⟩
  · rename_i t
    split at h
    · rename_i hlt
      refine ⟨_, ⟨hI, fun t' d' h' => ?_, by simp [Act.put, hR.size]⟩, h⟩
      simp only [Act.put, Array.size_setIfInBounds]
      rw [List.lookup_cons] at h'
      by_cases ht : t' = t
      · subst ht
        simp only [beq_self_eq_true, Option.some.injEq] at h'
        subst h'
        have hs : t' < a.tmps.size := by rw [hR.size]; exact hlt
        exact ⟨hs, by simpa [Array.getD_eq_getD_getElem?, hs] using hd⟩
      · have hb : (t' == t) = false := by simpa using ht
        rw [hb] at h'
        obtain ⟨h1, h2⟩ := hR.env t' d' h'
        refine ⟨h1, ?_⟩
        have hne : t ≠ t' := fun e => ht e.symm
        simpa [Array.getD_eq_getD_getElem?, Array.getElem?_setIfInBounds, hne] using h2.mono hS
    · exact h.elim
theorem splitB_elim {g : Bool} {d : D} {k : D → Prop} (h : splitB g d k) : k d := by
  unfold splitB at h
  split at h
  · rename_i b
    cases b
    · exact h.2 rfl
    · exact h.1 rfl
  · exact h
theorem aWant_rel {N : Nat} {G : Gh} {σ : St} {a : Act} {w : World} (hR : Rel N G σ a w) (ops : List Oper) (o : Oper) (b : Bool) (h : aWant ops σ.env o.guard = some b) : Region.wanted o (yielded ops.toArray a.tmps) = b := by
  unfold aWant at h
  split at h
  · rename_i hg
    cases h
    simp [Region.wanted, hg]
  · rename_i j want hg
    split at h
    · rename_i t ht
      split at h
      · rename_i b' hl
        obtain ⟨h1, h2⟩ := hR.env t _ hl
        have hv : a.tmps[t]? = some (.bool b') := by
          rw [Array.getElem?_eq_getElem h1]
          have : a.tmps.getD t undef = a.tmps[t] := by simp [Array.getD_eq_getD_getElem?, h1]
          rw [this] at h2
          generalize a.tmps[t] = q at h2
          cases h2 with | p _ _ h2 => cases h2; rfl
        cases h
        simp only [Region.wanted, hg, yielded, List.getElem?_toArray, ht, Option.bind_some, hv]
        cases b' <;> cases want <;> rfl
      · rename_i hl
        obtain ⟨h1, h2⟩ := hR.env t _ hl
        have hv : a.tmps[t]? = some undef := by
          rw [Array.getElem?_eq_getElem h1]
          have : a.tmps.getD t undef = a.tmps[t] := by simp [Array.getD_eq_getD_getElem?, h1]
          rw [this] at h2
          generalize a.tmps[t] = q at h2
          cases h2; rfl
        cases h
        simp only [Region.wanted, hg, yielded, List.getElem?_toArray, ht, Option.bind_some, hv]
        cases want <;> rfl
      · cases h
    · cases h
end
end Go.Proofs.YtagokkpnfceidaaDoor
end

section
namespace Go.Proofs.YtagokkpnfceidaaDoor
open Go.RowKit

/-- The outcome does not hang on memory. -/
def Pur (X : S → (D → S → Prop) → Prop) : Prop := ∀ s K, X s K → ∃ d, K d s ∧ ∀ s' K', K' d s' → X s' K'
theorem Pur.false : Pur fun _ _ => False := fun _ _ h => h.elim
theorem Pur.ret (d : D) : Pur fun s K => K d s := fun _ _ h => ⟨d, h, fun _ _ h => h⟩
theorem Pur.and {p : Prop} {X : S → (D → S → Prop) → Prop} (h : p → Pur X) : Pur fun s K => p ∧ X s K := fun s K ⟨hp, hx⟩ =>
  let ⟨d, h1, h2⟩ := h hp s K hx
  ⟨d, h1, fun s' K' hk => ⟨hp, h2 s' K' hk⟩⟩
theorem Pur.ex {α : Type} {X : α → S → (D → S → Prop) → Prop} (h : ∀ x, Pur (X x)) : Pur fun s K => ∃ x, X x s K := fun s K ⟨x, hx⟩ =>
  let ⟨d, h1, h2⟩ := h x s K hx
  ⟨d, h1, fun s' K' hk => ⟨x, h2 s' K' hk⟩⟩
theorem Pur.ite {p : Prop} [Decidable p] {X Y : S → (D → S → Prop) → Prop} (hx : p → Pur X) (hy : ¬ p → Pur Y) : Pur fun s K => if p then X s K else Y s K := by
  by_cases h : p
  · simp only [h, if_true]; exact hx h
  · simp only [h, if_false]; exact hy h

section
variable {tb : Tbl}
theorem aPlace_pur (x : D) (n : Nat) : Pur fun s K => aPlace x n s K := by
  unfold aPlace; split <;> first | exact .false | exact .ret _
theorem aFieldAddr_pur (t : Nat) (x : D) (f : Nat) : Pur fun s K => aFieldAddr tb t x f s K := by
  unfold aFieldAddr
  split
  · split
    · split
      · split
        · exact .ite (fun _ => .false) (fun _ => aPlace_pur _ _)
        · exact .false
      · exact .false
    · exact .false
  · exact .false
theorem aPart_pur (ti : TI) (x : D) (off : Nat) : Pur fun s K => aPart ti x off s K := by
  unfold aPart
  split
  · split
    · exact .ite (fun _ => .ret _) (fun _ => .false)
    · split
      · exact .ret _
      · exact .false
  · exact .false
theorem aField_pur (t : Nat) (x : D) (f : Nat) : Pur fun s K => aField tb t x f s K := by
  unfold aField
  split
  · split
    · split
      · split
        · exact aPart_pur _ _ _
        · exact .false
      · exact .false
    · exact .false
  · exact .false
theorem aIndexAddr_pur (t : Nat) (x i : D) : Pur fun s K => aIndexAddr tb t x i s K := by
  unfold aIndexAddr
  split
  · split
    · split
      · exact .ex fun _ => .and fun _ => .and fun _ => .and fun _ => .and fun _ => .ret _
      · exact .ex fun _ => .and fun _ => .and fun _ => .and fun _ => .and fun _ => .ret _
      · exact .ex fun _ => .and fun _ => .and fun _ => .and fun _ => .ret _
      · exact .false
    · split
      · exact .and fun _ => .and fun _ => aPlace_pur _ _
      · exact .false
    · exact .false
  · exact .false
theorem aIndex_pur (t : Nat) (x i : D) : Pur fun s K => aIndex tb t x i s K := by
  unfold aIndex
  split
  · split
    · exact .ex fun _ => .and fun _ => .and fun _ => .ret _
    · split
      · exact .and fun _ => .and fun _ => aPart_pur _ _ _
      · exact .false
    · exact .false
  · exact .false
theorem aSlice_pur (t : Nat) (x : D) (lo hi : Option D) : Pur fun s K => aSlice tb t x lo hi s K := by
  unfold aSlice
  split
  · split
    · exact .and fun _ => .ret _
    · split
      · exact .and fun _ => .and fun _ => .ret _
      · exact .false
    · split
      · exact .and fun _ => .and fun _ => .ret _
      · exact .false
    · exact .false
  · exact .false
theorem aBin_pur (op : BinOp) (a b : Value) : Pur fun s K => aBin op a b fun u => K (.p (.v u)) s := by
  unfold aBin
  split <;> first
    | exact .false
    | exact .ret _
    | exact .and fun _ => .ret _
    | exact .ite (fun _ => .ret _) (fun _ => .false)
    | exact .ite (fun _ => .and fun _ => .ret _) (fun _ => .false)
theorem aBinOp0_pur (op : BinOp) (t : Nat) (x y : D) : Pur fun s K => aBinOp0 tb op t x y s K := by
  unfold aBinOp0
  split
  · split
    · split
      · exact .ret _
      · exact .false
    · split
      · exact .ret _
      · exact .false
    · exact .false
  · exact aBin_pur _ _ _
  · exact .false
theorem eqK_pur (op : BinOp) (b : Bool) : Pur fun s (K : D → S → Prop) => eqK op b fun b => K (.p (.v (.bool b))) s := by
  unfold eqK
  split <;> first | exact .ret _ | exact .false
theorem aBinOp_pur (op : BinOp) (t : Nat) (x y : D) : Pur fun s K => aBinOp tb op t x y s K := by
  unfold aBinOp
  split
  · split
    · split
      · split
        · exact .and fun _ => eqK_pur _ _
        · exact .false
      · exact .false
    · exact .false
  · exact .and fun _ => eqK_pur _ _
  · exact .and fun _ => eqK_pur _ _
  · exact .and fun _ => eqK_pur _ _
  · exact aBinOp0_pur _ _ _ _
theorem aUn_pur (op : UnOp) (x : D) : Pur fun s K => aUn op x s K := by
  unfold aUn; split <;> first | exact .false | exact .ret _
theorem aLen_pur (t : Nat) (x : D) : Pur fun s K => aLen tb t x s K := by
  unfold aLen
  split
  · split <;> first | exact .false | exact .ret _
  · exact .false
theorem aMinMax3_pur (m : Bool) (x y z : D) : Pur fun s K => aMinMax3 m x y z s K := by
  unfold aMinMax3; split <;> first | exact .false | exact .ret _
theorem aMinMax_pur (m : Bool) (x y : D) : Pur fun s K => aMinMax m x y s K := by
  unfold aMinMax; split <;> first | exact .false | exact .ret _
theorem aConv_pur (src dst : Nat) (x : D) : Pur fun s K => aConv tb src dst x s K := by
  unfold aConv
  split
  · split
    · exact .ret _
    · exact .ret _
    · split
      · split
        · split
          · exact .ex fun _ => .and fun _ => .ret _
          · exact .false
        · exact .false
      · exact .false
    · split
      · split
        · split
          · exact .ex fun _ => .and fun _ => .ret _
          · exact .false
        · exact .false
      · exact .false
    · split
      · split
        · exact .and fun _ => .ret _
        · exact .false
      · exact .false
    · exact .false
  · exact .false
theorem aExtract_pur (x : D) (i : Nat) : Pur fun s K => aExtract x i s K := by
  unfold aExtract
  split
  · split
    · exact .ret _
    · exact .false
  · exact .false
theorem aMakeFunc_pur (f : Fn) (a b : Option (List D)) : Pur fun s K => aMakeFunc f a b s K := by
  unfold aMakeFunc; split <;> first | exact .false | exact .ret _
theorem aNilCheck_pur (x : D) : Pur fun s K => aNilCheck x s K := by
  unfold aNilCheck; split <;> first | exact .false | exact .ret _ | exact .and fun _ => .ret _
theorem aBuild_pur (t : Nat) (ps : Option (List (Nat × D))) : Pur fun s K => aBuild tb t ps s K := by
  unfold aBuild
  split
  · split
    · split
      · split
        · split
          · split
            · exact .ret _
            · exact .false
          · exact .false
        · split
          · split
            · exact .ret _
            · exact .false
          · exact .false
        · exact .false
      · exact .false
    · exact .false
  · exact .false
theorem aMakeSlice_pur (t : Nat) (l c : D) : Pur fun s K => aMakeSlice tb t l c s K := by
  unfold aMakeSlice
  split
  · split
    · split
      · split
        · split
          · exact .and fun _ => .and fun _ => .ret _
          · exact .false
        · exact .false
      · exact .false
    · exact .false
  · exact .false
theorem aBuildSlice_pur (t n : Nat) (ps : Option (List (Nat × D))) : Pur fun s K => aBuildSlice tb t n ps s K := by
  unfold aBuildSlice
  split
  · split
    · split
      · split
        · split
          · refine .ite (fun _ => ?_) (fun _ => .false)
            split
            · split
              · exact .ret _
              · exact .ite (fun _ => .ret _) (fun _ => .false)
            · exact .false
          · exact .false
        · exact .false
      · exact .false
    · exact .false
  · exact .false
theorem aLoadV_pur (ti : TI) (cs : List V) : Pur fun s K => aLoadV ti cs fun v => K (.p v) s := by
  unfold aLoadV
  split
  · exact .ite (fun _ => .ret _) (fun _ => .false)
  · split
    · exact .ret _
    · exact .false
theorem aLoadD_pur (ti : TI) (cs : List D) : Pur fun s K => aLoadD ti cs fun v => K v s := by
  unfold aLoadD
  split
  · exact .false
  · split
    · exact .ite (fun _ => .ret _) (fun _ => .false)
    · split
      · exact .ret _
      · exact .false
/-- Does it read variables, turn variables, turn tokens? -/
structure Fl where
  rd : Bool
  wr : Bool
  tk : Bool
def flags : Op → Fl
  | .load _ _ => ⟨true, false, false⟩
  | .alloc _ | .box _ _ | .store _ _ _ => ⟨true, true, false⟩
  | .call c => match c.callee with
    | .builtin .append => ⟨false, false, true⟩
    | .value _ => ⟨true, false, false⟩
    | _ => ⟨false, false, false⟩
  | _ => ⟨false, false, false⟩
/-- The outcome hangs on just the memory that the flags name. -/
def Loc (f : Fl) (X : S → (D → S → Prop) → Prop) : Prop := ∀ s K, X s K → ∃ d s1, K d s1 ∧ (f.wr = false → s1.heap = s.heap) ∧ (f.tk = false → s1.live = s.live) ∧
  ∀ (s' : S) K', (f.rd = true → s'.heap = s.heap) → (f.tk = true → s'.live = s.live) → K' d ⟨if f.wr then s1.heap else s'.heap, if f.tk then s1.live else s'.live⟩ → X s' K'
theorem Pur.loc {X : S → (D → S → Prop) → Prop} (h : Pur X) (rd : Bool) : Loc ⟨rd, Bool.false, Bool.false⟩ X := fun s K hx =>
  let ⟨d, h1, h2⟩ := h s K hx
  ⟨d, s, h1, fun _ => rfl, fun _ => rfl, fun s' K' _ _ hk => h2 s' K' hk⟩
theorem Loc.false (f : Fl) : Loc f fun _ _ => False := fun _ _ h => h.elim
theorem aBox_loc (t : Nat) (d : D) : Loc ⟨true, true, false⟩ fun s K => aBox tb t d s K := by
  unfold aBox
  split
  · intro s K h
    refine ⟨_, _, h, (fun h => by cases h), fun _ => rfl, fun s' K' h1 _ hk => ?_⟩
    have h2 := h1 rfl
    simp only [h2]
    exact hk
  · exact .false _
theorem aAlloc_loc (t : Nat) : Loc ⟨true, true, false⟩ fun s K => aAlloc tb t s K := by
  unfold aAlloc
  split
  · split
    · split
      · intro s K h
        refine ⟨_, _, h, (fun h => by cases h), fun _ => rfl, fun s' K' h1 _ hk => ?_⟩
        have h2 := h1 rfl
        simp only [h2]
        exact hk
      · exact .false _
    · exact .false _
  · exact .false _
theorem aStore_loc (t : Nat) (x y : D) : Loc ⟨true, true, false⟩ fun s K => aStore tb t x y s K := by
  intro s K h
  unfold aStore at h ⊢
  split at h
  · rename_i ti nm off cs ht hy
    split at h
    · rename_i ds hs
      split at h
      rotate_left
      · exact h.elim
      rename_i hnm
      split at h
      · rename_i hc
        refine ⟨_, _, h, (fun h => by cases h), fun _ => rfl, fun s' K' h1 _ hk => ?_⟩
        have h2 := h1 rfl
        rw [← h2] at hs
        simp only [hs, hnm]
        rw [if_pos hc, h2]
        exact hk
      · exact h.elim
    · exact h.elim
  · exact h.elim
theorem aApp_loc (t : Nat) (x y : D) : Loc ⟨false, false, true⟩ fun s K => aApp tb t x y s K := by
  intro s K h
  unfold aApp at h ⊢
  split at h
  · rename_i ti full fs ht hy
    split at h
    · rename_i e hd
      split at h
      · rename_i te he
        split at h
        · rename_i hz
          split at h
          · rename_i tk e' sz es
            split at h
            · rename_i he'
              obtain ⟨h1, h2, h3⟩ := h
              refine ⟨_, _, h3, fun _ => rfl, (fun h => by cases h), fun s' K' _ k2 hk => ?_⟩
              have k3 := k2 rfl
              simp only [hz, and_self, if_true, he', k3]
              exact ⟨h1, h2, hk⟩
            · exact h.elim
          · rename_i es
            obtain ⟨h0, h1, h2, h3⟩ := h
            refine ⟨_, _, h3, fun _ => rfl, (fun h => by cases h), fun s' K' _ k2 hk => ?_⟩
            have k3 := k2 rfl
            simp only [hz, and_self, if_true, k3]
            exact ⟨h0, h1, h2, hk⟩
          · exact h.elim
        · exact h.elim
      · exact h.elim
    · exact h.elim
  · exact h.elim
theorem aAppS_loc (t t' : Nat) (x y : D) : Loc ⟨false, false, true⟩ fun s K => aAppS tb t t' x y s K := by
  intro s K h
  unfold aAppS at h ⊢
  split at h
  · rename_i ti tu z ht htu
    split at h
    · rename_i e hd hdu
      split at h
      · rename_i te he
        split at h
        · rename_i hz
          split at h
          · rename_i tk e' sz es
            split at h
            · rename_i he'
              obtain ⟨h1, h2, h3⟩ := h
              refine ⟨_, _, h3, fun _ => rfl, (fun h => by cases h), fun s' K' _ k2 hk => ?_⟩
              have k3 := k2 rfl
              dsimp only
              rw [if_pos hz, if_pos he', k3]
              exact ⟨h1, h2, hk⟩
            · exact h.elim
          · rename_i es
            obtain ⟨h0, h1, h2, h3⟩ := h
            refine ⟨_, _, h3, fun _ => rfl, (fun h => by cases h), fun s' K' _ k2 hk => ?_⟩
            have k3 := k2 rfl
            dsimp only
            rw [if_pos hz, k3]
            exact ⟨h0, h1, h2, hk⟩
          · exact h.elim
        · exact h.elim
      · exact h.elim
    · exact h.elim
  · exact h.elim
theorem aCall_loc {P : Program} (c : Call) (e : Operand → Option D) : Loc ⟨true, false, false⟩ fun s K => aCall false P c e s K := by
  intro s K h
  unfold aCall at h ⊢
  split at h
  · split at h
    · obtain ⟨r, s', hc, hK⟩ := h
      obtain ⟨rfl, hq⟩ := hc.quiet rfl
      refine ⟨r, s', hK, fun _ => rfl, fun _ => rfl, fun s2 K' h1 _ hk => ?_⟩
      have h2 : s2.heap = s'.heap := h1 rfl
      have h3 : s2 = ⟨s'.heap, s2.live⟩ := by rw [← h2]
      refine ⟨r, s2, ⟨by rw [h3]; exact hq _, fun _ => ⟨rfl, fun live => by rw [h2]; exact hq live⟩⟩, hk⟩
    · cases h.1
    · exact h.elim
  · exact h.elim
theorem aStep_loc {P : Program} (o : Op) (e : Operand → Option D) : Loc (flags o) fun s K => aStep false P tb o e s K := by
  unfold aStep
  split
  · rename_i c hc
    have hf : flags o = ⟨true, false, false⟩ := by
      cases o with
      | call c' =>
        simp only [isCall] at hc
        split at hc
        · rename_i f hf; simp [flags, hf]
        · cases hc
      | _ => cases hc
    rw [hf]
    exact aCall_loc c e
  · rename_i hc
    unfold aOp
    split
    · split
      · exact (Pur.ret _).loc _
      · exact .false _
    · split
      · exact (Pur.ret _).loc _
      · exact .false _
    · split
      · split
        · exact (Pur.ret _).loc _
        · exact .false _
      · split
        · exact (Pur.ret _).loc _
        · exact .false _
      · exact .false _
    · exact aAlloc_loc _
    · split
      · exact aBox_loc _ _
      · exact .false _
    · exact (aBuild_pur _ _).loc _
    · exact (aBuildSlice_pur _ _ _).loc _
    · split
      · exact (aMakeSlice_pur _ _ _).loc _
      · exact .false _
    · split
      · exact (aLoadV_pur _ _).loc _
      · exact (Pur.and fun _ => .ret _).loc _
      · intro s K h
        split at h
        · rename_i ds hs
          obtain ⟨d, h1, h2⟩ := aLoadD_pur _ _ s K h
          refine ⟨d, s, h1, fun _ => rfl, fun _ => rfl, fun s' K' k1 _ hk => ?_⟩
          rw [← k1 rfl] at hs
          simp only [hs]
          exact h2 s' K' hk
        · exact h.elim
      · exact .false _
    · split
      · exact aStore_loc _ _ _
      · exact .false _
    · split
      · exact (aNilCheck_pur _).loc _
      · exact .false _
    · split
      · exact (aBinOp_pur _ _ _ _).loc _
      · exact .false _
    · split
      · exact (aUn_pur _ _).loc _
      · exact .false _
    · split
      · exact (aConv_pur _ _ _).loc _
      · exact .false _
    · exact (aMakeFunc_pur _ _ _).loc _
    · split
      · exact (aSlice_pur _ _ _ _).loc _
      · exact .false _
    · split
      · exact (aFieldAddr_pur _ _ _).loc _
      · exact .false _
    · split
      · exact (aField_pur _ _ _).loc _
      · exact .false _
    · split
      · exact (aIndexAddr_pur _ _ _).loc _
      · exact .false _
    · split
      · exact (aIndex_pur _ _ _).loc _
      · exact .false _
    · split
      · exact (aExtract_pur _ _).loc _
      · exact .false _
    · split
      · rename_i hcal _ _
        simp only [flags, hcal]
        exact (aLen_pur _ _).loc _
      · rename_i hcal _ _
        simp only [flags, hcal]
        split
        · exact aApp_loc _ _ _
        · exact aAppS_loc _ _ _ _
      · rename_i hcal _
        simp only [flags, hcal]
        exact (aMinMax_pur _ _ _).loc _
      · rename_i hcal _
        simp only [flags, hcal]
        exact (aMinMax_pur _ _ _).loc _
      · rename_i hcal _
        simp only [flags, hcal]
        exact (aMinMax3_pur _ _ _ _).loc _
      · exact .false _
    · exact .false _
end
end Go.Proofs.YtagokkpnfceidaaDoor
end
