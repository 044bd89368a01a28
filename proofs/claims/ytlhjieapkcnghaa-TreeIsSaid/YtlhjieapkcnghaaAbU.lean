/- The abstract layer, part 7: structs and rows that are built; appends. -/
import Derived.Test.YtlhjieapkcnghaaAbR
namespace Go.Proofs.Ytlhjieapkcnghaa
open Go.RowKit

section
variable {P : Program} {tb : Tbl}
/-! ### structs -/
def placesOf (tb : Tbl) : List Field → Option (List (Nat × Nat))
  | [] => some []
  | f :: r => match tb.lookup f.type, placesOf tb r with
    | some ti, some l => some ((f.offset, ti.size) :: l)
    | _, _ => none
theorem placesOf_eq (hT : TblOk P tb) : ∀ (l : List Field) (ps : List (Nat × Nat)), placesOf tb l = some ps → l.mapM (fun f => (P.info? f.type).map fun i => (f.offset, i.size)) = some ps
  | [], ps, h => by simp [placesOf] at h; subst h; rfl
  | f :: r, ps, h => by
    unfold placesOf at h
    split at h
    · rename_i ti l hf hl
      cases h
      obtain ⟨_, i, h1, h2, _⟩ := hT _ _ hf
      simp [List.mapM_cons, h1, h2, placesOf_eq hT r l hl]
    · cases h
def aBuild (tb : Tbl) (t : Nat) (ps : Option (List (Nat × D))) (s : S) (K : D → S → Prop) : Prop :=
  match tb.lookup t, ps with
  | some ti, some ps => match absV ti.zero with
    | some x => match dcells (.p x) with
      | some z => match ti.d with
        | .struct fields => match placesOf tb fields.toList with
          | some pl => match fillD (fun i => pl[i]?) z ps with
            | some cs => K (aggD cs) s
            | none => False
          | none => False
        | .array _ e => match tb.lookup e with
          | some te => match fillD (fun i => some (i * te.size, te.size)) z ps with
            | some cs => K (aggD cs) s
            | none => False
          | none => False
        | _ => False
      | none => False
    | none => False
  | _, _ => False
theorem aBuild_sound (hT : TblOk P tb) {G : Gh} {w : World} {s : S} (hI : Inv G s w) {K : D → S → Prop} {ev : Operand → Option D} {a : Act} (hev : ∀ x d, ev x = some d → DRel G w d (a.eval x)) (t : Nat) (parts : Array (Nat × Operand))
    (h : aBuild tb t (evps ev parts.toList) s K) : Out P G w ((Instr.build t (parts.map fun (i, x) => (i, a.eval x))).run P w) K := by
  unfold aBuild at h
  split at h
  · rename_i ti ps ht hps
    obtain ⟨hu, it, i1, i2, i3, i4, _⟩ := hT t ti ht
    split at h
    · rename_i x hx
      split at h
      · rename_i z hz
        have hzr : CellsRel G w z ti.zero.cells := dcells_rel (.p x _ (absV_rel hx)) hz
        have hparts : (parts.map fun (i, x) => (i, a.eval x)).toList = parts.toList.map fun (i, x) => (i, a.eval x) := by simp
        split at h
        · rename_i fields hd
          split at h
          · rename_i pl hpl
            split at h
            · rename_i cs hcs
              obtain ⟨zs, f1, f2⟩ := fillD_rel hev (fun i => pl[i]?) parts.toList ps z ti.zero.cells cs hps hzr hcs
              refine .pure hI _ (run_build w t _ zs ?_) f2.agg h
              rw [hd] at hu
              rw [hparts]
              simp only [Program.built, i1, hu, i4, placesOf_eq hT _ _ hpl]
              simpa using f1
            · exact h.elim
          · exact h.elim
        · rename_i n e hd
          split at h
          · rename_i te he
            split at h
            · rename_i cs hcs
              obtain ⟨zs, f1, f2⟩ := fillD_rel hev _ parts.toList ps z ti.zero.cells cs hps hzr hcs
              refine .pure hI _ (run_build w t _ zs ?_) f2.agg h
              rw [hd] at hu
              obtain ⟨_, ie, e1, e2, _⟩ := hT e te he
              rw [hparts]
              simp only [Program.built, i1, hu, i4, e1, e2]
              exact f1
            · exact h.elim
          · exact h.elim
        · exact h.elim
      · exact h.elim
    · exact h.elim
  · exact h.elim

/-! ### rows that are built -/
def chunk (size : Nat) : Nat → List V → List (List V)
  | 0, _ => []
  | n + 1, l => l.take size :: chunk size n (l.drop size)
theorem chunk_at (size : Nat) : ∀ (n : Nat) (l : List V), l.length = n * size → (chunk size n l).length = n ∧ (∀ e ∈ chunk size n l, e.length = size) ∧ ∀ (i k : Nat) e c, (chunk size n l)[i]? = some e → e[k]? = some c → l[i * size + k]? = some c
  | 0, l, _ => ⟨rfl, by simp [chunk], by simp [chunk]⟩
  | n + 1, l, h => by
    have hs : (n + 1) * size = size + n * size := by rw [Nat.add_mul]; omega
    obtain ⟨h1, h2, h3⟩ := chunk_at size n (l.drop size) (by simp; omega)
    refine ⟨by simp [chunk, h1], fun e he => ?_, fun i k e c he hc => ?_⟩
    · simp only [chunk, List.mem_cons] at he
      rcases he with rfl | he
      · simp; omega
      · exact h2 e he
    · cases i with
      | zero =>
        simp only [chunk, List.getElem?_cons_zero, Option.some.injEq] at he
        subst he
        rw [List.getElem?_take] at hc
        split at hc
        · simpa using hc
        · cases hc
      | succ i =>
        simp only [chunk, List.getElem?_cons_succ] at he
        have := h3 i k e c he hc
        rw [List.getElem?_drop] at this
        have e1 : (i + 1) * size + k = size + (i * size + k) := by rw [Nat.add_mul]; omega
        rw [e1]; exact this
theorem flat_rep {α : Type} (z : List α) : ∀ (n j : Nat), j < n * z.length → (List.replicate n z).flatten[j]? = z[j % z.length]?
  | 0, j, h => by simp at h
  | n + 1, j, h => by
    rw [List.replicate_succ, List.flatten_cons]
    by_cases hj : j < z.length
    · rw [List.getElem?_append_left hj, Nat.mod_eq_of_lt hj]
    · rw [List.getElem?_append_right (by omega), flat_rep z n (j - z.length) (by rw [Nat.add_mul] at h; omega), ← Nat.mod_eq_sub_mod (by omega)]
def aBuildSlice (tb : Tbl) (t n : Nat) (ps : Option (List (Nat × D))) (s : S) (K : D → S → Prop) : Prop :=
  match tb.lookup t, ps with
  | some ti, some ps => match ti.d with
    | .slice e => match tb.lookup e with
      | some te => match absV te.zero with
        | some x => match dcells (.p x) with
          | some z => if n * te.size ≤ 16777216 ∧ z.length = te.size ∧ 0 < te.size then
            match fillD (fun i => some (i * te.size, te.size)) (List.replicate n z).flatten ps with
              | some cs => match unps cs with
                | some vs => K (.p (.sl true (chunk te.size n vs))) s
                | none => False
              | none => False
            else False
          | none => False
        | none => False
      | none => False
    | _ => False
  | _, _ => False
theorem fillD_len (places : Nat → Option (Nat × Nat)) : ∀ (ps : List (Nat × D)) (ds cs : List D), fillD places ds ps = some cs → cs.length = ds.length
  | [], ds, cs, h => by simp [fillD] at h; rw [h]
  | (i, d) :: r, ds, cs, h => by
    unfold fillD at h
    simp only [forceL_eq] at h
    split at h
    · split at h
      · rename_i hc
        rw [fillD_len places r _ cs h]
        simp; omega
      · cases h
    · cases h
theorem aBuildSlice_sound (hT : TblOk P tb) {G : Gh} {w : World} {s : S} (hI : Inv G s w) {K : D → S → Prop} {ev : Operand → Option D} {a : Act} (hev : ∀ x d, ev x = some d → DRel G w d (a.eval x)) (t n : Nat) (parts : Array (Nat × Operand))
    (h : aBuildSlice tb t n (evps ev parts.toList) s K) : Out P G w ((Instr.buildSlice t n (parts.map fun (i, x) => (i, a.eval x))).run P w) K := by
  unfold aBuildSlice at h
  split at h
  · rename_i ti ps ht hps
    have hu := hT.und ht
    split at h
    · rename_i e hd
      rw [hd] at hu
      split at h
      · rename_i te he
        split at h
        · rename_i x hx
          split at h
          · rename_i z hz
            split at h
            · rename_i hc
              obtain ⟨hc1, hc2, hc3⟩ := hc
              split at h
              · rename_i cs hcs
                split at h
                · rename_i vs hvs
                  have hzr : CellsRel G w z te.zero.cells := dcells_rel (.p x _ (absV_rel hx)) hz
                  have hzs : te.zero.cells.size = te.size := by rw [hzr.1]; exact hc2
                  have hparts : (parts.map fun (i, x) => (i, a.eval x)).toList = parts.toList.map fun (i, x) => (i, a.eval x) := by simp
                  have hflen : (List.replicate n z).flatten.length = n * te.size := by simp [hc2]
                  obtain ⟨Z, hZ0, hZs⟩ : ∃ Z : Array Value, (n * te.size = 0 → Z = #[]) ∧ (n * te.size ≠ 0 → Z = te.zero.cells) := by
                    by_cases h0 : n * te.size = 0
                    · exact ⟨#[], fun _ => rfl, fun h => absurd h0 h⟩
                    · exact ⟨te.zero.cells, fun h => absurd h h0, fun _ => rfl⟩
                  have hbase : CellsRel G w (List.replicate n z).flatten ((Array.range (n * te.size)).map fun x => Z[x % Z.size]!) := by
                    refine ⟨by simp [hc2], fun j c u hcj hu' => ?_⟩
                    have hj : j < n * te.size := by rw [← hflen]; exact (List.getElem?_eq_some_iff.1 hcj).1
                    have hZe := hZs (by omega)
                    subst hZe
                    rw [flat_rep z n j (by rw [hc2]; exact hj), hc2] at hcj
                    have hm : j % te.size < te.zero.cells.size := by
                      rw [hzs]; have := (List.getElem?_eq_some_iff.1 hcj).1; omega
                    have hu2 : te.zero.cells[j % te.size]! = u := by
                      rw [Array.getElem?_map, Array.getElem?_range] at hu'
                      simpa only [hj, if_true, Option.map_some, Option.some.injEq, hzs] using hu'
                    rw [getElem!_pos te.zero.cells (j % te.size) hm] at hu2
                    exact hzr.2 _ c u hcj (by rw [Array.getElem?_eq_getElem hm, hu2])
                  obtain ⟨zs, f1, f2⟩ := fillD_rel hev _ parts.toList ps _ _ cs hps hbase hcs
                  have hcl : cs.length = n * te.size := by rw [fillD_len _ _ _ _ hcs, hflen]
                  obtain ⟨u1, u2⟩ := unps_rel (G := G) (w := w) cs vs hvs
                  obtain ⟨k1, k2, k3⟩ := chunk_at te.size n vs (by rw [u1, hcl])
                  obtain ⟨s1, s2⟩ := newRow_stp hI zs e
                  have hrun : (Instr.buildSlice t n (parts.map fun (i, x) => (i, a.eval x))).run P w = .ok (.slice (some ⟨w.heap.size, 0, none⟩) n n) (w.alloc (.cells zs e)) := by
                    have hn : ¬ (n * te.size > 2 ^ 24) := by omega
                    simp only [Instr.buildSlice, Sem.run_bind, run_underlying hu, Result.andThen_ok, hT.sz he, hn, if_false]
                    by_cases h0 : n * te.size = 0
                    · have := hZ0 h0; subst this
                      rw [if_pos h0]
                      simp only [Sem.run_bind, Sem.run_pure, Result.andThen_ok, hparts, f1]
                      rfl
                    · have := hZs h0; subst this
                      rw [if_neg h0]
                      simp only [Sem.run_bind, Sem.run_pure, Result.andThen_ok, hT.zr he, hparts, f1]
                      rfl
                  refine ⟨_, _, _, _, _, hrun, s1, s2, .p _ _ ?_, h⟩
                  have hr := row_rel (C := (G.with w.heap.size).com) (w := w.alloc (.cells zs e)) w.heap.size zs e (0, 0) (heap_alloc_new w _) (fun o => .inr rfl) true (chunk te.size n vs) te.size n (by rw [k1]; exact Nat.le_refl _)
                    (by have := Nat.le_mul_of_pos_right n hc3; unfold maxLen; omega) (fun _ => k1.symm) k2 (fun i k e' c he' hc' => ?_)
                  · rw [k1] at hr; exact hr
                  · have hv := k3 i k e' c he' hc'
                    obtain ⟨d, hd', hun⟩ := u2 _ c hv
                    have hlt : i * te.size + k < zs.size := by rw [f2.1]; exact (List.getElem?_eq_some_iff.1 hd').1
                    obtain ⟨o1, o2⟩ := f2.2 _ d zs[i * te.size + k] hd' (Array.getElem?_eq_getElem hlt)
                    exact ⟨_, Array.getElem?_eq_getElem hlt, o1, (unp_rel o2 hun).mono s1.ext.size s1.ext.com⟩
                · exact h.elim
              · exact h.elim
            · exact h.elim
          · exact h.elim
        · exact h.elim
      · exact h.elim
    · exact h.elim
  · exact h.elim
end
end Go.Proofs.Ytlhjieapkcnghaa
