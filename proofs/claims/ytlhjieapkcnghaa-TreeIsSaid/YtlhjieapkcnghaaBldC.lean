/- strings.Builder: copyCheck and String as functions that are handed variables. -/
import Derived.Test.YtlhjieapkcnghaaBldB
namespace Go.Proofs.Ytlhjieapkcnghaa
open Go.RowKit

theorem b2s_cells {a : List Int} {l : List UInt8} (h : b2s a = some l) : a.map (cNum .u8) = l.map byteV := by
  unfold b2s at h
  split at h
  · rename_i hc
    cases h
    rw [List.map_map]
    refine List.map_congr_left fun n hn => ?_
    have := List.all_eq_true.1 hc n hn
    simp only [decide_eq_true_eq] at this
    simp [cNum, byteV, nV]
    omega
  · cases h
theorem sliceData_none {P : Program} (w : World) (ts : Array TypeId) (ty e : TypeId) (hp : P.underlying ty = some (.pointer e)) (a : Addr) (n : Nat) (hlt : a.block < w.heap.size) :
    ∃ q w1, (Builtin.unsafeSliceData_ ts ty #[.slice (some a) n 0]).run P w = .ok (.pointer q) w1 ∧ (w1 = w ∨ w1 = w.alloc (.view a e)) := by
  cases hsh : w.shape? a.block with
  | some sh => exact ⟨_, _, Lib.run_unsafeSliceData_zero w ts ty e hp a n sh hsh, .inr rfl⟩
  | none =>
    have hdef : Builtin.unsafeSliceData_ ts ty #[.slice (some a) n 0] =
        (do
          if (0 : Nat) ≠ 0 then pure (.pointer (some a))
          else if (← viewAt a.block).isSome then pure (.pointer (some a))
          else pure (.pointer (some ⟨← newObj (.view a (← elemOf ty)), 0, none⟩))) := rfl
    rw [hdef]
    obtain ⟨o, ho⟩ : ∃ o, w.heap[a.block]? = some o := ⟨_, Array.getElem?_eq_getElem hlt⟩
    have hg : ∀ c t f, o ≠ .cells c t f := fun c t f h => by
      subst h
      unfold World.shape? at hsh
      rw [ho] at hsh; cases hsh
    have hgo : (getObj a.block).run P w = .ok o w := by
      unfold getObj
      simp only [Sem.run, ho]
    by_cases hv : ∃ b t, o = .view b t
    · obtain ⟨b, t, rfl⟩ := hv
      refine ⟨some a, w, ?_, .inl rfl⟩
      simp [viewAt, hsh, hgo]
    · refine ⟨some ⟨w.heap.size, 0, none⟩, _, ?_, .inr rfl⟩
      have hva : (viewAt a.block).run P w = .ok none w := by
        simp only [viewAt]
        simp [hsh, hgo]
        cases o <;> first | rfl | exact absurd ⟨_, _, rfl⟩ hv
      simp [hva, elemOf, run_underlying hp]
theorem copyCheck_ok (h : List (List D)) (live : List Nat) (nm : Nat) {b : Bool} (ds : List D) (hds : h[nm]? = some ds) (hof : ds[0]? = some (.sp Try.prog 67 b nm 0)) :
    CallOK Try.prog 76 [.ptr nm 0] ⟨h, live⟩ (.tup []) ⟨h.set nm (ds.set 0 (.sp Try.prog 67 true nm 0)), live⟩ := by
  refine ⟨by kernel_rfl, fun G w us hI hl hrel => ?_⟩
  obtain ⟨u, rfl⟩ : ∃ u, us = #[u] := ⟨us[0]'(by rw [hl]; exact Nat.zero_lt_one), by
    apply Array.ext (by simpa using hl)
    intro i h1 h2
    have : i = 0 := by simp at h2; omega
    subst this; rfl⟩
  have hp := hrel 0 _ u rfl rfl
  cases hp with
  | ptr _ _ k hk =>
    obtain ⟨vs, ty, v1, v2, v3⟩ := hI.var nm k ds hk hds
    have hlt : 0 < vs.size := by rw [v2]; exact (List.getElem?_eq_some_iff.1 hof).1
    have hc := v3 0 _ vs[0] hof (Array.getElem?_eq_getElem hlt)
    have hcell : w.cell? ⟨k, 0, none⟩ = some vs[0] := by
      rw [cell_of_row w k 0 vs ty (0, 0) v1]; exact Array.getElem?_eq_getElem hlt
    cases hc.2 with
    | sp _ _ _ _ _ i e n _ h1 h2 h3 h4 h5 h6 =>
      have hik : i = k := by rw [hk] at h1; exact (Option.some.inj h1).symm
      subst hik
      cases b with
      | true =>
        rw [h6 rfl] at hcell
        refine (copyCheck_used i w hcell).mono ?_
        rintro e w' ⟨rfl, rfl⟩
        refine ⟨_, G, rfl, .refl G _, ?_, .tup _ _ rfl (fun j c u hc => by simp at hc)⟩
        refine hI.setCell (s := ⟨h, live⟩) hds fun u hu => ?_
        obtain ⟨c, hc, hu⟩ := hu
        rw [hof] at hc
        cases hc
        exact hu
      | false =>
        rw [h5 rfl] at hcell
        refine (copyCheck_fresh i e n w hcell h2 h3 h4 (by simp [World.frozen?, v1])).mono ?_
        rintro e' w' ⟨rfl, rfl⟩
        have hset : (w.setCell ⟨i, 0, none⟩ (.pointer (some ⟨i, 0, none⟩))).heap[i]? = some (.cells (vs.setIfInBounds 0 (.pointer (some ⟨i, 0, none⟩))) ty (0, 0)) := by
          simp [World.setCell, Array.getElem?_modify, v1]
        have hoth : ∀ b, b ≠ i → (w.setCell ⟨i, 0, none⟩ (.pointer (some ⟨i, 0, none⟩))).heap[b]? = w.heap[b]? := fun b hb => by
          simp [World.setCell, Array.getElem?_modify, Ne.symm hb]
        obtain ⟨s1, s2⟩ := store_stp hI nm i hk vs ty v1 (ds.set 0 (.sp Try.prog 67 true nm 0)) (vs.setIfInBounds 0 (.pointer (some ⟨i, 0, none⟩))) (by simp [v2]) (by simp) (fun j c u hc hu => by
          by_cases hj : j = 0
          · subst hj
            rw [List.getElem?_set_self (by rw [← v2]; exact hlt)] at hc
            cases hc
            rw [Array.getElem?_setIfInBounds_self_of_lt hlt] at hu
            cases hu
            exact ⟨rfl, .sp _ _ _ _ _ i e n _ hk h2 h3 h4 (fun h => by cases h) (fun _ => rfl)⟩
          · rw [List.getElem?_set_ne (fun e => hj e.symm)] at hc
            rw [Array.getElem?_setIfInBounds_ne (fun e => hj e.symm)] at hu
            exact v3 j c u hc hu) (w.setCell ⟨i, 0, none⟩ (.pointer (some ⟨i, 0, none⟩))) rfl rfl rfl (by simp [World.setCell]) hset hoth
        exact ⟨_, G, rfl, s1, s2, .tup _ _ rfl (fun j c u hc => by simp at hc)⟩
theorem builderString_ok (h : List (List D)) (live : List Nat) (nm t : Nat) (ds : List D) (es : List (List V)) {l : List UInt8} (hds : h[nm]? = some ds) (hof : ds[1]? = some (.own t 5 1 es)) (hlv : live[t]? = some es.length) (hes : es = l.map byteV) :
    CallOK Try.prog 45 [.ptr nm 0] ⟨h, live⟩ (.p (.v (strOf l))) ⟨h.set nm (ds.set 1 (.p (.sl false es))), live.set t (es.length + 1)⟩ := by
  refine ⟨by kernel_rfl, fun G w us hI hl hrel => ?_⟩
  obtain ⟨u, rfl⟩ : ∃ u, us = #[u] := ⟨us[0]'(by rw [hl]; exact Nat.zero_lt_one), by
    apply Array.ext (by simpa using hl)
    intro i h1 h2
    have : i = 0 := by simp at h2; omega
    subst this; rfl⟩
  have hp := hrel 0 _ u rfl rfl
  have hln : es.length = l.length := by rw [hes, List.length_map]
  cases hp with
  | ptr _ _ k hk =>
    obtain ⟨vs, ty, v1, v2, v3⟩ := hI.var nm k ds hk hds
    have hlt : 1 < vs.size := by rw [v2]; exact (List.getElem?_eq_some_iff.1 hof).1
    have hc := (v3 1 _ vs[1] hof (Array.getElem?_eq_getElem hlt)).2
    have hcell : w.cell? ⟨k, 1, none⟩ = some vs[1] := by
      rw [cell_of_row w k 1 vs ty (0, 0) v1]; exact Array.getElem?_eq_getElem hlt
    obtain ⟨v, hv⟩ : ∃ v, v = vs[1] := ⟨_, rfl⟩
    rw [← hv] at hcell hc
    cases hc with
    | own _ _ _ _ _ T x1 x2 x3 x0 x4 x5 =>
      have hlen : es.length = T.len := by
        have : (G.tok.map (·.len))[t]? = some T.len := by rw [List.getElem?_map, x3]; rfl
        rw [hI.live, hlv] at this
        exact Option.some.inj this
      obtain ⟨a, cap, rfl, hO⟩ := x5 hlen
      obtain ⟨a2, cap2, e2, c1, c2, -⟩ := x1.isSlice
      cases e2
      -- what is common to all ends
      have fin : ∀ w' : World, w'.os = w.os → w'.tape = w.tape → w'.output = w.output → w.heap.size ≤ w'.heap.size → (∀ b, b < w.heap.size → T.blk ≠ some b → w'.heap[b]? = w.heap[b]?) →
          (∀ g, T.blk = some g → ∀ o u, w.cell? ⟨g, o, none⟩ = some u → w'.cell? ⟨g, o, none⟩ = some u) → ShKept w w' → ∃ u G', Ending.returned (.string ⟨l.toArray⟩) = .returned u ∧ Stp G w G' w' ∧ Inv G' ⟨h.set nm (ds.set 1 (.p (.sl false es))), live.set t (es.length + 1)⟩ w' ∧ DRel G' w' (.p (.v (strOf l))) u := fun w' k1 k2 k3 k4 k5 k6 k7 => by
        obtain ⟨s1, s2⟩ := retire_stp hI x3 x0 k1 k2 k3 k4 k5 k6 k7
        rw [← hlen] at s1 s2
        refine ⟨_, _, rfl, s1, s2.setCell (s := ⟨h, live.set t (es.length + 1)⟩) hds fun u hu => ?_, .p _ _ (.v _ rfl)⟩
        obtain ⟨c, hc, hu⟩ := hu
        rw [hof] at hc
        cases hc
        cases hu with
        | own _ _ _ _ _ _ y1 => exact .p _ _ y1
      have hcd : w.drew.cell? ⟨k, 1, none⟩ = some (.slice a es.length cap) := hcell
      have hb := Try.underlying109
      by_cases h0 : es.length = 0
      · have hl0 : l = [] := List.eq_nil_of_length_eq_zero (by omega)
        subst hl0
        have hUS : ∀ q (W : World), (Builtin.unsafeString_ #[109, 3] 9 #[.pointer q, .int .i64 es.length]).run Try.prog W = .ok (.string ⟨#[]⟩) W := fun q W => by rw [h0]; exact Lib.run_unsafeString_none W _ _ _ q
        have plain : ∀ q, (Builtin.unsafeSliceData_ #[49] 109 #[.slice a es.length cap]).run Try.prog w.drew = .ok (.pointer q) w.drew → Calls Try.prog 45 #[.pointer (some ⟨k, 0, none⟩)] w fun e w' => ∃ u G', e = .returned u ∧ Stp G w G' w' ∧ Inv G' ⟨h.set nm (ds.set 1 (.p (.sl false es))), live.set t (es.length + 1)⟩ w' ∧ DRel G' w' (.p (.v (strOf []))) u := fun q hSD => by
          refine (string_walk k es.length cap a q ⟨#[]⟩ w w.drew w.drew hcd hcd hSD (hUS q _)).mono ?_
          rintro e w' ⟨rfl, rfl⟩
          exact fin w.drew rfl rfl rfl (Nat.le_refl _) (fun _ _ _ => rfl) (fun _ _ _ _ h => h) (fun _ _ h => h)
        cases a with
        | none => exact plain none rfl
        | some ad =>
          by_cases hc0 : cap = 0
          · subst hc0
            have hlt : ad.block < w.drew.heap.size := by
              rcases hO with hO | ⟨g, us, T', e1, -, -, -, e5, -⟩ | hO
              · exact hO.2 ad rfl
              · cases e1; exact (Array.getElem?_eq_some_iff.1 e5).1
              · exact absurd hO.1 (by decide)
            obtain ⟨q, w1, hSD, hw1⟩ := sliceData_none w.drew #[49] 109 5 hb ad es.length hlt
            rcases hw1 with rfl | rfl
            · exact plain q hSD
            · have hk2 : k < w.heap.size := (Array.getElem?_eq_some_iff.1 v1).1
              have hc2 : (w.drew.alloc (.view ad 5)).cell? ⟨k, 1, none⟩ = some (.slice (some ad) es.length 0) := (cellAlloc w.drew _ k 1 hk2).trans hcd
              refine (string_walk k es.length 0 (some ad) _ ⟨#[]⟩ w _ _ hcd hc2 hSD (hUS _ _)).mono ?_
              rintro e w' ⟨rfl, rfl⟩
              have hh : ∀ b, b < w.heap.size → (w.drew.alloc (.view ad 5)).heap[b]? = w.heap[b]? := fun b hb => by
                rw [heapAlloc, if_neg (by show ¬ b = w.heap.size; omega)]; rfl
              refine fin _ rfl rfl rfl (by simp) (fun b hb _ => hh b hb) (fun g hg o u hu => ?_) (shAlloc w.drew _)
              exact (cellAlloc w.drew _ g o (cellLt hu)).trans hu
          · exact plain (some ad) (Lib.run_unsafeSliceData_row _ _ _ _ _ _ hc0)
      · rcases hO with hO | ⟨g, us, T', e1, e2, e3, e4, e5, e6⟩ | hO
        · omega
        rotate_left
        · exact absurd hO.1 (by decide)
        · rw [rowTy_lt (by decide)] at e5
          subst e1
          rw [x3] at e2
          cases e2
          have hSD : (Builtin.unsafeSliceData_ #[49] 109 #[.slice (some ⟨g, 0, none⟩) es.length cap]).run Try.prog w.drew = .ok (.pointer (some ⟨g, 0, none⟩)) w.drew := Lib.run_unsafeSliceData_row _ _ _ _ _ _ (by omega)
          have hl0 : l ≠ [] := fun h' => by subst h'; exact h0 (by rw [hln]; rfl)
          have hcl : ∀ (j : Nat) x, l[j]? = some x → w.drew.cell? ((⟨g, 0, none⟩ : Addr).add j) = some (.int .u8 x.toNat) := fun j x hx => by
            have he : es[j]? = some (byteV x) := by rw [hes, List.getElem?_map, hx]; rfl
            obtain ⟨olds, o1, o2, o3, o4⟩ := x1.flat 1 x2 (by decide)
            obtain ⟨u, hu, hr⟩ := o2 j 0 _ _ he (show (byteV x)[0]? = some _ from rfl)
            have hux : u = .int .u8 x.toNat := by cases hr; rfl
            subst hux
            rcases o4 with o4 | ⟨b, off, q1, q2⟩
            · omega
            · cases q1
              have := (q2 _ _ hu).1
              rw [addAt]
              simpa using this
          have hUS := Lib.run_unsafeString_row (P := Try.prog) w.drew 109 3 9 5 hb (by kernel_rfl) g us.size (shape_of (w := w.drew) e5) l hl0 (by rw [e6]; omega) (by unfold maxLen at c2; omega) hcl
          rw [← hln] at hUS
          have hgk : k ≠ g := fun e => (hI.tok t T g x3 (.inl e3)).2.1 (e ▸ List.mem_of_getElem? hk)
          refine (string_walk k es.length cap _ _ ⟨l.toArray⟩ w w.drew _ hcd hcd hSD hUS).mono ?_
          rintro e w' ⟨rfl, rfl⟩
          obtain ⟨f1, f2, f3, f4, f5, f6⟩ := freeze_heap (w := w.drew) (n := es.length) e5 h0
          refine fin _ f4 f5 f6 (Nat.le_of_eq f3.symm) (fun b _ hb => f2 b fun e => hb (e ▸ e3)) (fun g' hg' o u hu => ?_) (fun b sh hb => ?_)
          · rw [e3] at hg'
            cases hg'
            rw [cell_of_row w g o us 5 (0, 0) e5] at hu
            rw [cell_of_row _ g o us 5 _ f1]; exact hu
          · by_cases hbg : b = g
            · subst hbg
              rw [shape_of e5] at hb
              rw [shape_of f1]; exact hb
            · rw [shape_eq (w := w) (f2 b hbg)]; exact hb
end Go.Proofs.Ytlhjieapkcnghaa
