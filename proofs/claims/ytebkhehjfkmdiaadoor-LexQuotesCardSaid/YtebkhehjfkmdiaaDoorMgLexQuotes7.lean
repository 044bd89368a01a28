/- The proof's texts, part 7 of 10: the walks by a logic in which data are by value, the plain laws, and at the end the law, for every input. -/
import Derived.Test.YtebkhehjfkmdiaaDoorMgLexQuotes6
import Derived.Shelf.Strings.Builder1
import Derived.Shelf.Strings.Builder2
import Derived.Shelf.Strings.OnBuilder
import Derived.Shelf.Strings.Trim
import Derived.Shelf.Small.Utf8
import Derived.Shelf.Small.Strs
import Derived.Shelf.Small.Wraps
import Derived.Shelf.Strings.BuilderF
import Derived.Shelf.Strings.BuilderK
import Derived.Shelf.Utf8.RuneCount
import Derived.Shelf.Strings.Builder2Cap
import Derived.Shelf.Strings.Search1
import Derived.Shelf.Strings.Search2
import Derived.Shelf.Strings.Search3
import Derived.Shelf.Strings.Count
import Derived.Shelf.LaysM
import Derived.Shelf.Strings.Shaped
import Derived.Shelf.Strings.Prefix
import Derived.Shelf.Strings.Split
import Derived.Shelf.Unicode.Decode
import Derived.Shelf.Strings.Runes
import Derived.Shelf.Strings.RuneCount
import Derived.Shelf.Strings.AsciiSet
import Derived.Shelf.Strings.Explode
import Derived.Shelf.Unicode.DecodeSlow
import Derived.Shelf.Unicode.DecodeAny
import Derived.Shelf.Strings.BuilderCap
import Derived.Test.YtebkhehjfkmdiaaDoorProg
import Derived.Shelf.Strings.SlTrimAscii
import Derived.Lib.Strings
import Derived.Below
import Derived.Laws.Bits
import Derived.Deep.DeepCutAuto
import Derived.Deep.CutRange

section
namespace Go.Proofs.YtebkhehjfkmdiaaDoor
open Go.RowKit

theorem b2s_cells {a : List Int} {l : List UInt8} (h : b2s a = some l) : a.map (cNum .u8) = l.map byteV := by
  unfold b2s at h
  split at h
  · rename_i hc
    cases h
    rw [List.map_map]
    refine List.map_congr_left fun n hn => ?_
    have := List.all_eq_true.1 hc n hn
    simp only [decide_eq_true_eq] at this
    simp [cNum, byteV, nV]
    omega
  · cases h
theorem sliceData_none {P : Program} (w : World) (ts : Array TypeId) (ty e : TypeId) (hp : P.underlying ty = some (.pointer e)) (a : Addr) (n : Nat) (hlt : a.block < w.heap.size) :
    ∃ q w1, (Builtin.unsafeSliceData_ ts ty #[.slice (some a) n 0]).run P w = .ok (.pointer q) w1 ∧ (w1 = w ∨ w1 = w.alloc (.view a e)) := by
  cases hsh : w.shape? a.block with
  | some sh => exact ⟨_, _, Lib.run_unsafeSliceData_zero w ts ty e hp a n sh hsh, .inr rfl⟩
  | none =>
    have hdef : Builtin.unsafeSliceData_ ts ty #[.slice (some a) n 0] =
        (do
          if (0 : Nat) ≠ 0 then pure (.pointer (some a))
          else if (← viewAt a.block).isSome then pure (.pointer (some a))
          else pure (.pointer (some ⟨← newObj (.view a (← elemOf ty)), 0, none⟩))) := rfl
    rw [hdef]
    obtain ⟨o, ho⟩ : ∃ o, w.heap[a.block]? = some o := ⟨_, Array.getElem?_eq_getElem hlt⟩
    have hg : ∀ c t f, o ≠ .cells c t f := fun c t f h => by
      subst h
      unfold World.shape? at hsh
      rw [ho] at hsh; cases hsh
    have hgo : (getObj a.block).run P w = .ok o w := by
      unfold getObj
      simp only [Sem.run, ho]
    by_cases hv : ∃ b t, o = .view b t
    · obtain ⟨b, t, rfl⟩ := hv
      refine ⟨some a, w, ?_, .inl rfl⟩
      simp [viewAt, hsh, hgo]
    · refine ⟨some ⟨w.heap.size, 0, none⟩, _, ?_, .inr rfl⟩
      have hva : (viewAt a.block).run P w = .ok none w := by
        simp only [viewAt]
        simp [hsh, hgo]
        cases o <;> first | rfl | exact absurd ⟨_, _, rfl⟩ hv
      simp [hva, elemOf, run_underlying hp]
theorem copyCheck_ok (h : List (List D)) (live : List Nat) (nm : Nat) {b : Bool} (ds : List D) (hds : h[nm]? = some ds) (hof : ds[0]? = some (.sp Tryd.prog 80 b nm 0)) :
    CallOK Tryd.prog 89 [.ptr nm 0] ⟨h, live⟩ (.tup []) ⟨h.set nm (ds.set 0 (.sp Tryd.prog 80 true nm 0)), live⟩ := by
  refine ⟨by kernel_rfl, fun G w us hI hl hrel => ?_⟩
  obtain ⟨u, rfl⟩ : ∃ u, us = #[u] := ⟨us[0]'(by rw [hl]; exact Nat.zero_lt_one), by
    apply Array.ext (by simpa using hl)
    intro i h1 h2
    have : i = 0 := by simp at h2; omega
    subst this; rfl⟩
  have hp := hrel 0 _ u rfl rfl
  cases hp with
  | ptr _ _ k hk =>
    obtain ⟨vs, ty, v1, v2, v3⟩ := hI.var nm k ds hk hds
    have hlt : 0 < vs.size := by rw [v2]; exact (List.getElem?_eq_some_iff.1 hof).1
    have hc := v3 0 _ vs[0] hof (Array.getElem?_eq_getElem hlt)
    have hcell : w.cell? ⟨k, 0, none⟩ = some vs[0] := by
      rw [cell_of_row w k 0 vs ty (0, 0) v1]; exact Array.getElem?_eq_getElem hlt
    cases hc.2 with
    | sp _ _ _ _ _ i e n _ h1 h2 h3 h4 h5 h6 =>
      have hik : i = k := by rw [hk] at h1; exact (Option.some.inj h1).symm
      subst hik
      cases b with
      | true =>
        rw [h6 rfl] at hcell
        refine (copyCheck_used i w hcell).mono ?_
        rintro e w' ⟨rfl, rfl⟩
        refine ⟨_, G, rfl, .refl G _, ?_, .tup _ _ rfl (fun j c u hc => by simp at hc)⟩
        refine hI.setCell (s := ⟨h, live⟩) hds fun u hu => ?_
        obtain ⟨c, hc, hu⟩ := hu
        rw [hof] at hc
        cases hc
        exact hu
      | false =>
        rw [h5 rfl] at hcell
        refine (copyCheck_fresh i e n w hcell h2 h3 h4 (by simp [World.frozen?, v1])).mono ?_
        rintro e' w' ⟨rfl, rfl⟩
        have hset : (w.setCell ⟨i, 0, none⟩ (.pointer (some ⟨i, 0, none⟩))).heap[i]? = some (.cells (vs.setIfInBounds 0 (.pointer (some ⟨i, 0, none⟩))) ty (0, 0)) := by
          simp [World.setCell, Array.getElem?_modify, v1]
        have hoth : ∀ b, b ≠ i → (w.setCell ⟨i, 0, none⟩ (.pointer (some ⟨i, 0, none⟩))).heap[b]? = w.heap[b]? := fun b hb => by
          simp [World.setCell, Array.getElem?_modify, Ne.symm hb]
        obtain ⟨s1, s2⟩ := store_stp hI nm i hk vs ty v1 (ds.set 0 (.sp Tryd.prog 80 true nm 0)) (vs.setIfInBounds 0 (.pointer (some ⟨i, 0, none⟩))) (by simp [v2]) (by simp) (fun j c u hc hu => by
          by_cases hj : j = 0
          · subst hj
            rw [List.getElem?_set_self (by rw [← v2]; exact hlt)] at hc
            cases hc
            rw [Array.getElem?_setIfInBounds_self_of_lt hlt] at hu
            cases hu
            exact ⟨rfl, .sp _ _ _ _ _ i e n _ hk h2 h3 h4 (fun h => by cases h) (fun _ => rfl)⟩
          · rw [List.getElem?_set_ne (fun e => hj e.symm)] at hc
            rw [Array.getElem?_setIfInBounds_ne (fun e => hj e.symm)] at hu
            exact v3 j c u hc hu) (w.setCell ⟨i, 0, none⟩ (.pointer (some ⟨i, 0, none⟩))) rfl rfl rfl (by simp [World.setCell]) hset hoth
        exact ⟨_, G, rfl, s1, s2, .tup _ _ rfl (fun j c u hc => by simp at hc)⟩
theorem builderString_ok (h : List (List D)) (live : List Nat) (nm t : Nat) (ds : List D) (es : List (List V)) {l : List UInt8} (hds : h[nm]? = some ds) (hof : ds[1]? = some (.own t 5 1 es)) (hlv : live[t]? = some es.length) (hes : es = l.map byteV) :
    CallOK Tryd.prog 71 [.ptr nm 0] ⟨h, live⟩ (.p (.v (strOf l))) ⟨h.set nm (ds.set 1 (.p (.sl false es))), live.set t (es.length + 1)⟩ := by
  refine ⟨by kernel_rfl, fun G w us hI hl hrel => ?_⟩
  obtain ⟨u, rfl⟩ : ∃ u, us = #[u] := ⟨us[0]'(by rw [hl]; exact Nat.zero_lt_one), by
    apply Array.ext (by simpa using hl)
    intro i h1 h2
    have : i = 0 := by simp at h2; omega
    subst this; rfl⟩
  have hp := hrel 0 _ u rfl rfl
  have hln : es.length = l.length := by rw [hes, List.length_map]
  cases hp with
  | ptr _ _ k hk =>
    obtain ⟨vs, ty, v1, v2, v3⟩ := hI.var nm k ds hk hds
    have hlt : 1 < vs.size := by rw [v2]; exact (List.getElem?_eq_some_iff.1 hof).1
    have hc := (v3 1 _ vs[1] hof (Array.getElem?_eq_getElem hlt)).2
    have hcell : w.cell? ⟨k, 1, none⟩ = some vs[1] := by
      rw [cell_of_row w k 1 vs ty (0, 0) v1]; exact Array.getElem?_eq_getElem hlt
    obtain ⟨v, hv⟩ : ∃ v, v = vs[1] := ⟨_, rfl⟩
    rw [← hv] at hcell hc
    cases hc with
    | own _ _ _ _ _ T x1 x2 x3 x0 x4 x5 =>
      have hlen : es.length = T.len := by
        have : (G.tok.map (·.len))[t]? = some T.len := by rw [List.getElem?_map, x3]; rfl
        rw [hI.live, hlv] at this
        exact Option.some.inj this
      obtain ⟨a, cap, rfl, hO⟩ := x5 hlen
      obtain ⟨a2, cap2, e2, c1, c2, -⟩ := x1.isSlice
      cases e2
      -- what is common to all ends
      have fin : ∀ w' : World, w'.os = w.os → w'.tape = w.tape → w'.output = w.output → w.heap.size ≤ w'.heap.size → (∀ b, b < w.heap.size → T.blk ≠ some b → w'.heap[b]? = w.heap[b]?) →
          (∀ g, T.blk = some g → ∀ o u, w.cell? ⟨g, o, none⟩ = some u → w'.cell? ⟨g, o, none⟩ = some u) → ShKept w w' → ∃ u G', Ending.returned (.string ⟨l.toArray⟩) = .returned u ∧ Stp G w G' w' ∧ Inv G' ⟨h.set nm (ds.set 1 (.p (.sl false es))), live.set t (es.length + 1)⟩ w' ∧ DRel G' w' (.p (.v (strOf l))) u := fun w' k1 k2 k3 k4 k5 k6 k7 => by
        obtain ⟨s1, s2⟩ := retire_stp hI x3 x0 k1 k2 k3 k4 k5 k6 k7
        rw [← hlen] at s1 s2
        refine ⟨_, _, rfl, s1, s2.setCell (s := ⟨h, live.set t (es.length + 1)⟩) hds fun u hu => ?_, .p _ _ (.v _ rfl)⟩
        obtain ⟨c, hc, hu⟩ := hu
        rw [hof] at hc
        cases hc
        cases hu with
        | own _ _ _ _ _ _ y1 => exact .p _ _ y1
      have hcd : w.drew.cell? ⟨k, 1, none⟩ = some (.slice a es.length cap) := hcell
      have hb := Tryd.underlying99
      by_cases h0 : es.length = 0
      · have hl0 : l = [] := List.eq_nil_of_length_eq_zero (by omega)
        subst hl0
        have hUS : ∀ q (W : World), (Builtin.unsafeString_ #[99, 3] 9 #[.pointer q, .int .i64 es.length]).run Tryd.prog W = .ok (.string ⟨#[]⟩) W := fun q W => by rw [h0]; exact Lib.run_unsafeString_none W _ _ _ q
        have plain : ∀ q, (Builtin.unsafeSliceData_ #[43] 99 #[.slice a es.length cap]).run Tryd.prog w.drew = .ok (.pointer q) w.drew → Calls Tryd.prog 71 #[.pointer (some ⟨k, 0, none⟩)] w fun e w' => ∃ u G', e = .returned u ∧ Stp G w G' w' ∧ Inv G' ⟨h.set nm (ds.set 1 (.p (.sl false es))), live.set t (es.length + 1)⟩ w' ∧ DRel G' w' (.p (.v (strOf []))) u := fun q hSD => by
          refine (string_walk k es.length cap a q ⟨#[]⟩ w w.drew w.drew hcd hcd hSD (hUS q _)).mono ?_
          rintro e w' ⟨rfl, rfl⟩
          exact fin w.drew rfl rfl rfl (Nat.le_refl _) (fun _ _ _ => rfl) (fun _ _ _ _ h => h) (fun _ _ h => h)
        cases a with
        | none => exact plain none rfl
        | some ad =>
          by_cases hc0 : cap = 0
          · subst hc0
            have hlt : ad.block < w.drew.heap.size := by
              rcases hO with hO | ⟨g, us, T', e1, -, -, -, e5, -⟩ | hO
              · exact hO.2 ad rfl
              · cases e1; exact (Array.getElem?_eq_some_iff.1 e5).1
              · exact absurd hO.1 (by decide)
            obtain ⟨q, w1, hSD, hw1⟩ := sliceData_none w.drew #[43] 99 5 hb ad es.length hlt
            rcases hw1 with rfl | rfl
            · exact plain q hSD
            · have hk2 : k < w.heap.size := (Array.getElem?_eq_some_iff.1 v1).1
              have hc2 : (w.drew.alloc (.view ad 5)).cell? ⟨k, 1, none⟩ = some (.slice (some ad) es.length 0) := (cellAlloc w.drew _ k 1 hk2).trans hcd
              refine (string_walk k es.length 0 (some ad) _ ⟨#[]⟩ w _ _ hcd hc2 hSD (hUS _ _)).mono ?_
              rintro e w' ⟨rfl, rfl⟩
              have hh : ∀ b, b < w.heap.size → (w.drew.alloc (.view ad 5)).heap[b]? = w.heap[b]? := fun b hb => by
                rw [heapAlloc, if_neg (by show ¬ b = w.heap.size; omega)]; rfl
              refine fin _ rfl rfl rfl (by simp) (fun b hb _ => hh b hb) (fun g hg o u hu => ?_) (shAlloc w.drew _)
              exact (cellAlloc w.drew _ g o (cellLt hu)).trans hu
          · exact plain (some ad) (Lib.run_unsafeSliceData_row _ _ _ _ _ _ hc0)
      · rcases hO with hO | ⟨g, us, T', e1, e2, e3, e4, e5, e6⟩ | hO
        · omega
        rotate_left
        · exact absurd hO.1 (by decide)
        · rw [rowTy_lt (by decide)] at e5
          subst e1
          rw [x3] at e2
          cases e2
          have hSD : (Builtin.unsafeSliceData_ #[43] 99 #[.slice (some ⟨g, 0, none⟩) es.length cap]).run Tryd.prog w.drew = .ok (.pointer (some ⟨g, 0, none⟩)) w.drew := Lib.run_unsafeSliceData_row _ _ _ _ _ _ (by omega)
          have hl0 : l ≠ [] := fun h' => by subst h'; exact h0 (by rw [hln]; rfl)
          have hcl : ∀ (j : Nat) x, l[j]? = some x → w.drew.cell? ((⟨g, 0, none⟩ : Addr).add j) = some (.int .u8 x.toNat) := fun j x hx => by
            have he : es[j]? = some (byteV x) := by rw [hes, List.getElem?_map, hx]; rfl
            obtain ⟨olds, o1, o2, o3, o4⟩ := x1.flat 1 x2 (by decide)
            obtain ⟨u, hu, hr⟩ := o2 j 0 _ _ he (show (byteV x)[0]? = some _ from rfl)
            have hux : u = .int .u8 x.toNat := by cases hr; rfl
            subst hux
            rcases o4 with o4 | ⟨b, off, q1, q2⟩
            · omega
            · cases q1
              have := (q2 _ _ hu).1
              rw [addAt]
              simpa using this
          have hUS := Lib.run_unsafeString_row (P := Tryd.prog) w.drew 99 3 9 5 hb (by kernel_rfl) g us.size (shape_of (w := w.drew) e5) l hl0 (by rw [e6]; omega) (by unfold maxLen at c2; omega) hcl
          rw [← hln] at hUS
          have hgk : k ≠ g := fun e => (hI.tok t T g x3 (.inl e3)).2.1 (e ▸ List.mem_of_getElem? hk)
          refine (string_walk k es.length cap _ _ ⟨l.toArray⟩ w w.drew _ hcd hcd hSD hUS).mono ?_
          rintro e w' ⟨rfl, rfl⟩
          obtain ⟨f1, f2, f3, f4, f5, f6⟩ := freeze_heap (w := w.drew) (n := es.length) e5 h0
          refine fin _ f4 f5 f6 (Nat.le_of_eq f3.symm) (fun b _ hb => f2 b fun e => hb (e ▸ e3)) (fun g' hg' o u hu => ?_) (fun b sh hb => ?_)
          · rw [e3] at hg'
            cases hg'
            rw [cell_of_row w g o us 5 (0, 0) e5] at hu
            rw [cell_of_row _ g o us 5 _ f1]; exact hu
          · by_cases hbg : b = g
            · subst hbg
              rw [shape_of e5] at hb
              rw [shape_of f1]; exact hb
            · rw [shape_eq (w := w) (f2 b hbg)]; exact hb
end Go.Proofs.YtebkhehjfkmdiaaDoor
end

section
namespace Go.Proofs
open Go.Shelf
def Tryd.lays161_ren : Go.Shelf.Ren := ⟨fun | 161 => 75 | 231 => 94 | 227 => 95 | 233 => 96 | 235 => 97 | 228 => 111 | 197 => 106 | 151 => 112 | 260 => 115 | 152 => 116 | 137 => 61 | 119 => 118 | 224 => 92 | 225 => 91 | 217 => 85 | 266 => 104 | n => n, fun | 9 => 9 | 4 => 4 | 3 => 3 | 5 => 5 | 117 => 103 | 116 => 102 | 0 => 0 | 124 => 106 | 105 => 54 | 21 => 21 | 119 => 126 | 46 => 89 | 139 => 129 | 138 => 128 | n => n, fun | 3 => 1 | 4 => 2 | n => n⟩
theorem Tryd.lays161 : Go.Proofs.Lays.n161 Tryd.prog Tryd.lays161_ren := {
  mixed := by kernel_rfl
  f119 := Tryd.func118.trans (congrArg some (by kernel_rfl))
  f137 := Tryd.func61.trans (congrArg some (by kernel_rfl))
  f151 := Tryd.func112.trans (congrArg some (by kernel_rfl))
  f152 := Tryd.func116.trans (congrArg some (by kernel_rfl))
  f161 := Tryd.func75.trans (congrArg some (by kernel_rfl))
  f197 := Tryd.func106.trans (congrArg some (by kernel_rfl))
  f217 := Tryd.func85.trans (congrArg some (by kernel_rfl))
  f224 := Tryd.func92.trans (congrArg some (by kernel_rfl))
  f225 := Tryd.func91.trans (congrArg some (by kernel_rfl))
  f227 := Tryd.func95.trans (congrArg some (by kernel_rfl))
  f228 := Tryd.func111.trans (congrArg some (by kernel_rfl))
  f231 := Tryd.func94.trans (congrArg some (by kernel_rfl))
  f233 := Tryd.func96.trans (congrArg some (by kernel_rfl))
  f235 := Tryd.func97.trans (congrArg some (by kernel_rfl))
  f260 := Tryd.func115.trans (congrArg some (by kernel_rfl))
  f266 := Tryd.func104.trans (congrArg some (by kernel_rfl))
  t0 := Tryd.underlying0
  a0 := Tryd.isAgg0
  z0 := Tryd.sizeOf0
  v0 := Tryd.zeroValue0
  t3 := Tryd.underlying3
  a3 := Tryd.isAgg3
  z3 := Tryd.sizeOf3
  v3 := Tryd.zeroValue3
  t4 := Tryd.underlying4
  a4 := Tryd.isAgg4
  z4 := Tryd.sizeOf4
  v4 := Tryd.zeroValue4
  t5 := Tryd.underlying5
  a5 := Tryd.isAgg5
  z5 := Tryd.sizeOf5
  v5 := Tryd.zeroValue5
  t9 := Tryd.underlying9
  a9 := Tryd.isAgg9
  z9 := Tryd.sizeOf9
  v9 := Tryd.zeroValue9
  t21 := Tryd.underlying21
  a21 := Tryd.isAgg21
  z21 := Tryd.sizeOf21
  v21 := Tryd.zeroValue21
  t46 := Tryd.underlying89
  a46 := Tryd.isAgg89
  z46 := Tryd.sizeOf89
  v46 := Tryd.zeroValue89
  t105 := Tryd.underlying54
  a105 := Tryd.isAgg54
  z105 := Tryd.sizeOf54
  v105 := Tryd.zeroValue54
  t116 := Tryd.underlying102
  a116 := Tryd.isAgg102
  z116 := Tryd.sizeOf102
  t117 := Tryd.underlying103
  a117 := Tryd.isAgg103
  z117 := Tryd.sizeOf103
  v117 := Tryd.zeroValue103
  t119 := Tryd.underlying126
  a119 := Tryd.isAgg126
  z119 := Tryd.sizeOf126
  t124 := Tryd.underlying106
  a124 := Tryd.isAgg106
  z124 := Tryd.sizeOf106
  v124 := Tryd.zeroValue106
  t138 := Tryd.underlying128
  a138 := Tryd.isAgg128
  z138 := Tryd.sizeOf128
  v138 := Tryd.zeroValue128
  t139 := Tryd.underlying129
  a139 := Tryd.isAgg129
  z139 := Tryd.sizeOf129
  v139 := Tryd.zeroValue129
  g3 := by kernel_rfl
  g4 := by kernel_rfl }
def Tryd.lays137_ren : Go.Shelf.Ren := ⟨fun | 137 => 61 | 217 => 85 | 266 => 104 | n => n, fun | 9 => 9 | 5 => 5 | 3 => 3 | n => n, fun | n => n⟩
theorem Tryd.lays137 : Go.Proofs.Lays.n137 Tryd.prog Tryd.lays137_ren := {
  mixed := by kernel_rfl
  f137 := Tryd.func61.trans (congrArg some (by kernel_rfl))
  f217 := Tryd.func85.trans (congrArg some (by kernel_rfl))
  f266 := Tryd.func104.trans (congrArg some (by kernel_rfl))
  t3 := Tryd.underlying3
  a3 := Tryd.isAgg3
  z3 := Tryd.sizeOf3
  v3 := Tryd.zeroValue3
  t5 := Tryd.underlying5
  a5 := Tryd.isAgg5
  z5 := Tryd.sizeOf5
  v5 := Tryd.zeroValue5
  t9 := Tryd.underlying9
  a9 := Tryd.isAgg9
  z9 := Tryd.sizeOf9
  v9 := Tryd.zeroValue9 }
open Go.RowKit in
/-- strings.IndexByte: "IndexByte returns the index of the first instance of c in s, or -1 if c is not present in s.": IT RETURNS 'Lib.indexByte s c'; the world is as it was. (LAID: no walk: one application.) -/
theorem Tryd.strings_IndexByte (s : ByteArray) (c : Int) (w : World) :
    Calls Tryd.prog 61 #[.string s, .int .u8 c] w fun e w' => e = .returned (.int .i64 (Lib.indexByte s.data.toList c.toNat.toUInt8)) ∧ w' = w := Any.strings_IndexByte Tryd.lays137 s c w
def Tryd.lays103_ren : Go.Shelf.Ren := ⟨fun | 103 => 113 | 210 => 117 | 206 => 98 | n => n, fun | 9 => 9 | 4 => 4 | 24 => 23 | 3 => 3 | n => n, fun | n => n⟩
theorem Tryd.lays103 : Go.Proofs.Lays.n103 Tryd.prog Tryd.lays103_ren := {
  mixed := by kernel_rfl
  f103 := Tryd.func113.trans (congrArg some (by kernel_rfl))
  f206 := Tryd.func98.trans (congrArg some (by kernel_rfl))
  f210 := Tryd.func117.trans (congrArg some (by kernel_rfl))
  t3 := Tryd.underlying3
  a3 := Tryd.isAgg3
  z3 := Tryd.sizeOf3
  v3 := Tryd.zeroValue3
  t4 := Tryd.underlying4
  a4 := Tryd.isAgg4
  z4 := Tryd.sizeOf4
  v4 := Tryd.zeroValue4
  t9 := Tryd.underlying9
  a9 := Tryd.isAgg9
  z9 := Tryd.sizeOf9
  v9 := Tryd.zeroValue9
  t24 := Tryd.underlying23
  a24 := Tryd.isAgg23
  z24 := Tryd.sizeOf23
  v24 := Tryd.zeroValue23 }
open Go.RowKit in
/-- strings.CutPrefix: "CutPrefix returns s without the provided leading prefix string and reports whether it found the prefix. If s doesn't start with prefix, CutPrefix returns s, false. If prefix is the empty string, CutPrefix returns s, true.": IT RETURNS '(Lib.trimPrefix s p, Lib.hasPrefix s p)'; the world is as it was. (LAID: no walk: one application.) -/
theorem Tryd.strings_CutPrefix (s p : ByteArray) (w : World) :
    Calls Tryd.prog 113 #[.string s, .string p] w fun e w' => e = .returned (.tuple #[.string ⟨(Lib.trimPrefix s.data.toList p.data.toList).toArray⟩, .bool (Lib.hasPrefix s.data.toList p.data.toList)]) ∧ w' = w := Any.strings_CutPrefix Tryd.lays103 s p w
def Tryd.lays217_ren : Go.Shelf.Ren := ⟨fun | 217 => 85 | 266 => 104 | n => n, fun | 9 => 9 | 5 => 5 | 3 => 3 | n => n, fun | n => n⟩
theorem Tryd.lays217 : Go.Proofs.Lays.n217 Tryd.prog Tryd.lays217_ren := {
  mixed := by kernel_rfl
  f217 := Tryd.func85.trans (congrArg some (by kernel_rfl))
  f266 := Tryd.func104.trans (congrArg some (by kernel_rfl))
  t3 := Tryd.underlying3
  a3 := Tryd.isAgg3
  z3 := Tryd.sizeOf3
  v3 := Tryd.zeroValue3
  t5 := Tryd.underlying5
  a5 := Tryd.isAgg5
  z5 := Tryd.sizeOf5
  v5 := Tryd.zeroValue5
  t9 := Tryd.underlying9
  a9 := Tryd.isAgg9
  z9 := Tryd.sizeOf9
  v9 := Tryd.zeroValue9 }
open Go.RowKit Go.Lib in
/-- internal/stringslite.IndexByte (what strings.IndexByte calls): IT RETURNS 'Lib.indexByte s c'; the world is as it was. (LAID: no walk: one application.) -/
theorem Tryd.stringslite_IndexByte (s : ByteArray) (c : Int) (w : World) :
    Calls Tryd.prog 85 #[.string s, .int .u8 c] w fun e w' => e = .returned (.int .i64 (Lib.indexByte s.data.toList c.toNat.toUInt8)) ∧ w' = w := Any.stringslite_IndexByte Tryd.lays217 s c w
def Tryd.lays219_ren : Go.Shelf.Ren := ⟨fun | 219 => 74 | 217 => 85 | 225 => 91 | 224 => 92 | 267 => 93 | 266 => 104 | 314 => 110 | n => n, fun | 9 => 9 | 3 => 3 | 4 => 4 | 5 => 5 | 46 => 89 | 146 => 119 | 51 => 118 | n => n, fun | 1 => 0 | n => n⟩
theorem Tryd.lays219 : Go.Proofs.Lays.n219 Tryd.prog Tryd.lays219_ren := {
  mixed := by kernel_rfl
  f217 := Tryd.func85.trans (congrArg some (by kernel_rfl))
  f219 := Tryd.func74.trans (congrArg some (by kernel_rfl))
  f224 := Tryd.func92.trans (congrArg some (by kernel_rfl))
  f225 := Tryd.func91.trans (congrArg some (by kernel_rfl))
  f266 := Tryd.func104.trans (congrArg some (by kernel_rfl))
  f267 := Tryd.func93.trans (congrArg some (by kernel_rfl))
  f314 := Tryd.func110.trans (congrArg some (by kernel_rfl))
  t3 := Tryd.underlying3
  a3 := Tryd.isAgg3
  z3 := Tryd.sizeOf3
  v3 := Tryd.zeroValue3
  t4 := Tryd.underlying4
  a4 := Tryd.isAgg4
  z4 := Tryd.sizeOf4
  v4 := Tryd.zeroValue4
  t5 := Tryd.underlying5
  a5 := Tryd.isAgg5
  z5 := Tryd.sizeOf5
  v5 := Tryd.zeroValue5
  t9 := Tryd.underlying9
  a9 := Tryd.isAgg9
  z9 := Tryd.sizeOf9
  v9 := Tryd.zeroValue9
  t46 := Tryd.underlying89
  a46 := Tryd.isAgg89
  z46 := Tryd.sizeOf89
  v46 := Tryd.zeroValue89
  t51 := Tryd.underlying118
  a51 := Tryd.isAgg118
  z51 := Tryd.sizeOf118
  v51 := Tryd.zeroValue118
  t146 := Tryd.underlying119
  a146 := Tryd.isAgg119
  z146 := Tryd.sizeOf119
  v146 := Tryd.zeroValue119
  g1 := by kernel_rfl }
open Go.RowKit Go.Lib in
/-- internal/stringslite.Index (what strings.Index calls) AT A substr OF WHATEVER LENGTH: IT RETURNS 'Lib.index s substr'; the world is as it was. 'm': what internal/bytealg.MaxLen holds: whatever. (LAID: no walk: one application.) -/
theorem Tryd.stringslite_Index (s sub : ByteArray) (m : Int) (w : World) (hs : s.size < 4294967281) (hm : w.cell? ⟨0, 0, none⟩ = some (.int .i64 m)) :
    Calls Tryd.prog 74 #[.string s, .string sub] w fun e w' => e = .returned (.int .i64 (Lib.index s.data.toList sub.data.toList)) ∧ w' = w := Any.stringslite_Index Tryd.lays219 s sub m w hs hm
def Tryd.lays143_ren : Go.Shelf.Ren := ⟨fun | 143 => 49 | 219 => 74 | 217 => 85 | 225 => 91 | 224 => 92 | 267 => 93 | 266 => 104 | 314 => 110 | n => n, fun | 9 => 9 | 3 => 3 | 4 => 4 | 5 => 5 | 46 => 89 | 146 => 119 | 51 => 118 | n => n, fun | 1 => 0 | n => n⟩
theorem Tryd.lays143 : Go.Proofs.Lays.n143 Tryd.prog Tryd.lays143_ren := {
  mixed := by kernel_rfl
  f143 := Tryd.func49.trans (congrArg some (by kernel_rfl))
  f217 := Tryd.func85.trans (congrArg some (by kernel_rfl))
  f219 := Tryd.func74.trans (congrArg some (by kernel_rfl))
  f224 := Tryd.func92.trans (congrArg some (by kernel_rfl))
  f225 := Tryd.func91.trans (congrArg some (by kernel_rfl))
  f266 := Tryd.func104.trans (congrArg some (by kernel_rfl))
  f267 := Tryd.func93.trans (congrArg some (by kernel_rfl))
  f314 := Tryd.func110.trans (congrArg some (by kernel_rfl))
  t3 := Tryd.underlying3
  a3 := Tryd.isAgg3
  z3 := Tryd.sizeOf3
  v3 := Tryd.zeroValue3
  t4 := Tryd.underlying4
  a4 := Tryd.isAgg4
  z4 := Tryd.sizeOf4
  v4 := Tryd.zeroValue4
  t5 := Tryd.underlying5
  a5 := Tryd.isAgg5
  z5 := Tryd.sizeOf5
  v5 := Tryd.zeroValue5
  t9 := Tryd.underlying9
  a9 := Tryd.isAgg9
  z9 := Tryd.sizeOf9
  v9 := Tryd.zeroValue9
  t46 := Tryd.underlying89
  a46 := Tryd.isAgg89
  z46 := Tryd.sizeOf89
  v46 := Tryd.zeroValue89
  t51 := Tryd.underlying118
  a51 := Tryd.isAgg118
  z51 := Tryd.sizeOf118
  v51 := Tryd.zeroValue118
  t146 := Tryd.underlying119
  a146 := Tryd.isAgg119
  z146 := Tryd.sizeOf119
  v146 := Tryd.zeroValue119
  g1 := by kernel_rfl }
open Go.RowKit Go.Lib in
/-- strings.Index: "Index returns the index of the first instance of substr in s, or -1 if substr is not present in s.": IT RETURNS 'Lib.index s substr'; the world is as it was. (LAID: no walk: one application.) -/
theorem Tryd.strings_Index (s sub : ByteArray) (m : Int) (w : World) (hs : s.size < 4294967281) (hm : w.cell? ⟨0, 0, none⟩ = some (.int .i64 m)) :
    Calls Tryd.prog 49 #[.string s, .string sub] w fun e w' => e = .returned (.int .i64 (Lib.index s.data.toList sub.data.toList)) ∧ w' = w := Any.strings_Index Tryd.lays143 s sub m w hs hm
def Tryd.laysM219_ren : Go.Shelf.Ren := ⟨fun | 219 => 74 | 217 => 85 | 225 => 91 | 224 => 92 | 267 => 93 | 266 => 104 | 314 => 110 | n => n, fun | 9 => 9 | 3 => 3 | 4 => 4 | 5 => 5 | 46 => 89 | 146 => 119 | 51 => 118 | n => n, fun | 1 => 0 | n => n⟩
theorem Tryd.laysM219 : Go.Proofs.LaysM.n219 Tryd.prog Tryd.laysM219_ren := {
  mixed := by kernel_rfl
  f217 := Tryd.func85.trans (congrArg some (by kernel_rfl))
  f219 := Tryd.func74.trans (congrArg some (by kernel_rfl))
  f224 := Tryd.func92.trans (congrArg some (by kernel_rfl))
  f225 := Tryd.func91.trans (congrArg some (by kernel_rfl))
  f266 := Tryd.func104.trans (congrArg some (by kernel_rfl))
  f267 := Tryd.func93.trans (congrArg some (by kernel_rfl))
  f314 := Tryd.func110.trans (congrArg some (by kernel_rfl))
  t3 := Tryd.underlying3
  a3 := Tryd.isAgg3
  z3 := Tryd.sizeOf3
  v3 := Tryd.zeroValue3
  t4 := Tryd.underlying4
  a4 := Tryd.isAgg4
  z4 := Tryd.sizeOf4
  v4 := Tryd.zeroValue4
  t5 := Tryd.underlying5
  a5 := Tryd.isAgg5
  z5 := Tryd.sizeOf5
  v5 := Tryd.zeroValue5
  t9 := Tryd.underlying9
  a9 := Tryd.isAgg9
  z9 := Tryd.sizeOf9
  v9 := Tryd.zeroValue9
  t46 := Tryd.underlying89
  a46 := Tryd.isAgg89
  z46 := Tryd.sizeOf89
  v46 := Tryd.zeroValue89
  t51 := Tryd.underlying118
  a51 := Tryd.isAgg118
  z51 := Tryd.sizeOf118
  v51 := Tryd.zeroValue118
  t146 := Tryd.underlying119
  a146 := Tryd.isAgg119
  z146 := Tryd.sizeOf119
  v146 := Tryd.zeroValue119
  g1 := by kernel_rfl
  i3 := by kernel_rfl
  i4 := by kernel_rfl
  i5 := by kernel_rfl
  i9 := by kernel_rfl
  i46 := by kernel_rfl
  i51 := by kernel_rfl
  i146 := by kernel_rfl
  m1 := by kernel_rfl
  s1_3 := fun w h => Go.Proofs.cell_of_shapedOpen_int (zero := #[.int .i64 0]) (t := 3) h (of_decide_eq_true (by kernel_rfl)) (by kernel_rfl) rfl (by kernel_rfl) (by kernel_rfl) Tryd.underlying3 }
def Tryd.lays99_ren : Go.Shelf.Ren := ⟨fun | 99 => 76 | 206 => 98 | n => n, fun | 9 => 9 | 4 => 4 | 3 => 3 | n => n, fun | n => n⟩
theorem Tryd.lays99 : Go.Proofs.Lays.n99 Tryd.prog Tryd.lays99_ren := {
  mixed := by kernel_rfl
  f99 := Tryd.func76.trans (congrArg some (by kernel_rfl))
  f206 := Tryd.func98.trans (congrArg some (by kernel_rfl))
  t3 := Tryd.underlying3
  a3 := Tryd.isAgg3
  z3 := Tryd.sizeOf3
  v3 := Tryd.zeroValue3
  t4 := Tryd.underlying4
  a4 := Tryd.isAgg4
  z4 := Tryd.sizeOf4
  v4 := Tryd.zeroValue4
  t9 := Tryd.underlying9
  a9 := Tryd.isAgg9
  z9 := Tryd.sizeOf9
  v9 := Tryd.zeroValue9 }
open Go.RowKit Go.Lib in
/-- strings.HasPrefix: "HasPrefix reports whether the string s begins with prefix.": IT RETURNS 'Lib.hasPrefix s prefix'; the world is as it was. (LAID: no walk: one application.) -/
theorem Tryd.strings_HasPrefix (s p : ByteArray) (w : World) :
    Calls Tryd.prog 76 #[.string s, .string p] w fun e w' => e = .returned (.bool (Lib.hasPrefix s.data.toList p.data.toList)) ∧ w' = w := Any.strings_HasPrefix Tryd.lays99 s p w
end Go.Proofs
end

section
namespace Go.Proofs.YtebkhehjfkmdiaaDoor
open Go.RowKit

theorem PCall.ofCallsG {P : Program} {f : FuncId} {args : List V} {r : D} {R : Value} (hn : isFn P f = true) (hr : ∀ G w, DRel G w r R)
    (h : ∀ w us, (∃ C, GlobOk C w) → us.size = args.length → (∀ (j : Nat) x u, args[j]? = some x → us[j]? = some u → ∃ C, VRel C w x u) → Calls P f us w fun e w' => e = .returned R ∧ Below w.heap.size w w') : PCall P f args r :=
  ⟨hn, fun C w us hg hs hrel => (h w us ⟨C, hg⟩ hs fun j x u hx hu => ⟨_, hrel j x u hx hu⟩).mono fun _ _ ⟨he, hb⟩ => ⟨R, he, hr _ _, hb⟩⟩
theorem given_str {C : Nat → Nat → Prop} {w : World} {l : List UInt8} {u : Value} (h : VRel C w (sV l) u) : u = .string ⟨l.toArray⟩ := by cases h; rfl
theorem given_int {C : Nat → Nat → Prop} {w : World} {k : IntKind} {n : Int} {u : Value} (h : VRel C w (.v (.int k n)) u) : u = .int k n := by cases h; rfl
theorem below_same {w w' : World} (h : w' = w) : Below w.heap.size w w' := by subst h; exact Below.refl _ _
theorem need_some {p : Prop} [Decidable p] {R : Type} {f : Unit → Option R} {r : R} (h : (need p >>= f) = some r) : p ∧ f () = some r := by
  unfold need at h
  split at h
  · exact ⟨by assumption, h⟩
  · cases h
theorem indexByte_ok (l : List UInt8) (c : Int) : PCall Tryd.prog 85 [sV l, nV .u8 c] (.p (iV (Lib.indexByte l c.toNat.toUInt8))) := by
  refine PCall.ofCallsG (by kernel_rfl) (fun _ _ => .p _ _ (.v _ rfl)) fun w us _ hs h => ?_
  obtain ⟨a, b, rfl⟩ := us2 hs
  obtain ⟨_, h0⟩ := h 0 _ a rfl rfl
  obtain ⟨_, h1⟩ := h 1 _ b rfl rfl
  rw [given_str h0, given_int h1]
  exact (Tryd.stringslite_IndexByte _ c w).mono fun e w' ⟨he, hw⟩ => ⟨he, below_same hw⟩
theorem index_ok (l s : List UInt8) (hl : l.length < 4294967281) : PCall Tryd.prog 74 [sV l, sV s] (.p (iV (Lib.index l s))) := by
  refine PCall.ofCallsG (by kernel_rfl) (fun _ _ => .p _ _ (.v _ rfl)) fun w us hg hs h => ?_
  obtain ⟨a, b, rfl⟩ := us2 hs
  obtain ⟨_, h0⟩ := h 0 _ a rfl rfl
  obtain ⟨_, h1⟩ := h 1 _ b rfl rfl
  obtain ⟨_, hg⟩ := hg
  obtain ⟨m, -, hm⟩ := hg 0 (by simp [globsL])
  rw [given_str h0, given_str h1]
  exact (Tryd.stringslite_Index _ _ m w (by show l.toArray.size < _; simpa using hl) hm).mono fun e w' ⟨he, hw⟩ => ⟨he, below_same hw⟩
end Go.Proofs.YtebkhehjfkmdiaaDoor
end

section
namespace Go.Proofs.YtebkhehjfkmdiaaDoor
open Go.RowKit

theorem trimLeft_ok (l s : List UInt8) (hs : s.length < 4294967281) (ha : s.all (fun b => decide (b.toNat < 128)) = true) : PCall Tryd.prog 75 [sV l, sV s] (.p (sV (Lib.trimLeftS l s))) := by
  refine PCall.ofCallsG (by kernel_rfl) (fun _ _ => .p _ _ (.v _ rfl)) fun w us _ hs' h => ?_
  obtain ⟨a, b, rfl⟩ := us2 hs'
  obtain ⟨_, h0⟩ := h 0 _ a rfl rfl
  obtain ⟨_, h1⟩ := h 1 _ b rfl rfl
  rw [given_str h0, given_str h1]
  exact Any.strings_TrimLeft_laid Tryd.lays161 (by kernel_rfl) ⟨l.toArray⟩ ⟨s.toArray⟩ w (by show s.toArray.size < _; simpa using hs) (ascii_of_all ha)
end Go.Proofs.YtebkhehjfkmdiaaDoor
end

section
namespace Go.Proofs.YtebkhehjfkmdiaaDoor
open Go.RowKit

def isD (c : UInt8) : Bool := 48 ≤ c.toNat && c.toNat ≤ 57
def dv (c : UInt8) : Nat := c.toNat - 48
def numGo (most : Nat) : List UInt8 → Nat → Option Nat
  | [], u => some u
  | c :: t, u => if isD c && decide (u ≤ (most - dv c) / 10) then numGo most t (u * 10 + dv c) else none
/-- The number whose text it is, and whether there is one. -/
def numP (l : List UInt8) : Int × Bool :=
  let below := l.head? == some 45
  let rest := if below then l.tail else l
  if rest = [] ∨ (1 < rest.length ∧ rest.head? = some 48) ∨ (below = true ∧ rest = [48]) then (0, false)
  else match numGo (if below then 9223372036854775808 else 9223372036854775807) rest 0 with
    | some u => (if below then -(u : Int) else u, true)
    | none => (0, false)

end Go.Proofs.YtebkhehjfkmdiaaDoor
end

section
namespace Go.Proofs.YtebkhehjfkmdiaaDoor
open Go.RowKit

def numCore (below : Bool) (rest : List UInt8) : Int × Bool :=
  if rest = [] ∨ (1 < rest.length ∧ rest.head? = some 48) ∨ (below = true ∧ rest = [48]) then (0, false)
  else match numGo (if below then 9223372036854775808 else 9223372036854775807) rest 0 with
    | some u => (if below then -(u : Int) else u, true)
    | none => (0, false)
theorem numP_core (l : List UInt8) : numP l = numCore (Lib.hasPrefix l [45]) (Lib.trimPrefix l [45]) := by
  cases l with
  | nil => simp [numP, numCore, Lib.hasPrefix, Lib.trimPrefix]
  | cons a t =>
    by_cases ha : a = 45
    · subst ha; simp [numP, numCore, Lib.hasPrefix, Lib.trimPrefix]; try rfl
    · have hb : ¬ (45 : UInt8) = a := fun e => ha e.symm
      simp [numP, numCore, Lib.hasPrefix, Lib.trimPrefix, hb, ha]; try rfl
theorem numGo_at (most : Nat) (rs : ByteArray) (k n : Nat) (h : k < rs.size) : numGo most (rs.data.toList.drop k) n =
    if isD rs[k] && decide (n ≤ (most - dv rs[k]) / 10) then numGo most (rs.data.toList.drop (k + 1)) (n * 10 + dv rs[k]) else none := by
  have h' : k < rs.data.toList.length := by rw [← size_len]; exact h
  rw [List.drop_eq_getElem_cons h']; rfl
theorem neg_u64 (u : Nat) (h : u ≤ 9223372036854775808) : wrap64 (IntKind.u64.wrap (-(u : Int))) = -(u : Int) := by
  simp [wrap64, IntKind.wrap, IntKind.bits, IntKind.signed]
  omega
theorem digit_cond (most n : Nat) (h9 : 9 ≤ most) (c : UInt8) : (isD c && decide (n ≤ (most - dv c) / 10)) = decide ((48 : Int) ≤ (c.toNat : Int) ∧ (c.toNat : Int) ≤ 57 ∧ (n : Int) ≤ ((most : Int) - ((c.toNat : Int) - 48)) / 10) := by
  rw [Bool.eq_iff_iff]; simp only [isD, dv, Bool.and_eq_true, decide_eq_true_eq, Nat.le_div_iff_mul_le (show 0 < 10 by decide), Int.le_ediv_iff_mul_le (show (0 : Int) < 10 by decide)]
  omega
def badB (below : Bool) (rs : ByteArray) : Bool := rs.toList.isEmpty || (decide (1 < (rs.size : Int)) && (if h : 0 < rs.size then ((rs[0].toNat : Int) == 48) else false)) || (below && rs.toList == [48])
theorem badB_eq (below : Bool) (rs : ByteArray) : badB below rs = (rs.data.toList.isEmpty || (decide (1 < rs.data.toList.length) && decide ((rs.data.toList.getD 0 0).toNat = 48)) || (below && rs.data.toList == [48])) := by
  unfold badB
  rw [Lib.toList_data]
  congr 2
  by_cases h1 : 1 < (rs.size : Int)
  · have h0 : 0 < rs.size := by omega
    rw [dif_pos h0, getElem_data, size_len]
    rw [size_len] at h1
    have h2 : 1 < rs.data.toList.length := by omega
    rw [decide_eq_true h1, decide_eq_true h2]
    simp only [Bool.true_and]
    rw [Bool.eq_iff_iff]; simp; omega
  · have h2 : ¬ 1 < rs.data.toList.length := by rw [← size_len]; omega
    rw [decide_eq_false h1, decide_eq_false h2]; simp
theorem bad_true (below : Bool) (rs : ByteArray) (h : badB below rs = true) : numCore below rs.data.toList = (0, false) := by
  rw [numCore, if_pos]
  rw [badB_eq] at h
  simp only [Bool.or_eq_true, Bool.and_eq_true, decide_eq_true_eq, List.isEmpty_iff, beq_iff_eq] at h
  rcases h with (h | ⟨h1, h2⟩) | h
  · exact .inl h
  · refine .inr (.inl ⟨h1, ?_⟩)
    cases hl : rs.data.toList with
    | nil => rw [hl] at h1; simp at h1
    | cons a t => rw [hl] at h2; simp at h2; simp [← UInt8.toNat_inj, h2]
  · exact .inr (.inr h)
theorem bad_false (below : Bool) (rs : ByteArray) (h : badB below rs = false) : numCore below rs.data.toList =
    match numGo (if below then 9223372036854775808 else 9223372036854775807) rs.data.toList 0 with
    | some u => (if below then -(u : Int) else u, true)
    | none => (0, false) := by
  rw [numCore, if_neg]
  rw [badB_eq] at h
  rintro (h' | ⟨h1, h2⟩ | ⟨h1, h2⟩)
  · simp [h'] at h
  · cases hl : rs.data.toList with
    | nil => rw [hl] at h1; simp at h1
    | cons a t =>
      rw [hl] at h2; simp at h2; subst h2
      rw [hl] at h h1
      simp at h1; simp [h1] at h
  · simp [h1, h2] at h
set_option maxHeartbeats 4000000 in
theorem number_core (below : Bool) (s rs : ByteArray) (hs : rs.size ≤ maxLen) (w : World)
    (hc : ∀ w, Calls Tryd.prog 113 #[.string s, .string ⟨#[45]⟩] w fun e w' => e = .returned (.tuple #[.string rs, .bool below]) ∧ w' = w) :
    Calls Tryd.prog 102 #[.string s] w fun e w' => e = .returned (.tuple #[.int .i64 (numCore below rs.data.toList).1, .bool (numCore below rs.data.toList).2]) ∧ w = w' := by
  unfold maxLen at hs
  have HC := Lib.hid hc; clear hc
  have hb1 := bad_true below rs
  have hb2 := bad_false below rs
  have HB1 := Lib.hid hb1; clear hb1
  have HB2 := Lib.hid hb2; clear hb2
  cases below
  all_goals
    go_enter Tryd.func102, Tryd.ntmps102
    go_upto_region 2 with ((go_at_call 113; refine (HC.out _).mono ?_; rintro e w' ⟨rfl, rfl⟩))
  · go_cut [33] (fun c wx => c = .bool (badB false rs) ∧ wx = w')
    case first =>
      go_wp2_with fail
      all_goals
        go_meet
        refine ⟨congrArg Value.bool ?_, rfl⟩
        unfold badB
        first
          | (simp [*]; done)
          | (simp [*]; intros; omega)
          | (rw [show decide (1 < (rs.size : Int)) = false from decide_eq_false (by omega)]; simp)
    case rest =>
      obtain ⟨rfl, rfl⟩ := hcut
      cases hbad : badB false rs
      · have hr := HB2.out hbad
        simp only [Bool.false_eq_true, ↓reduceIte] at hr
        have HR := Lib.hid hr; clear hr
        go_wp2_with fail
        go_loop [7, 39] (fun u i => ∃ (k n : Nat), k ≤ rs.size ∧ i = .int .i64 k ∧ u = .int .u64 n ∧ n ≤ 9223372036854775807 ∧ numGo 9223372036854775807 rs.data.toList 0 = numGo 9223372036854775807 (rs.data.toList.drop k) n) (fun _ i => rs.size - (intOf i).toNat)
        case atStart => exact ⟨0, 0, by omega, rfl, rfl, by omega, by simp⟩
        case round =>
          obtain ⟨k, n, hk, rfl, rfl, hn, hg⟩ := hrel
          have HG := Lib.hid hg; clear hg
          by_cases hlt : k < rs.size
          · have hstep := numGo_at 9223372036854775807 rs k n hlt
            have HS := Lib.hid hstep; clear hstep
            generalize hck : rs[k] = c at HS
            have hck2 : rs[k] = c := hck
            clear hck
            by_cases hgood : (48 : Int) ≤ (c.toNat : Int) ∧ (c.toNat : Int) ≤ 57 ∧ (n : Int) ≤ (9223372036854775807 - ((c.toNat : Int) - 48)) / 10
            · obtain ⟨g1, g2, g3⟩ := hgood
              go_wp2
              go_round
              case rel => exact ⟨k + 1, n * 10 + dv c, by omega, by go_num, by congr 1; unfold dv; omega, by unfold dv; omega, by rw [HG.out, HS.out, if_pos (by rw [digit_cond _ _ (by omega)]; exact decide_eq_true ⟨g1, g2, by omega⟩)]⟩
              case measure => simp [intOf]; omega
            · have hbad : numGo 9223372036854775807 rs.data.toList 0 = none := by
                rw [HG.out, HS.out, if_neg]
                rw [digit_cond _ _ (by omega)]; intro e; exact hgood (of_decide_eq_true e)
              have HB := Lib.hid hbad; clear hbad
              go_wp2
              all_goals
                go_ret2
                exact ⟨ret_ib (by rw [HR.out, HB.out]) (by rw [HR.out, HB.out]), rfl⟩
          · have hge : rs.size ≤ k := by omega
            have hfin : numGo 9223372036854775807 rs.data.toList 0 = some n := by
              rw [HG.out, List.drop_of_length_le (by rw [← size_len]; exact hge)]; rfl
            have HB := Lib.hid hfin; clear hfin
            go_wp2
            go_ret2
            exact ⟨ret_ib (by rw [HR.out, HB.out]) (by rw [HR.out, HB.out]), rfl⟩
      · have HR := Lib.hid (HB1.out hbad)
        go_wp2_with fail
        go_ret2
        exact ⟨ret_ib (by rw [HR.out]) (by rw [HR.out]), rfl⟩
  · go_cut [33] (fun c wx => c = .bool (badB true rs) ∧ wx = w')
    case first =>
      go_wp2_with fail
      all_goals
        go_meet
        refine ⟨congrArg Value.bool ?_, rfl⟩
        unfold badB
        first
          | (simp [*]; done)
          | (simp [*]; intros; omega)
          | (rw [show decide (1 < (rs.size : Int)) = false from decide_eq_false (by omega)]; simp)
    case rest =>
      obtain ⟨rfl, rfl⟩ := hcut
      cases hbad : badB true rs
      · have hr := HB2.out hbad
        simp only [↓reduceIte] at hr
        have HR := Lib.hid hr; clear hr
        go_wp2_with fail
        go_loop [7, 39] (fun u i => ∃ (k n : Nat), k ≤ rs.size ∧ i = .int .i64 k ∧ u = .int .u64 n ∧ n ≤ 9223372036854775808 ∧ numGo 9223372036854775808 rs.data.toList 0 = numGo 9223372036854775808 (rs.data.toList.drop k) n) (fun _ i => rs.size - (intOf i).toNat)
        case atStart => exact ⟨0, 0, by omega, rfl, rfl, by omega, by simp⟩
        case round =>
          obtain ⟨k, n, hk, rfl, rfl, hn, hg⟩ := hrel
          have HG := Lib.hid hg; clear hg
          by_cases hlt : k < rs.size
          · have hstep := numGo_at 9223372036854775808 rs k n hlt
            have HS := Lib.hid hstep; clear hstep
            generalize hck : rs[k] = c at HS
            have hck2 : rs[k] = c := hck
            clear hck
            by_cases hgood : (48 : Int) ≤ (c.toNat : Int) ∧ (c.toNat : Int) ≤ 57 ∧ (n : Int) ≤ (9223372036854775808 - ((c.toNat : Int) - 48)) / 10
            · obtain ⟨g1, g2, g3⟩ := hgood
              go_wp2
              go_round
              case rel => exact ⟨k + 1, n * 10 + dv c, by omega, by go_num, by congr 1; unfold dv; omega, by unfold dv; omega, by rw [HG.out, HS.out, if_pos (by rw [digit_cond _ _ (by omega)]; exact decide_eq_true ⟨g1, g2, by omega⟩)]⟩
              case measure => simp [intOf]; omega
            · have hbad : numGo 9223372036854775808 rs.data.toList 0 = none := by
                rw [HG.out, HS.out, if_neg]
                rw [digit_cond _ _ (by omega)]; intro e; exact hgood (of_decide_eq_true e)
              have HB := Lib.hid hbad; clear hbad
              go_wp2
              all_goals
                go_ret2
                exact ⟨ret_ib (by rw [HR.out, HB.out]) (by rw [HR.out, HB.out]), rfl⟩
          · have hge : rs.size ≤ k := by omega
            have hfin : numGo 9223372036854775808 rs.data.toList 0 = some n := by
              rw [HG.out, List.drop_of_length_le (by rw [← size_len]; exact hge)]; rfl
            have HB := Lib.hid hfin; clear hfin
            go_wp2
            go_ret2
            exact ⟨ret_ib ((neg_u64 n hn).trans (by rw [HR.out, HB.out])) (by rw [HR.out, HB.out]), rfl⟩
      · have HR := Lib.hid (HB1.out hbad)
        go_wp2_with fail
        go_ret2
        exact ⟨ret_ib (by rw [HR.out]) (by rw [HR.out]), rfl⟩

theorem number_any (s : ByteArray) (hs : s.size ≤ maxLen) (w : World) :
    Calls Tryd.prog 102 #[.string s] w fun e w' => e = .returned (.tuple #[.int .i64 (numP s.data.toList).1, .bool (numP s.data.toList).2]) ∧ w = w' := by
  have h := number_core (Lib.hasPrefix s.data.toList [45]) s ⟨(Lib.trimPrefix s.data.toList [45]).toArray⟩ (by
    have := Lib.trimPrefix_le s.data.toList [45]
    rw [size_len] at hs ⊢; simp only []; omega) w (fun w => Tryd.strings_CutPrefix s ⟨#[45]⟩ w)
  rw [numP_core]
  exact h
end Go.Proofs.YtebkhehjfkmdiaaDoor
end

section
namespace Go.Proofs.YtebkhehjfkmdiaaDoor
open Go.RowKit

theorem number_ok (l : List UInt8) (hl : l.length ≤ 9223372036854775807) : PCall Tryd.prog 102 [sV l] (.tup [.p (iV (numP l).1), .p (bV (numP l).2)]) := by
  refine PCall.ofCallsG (R := .tuple #[.int .i64 (numP l).1, .bool (numP l).2]) (by kernel_rfl) (fun _ _ => dtup2 rfl rfl) fun w us _ hs h => ?_
  obtain ⟨a, rfl⟩ := us1 hs
  obtain ⟨_, h0'⟩ := h 0 _ a rfl rfl
  rw [given_str h0']
  refine (number_any ⟨l.toArray⟩ (by show l.toArray.size ≤ 9223372036854775807; simpa using hl) w).mono fun e w' h => ?_
  exact ⟨h.1, below_same h.2.symm⟩
end Go.Proofs.YtebkhehjfkmdiaaDoor
end
