/- The proof's texts, part 7 of 10: the walks by a logic in which data are by value, the plain laws, and at the end the law, for every input. -/
import Derived.Test.YtagokkpnfceidaaDoorMgFoldLines6
import Derived.Shelf.RegionOpenPlain
import Derived.Lib.Strings
import Derived.Lib.Walk
import Derived.Lib.Builder
import Derived.Lib.UnsafeStr
import Derived.Laws.Externs
import Derived.Shelf.Strings.Builder1
import Derived.Shelf.Strings.Builder2
import Derived.Shelf.Strings.Trim
import Derived.Shelf.Small.Utf8
import Derived.Shelf.Small.Strs
import Derived.Shelf.Small.Wraps
import Derived.Shelf.Strings.BuilderF
import Derived.Shelf.Strings.BuilderK
import Derived.Shelf.Strings.Builder2Cap
import Derived.Shelf.Strings.Search1
import Derived.Shelf.Strings.Search2
import Derived.Shelf.Strings.Search3
import Derived.Shelf.Strings.Cut
import Derived.Shelf.Strings.Count
import Derived.Shelf.LaysM
import Derived.Shelf.Strings.Shaped
import Derived.Shelf.Strings.Prefix
import Derived.Shelf.Strings.Split
import Derived.Shelf.Strings.Replace
import Derived.Shelf.Strings.SplitShaped
import Derived.Shelf.Strings.Runes
import Derived.Shelf.Strings.AsciiSet
import Derived.Shelf.Unicode.DecodeSlow
import Derived.Shelf.Strings.BuilderCap
import Derived.Test.YtagokkpnfceidaaDoorProg
import Derived.Shelf.Strings.SlTrimAscii
import Derived.Below
import Derived.Laws.Bits
import Derived.Deep.DeepCutAuto
import Derived.Deep.CutRange
import Derived.RangeFuncNested
import Derived.RangeFuncBound
import Derived.RangeFuncCalls
import Derived.RangeFuncLeaves
import Derived.RangeFuncWrites
import Derived.Shelf.Abstract
import Derived.Shelf.RegionOpen
import Derived.OwnWalkIn
import Derived.TacticsInMore
import Derived.LoopNIn
import Derived.LoopIn
import Derived.Maps.AppendAt

section
namespace Go.Proofs.YtagokkpnfceidaaDoor
open Go.RowKit

/-- A token's row is let go; it may be marked as no longer to be written. -/
theorem retire_stp {G : Gh} {s : S} {w w' : World} (hI : Inv G s w) {t : Nat} {T : Tok} (hT : G.tok[t]? = some T) (hp : T.pro = none) (h1 : w'.os = w.os) (h2 : w'.tape = w.tape) (h3 : w'.output = w.output) (h4 : w.heap.size ≤ w'.heap.size)
    (hold : ∀ b, b < w.heap.size → T.blk ≠ some b → w'.heap[b]? = w.heap[b]?) (hcell : ∀ g, T.blk = some g → ∀ o u, w.cell? ⟨g, o, none⟩ = some u → w'.cell? ⟨g, o, none⟩ = some u) (hsh : ShKept w w') :
    Stp G w { G with tok := G.tok.set t ⟨T.len + 1, none, 0, none⟩ } w' ∧ Inv { G with tok := G.tok.set t ⟨T.len + 1, none, 0, none⟩ } { s with live := s.live.set t (T.len + 1) } w' := by
  obtain ⟨N, hN⟩ : ∃ N : Tok, N = ⟨T.len + 1, none, 0, none⟩ := ⟨_, rfl⟩
  have hNb : ∀ b, ¬ N.has b := fun b hb => by subst hN; exact (nomatch Tok.has_row.1 hb)
  rw [← hN]
  have hTm : T ∈ G.tok := List.mem_of_getElem? hT
  have hlt : t < G.tok.length := (List.getElem?_eq_some_iff.1 hT).1
  have hset : ∀ (t' : Nat) T', (G.tok.set t N)[t']? = some T' → (t' = t ∧ T' = N) ∨ (t' ≠ t ∧ G.tok[t']? = some T') := fun t' T' h => by
    by_cases htt : t' = t
    · subst htt
      rw [List.getElem?_set_self hlt] at h
      exact .inl ⟨rfl, (Option.some.inj h).symm⟩
    · rw [List.getElem?_set_ne (fun e => htt e.symm)] at h
      exact .inr ⟨htt, h⟩
  have hmem : ∀ T', T' ∈ G.tok.set t N → T' = N ∨ ∃ t', t' ≠ t ∧ G.tok[t']? = some T' := fun T' h => by
    obtain ⟨t', ht'⟩ := List.getElem?_of_mem h
    rcases hset t' T' ht' with ⟨-, h⟩ | ⟨h, h'⟩
    · exact .inl h
    · exact .inr ⟨t', h, h'⟩
  have hoth : ∀ (t' : Nat) T' b, t' ≠ t → G.tok[t']? = some T' → T'.has b → w'.heap[b]? = w.heap[b]? := fun t' T' b hne h hb => by
    obtain ⟨k1, -, k3⟩ := hI.tok t' T' b h hb
    exact hold b k1 fun e => hne (k3 t T hT (.inl e)).symm
  have hnm : ∀ b ∈ G.name, w'.heap[b]? = w.heap[b]? := fun b hb => hold b (name_lt hI b hb) fun e => (hI.tok t T b hT (.inl e)).2.1 hb
  have hst : Stp G w { G with tok := G.tok.set t N } w' := by
    refine ⟨⟨h1, h2, h3, h4, fun b o u h hu => ⟨h, ?_⟩, fun b hb _ hn => hold b hb fun e => hn T hTm (.inl e), fun b o h => .inl h, fun b h => ?_, fun _ _ h => h, hsh⟩, fun nm b h => h, fun t' T' h => ?_⟩
    · by_cases hb : T.blk = some b
      · exact hcell b hb o u hu
      · rw [World.cell?_of_block (w := w) (hold b (hI.com b o h).1 hb)]; exact hu
    · rcases h with h | ⟨T', hT', hb⟩
      · exact .inr (.inl h)
      · rcases hmem T' hT' with rfl | ⟨t', -, h⟩
        · exact absurd hb (hNb b)
        · exact .inr (.inr ⟨T', List.mem_of_getElem? h, hb⟩)
    · by_cases htt : t' = t
      · subst htt
        rw [hT] at h
        cases h
        refine ⟨N, List.getElem?_set_self hlt, ⟨by rw [hN]; exact Nat.le_succ _, by rw [hN, hp]⟩, fun e => ?_⟩
        rw [hN] at e
        have e : T.len = T.len + 1 := e
        omega
      · refine ⟨T', ?_, .refl T', fun _ => ⟨rfl, fun b hb => hoth t' T' b htt h hb⟩⟩
        show (G.tok.set t N)[t']? = _
        rw [List.getElem?_set_ne (fun e => htt e.symm)]; exact h
  refine ⟨hst, ⟨fun b o h => ?_, hI.names, hI.nodup, fun i b cs hb hcs => ?_, ?_, fun t' T' b h hb => ?_, fun T' hT' => ?_, hI.glob.mono hst.ext.com⟩⟩
  · obtain ⟨k1, k2, k3⟩ := hI.com b o h
    refine ⟨Nat.lt_of_lt_of_le k1 h4, k2, fun T' hT' => ?_⟩
    rcases hmem T' hT' with rfl | ⟨t', -, h⟩
    · exact ⟨fun hb => absurd (.inl hb) (hNb b), fun hb => absurd (.inr hb) (hNb b)⟩
    · exact k3 T' (List.mem_of_getElem? h)
  · exact (hI.var i b cs hb hcs).mono hst (by rw [hnm b (List.mem_of_getElem? hb)])
  · show (G.tok.set t N).map (·.len) = s.live.set t (T.len + 1)
    rw [List.map_set, hI.live, hN]
  · rcases hset t' T' h with ⟨-, rfl⟩ | ⟨hne, h⟩
    · exact absurd hb (hNb b)
    · obtain ⟨k1, k2, k3⟩ := hI.tok t' T' b h hb
      refine ⟨Nat.lt_of_lt_of_le k1 h4, k2, fun t'' T'' h' hb' => ?_⟩
      rcases hset t'' T'' h' with ⟨-, rfl⟩ | ⟨-, h'⟩
      · exact absurd hb' (hNb b)
      · exact k3 t'' T'' h' hb'
  · rcases hmem T' hT' with rfl | ⟨t', hne, h⟩
    · exact ⟨fun q hq => absurd hq (by rw [hN]; simp), fun b o ⟨q, hq, _⟩ => absurd hq (by rw [hN]; simp)⟩
    · have hm := List.mem_of_getElem? h
      exact ⟨Tok.ok_ext (hI.pro T' hm) hst.ext fun b hb => hoth t' T' b hne h hb, fun b o hr => (hI.pro T' hm).2 b o hr⟩
theorem freeze_heap {w : World} {g n : Nat} {us : Array Value} {e : TypeId} (h : w.heap[g]? = some (.cells us e (0, 0))) (hn : n ≠ 0) : (w.freeze ⟨g, 0, none⟩ n).heap[g]? = some (.cells us e (0, n)) ∧ (∀ b, b ≠ g → (w.freeze ⟨g, 0, none⟩ n).heap[b]? = w.heap[b]?) ∧ (w.freeze ⟨g, 0, none⟩ n).heap.size = w.heap.size ∧
    (w.freeze ⟨g, 0, none⟩ n).os = w.os ∧ (w.freeze ⟨g, 0, none⟩ n).tape = w.tape ∧ (w.freeze ⟨g, 0, none⟩ n).output = w.output := by
  unfold World.freeze
  rw [if_neg hn]
  refine ⟨?_, fun b hb => ?_, by simp, rfl, rfl, rfl⟩
  · simp [Array.getElem?_modify, h]
  · simp [Array.getElem?_modify, Ne.symm hb]
end Go.Proofs.YtagokkpnfceidaaDoor
end

section
set_option linter.unusedVariables false
namespace Go.Proofs.YtagokkpnfceidaaDoor
open Go.RowKit Go.Shelf
attribute [local go_sem] Oper.semAt_some

set_option maxRecDepth 100000 in
set_option maxHeartbeats 1000000 in
theorem copyCheck_used (b : Nat) (w : World) (h0 : w.cell? ⟨b, 0, none⟩ = some (.pointer (some ⟨b, 0, none⟩))) :
    Calls Tryd.prog 53 #[.pointer (some ⟨b, 0, none⟩)] w fun e w' => e = .returned (.tuple #[]) ∧ w' = w := by
  obtain ⟨_, j, hj, hjs, _⟩ := tbOk 44 _ rfl
  go_enter Tryd.func53, Tryd.ntmps53
  go_wp2
  rw [Lib.run_neq_ptr_same w _ Tryd.underlying42 hj]
  go_wp2
  go_end0
  exact ⟨rfl, rfl⟩
set_option maxRecDepth 100000 in
set_option maxHeartbeats 1000000 in
theorem copyCheck_fresh (b e n : Nat) (w : World) (h0 : w.cell? ⟨b, 0, none⟩ = some (.pointer none)) (hsh : w.shape? b = some (e, n)) (hn : 0 < n) (hl : liesAt Tryd.prog Tryd.prog.depth e (n / Tryd.prog.cellsOf e) 0 44 1 = true) (hfz : w.frozen? ⟨b, 0, none⟩ = false) :
    Calls Tryd.prog 53 #[.pointer (some ⟨b, 0, none⟩)] w fun e w' => e = .returned (.tuple #[]) ∧ w' = w.setCell ⟨b, 0, none⟩ (.pointer (some ⟨b, 0, none⟩)) := by
  obtain ⟨_, j, hj, hjs, _⟩ := tbOk 44 _ rfl
  go_enter Tryd.func53, Tryd.ntmps53
  go_wp2
  rw [Lib.run_to_unsafe w ⟨b, 0, none⟩ Tryd.underlying42 Tryd.underlying115 hj (by rw [hjs]; decide) hsh hn]
  simp only [Result.andThen]
  rw [Oper.upon_value]
  go_wp2
  rw [run_callFunc_extern Tryd.func87 (by kernel_rfl) (by kernel_rfl) (by kernel_rfl) (e := Extern.AbiNoEscape.same) (by kernel_rfl)]
  rw [Lib.run_noEscape]
  simp only [Result.andThen]
  rw [Oper.upon_value]
  go_wp2
  rw [Lib.run_from_unsafe w ⟨b, 0, none⟩ Tryd.underlying115 Tryd.underlying42 hj hsh hl]
  simp only [Result.andThen]
  rw [Oper.upon_value]
  go_wp2
  go_end0
  exact ⟨rfl, rfl⟩
set_option maxRecDepth 100000 in
set_option maxHeartbeats 2000000 in
theorem string_walk (b n cap : Nat) (a : Option Addr) (q : Option Addr) (z : ByteArray) (w w1 w2 : World) (h0 : w.drew.cell? ⟨b, 1, none⟩ = some (.slice a n cap)) (h1 : w1.cell? ⟨b, 1, none⟩ = some (.slice a n cap))
    (hSD : (Builtin.unsafeSliceData_ #[40] 89 #[.slice a n cap]).run Tryd.prog w.drew = .ok (.pointer q) w1)
    (hUS : (Builtin.unsafeString_ #[89, 3] 9 #[.pointer q, .int .i64 n]).run Tryd.prog w1 = .ok (.string z) w2) :
    Calls Tryd.prog 29 #[.pointer (some ⟨b, 0, none⟩)] w fun e w' => e = .returned (.string z) ∧ w' = w2 := by
  have mixed := mixed
  go_enter Tryd.func29, Tryd.ntmps29
  go_wp2
  go_region_o
  all_goals (go_wp2; go_ret; exact ⟨rfl, rfl⟩)
end Go.Proofs.YtagokkpnfceidaaDoor
end

section
namespace Go.Proofs.YtagokkpnfceidaaDoor
open Go.RowKit

theorem b2s_cells {a : List Int} {l : List UInt8} (h : b2s a = some l) : a.map (cNum .u8) = l.map byteV := by
  unfold b2s at h
  split at h
  · rename_i hc
    cases h
    rw [List.map_map]
    refine List.map_congr_left fun n hn => ?_
    have := List.all_eq_true.1 hc n hn
    simp only [decide_eq_true_eq] at this
    simp [cNum, byteV, nV]
    omega
  · cases h
theorem sliceData_none {P : Program} (w : World) (ts : Array TypeId) (ty e : TypeId) (hp : P.underlying ty = some (.pointer e)) (a : Addr) (n : Nat) (hlt : a.block < w.heap.size) :
    ∃ q w1, (Builtin.unsafeSliceData_ ts ty #[.slice (some a) n 0]).run P w = .ok (.pointer q) w1 ∧ (w1 = w ∨ w1 = w.alloc (.view a e)) := by
  cases hsh : w.shape? a.block with
  | some sh => exact ⟨_, _, Lib.run_unsafeSliceData_zero w ts ty e hp a n sh hsh, .inr rfl⟩
  | none =>
    have hdef : Builtin.unsafeSliceData_ ts ty #[.slice (some a) n 0] =
        (do
          if (0 : Nat) ≠ 0 then pure (.pointer (some a))
          else if (← viewAt a.block).isSome then pure (.pointer (some a))
          else pure (.pointer (some ⟨← newObj (.view a (← elemOf ty)), 0, none⟩))) := rfl
    rw [hdef]
    obtain ⟨o, ho⟩ : ∃ o, w.heap[a.block]? = some o := ⟨_, Array.getElem?_eq_getElem hlt⟩
    have hg : ∀ c t f, o ≠ .cells c t f := fun c t f h => by
      subst h
      unfold World.shape? at hsh
      rw [ho] at hsh; cases hsh
    have hgo : (getObj a.block).run P w = .ok o w := by
      unfold getObj
      simp only [Sem.run, ho]
    by_cases hv : ∃ b t, o = .view b t
    · obtain ⟨b, t, rfl⟩ := hv
      refine ⟨some a, w, ?_, .inl rfl⟩
      simp [viewAt, hsh, hgo]
    · refine ⟨some ⟨w.heap.size, 0, none⟩, _, ?_, .inr rfl⟩
      have hva : (viewAt a.block).run P w = .ok none w := by
        simp only [viewAt]
        simp [hsh, hgo]
        cases o <;> first | rfl | exact absurd ⟨_, _, rfl⟩ hv
      simp [hva, elemOf, run_underlying hp]
theorem copyCheck_ok (h : List (List D)) (live : List Nat) (nm : Nat) {b : Bool} (ds : List D) (hds : h[nm]? = some ds) (hof : ds[0]? = some (.sp Tryd.prog 44 b nm 0)) :
    CallOK Tryd.prog 53 [.ptr nm 0] ⟨h, live⟩ (.tup []) ⟨h.set nm (ds.set 0 (.sp Tryd.prog 44 true nm 0)), live⟩ := by
  refine ⟨by kernel_rfl, fun G w us hI hl hrel => ?_⟩
  obtain ⟨u, rfl⟩ : ∃ u, us = #[u] := ⟨us[0]'(by rw [hl]; exact Nat.zero_lt_one), by
    apply Array.ext (by simpa using hl)
    intro i h1 h2
    have : i = 0 := by simp at h2; omega
    subst this; rfl⟩
  have hp := hrel 0 _ u rfl rfl
  cases hp with
  | ptr _ _ k hk =>
    obtain ⟨vs, ty, v1, v2, v3⟩ := (hI.var nm k ds hk hds).at hof (fun _ h => nomatch h)
    have hlt : 0 < vs.size := by rw [v2]; exact (List.getElem?_eq_some_iff.1 hof).1
    have hc := v3 0 _ vs[0] hof (Array.getElem?_eq_getElem hlt)
    have hcell : w.cell? ⟨k, 0, none⟩ = some vs[0] := by
      rw [cell_of_row w k 0 vs ty (0, 0) v1]; exact Array.getElem?_eq_getElem hlt
    cases hc.2 with
    | sp _ _ _ _ _ i e n _ h1 h2 h3 h4 h5 h6 =>
      have hik : i = k := by rw [hk] at h1; exact (Option.some.inj h1).symm
      subst hik
      cases b with
      | true =>
        rw [h6 rfl] at hcell
        refine (copyCheck_used i w hcell).mono ?_
        rintro e w' ⟨rfl, rfl⟩
        refine ⟨_, G, rfl, .refl G _, ?_, .tup _ _ rfl (fun j c u hc => by simp at hc)⟩
        refine hI.setCell (s := ⟨h, live⟩) hds (fun _ hd => by rw [hof] at hd; cases hd) fun u hu => ?_
        obtain ⟨c, hc, hu⟩ := hu
        rw [hof] at hc
        cases hc
        exact hu
      | false =>
        rw [h5 rfl] at hcell
        refine (copyCheck_fresh i e n w hcell h2 h3 h4 (by simp [World.frozen?, v1])).mono ?_
        rintro e' w' ⟨rfl, rfl⟩
        have hset : (w.setCell ⟨i, 0, none⟩ (.pointer (some ⟨i, 0, none⟩))).heap[i]? = some (.cells (vs.setIfInBounds 0 (.pointer (some ⟨i, 0, none⟩))) ty (0, 0)) := by
          simp [World.setCell, Array.getElem?_modify, v1]
        have hoth : ∀ b, b ≠ i → (w.setCell ⟨i, 0, none⟩ (.pointer (some ⟨i, 0, none⟩))).heap[b]? = w.heap[b]? := fun b hb => by
          simp [World.setCell, Array.getElem?_modify, Ne.symm hb]
        obtain ⟨s1, s2⟩ := store_stp hI nm i hk vs ty v1 (ds.set 0 (.sp Tryd.prog 44 true nm 0)) (vs.setIfInBounds 0 (.pointer (some ⟨i, 0, none⟩))) (by simp [v2]) (by simp) (fun j c u hc hu => by
          by_cases hj : j = 0
          · subst hj
            rw [List.getElem?_set_self (by rw [← v2]; exact hlt)] at hc
            cases hc
            rw [Array.getElem?_setIfInBounds_self_of_lt hlt] at hu
            cases hu
            exact ⟨rfl, .sp _ _ _ _ _ i e n _ hk h2 h3 h4 (fun h => by cases h) (fun _ => rfl)⟩
          · rw [List.getElem?_set_ne (fun e => hj e.symm)] at hc
            rw [Array.getElem?_setIfInBounds_ne (fun e => hj e.symm)] at hu
            exact v3 j c u hc hu) (w.setCell ⟨i, 0, none⟩ (.pointer (some ⟨i, 0, none⟩))) rfl rfl rfl (by simp [World.setCell]) hset hoth
        exact ⟨_, G, rfl, s1, s2, .tup _ _ rfl (fun j c u hc => by simp at hc)⟩
theorem builderString_ok (h : List (List D)) (live : List Nat) (nm t : Nat) (ds : List D) (es : List (List V)) {l : List UInt8} (hds : h[nm]? = some ds) (hof : ds[1]? = some (.own t 5 1 es)) (hlv : live[t]? = some es.length) (hes : es = l.map byteV) :
    CallOK Tryd.prog 29 [.ptr nm 0] ⟨h, live⟩ (.p (.v (strOf l))) ⟨h.set nm (ds.set 1 (.p (.sl false es))), live.set t (es.length + 1)⟩ := by
  refine ⟨by kernel_rfl, fun G w us hI hl hrel => ?_⟩
  obtain ⟨u, rfl⟩ : ∃ u, us = #[u] := ⟨us[0]'(by rw [hl]; exact Nat.zero_lt_one), by
    apply Array.ext (by simpa using hl)
    intro i h1 h2
    have : i = 0 := by simp at h2; omega
    subst this; rfl⟩
  have hp := hrel 0 _ u rfl rfl
  have hln : es.length = l.length := by rw [hes, List.length_map]
  cases hp with
  | ptr _ _ k hk =>
    obtain ⟨vs, ty, v1, v2, v3⟩ := (hI.var nm k ds hk hds).at hof (fun _ h => nomatch h)
    have hlt : 1 < vs.size := by rw [v2]; exact (List.getElem?_eq_some_iff.1 hof).1
    have hc := (v3 1 _ vs[1] hof (Array.getElem?_eq_getElem hlt)).2
    have hcell : w.cell? ⟨k, 1, none⟩ = some vs[1] := by
      rw [cell_of_row w k 1 vs ty (0, 0) v1]; exact Array.getElem?_eq_getElem hlt
    obtain ⟨v, hv⟩ : ∃ v, v = vs[1] := ⟨_, rfl⟩
    rw [← hv] at hcell hc
    cases hc with
    | own _ _ _ _ _ T x1 x2 x3 x0 x4 x5 =>
      have hlen : es.length = T.len := by
        have : (G.tok.map (·.len))[t]? = some T.len := by rw [List.getElem?_map, x3]; rfl
        rw [hI.live, hlv] at this
        exact Option.some.inj this
      obtain ⟨a, cap, rfl, hO⟩ := x5 hlen
      obtain ⟨a2, cap2, e2, c1, c2, -⟩ := x1.isSlice
      cases e2
      -- what is common to all ends
      have fin : ∀ w' : World, w'.os = w.os → w'.tape = w.tape → w'.output = w.output → w.heap.size ≤ w'.heap.size → (∀ b, b < w.heap.size → T.blk ≠ some b → w'.heap[b]? = w.heap[b]?) →
          (∀ g, T.blk = some g → ∀ o u, w.cell? ⟨g, o, none⟩ = some u → w'.cell? ⟨g, o, none⟩ = some u) → ShKept w w' → ∃ u G', Ending.returned (.string ⟨l.toArray⟩) = .returned u ∧ Stp G w G' w' ∧ Inv G' ⟨h.set nm (ds.set 1 (.p (.sl false es))), live.set t (es.length + 1)⟩ w' ∧ DRel G' w' (.p (.v (strOf l))) u := fun w' k1 k2 k3 k4 k5 k6 k7 => by
        obtain ⟨s1, s2⟩ := retire_stp hI x3 x0 k1 k2 k3 k4 k5 k6 k7
        rw [← hlen] at s1 s2
        refine ⟨_, _, rfl, s1, s2.setCell (s := ⟨h, live.set t (es.length + 1)⟩) hds (fun _ hd => by rw [hof] at hd; cases hd) fun u hu => ?_, .p _ _ (.v _ rfl)⟩
        obtain ⟨c, hc, hu⟩ := hu
        rw [hof] at hc
        cases hc
        cases hu with
        | own _ _ _ _ _ _ y1 => exact .p _ _ y1
      have hcd : w.drew.cell? ⟨k, 1, none⟩ = some (.slice a es.length cap) := hcell
      have hb := Tryd.underlying89
      by_cases h0 : es.length = 0
      · have hl0 : l = [] := List.eq_nil_of_length_eq_zero (by omega)
        subst hl0
        have hUS : ∀ q (W : World), (Builtin.unsafeString_ #[89, 3] 9 #[.pointer q, .int .i64 es.length]).run Tryd.prog W = .ok (.string ⟨#[]⟩) W := fun q W => by rw [h0]; exact Lib.run_unsafeString_none W _ _ _ q
        have plain : ∀ q, (Builtin.unsafeSliceData_ #[40] 89 #[.slice a es.length cap]).run Tryd.prog w.drew = .ok (.pointer q) w.drew → Calls Tryd.prog 29 #[.pointer (some ⟨k, 0, none⟩)] w fun e w' => ∃ u G', e = .returned u ∧ Stp G w G' w' ∧ Inv G' ⟨h.set nm (ds.set 1 (.p (.sl false es))), live.set t (es.length + 1)⟩ w' ∧ DRel G' w' (.p (.v (strOf []))) u := fun q hSD => by
          refine (string_walk k es.length cap a q ⟨#[]⟩ w w.drew w.drew hcd hcd hSD (hUS q _)).mono ?_
          rintro e w' ⟨rfl, rfl⟩
          exact fin w.drew rfl rfl rfl (Nat.le_refl _) (fun _ _ _ => rfl) (fun _ _ _ _ h => h) (fun _ _ h => h)
        cases a with
        | none => exact plain none rfl
        | some ad =>
          by_cases hc0 : cap = 0
          · subst hc0
            have hlt : ad.block < w.drew.heap.size := by
              rcases hO with hO | ⟨g, us, T', e1, -, -, -, e5, -⟩ | hO
              · exact hO.2 ad rfl
              · cases e1; exact (Array.getElem?_eq_some_iff.1 e5).1
              · exact absurd hO.1 (by decide)
            obtain ⟨q, w1, hSD, hw1⟩ := sliceData_none w.drew #[40] 89 5 hb ad es.length hlt
            rcases hw1 with rfl | rfl
            · exact plain q hSD
            · have hk2 : k < w.heap.size := (Array.getElem?_eq_some_iff.1 v1).1
              have hc2 : (w.drew.alloc (.view ad 5)).cell? ⟨k, 1, none⟩ = some (.slice (some ad) es.length 0) := (cellAlloc w.drew _ k 1 hk2).trans hcd
              refine (string_walk k es.length 0 (some ad) _ ⟨#[]⟩ w _ _ hcd hc2 hSD (hUS _ _)).mono ?_
              rintro e w' ⟨rfl, rfl⟩
              have hh : ∀ b, b < w.heap.size → (w.drew.alloc (.view ad 5)).heap[b]? = w.heap[b]? := fun b hb => by
                rw [heapAlloc, if_neg (by show ¬ b = w.heap.size; omega)]; rfl
              refine fin _ rfl rfl rfl (by simp) (fun b hb _ => hh b hb) (fun g hg o u hu => ?_) (shAlloc w.drew _)
              exact (cellAlloc w.drew _ g o (cellLt hu)).trans hu
          · exact plain (some ad) (Lib.run_unsafeSliceData_row _ _ _ _ _ _ hc0)
      · rcases hO with hO | ⟨g, us, T', e1, e2, e3, e4, e5, e6⟩ | hO
        · omega
        rotate_left
        · exact absurd hO.1 (by decide)
        · rw [rowTy_lt (by decide)] at e5
          subst e1
          rw [x3] at e2
          cases e2
          have hSD : (Builtin.unsafeSliceData_ #[40] 89 #[.slice (some ⟨g, 0, none⟩) es.length cap]).run Tryd.prog w.drew = .ok (.pointer (some ⟨g, 0, none⟩)) w.drew := Lib.run_unsafeSliceData_row _ _ _ _ _ _ (by omega)
          have hl0 : l ≠ [] := fun h' => by subst h'; exact h0 (by rw [hln]; rfl)
          have hcl : ∀ (j : Nat) x, l[j]? = some x → w.drew.cell? ((⟨g, 0, none⟩ : Addr).add j) = some (.int .u8 x.toNat) := fun j x hx => by
            have he : es[j]? = some (byteV x) := by rw [hes, List.getElem?_map, hx]; rfl
            obtain ⟨olds, o1, o2, o3, o4⟩ := x1.flat 1 x2 (by decide)
            obtain ⟨u, hu, hr⟩ := o2 j 0 _ _ he (show (byteV x)[0]? = some _ from rfl)
            have hux : u = .int .u8 x.toNat := by cases hr; rfl
            subst hux
            rcases o4 with o4 | ⟨b, off, q1, q2⟩
            · omega
            · cases q1
              have := (q2 _ _ hu).1
              rw [addAt]
              simpa using this
          have hUS := Lib.run_unsafeString_row (P := Tryd.prog) w.drew 89 3 9 5 hb (by kernel_rfl) g us.size (shape_of (w := w.drew) e5) l hl0 (by rw [e6]; omega) (by unfold maxLen at c2; omega) hcl
          rw [← hln] at hUS
          have hgk : k ≠ g := fun e => (hI.tok t T g x3 (.inl e3)).2.1 (e ▸ List.mem_of_getElem? hk)
          refine (string_walk k es.length cap _ _ ⟨l.toArray⟩ w w.drew _ hcd hcd hSD hUS).mono ?_
          rintro e w' ⟨rfl, rfl⟩
          obtain ⟨f1, f2, f3, f4, f5, f6⟩ := freeze_heap (w := w.drew) (n := es.length) e5 h0
          refine fin _ f4 f5 f6 (Nat.le_of_eq f3.symm) (fun b _ hb => f2 b fun e => hb (e ▸ e3)) (fun g' hg' o u hu => ?_) (fun b sh hb => ?_)
          · rw [e3] at hg'
            cases hg'
            rw [cell_of_row w g o us 5 (0, 0) e5] at hu
            rw [cell_of_row _ g o us 5 _ f1]; exact hu
          · by_cases hbg : b = g
            · subst hbg
              rw [shape_of e5] at hb
              rw [shape_of f1]; exact hb
            · rw [shape_eq (w := w) (f2 b hbg)]; exact hb
end Go.Proofs.YtagokkpnfceidaaDoor
end

section
namespace Go.Proofs
open Go.Shelf
def Tryd.lays137_ren : Go.Shelf.Ren := ⟨fun | 137 => 96 | 217 => 122 | 266 => 148 | n => n, fun | 9 => 9 | 5 => 5 | 3 => 3 | n => n, fun | n => n⟩
theorem Tryd.lays137 : Go.Proofs.Lays.n137 Tryd.prog Tryd.lays137_ren := {
  mixed := by kernel_rfl
  f137 := Tryd.func96.trans (congrArg some (by kernel_rfl))
  f217 := Tryd.func122.trans (congrArg some (by kernel_rfl))
  f266 := Tryd.func148.trans (congrArg some (by kernel_rfl))
  t3 := Tryd.underlying3
  a3 := Tryd.isAgg3
  z3 := Tryd.sizeOf3
  v3 := Tryd.zeroValue3
  t5 := Tryd.underlying5
  a5 := Tryd.isAgg5
  z5 := Tryd.sizeOf5
  v5 := Tryd.zeroValue5
  t9 := Tryd.underlying9
  a9 := Tryd.isAgg9
  z9 := Tryd.sizeOf9
  v9 := Tryd.zeroValue9 }
open Go.RowKit in
/-- strings.IndexByte: "IndexByte returns the index of the first instance of c in s, or -1 if c is not present in s.": IT RETURNS 'Lib.indexByte s c'; the world is as it was. (LAID: no walk: one application.) -/
theorem Tryd.strings_IndexByte (s : ByteArray) (c : Int) (w : World) :
    Calls Tryd.prog 96 #[.string s, .int .u8 c] w fun e w' => e = .returned (.int .i64 (Lib.indexByte s.data.toList c.toNat.toUInt8)) ∧ w' = w := Any.strings_IndexByte Tryd.lays137 s c w
def Tryd.lays103_ren : Go.Shelf.Ren := ⟨fun | 103 => 65 | 210 => 100 | 206 => 92 | n => n, fun | 9 => 9 | 4 => 4 | 24 => 34 | 3 => 3 | n => n, fun | n => n⟩
theorem Tryd.lays103 : Go.Proofs.Lays.n103 Tryd.prog Tryd.lays103_ren := {
  mixed := by kernel_rfl
  f103 := Tryd.func65.trans (congrArg some (by kernel_rfl))
  f206 := Tryd.func92.trans (congrArg some (by kernel_rfl))
  f210 := Tryd.func100.trans (congrArg some (by kernel_rfl))
  t3 := Tryd.underlying3
  a3 := Tryd.isAgg3
  z3 := Tryd.sizeOf3
  v3 := Tryd.zeroValue3
  t4 := Tryd.underlying4
  a4 := Tryd.isAgg4
  z4 := Tryd.sizeOf4
  v4 := Tryd.zeroValue4
  t9 := Tryd.underlying9
  a9 := Tryd.isAgg9
  z9 := Tryd.sizeOf9
  v9 := Tryd.zeroValue9
  t24 := Tryd.underlying34
  a24 := Tryd.isAgg34
  z24 := Tryd.sizeOf34
  v24 := Tryd.zeroValue34 }
open Go.RowKit in
/-- strings.CutPrefix: "CutPrefix returns s without the provided leading prefix string and reports whether it found the prefix. If s doesn't start with prefix, CutPrefix returns s, false. If prefix is the empty string, CutPrefix returns s, true.": IT RETURNS '(Lib.trimPrefix s p, Lib.hasPrefix s p)'; the world is as it was. (LAID: no walk: one application.) -/
theorem Tryd.strings_CutPrefix (s p : ByteArray) (w : World) :
    Calls Tryd.prog 65 #[.string s, .string p] w fun e w' => e = .returned (.tuple #[.string ⟨(Lib.trimPrefix s.data.toList p.data.toList).toArray⟩, .bool (Lib.hasPrefix s.data.toList p.data.toList)]) ∧ w' = w := Any.strings_CutPrefix Tryd.lays103 s p w
def Tryd.lays104_ren : Go.Shelf.Ren := ⟨fun | 104 => 60 | 211 => 93 | 207 => 121 | n => n, fun | 9 => 9 | 4 => 4 | 24 => 34 | 3 => 3 | n => n, fun | n => n⟩
theorem Tryd.lays104 : Go.Proofs.Lays.n104 Tryd.prog Tryd.lays104_ren := {
  mixed := by kernel_rfl
  f104 := Tryd.func60.trans (congrArg some (by kernel_rfl))
  f207 := Tryd.func121.trans (congrArg some (by kernel_rfl))
  f211 := Tryd.func93.trans (congrArg some (by kernel_rfl))
  t3 := Tryd.underlying3
  a3 := Tryd.isAgg3
  z3 := Tryd.sizeOf3
  v3 := Tryd.zeroValue3
  t4 := Tryd.underlying4
  a4 := Tryd.isAgg4
  z4 := Tryd.sizeOf4
  v4 := Tryd.zeroValue4
  t9 := Tryd.underlying9
  a9 := Tryd.isAgg9
  z9 := Tryd.sizeOf9
  v9 := Tryd.zeroValue9
  t24 := Tryd.underlying34
  a24 := Tryd.isAgg34
  z24 := Tryd.sizeOf34
  v24 := Tryd.zeroValue34 }
open Go.RowKit in
/-- strings.CutSuffix: "CutSuffix returns s without the provided ending suffix string and reports whether it found the suffix. If s doesn't end with suffix, CutSuffix returns s, false. If suffix is the empty string, CutSuffix returns s, true.": IT RETURNS '(Lib.trimSuffix s p, Lib.hasSuffix s p)'; the world is as it was. (LAID: no walk: one application.) -/
theorem Tryd.strings_CutSuffix (s p : ByteArray) (w : World) (hs : s.size ≤ 9223372036854775807) :
    Calls Tryd.prog 60 #[.string s, .string p] w fun e w' => e = .returned (.tuple #[.string ⟨(Lib.trimSuffix s.data.toList p.data.toList).toArray⟩, .bool (Lib.hasSuffix s.data.toList p.data.toList)]) ∧ w' = w := Any.strings_CutSuffix Tryd.lays104 s p w hs
def Tryd.lays219_ren : Go.Shelf.Ren := ⟨fun | 219 => 94 | 217 => 122 | 225 => 123 | 224 => 124 | 267 => 125 | 266 => 148 | 314 => 149 | n => n, fun | 9 => 9 | 3 => 3 | 4 => 4 | 5 => 5 | 46 => 122 | 146 => 163 | 51 => 123 | n => n, fun | 1 => 1 | n => n⟩
theorem Tryd.lays219 : Go.Proofs.Lays.n219 Tryd.prog Tryd.lays219_ren := {
  mixed := by kernel_rfl
  f217 := Tryd.func122.trans (congrArg some (by kernel_rfl))
  f219 := Tryd.func94.trans (congrArg some (by kernel_rfl))
  f224 := Tryd.func124.trans (congrArg some (by kernel_rfl))
  f225 := Tryd.func123.trans (congrArg some (by kernel_rfl))
  f266 := Tryd.func148.trans (congrArg some (by kernel_rfl))
  f267 := Tryd.func125.trans (congrArg some (by kernel_rfl))
  f314 := Tryd.func149.trans (congrArg some (by kernel_rfl))
  t3 := Tryd.underlying3
  a3 := Tryd.isAgg3
  z3 := Tryd.sizeOf3
  v3 := Tryd.zeroValue3
  t4 := Tryd.underlying4
  a4 := Tryd.isAgg4
  z4 := Tryd.sizeOf4
  v4 := Tryd.zeroValue4
  t5 := Tryd.underlying5
  a5 := Tryd.isAgg5
  z5 := Tryd.sizeOf5
  v5 := Tryd.zeroValue5
  t9 := Tryd.underlying9
  a9 := Tryd.isAgg9
  z9 := Tryd.sizeOf9
  v9 := Tryd.zeroValue9
  t46 := Tryd.underlying122
  a46 := Tryd.isAgg122
  z46 := Tryd.sizeOf122
  v46 := Tryd.zeroValue122
  t51 := Tryd.underlying123
  a51 := Tryd.isAgg123
  z51 := Tryd.sizeOf123
  v51 := Tryd.zeroValue123
  t146 := Tryd.underlying163
  a146 := Tryd.isAgg163
  z146 := Tryd.sizeOf163
  v146 := Tryd.zeroValue163
  g1 := by kernel_rfl }
open Go.RowKit Go.Lib in
/-- internal/stringslite.Index (what strings.Index calls) AT A substr OF WHATEVER LENGTH: IT RETURNS 'Lib.index s substr'; the world is as it was. 'm': what internal/bytealg.MaxLen holds: whatever. (LAID: no walk: one application.) -/
theorem Tryd.stringslite_Index (s sub : ByteArray) (m : Int) (w : World) (hs : s.size < 4294967281) (hm : w.cell? ⟨1, 0, none⟩ = some (.int .i64 m)) :
    Calls Tryd.prog 94 #[.string s, .string sub] w fun e w' => e = .returned (.int .i64 (Lib.index s.data.toList sub.data.toList)) ∧ w' = w := Any.stringslite_Index Tryd.lays219 s sub m w hs hm
def Tryd.lays145_ren : Go.Shelf.Ren := ⟨fun | 145 => 35 | 220 => 62 | 219 => 94 | 217 => 122 | 225 => 123 | 224 => 124 | 267 => 125 | 266 => 148 | 314 => 149 | n => n, fun | 9 => 9 | 4 => 4 | 59 => 61 | 3 => 3 | 5 => 5 | 46 => 122 | 146 => 163 | 51 => 123 | n => n, fun | 1 => 1 | n => n⟩
theorem Tryd.lays145 : Go.Proofs.Lays.n145 Tryd.prog Tryd.lays145_ren := {
  mixed := by kernel_rfl
  f145 := Tryd.func35.trans (congrArg some (by kernel_rfl))
  f217 := Tryd.func122.trans (congrArg some (by kernel_rfl))
  f219 := Tryd.func94.trans (congrArg some (by kernel_rfl))
  f220 := Tryd.func62.trans (congrArg some (by kernel_rfl))
  f224 := Tryd.func124.trans (congrArg some (by kernel_rfl))
  f225 := Tryd.func123.trans (congrArg some (by kernel_rfl))
  f266 := Tryd.func148.trans (congrArg some (by kernel_rfl))
  f267 := Tryd.func125.trans (congrArg some (by kernel_rfl))
  f314 := Tryd.func149.trans (congrArg some (by kernel_rfl))
  t3 := Tryd.underlying3
  a3 := Tryd.isAgg3
  z3 := Tryd.sizeOf3
  v3 := Tryd.zeroValue3
  t4 := Tryd.underlying4
  a4 := Tryd.isAgg4
  z4 := Tryd.sizeOf4
  v4 := Tryd.zeroValue4
  t5 := Tryd.underlying5
  a5 := Tryd.isAgg5
  z5 := Tryd.sizeOf5
  v5 := Tryd.zeroValue5
  t9 := Tryd.underlying9
  a9 := Tryd.isAgg9
  z9 := Tryd.sizeOf9
  v9 := Tryd.zeroValue9
  t46 := Tryd.underlying122
  a46 := Tryd.isAgg122
  z46 := Tryd.sizeOf122
  v46 := Tryd.zeroValue122
  t51 := Tryd.underlying123
  a51 := Tryd.isAgg123
  z51 := Tryd.sizeOf123
  v51 := Tryd.zeroValue123
  t59 := Tryd.underlying61
  a59 := Tryd.isAgg61
  z59 := Tryd.sizeOf61
  v59 := Tryd.zeroValue61
  t146 := Tryd.underlying163
  a146 := Tryd.isAgg163
  z146 := Tryd.sizeOf163
  v146 := Tryd.zeroValue163
  g1 := by kernel_rfl }
open Go.RowKit Go.Lib in
/-- strings.Cut: "Cut slices s around the first instance of sep, returning the text before and after sep. The found result reports whether sep appears in s. If sep does not appear in s, cut returns s, "", false.": IT RETURNS 'Lib.cut s sep'; the world is as it was but for the count of draws. (LAID: no walk: one application.) -/
theorem Tryd.strings_Cut (s sep : ByteArray) (m : Int) (w : World) (hs : s.size < 4294967281) (hm : w.cell? ⟨1, 0, none⟩ = some (.int .i64 m)) :
    Calls Tryd.prog 35 #[.string s, .string sep] w fun e w' => e = .returned (.tuple #[.string ⟨(Lib.cut s.data.toList sep.data.toList).1.toArray⟩, .string ⟨(Lib.cut s.data.toList sep.data.toList).2.1.toArray⟩, .bool (Lib.cut s.data.toList sep.data.toList).2.2]) ∧ ∃ n, w' = w.drewN n := Any.strings_Cut Tryd.lays145 s sep m w hs hm
def Tryd.laysM219_ren : Go.Shelf.Ren := ⟨fun | 219 => 94 | 217 => 122 | 225 => 123 | 224 => 124 | 267 => 125 | 266 => 148 | 314 => 149 | n => n, fun | 9 => 9 | 3 => 3 | 4 => 4 | 5 => 5 | 46 => 122 | 146 => 163 | 51 => 123 | n => n, fun | 1 => 1 | n => n⟩
theorem Tryd.laysM219 : Go.Proofs.LaysM.n219 Tryd.prog Tryd.laysM219_ren := {
  mixed := by kernel_rfl
  f217 := Tryd.func122.trans (congrArg some (by kernel_rfl))
  f219 := Tryd.func94.trans (congrArg some (by kernel_rfl))
  f224 := Tryd.func124.trans (congrArg some (by kernel_rfl))
  f225 := Tryd.func123.trans (congrArg some (by kernel_rfl))
  f266 := Tryd.func148.trans (congrArg some (by kernel_rfl))
  f267 := Tryd.func125.trans (congrArg some (by kernel_rfl))
  f314 := Tryd.func149.trans (congrArg some (by kernel_rfl))
  t3 := Tryd.underlying3
  a3 := Tryd.isAgg3
  z3 := Tryd.sizeOf3
  v3 := Tryd.zeroValue3
  t4 := Tryd.underlying4
  a4 := Tryd.isAgg4
  z4 := Tryd.sizeOf4
  v4 := Tryd.zeroValue4
  t5 := Tryd.underlying5
  a5 := Tryd.isAgg5
  z5 := Tryd.sizeOf5
  v5 := Tryd.zeroValue5
  t9 := Tryd.underlying9
  a9 := Tryd.isAgg9
  z9 := Tryd.sizeOf9
  v9 := Tryd.zeroValue9
  t46 := Tryd.underlying122
  a46 := Tryd.isAgg122
  z46 := Tryd.sizeOf122
  v46 := Tryd.zeroValue122
  t51 := Tryd.underlying123
  a51 := Tryd.isAgg123
  z51 := Tryd.sizeOf123
  v51 := Tryd.zeroValue123
  t146 := Tryd.underlying163
  a146 := Tryd.isAgg163
  z146 := Tryd.sizeOf163
  v146 := Tryd.zeroValue163
  g1 := by kernel_rfl
  i3 := by kernel_rfl
  i4 := by kernel_rfl
  i5 := by kernel_rfl
  i9 := by kernel_rfl
  i46 := by kernel_rfl
  i51 := by kernel_rfl
  i146 := by kernel_rfl
  m1 := by kernel_rfl
  s1_3 := fun w h => Go.Proofs.cell_of_shapedOpen_int (zero := #[.int .i64 0]) (t := 3) h (of_decide_eq_true (by kernel_rfl)) (by kernel_rfl) rfl (by kernel_rfl) (by kernel_rfl) Tryd.underlying3 }
def Tryd.lays99_ren : Go.Shelf.Ren := ⟨fun | 99 => 59 | 206 => 92 | n => n, fun | 9 => 9 | 4 => 4 | 3 => 3 | n => n, fun | n => n⟩
theorem Tryd.lays99 : Go.Proofs.Lays.n99 Tryd.prog Tryd.lays99_ren := {
  mixed := by kernel_rfl
  f99 := Tryd.func59.trans (congrArg some (by kernel_rfl))
  f206 := Tryd.func92.trans (congrArg some (by kernel_rfl))
  t3 := Tryd.underlying3
  a3 := Tryd.isAgg3
  z3 := Tryd.sizeOf3
  v3 := Tryd.zeroValue3
  t4 := Tryd.underlying4
  a4 := Tryd.isAgg4
  z4 := Tryd.sizeOf4
  v4 := Tryd.zeroValue4
  t9 := Tryd.underlying9
  a9 := Tryd.isAgg9
  z9 := Tryd.sizeOf9
  v9 := Tryd.zeroValue9 }
open Go.RowKit Go.Lib in
/-- strings.HasPrefix: "HasPrefix reports whether the string s begins with prefix.": IT RETURNS 'Lib.hasPrefix s prefix'; the world is as it was. (LAID: no walk: one application.) -/
theorem Tryd.strings_HasPrefix (s p : ByteArray) (w : World) :
    Calls Tryd.prog 59 #[.string s, .string p] w fun e w' => e = .returned (.bool (Lib.hasPrefix s.data.toList p.data.toList)) ∧ w' = w := Any.strings_HasPrefix Tryd.lays99 s p w
def Tryd.lays155_ren : Go.Shelf.Ren := ⟨fun | 155 => 37 | 154 => 64 | 138 => 97 | 165 => 98 | 143 => 76 | 166 => 26 | 197 => 99 | 169 => 29 | 195 => 126 | 218 => 127 | 240 => 53 | 241 => 128 | 219 => 94 | 260 => 129 | 276 => 87 | 277 => 150 | 217 => 122 | 225 => 123 | 224 => 124 | 267 => 125 | 266 => 148 | 314 => 149 | n => n, fun | 9 => 9 | 3 => 3 | 4 => 4 | 72 => 44 | 0 => 0 | 76 => 49 | 105 => 127 | 21 => 21 | 5 => 5 | 70 => 42 | 20 => 20 | 37 => 40 | 75 => 48 | 127 => 89 | 164 => 115 | 46 => 122 | 119 => 166 | 139 => 169 | 138 => 168 | 146 => 163 | 51 => 123 | 80 => 55 | n => n, fun | 1 => 1 | 3 => 2 | 4 => 3 | n => n⟩
theorem Tryd.lays155 : Go.Proofs.Lays.n155 Tryd.prog Tryd.lays155_ren := {
  mixed := by kernel_rfl
  f138 := Tryd.func97.trans (congrArg some (by kernel_rfl))
  f143 := Tryd.func76.trans (congrArg some (by kernel_rfl))
  f154 := Tryd.func64.trans (congrArg some (by kernel_rfl))
  f155 := Tryd.func37.trans (congrArg some (by kernel_rfl))
  f165 := Tryd.func98.trans (congrArg some (by kernel_rfl))
  f166 := Tryd.func26.trans (congrArg some (by kernel_rfl))
  f169 := Tryd.func29.trans (congrArg some (by kernel_rfl))
  f195 := Tryd.func126.trans (congrArg some (by kernel_rfl))
  f197 := Tryd.func99.trans (congrArg some (by kernel_rfl))
  f217 := Tryd.func122.trans (congrArg some (by kernel_rfl))
  f218 := Tryd.func127.trans (congrArg some (by kernel_rfl))
  f219 := Tryd.func94.trans (congrArg some (by kernel_rfl))
  f224 := Tryd.func124.trans (congrArg some (by kernel_rfl))
  f225 := Tryd.func123.trans (congrArg some (by kernel_rfl))
  f240 := Tryd.func53.trans (congrArg some (by kernel_rfl))
  f241 := Tryd.func128.trans (congrArg some (by kernel_rfl))
  f260 := Tryd.func129.trans (congrArg some (by kernel_rfl))
  f266 := Tryd.func148.trans (congrArg some (by kernel_rfl))
  f267 := Tryd.func125.trans (congrArg some (by kernel_rfl))
  f276 := Tryd.func87.trans (congrArg some (by kernel_rfl))
  f277 := Tryd.func150.trans (congrArg some (by kernel_rfl))
  f314 := Tryd.func149.trans (congrArg some (by kernel_rfl))
  t0 := Tryd.underlying0
  a0 := Tryd.isAgg0
  z0 := Tryd.sizeOf0
  v0 := Tryd.zeroValue0
  t3 := Tryd.underlying3
  a3 := Tryd.isAgg3
  z3 := Tryd.sizeOf3
  v3 := Tryd.zeroValue3
  t4 := Tryd.underlying4
  a4 := Tryd.isAgg4
  z4 := Tryd.sizeOf4
  v4 := Tryd.zeroValue4
  t5 := Tryd.underlying5
  a5 := Tryd.isAgg5
  z5 := Tryd.sizeOf5
  v5 := Tryd.zeroValue5
  t9 := Tryd.underlying9
  a9 := Tryd.isAgg9
  z9 := Tryd.sizeOf9
  v9 := Tryd.zeroValue9
  t20 := Tryd.underlying20
  a20 := Tryd.isAgg20
  z20 := Tryd.sizeOf20
  v20 := Tryd.zeroValue20
  t21 := Tryd.underlying21
  a21 := Tryd.isAgg21
  z21 := Tryd.sizeOf21
  v21 := Tryd.zeroValue21
  t37 := Tryd.underlying40
  a37 := Tryd.isAgg40
  z37 := Tryd.sizeOf40
  v37 := Tryd.zeroValue40
  t46 := Tryd.underlying122
  a46 := Tryd.isAgg122
  z46 := Tryd.sizeOf122
  v46 := Tryd.zeroValue122
  t51 := Tryd.underlying123
  a51 := Tryd.isAgg123
  z51 := Tryd.sizeOf123
  v51 := Tryd.zeroValue123
  t70 := Tryd.underlying42
  a70 := Tryd.isAgg42
  z70 := Tryd.sizeOf42
  v70 := Tryd.zeroValue42
  t72 := Tryd.underlying44
  a72 := Tryd.isAgg44
  z72 := Tryd.sizeOf44
  v72 := Tryd.zeroValue44
  t75 := Tryd.underlying48
  a75 := Tryd.isAgg48
  z75 := Tryd.sizeOf48
  v75 := Tryd.zeroValue48
  t76 := Tryd.underlying49
  a76 := Tryd.isAgg49
  z76 := Tryd.sizeOf49
  v76 := Tryd.zeroValue49
  t105 := Tryd.underlying127
  a105 := Tryd.isAgg127
  z105 := Tryd.sizeOf127
  v105 := Tryd.zeroValue127
  t119 := Tryd.underlying166
  a119 := Tryd.isAgg166
  z119 := Tryd.sizeOf166
  t127 := Tryd.underlying89
  a127 := Tryd.isAgg89
  z127 := Tryd.sizeOf89
  v127 := Tryd.zeroValue89
  t138 := Tryd.underlying168
  a138 := Tryd.isAgg168
  z138 := Tryd.sizeOf168
  v138 := Tryd.zeroValue168
  t139 := Tryd.underlying169
  a139 := Tryd.isAgg169
  z139 := Tryd.sizeOf169
  v139 := Tryd.zeroValue169
  t146 := Tryd.underlying163
  a146 := Tryd.isAgg163
  z146 := Tryd.sizeOf163
  v146 := Tryd.zeroValue163
  t164 := Tryd.underlying115
  a164 := Tryd.isAgg115
  z164 := Tryd.sizeOf115
  v164 := Tryd.zeroValue115
  g1 := by kernel_rfl
  g3 := by kernel_rfl
  g4 := by kernel_rfl }
theorem Tryd.Builder_Extra_155 : Builder.Extra Tryd.prog Tryd.lays155_ren := {
  sizeBuilder := by kernel_rfl
  liesBuilder := by kernel_rfl
  t5 := Tryd.underlying5
  a5 := Tryd.isAgg5
  z5 := Tryd.sizeOf5
  v5 := Tryd.zeroValue5
  infoByte := by kernel_rfl
  cellsByte := by kernel_rfl
  sizeByte := by kernel_rfl
  neB5 := by decide }
open Go.RowKit Go.Lib in
/-- strings.ReplaceAll: "ReplaceAll returns a copy of the string s with all non-overlapping instances of old replaced by new.": AT AN old THAT IS NOT EMPTY: 'Lib.replaceAll s old new'. (LAID: no walk: one application.) -/
theorem Tryd.strings_ReplaceAll (s old new : ByteArray) (m : Int) (w : World) (hs : s.size < 4294967281) (hm : w.cell? ⟨1, 0, none⟩ = some (.int .i64 m)) (h1 : 1 ≤ old.size) (hlen : s.size + Lib.countB s old * new.size ≤ 140737488355328) :
    Calls Tryd.prog 37 #[.string s, .string old, .string new] w fun e w' =>
      e = .returned (.string ⟨(Lib.replaceAll s.data.toList old.data.toList new.data.toList).toArray⟩) ∧ Below w.heap.size w w' := Any.strings_ReplaceAll Tryd.lays155 Tryd.Builder_Extra_155 s old new m w hs hm h1 hlen
end Go.Proofs
end

section
namespace Go.Proofs.YtagokkpnfceidaaDoor
open Go.RowKit

theorem PCall.ofCallsG {P : Program} {f : FuncId} {args : List V} {r : D} {R : Value} (hn : isFn P f = true) (hr : ∀ G w, DRel G w r R)
    (h : ∀ w us, (∃ C, GlobOk C w) → us.size = args.length → (∀ (j : Nat) x u, args[j]? = some x → us[j]? = some u → ∃ C, VRel C w x u) → Calls P f us w fun e w' => e = .returned R ∧ Below w.heap.size w w') : PCall P f args r :=
  ⟨hn, fun C w us hg hs hrel => (h w us ⟨C, hg⟩ hs fun j x u hx hu => ⟨_, hrel j x u hx hu⟩).mono fun _ _ ⟨he, hb⟩ => ⟨R, he, hr _ _, hb⟩⟩
theorem given_str {C : Nat → Nat → Prop} {w : World} {l : List UInt8} {u : Value} (h : VRel C w (sV l) u) : u = .string ⟨l.toArray⟩ := by cases h; rfl
theorem given_int {C : Nat → Nat → Prop} {w : World} {k : IntKind} {n : Int} {u : Value} (h : VRel C w (.v (.int k n)) u) : u = .int k n := by cases h; rfl
theorem below_same {w w' : World} (h : w' = w) : Below w.heap.size w w' := by subst h; exact Below.refl _ _
theorem need_some {p : Prop} [Decidable p] {R : Type} {f : Unit → Option R} {r : R} (h : (need p >>= f) = some r) : p ∧ f () = some r := by
  unfold need at h
  split at h
  · exact ⟨by assumption, h⟩
  · cases h
theorem index_ok (l s : List UInt8) (hl : l.length < 4294967281) : PCall Tryd.prog 94 [sV l, sV s] (.p (iV (Lib.index l s))) := by
  refine PCall.ofCallsG (by kernel_rfl) (fun _ _ => .p _ _ (.v _ rfl)) fun w us hg hs h => ?_
  obtain ⟨a, b, rfl⟩ := us2 hs
  obtain ⟨_, h0⟩ := h 0 _ a rfl rfl
  obtain ⟨_, h1⟩ := h 1 _ b rfl rfl
  obtain ⟨_, hg⟩ := hg
  obtain ⟨m, -, hm⟩ := hg.1 1 (by simp [globsL])
  rw [given_str h0, given_str h1]
  exact (Tryd.stringslite_Index _ _ m w (by show l.toArray.size < _; simpa using hl) hm).mono fun e w' ⟨he, hw⟩ => ⟨he, below_same hw⟩
end Go.Proofs.YtagokkpnfceidaaDoor
end

section
namespace Go.Proofs.YtagokkpnfceidaaDoor
open Go.RowKit

theorem replaceAll_ok (l s c : List UInt8) (hl : l.length < 4294967281) (h1 : 1 ≤ s.length) (h2 : l.length + Lib.countB ⟨l.toArray⟩ ⟨s.toArray⟩ * c.length ≤ 140737488355328) : PCall Tryd.prog 37 [sV l, sV s, sV c] (.p (sV (Lib.replaceAll l s c))) := by
  refine PCall.ofCallsG (by kernel_rfl) (fun _ _ => .p _ _ (.v _ rfl)) fun w us hg hs h => ?_
  obtain ⟨x, y, z, rfl⟩ : ∃ x y z, us = #[x, y, z] := by
    match us, hs with
    | ⟨[x, y, z]⟩, _ => exact ⟨x, y, z, rfl⟩
  obtain ⟨_, g0⟩ := h 0 _ x rfl rfl
  obtain ⟨_, g1⟩ := h 1 _ y rfl rfl
  obtain ⟨_, g2⟩ := h 2 _ z rfl rfl
  obtain ⟨_, hg⟩ := hg
  obtain ⟨m, -, hm⟩ := hg.1 1 (by simp [globsL])
  rw [given_str g0, given_str g1, given_str g2]
  exact Tryd.strings_ReplaceAll ⟨l.toArray⟩ ⟨s.toArray⟩ ⟨c.toArray⟩ m w (by show l.toArray.size < _; simpa using hl) hm (by show 1 ≤ s.toArray.size; simpa using h1) (by show l.toArray.size + _ * c.toArray.size ≤ _; simpa using h2)
end Go.Proofs.YtagokkpnfceidaaDoor
end

section
namespace Go.Proofs.YtagokkpnfceidaaDoor
open Go.RowKit

def dv (c : UInt8) : Nat := c.toNat - 48
def val (l : List UInt8) : Nat := l.foldl (fun u c => u * 10 + dv c) 0
end Go.Proofs.YtagokkpnfceidaaDoor
end

section
namespace Go.Proofs.YtagokkpnfceidaaDoor
open Go.RowKit

/-- W' differs from W at most in blocks that Z allows, and in new ones. -/
structure Chg (Z : Nat → Prop) (w w' : World) : Prop where
  os : w'.os = w.os
  tape : w'.tape = w.tape
  output : w'.output = w.output
  size : w.heap.size ≤ w'.heap.size
  block : ∀ k, k < w.heap.size → ¬ Z k → w'.heap[k]? = w.heap[k]?

theorem Chg.refl (Z : Nat → Prop) (w : World) : Chg Z w w := ⟨rfl, rfl, rfl, Nat.le_refl _, fun _ _ _ => rfl⟩
theorem Chg.mono {Z Z' : Nat → Prop} {w w' : World} (h : Chg Z w w') (hz : ∀ k, k < w.heap.size → Z k → Z' k) : Chg Z' w w' :=
  ⟨h.os, h.tape, h.output, h.size, fun k hk hz' => h.block k hk (fun hzk => hz' (hz k hk hzk))⟩
theorem Chg.trans {Z Z' : Nat → Prop} {a b c : World} (h : Chg Z a b) (k : Chg Z' b c) (hz : ∀ i, i < a.heap.size → Z' i → Z i) : Chg Z a c :=
  ⟨k.os.trans h.os, k.tape.trans h.tape, k.output.trans h.output, Nat.le_trans h.size k.size, fun i hi hn =>
    (k.block i (Nat.lt_of_lt_of_le hi h.size) (fun hz' => hn (hz i hi hz'))).trans (h.block i hi hn)⟩
theorem Chg.below {B : Nat} {Z : Nat → Prop} {w w' : World} (h : Chg Z w w') (hB : B ≤ w.heap.size) (hz : ∀ k, Z k → B ≤ k) : Below B w w' :=
  ⟨h.os, h.tape, h.output, h.size, fun k hk => h.block k (by omega) (fun hzk => by have := hz k hzk; omega)⟩
theorem Chg.of_fresh {w w' : World} (h : Below w.heap.size w w') (Z : Nat → Prop) : Chg Z w w' :=
  ⟨h.os, h.tape, h.output, h.size, fun k hk _ => h.block k hk⟩
theorem Chg.alloc {Z : Nat → Prop} {a w : World} (h : Chg Z a w) (o : Obj) : Chg Z a (w.alloc o) :=
  h.trans (Chg.of_fresh ((Below.refl _ w).alloc (Nat.le_refl _) o) Z) (fun _ _ h => h)
theorem Chg.drew {Z : Nat → Prop} {a w : World} (h : Chg Z a w) : Chg Z a w.drew := ⟨h.os, h.tape, h.output, h.size, h.block⟩
theorem Chg.drewN {Z : Nat → Prop} {a w : World} (h : Chg Z a w) (n : Nat) : Chg Z a (w.drewN n) := ⟨h.os, h.tape, h.output, h.size, h.block⟩
theorem Chg.setCell {Z : Nat → Prop} {a w : World} (h : Chg Z a w) {p : Addr} (hp : Z p.block ∨ a.heap.size ≤ p.block) (u : Value) : Chg Z a (w.setCell p u) :=
  ⟨h.os, h.tape, h.output, Nat.le_trans h.size (by simp [World.setCell]), fun k hk hn => by
    rw [Below.heap_setCell w p u k (fun e => by subst e; rcases hp with hp | hp; exact hn hp; omega)]; exact h.block k hk hn⟩
theorem Chg.putObj {Z : Nat → Prop} {a w : World} (h : Chg Z a w) {r : Nat} (hr : Z r ∨ a.heap.size ≤ r) (o : Obj) : Chg Z a (w.putObj r o) :=
  ⟨h.os, h.tape, h.output, Nat.le_trans h.size (by simp), fun k hk hn => by
    rw [World.putObj_heap_other (fun e => by subst e; rcases hr with hr | hr; exact hn hr; omega)]; exact h.block k hk hn⟩
theorem Chg.grown {Z : Nat → Prop} {a w w' : World} {row : Option Nat} (h : Chg Z a w) (hg : w.grownBy w' row) (hr : ∀ k, row = some k → Z k ∨ a.heap.size ≤ k) : Chg Z a w' :=
  ⟨hg.os.trans h.os, hg.tape.trans h.tape, hg.output.trans h.output, Nat.le_trans h.size hg.size, fun k hk hn => by
    rw [hg.block k (Nat.lt_of_lt_of_le hk h.size) (fun e => by rcases hr k e.symm with hz | hz; exact hn hz; omega)]; exact h.block k hk hn⟩
theorem Chg.cell {Z : Nat → Prop} {w w' : World} (h : Chg Z w w') {p : Addr} (hp : p.block < w.heap.size) (hz : ¬ Z p.block) : w'.cell? p = w.cell? p := World.cell?_of_block (w := w) (h.block p.block hp hz)
/-- What an iterator promises: the loop gets the elements xs, one after the other, till it says no. -/
def Iter {α : Type} (P : Program) (g : Nat) (cap : Array Value) (encs : α → Array Value) (xs : List α) (C Cw : Nat → Prop) (w : World) : Prop :=
  ∀ (n l : Nat) (S : Nat → Prop) (J : List α → (Nat → Prop) → World → Prop) (Jx : (Nat → Prop) → World → Prop) (M0 : Nat → Prop),
    (∀ k, S k → ¬ Cw k ∧ k < w.heap.size) →
    (∀ k, M0 k → ¬ C k ∧ k < w.heap.size) →
    (∀ pre M W W', J pre M W → Chg (fun k => ¬ M k ∧ ¬ S k) W W' → J pre M W') →
    (∀ M W W', Jx M W → Chg (fun k => ¬ M k ∧ ¬ S k) W W' → Jx M W') →
    (∀ pre x M W, J pre M W → pre ++ [x] <+: xs → (∀ k, M k → k < W.heap.size) → YieldAt Fence.wide (n - 1) P l (encs x) W fun e W' =>
      (e = .returned (.bool true) ∧ ∃ M', J (pre ++ [x]) M' W' ∧ Chg M W W' ∧ (∀ k, M' k → (M k ∨ W.heap.size ≤ k) ∧ k < W'.heap.size)) ∨
      (e = .returned (.bool false) ∧ ∃ M', Jx M' W' ∧ Chg M W W' ∧ (∀ k, M' k → (M k ∨ W.heap.size ≤ k) ∧ k < W'.heap.size))) →
    J [] M0 w →
    CallsIn Fence.wide n P g (#[.func (.yield l) #[] #[]] ++ cap) w fun e W' => (∃ v, e = .returned v) ∧ ((∃ M', J xs M' W') ∨ (∃ M', Jx M' W'))

/-- How a round may end. -/
def roundEnd {α : Type} (I : List α → (Nat → Prop) → World → Prop) (Ix : Code → (Nat → Prop) → World → Prop) (pre : List α) (M : Nat → Prop) (W : World) : Exit → Act → World → Prop
  | .normal, _, W' => ∃ M', I pre M' W' ∧ Chg M W W' ∧ (∀ k, M' k → (M k ∨ W.heap.size ≤ k) ∧ k < W'.heap.size)
  | .ret, _, W' => ∃ M', Ix .ret M' W' ∧ Chg M W W' ∧ (∀ k, M' k → (M k ∨ W.heap.size ≤ k) ∧ k < W'.heap.size)
  | .exit id, _, W' => ∃ M', Ix (.exit id) M' W' ∧ Chg M W W' ∧ (∀ k, M' k → (M k ∨ W.heap.size ≤ k) ∧ k < W'.heap.size)
  | .goto t, _, W' => ∃ M', Ix (.goto t) M' W' ∧ Chg M W W' ∧ (∀ k, M' k → (M k ∨ W.heap.size ≤ k) ∧ k < W'.heap.size)
  | _, _, _ => False

theorem wp_range {P : Program} {n : Nat} {α : Type} {gop : Operand} {ps : Array Tmp} {assign body : Code} {Q : Exit → Act → World → Prop} {a : Act} {w : World}
    {g : Nat} {cap : Array Value} (hg : a.eval gop = .func (.func g) #[] cap) (eg : ∀ args w, (callFunc g args).run P w = .ok (.enter g args) w)
    {encs : α → Array Value} {xs : List α} {C Cw : Nat → Prop} (hit : ∀ W, Chg (fun _ => False) w W → Iter P g cap encs xs C Cw W) (hps : ∀ x, (encs x).size = ps.size)
    (hC : ∀ k, C k → k < w.heap.size)
    (S : Nat → Prop) (hS : ∀ k, S k → ¬ Cw k ∧ k < w.heap.size)
    (I : List α → (Nat → Prop) → World → Prop) (Ix : Code → (Nat → Prop) → World → Prop)
    (hI : ∀ pre M W W', I pre M W → Chg (fun k => ¬ M k ∧ ¬ S k) W W' → I pre M W')
    (hIx : ∀ c M W W', Ix c M W → Chg (fun k => ¬ M k ∧ ¬ S k) W W' → Ix c M W')
    (M0 : Nat → Prop) (hM0 : ∀ k, M0 k → ¬ C k ∧ k < w.heap.size) (h0 : I [] M0 w)
    (hround : ∀ l pre x M W, I pre M W → pre ++ [x] <+: xs → ¬ M l → ¬ S l → l < W.heap.size → (∀ k, M k → k < W.heap.size) → w.heap.size ≤ W.heap.size →
      assign.wpIn (Fence.wide.inRound l) (n - 1 - 1) P (Exit.then (fun a1 W1 => Chg (fun _ => False) W W1 ∧ ∀ W2, Chg (fun k => k = l) W1 W2 → I pre M W2 →
          body.wpIn (Fence.wide.inRound l) (n - 1 - 1) P (roundEnd I Ix (pre ++ [x]) M W2) a1 W2) (fun _ _ _ => False))
        { tmps := (ps.zip (encs x)).foldl (fun t (p, v) => t.setIfInBounds p v) a.tmps, defers := [] } W)
    (hdone : ∀ M W, I xs M W → W.heap[w.heap.size]? = some (.deferred (some [])) → (∀ k, M k → k ≠ w.heap.size) → Q .normal { a with defers := { target := .collected w.heap.size, args := #[] } :: a.defers } W)
    (hstop : ∀ c M W, Ix c M W → W.heap[w.heap.size]? = some (.deferred (some [])) → (∀ k, M k → k ≠ w.heap.size) → c.wpIn Fence.wide n P Q { a with defers := { target := .collected w.heap.size, args := #[] } :: a.defers } W) :
    (Code.rangeFunc gop ps assign body).wpIn Fence.wide n P Q a w := by
  refine wpIn_rangeFunc ?_
  intro fn hfn
  obtain ⟨rec, hrec⟩ : ∃ rec : LoopState → Option Code → Loop, rec = fun st pe => { state := st, pending := pe, fn, tmps := a.tmps, params := ps, assign, body, defers := w.heap.size } := ⟨_, rfl⟩
  obtain ⟨D, hD⟩ : ∃ D, D = w.heap.size := ⟨_, rfl⟩
  obtain ⟨l, hl⟩ : ∃ l, l = w.heap.size + 1 := ⟨_, rfl⟩
  obtain ⟨W1, hW1⟩ : ∃ W1, (w.alloc (.deferred (some []))).alloc (.loop (rec .ready none)) = W1 := ⟨_, rfl⟩
  have hsz : W1.heap.size = w.heap.size + 2 := by rw [← hW1]; simp
  have hL1 : W1.heap[l]? = some (.loop (rec .ready none)) := by
    rw [← hW1, hl]; have := World.alloc_heap_new (w.alloc (.deferred (some []))) (.loop (rec .ready none)); rwa [World.size_alloc] at this
  have hK1 : W1.heap[D]? = some (.deferred (some [])) := by
    rw [← hW1, hD]; exact (Below.heap_alloc _ _ _ (by simp)).trans (World.alloc_heap_new w _)
  have hc1 : ∀ Z, Chg Z w W1 := fun Z => by rw [← hW1]; exact ((Chg.refl _ _).alloc _).alloc _
  refine ⟨l, [{ target := .collected D, args := #[] }], W1, { target := .fn (.func g) cap, args := #[.func (.yield l) #[] #[]] }, W1, g, #[.func (.yield l) #[] #[]] ++ cap, W1, ?_, ?_, ?_, ?_, ?_, ?_⟩
  · rw [← hW1, hrec, hl, hD]; exact run_enterLoop_outer _ _ _ _ _
  · simp only [resolve, hg]
    simp [go_sem]
  · intro f' _; trivial
  · simp [invoke, go_sem, eg]
  · intro h; simp [Fence.wide] at h
  · refine (hit W1 (hc1 _) (n - 1) l S
      (fun pre M' W => ∃ M, (M' = fun k => M k ∨ k = l ∨ k = D) ∧ I pre M W ∧ W.heap[l]? = some (.loop (rec .ready none)) ∧ W.heap[D]? = some (.deferred (some [])) ∧ (∀ k, M k → k < W.heap.size ∧ k ≠ l ∧ k ≠ D))
      (fun M' W => ∃ M c, (M' = fun k => M k ∨ k = l ∨ k = D) ∧ Ix c M W ∧ W.heap[l]? = some (.loop (rec .done (some c))) ∧ W.heap[D]? = some (.deferred (some [])) ∧ (∀ k, M k → k < W.heap.size ∧ k ≠ l ∧ k ≠ D))
      (fun k => M0 k ∨ k = l ∨ k = D) ?_ ?_ ?_ ?_ ?_ ?_).mono ?_
    · exact fun k hk => ⟨(hS k hk).1, by have := (hS k hk).2; omega⟩
    · rintro k (hk | rfl | rfl)
      · exact ⟨(hM0 k hk).1, by have := (hM0 k hk).2; omega⟩
      · exact ⟨fun h => by have := hC _ h; omega, by omega⟩
      · exact ⟨fun h => by have := hC _ h; omega, by omega⟩
    · rintro pre M' W W' ⟨M, rfl, hi, h1, h2, h3⟩ hc
      refine ⟨M, rfl, hI pre M W W' hi (hc.mono fun k _ hk => ⟨fun h => hk.1 (.inl h), hk.2⟩), ?_, ?_, fun k hk => ⟨Nat.lt_of_lt_of_le (h3 k hk).1 hc.size, (h3 k hk).2⟩⟩
      · rw [hc.block l (Array.getElem?_eq_some_iff.1 h1).1 (fun h => h.1 (.inr (.inl rfl)))]; exact h1
      · rw [hc.block D (Array.getElem?_eq_some_iff.1 h2).1 (fun h => h.1 (.inr (.inr rfl)))]; exact h2
    · rintro M' W W' ⟨M, c, rfl, hi, h1, h2, h3⟩ hc
      refine ⟨M, c, rfl, hIx c M W W' hi (hc.mono fun k _ hk => ⟨fun h => hk.1 (.inl h), hk.2⟩), ?_, ?_, fun k hk => ⟨Nat.lt_of_lt_of_le (h3 k hk).1 hc.size, (h3 k hk).2⟩⟩
      · rw [hc.block l (Array.getElem?_eq_some_iff.1 h1).1 (fun h => h.1 (.inr (.inl rfl)))]; exact h1
      · rw [hc.block D (Array.getElem?_eq_some_iff.1 h2).1 (fun h => h.1 (.inr (.inr rfl)))]; exact h2
    · -- one round
      rintro pre x M' W ⟨M, rfl, hi, h1, h2, h3⟩ hpre hM'
      have hlt : l < W.heap.size := (Array.getElem?_eq_some_iff.1 h1).1
      have hltD : D < W.heap.size := (Array.getElem?_eq_some_iff.1 h2).1
      have hSl : ¬ S l := fun h => by have := (hS l h).2; omega
      have hMl : ¬ M l := fun h => (h3 l h).2.1 rfl
      have hMD : ¬ M D := fun h => (h3 D h).2.2 rfl
      have hlD : l ≠ D := by omega
      have hy := run_yield (P := P) (args := encs x) h1 (by rw [hrec]; exact hps x)
      rw [hrec] at hy
      refine ⟨fn, _, assign, body, hy, roundIn_of_wpIn hfn (wpIn_mono (hround l pre x M W hi hpre hMl hSl hlt (fun k hk => (h3 k hk).1) (by omega)) ?_)⟩
      rintro e a1 Wa hq
      cases e with
      | normal =>
        obtain ⟨hca, hbody⟩ := hq
        have hla : Wa.heap[l]? = some (.loop (rec .ready none)) := (hca.block l hlt (fun h => h)).trans h1
        refine ⟨_, run_beginRound hla (by rw [hrec]), ?_⟩
        obtain ⟨W2, hW2⟩ : ∃ W2, Wa.putObj l (.loop { rec .ready none with state := .busy }) = W2 := ⟨_, rfl⟩
        rw [hW2]
        have hlta : l < Wa.heap.size := Nat.lt_of_lt_of_le hlt hca.size
        have hl2 : W2.heap[l]? = some (.loop { rec .ready none with state := .busy }) := by rw [← hW2]; exact World.putObj_heap_same hlta
        have hk2 : W2.heap[D]? = some (.deferred (some [])) := by
          rw [← hW2, World.putObj_heap_other (Ne.symm hlD)]; exact (hca.block D hltD (fun h => h)).trans h2
        have hc2 : Chg (fun k => k = l) Wa W2 := by rw [← hW2]; exact (Chg.refl (fun k => k = l) Wa).putObj (.inl rfl) _
        have hcW2 : Chg (fun k => k = l) W W2 := (hca.mono fun _ _ h => h.elim).trans hc2 (fun _ _ h => h)
        have hi2 : I pre M W2 := hI pre M W W2 hi (hcW2.mono fun k _ hk => by subst hk; exact ⟨hMl, hSl⟩)
        refine wpIn_mono (hbody W2 hc2 hi2) ?_
        have fin : ∀ (jump : Option Code) (W3 : World), Chg M W2 W3 →
            (Instr.endRound l jump).run P W3 = .ok (.bool jump.isNone) (W3.putObj l (.loop (rec (if jump.isNone then .ready else .done) jump))) ∧
            (W3.putObj l (.loop (rec (if jump.isNone then .ready else .done) jump))).heap[l]? = some (.loop (rec (if jump.isNone then .ready else .done) jump)) ∧
            (W3.putObj l (.loop (rec (if jump.isNone then .ready else .done) jump))).heap[D]? = some (.deferred (some [])) := fun jump W3 h23 => by
          have hl3 := (h23.block l (Array.getElem?_eq_some_iff.1 hl2).1 hMl).trans hl2
          have hd3 := (h23.block D (Array.getElem?_eq_some_iff.1 hk2).1 hMD).trans hk2
          have := run_endRound (P := P) jump hl3
          rw [hrec] at this ⊢
          exact ⟨this, World.putObj_heap_same (Array.getElem?_eq_some_iff.1 hl3).1, (World.putObj_heap_other (Ne.symm hlD)).trans hd3⟩
        have tot : ∀ (W3 : World) (o : Obj), Chg M W2 W3 → Chg (fun k => M k ∨ k = l ∨ k = D) W (W3.putObj l o) := fun W3 o h23 =>
          ((hcW2.mono fun k _ hk => Or.inr (.inl hk)).trans h23 (fun _ _ h => .inl h)).putObj (.inl (.inr (.inl rfl))) o
        have keep : ∀ (pre : List α) (M' : Nat → Prop) (W3 : World) (o : Obj), (∀ k, M' k → (M k ∨ W2.heap.size ≤ k) ∧ k < W3.heap.size) → Chg (fun k => ¬ M' k ∧ ¬ S k) W3 (W3.putObj l o) := fun pre M' W3 o hm =>
          (Chg.refl _ _).putObj (.inl ⟨fun h => by rcases (hm l h).1 with h | h; exact hMl h; have := (Array.getElem?_eq_some_iff.1 hl2).1; omega, hSl⟩) o
        have mem : ∀ (M' : Nat → Prop) (W3 : World) (o : Obj), (∀ k, M' k → (M k ∨ W2.heap.size ≤ k) ∧ k < W3.heap.size) → (∀ k, M' k → k < (W3.putObj l o).heap.size ∧ k ≠ l ∧ k ≠ D) := fun M' W3 o hm k hk => by
          have h4 := hm k hk
          have hl2' := (Array.getElem?_eq_some_iff.1 hl2).1
          have hk2' := (Array.getElem?_eq_some_iff.1 hk2).1
          refine ⟨by simpa using h4.2, ?_, ?_⟩
          · rintro rfl; rcases h4.1 with h | h; exact hMl h; omega
          · rintro rfl; rcases h4.1 with h | h; exact hMD h; omega
        have mem2 : ∀ (M' : Nat → Prop) (W3 : World) (o : Obj), W2.heap.size ≤ W3.heap.size → (∀ k, M' k → (M k ∨ W2.heap.size ≤ k) ∧ k < W3.heap.size) → (∀ k, (M' k ∨ k = l ∨ k = D) → ((M k ∨ k = l ∨ k = D) ∨ W.heap.size ≤ k) ∧ k < (W3.putObj l o).heap.size) := fun M' W3 o hle hm k hk => by
          have hs := hcW2.size
          rcases hk with hk | rfl | rfl
          · have h4 := hm k hk
            refine ⟨?_, by simpa using h4.2⟩
            rcases h4.1 with h | h
            · exact .inl (.inl h)
            · exact .inr (by omega)
          · exact ⟨.inl (.inr (.inl rfl)), by simp; omega⟩
          · exact ⟨.inl (.inr (.inr rfl)), by simp; omega⟩
        rintro e a3 W3 hp
        cases e with
        | normal =>
          obtain ⟨M', hi3, h23, hm⟩ := hp
          obtain ⟨hr, hl4, hk4⟩ := fin none W3 h23
          exact ⟨_, _, hr, .inl ⟨rfl, _, ⟨M', rfl, hI _ _ _ _ hi3 (keep pre M' W3 _ hm), hl4, hk4, mem M' W3 _ hm⟩, tot W3 _ h23, mem2 M' W3 _ h23.size hm⟩⟩
        | ret =>
          obtain ⟨M', hi3, h23, hm⟩ := hp
          obtain ⟨hr, hl4, hk4⟩ := fin (some .ret) W3 h23
          exact ⟨_, _, hr, .inr ⟨rfl, _, ⟨M', .ret, rfl, hIx _ _ _ _ hi3 (keep pre M' W3 _ hm), hl4, hk4, mem M' W3 _ hm⟩, tot W3 _ h23, mem2 M' W3 _ h23.size hm⟩⟩
        | exit id =>
          obtain ⟨M', hi3, h23, hm⟩ := hp
          obtain ⟨hr, hl4, hk4⟩ := fin (some (.exit id)) W3 h23
          exact ⟨_, _, hr, .inr ⟨rfl, _, ⟨M', .exit id, rfl, hIx _ _ _ _ hi3 (keep pre M' W3 _ hm), hl4, hk4, mem M' W3 _ hm⟩, tot W3 _ h23, mem2 M' W3 _ h23.size hm⟩⟩
        | goto t =>
          obtain ⟨M', hi3, h23, hm⟩ := hp
          obtain ⟨hr, hl4, hk4⟩ := fin (some (.goto t)) W3 h23
          exact ⟨_, _, hr, .inr ⟨rfl, _, ⟨M', .goto t, rfl, hIx _ _ _ _ hi3 (keep pre M' W3 _ hm), hl4, hk4, mem M' W3 _ hm⟩, tot W3 _ h23, mem2 M' W3 _ h23.size hm⟩⟩
        | panic ch => exact hp.elim
        | outgrown => exact hp.elim
      | _ => exact hq.elim
    · exact ⟨M0, rfl, hI _ _ _ _ h0 (hc1 _), hL1, hK1, fun k hk => by have := (hM0 k hk).2; omega⟩
    · -- behind the iterator
      rintro e W2 ⟨⟨v, rfl⟩, (⟨M', M, rfl, hi, h1, h2, h3⟩ | ⟨M', M, c, rfl, hi, h1, h2, h3⟩)⟩
      · have he := run_endLoop (P := P) h1 (by rw [hrec]; simp)
        rw [hrec] at he
        refine ⟨none, _, he, ?_⟩
        have := hdone M (W2.putObj l (.loop { rec .ready none with state := .exhausted })) (hI _ _ _ _ hi ((Chg.refl _ _).putObj (.inl ⟨fun h => (h3 l h).2.1 rfl, fun h => by have := (hS l h).2; omega⟩) _)) (by rw [← hD, World.putObj_heap_other (by omega)]; exact h2) (fun k hk => by rw [← hD]; exact (h3 k hk).2.2)
        rw [← hD, hrec] at this
        exact this
      · have he := run_endLoop (P := P) h1 (by rw [hrec]; simp)
        rw [hrec] at he
        refine ⟨some c, _, he, ?_⟩
        have := hstop c M (W2.putObj l (.loop { rec .done (some c) with state := .exhausted })) (hIx _ _ _ _ hi ((Chg.refl _ _).putObj (.inl ⟨fun h => (h3 l h).2.1 rfl, fun h => by have := (hS l h).2; omega⟩) _)) (by rw [← hD, World.putObj_heap_other (by omega)]; exact h2) (fun k hk => by rw [← hD]; exact (h3 k hk).2.2)
        rw [← hD, hrec] at this
        exact this

/-- An owned row stays owned where its own block stays. -/
theorem ownsRow_chg {Z : Nat → Prop} {w w' : World} {base : Nat} {e : TypeId} {size : Nat} {v : Value} {n : Nat} {xs : List Value} (h : w.ownsRow base e size v n xs) (hc : Chg Z w w') (hz : ∀ k, v.ownBlock = some k → ¬ Z k) : w'.ownsRow base e size v n xs := by
  refine ⟨h.1, ?_⟩
  rcases h.2 with hn | ⟨g, cap, cur, rfl, hb, hgg, rest⟩
  · exact .inl hn
  · exact .inr ⟨g, cap, cur, rfl, hb, (hc.block g (Array.getElem?_eq_some_iff.1 hgg).1 (hz g rfl)).trans hgg, rest⟩
/-- The block of a row that one append has left: the same, or a new one. -/
theorem Chg.heap {Z : Nat → Prop} {w w' : World} (h : Chg Z w w') {k : Nat} {o : Obj} (ho : w.heap[k]? = some o) (hz : ¬ Z k) : w'.heap[k]? = some o := (h.block k (Array.getElem?_eq_some_iff.1 ho).1 hz).trans ho
end Go.Proofs.YtagokkpnfceidaaDoor
end

section
namespace Go.Proofs.YtagokkpnfceidaaDoor
open Go.RowKit Go.Shelf
attribute [local go_sem] Oper.semAt_some

/-- The pieces of a text. -/
def cutC (b : UInt8) : List UInt8 → List (List UInt8)
  | [] => [[]]
  | a :: t => if a == b then [] :: cutC b t else match cutC b t with
    | h :: r => (a :: h) :: r
    | [] => [[a]]
theorem cutC_ne (b : UInt8) : ∀ l, cutC b l ≠ []
  | [] => by simp [cutC]
  | a :: t => by
    unfold cutC
    split
    · simp
    · split <;> simp
theorem index_range (l : List UInt8) (b : UInt8) : Lib.indexByte l b = -1 ∨ (0 ≤ Lib.indexByte l b ∧ Lib.indexByte l b < l.length) := by
  induction l with
  | nil => left; rfl
  | cons a t ih =>
    unfold Lib.indexByte
    split
    · right; simp
    · split
      · left; rfl
      · rename_i h; right
        rcases ih with ih | ih
        · simp [ih] at h
        · simp; omega
theorem cutC_none (b : UInt8) (l : List UInt8) (h : Lib.indexByte l b = -1) : cutC b l = [l] := by
  induction l with
  | nil => rfl
  | cons a t ih =>
    unfold Lib.indexByte at h
    split at h
    · simp at h
    · rename_i hab
      split at h
      · rename_i ht
        rw [cutC, if_neg hab, ih (by simpa using ht)]
      · rename_i ht
        rcases index_range t b with ih2 | ih2
        · simp [ih2] at ht
        · omega
theorem cutC_some (b : UInt8) (l : List UInt8) (i : Nat) (h : Lib.indexByte l b = i) : cutC b l = l.take i :: cutC b (l.drop (i + 1)) := by
  induction l generalizing i with
  | nil => simp [Lib.indexByte] at h
  | cons a t ih =>
    unfold Lib.indexByte at h
    split at h
    · rename_i hab
      have : i = 0 := by omega
      subst this
      rw [cutC, if_pos hab]; rfl
    · rename_i hab
      split at h
      · simp at h
      · obtain ⟨j, rfl⟩ : ∃ j, i = j + 1 := ⟨i - 1, by
          rename_i ht
          rcases index_range t b with h2 | h2
          · simp [h2] at ht
          · omega⟩
        rw [cutC, if_neg hab, ih j (by omega)]
        simp

def strAt (w : World) (b : Nat) : Nat := match w.cell? ⟨b, 0, none⟩ with | some (.string s) => s.size | _ => 0
theorem strAt_eq {w : World} {b : Nat} {s : ByteArray} (h : w.cell? ⟨b, 0, none⟩ = some (.string s)) : strAt w b = s.size := by simp [strAt, h]

set_option maxHeartbeats 2000000 in
theorem pieces_iter (b1 b2 : Nat) (s : ByteArray) (c : Int) (hb : b1 ≠ b2) (hs : s.size ≤ maxLen) (w : World)
    (h1 : w.heap[b1]? = some (.cells #[.string s] 9)) (h2 : w.heap[b2]? = some (.cells #[.int .u8 c] 5)) :
    Iter Tryd.prog 95 #[.pointer (some ⟨b1, 0, none⟩), .pointer (some ⟨b2, 0, none⟩)] (fun x : List UInt8 => #[.string ⟨x.toArray⟩]) (cutC c.toNat.toUInt8 s.data.toList) (fun k => k = b1 ∨ k = b2) (fun k => k = b1) w := by
  intro n l S J Jx M0 hS hM0 hJ hJx hY h0
  unfold maxLen at hs
  refine callsIn_of_wp Tryd.func95 rfl trivial ?_ rfl
  simp only [Tryd.ntmps95, List.size_toArray, List.length_cons, List.length_nil, Nat.reduceAdd, Nat.reduceSub, Array.replicate_succ, Array.replicate_zero, List.push_toArray, List.append_toArray, List.nil_append, List.cons_append]
  gi_wp2
  gi_loopw [] (fun wr => ∃ (pre : List (List UInt8)) (rest : ByteArray) (M : Nat → Prop), cutC c.toNat.toUInt8 s.data.toList = pre ++ cutC c.toNat.toUInt8 rest.data.toList ∧ rest.size ≤ s.size ∧ J pre M wr ∧
      wr.heap[b1]? = some (.cells #[.string rest] 9) ∧ wr.heap[b2]? = some (.cells #[.int .u8 c] 5) ∧ (∀ k, M k → ¬ (k = b1 ∨ k = b2) ∧ k < wr.heap.size))
    (fun wr => strAt wr b1)
  case atStart => exact ⟨[], s, M0, by simp, Nat.le_refl _, h0, h1, h2, hM0⟩
  case round =>
    obtain ⟨pre, rest, M, hcut, hle, hj, hb1, hb2, hM⟩ := hrel
    have c1 : wr.cell? ⟨b1, 0, none⟩ = some (.string rest) := by rw [cell_of_row wr b1 0 _ _ _ hb1]; rfl
    have c2 : wr.cell? ⟨b2, 0, none⟩ = some (.int .u8 c) := by rw [cell_of_row wr b2 0 _ _ _ hb2]; rfl
    have f1 : wr.frozen? ⟨b1, 0, none⟩ = false := by simp [World.frozen?, hb1]
    have HJ := Lib.hid hj; clear hj
    have HC := Lib.hid hcut; clear hcut
    rcases index_range rest.data.toList c.toNat.toUInt8 with hi | hi
    · have hpc : cutC c.toNat.toUInt8 rest.data.toList = [rest.data.toList] := cutC_none _ _ hi
      have hpre : pre ++ [rest.data.toList] <+: cutC c.toNat.toUInt8 s.data.toList := by rw [HC.out, hpc]; exact List.prefix_rfl
      obtain ⟨fn, tmps, assign, body, hy, hR⟩ := hY pre rest.data.toList M wr HJ.out hpre (fun k hk => (hM k hk).2)
      rw [Lib.mk_data] at hy
      clear hpre
      have HP := Lib.hid hpc; clear hpc
      have HR := Lib.hid hR; clear hR
      gi_wp2_with (refine ⟨trivial, nofun, ?_⟩; gi_at_call 96; refine (callsIn_wide.2 (Tryd.strings_IndexByte _ _ _)).mono ?_; rintro e w' ⟨rfl, rfl⟩)
      refine ⟨nofun, HR.out.mono ?_⟩
      rintro e W' (⟨rfl, M', hj', -, -⟩ | ⟨rfl, M', hj', -, -⟩)
      · gi_wp2
        refine bodyPost_ret (results_none rfl _ _ _) rfl ⟨⟨_, rfl⟩, .inl ⟨M', ?_⟩⟩
        rw [HC.out, HP.out]; exact hj'
      · gi_wp2
        exact bodyPost_ret (results_none rfl _ _ _) rfl ⟨⟨_, rfl⟩, .inr ⟨M', hj'⟩⟩
    · obtain ⟨i, hie⟩ : ∃ i : Nat, Lib.indexByte rest.data.toList c.toNat.toUInt8 = i := ⟨_, (Int.toNat_of_nonneg hi.1).symm⟩
      rw [hie] at hi
      have hlt : i < rest.size := by rw [size_len]; omega
      clear hi
      have hpc : cutC c.toNat.toUInt8 rest.data.toList = rest.data.toList.take i :: cutC c.toNat.toUInt8 (rest.data.toList.drop (i + 1)) := cutC_some _ _ _ hie
      have hpre : pre ++ [rest.data.toList.take i] <+: cutC c.toNat.toUInt8 s.data.toList := by
        rw [HC.out, hpc]; exact ⟨cutC c.toNat.toUInt8 (rest.data.toList.drop (i + 1)), by simp⟩
      obtain ⟨fn, tmps, assign, body, hy, hR⟩ := hY pre (rest.data.toList.take i) M wr HJ.out hpre (fun k hk => (hM k hk).2)
      have hex : rest.extract 0 i = ⟨(rest.data.toList.take i).toArray⟩ := by rw [Lib.extract_eq]; simp
      rw [← hex] at hy
      clear hpre hex
      have HP := Lib.hid hpc; clear hpc
      have HR := Lib.hid hR; clear hR
      gi_wp2_with (refine ⟨trivial, nofun, ?_⟩; gi_at_call 96; refine (callsIn_wide.2 (Tryd.strings_IndexByte _ _ _)).mono ?_; rintro e w' ⟨rfl, rfl⟩)
      refine ⟨nofun, HR.out.mono ?_⟩
      rintro e W' (⟨rfl, M', hj', hc', hm'⟩ | ⟨rfl, M', hj', -, -⟩)
      · have hb1l : b1 < w'.heap.size := (Array.getElem?_eq_some_iff.1 hb1).1
        have hb2l : b2 < w'.heap.size := (Array.getElem?_eq_some_iff.1 hb2).1
        have hb1' : W'.heap[b1]? = some (.cells #[.string rest] 9) := (hc'.block b1 hb1l (fun h => (hM b1 h).1 (.inl rfl))).trans hb1
        have hb2' : W'.heap[b2]? = some (.cells #[.int .u8 c] 5) := (hc'.block b2 hb2l (fun h => (hM b2 h).1 (.inr rfl))).trans hb2
        have c1' : W'.cell? ⟨b1, 0, none⟩ = some (.string rest) := by rw [cell_of_row W' b1 0 _ _ _ hb1']; rfl
        have f1' : W'.frozen? ⟨b1, 0, none⟩ = false := by simp [World.frozen?, hb1']
        have HJ' := Lib.hid hj'; clear hj'
        have HM' := Lib.hid hm'; clear hm'
        have HC' := Lib.hid hc'; clear hc'
        have hb1s := Lib.hid hb1'; clear hb1'
        have hb2s := Lib.hid hb2'; clear hb2'
        gi_wp2
        go_roundw
        case rel =>
          refine ⟨pre ++ [rest.data.toList.take i], rest.extract (i + 1) rest.size, M', ?_, ?_, ?_, ?_, ?_, ?_⟩
          · have e : (rest.data.toList.drop (i + 1)).take (rest.size - (i + 1)) = rest.data.toList.drop (i + 1) := List.take_of_length_le (by rw [List.length_drop, ← size_len]; omega)
            rw [HC.out, HP.out, Lib.extract_data, List.append_assoc, List.singleton_append, e]
          · rw [ByteArray.size_extract]; omega
          · exact hJ _ _ _ _ HJ'.out ((Chg.refl _ _).setCell (.inl ⟨fun h => by rcases (HM'.out b1 h).1 with h | h; exact (hM b1 h).1 (.inl rfl); omega, fun h => (hS b1 h).1 rfl⟩) _)
          · exact setCell_row hb1s.out 0 _
          · rw [setCell_other 0 _ (Ne.symm hb)]; exact hb2s.out
          · intro k hk
            rw [setCell_size]
            refine ⟨?_, (HM'.out k hk).2⟩
            rcases (HM'.out k hk).1 with h | h
            · exact (hM k h).1
            · rintro (rfl | rfl) <;> omega
        case measure =>
          rw [strAt_eq (s := rest.extract (i + 1) rest.size) (by rw [cell_of_row _ b1 0 _ _ _ (setCell_row hb1s.out 0 _)]; rfl), strAt_eq c1, ByteArray.size_extract]
          omega
      · gi_wp2
        exact bodyPost_ret (results_none rfl _ _ _) rfl ⟨⟨_, rfl⟩, .inr ⟨M', hj'⟩⟩
set_option maxHeartbeats 400000 in
theorem pieces_any (s : ByteArray) (c : Int) (w : World) :
    Calls Tryd.prog 63 #[.string s, .int .u8 c] w fun e w' => e = .returned (.func (.func 95) #[] #[.pointer (some ⟨w.heap.size, 0, none⟩), .pointer (some ⟨w.heap.size + 1, 0, none⟩)]) ∧
      w' = (w.alloc (.cells #[.string s] 9)).alloc (.cells #[.int .u8 c] 5) := by
  go_enter Tryd.func63, Tryd.ntmps63
  go_wp2
  go_ret
  exact ⟨rfl, rfl⟩
end Go.Proofs.YtagokkpnfceidaaDoor
end

section
namespace Go.Proofs.YtagokkpnfceidaaDoor
open Go.RowKit

section
variable {P : Program} (w : World)
theorem append_block (base : Nat) (t ty e : TypeId) (i : TypeInfo) (z : Value) (size bytes : Nat) (ht : P.underlying t = some (.slice e)) (hi : P.info? e = some i) (hz : i.zero = some z)
    (hsize : i.size = size) (hby : i.bytes = bytes) (v : Value) (n : Nat) (xs : List Value) (hown : w.ownsRow base e size v n xs)
    (a : Addr) (m c : Nat) (news : List Value) (hl : news.length = m * size) (hnews : ∀ j u, news[j]? = some u → w.cell? (a.add j) = some u) (h1 : ∀ u ∈ news, u.oneCell' = true)
    (h63 : n + m ≤ maxLen) (hbytes : (n + m) * bytes ≤ 140737488355328) (v' : Value) (w' : World)
    (hrun : (Builtin.append_ #[t, t] ty #[v, .slice (some a) m c]).run P w = .ok v' w') (hnil : v' = .slice none 0 0 ↔ v = .slice none 0 0 ∧ m = 0) :
    ∀ g, v'.ownBlock = some g → v.ownBlock = some g ∨ g = w.heap.size := by
  subst hsize hby
  have h64 : n + m ≤ 9223372036854775807 := by simp only [maxLen] at h63; omega
  rcases hown.2 with ⟨rfl, rfl⟩ | ⟨b, cap, cur, rfl, hb, hg, hnc, hcm, hcs, htake⟩
  · by_cases hm : m = 0
    · subst hm
      rw [hnil.2 ⟨rfl, rfl⟩]
      intro g hg; simp [Value.ownBlock] at hg
    · have h2 : m * i.bytes ≤ 281474976710656 := by rw [Nat.zero_add] at hbytes; omega
      have hr := run_append_nil (P := P) w t ty e i z ht hi hz a m c news hl hnews (by omega) (by omega) h2
      rw [hr] at hrun
      cases hrun
      intro g hg; simp [Value.ownBlock] at hg; exact .inr hg.symm
  · by_cases hroom : n + m ≤ cap
    · have hfit : n * i.size + news.length ≤ cur.size := by rw [hl, hcs, ← Nat.add_mul]; exact Nat.mul_le_mul_right _ hroom
      have hr := run_append_room (P := P) w t ty e i ht hi b n cap cur hg a m c news hl hnews h1 hroom hfit
      rw [hr] at hrun
      cases hrun
      intro g hg; exact .inl hg
    · have hr := run_append_grow (P := P) w t ty e i z ht hi hz ⟨b, 0, none⟩ n cap xs hown.1 (hown.cells (g := b) rfl) a m c news hl hnews (by omega) (by omega) (growslice_fits (by omega) hbytes)
      rw [hr] at hrun
      cases hrun
      intro g hg; simp [Value.ownBlock] at hg; exact .inr hg.symm
end

/-- append to a row of the call's own, in a fenced walk. -/
theorem wpLIn_append {F : Fence} {fn : Nat} {P : Program} (w : World) {ops : Array Oper} {rest : List Oper} {o : Oper} {a : Act} {Q : Exit → Act → World → Prop} (hgd : o.guard = none) (s x : Operand) (t : TypeId)
    (ho : o.op = .call { callee := .builtin .append, args := #[s, x], argTypes := #[t, t] })
    (base : Nat) (e : TypeId) (i : TypeInfo) (z : Value) (size bytes : Nat) (ht : P.underlying t = some (.slice e)) (hi : P.info? e = some i) (hz : i.zero = some z)
    (hsize : i.size = size) (hby : i.bytes = bytes) (hzs : z.cells.size = size) (hsz : 0 < size)
    (v : Value) (n : Nat) (xs : List Value) (hs : a.eval s = v) (hown : w.ownsRow base e size v n xs)
    (ad : Addr) (m c : Nat) (news : List Value) (hx : a.eval x = .slice (some ad) m c) (hl : news.length = m * size) (hnews : ∀ j u, news[j]? = some u → w.cell? (ad.add j) = some u) (h1 : ∀ u ∈ news, u.oneCell' = true)
    (h63 : n + m ≤ maxLen) (hbytes : (n + m) * bytes ≤ 140737488355328) (hbase : base ≤ w.heap.size)
    (h : ∀ v' w', w'.ownsRow base e size v' (n + m) (xs ++ news) → w.grownBy w' v.ownBlock → (∀ g, v'.ownBlock = some g → v.ownBlock = some g ∨ g = w.heap.size) → wpListIn F fn P ops Q rest (a.put o.dst v') w') : wpListIn F fn P ops Q (o :: rest) a w := by
  refine wpListIn_plain hgd fun K hK => ?_
  obtain ⟨v', w', hr, h2, h3, h4⟩ := run_append_own (P := P) w base t o.type e i z size bytes ht hi hz hsize hby hzs hsz v n xs hown ad m c news hl hnews h1 h63 hbytes hbase
  have h5 := append_block (P := P) w base t o.type e i z size bytes ht hi hz hsize hby v n xs hown ad m c news hl hnews h1 h63 hbytes v' w' hr h4
  unfold Oper.wpIn
  refine ⟨?_, ?_⟩
  · simp [Oper.about, ho, resolve, Target.leads, Sem.run_pure]
  · rw [Oper.semAt_plain F _ _ (by rw [ho]; intro c hc; cases hc)]
    simp [execOp, ho, resolve, invoke, builtin, hs, hx, hr, Result.andThen]
    exact hK _ _ (h v' w' h2 h3 h5)

/-- A round that appends one element to the row in a captured variable: what it leaves. -/
theorem box_round {W2 w1 : World} {b base n ys_n size : Nat} {v v' : Value} {t e : TypeId} {xs ys : List Value} {o : Obj}
    (h1 : W2.heap[b]? = some (.cells #[v] t)) (hown : W2.ownsRow base e size v n xs) (hb : b < base)
    (hgrow : (W2.alloc o).grownBy w1 v.ownBlock) (hnew : ∀ g, v'.ownBlock = some g → v.ownBlock = some g ∨ g = W2.heap.size + 1) (hown' : w1.ownsRow base e size v' ys_n ys) :
    (w1.setCell ⟨b, 0, none⟩ v').heap[b]? = some (.cells #[v'] t) ∧ (w1.setCell ⟨b, 0, none⟩ v').ownsRow base e size v' ys_n ys ∧
    Chg (fun k => k = b ∨ v.ownBlock = some k) W2 (w1.setCell ⟨b, 0, none⟩ v') ∧
    (∀ k, (k = b ∨ v'.ownBlock = some k) → ((k = b ∨ v.ownBlock = some k) ∨ W2.heap.size ≤ k) ∧ k < (w1.setCell ⟨b, 0, none⟩ v').heap.size) := by
  have hlt : b < W2.heap.size := (Array.getElem?_eq_some_iff.1 h1).1
  have hne : some b ≠ v.ownBlock := fun e => by have := (hown.lt b e.symm).1; omega
  have hb1 : w1.heap[b]? = some (.cells #[v] t) := (hgrow.block b (by simp; omega) hne).trans ((Below.heap_alloc _ _ _ hlt).trans h1)
  have hsz := hgrow.size
  simp only [World.size_alloc] at hsz
  refine ⟨?_, ?_, ?_, ?_⟩
  · have := setCell_row hb1 0 v'
    simpa using this
  · exact ownsRow_setCell_other hown' (fun e => by have := (hown'.lt b e).1; omega) _
  · have hc : Chg (fun k => k = b ∨ v.ownBlock = some k) W2 w1 := ((Chg.refl _ _).alloc o).grown hgrow (fun k hk => .inl (.inr hk))
    exact hc.setCell (.inl (.inl rfl)) _
  · intro k hk
    rw [setCell_size]
    rcases hk with rfl | hk
    · exact ⟨.inl (.inl rfl), by omega⟩
    · refine ⟨?_, (hown'.lt k hk).2⟩
      rcases hnew k hk with h | h
      · exact .inl (.inr h)
      · right; omega
end Go.Proofs.YtagokkpnfceidaaDoor
end

section
namespace Go.Proofs.YtagokkpnfceidaaDoor
open Go.RowKit Go.Shelf
attribute [local go_sem] Oper.semAt_some

theorem Tryd.infoStr : (Tryd.prog.info? 9).map (fun i => (i.zero, i.size, i.bytes)) = some (some (.string ByteArray.empty), 1, 16) := by kernel_rfl
theorem cutC_len (b : UInt8) (l : List UInt8) : (cutC b l).length ≤ l.length + 1 := by
  induction l with
  | nil => simp [cutC]
  | cons a t ih =>
    unfold cutC
    split
    · simp; exact ih
    · split
      · rename_i h; rw [h] at ih; simp at ih ⊢; omega
      · simp
def CutI (w : World) (pre : List (List UInt8)) (M : Nat → Prop) (W : World) : Prop :=
  ∃ v, W.heap[w.heap.size]? = some (.cells #[v] 56) ∧ W.ownsRow (w.heap.size + 3) 9 1 v pre.length (strC pre) ∧ (M = fun k => k = w.heap.size ∨ v.ownBlock = some k) ∧ Below w.heap.size w W
set_option maxHeartbeats 2000000 in
theorem cut_any (s : ByteArray) (c : Int) (hs : s.size ≤ 1000000000) (w : World) :
    Calls Tryd.prog 36 #[.string s, .int .u8 c] w fun e w' => ∃ v, e = .returned v ∧ Sl w' (fun b => w.heap.size ≤ b) v (cutC c.toNat.toUInt8 s.data.toList).length (strC (cutC c.toNat.toUInt8 s.data.toList)) ∧ Below w.heap.size w w' := by
  obtain ⟨i0, hi, hz0, hz1, hz2⟩ := info_parts Tryd.infoStr
  refine (callsIn_wide (n := 5)).1 ?_
  refine callsIn_of_wp_marks Tryd.func36 rfl trivial ?_ rfl
  simp only [Tryd.ntmps36, List.size_toArray, List.length_cons, List.length_nil, Nat.reduceAdd, Nat.reduceSub, Array.replicate_succ, Array.replicate_zero, List.push_toArray, List.append_toArray, List.nil_append, List.cons_append]
  gi_wp2_with (refine ⟨trivial, ?_⟩; gi_at_call 63; refine (callsIn_wide.2 (pieces_any _ _ _)).mono ?_; rintro e w' ⟨rfl, rfl⟩)
  refine wp_range (g := 95) (cap := #[.pointer (some ⟨w.heap.size + 1, 0, none⟩), .pointer (some ⟨w.heap.size + 2, 0, none⟩)]) ?hg (enters_of Tryd.func95 (by kernel_rfl) rfl)
    (encs := fun x : List UInt8 => #[.string ⟨x.toArray⟩]) (xs := cutC c.toNat.toUInt8 s.data.toList) (C := fun k => k = w.heap.size + 1 ∨ k = w.heap.size + 2) (Cw := fun k => k = w.heap.size + 1)
    ?hit ?hps ?hC (fun k => k < w.heap.size) ?hS
    (CutI w)
    (fun _ _ _ => False) ?hI (fun _ _ _ _ h _ => h.elim) (fun k => k = w.heap.size) ?hM0 ?h0 ?round ?done (fun _ _ _ h _ _ => h.elim)
  case hg => rfl
  case hps => intro x; rfl
  case hC => intro k hk; simp; omega
  case hS => intro k hk; exact ⟨by omega, by simp; omega⟩
  case hM0 => intro k hk; exact ⟨by omega, by simp; omega⟩
  case hit =>
    intro W hW
    refine pieces_iter (w.heap.size + 1) (w.heap.size + 2) s c (by omega) (by unfold maxLen; omega) W (hW.heap ((heap_at_old _ _ _ (by simp)).trans (heap_at_new _ _ _ (by simp))) (fun h => h)) (hW.heap (heap_at_new _ _ _ (by simp)) (fun h => h))
  case hI =>
    rintro pre M W W' ⟨v, h1, h2, rfl, h4⟩ hc
    refine ⟨v, hc.heap h1 (fun h => h.1 (.inl rfl)), ownsRow_chg h2 hc (fun k hk h => h.1 (.inr hk)), rfl, h4.trans (hc.below h4.size (fun k hk => by have := hk.2; omega))⟩
  case h0 =>
    refine ⟨.slice none 0 0, ?_, World.ownsRow_nil _ _ _ _, by simp [Value.ownBlock], ?_⟩
    · exact (heap_at_old _ _ _ (by simp; omega)).trans ((heap_at_old _ _ _ (by simp)).trans (heap_at_new _ _ _ rfl))
    · exact (((Below.refl _ _).alloc (Nat.le_refl _) _).alloc (by simp) _).alloc (by simp; omega) _
  case round =>
    intro l pre x M W hI hpre hMl hSl hlW hM hsz
    have HI := Lib.hid hI; clear hI
    gi_wp2
    refine ⟨Chg.refl _ _, fun W2 hc2 hI2 => ?_⟩
    obtain ⟨v, h1, h2, rfl, h4⟩ := hI2
    have hlen : pre.length + 1 ≤ 1000000001 := by
      have e1 := hpre.length_le
      have e2 := cutC_len c.toNat.toUInt8 s.data.toList
      rw [← size_len] at e2
      rw [List.length_append, List.length_singleton] at e1; omega
    have hv := h2.lt
    have hB : w.heap.size < W2.heap.size := (Array.getElem?_eq_some_iff.1 h1).1
    have c1 : W2.cell? ⟨w.heap.size, 0, none⟩ = some v := by rw [cell_of_row W2 w.heap.size 0 _ _ _ h1]; rfl
    have f1 : W2.frozen? ⟨w.heap.size, 0, none⟩ = false := by simp [World.frozen?, h1]
    have H1 := Lib.hid h1; clear h1
    have H4 := Lib.hid h4; clear h4
    have HV := Lib.hid hv; clear hv
    clear hpre hMl hSl hM
    have hB3 : w.heap.size + 3 ≤ W2.heap.size := by have := hc2.size; simp at hsz; omega
    clear hc2
    gi_wp2_with (gi_at_builtin; refine wpLIn_append _ rfl _ _ 56 rfl (w.heap.size + 3) 9 i0 (.string ByteArray.empty) 1 16 Tryd.underlying56 hi hz0 hz1 hz2 rfl (by decide) _ _ _ rfl (h2.alloc _) ⟨W2.heap.size, 0, none⟩ 1 1 [.string ⟨x.toArray⟩] rfl rfl (cell_one_new _ _ _) (by simp [Value.oneCell']) (by unfold maxLen; omega) (by omega) (by simp; omega) ?_)
    intro v' w1 hown' hgrow hnew
    obtain ⟨g', cap', rfl⟩ := ownsRow_succ hown'
    obtain ⟨r1, r2, r3, r4⟩ := box_round H1.out h2 (by omega) hgrow hnew hown'
    have hne : some w.heap.size ≠ v.ownBlock := fun e => by have := HV.out _ e.symm; omega
    have hb1 : w1.heap[w.heap.size]? = some (.cells #[v] 56) := (hgrow.block _ (by simp; omega) hne).trans ((Below.heap_alloc _ _ _ hB).trans H1.out)
    have c3 : w1.cell? ⟨w.heap.size, 0, none⟩ = some v := by rw [cell_of_row w1 w.heap.size 0 _ _ _ hb1]; rfl
    have f3 : w1.frozen? ⟨w.heap.size, 0, none⟩ = false := by simp [World.frozen?, hb1]
    have R1 := Lib.hid r1; clear r1
    have R2 := Lib.hid r2; clear r2
    have R3 := Lib.hid r3; clear r3
    have R4 := Lib.hid r4; clear r4
    clear c1 f1 hne hnew hgrow hown' hb1
    gi_wp2
    refine ⟨fun k => k = w.heap.size ∨ (Value.slice (some ⟨g', 0, none⟩) (pre.length + 1) cap').ownBlock = some k, ⟨_, R1.out, ?_, rfl, H4.out.trans (R3.out.below H4.out.size ?_)⟩, R3.out, R4.out⟩
    · have := R2.out; simpa [strC] using this
    · rintro k (rfl | hk)
      · exact Nat.le_refl _
      · have := HV.out k hk; omega
  case done =>
    rintro M W ⟨v, h1, h2, rfl, h4⟩ hD hMD
    have c1 : W.cell? ⟨w.heap.size, 0, none⟩ = some v := by rw [cell_of_row W w.heap.size 0 _ _ _ h1]; rfl
    have hMD := Lib.hid hMD
    have HD := Lib.hid hD; clear hD
    have H1 := Lib.hid h1; clear h1
    gi_wp2
    refine ⟨by simp, .inl ⟨_, _, rfl, run_takeDeferred (by first | exact HD.out | simpa using HD.out), ?_⟩⟩
    refine ⟨_, results_tmp rfl _ _ _, ?_⟩
    refine ⟨_, rfl, ?_, ?_⟩
    · have hlt := h2.lt
      refine (Sl.of_owns' h2).mono (fun b hb _ => ?_) (fun b hb _ => by have := (hlt b hb).1; omega)
      exact World.putObj_heap_other (by simpa using hMD.out b (.inr hb))
    · exact h4.trans ((Below.refl _ W).grown (grownBy_putObj' W _ _) h4.size (fun k e => by cases e; omega))
end Go.Proofs.YtagokkpnfceidaaDoor
end

section
namespace Go.Proofs.YtagokkpnfceidaaDoor
open Go.RowKit

/-- A slice of strings of the elder contracts, as data. -/
theorem Sl.rel {C : Nat → Nat → Prop} {w : World} {ok : Nat → Prop} {v : Value} (l : List (List UInt8)) (hne : l ≠ []) (h : Sl w ok v l.length (strC l)) (hC : ∀ b o, ok b → C b o) : VRel C w (.sl false (l.map cStr)) v := by
  obtain ⟨a, cap, rfl, h1, h2, h3⟩ := h
  obtain ⟨x, r, rfl⟩ := List.exists_cons_of_ne_nil hne
  have h0 : (strC (x :: r))[0]? = some (.string ⟨x.toArray⟩) := rfl
  obtain ⟨b, off, rfl, hb, -⟩ := h3 0 _ h0
  have hlen : ((x :: r).map cStr).length = (x :: r).length := by simp
  have key := VRel.sl (C := C) (w := w) false ((x :: r).map cStr) (some ⟨b, off, none⟩) cap 1 b off (fun j => .string ⟨((x :: r).getD j []).toArray⟩) (by rw [hlen]; exact h1) h2 (fun h => by cases h) (fun e he => by
    obtain ⟨y, -, rfl⟩ := List.mem_map.1 he; rfl) (fun h => by cases h) (fun i k e c he hc => ?_) (fun i k e c he hc => ?_) (fun h => by cases h)
  · rw [hlen] at key; exact key
  · rw [List.getElem?_map] at he
    obtain ⟨y, hy, rfl⟩ := Option.map_eq_some_iff.1 he
    cases k with
    | succ k => simp [cStr] at hc
    | zero =>
      have hs : (strC (x :: r))[i]? = some (.string ⟨y.toArray⟩) := by unfold strC; rw [List.getElem?_map, hy]; rfl
      obtain ⟨b', off', e', hb', hc'⟩ := h3 i _ hs
      cases e'
      refine ⟨rfl, hC _ _ hb', ?_, rfl⟩
      rw [Nat.mul_one, Nat.add_zero, Nat.add_zero, hc', List.getD_eq_getElem?_getD, hy]; rfl
  · rw [List.getElem?_map] at he
    obtain ⟨y, hy, rfl⟩ := Option.map_eq_some_iff.1 he
    cases k with
    | succ k => simp [cStr] at hc
    | zero =>
      have e0 : c = sV y := by simpa [cStr] using hc.symm
      subst e0
      rw [Nat.mul_one, Nat.add_zero, List.getD_eq_getElem?_getD, hy]
      exact .v _ rfl
theorem cut_ok (l : List UInt8) (c : Int) (hl : l.length ≤ 1000000000) : PCall Tryd.prog 36 [sV l, nV .u8 c] (.p (.sl false ((cutC c.toNat.toUInt8 l).map cStr))) := by
  refine ⟨by kernel_rfl, fun C w us hg hs hrel => ?_⟩
  obtain ⟨a, b, rfl⟩ := us2 hs
  have h0 := hrel 0 _ a rfl rfl
  have h2 := hrel 1 _ b rfl rfl
  rw [given_str h0, given_int h2]
  refine (cut_any ⟨l.toArray⟩ c (by show l.toArray.size ≤ _; simpa using hl) w).mono fun e w' ⟨v, he, hv, hb⟩ => ?_
  exact ⟨v, he, .p _ _ (Sl.rel _ (cutC_ne _ _) hv (fun b o h => .inr h)), hb⟩
def runeN (n : Nat) : Bool := decide (n ≤ 1114111) && !(decide (55296 ≤ n) && decide (n ≤ 57343))
def ubN (n : Nat) : List UInt8 :=
  (if n < 128 then [n] else if n < 2048 then [192 + n / 64, 128 + n % 64] else if n < 65536 then [224 + n / 4096, 128 + n / 64 % 64, 128 + n % 64] else [240 + n / 262144, 128 + n / 4096 % 64, 128 + n / 64 % 64, 128 + n % 64] : List Nat).map UInt8.ofNat
set_option maxRecDepth 100000 in
theorem isN_any (n : Nat) (h : runeN n = true) (w : World) :
    Calls Tryd.prog 89 #[.int .i32 n] w fun e w' => e = .returned (.bool true) ∧ w' = w := by
  have h1 : n ≤ 1114111 ∧ (n < 55296 ∨ 57343 < n) := by
    simp only [runeN, Bool.and_eq_true, decide_eq_true_eq, Bool.not_eq_true', Bool.and_eq_false_iff, decide_eq_false_iff_not] at h
    omega
  obtain ⟨h1, h2⟩ := h1
  clear h
  by_cases h3 : n < 55296
  · clear h2
    go_enter Tryd.func89, Tryd.ntmps89
    go_wp2
    go_ret
    exact ⟨rfl, rfl⟩
  · have h4 : 57343 < n := by omega
    clear h2
    go_enter Tryd.func89, Tryd.ntmps89
    go_wp2
    go_ret
    refine ⟨?_, rfl⟩
    show Ending.returned (.bool (decide ((n : Int) < 55296) || decide (57343 < (n : Int)))) = _
    rw [decide_eq_false (by omega), decide_eq_true (by omega)]
    rfl
theorem slice_arr_h {P : Program} (t : TypeId) (b N : Nat) (a : Nat) (l : Int) (hl : l = a) (ha : a ≤ N) (ht : P.underlying t = some (.array (P.arrayLen t) (P.elem t))) (hN : P.arrayLen t = N) (he : (P.info? (P.elem t)).map (·.size) = some 1) (W : World) :
    (Instr.sliceAt t (.pointer (some ⟨b, 0, none⟩)) none (some (.int .i64 l)) none).run P W = .ok (.slice (some ⟨b, 0, none⟩) a N) W := by
  subst hl
  rw [run_sliceAt_array_h W t ⟨b, 0, none⟩ ht .i64 a (by omega) (by omega), hN]
  have hs : (sizeOf (P.elem t)).run P W = .ok 1 W := by
    cases h : P.info? (P.elem t) with
    | none => simp [h] at he
    | some i => simp [h] at he; simp [sizeOf, typeInfo, h, he]
  rw [hs]
  simp only [Result.andThen, slicedAt, Int.toNat_natCast, Nat.mul_one]
  have e : (if N = 0 then (⟨b, 0, none⟩ : Addr) else (⟨b, 0, none⟩ : Addr).add 0) = ⟨b, 0, none⟩ := by
    rw [add_at]; split <;> rfl
  rw [e, Nat.sub_zero, Nat.sub_zero]
theorem and63I (n : Nat) (h : n < 4194304) : bits .and .i32 (n : Int) 63 = ((n % 64 : Nat) : Int) := by
  show IntKind.i32.wrap ((BitVec.ofInt 32 (n : Int) &&& BitVec.ofInt 32 63).toNat : Int) = _
  have e : n &&& 63 = n % 64 := Nat.and_two_pow_sub_one_eq_mod n 6
  rw [show (63 : Int) = ((63 : Nat) : Int) from rfl, BitVec.toNat_and, BitVec.ofInt_natCast, BitVec.ofInt_natCast, BitVec.toNat_ofNat, BitVec.toNat_ofNat, Nat.mod_eq_of_lt (by omega), Nat.mod_eq_of_lt (by omega), e]
  simp [IntKind.wrap, IntKind.bits, IntKind.signed]
  omega
theorem or128I : ∀ y : Fin 64, bits .or .u8 128 ((y.1 : Nat) : Int) = ((128 + y.1 : Nat) : Int) := by decide +kernel
theorem orL1 : ∀ y : Fin 32, bits .or .u8 192 ((y.1 : Nat) : Int) = ((192 + y.1 : Nat) : Int) := by decide +kernel
theorem orL2 : ∀ y : Fin 16, bits .or .u8 224 ((y.1 : Nat) : Int) = ((224 + y.1 : Nat) : Int) := by decide +kernel
theorem orL3 : ∀ y : Fin 8, bits .or .u8 240 ((y.1 : Nat) : Int) = ((240 + y.1 : Nat) : Int) := by decide +kernel
set_option maxRecDepth 1000000 in
set_option maxHeartbeats 2000000 in
theorem bytes1_any (n : Nat) (h : runeN n = true) (h1 : n < 128) (w : World) :
    Calls Tryd.prog 56 #[.int .i32 n] w fun e w' => e = .returned (.string ⟨(ubN n).toArray⟩) ∧ Below w.heap.size w w' := by
  have H := Lib.hid h; clear h
  have t1 : decide ((65536 : Int) ≤ (n : Int)) = false := decide_eq_false (by omega)
  have t2 : decide ((2048 : Int) ≤ (n : Int)) = false := decide_eq_false (by omega)
  have t3 : decide ((128 : Int) ≤ (n : Int)) = false := decide_eq_false (by omega)
  have R : Hid (ubN n = [UInt8.ofNat n]) := by rw [Hid, ubN, if_pos h1]; rfl
  have kc := conv_out (P := Tryd.prog) 40 9 5 Tryd.underlying40 Tryd.underlying5 Tryd.underlying9 ⟨w.heap.size + 1, 0, none⟩ [UInt8.ofNat n] 1 1 rfl ((w.alloc (.cells #[.int .u8 0, .int .u8 0, .int .u8 0, .int .u8 0] 121)).alloc (.cells #[.int .u8 n] 5)) (by
    intro j hj
    simp only [List.length_cons, List.length_nil] at hj
    obtain rfl : j = 0 := by omega
    have e : ((w.alloc (.cells #[.int .u8 0, .int .u8 0, .int .u8 0, .int .u8 0] 121)).alloc (.cells #[.int .u8 n] 5)).heap[w.heap.size + 1]? = some (.cells #[.int .u8 n] 5) := by
      have := World.alloc_heap_new (w.alloc (.cells #[.int .u8 0, .int .u8 0, .int .u8 0, .int .u8 0] 121)) (.cells #[.int .u8 n] 5)
      simpa using this
    rw [add_at, cell_of_row _ _ _ _ _ _ e, List.getElem_cons_zero, UInt8.toNat_ofNat', Nat.mod_eq_of_lt (by omega)]
    rfl)
  rw [R.out]
  go_enter Tryd.func56, Tryd.ntmps56
  go_wp2_with fail
  refine (isN_any n H.out _).mono ?_
  rintro e w' ⟨rfl, rfl⟩
  go_wp2_with fail
  go_ret
  exact ⟨rfl, ((Below.refl _ _).alloc (Nat.le_refl _) _).alloc (by simp) _⟩
set_option maxRecDepth 1000000 in
set_option maxHeartbeats 4000000 in
theorem bytes2_any (n : Nat) (h : runeN n = true) (h1 : 128 ≤ n) (h2 : n < 2048) (w : World) :
    Calls Tryd.prog 56 #[.int .i32 n] w fun e w' => e = .returned (.string ⟨(ubN n).toArray⟩) ∧ Below w.heap.size w w' := by
  have H := Lib.hid h; clear h
  have t0 : decide ((65536 : Int) ≤ (n : Int)) = false := decide_eq_false (by omega)
  have t1 : decide ((2048 : Int) ≤ (n : Int)) = false := decide_eq_false (by omega)
  have t2 : decide ((128 : Int) ≤ (n : Int)) = true := decide_eq_true (by omega)
  obtain ⟨r1, e1⟩ : ∃ r : Nat, r = n / 64 := ⟨_, rfl⟩
  have d0 : (n : Int) / 64 = (r1 : Int) := by omega
  obtain ⟨y0, f0, g0⟩ : ∃ y : Nat, y = n % 64 ∧ y < 64 := ⟨_, rfl, Nat.mod_lt _ (by omega)⟩
  have a0 : bits .and .i32 (n : Int) 63 = (y0 : Int) := by rw [f0]; exact and63I _ (by omega)
  have o0 : bits .or .u8 128 (y0 : Int) = ((128 + y0 : Nat) : Int) := or128I ⟨y0, g0⟩
  have hq : r1 < 32 := by omega
  have ol : bits .or .u8 192 (r1 : Int) = ((192 + r1 : Nat) : Int) := orL1 ⟨r1, hq⟩
  have R : Hid (ubN n = [UInt8.ofNat (192 + r1), UInt8.ofNat (128 + y0)]) := by
    rw [Hid, ubN, if_neg (by omega), if_pos h2]
    rw [show n % 64 = y0 by omega, show n / 64 = r1 by omega]
    rfl
  clear e1 f0 h1 h2
  rw [R.out]
  go_enter Tryd.func56, Tryd.ntmps56
  go_wp2_with fail
  refine (isN_any n H.out _).mono ?_
  rintro e w' ⟨rfl, rfl⟩
  go_wp2_with fail
  go_loopw [0, 5] (fun r i wr => (r = .int .i32 n ∧ i = .int .i64 1 ∧ wr = w'.alloc (.cells #[(.int .u8 0), (.int .u8 0), (.int .u8 0), (.int .u8 0)] 121)) ∨ (r = .int .i32 r1 ∧ i = .int .i64 0 ∧ wr = w'.alloc (.cells #[(.int .u8 0), (.int .u8 ((128 + y0 : Nat) : Int)), (.int .u8 0), (.int .u8 0)] 121))) (fun _ i _ => (intOf i).toNat)
  case atStart => exact .inl ⟨rfl, rfl, rfl⟩
  case round =>
    rcases hrel with ⟨rfl, rfl, rfl⟩ | ⟨rfl, rfl, rfl⟩
    · go_wp2_with fail
      go_roundw
      case rel => exact .inr (⟨rfl, rfl, rfl⟩)
      case measure => simp [intOf]
    · have ks := fun W => slice_arr_h (P := Tryd.prog) 121 w'.heap.size 4 2 2 rfl (by omega) (by kernel_rfl) (by kernel_rfl) (by kernel_rfl) W
      have kc := conv_out (P := Tryd.prog) 40 9 5 Tryd.underlying40 Tryd.underlying5 Tryd.underlying9 ⟨w'.heap.size, 0, none⟩ [UInt8.ofNat (192 + r1), UInt8.ofNat (128 + y0)] 2 4 rfl (w'.alloc (.cells #[.int .u8 (192 + (r1 : Int)), .int .u8 (128 + (y0 : Int)), .int .u8 0, .int .u8 0] 121)) (by
        intro j hj
        rw [add_at, Nat.zero_add, World.cell?_alloc_mark]
        simp only [List.length_cons, List.length_nil] at hj
        have hu : ∀ k : Nat, k < 256 → (((UInt8.ofNat k).toNat : Nat) : Int) = (k : Int) := fun k hk => by rw [UInt8.toNat_ofNat', Nat.mod_eq_of_lt hk]
        match j, hj with
        | 0, _ => show _ = some (Value.int .u8 ((([UInt8.ofNat (192 + r1), UInt8.ofNat (128 + y0)][0]).toNat : Nat) : Int)); simp only [List.getElem_cons_zero]; rw [hu _ (by omega)]; rfl
        | 1, _ => show _ = some (Value.int .u8 ((([UInt8.ofNat (192 + r1), UInt8.ofNat (128 + y0)][1]).toNat : Nat) : Int)); simp only [List.getElem_cons_zero, List.getElem_cons_succ]; rw [hu _ (by omega)]; rfl
        )
      go_wp2_with fail
      go_ret
      exact ⟨by rw [UInt8.ofNat_add, UInt8.ofNat_add]; rfl, (Below.refl _ _).alloc (Nat.le_refl _) _⟩
set_option maxRecDepth 1000000 in
set_option maxHeartbeats 4000000 in
theorem bytes3_any (n : Nat) (h : runeN n = true) (h1 : 2048 ≤ n) (h2 : n < 65536) (w : World) :
    Calls Tryd.prog 56 #[.int .i32 n] w fun e w' => e = .returned (.string ⟨(ubN n).toArray⟩) ∧ Below w.heap.size w w' := by
  have H := Lib.hid h; clear h
  have t0 : decide ((65536 : Int) ≤ (n : Int)) = false := decide_eq_false (by omega)
  have t1 : decide ((2048 : Int) ≤ (n : Int)) = true := decide_eq_true (by omega)
  have t2 : decide ((128 : Int) ≤ (n : Int)) = true := decide_eq_true (by omega)
  obtain ⟨r1, e1⟩ : ∃ r : Nat, r = n / 64 := ⟨_, rfl⟩
  obtain ⟨r2, e2⟩ : ∃ r : Nat, r = n / 4096 := ⟨_, rfl⟩
  have d0 : (n : Int) / 64 = (r1 : Int) := by omega
  obtain ⟨y0, f0, g0⟩ : ∃ y : Nat, y = n % 64 ∧ y < 64 := ⟨_, rfl, Nat.mod_lt _ (by omega)⟩
  have a0 : bits .and .i32 (n : Int) 63 = (y0 : Int) := by rw [f0]; exact and63I _ (by omega)
  have o0 : bits .or .u8 128 (y0 : Int) = ((128 + y0 : Nat) : Int) := or128I ⟨y0, g0⟩
  have d1 : (r1 : Int) / 64 = (r2 : Int) := by omega
  obtain ⟨y1, f1, g1⟩ : ∃ y : Nat, y = r1 % 64 ∧ y < 64 := ⟨_, rfl, Nat.mod_lt _ (by omega)⟩
  have a1 : bits .and .i32 (r1 : Int) 63 = (y1 : Int) := by rw [f1]; exact and63I _ (by omega)
  have o1 : bits .or .u8 128 (y1 : Int) = ((128 + y1 : Nat) : Int) := or128I ⟨y1, g1⟩
  have hq : r2 < 16 := by omega
  have ol : bits .or .u8 224 (r2 : Int) = ((224 + r2 : Nat) : Int) := orL2 ⟨r2, hq⟩
  have R : Hid (ubN n = [UInt8.ofNat (224 + r2), UInt8.ofNat (128 + y1), UInt8.ofNat (128 + y0)]) := by
    rw [Hid, ubN, if_neg (by omega), if_neg (by omega), if_pos h2]
    rw [show n / 64 % 64 = y1 by omega, show n % 64 = y0 by omega, show n / 4096 = r2 by omega]
    rfl
  clear e1 e2 f0 f1 h1 h2
  rw [R.out]
  go_enter Tryd.func56, Tryd.ntmps56
  go_wp2_with fail
  refine (isN_any n H.out _).mono ?_
  rintro e w' ⟨rfl, rfl⟩
  go_wp2_with fail
  go_loopw [0, 5] (fun r i wr => (r = .int .i32 n ∧ i = .int .i64 2 ∧ wr = w'.alloc (.cells #[(.int .u8 0), (.int .u8 0), (.int .u8 0), (.int .u8 0)] 121)) ∨ (r = .int .i32 r1 ∧ i = .int .i64 1 ∧ wr = w'.alloc (.cells #[(.int .u8 0), (.int .u8 0), (.int .u8 ((128 + y0 : Nat) : Int)), (.int .u8 0)] 121)) ∨ (r = .int .i32 r2 ∧ i = .int .i64 0 ∧ wr = w'.alloc (.cells #[(.int .u8 0), (.int .u8 ((128 + y1 : Nat) : Int)), (.int .u8 ((128 + y0 : Nat) : Int)), (.int .u8 0)] 121))) (fun _ i _ => (intOf i).toNat)
  case atStart => exact .inl ⟨rfl, rfl, rfl⟩
  case round =>
    rcases hrel with ⟨rfl, rfl, rfl⟩ | ⟨rfl, rfl, rfl⟩ | ⟨rfl, rfl, rfl⟩
    · go_wp2_with fail
      go_roundw
      case rel => exact .inr (.inl ⟨rfl, rfl, rfl⟩)
      case measure => simp [intOf]
    · go_wp2_with fail
      go_roundw
      case rel => exact .inr (.inr (⟨rfl, rfl, rfl⟩))
      case measure => simp [intOf]
    · have ks := fun W => slice_arr_h (P := Tryd.prog) 121 w'.heap.size 4 3 3 rfl (by omega) (by kernel_rfl) (by kernel_rfl) (by kernel_rfl) W
      have kc := conv_out (P := Tryd.prog) 40 9 5 Tryd.underlying40 Tryd.underlying5 Tryd.underlying9 ⟨w'.heap.size, 0, none⟩ [UInt8.ofNat (224 + r2), UInt8.ofNat (128 + y1), UInt8.ofNat (128 + y0)] 3 4 rfl (w'.alloc (.cells #[.int .u8 (224 + (r2 : Int)), .int .u8 (128 + (y1 : Int)), .int .u8 (128 + (y0 : Int)), .int .u8 0] 121)) (by
        intro j hj
        rw [add_at, Nat.zero_add, World.cell?_alloc_mark]
        simp only [List.length_cons, List.length_nil] at hj
        have hu : ∀ k : Nat, k < 256 → (((UInt8.ofNat k).toNat : Nat) : Int) = (k : Int) := fun k hk => by rw [UInt8.toNat_ofNat', Nat.mod_eq_of_lt hk]
        match j, hj with
        | 0, _ => show _ = some (Value.int .u8 ((([UInt8.ofNat (224 + r2), UInt8.ofNat (128 + y1), UInt8.ofNat (128 + y0)][0]).toNat : Nat) : Int)); simp only [List.getElem_cons_zero]; rw [hu _ (by omega)]; rfl
        | 1, _ => show _ = some (Value.int .u8 ((([UInt8.ofNat (224 + r2), UInt8.ofNat (128 + y1), UInt8.ofNat (128 + y0)][1]).toNat : Nat) : Int)); simp only [List.getElem_cons_zero, List.getElem_cons_succ]; rw [hu _ (by omega)]; rfl
        | 2, _ => show _ = some (Value.int .u8 ((([UInt8.ofNat (224 + r2), UInt8.ofNat (128 + y1), UInt8.ofNat (128 + y0)][2]).toNat : Nat) : Int)); simp only [List.getElem_cons_zero, List.getElem_cons_succ]; rw [hu _ (by omega)]; rfl
        )
      go_wp2_with fail
      go_ret
      exact ⟨by rw [UInt8.ofNat_add, UInt8.ofNat_add, UInt8.ofNat_add]; rfl, (Below.refl _ _).alloc (Nat.le_refl _) _⟩
set_option maxRecDepth 1000000 in
set_option maxHeartbeats 4000000 in
theorem bytes4_any (n : Nat) (h : runeN n = true) (h1 : 65536 ≤ n) (h2 : n ≤ 1114111) (w : World) :
    Calls Tryd.prog 56 #[.int .i32 n] w fun e w' => e = .returned (.string ⟨(ubN n).toArray⟩) ∧ Below w.heap.size w w' := by
  have H := Lib.hid h; clear h
  have t0 : decide ((65536 : Int) ≤ (n : Int)) = true := decide_eq_true (by omega)
  have t1 : decide ((2048 : Int) ≤ (n : Int)) = true := decide_eq_true (by omega)
  have t2 : decide ((128 : Int) ≤ (n : Int)) = true := decide_eq_true (by omega)
  obtain ⟨r1, e1⟩ : ∃ r : Nat, r = n / 64 := ⟨_, rfl⟩
  obtain ⟨r2, e2⟩ : ∃ r : Nat, r = n / 4096 := ⟨_, rfl⟩
  obtain ⟨r3, e3⟩ : ∃ r : Nat, r = n / 262144 := ⟨_, rfl⟩
  have d0 : (n : Int) / 64 = (r1 : Int) := by omega
  obtain ⟨y0, f0, g0⟩ : ∃ y : Nat, y = n % 64 ∧ y < 64 := ⟨_, rfl, Nat.mod_lt _ (by omega)⟩
  have a0 : bits .and .i32 (n : Int) 63 = (y0 : Int) := by rw [f0]; exact and63I _ (by omega)
  have o0 : bits .or .u8 128 (y0 : Int) = ((128 + y0 : Nat) : Int) := or128I ⟨y0, g0⟩
  have d1 : (r1 : Int) / 64 = (r2 : Int) := by omega
  obtain ⟨y1, f1, g1⟩ : ∃ y : Nat, y = r1 % 64 ∧ y < 64 := ⟨_, rfl, Nat.mod_lt _ (by omega)⟩
  have a1 : bits .and .i32 (r1 : Int) 63 = (y1 : Int) := by rw [f1]; exact and63I _ (by omega)
  have o1 : bits .or .u8 128 (y1 : Int) = ((128 + y1 : Nat) : Int) := or128I ⟨y1, g1⟩
  have d2 : (r2 : Int) / 64 = (r3 : Int) := by omega
  obtain ⟨y2, f2, g2⟩ : ∃ y : Nat, y = r2 % 64 ∧ y < 64 := ⟨_, rfl, Nat.mod_lt _ (by omega)⟩
  have a2 : bits .and .i32 (r2 : Int) 63 = (y2 : Int) := by rw [f2]; exact and63I _ (by omega)
  have o2 : bits .or .u8 128 (y2 : Int) = ((128 + y2 : Nat) : Int) := or128I ⟨y2, g2⟩
  have hq : r3 < 8 := by omega
  have ol : bits .or .u8 240 (r3 : Int) = ((240 + r3 : Nat) : Int) := orL3 ⟨r3, hq⟩
  have R : Hid (ubN n = [UInt8.ofNat (240 + r3), UInt8.ofNat (128 + y2), UInt8.ofNat (128 + y1), UInt8.ofNat (128 + y0)]) := by
    rw [Hid, ubN, if_neg (by omega), if_neg (by omega), if_neg (by omega)]
    rw [show n / 4096 % 64 = y2 by omega, show n / 64 % 64 = y1 by omega, show n % 64 = y0 by omega, show n / 262144 = r3 by omega]
    rfl
  clear e1 e2 e3 f0 f1 f2 h1 h2
  rw [R.out]
  go_enter Tryd.func56, Tryd.ntmps56
  go_wp2_with fail
  refine (isN_any n H.out _).mono ?_
  rintro e w' ⟨rfl, rfl⟩
  go_wp2_with fail
  go_loopw [0, 5] (fun r i wr => (r = .int .i32 n ∧ i = .int .i64 3 ∧ wr = w'.alloc (.cells #[(.int .u8 0), (.int .u8 0), (.int .u8 0), (.int .u8 0)] 121)) ∨ (r = .int .i32 r1 ∧ i = .int .i64 2 ∧ wr = w'.alloc (.cells #[(.int .u8 0), (.int .u8 0), (.int .u8 0), (.int .u8 ((128 + y0 : Nat) : Int))] 121)) ∨ (r = .int .i32 r2 ∧ i = .int .i64 1 ∧ wr = w'.alloc (.cells #[(.int .u8 0), (.int .u8 0), (.int .u8 ((128 + y1 : Nat) : Int)), (.int .u8 ((128 + y0 : Nat) : Int))] 121)) ∨ (r = .int .i32 r3 ∧ i = .int .i64 0 ∧ wr = w'.alloc (.cells #[(.int .u8 0), (.int .u8 ((128 + y2 : Nat) : Int)), (.int .u8 ((128 + y1 : Nat) : Int)), (.int .u8 ((128 + y0 : Nat) : Int))] 121))) (fun _ i _ => (intOf i).toNat)
  case atStart => exact .inl ⟨rfl, rfl, rfl⟩
  case round =>
    rcases hrel with ⟨rfl, rfl, rfl⟩ | ⟨rfl, rfl, rfl⟩ | ⟨rfl, rfl, rfl⟩ | ⟨rfl, rfl, rfl⟩
    · go_wp2_with fail
      go_roundw
      case rel => exact .inr (.inl ⟨rfl, rfl, rfl⟩)
      case measure => simp [intOf]
    · go_wp2_with fail
      go_roundw
      case rel => exact .inr (.inr (.inl ⟨rfl, rfl, rfl⟩))
      case measure => simp [intOf]
    · go_wp2_with fail
      go_roundw
      case rel => exact .inr (.inr (.inr (⟨rfl, rfl, rfl⟩)))
      case measure => simp [intOf]
    · have ks := fun W => slice_arr_h (P := Tryd.prog) 121 w'.heap.size 4 4 4 rfl (by omega) (by kernel_rfl) (by kernel_rfl) (by kernel_rfl) W
      have kc := conv_out (P := Tryd.prog) 40 9 5 Tryd.underlying40 Tryd.underlying5 Tryd.underlying9 ⟨w'.heap.size, 0, none⟩ [UInt8.ofNat (240 + r3), UInt8.ofNat (128 + y2), UInt8.ofNat (128 + y1), UInt8.ofNat (128 + y0)] 4 4 rfl (w'.alloc (.cells #[.int .u8 (240 + (r3 : Int)), .int .u8 (128 + (y2 : Int)), .int .u8 (128 + (y1 : Int)), .int .u8 (128 + (y0 : Int))] 121)) (by
        intro j hj
        rw [add_at, Nat.zero_add, World.cell?_alloc_mark]
        simp only [List.length_cons, List.length_nil] at hj
        have hu : ∀ k : Nat, k < 256 → (((UInt8.ofNat k).toNat : Nat) : Int) = (k : Int) := fun k hk => by rw [UInt8.toNat_ofNat', Nat.mod_eq_of_lt hk]
        match j, hj with
        | 0, _ => show _ = some (Value.int .u8 ((([UInt8.ofNat (240 + r3), UInt8.ofNat (128 + y2), UInt8.ofNat (128 + y1), UInt8.ofNat (128 + y0)][0]).toNat : Nat) : Int)); simp only [List.getElem_cons_zero]; rw [hu _ (by omega)]; rfl
        | 1, _ => show _ = some (Value.int .u8 ((([UInt8.ofNat (240 + r3), UInt8.ofNat (128 + y2), UInt8.ofNat (128 + y1), UInt8.ofNat (128 + y0)][1]).toNat : Nat) : Int)); simp only [List.getElem_cons_zero, List.getElem_cons_succ]; rw [hu _ (by omega)]; rfl
        | 2, _ => show _ = some (Value.int .u8 ((([UInt8.ofNat (240 + r3), UInt8.ofNat (128 + y2), UInt8.ofNat (128 + y1), UInt8.ofNat (128 + y0)][2]).toNat : Nat) : Int)); simp only [List.getElem_cons_zero, List.getElem_cons_succ]; rw [hu _ (by omega)]; rfl
        | 3, _ => show _ = some (Value.int .u8 ((([UInt8.ofNat (240 + r3), UInt8.ofNat (128 + y2), UInt8.ofNat (128 + y1), UInt8.ofNat (128 + y0)][3]).toNat : Nat) : Int)); simp only [List.getElem_cons_zero, List.getElem_cons_succ]; rw [hu _ (by omega)]; rfl
        )
      go_wp2_with fail
      go_ret
      exact ⟨by rw [UInt8.ofNat_add, UInt8.ofNat_add, UInt8.ofNat_add, UInt8.ofNat_add]; rfl, (Below.refl _ _).alloc (Nat.le_refl _) _⟩

theorem bytes_any (n : Nat) (h : runeN n = true) (w : World) :
    Calls Tryd.prog 56 #[.int .i32 n] w fun e w' => e = .returned (.string ⟨(ubN n).toArray⟩) ∧ Below w.heap.size w w' := by
  have hn : n ≤ 1114111 := by unfold runeN at h; rw [Bool.and_eq_true] at h; exact of_decide_eq_true h.1
  by_cases h1 : n < 128
  · exact bytes1_any n h h1 w
  by_cases h2 : n < 2048
  · exact bytes2_any n h (by omega) h2 w
  by_cases h3 : n < 65536
  · exact bytes3_any n h (by omega) h3 w
  · exact bytes4_any n h (by omega) hn w
theorem bytes_ok (n : Int) (h0 : 0 ≤ n) (h : runeN n.toNat = true) : PCall Tryd.prog 56 [nV .i32 n] (.p (sV (ubN n.toNat))) := by
  obtain ⟨m, rfl⟩ : ∃ m : Nat, n = m := ⟨n.toNat, by omega⟩
  refine PCall.ofCallsG (by kernel_rfl) (fun _ _ => .p _ _ (.v _ rfl)) fun w us hg hs hr => ?_
  obtain ⟨a, rfl⟩ := us1 hs
  obtain ⟨_, h0'⟩ := hr 0 _ a rfl rfl
  rw [given_int h0']
  exact bytes_any m h w
def dgN (n : Nat) : UInt8 := UInt8.ofNat (if n < 26 then 65 + n else if n < 52 then 71 + n else if n < 62 then n - 4 else if n = 62 then 43 else 47)
def dgT : List (List UInt8) := [[65, 66, 67, 68, 69, 70, 71, 72, 73, 74, 75, 76, 77, 78, 79, 80], [81, 82, 83, 84, 85, 86, 87, 88, 89, 90, 97, 98, 99, 100, 101, 102], [103, 104, 105, 106, 107, 108, 109, 110, 111, 112, 113, 114, 115, 116, 117, 118], [119, 120, 121, 122, 48, 49, 50, 51, 52, 53, 54, 55, 56, 57, 43, 47]]
def dgRow (q r : Nat) : UInt8 := (dgT.getD q []).getD r 0
theorem dgRowF : ∀ n : Fin 64, dgRow (n.1 / 16) (n.1 % 16) = dgN n.1 := by decide +kernel
theorem and3F : ∀ n : Fin 64, bits BinOp.and IntKind.u32 (((n.1 : Nat) : Int) / 16) 3 = ((n.1 / 16 : Nat) : Int) := by decide +kernel
theorem and15F : ∀ n : Fin 64, bits BinOp.and IntKind.u32 ((n.1 : Nat) : Int) 15 = ((n.1 % 16 : Nat) : Int) := by decide +kernel
theorem digit_at (n q r : Nat) (s : ByteArray) (w : World) (hc : w.cell? ⟨0, q, none⟩ = some (.string s)) (hq : bits BinOp.and IntKind.u32 ((n : Int) / 16) 3 = (q : Int)) (hr : bits BinOp.and IntKind.u32 (n : Int) 15 = (r : Int)) (hq4 : q < 4) (hr2 : r < s.size) :
    Calls Tryd.prog 90 #[.int .u32 n] w fun e w' => e = .returned (.int .u8 s[r].toNat) ∧ w' = w := by
  go_enter Tryd.func90, Tryd.ntmps90
  go_wp2
  go_ret
  exact ⟨rfl, rfl⟩
theorem digit_ok (n : Int) (h0 : 0 ≤ n) (h1 : n < 64) : PCall Tryd.prog 90 [nV .u32 n] (.p (nV .u8 ((dgN n.toNat).toNat : Int))) := by
  obtain ⟨m, rfl⟩ : ∃ m : Nat, n = m := ⟨n.toNat, by omega⟩
  have hm : m < 64 := by omega
  refine PCall.ofCallsG (by kernel_rfl) (fun _ _ => .p _ _ (.v _ rfl)) fun w us hg hs h => ?_
  obtain ⟨a, rfl⟩ := us1 hs
  obtain ⟨_, h0'⟩ := h 0 _ a rfl rfl
  rw [given_int h0']
  obtain ⟨_, hg⟩ := hg
  obtain ⟨t, ht, hl⟩ : ∃ t : List UInt8, (dgT[m / 16]?) = some t ∧ t.length = 16 := by
    have : m / 16 < 4 := by omega
    match m / 16, this with
    | 0, _ => exact ⟨_, rfl, rfl⟩
    | 1, _ => exact ⟨_, rfl, rfl⟩
    | 2, _ => exact ⟨_, rfl, rfl⟩
    | 3, _ => exact ⟨_, rfl, rfl⟩
  have hc := (hg.2 (0, dgT) (by simp only [tabsL, List.mem_singleton]; rfl) (m / 16) t ht).2
  have hr2 : m % 16 < (⟨t.toArray⟩ : ByteArray).size := by show m % 16 < t.toArray.size; rw [List.size_toArray, hl]; exact Nat.mod_lt _ (by omega)
  refine (digit_at m (m / 16) (m % 16) ⟨t.toArray⟩ w hc (and3F ⟨m, hm⟩) (and15F ⟨m, hm⟩) (by omega) hr2).mono fun e w' ⟨he, hw⟩ => ?_
  refine ⟨?_, below_same hw⟩
  rw [he]
  have e1 : (⟨t.toArray⟩ : ByteArray)[m % 16] = dgN m := by
    have := dgRowF ⟨m, hm⟩
    simp only at this
    have e0 : dgT.getD (m / 16) [] = t := by rw [List.getD_eq_getElem?_getD, ht]; rfl
    rw [← this, dgRow, e0, List.getD_eq_getElem?_getD, List.getElem?_eq_getElem (by rw [hl]; exact Nat.mod_lt _ (by omega)), Option.getD_some]
    rfl
  rw [e1, Int.toNat_natCast]
end Go.Proofs.YtagokkpnfceidaaDoor
end
