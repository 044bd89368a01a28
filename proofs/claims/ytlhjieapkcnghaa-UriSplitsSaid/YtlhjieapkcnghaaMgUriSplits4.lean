/- The proof's texts, part 4 of 6: the walks by a logic in which data are by value, the plain laws, and at the end the law, for every input. -/
import Derived.Test.YtlhjieapkcnghaaMgUriSplits3
import Derived.Shelf.RegionOpenPlain
import Derived.Lib.Strings
import Derived.Lib.Walk
import Derived.Lib.Builder
import Derived.Lib.UnsafeStr
import Derived.Laws.Externs
import Derived.Shelf.Strings.Builder1
import Derived.Shelf.Small.Utf8
import Derived.Shelf.Small.Strs
import Derived.Shelf.Small.Wraps
import Derived.Shelf.Strings.BuilderF
import Derived.Shelf.Strings.BuilderK
import Derived.Shelf.Strings.Search1
import Derived.Shelf.Strings.Search2
import Derived.Shelf.Strings.Search3
import Derived.Shelf.Strings.Cut
import Derived.Shelf.LaysM
import Derived.Shelf.Strings.Shaped
import Derived.Shelf.Strings.Prefix
import Derived.Shelf.Strings.Runes
import Derived.Shelf.Strings.IndexAny
import Derived.Shelf.Strings.AsciiSet
import Derived.Shelf.Strings.IndexAnyAll
import Derived.Shelf.Strings.BuilderCap
import Derived.Test.YtlhjieapkcnghaaProg
import Derived.Below
import Derived.Laws.Bits
import Derived.Deep.DeepCutAuto
import Derived.Deep.CutRange
import Derived.Laws.Runes
import Derived.Laws.RangeAny
import Derived.Deep.LoopGhost
import Derived.Deep.QuietTactic
import Derived.Lib.OthersKept
import Derived.Lib.TrimU

section
namespace Go.Proofs.Ytlhjieapkcnghaa
open Go.RowKit

/-- A token's row is let go; it may be marked as no longer to be written. -/
theorem retire_stp {G : Gh} {s : S} {w w' : World} (hI : Inv G s w) {t : Nat} {T : Tok} (hT : G.tok[t]? = some T) (hp : T.pro = none) (h1 : w'.os = w.os) (h2 : w'.tape = w.tape) (h3 : w'.output = w.output) (h4 : w.heap.size ≤ w'.heap.size)
    (hold : ∀ b, b < w.heap.size → T.blk ≠ some b → w'.heap[b]? = w.heap[b]?) (hcell : ∀ g, T.blk = some g → ∀ o u, w.cell? ⟨g, o, none⟩ = some u → w'.cell? ⟨g, o, none⟩ = some u) (hsh : ShKept w w') :
    Stp G w { G with tok := G.tok.set t ⟨T.len + 1, none, 0, none⟩ } w' ∧ Inv { G with tok := G.tok.set t ⟨T.len + 1, none, 0, none⟩ } { s with live := s.live.set t (T.len + 1) } w' := by
  obtain ⟨N, hN⟩ : ∃ N : Tok, N = ⟨T.len + 1, none, 0, none⟩ := ⟨_, rfl⟩
  have hNb : ∀ b, ¬ N.has b := fun b hb => by subst hN; exact (nomatch Tok.has_row.1 hb)
  rw [← hN]
  have hTm : T ∈ G.tok := List.mem_of_getElem? hT
  have hlt : t < G.tok.length := (List.getElem?_eq_some_iff.1 hT).1
  have hset : ∀ (t' : Nat) T', (G.tok.set t N)[t']? = some T' → (t' = t ∧ T' = N) ∨ (t' ≠ t ∧ G.tok[t']? = some T') := fun t' T' h => by
    by_cases htt : t' = t
    · subst htt
      rw [List.getElem?_set_self hlt] at h
      exact .inl ⟨rfl, (Option.some.inj h).symm⟩
    · rw [List.getElem?_set_ne (fun e => htt e.symm)] at h
      exact .inr ⟨htt, h⟩
  have hmem : ∀ T', T' ∈ G.tok.set t N → T' = N ∨ ∃ t', t' ≠ t ∧ G.tok[t']? = some T' := fun T' h => by
    obtain ⟨t', ht'⟩ := List.getElem?_of_mem h
    rcases hset t' T' ht' with ⟨-, h⟩ | ⟨h, h'⟩
    · exact .inl h
    · exact .inr ⟨t', h, h'⟩
  have hoth : ∀ (t' : Nat) T' b, t' ≠ t → G.tok[t']? = some T' → T'.has b → w'.heap[b]? = w.heap[b]? := fun t' T' b hne h hb => by
    obtain ⟨k1, -, k3⟩ := hI.tok t' T' b h hb
    exact hold b k1 fun e => hne (k3 t T hT (.inl e)).symm
  have hnm : ∀ b ∈ G.name, w'.heap[b]? = w.heap[b]? := fun b hb => hold b (name_lt hI b hb) fun e => (hI.tok t T b hT (.inl e)).2.1 hb
  have hst : Stp G w { G with tok := G.tok.set t N } w' := by
    refine ⟨⟨h1, h2, h3, h4, fun b o u h hu => ⟨h, ?_⟩, fun b hb _ hn => hold b hb fun e => hn T hTm (.inl e), fun b o h => .inl h, fun b h => ?_, fun _ _ h => h, hsh⟩, fun nm b h => h, fun t' T' h => ?_⟩
    · by_cases hb : T.blk = some b
      · exact hcell b hb o u hu
      · rw [World.cell?_of_block (w := w) (hold b (hI.com b o h).1 hb)]; exact hu
    · rcases h with h | ⟨T', hT', hb⟩
      · exact .inr (.inl h)
      · rcases hmem T' hT' with rfl | ⟨t', -, h⟩
        · exact absurd hb (hNb b)
        · exact .inr (.inr ⟨T', List.mem_of_getElem? h, hb⟩)
    · by_cases htt : t' = t
      · subst htt
        rw [hT] at h
        cases h
        refine ⟨N, List.getElem?_set_self hlt, ⟨by rw [hN]; exact Nat.le_succ _, by rw [hN, hp]⟩, fun e => ?_⟩
        rw [hN] at e
        have e : T.len = T.len + 1 := e
        omega
      · refine ⟨T', ?_, .refl T', fun _ => ⟨rfl, fun b hb => hoth t' T' b htt h hb⟩⟩
        show (G.tok.set t N)[t']? = _
        rw [List.getElem?_set_ne (fun e => htt e.symm)]; exact h
  refine ⟨hst, ⟨fun b o h => ?_, hI.names, hI.nodup, fun i b cs hb hcs => ?_, ?_, fun t' T' b h hb => ?_, fun T' hT' => ?_, hI.glob.mono hst.ext.com⟩⟩
  · obtain ⟨k1, k2, k3⟩ := hI.com b o h
    refine ⟨Nat.lt_of_lt_of_le k1 h4, k2, fun T' hT' => ?_⟩
    rcases hmem T' hT' with rfl | ⟨t', -, h⟩
    · exact ⟨fun hb => absurd (.inl hb) (hNb b), fun hb => absurd (.inr hb) (hNb b)⟩
    · exact k3 T' (List.mem_of_getElem? h)
  · obtain ⟨us, ty, k1, k2, k3⟩ := hI.var i b cs hb hcs
    exact ⟨us, ty, by rw [hnm b (List.mem_of_getElem? hb)]; exact k1, k2, fun j c u hc hu => ⟨(k3 j c u hc hu).1, (k3 j c u hc hu).2.mono hst⟩⟩
  · show (G.tok.set t N).map (·.len) = s.live.set t (T.len + 1)
    rw [List.map_set, hI.live, hN]
  · rcases hset t' T' h with ⟨-, rfl⟩ | ⟨hne, h⟩
    · exact absurd hb (hNb b)
    · obtain ⟨k1, k2, k3⟩ := hI.tok t' T' b h hb
      refine ⟨Nat.lt_of_lt_of_le k1 h4, k2, fun t'' T'' h' hb' => ?_⟩
      rcases hset t'' T'' h' with ⟨-, rfl⟩ | ⟨-, h'⟩
      · exact absurd hb' (hNb b)
      · exact k3 t'' T'' h' hb'
  · rcases hmem T' hT' with rfl | ⟨t', hne, h⟩
    · exact ⟨fun q hq => absurd hq (by rw [hN]; simp), fun b o ⟨q, hq, _⟩ => absurd hq (by rw [hN]; simp)⟩
    · have hm := List.mem_of_getElem? h
      exact ⟨Tok.ok_ext (hI.pro T' hm) hst.ext fun b hb => hoth t' T' b hne h hb, fun b o hr => (hI.pro T' hm).2 b o hr⟩
theorem freeze_heap {w : World} {g n : Nat} {us : Array Value} {e : TypeId} (h : w.heap[g]? = some (.cells us e (0, 0))) (hn : n ≠ 0) : (w.freeze ⟨g, 0, none⟩ n).heap[g]? = some (.cells us e (0, n)) ∧ (∀ b, b ≠ g → (w.freeze ⟨g, 0, none⟩ n).heap[b]? = w.heap[b]?) ∧ (w.freeze ⟨g, 0, none⟩ n).heap.size = w.heap.size ∧
    (w.freeze ⟨g, 0, none⟩ n).os = w.os ∧ (w.freeze ⟨g, 0, none⟩ n).tape = w.tape ∧ (w.freeze ⟨g, 0, none⟩ n).output = w.output := by
  unfold World.freeze
  rw [if_neg hn]
  refine ⟨?_, fun b hb => ?_, by simp, rfl, rfl, rfl⟩
  · simp [Array.getElem?_modify, h]
  · simp [Array.getElem?_modify, Ne.symm hb]
end Go.Proofs.Ytlhjieapkcnghaa
end

section
set_option linter.unusedVariables false
namespace Go.Proofs.Ytlhjieapkcnghaa
open Go.RowKit Go.Shelf
attribute [local go_sem] Oper.semAt_some

set_option maxRecDepth 100000 in
set_option maxHeartbeats 1000000 in
theorem copyCheck_used (b : Nat) (w : World) (h0 : w.cell? ⟨b, 0, none⟩ = some (.pointer (some ⟨b, 0, none⟩))) :
    Calls Try.prog 76 #[.pointer (some ⟨b, 0, none⟩)] w fun e w' => e = .returned (.tuple #[]) ∧ w' = w := by
  obtain ⟨_, j, hj, hjs, _⟩ := tbOk 67 _ rfl
  go_enter Try.func76, Try.ntmps76
  go_wp2
  rw [Lib.run_neq_ptr_same w _ Try.underlying65 hj]
  go_wp2
  go_end0
  exact ⟨rfl, rfl⟩
set_option maxRecDepth 100000 in
set_option maxHeartbeats 1000000 in
theorem copyCheck_fresh (b e n : Nat) (w : World) (h0 : w.cell? ⟨b, 0, none⟩ = some (.pointer none)) (hsh : w.shape? b = some (e, n)) (hn : 0 < n) (hl : liesAt Try.prog Try.prog.depth e (n / Try.prog.cellsOf e) 0 67 1 = true) (hfz : w.frozen? ⟨b, 0, none⟩ = false) :
    Calls Try.prog 76 #[.pointer (some ⟨b, 0, none⟩)] w fun e w' => e = .returned (.tuple #[]) ∧ w' = w.setCell ⟨b, 0, none⟩ (.pointer (some ⟨b, 0, none⟩)) := by
  obtain ⟨_, j, hj, hjs, _⟩ := tbOk 67 _ rfl
  go_enter Try.func76, Try.ntmps76
  go_wp2
  rw [Lib.run_to_unsafe w ⟨b, 0, none⟩ Try.underlying65 Try.underlying128 hj (by rw [hjs]; decide) hsh hn]
  simp only [Result.andThen]
  rw [Oper.upon_value]
  go_wp2
  rw [run_callFunc_extern Try.func101 (by kernel_rfl) (by kernel_rfl) (by kernel_rfl) (e := Extern.AbiNoEscape.same) (by kernel_rfl)]
  rw [Lib.run_noEscape]
  simp only [Result.andThen]
  rw [Oper.upon_value]
  go_wp2
  rw [Lib.run_from_unsafe w ⟨b, 0, none⟩ Try.underlying128 Try.underlying65 hj hsh hl]
  simp only [Result.andThen]
  rw [Oper.upon_value]
  go_wp2
  go_end0
  exact ⟨rfl, rfl⟩
set_option maxRecDepth 100000 in
set_option maxHeartbeats 2000000 in
theorem string_walk (b n cap : Nat) (a : Option Addr) (q : Option Addr) (z : ByteArray) (w w1 w2 : World) (h0 : w.drew.cell? ⟨b, 1, none⟩ = some (.slice a n cap)) (h1 : w1.cell? ⟨b, 1, none⟩ = some (.slice a n cap))
    (hSD : (Builtin.unsafeSliceData_ #[49] 109 #[.slice a n cap]).run Try.prog w.drew = .ok (.pointer q) w1)
    (hUS : (Builtin.unsafeString_ #[109, 3] 9 #[.pointer q, .int .i64 n]).run Try.prog w1 = .ok (.string z) w2) :
    Calls Try.prog 45 #[.pointer (some ⟨b, 0, none⟩)] w fun e w' => e = .returned (.string z) ∧ w' = w2 := by
  have mixed := mixed
  go_enter Try.func45, Try.ntmps45
  go_wp2
  go_region_o
  all_goals (go_wp2; go_ret; exact ⟨rfl, rfl⟩)
end Go.Proofs.Ytlhjieapkcnghaa
end

section
namespace Go.Proofs.Ytlhjieapkcnghaa
open Go.RowKit

theorem b2s_cells {a : List Int} {l : List UInt8} (h : b2s a = some l) : a.map (cNum .u8) = l.map byteV := by
  unfold b2s at h
  split at h
  · rename_i hc
    cases h
    rw [List.map_map]
    refine List.map_congr_left fun n hn => ?_
    have := List.all_eq_true.1 hc n hn
    simp only [decide_eq_true_eq] at this
    simp [cNum, byteV, nV]
    omega
  · cases h
theorem sliceData_none {P : Program} (w : World) (ts : Array TypeId) (ty e : TypeId) (hp : P.underlying ty = some (.pointer e)) (a : Addr) (n : Nat) (hlt : a.block < w.heap.size) :
    ∃ q w1, (Builtin.unsafeSliceData_ ts ty #[.slice (some a) n 0]).run P w = .ok (.pointer q) w1 ∧ (w1 = w ∨ w1 = w.alloc (.view a e)) := by
  cases hsh : w.shape? a.block with
  | some sh => exact ⟨_, _, Lib.run_unsafeSliceData_zero w ts ty e hp a n sh hsh, .inr rfl⟩
  | none =>
    have hdef : Builtin.unsafeSliceData_ ts ty #[.slice (some a) n 0] =
        (do
          if (0 : Nat) ≠ 0 then pure (.pointer (some a))
          else if (← viewAt a.block).isSome then pure (.pointer (some a))
          else pure (.pointer (some ⟨← newObj (.view a (← elemOf ty)), 0, none⟩))) := rfl
    rw [hdef]
    obtain ⟨o, ho⟩ : ∃ o, w.heap[a.block]? = some o := ⟨_, Array.getElem?_eq_getElem hlt⟩
    have hg : ∀ c t f, o ≠ .cells c t f := fun c t f h => by
      subst h
      unfold World.shape? at hsh
      rw [ho] at hsh; cases hsh
    have hgo : (getObj a.block).run P w = .ok o w := by
      unfold getObj
      simp only [Sem.run, ho]
    by_cases hv : ∃ b t, o = .view b t
    · obtain ⟨b, t, rfl⟩ := hv
      refine ⟨some a, w, ?_, .inl rfl⟩
      simp [viewAt, hsh, hgo]
    · refine ⟨some ⟨w.heap.size, 0, none⟩, _, ?_, .inr rfl⟩
      have hva : (viewAt a.block).run P w = .ok none w := by
        simp only [viewAt]
        simp [hsh, hgo]
        cases o <;> first | rfl | exact absurd ⟨_, _, rfl⟩ hv
      simp [hva, elemOf, run_underlying hp]
theorem copyCheck_ok (h : List (List D)) (live : List Nat) (nm : Nat) {b : Bool} (ds : List D) (hds : h[nm]? = some ds) (hof : ds[0]? = some (.sp Try.prog 67 b nm 0)) :
    CallOK Try.prog 76 [.ptr nm 0] ⟨h, live⟩ (.tup []) ⟨h.set nm (ds.set 0 (.sp Try.prog 67 true nm 0)), live⟩ := by
  refine ⟨by kernel_rfl, fun G w us hI hl hrel => ?_⟩
  obtain ⟨u, rfl⟩ : ∃ u, us = #[u] := ⟨us[0]'(by rw [hl]; exact Nat.zero_lt_one), by
    apply Array.ext (by simpa using hl)
    intro i h1 h2
    have : i = 0 := by simp at h2; omega
    subst this; rfl⟩
  have hp := hrel 0 _ u rfl rfl
  cases hp with
  | ptr _ _ k hk =>
    obtain ⟨vs, ty, v1, v2, v3⟩ := hI.var nm k ds hk hds
    have hlt : 0 < vs.size := by rw [v2]; exact (List.getElem?_eq_some_iff.1 hof).1
    have hc := v3 0 _ vs[0] hof (Array.getElem?_eq_getElem hlt)
    have hcell : w.cell? ⟨k, 0, none⟩ = some vs[0] := by
      rw [cell_of_row w k 0 vs ty (0, 0) v1]; exact Array.getElem?_eq_getElem hlt
    cases hc.2 with
    | sp _ _ _ _ _ i e n _ h1 h2 h3 h4 h5 h6 =>
      have hik : i = k := by rw [hk] at h1; exact (Option.some.inj h1).symm
      subst hik
      cases b with
      | true =>
        rw [h6 rfl] at hcell
        refine (copyCheck_used i w hcell).mono ?_
        rintro e w' ⟨rfl, rfl⟩
        refine ⟨_, G, rfl, .refl G _, ?_, .tup _ _ rfl (fun j c u hc => by simp at hc)⟩
        refine hI.setCell (s := ⟨h, live⟩) hds fun u hu => ?_
        obtain ⟨c, hc, hu⟩ := hu
        rw [hof] at hc
        cases hc
        exact hu
      | false =>
        rw [h5 rfl] at hcell
        refine (copyCheck_fresh i e n w hcell h2 h3 h4 (by simp [World.frozen?, v1])).mono ?_
        rintro e' w' ⟨rfl, rfl⟩
        have hset : (w.setCell ⟨i, 0, none⟩ (.pointer (some ⟨i, 0, none⟩))).heap[i]? = some (.cells (vs.setIfInBounds 0 (.pointer (some ⟨i, 0, none⟩))) ty (0, 0)) := by
          simp [World.setCell, Array.getElem?_modify, v1]
        have hoth : ∀ b, b ≠ i → (w.setCell ⟨i, 0, none⟩ (.pointer (some ⟨i, 0, none⟩))).heap[b]? = w.heap[b]? := fun b hb => by
          simp [World.setCell, Array.getElem?_modify, Ne.symm hb]
        obtain ⟨s1, s2⟩ := store_stp hI nm i hk vs ty v1 (ds.set 0 (.sp Try.prog 67 true nm 0)) (vs.setIfInBounds 0 (.pointer (some ⟨i, 0, none⟩))) (by simp [v2]) (by simp) (fun j c u hc hu => by
          by_cases hj : j = 0
          · subst hj
            rw [List.getElem?_set_self (by rw [← v2]; exact hlt)] at hc
            cases hc
            rw [Array.getElem?_setIfInBounds_self_of_lt hlt] at hu
            cases hu
            exact ⟨rfl, .sp _ _ _ _ _ i e n _ hk h2 h3 h4 (fun h => by cases h) (fun _ => rfl)⟩
          · rw [List.getElem?_set_ne (fun e => hj e.symm)] at hc
            rw [Array.getElem?_setIfInBounds_ne (fun e => hj e.symm)] at hu
            exact v3 j c u hc hu) (w.setCell ⟨i, 0, none⟩ (.pointer (some ⟨i, 0, none⟩))) rfl rfl rfl (by simp [World.setCell]) hset hoth
        exact ⟨_, G, rfl, s1, s2, .tup _ _ rfl (fun j c u hc => by simp at hc)⟩
theorem builderString_ok (h : List (List D)) (live : List Nat) (nm t : Nat) (ds : List D) (es : List (List V)) {l : List UInt8} (hds : h[nm]? = some ds) (hof : ds[1]? = some (.own t 5 1 es)) (hlv : live[t]? = some es.length) (hes : es = l.map byteV) :
    CallOK Try.prog 45 [.ptr nm 0] ⟨h, live⟩ (.p (.v (strOf l))) ⟨h.set nm (ds.set 1 (.p (.sl false es))), live.set t (es.length + 1)⟩ := by
  refine ⟨by kernel_rfl, fun G w us hI hl hrel => ?_⟩
  obtain ⟨u, rfl⟩ : ∃ u, us = #[u] := ⟨us[0]'(by rw [hl]; exact Nat.zero_lt_one), by
    apply Array.ext (by simpa using hl)
    intro i h1 h2
    have : i = 0 := by simp at h2; omega
    subst this; rfl⟩
  have hp := hrel 0 _ u rfl rfl
  have hln : es.length = l.length := by rw [hes, List.length_map]
  cases hp with
  | ptr _ _ k hk =>
    obtain ⟨vs, ty, v1, v2, v3⟩ := hI.var nm k ds hk hds
    have hlt : 1 < vs.size := by rw [v2]; exact (List.getElem?_eq_some_iff.1 hof).1
    have hc := (v3 1 _ vs[1] hof (Array.getElem?_eq_getElem hlt)).2
    have hcell : w.cell? ⟨k, 1, none⟩ = some vs[1] := by
      rw [cell_of_row w k 1 vs ty (0, 0) v1]; exact Array.getElem?_eq_getElem hlt
    obtain ⟨v, hv⟩ : ∃ v, v = vs[1] := ⟨_, rfl⟩
    rw [← hv] at hcell hc
    cases hc with
    | own _ _ _ _ _ T x1 x2 x3 x0 x4 x5 =>
      have hlen : es.length = T.len := by
        have : (G.tok.map (·.len))[t]? = some T.len := by rw [List.getElem?_map, x3]; rfl
        rw [hI.live, hlv] at this
        exact Option.some.inj this
      obtain ⟨a, cap, rfl, hO⟩ := x5 hlen
      obtain ⟨a2, cap2, e2, c1, c2, -⟩ := x1.isSlice
      cases e2
      -- what is common to all ends
      have fin : ∀ w' : World, w'.os = w.os → w'.tape = w.tape → w'.output = w.output → w.heap.size ≤ w'.heap.size → (∀ b, b < w.heap.size → T.blk ≠ some b → w'.heap[b]? = w.heap[b]?) →
          (∀ g, T.blk = some g → ∀ o u, w.cell? ⟨g, o, none⟩ = some u → w'.cell? ⟨g, o, none⟩ = some u) → ShKept w w' → ∃ u G', Ending.returned (.string ⟨l.toArray⟩) = .returned u ∧ Stp G w G' w' ∧ Inv G' ⟨h.set nm (ds.set 1 (.p (.sl false es))), live.set t (es.length + 1)⟩ w' ∧ DRel G' w' (.p (.v (strOf l))) u := fun w' k1 k2 k3 k4 k5 k6 k7 => by
        obtain ⟨s1, s2⟩ := retire_stp hI x3 x0 k1 k2 k3 k4 k5 k6 k7
        rw [← hlen] at s1 s2
        refine ⟨_, _, rfl, s1, s2.setCell (s := ⟨h, live.set t (es.length + 1)⟩) hds fun u hu => ?_, .p _ _ (.v _ rfl)⟩
        obtain ⟨c, hc, hu⟩ := hu
        rw [hof] at hc
        cases hc
        cases hu with
        | own _ _ _ _ _ _ y1 => exact .p _ _ y1
      have hcd : w.drew.cell? ⟨k, 1, none⟩ = some (.slice a es.length cap) := hcell
      have hb := Try.underlying109
      by_cases h0 : es.length = 0
      · have hl0 : l = [] := List.eq_nil_of_length_eq_zero (by omega)
        subst hl0
        have hUS : ∀ q (W : World), (Builtin.unsafeString_ #[109, 3] 9 #[.pointer q, .int .i64 es.length]).run Try.prog W = .ok (.string ⟨#[]⟩) W := fun q W => by rw [h0]; exact Lib.run_unsafeString_none W _ _ _ q
        have plain : ∀ q, (Builtin.unsafeSliceData_ #[49] 109 #[.slice a es.length cap]).run Try.prog w.drew = .ok (.pointer q) w.drew → Calls Try.prog 45 #[.pointer (some ⟨k, 0, none⟩)] w fun e w' => ∃ u G', e = .returned u ∧ Stp G w G' w' ∧ Inv G' ⟨h.set nm (ds.set 1 (.p (.sl false es))), live.set t (es.length + 1)⟩ w' ∧ DRel G' w' (.p (.v (strOf []))) u := fun q hSD => by
          refine (string_walk k es.length cap a q ⟨#[]⟩ w w.drew w.drew hcd hcd hSD (hUS q _)).mono ?_
          rintro e w' ⟨rfl, rfl⟩
          exact fin w.drew rfl rfl rfl (Nat.le_refl _) (fun _ _ _ => rfl) (fun _ _ _ _ h => h) (fun _ _ h => h)
        cases a with
        | none => exact plain none rfl
        | some ad =>
          by_cases hc0 : cap = 0
          · subst hc0
            have hlt : ad.block < w.drew.heap.size := by
              rcases hO with hO | ⟨g, us, T', e1, -, -, -, e5, -⟩ | hO
              · exact hO.2 ad rfl
              · cases e1; exact (Array.getElem?_eq_some_iff.1 e5).1
              · exact absurd hO.1 (by decide)
            obtain ⟨q, w1, hSD, hw1⟩ := sliceData_none w.drew #[49] 109 5 hb ad es.length hlt
            rcases hw1 with rfl | rfl
            · exact plain q hSD
            · have hk2 : k < w.heap.size := (Array.getElem?_eq_some_iff.1 v1).1
              have hc2 : (w.drew.alloc (.view ad 5)).cell? ⟨k, 1, none⟩ = some (.slice (some ad) es.length 0) := (cellAlloc w.drew _ k 1 hk2).trans hcd
              refine (string_walk k es.length 0 (some ad) _ ⟨#[]⟩ w _ _ hcd hc2 hSD (hUS _ _)).mono ?_
              rintro e w' ⟨rfl, rfl⟩
              have hh : ∀ b, b < w.heap.size → (w.drew.alloc (.view ad 5)).heap[b]? = w.heap[b]? := fun b hb => by
                rw [heapAlloc, if_neg (by show ¬ b = w.heap.size; omega)]; rfl
              refine fin _ rfl rfl rfl (by simp) (fun b hb _ => hh b hb) (fun g hg o u hu => ?_) (shAlloc w.drew _)
              exact (cellAlloc w.drew _ g o (cellLt hu)).trans hu
          · exact plain (some ad) (Lib.run_unsafeSliceData_row _ _ _ _ _ _ hc0)
      · rcases hO with hO | ⟨g, us, T', e1, e2, e3, e4, e5, e6⟩ | hO
        · omega
        rotate_left
        · exact absurd hO.1 (by decide)
        · rw [rowTy_lt (by decide)] at e5
          subst e1
          rw [x3] at e2
          cases e2
          have hSD : (Builtin.unsafeSliceData_ #[49] 109 #[.slice (some ⟨g, 0, none⟩) es.length cap]).run Try.prog w.drew = .ok (.pointer (some ⟨g, 0, none⟩)) w.drew := Lib.run_unsafeSliceData_row _ _ _ _ _ _ (by omega)
          have hl0 : l ≠ [] := fun h' => by subst h'; exact h0 (by rw [hln]; rfl)
          have hcl : ∀ (j : Nat) x, l[j]? = some x → w.drew.cell? ((⟨g, 0, none⟩ : Addr).add j) = some (.int .u8 x.toNat) := fun j x hx => by
            have he : es[j]? = some (byteV x) := by rw [hes, List.getElem?_map, hx]; rfl
            obtain ⟨olds, o1, o2, o3, o4⟩ := x1.flat 1 x2 (by decide)
            obtain ⟨u, hu, hr⟩ := o2 j 0 _ _ he (show (byteV x)[0]? = some _ from rfl)
            have hux : u = .int .u8 x.toNat := by cases hr; rfl
            subst hux
            rcases o4 with o4 | ⟨b, off, q1, q2⟩
            · omega
            · cases q1
              have := (q2 _ _ hu).1
              rw [addAt]
              simpa using this
          have hUS := Lib.run_unsafeString_row (P := Try.prog) w.drew 109 3 9 5 hb (by kernel_rfl) g us.size (shape_of (w := w.drew) e5) l hl0 (by rw [e6]; omega) (by unfold maxLen at c2; omega) hcl
          rw [← hln] at hUS
          have hgk : k ≠ g := fun e => (hI.tok t T g x3 (.inl e3)).2.1 (e ▸ List.mem_of_getElem? hk)
          refine (string_walk k es.length cap _ _ ⟨l.toArray⟩ w w.drew _ hcd hcd hSD hUS).mono ?_
          rintro e w' ⟨rfl, rfl⟩
          obtain ⟨f1, f2, f3, f4, f5, f6⟩ := freeze_heap (w := w.drew) (n := es.length) e5 h0
          refine fin _ f4 f5 f6 (Nat.le_of_eq f3.symm) (fun b _ hb => f2 b fun e => hb (e ▸ e3)) (fun g' hg' o u hu => ?_) (fun b sh hb => ?_)
          · rw [e3] at hg'
            cases hg'
            rw [cell_of_row w g o us 5 (0, 0) e5] at hu
            rw [cell_of_row _ g o us 5 _ f1]; exact hu
          · by_cases hbg : b = g
            · subst hbg
              rw [shape_of e5] at hb
              rw [shape_of f1]; exact hb
            · rw [shape_eq (w := w) (f2 b hbg)]; exact hb
end Go.Proofs.Ytlhjieapkcnghaa
end

section
namespace Go.Proofs
open Go.Shelf
def Try.lays119_ren : Go.Shelf.Ren := ⟨fun | 119 => 115 | n => n, fun | 21 => 21 | 4 => 4 | n => n, fun | n => n⟩
theorem Try.lays119 : Go.Proofs.Lays.n119 Try.prog Try.lays119_ren := {
  mixed := by kernel_rfl
  f119 := Try.func115.trans (congrArg some (by kernel_rfl))
  t4 := Try.underlying4
  a4 := Try.isAgg4
  z4 := Try.sizeOf4
  v4 := Try.zeroValue4
  t21 := Try.underlying21
  a21 := Try.isAgg21
  z21 := Try.sizeOf21
  v21 := Try.zeroValue21 }
/-- utf8.ValidRune: "ValidRune reports whether r can be legally encoded as UTF-8. Code points that are out of range or a surrogate half are illegal.": IT RETURNS 'Lib.validRune r'; the world is as it was. (LAID: no walk: one application.) -/
theorem Try.utf8_ValidRune (r : Int) (w : World) :
    Calls Try.prog 115 #[.int .i32 r] w fun e w' => e = .returned (.bool (Lib.validRune r)) ∧ w' = w := Any.utf8_ValidRune Try.lays119 r w
def Try.lays137_ren : Go.Shelf.Ren := ⟨fun | 137 => 64 | 217 => 94 | 266 => 118 | n => n, fun | 9 => 9 | 5 => 5 | 3 => 3 | n => n, fun | n => n⟩
theorem Try.lays137 : Go.Proofs.Lays.n137 Try.prog Try.lays137_ren := {
  mixed := by kernel_rfl
  f137 := Try.func64.trans (congrArg some (by kernel_rfl))
  f217 := Try.func94.trans (congrArg some (by kernel_rfl))
  f266 := Try.func118.trans (congrArg some (by kernel_rfl))
  t3 := Try.underlying3
  a3 := Try.isAgg3
  z3 := Try.sizeOf3
  v3 := Try.zeroValue3
  t5 := Try.underlying5
  a5 := Try.isAgg5
  z5 := Try.sizeOf5
  v5 := Try.zeroValue5
  t9 := Try.underlying9
  a9 := Try.isAgg9
  z9 := Try.sizeOf9
  v9 := Try.zeroValue9 }
open Go.RowKit in
/-- strings.IndexByte: "IndexByte returns the index of the first instance of c in s, or -1 if c is not present in s.": IT RETURNS 'Lib.indexByte s c'; the world is as it was. (LAID: no walk: one application.) -/
theorem Try.strings_IndexByte (s : ByteArray) (c : Int) (w : World) :
    Calls Try.prog 64 #[.string s, .int .u8 c] w fun e w' => e = .returned (.int .i64 (Lib.indexByte s.data.toList c.toNat.toUInt8)) ∧ w' = w := Any.strings_IndexByte Try.lays137 s c w
def Try.lays103_ren : Go.Shelf.Ren := ⟨fun | 103 => 70 | 210 => 99 | 206 => 95 | n => n, fun | 9 => 9 | 4 => 4 | 24 => 43 | 3 => 3 | n => n, fun | n => n⟩
theorem Try.lays103 : Go.Proofs.Lays.n103 Try.prog Try.lays103_ren := {
  mixed := by kernel_rfl
  f103 := Try.func70.trans (congrArg some (by kernel_rfl))
  f206 := Try.func95.trans (congrArg some (by kernel_rfl))
  f210 := Try.func99.trans (congrArg some (by kernel_rfl))
  t3 := Try.underlying3
  a3 := Try.isAgg3
  z3 := Try.sizeOf3
  v3 := Try.zeroValue3
  t4 := Try.underlying4
  a4 := Try.isAgg4
  z4 := Try.sizeOf4
  v4 := Try.zeroValue4
  t9 := Try.underlying9
  a9 := Try.isAgg9
  z9 := Try.sizeOf9
  v9 := Try.zeroValue9
  t24 := Try.underlying43
  a24 := Try.isAgg43
  z24 := Try.sizeOf43
  v24 := Try.zeroValue43 }
open Go.RowKit in
/-- strings.CutPrefix: "CutPrefix returns s without the provided leading prefix string and reports whether it found the prefix. If s doesn't start with prefix, CutPrefix returns s, false. If prefix is the empty string, CutPrefix returns s, true.": IT RETURNS '(Lib.trimPrefix s p, Lib.hasPrefix s p)'; the world is as it was. (LAID: no walk: one application.) -/
theorem Try.strings_CutPrefix (s p : ByteArray) (w : World) :
    Calls Try.prog 70 #[.string s, .string p] w fun e w' => e = .returned (.tuple #[.string ⟨(Lib.trimPrefix s.data.toList p.data.toList).toArray⟩, .bool (Lib.hasPrefix s.data.toList p.data.toList)]) ∧ w' = w := Any.strings_CutPrefix Try.lays103 s p w
def Try.lays217_ren : Go.Shelf.Ren := ⟨fun | 217 => 94 | 266 => 118 | n => n, fun | 9 => 9 | 5 => 5 | 3 => 3 | n => n, fun | n => n⟩
theorem Try.lays217 : Go.Proofs.Lays.n217 Try.prog Try.lays217_ren := {
  mixed := by kernel_rfl
  f217 := Try.func94.trans (congrArg some (by kernel_rfl))
  f266 := Try.func118.trans (congrArg some (by kernel_rfl))
  t3 := Try.underlying3
  a3 := Try.isAgg3
  z3 := Try.sizeOf3
  v3 := Try.zeroValue3
  t5 := Try.underlying5
  a5 := Try.isAgg5
  z5 := Try.sizeOf5
  v5 := Try.zeroValue5
  t9 := Try.underlying9
  a9 := Try.isAgg9
  z9 := Try.sizeOf9
  v9 := Try.zeroValue9 }
open Go.RowKit Go.Lib in
/-- internal/stringslite.IndexByte (what strings.IndexByte calls): IT RETURNS 'Lib.indexByte s c'; the world is as it was. (LAID: no walk: one application.) -/
theorem Try.stringslite_IndexByte (s : ByteArray) (c : Int) (w : World) :
    Calls Try.prog 94 #[.string s, .int .u8 c] w fun e w' => e = .returned (.int .i64 (Lib.indexByte s.data.toList c.toNat.toUInt8)) ∧ w' = w := Any.stringslite_IndexByte Try.lays217 s c w
def Try.lays219_ren : Go.Shelf.Ren := ⟨fun | 219 => 119 | 217 => 94 | 225 => 117 | 224 => 116 | 267 => 131 | 266 => 118 | 314 => 134 | n => n, fun | 9 => 9 | 3 => 3 | 4 => 4 | 5 => 5 | 46 => 142 | 146 => 152 | 51 => 151 | n => n, fun | 1 => 0 | n => n⟩
theorem Try.lays219 : Go.Proofs.Lays.n219 Try.prog Try.lays219_ren := {
  mixed := by kernel_rfl
  f217 := Try.func94.trans (congrArg some (by kernel_rfl))
  f219 := Try.func119.trans (congrArg some (by kernel_rfl))
  f224 := Try.func116.trans (congrArg some (by kernel_rfl))
  f225 := Try.func117.trans (congrArg some (by kernel_rfl))
  f266 := Try.func118.trans (congrArg some (by kernel_rfl))
  f267 := Try.func131.trans (congrArg some (by kernel_rfl))
  f314 := Try.func134.trans (congrArg some (by kernel_rfl))
  t3 := Try.underlying3
  a3 := Try.isAgg3
  z3 := Try.sizeOf3
  v3 := Try.zeroValue3
  t4 := Try.underlying4
  a4 := Try.isAgg4
  z4 := Try.sizeOf4
  v4 := Try.zeroValue4
  t5 := Try.underlying5
  a5 := Try.isAgg5
  z5 := Try.sizeOf5
  v5 := Try.zeroValue5
  t9 := Try.underlying9
  a9 := Try.isAgg9
  z9 := Try.sizeOf9
  v9 := Try.zeroValue9
  t46 := Try.underlying142
  a46 := Try.isAgg142
  z46 := Try.sizeOf142
  v46 := Try.zeroValue142
  t51 := Try.underlying151
  a51 := Try.isAgg151
  z51 := Try.sizeOf151
  v51 := Try.zeroValue151
  t146 := Try.underlying152
  a146 := Try.isAgg152
  z146 := Try.sizeOf152
  v146 := Try.zeroValue152
  g1 := by kernel_rfl }
open Go.RowKit Go.Lib in
/-- internal/stringslite.Index (what strings.Index calls) AT A substr OF WHATEVER LENGTH: IT RETURNS 'Lib.index s substr'; the world is as it was. 'm': what internal/bytealg.MaxLen holds: whatever. (LAID: no walk: one application.) -/
theorem Try.stringslite_Index (s sub : ByteArray) (m : Int) (w : World) (hs : s.size < 4294967281) (hm : w.cell? ⟨0, 0, none⟩ = some (.int .i64 m)) :
    Calls Try.prog 119 #[.string s, .string sub] w fun e w' => e = .returned (.int .i64 (Lib.index s.data.toList sub.data.toList)) ∧ w' = w := Any.stringslite_Index Try.lays219 s sub m w hs hm
def Try.lays145_ren : Go.Shelf.Ren := ⟨fun | 145 => 67 | 220 => 96 | 219 => 119 | 217 => 94 | 225 => 117 | 224 => 116 | 267 => 131 | 266 => 118 | 314 => 134 | n => n, fun | 9 => 9 | 4 => 4 | 59 => 101 | 3 => 3 | 5 => 5 | 46 => 142 | 146 => 152 | 51 => 151 | n => n, fun | 1 => 0 | n => n⟩
theorem Try.lays145 : Go.Proofs.Lays.n145 Try.prog Try.lays145_ren := {
  mixed := by kernel_rfl
  f145 := Try.func67.trans (congrArg some (by kernel_rfl))
  f217 := Try.func94.trans (congrArg some (by kernel_rfl))
  f219 := Try.func119.trans (congrArg some (by kernel_rfl))
  f220 := Try.func96.trans (congrArg some (by kernel_rfl))
  f224 := Try.func116.trans (congrArg some (by kernel_rfl))
  f225 := Try.func117.trans (congrArg some (by kernel_rfl))
  f266 := Try.func118.trans (congrArg some (by kernel_rfl))
  f267 := Try.func131.trans (congrArg some (by kernel_rfl))
  f314 := Try.func134.trans (congrArg some (by kernel_rfl))
  t3 := Try.underlying3
  a3 := Try.isAgg3
  z3 := Try.sizeOf3
  v3 := Try.zeroValue3
  t4 := Try.underlying4
  a4 := Try.isAgg4
  z4 := Try.sizeOf4
  v4 := Try.zeroValue4
  t5 := Try.underlying5
  a5 := Try.isAgg5
  z5 := Try.sizeOf5
  v5 := Try.zeroValue5
  t9 := Try.underlying9
  a9 := Try.isAgg9
  z9 := Try.sizeOf9
  v9 := Try.zeroValue9
  t46 := Try.underlying142
  a46 := Try.isAgg142
  z46 := Try.sizeOf142
  v46 := Try.zeroValue142
  t51 := Try.underlying151
  a51 := Try.isAgg151
  z51 := Try.sizeOf151
  v51 := Try.zeroValue151
  t59 := Try.underlying101
  a59 := Try.isAgg101
  z59 := Try.sizeOf101
  v59 := Try.zeroValue101
  t146 := Try.underlying152
  a146 := Try.isAgg152
  z146 := Try.sizeOf152
  v146 := Try.zeroValue152
  g1 := by kernel_rfl }
open Go.RowKit Go.Lib in
/-- strings.Cut: "Cut slices s around the first instance of sep, returning the text before and after sep. The found result reports whether sep appears in s. If sep does not appear in s, cut returns s, "", false.": IT RETURNS 'Lib.cut s sep'; the world is as it was but for the count of draws. (LAID: no walk: one application.) -/
theorem Try.strings_Cut (s sep : ByteArray) (m : Int) (w : World) (hs : s.size < 4294967281) (hm : w.cell? ⟨0, 0, none⟩ = some (.int .i64 m)) :
    Calls Try.prog 67 #[.string s, .string sep] w fun e w' => e = .returned (.tuple #[.string ⟨(Lib.cut s.data.toList sep.data.toList).1.toArray⟩, .string ⟨(Lib.cut s.data.toList sep.data.toList).2.1.toArray⟩, .bool (Lib.cut s.data.toList sep.data.toList).2.2]) ∧ ∃ n, w' = w.drewN n := Any.strings_Cut Try.lays145 s sep m w hs hm
def Try.laysM219_ren : Go.Shelf.Ren := ⟨fun | 219 => 119 | 217 => 94 | 225 => 117 | 224 => 116 | 267 => 131 | 266 => 118 | 314 => 134 | n => n, fun | 9 => 9 | 3 => 3 | 4 => 4 | 5 => 5 | 46 => 142 | 146 => 152 | 51 => 151 | n => n, fun | 1 => 0 | n => n⟩
theorem Try.laysM219 : Go.Proofs.LaysM.n219 Try.prog Try.laysM219_ren := {
  mixed := by kernel_rfl
  f217 := Try.func94.trans (congrArg some (by kernel_rfl))
  f219 := Try.func119.trans (congrArg some (by kernel_rfl))
  f224 := Try.func116.trans (congrArg some (by kernel_rfl))
  f225 := Try.func117.trans (congrArg some (by kernel_rfl))
  f266 := Try.func118.trans (congrArg some (by kernel_rfl))
  f267 := Try.func131.trans (congrArg some (by kernel_rfl))
  f314 := Try.func134.trans (congrArg some (by kernel_rfl))
  t3 := Try.underlying3
  a3 := Try.isAgg3
  z3 := Try.sizeOf3
  v3 := Try.zeroValue3
  t4 := Try.underlying4
  a4 := Try.isAgg4
  z4 := Try.sizeOf4
  v4 := Try.zeroValue4
  t5 := Try.underlying5
  a5 := Try.isAgg5
  z5 := Try.sizeOf5
  v5 := Try.zeroValue5
  t9 := Try.underlying9
  a9 := Try.isAgg9
  z9 := Try.sizeOf9
  v9 := Try.zeroValue9
  t46 := Try.underlying142
  a46 := Try.isAgg142
  z46 := Try.sizeOf142
  v46 := Try.zeroValue142
  t51 := Try.underlying151
  a51 := Try.isAgg151
  z51 := Try.sizeOf151
  v51 := Try.zeroValue151
  t146 := Try.underlying152
  a146 := Try.isAgg152
  z146 := Try.sizeOf152
  v146 := Try.zeroValue152
  g1 := by kernel_rfl
  i3 := by kernel_rfl
  i4 := by kernel_rfl
  i5 := by kernel_rfl
  i9 := by kernel_rfl
  i46 := by kernel_rfl
  i51 := by kernel_rfl
  i146 := by kernel_rfl
  m1 := by kernel_rfl
  s1_3 := fun w h => Go.Proofs.cell_of_shapedOpen_int (zero := #[.int .i64 0]) (t := 3) h (of_decide_eq_true (by kernel_rfl)) (by kernel_rfl) rfl (by kernel_rfl) (by kernel_rfl) Try.underlying3 }
def Try.lays99_ren : Go.Shelf.Ren := ⟨fun | 99 => 65 | 206 => 95 | n => n, fun | 9 => 9 | 4 => 4 | 3 => 3 | n => n, fun | n => n⟩
theorem Try.lays99 : Go.Proofs.Lays.n99 Try.prog Try.lays99_ren := {
  mixed := by kernel_rfl
  f99 := Try.func65.trans (congrArg some (by kernel_rfl))
  f206 := Try.func95.trans (congrArg some (by kernel_rfl))
  t3 := Try.underlying3
  a3 := Try.isAgg3
  z3 := Try.sizeOf3
  v3 := Try.zeroValue3
  t4 := Try.underlying4
  a4 := Try.isAgg4
  z4 := Try.sizeOf4
  v4 := Try.zeroValue4
  t9 := Try.underlying9
  a9 := Try.isAgg9
  z9 := Try.sizeOf9
  v9 := Try.zeroValue9 }
open Go.RowKit Go.Lib in
/-- strings.HasPrefix: "HasPrefix reports whether the string s begins with prefix.": IT RETURNS 'Lib.hasPrefix s prefix'; the world is as it was. (LAID: no walk: one application.) -/
theorem Try.strings_HasPrefix (s p : ByteArray) (w : World) :
    Calls Try.prog 65 #[.string s, .string p] w fun e w' => e = .returned (.bool (Lib.hasPrefix s.data.toList p.data.toList)) ∧ w' = w := Any.strings_HasPrefix Try.lays99 s p w
def Try.lays152_ren : Go.Shelf.Ren := ⟨fun | 152 => 90 | 137 => 64 | 119 => 115 | 224 => 116 | 225 => 117 | 217 => 94 | 266 => 118 | n => n, fun | 9 => 9 | 21 => 21 | 3 => 3 | 4 => 4 | 5 => 5 | 0 => 0 | 46 => 142 | n => n, fun | n => n⟩
theorem Try.lays152 : Go.Proofs.Lays.n152 Try.prog Try.lays152_ren := {
  mixed := by kernel_rfl
  f119 := Try.func115.trans (congrArg some (by kernel_rfl))
  f137 := Try.func64.trans (congrArg some (by kernel_rfl))
  f152 := Try.func90.trans (congrArg some (by kernel_rfl))
  f217 := Try.func94.trans (congrArg some (by kernel_rfl))
  f224 := Try.func116.trans (congrArg some (by kernel_rfl))
  f225 := Try.func117.trans (congrArg some (by kernel_rfl))
  f266 := Try.func118.trans (congrArg some (by kernel_rfl))
  t0 := Try.underlying0
  a0 := Try.isAgg0
  z0 := Try.sizeOf0
  v0 := Try.zeroValue0
  t3 := Try.underlying3
  a3 := Try.isAgg3
  z3 := Try.sizeOf3
  v3 := Try.zeroValue3
  t4 := Try.underlying4
  a4 := Try.isAgg4
  z4 := Try.sizeOf4
  v4 := Try.zeroValue4
  t5 := Try.underlying5
  a5 := Try.isAgg5
  z5 := Try.sizeOf5
  v5 := Try.zeroValue5
  t9 := Try.underlying9
  a9 := Try.isAgg9
  z9 := Try.sizeOf9
  v9 := Try.zeroValue9
  t21 := Try.underlying21
  a21 := Try.isAgg21
  z21 := Try.sizeOf21
  v21 := Try.zeroValue21
  t46 := Try.underlying142
  a46 := Try.isAgg142
  z46 := Try.sizeOf142
  v46 := Try.zeroValue142 }
open Go.RowKit Go.Lib in
theorem Try.strings_IndexRune_ascii (s : ByteArray) (r : Int) (w : World) (h0 : 0 ≤ r) (h1 : r < 128) :
    Calls Try.prog 90 #[.string s, .int .i32 r] w fun e w' => e = .returned (.int .i64 (Lib.indexByte s.data.toList r.toNat.toUInt8)) ∧ w' = w := Any.strings_IndexRune_ascii Try.lays152 s r w h0 h1
def Try.lays226_ren : Go.Shelf.Ren := ⟨fun | 226 => 91 | n => n, fun | 3 => 3 | 4 => 4 | n => n, fun | n => n⟩
theorem Try.lays226 : Go.Proofs.Lays.n226 Try.prog Try.lays226_ren := {
  mixed := by kernel_rfl
  f226 := Try.func91.trans (congrArg some (by kernel_rfl))
  t3 := Try.underlying3
  a3 := Try.isAgg3
  z3 := Try.sizeOf3
  v3 := Try.zeroValue3
  t4 := Try.underlying4
  a4 := Try.isAgg4
  z4 := Try.sizeOf4
  v4 := Try.zeroValue4 }
open Go.RowKit Go.Lib in
theorem Try.strings_shouldUseASCIISet (n : Int) (w : World) :
    Calls Try.prog 91 #[.int .i64 n] w fun e w' => e = .returned (.bool (decide (8 < n))) ∧ w' = w := Any.strings_shouldUseASCIISet Try.lays226 n w
def Try.lays153_ren : Go.Shelf.Ren := ⟨fun | 153 => 61 | 152 => 90 | 226 => 91 | 227 => 92 | 228 => 93 | 137 => 64 | 119 => 115 | 224 => 116 | 225 => 117 | 217 => 94 | 266 => 118 | n => n, fun | 9 => 9 | 3 => 3 | 4 => 4 | 5 => 5 | 21 => 21 | 117 => 125 | 116 => 124 | 0 => 0 | 46 => 142 | 124 => 143 | n => n, fun | n => n⟩
theorem Try.lays153 : Go.Proofs.Lays.n153 Try.prog Try.lays153_ren := {
  mixed := by kernel_rfl
  f119 := Try.func115.trans (congrArg some (by kernel_rfl))
  f137 := Try.func64.trans (congrArg some (by kernel_rfl))
  f152 := Try.func90.trans (congrArg some (by kernel_rfl))
  f153 := Try.func61.trans (congrArg some (by kernel_rfl))
  f217 := Try.func94.trans (congrArg some (by kernel_rfl))
  f224 := Try.func116.trans (congrArg some (by kernel_rfl))
  f225 := Try.func117.trans (congrArg some (by kernel_rfl))
  f226 := Try.func91.trans (congrArg some (by kernel_rfl))
  f227 := Try.func92.trans (congrArg some (by kernel_rfl))
  f228 := Try.func93.trans (congrArg some (by kernel_rfl))
  f266 := Try.func118.trans (congrArg some (by kernel_rfl))
  t0 := Try.underlying0
  a0 := Try.isAgg0
  z0 := Try.sizeOf0
  v0 := Try.zeroValue0
  t3 := Try.underlying3
  a3 := Try.isAgg3
  z3 := Try.sizeOf3
  v3 := Try.zeroValue3
  t4 := Try.underlying4
  a4 := Try.isAgg4
  z4 := Try.sizeOf4
  v4 := Try.zeroValue4
  t5 := Try.underlying5
  a5 := Try.isAgg5
  z5 := Try.sizeOf5
  v5 := Try.zeroValue5
  t9 := Try.underlying9
  a9 := Try.isAgg9
  z9 := Try.sizeOf9
  v9 := Try.zeroValue9
  t21 := Try.underlying21
  a21 := Try.isAgg21
  z21 := Try.sizeOf21
  v21 := Try.zeroValue21
  t46 := Try.underlying142
  a46 := Try.isAgg142
  z46 := Try.sizeOf142
  v46 := Try.zeroValue142
  t116 := Try.underlying124
  a116 := Try.isAgg124
  z116 := Try.sizeOf124
  t117 := Try.underlying125
  a117 := Try.isAgg125
  z117 := Try.sizeOf125
  v117 := Try.zeroValue125
  t124 := Try.underlying143
  a124 := Try.isAgg143
  z124 := Try.sizeOf143
  v124 := Try.zeroValue143 }
open Go.RowKit Go.Lib in
/-- chars is empty. (LAID: no walk: one application.) -/
theorem Try.strings_IndexAny_none (s chars : ByteArray) (w : World) (h0 : chars.size = 0) :
    Calls Try.prog 61 #[.string s, .string chars] w fun e w' => e = .returned (.int .i64 (Lib.indexAny s.data.toList chars.data.toList)) ∧ w' = w := Any.strings_IndexAny_none Try.lays153 s chars w h0
open Go.RowKit Go.Lib in
/-- chars is one ASCII byte. (LAID: no walk: one application.) -/
theorem Try.strings_IndexAny_one (s chars : ByteArray) (w : World) (h1 : chars.size = 1) (hascii : ∀ (j : Nat) b, chars.data.toList[j]? = some b → b.toNat < 128) :
    Calls Try.prog 61 #[.string s, .string chars] w fun e w' => e = .returned (.int .i64 (Lib.indexAny s.data.toList chars.data.toList)) ∧ w' = w := Any.strings_IndexAny_one Try.lays153 s chars w h1 hascii
open Go.RowKit Go.Lib in
theorem Try.strings_IndexAny_long (hv116 : ∀ w, (zeroValue 124).run Try.prog w = .ok (.agg (Array.replicate 256 (.bool false))) w) (s chars : ByteArray) (w : World) (h2 : 2 ≤ chars.size) (h8 : 8 < s.size) (hs : s.size < 4294967281) (hcs : chars.size < 4294967281) (hascii : ∀ (j : Nat) b, chars.data.toList[j]? = some b → b.toNat < 128) :
    Calls Try.prog 61 #[.string s, .string chars] w fun e w' => e = .returned (.int .i64 (Lib.indexAny s.data.toList chars.data.toList)) ∧ w' = ((w.alloc (.cells (Lib.setCells chars.data.toList) 124)).alloc (.cells (Lib.setCells chars.data.toList) 124)) := Any.strings_IndexAny_long Try.lays153 hv116 (by kernel_rfl) s chars w h2 h8 hs hcs hascii
open Go.RowKit Go.Lib in
/-- strings.IndexAny ON ASCII BYTES: the four roads under one statement. (LAID: no walk: one application.) -/
theorem Try.strings_IndexAny (hv116 : ∀ w, (zeroValue 124).run Try.prog w = .ok (.agg (Array.replicate 256 (.bool false))) w) (s chars : ByteArray) (w : World) (hs : s.size < 4294967281) (hcs : chars.size < 4294967281) (has : ∀ (j : Nat) b, s.data.toList[j]? = some b → b.toNat < 128) (hac : ∀ (j : Nat) b, chars.data.toList[j]? = some b → b.toNat < 128) :
    Calls Try.prog 61 #[.string s, .string chars] w fun e w' => e = .returned (.int .i64 (Lib.indexAny s.data.toList chars.data.toList)) ∧ Below w.heap.size w w' := Any.strings_IndexAny Try.lays153 hv116 (by kernel_rfl) s chars w hs hcs has hac
end Go.Proofs
end

section
namespace Go.Proofs.Ytlhjieapkcnghaa
open Go.RowKit

def dv (c : UInt8) : Nat := c.toNat - 48
end Go.Proofs.Ytlhjieapkcnghaa
end

section
namespace Go.Proofs.Ytlhjieapkcnghaa
open Go.RowKit

theorem PCall.ofCallsG {P : Program} {f : FuncId} {args : List V} {r : D} {R : Value} (hn : isFn P f = true) (hr : ∀ G w, DRel G w r R)
    (h : ∀ w us, (∃ C, GlobOk C w) → us.size = args.length → (∀ (j : Nat) x u, args[j]? = some x → us[j]? = some u → ∃ C, VRel C w x u) → Calls P f us w fun e w' => e = .returned R ∧ Below w.heap.size w w') : PCall P f args r :=
  ⟨hn, fun C w us hg hs hrel => (h w us ⟨C, hg⟩ hs fun j x u hx hu => ⟨_, hrel j x u hx hu⟩).mono fun _ _ ⟨he, hb⟩ => ⟨R, he, hr _ _, hb⟩⟩
theorem given_str {C : Nat → Nat → Prop} {w : World} {l : List UInt8} {u : Value} (h : VRel C w (sV l) u) : u = .string ⟨l.toArray⟩ := by cases h; rfl
theorem given_int {C : Nat → Nat → Prop} {w : World} {k : IntKind} {n : Int} {u : Value} (h : VRel C w (.v (.int k n)) u) : u = .int k n := by cases h; rfl
theorem below_same {w w' : World} (h : w' = w) : Below w.heap.size w w' := by subst h; exact Below.refl _ _
theorem need_some {p : Prop} [Decidable p] {R : Type} {f : Unit → Option R} {r : R} (h : (need p >>= f) = some r) : p ∧ f () = some r := by
  unfold need at h
  split at h
  · exact ⟨by assumption, h⟩
  · cases h
theorem indexByte_ok (l : List UInt8) (c : Int) : PCall Try.prog 94 [sV l, nV .u8 c] (.p (iV (Lib.indexByte l c.toNat.toUInt8))) := by
  refine PCall.ofCallsG (by kernel_rfl) (fun _ _ => .p _ _ (.v _ rfl)) fun w us _ hs h => ?_
  obtain ⟨a, b, rfl⟩ := us2 hs
  obtain ⟨_, h0⟩ := h 0 _ a rfl rfl
  obtain ⟨_, h1⟩ := h 1 _ b rfl rfl
  rw [given_str h0, given_int h1]
  exact (Try.stringslite_IndexByte _ c w).mono fun e w' ⟨he, hw⟩ => ⟨he, below_same hw⟩
theorem index_ok (l s : List UInt8) (hl : l.length < 4294967281) : PCall Try.prog 119 [sV l, sV s] (.p (iV (Lib.index l s))) := by
  refine PCall.ofCallsG (by kernel_rfl) (fun _ _ => .p _ _ (.v _ rfl)) fun w us hg hs h => ?_
  obtain ⟨a, b, rfl⟩ := us2 hs
  obtain ⟨_, h0⟩ := h 0 _ a rfl rfl
  obtain ⟨_, h1⟩ := h 1 _ b rfl rfl
  obtain ⟨_, hg⟩ := hg
  obtain ⟨m, -, hm⟩ := hg 0 (by simp [globsL])
  rw [given_str h0, given_str h1]
  exact (Try.stringslite_Index _ _ m w (by show l.toArray.size < _; simpa using hl) hm).mono fun e w' ⟨he, hw⟩ => ⟨he, below_same hw⟩
end Go.Proofs.Ytlhjieapkcnghaa
end

section
namespace Go.Proofs.Ytlhjieapkcnghaa
open Go.RowKit Go.Shelf

theorem val_of {r : Int} (hv : Lib.validRune r = true) : Utf8.valid r = true := by
  rw [validRune_eq]
  exact hv
theorem notIn (s : ByteArray) (c : UInt8) (hc : 128 ≤ c.toNat) (ha : ∀ b ∈ s.data.toList, b.toNat < 128) (a e : Nat) : Lib.indexByte (s.extract a e).data.toList c = -1 := by
  have hne : ∀ b ∈ (s.extract a e).data.toList, b ≠ c := fun b hb h => by
    have := ha b (mem_extract hb)
    rw [h] at this
    omega
  generalize (s.extract a e).data.toList = l at hne
  induction l with
  | nil => rfl
  | cons b t ih =>
    have hb : ¬ (b == c) = true := by simpa using hne b (by simp)
    rw [Lib.indexByte, if_neg hb, ih fun x hx => hne x (by simp [hx])]
    rfl
set_option maxHeartbeats 8000000 in
set_option maxRecDepth 1000000 in
theorem indexRune_valid (s : ByteArray) (r : Int) (w : World) (h0 : 128 ≤ r) (h1 : r ≤ 1114111) (h3 : r ≠ 65533) (ha : ∀ b ∈ s.data.toList, b.toNat < 128) (hs : s.size ≤ 1000) :
    Calls Try.prog 90 #[.string s, .int .i32 r] w fun e w' => e = .returned (.int .i64 (-1)) ∧ Below w.heap.size w w' := by
  have e1 : decide (0 ≤ r) = true := decide_eq_true (by omega)
  have e2 : decide (r < 128) = false := decide_eq_false (by omega)
  have e3 : (r == 65533) = false := beq_eq_false_iff_ne.2 h3
  have HA : Aside (∀ b ∈ s.data.toList, b.toNat < 128) := ha
  clear ha
  cases hv : Lib.validRune r with
  | false =>
    go_enter Try.func90, Try.ntmps90
    go_wp2_with (go_at_call 115; refine (Try.utf8_ValidRune _ _).mono ?_; rintro e w' ⟨rfl, rfl⟩; rw [hv])
    go_ret
    exact ⟨rfl, Below.refl _ _⟩
  | true =>
    obtain ⟨n1, n2, n3⟩ := encode_facts r (val_of hv) h0
    have hcv : ∀ w, (convert 21 9 (.int .i32 r)).run Try.prog w = .ok (.string (Utf8.encode r)) w := fun w => run_convert_int_string w _ _ .i32 r (by rw [Try.underlying21]; rfl) Try.underlying9
    generalize Utf8.encode r = E at n1 n2 n3 hcv
    obtain ⟨n, hn⟩ : ∃ n, E.size = n + 1 := ⟨E.size - 1, by omega⟩
    have hy := n3 (by omega)
    have hsub : E.size - 1 = n := by omega
    clear n3 h1
    go_enter Try.func90, Try.ntmps90
    go_wp2_with (go_at_call 115; refine (Try.utf8_ValidRune _ _).mono ?_; rintro e w' ⟨rfl, hw⟩; rw [hw, hv])
    go_step3
    go_wp2_with fail
    go_loopw [9, 10] (fun i f wr => i = .int .i64 n ∧ f = .int .i64 0 ∧ wr = w) (fun _ _ _ => 1)
    case atStart =>
      refine ⟨?_, rfl, rfl⟩
      first | rfl | (rw [hn]; congr 1; omega)
    case round =>
      obtain ⟨rfl, rfl, rfl⟩ := hrel
      by_cases hlt : n < s.size
      · have t1 : decide ((n : Int) < (s.size : Int)) = true := decide_eq_true (by omega)
        have hx := HA.out (s[n]'hlt) (by exact Array.getElem_mem_toList (xs := s.data) hlt)
        obtain ⟨x, hxe⟩ : ∃ x, s[n]'hlt = x := ⟨_, rfl⟩
        obtain ⟨y, hye⟩ : ∃ y, E[n]'(by omega) = y := ⟨_, rfl⟩
        rw [hxe] at hx
        have hy : 128 ≤ y.toNat := by rw [← hye]; simpa only [hsub] using hy
        have hw1 : (0 : Int) ≤ (n : Int) + 1 := by omega
        have hw2 : (n : Int) + 1 ≤ (s.size : Int) := by omega
        have hw3 : IntKind.i64.wrap ((n : Int) + 1) = (n : Int) + 1 := wrap_small _ (by omega) (by omega)
        have hw4 : (n : Int) < (n : Int) + 1 := by omega
        have hcon := notIn s y hy HA.out (n + 1) s.size
        have hne : ((x.toNat : Int) == (y.toNat : Int)) = false := beq_eq_false_iff_ne.2 (by omega)
        go_wp2_with fail
        go_step3
        go_wp2_with fail
        go_quiet (fail)
        go_wp2_with fail
        have hback : ((y.toNat : Int)).toNat.toUInt8 = y := by simp
        have hB : Below wr.heap.size wr (wr.drewN nq) := below_drewN (Below.refl _ _) _
        generalize wr.drewN nq = w1 at hB ⊢
        go_quiet ((go_at_call 64; exact Calls.quiet_of_same (Try.strings_IndexByte _ _ _)))
        rw [hback, hcon]
        go_wp2_with fail
        rw [Exit.noGoto_ret]
        go_wp2_with fail
        rw [Exit.noGoto_ret]
        go_ret
        exact ⟨rfl, below_drewN hB _⟩
      · have t1 : decide ((n : Int) < (s.size : Int)) = false := decide_eq_false (by omega)
        go_wp2_with fail
        rw [Exit.noGoto_ret]
        go_ret
        exact ⟨rfl, Below.refl _ _⟩

set_option maxHeartbeats 8000000 in
set_option maxRecDepth 1000000 in
theorem indexRune_bad (s : ByteArray) (w : World) (ha : ∀ b ∈ s.data.toList, b.toNat < 128) :
    Calls Try.prog 90 #[.string s, .int .i32 65533] w fun e w' => e = .returned (.int .i64 (-1)) ∧ Below w.heap.size w w' := by
  have HA : Aside (∀ b ∈ s.data.toList, b.toNat < 128) := ha
  clear ha
  go_enter Try.func90, Try.ntmps90
  go_wp2_with fail
  go_loopg [5, 6] s.size (fun g _ _ wx => ∃ i : Nat, i + g = s.size ∧ wx = w.iter s i)
  case atStart => exact ⟨0, by omega, rfl⟩
  case round =>
    obtain ⟨i, hig, rfl⟩ := hrel
    cases gk with
    | zero =>
      obtain rfl : i = s.size := by omega
      have hnx := fun ty => run_next_end (P := Try.prog) w s s.size ty (by omega)
      go_wp2_with fail
      go_ret
      exact ⟨rfl, (Below.refl _ _).alloc (Nat.le_refl _) _⟩
    | succ g =>
      have hi : i < s.size := by omega
      have hx := HA.out (s[i]'hi) (by exact Array.getElem_mem_toList (xs := s.data) hi)
      obtain ⟨x, hxe⟩ : ∃ x, s[i]'hi = x := ⟨_, rfl⟩
      have hnx := fun ty => run_next_ascii (P := Try.prog) w s i ty hi hx
      rw [hxe] at hnx hx
      have hne : ((x.toNat : Int) == 65533) = false := beq_eq_false_iff_ne.2 (by omega)
      go_wp2_with fail
      go_roundg g
      case measure => omega
      case rel => exact ⟨i + 1, by omega, rfl⟩
theorem indexRune_high (s : ByteArray) (r : Int) (w : World) (h0 : 128 ≤ r) (h1 : r ≤ 1114111) (ha : ∀ b ∈ s.data.toList, b.toNat < 128) (hs : s.size ≤ 1000) :
    Calls Try.prog 90 #[.string s, .int .i32 r] w fun e w' => e = .returned (.int .i64 (-1)) ∧ Below w.heap.size w w' := by
  by_cases h : r = 65533
  · subst h; exact indexRune_bad s w ha
  · exact indexRune_valid s r w h0 h1 h ha hs

theorem decode_hi (s : ByteArray) (i : Nat) (hi : i < s.size) (hge : 128 ≤ (s[i]'hi).toNat) (d : Nat) (hd : d < (Utf8.decode s i).2) : ∃ h : i + d < s.size, 128 ≤ (s[i + d]'h).toNat := by
  have hn : ¬ (s[i]'hi).toNat < 128 := by omega
  have key : ∀ k, (decide (i + k < s.size) && (s.get! (i + k)).toNat / 64 == 2) = true → ∃ h : i + k < s.size, 128 ≤ (s[i + k]'h).toNat := fun k hk => by
    rw [Bool.and_eq_true, decide_eq_true_iff, beq_iff_eq] at hk
    have e : s.get! (i + k) = s[i + k]'hk.1 := get_at s (i + k) hk.1
    rw [e] at hk
    exact ⟨hk.1, by omega⟩
  have zero : ∃ h : i + 0 < s.size, 128 ≤ (s[i + 0]'h).toNat := ⟨hi, hge⟩
  simp only [Utf8.decode, get_at s i hi, hn, if_false] at hd
  split at hd
  · rename_i h
    rw [Bool.and_eq_true] at h
    split at hd
    · match d, hd with
      | 0, _ => exact zero
      | 1, _ => exact key 1 h.2
      | d + 2, hd => exact absurd hd (by simp only [Nat.not_lt]; omega)
    · match d, hd with
      | 0, _ => exact zero
      | d + 1, hd => exact absurd hd (by simp only [Nat.not_lt]; omega)
  · split at hd
    · rename_i h
      rw [Bool.and_eq_true, Bool.and_eq_true] at h
      split at hd
      · match d, hd with
        | 0, _ => exact zero
        | 1, _ => exact key 1 h.1.2
        | 2, _ => exact key 2 h.2
        | d + 3, hd => exact absurd hd (by simp only [Nat.not_lt]; omega)
      · match d, hd with
        | 0, _ => exact zero
        | d + 1, hd => exact absurd hd (by simp only [Nat.not_lt]; omega)
    · split at hd
      · rename_i h
        rw [Bool.and_eq_true, Bool.and_eq_true, Bool.and_eq_true] at h
        split at hd
        · match d, hd with
          | 0, _ => exact zero
          | 1, _ => exact key 1 h.1.1.2
          | 2, _ => exact key 2 h.1.2
          | 3, _ => exact key 3 h.2
          | d + 4, hd => exact absurd hd (by simp only [Nat.not_lt]; omega)
        · match d, hd with
          | 0, _ => exact zero
          | d + 1, hd => exact absurd hd (by simp only [Nat.not_lt]; omega)
      · match d, hd with
        | 0, _ => exact zero
        | d + 1, hd => exact absurd hd (by simp only [Nat.not_lt]; omega)

theorem noAny_on {l chars : List UInt8} {i : Nat} (h : Lib.NoAny l chars i) (k : Nat) (hk : ∀ d, d < k → ∀ b, l[i + d]? = some b → chars.contains b = false) : Lib.NoAny l chars (i + k) := fun j b hj hb => by
  by_cases hji : j < i
  · exact h j b hji hb
  · exact hk (j - i) (by omega) b (by rw [show i + (j - i) = j by omega]; exact hb)
set_option maxHeartbeats 8000000 in
set_option maxRecDepth 1000000 in
theorem indexAny_short (s chars : ByteArray) (w : World) (h2 : 2 ≤ chars.size) (h8 : s.size ≤ 8) (hcs : chars.size ≤ 1000) (hac : ∀ b ∈ chars.data.toList, b.toNat < 128) :
    Calls Try.prog 61 #[.string s, .string chars] w fun e w' => e = .returned (.int .i64 (Lib.indexAny s.data.toList chars.data.toList)) ∧ Below w.heap.size w w' := by
  have HA : Aside (∀ b ∈ chars.data.toList, b.toNat < 128) := hac
  clear hac
  have hemp : chars.toList.isEmpty = false := by
    rw [Lib.toList_data]
    cases h : chars.data.toList with
    | nil => have := Lib.size_eq chars; rw [h, List.length_nil] at this; omega
    | cons _ _ => rfl
  have hn1 : ((chars.size : Int) == 1) = false := beq_eq_false_iff_ne.2 (by omega)
  have h8z : decide ((8 : Int) < (s.size : Int)) = false := decide_eq_false (by omega)
  have hcs' : Aside (chars.size ≤ 1000) := hcs
  clear hcs
  go_enter Try.func61, Try.ntmps61
  go_wp2_with (go_at_call 91; refine (Try.strings_shouldUseASCIISet _ _).mono ?_; rintro e w' ⟨rfl, hw⟩; rw [hw, h8z])
  go_loopg [9, 10] s.size (fun g _ _ wx => ∃ i : Nat, i + g = s.size ∧ wx.heap[w.heap.size]? = some (.stringIter s i) ∧ Below w.heap.size w wx ∧ Lib.NoAny s.data.toList chars.data.toList i)
  case atStart => exact ⟨0, by omega, World.iter_heap _ _ _, (Below.refl _ _).alloc (Nat.le_refl _) _, Lib.NoAny.zero _ _⟩
  case round =>
    obtain ⟨i, hig, hit, hB, hno⟩ := hrel
    have HN : Aside (Below w.heap.size w wr ∧ Lib.NoAny s.data.toList chars.data.toList i ∧ wr.heap[w.heap.size]? = some (.stringIter s i)) := ⟨hB, hno, hit⟩
    clear hno hB
    cases gk with
    | zero =>
      obtain rfl : i = s.size := by omega
      have hnx := fun ty => Lib.run_next_end_at (P := Try.prog) wr w.heap.size s s.size ty hit (by omega)
      clear hit
      go_wp2_with fail
      go_ret
      exact ⟨by rw [Lib.indexAny_none (by rw [← Lib.size_eq]; exact HN.out.2.1)]; rfl, HN.out.1⟩
    | succ g =>
      have hi : i < s.size := by omega
      have hnx := fun ty => Lib.run_next_any_at (P := Try.prog) wr w.heap.size s i ty hit hi
      have hlk : w.heap.size < wr.heap.size := (Array.getElem?_eq_some_iff.1 hit).1
      have hbk : ∀ p, (wr.iterAt w.heap.size s p).heap[w.heap.size]? = some (.stringIter s p) := fun p => Lib.iterAt_heap wr w.heap.size s i p hit
      have hsz : ∀ p, (wr.iterAt w.heap.size s p).heap.size = wr.heap.size := fun p => Lib.iterAt_size _ _ _ _
      have hBi : ∀ p, Below w.heap.size w (wr.iterAt w.heap.size s p) := fun p => Lib.below_iterAt HN.out.1 (Nat.le_refl _) s p
      have HK : Aside ((∀ p, (wr.iterAt w.heap.size s p).heap[w.heap.size]? = some (.stringIter s p)) ∧ (∀ p, (wr.iterAt w.heap.size s p).heap.size = wr.heap.size) ∧ (∀ p, Below w.heap.size w (wr.iterAt w.heap.size s p)) ∧ w.heap.size < wr.heap.size) := ⟨hbk, hsz, hBi, hlk⟩
      clear hbk hsz hBi hlk hit
      obtain ⟨x, hxe⟩ : ∃ x, s[i]'hi = x := ⟨_, rfl⟩
      have hxl : s.data.toList[i]? = some x := by rw [← hxe]; exact Lib.data_getElem? s i hi
      by_cases hx : x.toNat < 128
      · have hd : Utf8.decode s i = (x.toNat, 1) := by rw [decode_ascii s i hi (by rw [hxe]; exact hx), hxe]
        rw [hd] at hnx
        have Hx : Aside (s.data.toList[i]? = some x) := hxl
        clear hxl hxe hd
        have hcon := Lib.contains_iff_indexByte chars.data.toList x
        have hback : ((x.toNat : Int)).toNat.toUInt8 = x := by simp
        cases hin : chars.data.toList.contains x
        · rw [hin] at hcon
          have hlt : ¬ ((0 : Int) ≤ Lib.indexByte chars.data.toList x) := of_decide_eq_false hcon.symm
          clear hcon
          go_wp2_with (go_at_call 90; refine (Try.strings_IndexRune_ascii _ _ _ (by omega) (by omega)).mono ?_; rintro e w' ⟨rfl, hw⟩; rw [hw, hback])
          go_roundg g
          case measure => omega
          case rel => exact ⟨i + 1, by omega, HK.out.1 _, HK.out.2.2.1 _, HN.out.2.1.succ Hx.out hin⟩
        · rw [hin] at hcon
          have hge : (0 : Int) ≤ Lib.indexByte chars.data.toList x := of_decide_eq_true hcon.symm
          clear hcon
          go_wp2_with (go_at_call 90; refine (Try.strings_IndexRune_ascii _ _ _ (by omega) (by omega)).mono ?_; rintro e w' ⟨rfl, hw⟩; rw [hw, hback])
          go_ret
          exact ⟨by rw [Lib.indexAny_hit HN.out.2.1 Hx.out hin]; rfl, HK.out.2.2.1 _⟩
      · have hge : 128 ≤ (s[i]'hi).toNat := by rw [hxe]; omega
        obtain ⟨r, k, hd⟩ : ∃ r k, Utf8.decode s i = (r, k) := ⟨_, _, rfl⟩
        obtain ⟨q1, q2⟩ := decode_high s i hi hge
        have q3 : (Utf8.decode s i).1 ≤ 1114111 := Lib.rune_le s i
        have q4 : ∀ d, d < k → ∃ h : i + d < s.size, 128 ≤ (s[i + d]'h).toNat := fun d hdk => decode_hi s i hi hge d (by rw [hd]; exact hdk)
        rw [hd] at hnx q1 q2 q3
        simp only at q1 q2 q3
        have hik : i + k ≤ s.size := by obtain ⟨h, -⟩ := q4 (k - 1) (by omega); omega
        have H4 : Aside (∀ d, d < k → ∃ h : i + d < s.size, 128 ≤ (s[i + d]'h).toNat) := q4
        clear q4 hxl hxe hd hge hx
        go_wp2_with (go_at_call 90; refine (indexRune_high _ _ _ (by omega) (by omega) HA.out hcs'.out).mono ?_; rintro e w' ⟨rfl, hw⟩)
        obtain ⟨k1, k2, k3, k4⟩ := HK.out
        have hw2 : Below w.heap.size (wr.iterAt w.heap.size s (i + k)) w' := ⟨hw.os, hw.tape, hw.output, hw.size, fun j hj => hw.block j (by rw [k2]; omega)⟩
        go_roundg (s.size - (i + k))
        case measure => omega
        case rel =>
          refine ⟨i + k, by omega, (hw.block _ (by rw [k2]; exact k4)).trans (k1 _), (k3 _).trans hw2, noAny_on HN.out.2.1 k fun d hdk b hb => ?_⟩
          obtain ⟨h, hge⟩ := H4.out d hdk
          have hb2 : s[i + d]'h = b := by
            have := Lib.data_getElem? s (i + d) h
            rw [hb] at this
            exact (Option.some.inj this).symm
          cases hc : chars.data.toList.contains b with
          | false => rfl
          | true =>
            have := HA.out b (List.contains_iff_mem.1 hc)
            rw [hb2] at hge
            omega
theorem indexAny_any (s chars : ByteArray) (w : World) (hs : s.size < 4294967281) (hcs : chars.size ≤ 1000) (hac : ∀ b ∈ chars.data.toList, b.toNat < 128) :
    Calls Try.prog 61 #[.string s, .string chars] w fun e w' => e = .returned (.int .i64 (Lib.indexAny s.data.toList chars.data.toList)) ∧ Below w.heap.size w w' := by
  have hac2 : ∀ (j : Nat) b, chars.data.toList[j]? = some b → b.toNat < 128 := fun j b hb => hac b (List.mem_of_getElem? hb)
  by_cases h0 : chars.size = 0
  · exact (Try.strings_IndexAny_none s chars w h0).mono fun e w' ⟨h1, h2⟩ => ⟨h1, h2 ▸ Below.refl _ _⟩
  by_cases h1 : chars.size = 1
  · exact (Try.strings_IndexAny_one s chars w h1 hac2).mono fun e w' ⟨h1, h2⟩ => ⟨h1, h2 ▸ Below.refl _ _⟩
  by_cases h8 : s.size ≤ 8
  · exact indexAny_short s chars w (by omega) h8 hcs hac
  · have hi : (Try.prog.info? (Try.lays153_ren.t 116)).map (fun i => (i.zero, i.size)) = some (some (.agg (Array.replicate 256 (.bool false))), 256) := by kernel_rfl
    refine (Any.strings_IndexAny_long Try.lays153 (zero_of_info hi).1 (zero_of_info hi).2 s chars w (by omega) (by omega) hs (by omega) hac2).mono fun e w' ⟨h1, h2⟩ => ⟨h1, ?_⟩
    rw [h2]
    exact ((Below.refl _ _).alloc (Nat.le_refl _) _).alloc (by simp) _
end Go.Proofs.Ytlhjieapkcnghaa
end

section
namespace Go.Proofs.Ytlhjieapkcnghaa
open Go.RowKit

theorem indexAny2_ok (l s : List UInt8) (hl : l.length < 4294967281) (hs : s.length ≤ 1000) (h4 : s.all (fun b => decide (b.toNat < 128)) = true) : PCall Try.prog 61 [sV l, sV s] (.p (iV (Lib.indexAny l s))) := by
  refine PCall.ofCallsG (by kernel_rfl) (fun _ _ => .p _ _ (.v _ rfl)) fun w us _ hs' h => ?_
  obtain ⟨a, b, rfl⟩ := us2 hs'
  obtain ⟨_, h0⟩ := h 0 _ a rfl rfl
  obtain ⟨_, h1⟩ := h 1 _ b rfl rfl
  rw [given_str h0, given_str h1]
  exact indexAny_any ⟨l.toArray⟩ ⟨s.toArray⟩ w (by show l.toArray.size < _; simpa using hl) (by show s.toArray.size ≤ _; simpa using hs) fun b hb => of_decide_eq_true (List.all_eq_true.1 h4 b hb)
end Go.Proofs.Ytlhjieapkcnghaa
end
