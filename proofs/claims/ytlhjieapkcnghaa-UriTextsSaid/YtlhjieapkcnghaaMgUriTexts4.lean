/- The proof's texts, part 4 of 5: the walks by a logic in which data are by value, the plain laws, and at the end the law, for every input. -/
import Derived.Test.YtlhjieapkcnghaaMgUriTexts3
import Derived.Shelf.RegionOpenPlain
import Derived.Lib.Strings
import Derived.Lib.Walk
import Derived.Lib.Builder
import Derived.Lib.UnsafeStr
import Derived.Laws.Externs
import Derived.Shelf.Strings.Builder1
import Derived.Shelf.Small.Utf8
import Derived.Shelf.Small.Strs
import Derived.Shelf.Small.Wraps
import Derived.Shelf.Strings.BuilderF
import Derived.Shelf.Strings.BuilderK
import Derived.Shelf.Strings.Search1
import Derived.Shelf.Strings.Search2
import Derived.Shelf.Strings.Search3
import Derived.Shelf.Strings.Cut
import Derived.Shelf.LaysM
import Derived.Shelf.Strings.Shaped
import Derived.Shelf.Strings.Prefix
import Derived.Shelf.Strings.Runes
import Derived.Shelf.Strings.IndexAny
import Derived.Shelf.Strings.AsciiSet
import Derived.Shelf.Strings.IndexAnyAll
import Derived.Shelf.Strings.BuilderCap
import Derived.Test.YtlhjieapkcnghaaProg
import Derived.Below
import Derived.Laws.Bits
import Derived.Deep.DeepCutAuto
import Derived.Deep.CutRange
import Derived.ProofKit

section
namespace Go.Proofs.Ytlhjieapkcnghaa
open Go.RowKit

/-- A token's row is let go; it may be marked as no longer to be written. -/
theorem retire_stp {G : Gh} {s : S} {w w' : World} (hI : Inv G s w) {t : Nat} {T : Tok} (hT : G.tok[t]? = some T) (hp : T.pro = none) (h1 : w'.os = w.os) (h2 : w'.tape = w.tape) (h3 : w'.output = w.output) (h4 : w.heap.size ≤ w'.heap.size)
    (hold : ∀ b, b < w.heap.size → T.blk ≠ some b → w'.heap[b]? = w.heap[b]?) (hcell : ∀ g, T.blk = some g → ∀ o u, w.cell? ⟨g, o, none⟩ = some u → w'.cell? ⟨g, o, none⟩ = some u) (hsh : ShKept w w') :
    Stp G w { G with tok := G.tok.set t ⟨T.len + 1, none, 0, none⟩ } w' ∧ Inv { G with tok := G.tok.set t ⟨T.len + 1, none, 0, none⟩ } { s with live := s.live.set t (T.len + 1) } w' := by
  obtain ⟨N, hN⟩ : ∃ N : Tok, N = ⟨T.len + 1, none, 0, none⟩ := ⟨_, rfl⟩
  have hNb : ∀ b, ¬ N.has b := fun b hb => by subst hN; exact (nomatch Tok.has_row.1 hb)
  rw [← hN]
  have hTm : T ∈ G.tok := List.mem_of_getElem? hT
  have hlt : t < G.tok.length := (List.getElem?_eq_some_iff.1 hT).1
  have hset : ∀ (t' : Nat) T', (G.tok.set t N)[t']? = some T' → (t' = t ∧ T' = N) ∨ (t' ≠ t ∧ G.tok[t']? = some T') := fun t' T' h => by
    by_cases htt : t' = t
    · subst htt
      rw [List.getElem?_set_self hlt] at h
      exact .inl ⟨rfl, (Option.some.inj h).symm⟩
    · rw [List.getElem?_set_ne (fun e => htt e.symm)] at h
      exact .inr ⟨htt, h⟩
  have hmem : ∀ T', T' ∈ G.tok.set t N → T' = N ∨ ∃ t', t' ≠ t ∧ G.tok[t']? = some T' := fun T' h => by
    obtain ⟨t', ht'⟩ := List.getElem?_of_mem h
    rcases hset t' T' ht' with ⟨-, h⟩ | ⟨h, h'⟩
    · exact .inl h
    · exact .inr ⟨t', h, h'⟩
  have hoth : ∀ (t' : Nat) T' b, t' ≠ t → G.tok[t']? = some T' → T'.has b → w'.heap[b]? = w.heap[b]? := fun t' T' b hne h hb => by
    obtain ⟨k1, -, k3⟩ := hI.tok t' T' b h hb
    exact hold b k1 fun e => hne (k3 t T hT (.inl e)).symm
  have hnm : ∀ b ∈ G.name, w'.heap[b]? = w.heap[b]? := fun b hb => hold b (name_lt hI b hb) fun e => (hI.tok t T b hT (.inl e)).2.1 hb
  have hst : Stp G w { G with tok := G.tok.set t N } w' := by
    refine ⟨⟨h1, h2, h3, h4, fun b o u h hu => ⟨h, ?_⟩, fun b hb _ hn => hold b hb fun e => hn T hTm (.inl e), fun b o h => .inl h, fun b h => ?_, fun _ _ h => h, hsh⟩, fun nm b h => h, fun t' T' h => ?_⟩
    · by_cases hb : T.blk = some b
      · exact hcell b hb o u hu
      · rw [World.cell?_of_block (w := w) (hold b (hI.com b o h).1 hb)]; exact hu
    · rcases h with h | ⟨T', hT', hb⟩
      · exact .inr (.inl h)
      · rcases hmem T' hT' with rfl | ⟨t', -, h⟩
        · exact absurd hb (hNb b)
        · exact .inr (.inr ⟨T', List.mem_of_getElem? h, hb⟩)
    · by_cases htt : t' = t
      · subst htt
        rw [hT] at h
        cases h
        refine ⟨N, List.getElem?_set_self hlt, ⟨by rw [hN]; exact Nat.le_succ _, by rw [hN, hp]⟩, fun e => ?_⟩
        rw [hN] at e
        have e : T.len = T.len + 1 := e
        omega
      · refine ⟨T', ?_, .refl T', fun _ => ⟨rfl, fun b hb => hoth t' T' b htt h hb⟩⟩
        show (G.tok.set t N)[t']? = _
        rw [List.getElem?_set_ne (fun e => htt e.symm)]; exact h
  refine ⟨hst, ⟨fun b o h => ?_, hI.names, hI.nodup, fun i b cs hb hcs => ?_, ?_, fun t' T' b h hb => ?_, fun T' hT' => ?_, hI.glob.mono hst.ext.com⟩⟩
  · obtain ⟨k1, k2, k3⟩ := hI.com b o h
    refine ⟨Nat.lt_of_lt_of_le k1 h4, k2, fun T' hT' => ?_⟩
    rcases hmem T' hT' with rfl | ⟨t', -, h⟩
    · exact ⟨fun hb => absurd (.inl hb) (hNb b), fun hb => absurd (.inr hb) (hNb b)⟩
    · exact k3 T' (List.mem_of_getElem? h)
  · obtain ⟨us, ty, k1, k2, k3⟩ := hI.var i b cs hb hcs
    exact ⟨us, ty, by rw [hnm b (List.mem_of_getElem? hb)]; exact k1, k2, fun j c u hc hu => ⟨(k3 j c u hc hu).1, (k3 j c u hc hu).2.mono hst⟩⟩
  · show (G.tok.set t N).map (·.len) = s.live.set t (T.len + 1)
    rw [List.map_set, hI.live, hN]
  · rcases hset t' T' h with ⟨-, rfl⟩ | ⟨hne, h⟩
    · exact absurd hb (hNb b)
    · obtain ⟨k1, k2, k3⟩ := hI.tok t' T' b h hb
      refine ⟨Nat.lt_of_lt_of_le k1 h4, k2, fun t'' T'' h' hb' => ?_⟩
      rcases hset t'' T'' h' with ⟨-, rfl⟩ | ⟨-, h'⟩
      · exact absurd hb' (hNb b)
      · exact k3 t'' T'' h' hb'
  · rcases hmem T' hT' with rfl | ⟨t', hne, h⟩
    · exact ⟨fun q hq => absurd hq (by rw [hN]; simp), fun b o ⟨q, hq, _⟩ => absurd hq (by rw [hN]; simp)⟩
    · have hm := List.mem_of_getElem? h
      exact ⟨Tok.ok_ext (hI.pro T' hm) hst.ext fun b hb => hoth t' T' b hne h hb, fun b o hr => (hI.pro T' hm).2 b o hr⟩
theorem freeze_heap {w : World} {g n : Nat} {us : Array Value} {e : TypeId} (h : w.heap[g]? = some (.cells us e (0, 0))) (hn : n ≠ 0) : (w.freeze ⟨g, 0, none⟩ n).heap[g]? = some (.cells us e (0, n)) ∧ (∀ b, b ≠ g → (w.freeze ⟨g, 0, none⟩ n).heap[b]? = w.heap[b]?) ∧ (w.freeze ⟨g, 0, none⟩ n).heap.size = w.heap.size ∧
    (w.freeze ⟨g, 0, none⟩ n).os = w.os ∧ (w.freeze ⟨g, 0, none⟩ n).tape = w.tape ∧ (w.freeze ⟨g, 0, none⟩ n).output = w.output := by
  unfold World.freeze
  rw [if_neg hn]
  refine ⟨?_, fun b hb => ?_, by simp, rfl, rfl, rfl⟩
  · simp [Array.getElem?_modify, h]
  · simp [Array.getElem?_modify, Ne.symm hb]
end Go.Proofs.Ytlhjieapkcnghaa
end

section
set_option linter.unusedVariables false
namespace Go.Proofs.Ytlhjieapkcnghaa
open Go.RowKit Go.Shelf
attribute [local go_sem] Oper.semAt_some

set_option maxRecDepth 100000 in
set_option maxHeartbeats 1000000 in
theorem copyCheck_used (b : Nat) (w : World) (h0 : w.cell? ⟨b, 0, none⟩ = some (.pointer (some ⟨b, 0, none⟩))) :
    Calls Try.prog 76 #[.pointer (some ⟨b, 0, none⟩)] w fun e w' => e = .returned (.tuple #[]) ∧ w' = w := by
  obtain ⟨_, j, hj, hjs, _⟩ := tbOk 67 _ rfl
  go_enter Try.func76, Try.ntmps76
  go_wp2
  rw [Lib.run_neq_ptr_same w _ Try.underlying65 hj]
  go_wp2
  go_end0
  exact ⟨rfl, rfl⟩
set_option maxRecDepth 100000 in
set_option maxHeartbeats 1000000 in
theorem copyCheck_fresh (b e n : Nat) (w : World) (h0 : w.cell? ⟨b, 0, none⟩ = some (.pointer none)) (hsh : w.shape? b = some (e, n)) (hn : 0 < n) (hl : liesAt Try.prog Try.prog.depth e (n / Try.prog.cellsOf e) 0 67 1 = true) (hfz : w.frozen? ⟨b, 0, none⟩ = false) :
    Calls Try.prog 76 #[.pointer (some ⟨b, 0, none⟩)] w fun e w' => e = .returned (.tuple #[]) ∧ w' = w.setCell ⟨b, 0, none⟩ (.pointer (some ⟨b, 0, none⟩)) := by
  obtain ⟨_, j, hj, hjs, _⟩ := tbOk 67 _ rfl
  go_enter Try.func76, Try.ntmps76
  go_wp2
  rw [Lib.run_to_unsafe w ⟨b, 0, none⟩ Try.underlying65 Try.underlying128 hj (by rw [hjs]; decide) hsh hn]
  simp only [Result.andThen]
  rw [Oper.upon_value]
  go_wp2
  rw [run_callFunc_extern Try.func101 (by kernel_rfl) (by kernel_rfl) (by kernel_rfl) (e := Extern.AbiNoEscape.same) (by kernel_rfl)]
  rw [Lib.run_noEscape]
  simp only [Result.andThen]
  rw [Oper.upon_value]
  go_wp2
  rw [Lib.run_from_unsafe w ⟨b, 0, none⟩ Try.underlying128 Try.underlying65 hj hsh hl]
  simp only [Result.andThen]
  rw [Oper.upon_value]
  go_wp2
  go_end0
  exact ⟨rfl, rfl⟩
set_option maxRecDepth 100000 in
set_option maxHeartbeats 2000000 in
theorem string_walk (b n cap : Nat) (a : Option Addr) (q : Option Addr) (z : ByteArray) (w w1 w2 : World) (h0 : w.drew.cell? ⟨b, 1, none⟩ = some (.slice a n cap)) (h1 : w1.cell? ⟨b, 1, none⟩ = some (.slice a n cap))
    (hSD : (Builtin.unsafeSliceData_ #[49] 109 #[.slice a n cap]).run Try.prog w.drew = .ok (.pointer q) w1)
    (hUS : (Builtin.unsafeString_ #[109, 3] 9 #[.pointer q, .int .i64 n]).run Try.prog w1 = .ok (.string z) w2) :
    Calls Try.prog 45 #[.pointer (some ⟨b, 0, none⟩)] w fun e w' => e = .returned (.string z) ∧ w' = w2 := by
  have mixed := mixed
  go_enter Try.func45, Try.ntmps45
  go_wp2
  go_region_o
  all_goals (go_wp2; go_ret; exact ⟨rfl, rfl⟩)
end Go.Proofs.Ytlhjieapkcnghaa
end

section
namespace Go.Proofs.Ytlhjieapkcnghaa
open Go.RowKit

theorem b2s_cells {a : List Int} {l : List UInt8} (h : b2s a = some l) : a.map (cNum .u8) = l.map byteV := by
  unfold b2s at h
  split at h
  · rename_i hc
    cases h
    rw [List.map_map]
    refine List.map_congr_left fun n hn => ?_
    have := List.all_eq_true.1 hc n hn
    simp only [decide_eq_true_eq] at this
    simp [cNum, byteV, nV]
    omega
  · cases h
theorem sliceData_none {P : Program} (w : World) (ts : Array TypeId) (ty e : TypeId) (hp : P.underlying ty = some (.pointer e)) (a : Addr) (n : Nat) (hlt : a.block < w.heap.size) :
    ∃ q w1, (Builtin.unsafeSliceData_ ts ty #[.slice (some a) n 0]).run P w = .ok (.pointer q) w1 ∧ (w1 = w ∨ w1 = w.alloc (.view a e)) := by
  cases hsh : w.shape? a.block with
  | some sh => exact ⟨_, _, Lib.run_unsafeSliceData_zero w ts ty e hp a n sh hsh, .inr rfl⟩
  | none =>
    have hdef : Builtin.unsafeSliceData_ ts ty #[.slice (some a) n 0] =
        (do
          if (0 : Nat) ≠ 0 then pure (.pointer (some a))
          else if (← viewAt a.block).isSome then pure (.pointer (some a))
          else pure (.pointer (some ⟨← newObj (.view a (← elemOf ty)), 0, none⟩))) := rfl
    rw [hdef]
    obtain ⟨o, ho⟩ : ∃ o, w.heap[a.block]? = some o := ⟨_, Array.getElem?_eq_getElem hlt⟩
    have hg : ∀ c t f, o ≠ .cells c t f := fun c t f h => by
      subst h
      unfold World.shape? at hsh
      rw [ho] at hsh; cases hsh
    have hgo : (getObj a.block).run P w = .ok o w := by
      unfold getObj
      simp only [Sem.run, ho]
    by_cases hv : ∃ b t, o = .view b t
    · obtain ⟨b, t, rfl⟩ := hv
      refine ⟨some a, w, ?_, .inl rfl⟩
      simp [viewAt, hsh, hgo]
    · refine ⟨some ⟨w.heap.size, 0, none⟩, _, ?_, .inr rfl⟩
      have hva : (viewAt a.block).run P w = .ok none w := by
        simp only [viewAt]
        simp [hsh, hgo]
        cases o <;> first | rfl | exact absurd ⟨_, _, rfl⟩ hv
      simp [hva, elemOf, run_underlying hp]
theorem copyCheck_ok (h : List (List D)) (live : List Nat) (nm : Nat) {b : Bool} (ds : List D) (hds : h[nm]? = some ds) (hof : ds[0]? = some (.sp Try.prog 67 b nm 0)) :
    CallOK Try.prog 76 [.ptr nm 0] ⟨h, live⟩ (.tup []) ⟨h.set nm (ds.set 0 (.sp Try.prog 67 true nm 0)), live⟩ := by
  refine ⟨by kernel_rfl, fun G w us hI hl hrel => ?_⟩
  obtain ⟨u, rfl⟩ : ∃ u, us = #[u] := ⟨us[0]'(by rw [hl]; exact Nat.zero_lt_one), by
    apply Array.ext (by simpa using hl)
    intro i h1 h2
    have : i = 0 := by simp at h2; omega
    subst this; rfl⟩
  have hp := hrel 0 _ u rfl rfl
  cases hp with
  | ptr _ _ k hk =>
    obtain ⟨vs, ty, v1, v2, v3⟩ := hI.var nm k ds hk hds
    have hlt : 0 < vs.size := by rw [v2]; exact (List.getElem?_eq_some_iff.1 hof).1
    have hc := v3 0 _ vs[0] hof (Array.getElem?_eq_getElem hlt)
    have hcell : w.cell? ⟨k, 0, none⟩ = some vs[0] := by
      rw [cell_of_row w k 0 vs ty (0, 0) v1]; exact Array.getElem?_eq_getElem hlt
    cases hc.2 with
    | sp _ _ _ _ _ i e n _ h1 h2 h3 h4 h5 h6 =>
      have hik : i = k := by rw [hk] at h1; exact (Option.some.inj h1).symm
      subst hik
      cases b with
      | true =>
        rw [h6 rfl] at hcell
        refine (copyCheck_used i w hcell).mono ?_
        rintro e w' ⟨rfl, rfl⟩
        refine ⟨_, G, rfl, .refl G _, ?_, .tup _ _ rfl (fun j c u hc => by simp at hc)⟩
        refine hI.setCell (s := ⟨h, live⟩) hds fun u hu => ?_
        obtain ⟨c, hc, hu⟩ := hu
        rw [hof] at hc
        cases hc
        exact hu
      | false =>
        rw [h5 rfl] at hcell
        refine (copyCheck_fresh i e n w hcell h2 h3 h4 (by simp [World.frozen?, v1])).mono ?_
        rintro e' w' ⟨rfl, rfl⟩
        have hset : (w.setCell ⟨i, 0, none⟩ (.pointer (some ⟨i, 0, none⟩))).heap[i]? = some (.cells (vs.setIfInBounds 0 (.pointer (some ⟨i, 0, none⟩))) ty (0, 0)) := by
          simp [World.setCell, Array.getElem?_modify, v1]
        have hoth : ∀ b, b ≠ i → (w.setCell ⟨i, 0, none⟩ (.pointer (some ⟨i, 0, none⟩))).heap[b]? = w.heap[b]? := fun b hb => by
          simp [World.setCell, Array.getElem?_modify, Ne.symm hb]
        obtain ⟨s1, s2⟩ := store_stp hI nm i hk vs ty v1 (ds.set 0 (.sp Try.prog 67 true nm 0)) (vs.setIfInBounds 0 (.pointer (some ⟨i, 0, none⟩))) (by simp [v2]) (by simp) (fun j c u hc hu => by
          by_cases hj : j = 0
          · subst hj
            rw [List.getElem?_set_self (by rw [← v2]; exact hlt)] at hc
            cases hc
            rw [Array.getElem?_setIfInBounds_self_of_lt hlt] at hu
            cases hu
            exact ⟨rfl, .sp _ _ _ _ _ i e n _ hk h2 h3 h4 (fun h => by cases h) (fun _ => rfl)⟩
          · rw [List.getElem?_set_ne (fun e => hj e.symm)] at hc
            rw [Array.getElem?_setIfInBounds_ne (fun e => hj e.symm)] at hu
            exact v3 j c u hc hu) (w.setCell ⟨i, 0, none⟩ (.pointer (some ⟨i, 0, none⟩))) rfl rfl rfl (by simp [World.setCell]) hset hoth
        exact ⟨_, G, rfl, s1, s2, .tup _ _ rfl (fun j c u hc => by simp at hc)⟩
theorem builderString_ok (h : List (List D)) (live : List Nat) (nm t : Nat) (ds : List D) (es : List (List V)) {l : List UInt8} (hds : h[nm]? = some ds) (hof : ds[1]? = some (.own t 5 1 es)) (hlv : live[t]? = some es.length) (hes : es = l.map byteV) :
    CallOK Try.prog 45 [.ptr nm 0] ⟨h, live⟩ (.p (.v (strOf l))) ⟨h.set nm (ds.set 1 (.p (.sl false es))), live.set t (es.length + 1)⟩ := by
  refine ⟨by kernel_rfl, fun G w us hI hl hrel => ?_⟩
  obtain ⟨u, rfl⟩ : ∃ u, us = #[u] := ⟨us[0]'(by rw [hl]; exact Nat.zero_lt_one), by
    apply Array.ext (by simpa using hl)
    intro i h1 h2
    have : i = 0 := by simp at h2; omega
    subst this; rfl⟩
  have hp := hrel 0 _ u rfl rfl
  have hln : es.length = l.length := by rw [hes, List.length_map]
  cases hp with
  | ptr _ _ k hk =>
    obtain ⟨vs, ty, v1, v2, v3⟩ := hI.var nm k ds hk hds
    have hlt : 1 < vs.size := by rw [v2]; exact (List.getElem?_eq_some_iff.1 hof).1
    have hc := (v3 1 _ vs[1] hof (Array.getElem?_eq_getElem hlt)).2
    have hcell : w.cell? ⟨k, 1, none⟩ = some vs[1] := by
      rw [cell_of_row w k 1 vs ty (0, 0) v1]; exact Array.getElem?_eq_getElem hlt
    obtain ⟨v, hv⟩ : ∃ v, v = vs[1] := ⟨_, rfl⟩
    rw [← hv] at hcell hc
    cases hc with
    | own _ _ _ _ _ T x1 x2 x3 x0 x4 x5 =>
      have hlen : es.length = T.len := by
        have : (G.tok.map (·.len))[t]? = some T.len := by rw [List.getElem?_map, x3]; rfl
        rw [hI.live, hlv] at this
        exact Option.some.inj this
      obtain ⟨a, cap, rfl, hO⟩ := x5 hlen
      obtain ⟨a2, cap2, e2, c1, c2, -⟩ := x1.isSlice
      cases e2
      -- what is common to all ends
      have fin : ∀ w' : World, w'.os = w.os → w'.tape = w.tape → w'.output = w.output → w.heap.size ≤ w'.heap.size → (∀ b, b < w.heap.size → T.blk ≠ some b → w'.heap[b]? = w.heap[b]?) →
          (∀ g, T.blk = some g → ∀ o u, w.cell? ⟨g, o, none⟩ = some u → w'.cell? ⟨g, o, none⟩ = some u) → ShKept w w' → ∃ u G', Ending.returned (.string ⟨l.toArray⟩) = .returned u ∧ Stp G w G' w' ∧ Inv G' ⟨h.set nm (ds.set 1 (.p (.sl false es))), live.set t (es.length + 1)⟩ w' ∧ DRel G' w' (.p (.v (strOf l))) u := fun w' k1 k2 k3 k4 k5 k6 k7 => by
        obtain ⟨s1, s2⟩ := retire_stp hI x3 x0 k1 k2 k3 k4 k5 k6 k7
        rw [← hlen] at s1 s2
        refine ⟨_, _, rfl, s1, s2.setCell (s := ⟨h, live.set t (es.length + 1)⟩) hds fun u hu => ?_, .p _ _ (.v _ rfl)⟩
        obtain ⟨c, hc, hu⟩ := hu
        rw [hof] at hc
        cases hc
        cases hu with
        | own _ _ _ _ _ _ y1 => exact .p _ _ y1
      have hcd : w.drew.cell? ⟨k, 1, none⟩ = some (.slice a es.length cap) := hcell
      have hb := Try.underlying109
      by_cases h0 : es.length = 0
      · have hl0 : l = [] := List.eq_nil_of_length_eq_zero (by omega)
        subst hl0
        have hUS : ∀ q (W : World), (Builtin.unsafeString_ #[109, 3] 9 #[.pointer q, .int .i64 es.length]).run Try.prog W = .ok (.string ⟨#[]⟩) W := fun q W => by rw [h0]; exact Lib.run_unsafeString_none W _ _ _ q
        have plain : ∀ q, (Builtin.unsafeSliceData_ #[49] 109 #[.slice a es.length cap]).run Try.prog w.drew = .ok (.pointer q) w.drew → Calls Try.prog 45 #[.pointer (some ⟨k, 0, none⟩)] w fun e w' => ∃ u G', e = .returned u ∧ Stp G w G' w' ∧ Inv G' ⟨h.set nm (ds.set 1 (.p (.sl false es))), live.set t (es.length + 1)⟩ w' ∧ DRel G' w' (.p (.v (strOf []))) u := fun q hSD => by
          refine (string_walk k es.length cap a q ⟨#[]⟩ w w.drew w.drew hcd hcd hSD (hUS q _)).mono ?_
          rintro e w' ⟨rfl, rfl⟩
          exact fin w.drew rfl rfl rfl (Nat.le_refl _) (fun _ _ _ => rfl) (fun _ _ _ _ h => h) (fun _ _ h => h)
        cases a with
        | none => exact plain none rfl
        | some ad =>
          by_cases hc0 : cap = 0
          · subst hc0
            have hlt : ad.block < w.drew.heap.size := by
              rcases hO with hO | ⟨g, us, T', e1, -, -, -, e5, -⟩ | hO
              · exact hO.2 ad rfl
              · cases e1; exact (Array.getElem?_eq_some_iff.1 e5).1
              · exact absurd hO.1 (by decide)
            obtain ⟨q, w1, hSD, hw1⟩ := sliceData_none w.drew #[49] 109 5 hb ad es.length hlt
            rcases hw1 with rfl | rfl
            · exact plain q hSD
            · have hk2 : k < w.heap.size := (Array.getElem?_eq_some_iff.1 v1).1
              have hc2 : (w.drew.alloc (.view ad 5)).cell? ⟨k, 1, none⟩ = some (.slice (some ad) es.length 0) := (cellAlloc w.drew _ k 1 hk2).trans hcd
              refine (string_walk k es.length 0 (some ad) _ ⟨#[]⟩ w _ _ hcd hc2 hSD (hUS _ _)).mono ?_
              rintro e w' ⟨rfl, rfl⟩
              have hh : ∀ b, b < w.heap.size → (w.drew.alloc (.view ad 5)).heap[b]? = w.heap[b]? := fun b hb => by
                rw [heapAlloc, if_neg (by show ¬ b = w.heap.size; omega)]; rfl
              refine fin _ rfl rfl rfl (by simp) (fun b hb _ => hh b hb) (fun g hg o u hu => ?_) (shAlloc w.drew _)
              exact (cellAlloc w.drew _ g o (cellLt hu)).trans hu
          · exact plain (some ad) (Lib.run_unsafeSliceData_row _ _ _ _ _ _ hc0)
      · rcases hO with hO | ⟨g, us, T', e1, e2, e3, e4, e5, e6⟩ | hO
        · omega
        rotate_left
        · exact absurd hO.1 (by decide)
        · rw [rowTy_lt (by decide)] at e5
          subst e1
          rw [x3] at e2
          cases e2
          have hSD : (Builtin.unsafeSliceData_ #[49] 109 #[.slice (some ⟨g, 0, none⟩) es.length cap]).run Try.prog w.drew = .ok (.pointer (some ⟨g, 0, none⟩)) w.drew := Lib.run_unsafeSliceData_row _ _ _ _ _ _ (by omega)
          have hl0 : l ≠ [] := fun h' => by subst h'; exact h0 (by rw [hln]; rfl)
          have hcl : ∀ (j : Nat) x, l[j]? = some x → w.drew.cell? ((⟨g, 0, none⟩ : Addr).add j) = some (.int .u8 x.toNat) := fun j x hx => by
            have he : es[j]? = some (byteV x) := by rw [hes, List.getElem?_map, hx]; rfl
            obtain ⟨olds, o1, o2, o3, o4⟩ := x1.flat 1 x2 (by decide)
            obtain ⟨u, hu, hr⟩ := o2 j 0 _ _ he (show (byteV x)[0]? = some _ from rfl)
            have hux : u = .int .u8 x.toNat := by cases hr; rfl
            subst hux
            rcases o4 with o4 | ⟨b, off, q1, q2⟩
            · omega
            · cases q1
              have := (q2 _ _ hu).1
              rw [addAt]
              simpa using this
          have hUS := Lib.run_unsafeString_row (P := Try.prog) w.drew 109 3 9 5 hb (by kernel_rfl) g us.size (shape_of (w := w.drew) e5) l hl0 (by rw [e6]; omega) (by unfold maxLen at c2; omega) hcl
          rw [← hln] at hUS
          have hgk : k ≠ g := fun e => (hI.tok t T g x3 (.inl e3)).2.1 (e ▸ List.mem_of_getElem? hk)
          refine (string_walk k es.length cap _ _ ⟨l.toArray⟩ w w.drew _ hcd hcd hSD hUS).mono ?_
          rintro e w' ⟨rfl, rfl⟩
          obtain ⟨f1, f2, f3, f4, f5, f6⟩ := freeze_heap (w := w.drew) (n := es.length) e5 h0
          refine fin _ f4 f5 f6 (Nat.le_of_eq f3.symm) (fun b _ hb => f2 b fun e => hb (e ▸ e3)) (fun g' hg' o u hu => ?_) (fun b sh hb => ?_)
          · rw [e3] at hg'
            cases hg'
            rw [cell_of_row w g o us 5 (0, 0) e5] at hu
            rw [cell_of_row _ g o us 5 _ f1]; exact hu
          · by_cases hbg : b = g
            · subst hbg
              rw [shape_of e5] at hb
              rw [shape_of f1]; exact hb
            · rw [shape_eq (w := w) (f2 b hbg)]; exact hb
end Go.Proofs.Ytlhjieapkcnghaa
end

section
namespace Go.Proofs
open Go.Shelf
def Try.lays137_ren : Go.Shelf.Ren := ⟨fun | 137 => 64 | 217 => 94 | 266 => 118 | n => n, fun | 9 => 9 | 5 => 5 | 3 => 3 | n => n, fun | n => n⟩
theorem Try.lays137 : Go.Proofs.Lays.n137 Try.prog Try.lays137_ren := {
  mixed := by kernel_rfl
  f137 := Try.func64.trans (congrArg some (by kernel_rfl))
  f217 := Try.func94.trans (congrArg some (by kernel_rfl))
  f266 := Try.func118.trans (congrArg some (by kernel_rfl))
  t3 := Try.underlying3
  a3 := Try.isAgg3
  z3 := Try.sizeOf3
  v3 := Try.zeroValue3
  t5 := Try.underlying5
  a5 := Try.isAgg5
  z5 := Try.sizeOf5
  v5 := Try.zeroValue5
  t9 := Try.underlying9
  a9 := Try.isAgg9
  z9 := Try.sizeOf9
  v9 := Try.zeroValue9 }
open Go.RowKit in
/-- strings.IndexByte: "IndexByte returns the index of the first instance of c in s, or -1 if c is not present in s.": IT RETURNS 'Lib.indexByte s c'; the world is as it was. (LAID: no walk: one application.) -/
theorem Try.strings_IndexByte (s : ByteArray) (c : Int) (w : World) :
    Calls Try.prog 64 #[.string s, .int .u8 c] w fun e w' => e = .returned (.int .i64 (Lib.indexByte s.data.toList c.toNat.toUInt8)) ∧ w' = w := Any.strings_IndexByte Try.lays137 s c w
def Try.lays103_ren : Go.Shelf.Ren := ⟨fun | 103 => 70 | 210 => 99 | 206 => 95 | n => n, fun | 9 => 9 | 4 => 4 | 24 => 43 | 3 => 3 | n => n, fun | n => n⟩
theorem Try.lays103 : Go.Proofs.Lays.n103 Try.prog Try.lays103_ren := {
  mixed := by kernel_rfl
  f103 := Try.func70.trans (congrArg some (by kernel_rfl))
  f206 := Try.func95.trans (congrArg some (by kernel_rfl))
  f210 := Try.func99.trans (congrArg some (by kernel_rfl))
  t3 := Try.underlying3
  a3 := Try.isAgg3
  z3 := Try.sizeOf3
  v3 := Try.zeroValue3
  t4 := Try.underlying4
  a4 := Try.isAgg4
  z4 := Try.sizeOf4
  v4 := Try.zeroValue4
  t9 := Try.underlying9
  a9 := Try.isAgg9
  z9 := Try.sizeOf9
  v9 := Try.zeroValue9
  t24 := Try.underlying43
  a24 := Try.isAgg43
  z24 := Try.sizeOf43
  v24 := Try.zeroValue43 }
open Go.RowKit in
/-- strings.CutPrefix: "CutPrefix returns s without the provided leading prefix string and reports whether it found the prefix. If s doesn't start with prefix, CutPrefix returns s, false. If prefix is the empty string, CutPrefix returns s, true.": IT RETURNS '(Lib.trimPrefix s p, Lib.hasPrefix s p)'; the world is as it was. (LAID: no walk: one application.) -/
theorem Try.strings_CutPrefix (s p : ByteArray) (w : World) :
    Calls Try.prog 70 #[.string s, .string p] w fun e w' => e = .returned (.tuple #[.string ⟨(Lib.trimPrefix s.data.toList p.data.toList).toArray⟩, .bool (Lib.hasPrefix s.data.toList p.data.toList)]) ∧ w' = w := Any.strings_CutPrefix Try.lays103 s p w
def Try.lays217_ren : Go.Shelf.Ren := ⟨fun | 217 => 94 | 266 => 118 | n => n, fun | 9 => 9 | 5 => 5 | 3 => 3 | n => n, fun | n => n⟩
theorem Try.lays217 : Go.Proofs.Lays.n217 Try.prog Try.lays217_ren := {
  mixed := by kernel_rfl
  f217 := Try.func94.trans (congrArg some (by kernel_rfl))
  f266 := Try.func118.trans (congrArg some (by kernel_rfl))
  t3 := Try.underlying3
  a3 := Try.isAgg3
  z3 := Try.sizeOf3
  v3 := Try.zeroValue3
  t5 := Try.underlying5
  a5 := Try.isAgg5
  z5 := Try.sizeOf5
  v5 := Try.zeroValue5
  t9 := Try.underlying9
  a9 := Try.isAgg9
  z9 := Try.sizeOf9
  v9 := Try.zeroValue9 }
open Go.RowKit Go.Lib in
/-- internal/stringslite.IndexByte (what strings.IndexByte calls): IT RETURNS 'Lib.indexByte s c'; the world is as it was. (LAID: no walk: one application.) -/
theorem Try.stringslite_IndexByte (s : ByteArray) (c : Int) (w : World) :
    Calls Try.prog 94 #[.string s, .int .u8 c] w fun e w' => e = .returned (.int .i64 (Lib.indexByte s.data.toList c.toNat.toUInt8)) ∧ w' = w := Any.stringslite_IndexByte Try.lays217 s c w
def Try.lays219_ren : Go.Shelf.Ren := ⟨fun | 219 => 119 | 217 => 94 | 225 => 117 | 224 => 116 | 267 => 131 | 266 => 118 | 314 => 134 | n => n, fun | 9 => 9 | 3 => 3 | 4 => 4 | 5 => 5 | 46 => 142 | 146 => 152 | 51 => 151 | n => n, fun | 1 => 0 | n => n⟩
theorem Try.lays219 : Go.Proofs.Lays.n219 Try.prog Try.lays219_ren := {
  mixed := by kernel_rfl
  f217 := Try.func94.trans (congrArg some (by kernel_rfl))
  f219 := Try.func119.trans (congrArg some (by kernel_rfl))
  f224 := Try.func116.trans (congrArg some (by kernel_rfl))
  f225 := Try.func117.trans (congrArg some (by kernel_rfl))
  f266 := Try.func118.trans (congrArg some (by kernel_rfl))
  f267 := Try.func131.trans (congrArg some (by kernel_rfl))
  f314 := Try.func134.trans (congrArg some (by kernel_rfl))
  t3 := Try.underlying3
  a3 := Try.isAgg3
  z3 := Try.sizeOf3
  v3 := Try.zeroValue3
  t4 := Try.underlying4
  a4 := Try.isAgg4
  z4 := Try.sizeOf4
  v4 := Try.zeroValue4
  t5 := Try.underlying5
  a5 := Try.isAgg5
  z5 := Try.sizeOf5
  v5 := Try.zeroValue5
  t9 := Try.underlying9
  a9 := Try.isAgg9
  z9 := Try.sizeOf9
  v9 := Try.zeroValue9
  t46 := Try.underlying142
  a46 := Try.isAgg142
  z46 := Try.sizeOf142
  v46 := Try.zeroValue142
  t51 := Try.underlying151
  a51 := Try.isAgg151
  z51 := Try.sizeOf151
  v51 := Try.zeroValue151
  t146 := Try.underlying152
  a146 := Try.isAgg152
  z146 := Try.sizeOf152
  v146 := Try.zeroValue152
  g1 := by kernel_rfl }
open Go.RowKit Go.Lib in
/-- internal/stringslite.Index (what strings.Index calls) AT A substr OF WHATEVER LENGTH: IT RETURNS 'Lib.index s substr'; the world is as it was. 'm': what internal/bytealg.MaxLen holds: whatever. (LAID: no walk: one application.) -/
theorem Try.stringslite_Index (s sub : ByteArray) (m : Int) (w : World) (hs : s.size < 4294967281) (hm : w.cell? ⟨0, 0, none⟩ = some (.int .i64 m)) :
    Calls Try.prog 119 #[.string s, .string sub] w fun e w' => e = .returned (.int .i64 (Lib.index s.data.toList sub.data.toList)) ∧ w' = w := Any.stringslite_Index Try.lays219 s sub m w hs hm
def Try.lays145_ren : Go.Shelf.Ren := ⟨fun | 145 => 67 | 220 => 96 | 219 => 119 | 217 => 94 | 225 => 117 | 224 => 116 | 267 => 131 | 266 => 118 | 314 => 134 | n => n, fun | 9 => 9 | 4 => 4 | 59 => 101 | 3 => 3 | 5 => 5 | 46 => 142 | 146 => 152 | 51 => 151 | n => n, fun | 1 => 0 | n => n⟩
theorem Try.lays145 : Go.Proofs.Lays.n145 Try.prog Try.lays145_ren := {
  mixed := by kernel_rfl
  f145 := Try.func67.trans (congrArg some (by kernel_rfl))
  f217 := Try.func94.trans (congrArg some (by kernel_rfl))
  f219 := Try.func119.trans (congrArg some (by kernel_rfl))
  f220 := Try.func96.trans (congrArg some (by kernel_rfl))
  f224 := Try.func116.trans (congrArg some (by kernel_rfl))
  f225 := Try.func117.trans (congrArg some (by kernel_rfl))
  f266 := Try.func118.trans (congrArg some (by kernel_rfl))
  f267 := Try.func131.trans (congrArg some (by kernel_rfl))
  f314 := Try.func134.trans (congrArg some (by kernel_rfl))
  t3 := Try.underlying3
  a3 := Try.isAgg3
  z3 := Try.sizeOf3
  v3 := Try.zeroValue3
  t4 := Try.underlying4
  a4 := Try.isAgg4
  z4 := Try.sizeOf4
  v4 := Try.zeroValue4
  t5 := Try.underlying5
  a5 := Try.isAgg5
  z5 := Try.sizeOf5
  v5 := Try.zeroValue5
  t9 := Try.underlying9
  a9 := Try.isAgg9
  z9 := Try.sizeOf9
  v9 := Try.zeroValue9
  t46 := Try.underlying142
  a46 := Try.isAgg142
  z46 := Try.sizeOf142
  v46 := Try.zeroValue142
  t51 := Try.underlying151
  a51 := Try.isAgg151
  z51 := Try.sizeOf151
  v51 := Try.zeroValue151
  t59 := Try.underlying101
  a59 := Try.isAgg101
  z59 := Try.sizeOf101
  v59 := Try.zeroValue101
  t146 := Try.underlying152
  a146 := Try.isAgg152
  z146 := Try.sizeOf152
  v146 := Try.zeroValue152
  g1 := by kernel_rfl }
open Go.RowKit Go.Lib in
/-- strings.Cut: "Cut slices s around the first instance of sep, returning the text before and after sep. The found result reports whether sep appears in s. If sep does not appear in s, cut returns s, "", false.": IT RETURNS 'Lib.cut s sep'; the world is as it was but for the count of draws. (LAID: no walk: one application.) -/
theorem Try.strings_Cut (s sep : ByteArray) (m : Int) (w : World) (hs : s.size < 4294967281) (hm : w.cell? ⟨0, 0, none⟩ = some (.int .i64 m)) :
    Calls Try.prog 67 #[.string s, .string sep] w fun e w' => e = .returned (.tuple #[.string ⟨(Lib.cut s.data.toList sep.data.toList).1.toArray⟩, .string ⟨(Lib.cut s.data.toList sep.data.toList).2.1.toArray⟩, .bool (Lib.cut s.data.toList sep.data.toList).2.2]) ∧ ∃ n, w' = w.drewN n := Any.strings_Cut Try.lays145 s sep m w hs hm
def Try.laysM219_ren : Go.Shelf.Ren := ⟨fun | 219 => 119 | 217 => 94 | 225 => 117 | 224 => 116 | 267 => 131 | 266 => 118 | 314 => 134 | n => n, fun | 9 => 9 | 3 => 3 | 4 => 4 | 5 => 5 | 46 => 142 | 146 => 152 | 51 => 151 | n => n, fun | 1 => 0 | n => n⟩
theorem Try.laysM219 : Go.Proofs.LaysM.n219 Try.prog Try.laysM219_ren := {
  mixed := by kernel_rfl
  f217 := Try.func94.trans (congrArg some (by kernel_rfl))
  f219 := Try.func119.trans (congrArg some (by kernel_rfl))
  f224 := Try.func116.trans (congrArg some (by kernel_rfl))
  f225 := Try.func117.trans (congrArg some (by kernel_rfl))
  f266 := Try.func118.trans (congrArg some (by kernel_rfl))
  f267 := Try.func131.trans (congrArg some (by kernel_rfl))
  f314 := Try.func134.trans (congrArg some (by kernel_rfl))
  t3 := Try.underlying3
  a3 := Try.isAgg3
  z3 := Try.sizeOf3
  v3 := Try.zeroValue3
  t4 := Try.underlying4
  a4 := Try.isAgg4
  z4 := Try.sizeOf4
  v4 := Try.zeroValue4
  t5 := Try.underlying5
  a5 := Try.isAgg5
  z5 := Try.sizeOf5
  v5 := Try.zeroValue5
  t9 := Try.underlying9
  a9 := Try.isAgg9
  z9 := Try.sizeOf9
  v9 := Try.zeroValue9
  t46 := Try.underlying142
  a46 := Try.isAgg142
  z46 := Try.sizeOf142
  v46 := Try.zeroValue142
  t51 := Try.underlying151
  a51 := Try.isAgg151
  z51 := Try.sizeOf151
  v51 := Try.zeroValue151
  t146 := Try.underlying152
  a146 := Try.isAgg152
  z146 := Try.sizeOf152
  v146 := Try.zeroValue152
  g1 := by kernel_rfl
  i3 := by kernel_rfl
  i4 := by kernel_rfl
  i5 := by kernel_rfl
  i9 := by kernel_rfl
  i46 := by kernel_rfl
  i51 := by kernel_rfl
  i146 := by kernel_rfl
  m1 := by kernel_rfl
  s1_3 := fun w h => Go.Proofs.cell_of_shapedOpen_int (zero := #[.int .i64 0]) (t := 3) h (of_decide_eq_true (by kernel_rfl)) (by kernel_rfl) rfl (by kernel_rfl) (by kernel_rfl) Try.underlying3 }
def Try.lays99_ren : Go.Shelf.Ren := ⟨fun | 99 => 65 | 206 => 95 | n => n, fun | 9 => 9 | 4 => 4 | 3 => 3 | n => n, fun | n => n⟩
theorem Try.lays99 : Go.Proofs.Lays.n99 Try.prog Try.lays99_ren := {
  mixed := by kernel_rfl
  f99 := Try.func65.trans (congrArg some (by kernel_rfl))
  f206 := Try.func95.trans (congrArg some (by kernel_rfl))
  t3 := Try.underlying3
  a3 := Try.isAgg3
  z3 := Try.sizeOf3
  v3 := Try.zeroValue3
  t4 := Try.underlying4
  a4 := Try.isAgg4
  z4 := Try.sizeOf4
  v4 := Try.zeroValue4
  t9 := Try.underlying9
  a9 := Try.isAgg9
  z9 := Try.sizeOf9
  v9 := Try.zeroValue9 }
open Go.RowKit Go.Lib in
/-- strings.HasPrefix: "HasPrefix reports whether the string s begins with prefix.": IT RETURNS 'Lib.hasPrefix s prefix'; the world is as it was. (LAID: no walk: one application.) -/
theorem Try.strings_HasPrefix (s p : ByteArray) (w : World) :
    Calls Try.prog 65 #[.string s, .string p] w fun e w' => e = .returned (.bool (Lib.hasPrefix s.data.toList p.data.toList)) ∧ w' = w := Any.strings_HasPrefix Try.lays99 s p w
def Try.lays153_ren : Go.Shelf.Ren := ⟨fun | 153 => 61 | 152 => 90 | 226 => 91 | 227 => 92 | 228 => 93 | 137 => 64 | 119 => 115 | 224 => 116 | 225 => 117 | 217 => 94 | 266 => 118 | n => n, fun | 9 => 9 | 3 => 3 | 4 => 4 | 5 => 5 | 21 => 21 | 117 => 125 | 116 => 124 | 0 => 0 | 46 => 142 | 124 => 143 | n => n, fun | n => n⟩
theorem Try.lays153 : Go.Proofs.Lays.n153 Try.prog Try.lays153_ren := {
  mixed := by kernel_rfl
  f119 := Try.func115.trans (congrArg some (by kernel_rfl))
  f137 := Try.func64.trans (congrArg some (by kernel_rfl))
  f152 := Try.func90.trans (congrArg some (by kernel_rfl))
  f153 := Try.func61.trans (congrArg some (by kernel_rfl))
  f217 := Try.func94.trans (congrArg some (by kernel_rfl))
  f224 := Try.func116.trans (congrArg some (by kernel_rfl))
  f225 := Try.func117.trans (congrArg some (by kernel_rfl))
  f226 := Try.func91.trans (congrArg some (by kernel_rfl))
  f227 := Try.func92.trans (congrArg some (by kernel_rfl))
  f228 := Try.func93.trans (congrArg some (by kernel_rfl))
  f266 := Try.func118.trans (congrArg some (by kernel_rfl))
  t0 := Try.underlying0
  a0 := Try.isAgg0
  z0 := Try.sizeOf0
  v0 := Try.zeroValue0
  t3 := Try.underlying3
  a3 := Try.isAgg3
  z3 := Try.sizeOf3
  v3 := Try.zeroValue3
  t4 := Try.underlying4
  a4 := Try.isAgg4
  z4 := Try.sizeOf4
  v4 := Try.zeroValue4
  t5 := Try.underlying5
  a5 := Try.isAgg5
  z5 := Try.sizeOf5
  v5 := Try.zeroValue5
  t9 := Try.underlying9
  a9 := Try.isAgg9
  z9 := Try.sizeOf9
  v9 := Try.zeroValue9
  t21 := Try.underlying21
  a21 := Try.isAgg21
  z21 := Try.sizeOf21
  v21 := Try.zeroValue21
  t46 := Try.underlying142
  a46 := Try.isAgg142
  z46 := Try.sizeOf142
  v46 := Try.zeroValue142
  t116 := Try.underlying124
  a116 := Try.isAgg124
  z116 := Try.sizeOf124
  t117 := Try.underlying125
  a117 := Try.isAgg125
  z117 := Try.sizeOf125
  v117 := Try.zeroValue125
  t124 := Try.underlying143
  a124 := Try.isAgg143
  z124 := Try.sizeOf143
  v124 := Try.zeroValue143 }
open Go.RowKit Go.Lib in
/-- strings.IndexAny ON ASCII BYTES: the four roads under one statement. (LAID: no walk: one application.) -/
theorem Try.strings_IndexAny (hv116 : ∀ w, (zeroValue 124).run Try.prog w = .ok (.agg (Array.replicate 256 (.bool false))) w) (s chars : ByteArray) (w : World) (hs : s.size < 4294967281) (hcs : chars.size < 4294967281) (has : ∀ (j : Nat) b, s.data.toList[j]? = some b → b.toNat < 128) (hac : ∀ (j : Nat) b, chars.data.toList[j]? = some b → b.toNat < 128) :
    Calls Try.prog 61 #[.string s, .string chars] w fun e w' => e = .returned (.int .i64 (Lib.indexAny s.data.toList chars.data.toList)) ∧ Below w.heap.size w w' := Any.strings_IndexAny Try.lays153 hv116 (by kernel_rfl) s chars w hs hcs has hac
open Go.RowKit Go.Lib in
theorem Try.strings_IndexAny_laid (s chars : ByteArray) (w : World) (hs : s.size < 4294967281) (hcs : chars.size < 4294967281) (has : ∀ (j : Nat) b, s.data.toList[j]? = some b → b.toNat < 128) (hac : ∀ (j : Nat) b, chars.data.toList[j]? = some b → b.toNat < 128) :
    Calls Try.prog 61 #[.string s, .string chars] w fun e w' => e = .returned (.int .i64 (Lib.indexAny s.data.toList chars.data.toList)) ∧ Below w.heap.size w w' := Any.strings_IndexAny_laid Try.lays153 (by kernel_rfl) s chars w hs hcs has hac
end Go.Proofs
end

section
namespace Go.Proofs.Ytlhjieapkcnghaa
open Go.RowKit

def dv (c : UInt8) : Nat := c.toNat - 48
end Go.Proofs.Ytlhjieapkcnghaa
end

section
namespace Go.Proofs.Ytlhjieapkcnghaa
open Go.RowKit

theorem PCall.ofCallsG {P : Program} {f : FuncId} {args : List V} {r : D} {R : Value} (hn : isFn P f = true) (hr : ∀ G w, DRel G w r R)
    (h : ∀ w us, (∃ C, GlobOk C w) → us.size = args.length → (∀ (j : Nat) x u, args[j]? = some x → us[j]? = some u → ∃ C, VRel C w x u) → Calls P f us w fun e w' => e = .returned R ∧ Below w.heap.size w w') : PCall P f args r :=
  ⟨hn, fun C w us hg hs hrel => (h w us ⟨C, hg⟩ hs fun j x u hx hu => ⟨_, hrel j x u hx hu⟩).mono fun _ _ ⟨he, hb⟩ => ⟨R, he, hr _ _, hb⟩⟩
theorem given_str {C : Nat → Nat → Prop} {w : World} {l : List UInt8} {u : Value} (h : VRel C w (sV l) u) : u = .string ⟨l.toArray⟩ := by cases h; rfl
theorem given_int {C : Nat → Nat → Prop} {w : World} {k : IntKind} {n : Int} {u : Value} (h : VRel C w (.v (.int k n)) u) : u = .int k n := by cases h; rfl
theorem below_same {w w' : World} (h : w' = w) : Below w.heap.size w w' := by subst h; exact Below.refl _ _
theorem need_some {p : Prop} [Decidable p] {R : Type} {f : Unit → Option R} {r : R} (h : (need p >>= f) = some r) : p ∧ f () = some r := by
  unfold need at h
  split at h
  · exact ⟨by assumption, h⟩
  · cases h
theorem indexByte_ok (l : List UInt8) (c : Int) : PCall Try.prog 94 [sV l, nV .u8 c] (.p (iV (Lib.indexByte l c.toNat.toUInt8))) := by
  refine PCall.ofCallsG (by kernel_rfl) (fun _ _ => .p _ _ (.v _ rfl)) fun w us _ hs h => ?_
  obtain ⟨a, b, rfl⟩ := us2 hs
  obtain ⟨_, h0⟩ := h 0 _ a rfl rfl
  obtain ⟨_, h1⟩ := h 1 _ b rfl rfl
  rw [given_str h0, given_int h1]
  exact (Try.stringslite_IndexByte _ c w).mono fun e w' ⟨he, hw⟩ => ⟨he, below_same hw⟩
theorem index_ok (l s : List UInt8) (hl : l.length < 4294967281) : PCall Try.prog 119 [sV l, sV s] (.p (iV (Lib.index l s))) := by
  refine PCall.ofCallsG (by kernel_rfl) (fun _ _ => .p _ _ (.v _ rfl)) fun w us hg hs h => ?_
  obtain ⟨a, b, rfl⟩ := us2 hs
  obtain ⟨_, h0⟩ := h 0 _ a rfl rfl
  obtain ⟨_, h1⟩ := h 1 _ b rfl rfl
  obtain ⟨_, hg⟩ := hg
  obtain ⟨m, -, hm⟩ := hg 0 (by simp [globsL])
  rw [given_str h0, given_str h1]
  exact (Try.stringslite_Index _ _ m w (by show l.toArray.size < _; simpa using hl) hm).mono fun e w' ⟨he, hw⟩ => ⟨he, below_same hw⟩
end Go.Proofs.Ytlhjieapkcnghaa
end

section
namespace Go.Proofs.Ytlhjieapkcnghaa
open Go.RowKit

theorem all_ascii {l : List UInt8} (h : l.all (fun b => decide (b.toNat < 128)) = true) : ∀ (j : Nat) b, l[j]? = some b → b.toNat < 128 :=
  fun _ b hb => of_decide_eq_true (List.all_eq_true.1 h b (List.mem_of_getElem? hb))
theorem indexAny_ok (l s : List UInt8) (hl : l.length < 4294967281) (hs : s.length < 4294967281) (h3 : l.all (fun b => decide (b.toNat < 128)) = true) (h4 : s.all (fun b => decide (b.toNat < 128)) = true) : PCall Try.prog 61 [sV l, sV s] (.p (iV (Lib.indexAny l s))) := by
  refine PCall.ofCallsG (by kernel_rfl) (fun _ _ => .p _ _ (.v _ rfl)) fun w us _ hs' h => ?_
  obtain ⟨a, b, rfl⟩ := us2 hs'
  obtain ⟨_, h0⟩ := h 0 _ a rfl rfl
  obtain ⟨_, h1⟩ := h 1 _ b rfl rfl
  rw [given_str h0, given_str h1]
  exact Any.strings_IndexAny_laid Try.lays153 (by kernel_rfl) ⟨l.toArray⟩ ⟨s.toArray⟩ w (by show l.toArray.size < _; simpa using hl) (by show s.toArray.size < _; simpa using hs) (all_ascii h3) (all_ascii h4)
end Go.Proofs.Ytlhjieapkcnghaa
end

section
set_option linter.unusedVariables false
set_option linter.unusedSimpArgs false
namespace Go.Proofs.Ytlhjieapkcnghaa
open Go.RowKit

structure R12_Uri where
  Scheme : (List UInt8)
  User : (List UInt8)
  Host : (List UInt8)
  Port : (List UInt8)
  Path : (List UInt8)
  Query : (List UInt8)
  Frag : (List UInt8)
  Auth : Bool
  HasUser : Bool
  HasPort : Bool
  HasQuery : Bool
  HasFrag : Bool
noncomputable def c_R12_Uri (x : R12_Uri) : List V := [sV x.Scheme, sV x.User, sV x.Host, sV x.Port, sV x.Path, sV x.Query, sV x.Frag, bV x.Auth, bV x.HasUser, bV x.HasPort, bV x.HasQuery, bV x.HasFrag]
structure uri_Uri where
  Scheme : (List UInt8)
  User : (List UInt8)
  Host : (List UInt8)
  Port : (List UInt8)
  Path : (List UInt8)
  Query : (List UInt8)
  Frag : (List UInt8)
  Auth : Bool
  HasUser : Bool
  HasPort : Bool
  HasQuery : Bool
  HasFrag : Bool
noncomputable def t_R12_Text (y : (List UInt8)) : D := .p (sV y)
noncomputable def R12_Text_lv : List (Nat × List Nat) := [(0, [1]), (1, [1, 3]), (2, [1, 3, 6]), (3, [1, 3]), (4, [1, 3, 11]), (5, [1, 3]), (6, [1, 3, 15]), (7, [1, 3]), (8, [1, 3]), (9, [1, 3, 26]), (10, [1, 3]), (11, [1, 3]), (12, [1, 3, 37]), (13, [1, 3]), (14, [1, 3, 44]), (15, [3]), (16, [2]), (2002005, []), (2004019, []), (2006005, []), (2012005, [])]
noncomputable def R12_Text_J0_0 (p0 : R12_Uri) (o1 : (List UInt8)) : St := ⟨[(1, .ptr 0 0), (3, .p (sV o1))], ⟨[[.p (sV p0.Scheme), .p (sV p0.User), .p (sV p0.Host), .p (sV p0.Port), .p (sV p0.Path), .p (sV p0.Query), .p (sV p0.Frag), .p (bV p0.Auth), .p (bV p0.HasUser), .p (bV p0.HasPort), .p (bV p0.HasQuery), .p (bV p0.HasFrag)]], []⟩⟩
noncomputable def R12_Text_J1_0 (p0 : R12_Uri) (o2 : (List UInt8)) : St := ⟨[(1, .ptr 0 0), (3, .p (sV o2))], ⟨[[.p (sV p0.Scheme), .p (sV p0.User), .p (sV p0.Host), .p (sV p0.Port), .p (sV p0.Path), .p (sV p0.Query), .p (sV p0.Frag), .p (bV p0.Auth), .p (bV p0.HasUser), .p (bV p0.HasPort), .p (bV p0.HasQuery), .p (bV p0.HasFrag)]], []⟩⟩
noncomputable def R12_Text_J2_0 (p0 : R12_Uri) (o3 : (List UInt8)) : St := ⟨[(1, .ptr 0 0), (3, .p (sV o3))], ⟨[[.p (sV p0.Scheme), .p (sV p0.User), .p (sV p0.Host), .p (sV p0.Port), .p (sV p0.Path), .p (sV p0.Query), .p (sV p0.Frag), .p (bV p0.Auth), .p (bV p0.HasUser), .p (bV p0.HasPort), .p (bV p0.HasQuery), .p (bV p0.HasFrag)]], []⟩⟩
noncomputable def R12_Text_J3_0 (p0 : R12_Uri) (o4 : (List UInt8)) : St := ⟨[(1, .ptr 0 0), (3, .p (sV o4))], ⟨[[.p (sV p0.Scheme), .p (sV p0.User), .p (sV p0.Host), .p (sV p0.Port), .p (sV p0.Path), .p (sV p0.Query), .p (sV p0.Frag), .p (bV p0.Auth), .p (bV p0.HasUser), .p (bV p0.HasPort), .p (bV p0.HasQuery), .p (bV p0.HasFrag)]], []⟩⟩
noncomputable def t_internal_stringslite_Cut (y : (List UInt8) × (List UInt8) × Bool) : D := .tup [.p (sV y.1), .p (sV y.2.1), .p (bV y.2.2)]
noncomputable def internal_stringslite_Cut_lv : List (Nat × List Nat) := [(0, [0, 1]), (1, [0, 1, 7]), (2, [0, 1, 7, 12]), (3, [4, 5, 6]), (4, [4, 5, 6])]
noncomputable def t_internal_stringslite_CutPrefix (y : (List UInt8) × Bool) : D := .tup [.p (sV y.1), .p (bV y.2)]
noncomputable def internal_stringslite_CutPrefix_lv : List (Nat × List Nat) := [(0, [0, 1]), (1, [0, 1, 9]), (2, [4, 5]), (3, [4, 5])]
noncomputable def t_internal_stringslite_HasPrefix (y : Bool) : D := .p (bV y)
noncomputable def internal_stringslite_HasPrefix_lv : List (Nat × List Nat) := [(0, [0, 1]), (1, [4]), (3000001, [])]
noncomputable def internal_stringslite_HasPrefix_J0_0  (o1 : Bool) : St := ⟨[(4, .p (bV o1))], ⟨[], []⟩⟩
noncomputable def t_internal_stringslite_Index (y : Int) : D := .p (iV y)
noncomputable def t_internal_stringslite_IndexByte (y : Int) : D := .p (iV y)
noncomputable def t_nunciolaw12_UriTexts (y : Bool) : D := .p (bV y)
noncomputable def nunciolaw12_UriTexts_lv : List (Nat × List Nat) := [(0, [1]), (1, [3]), (2, [2]), (3000002, [])]
noncomputable def nunciolaw12_UriTexts_J0_0 (p0 : R12_Uri) (x1 : uri_Uri) (o2 : Bool) : St := ⟨[(2, .p (bV o2))], ⟨[[.p (sV p0.Scheme), .p (sV p0.User), .p (sV p0.Host), .p (sV p0.Port), .p (sV p0.Path), .p (sV p0.Query), .p (sV p0.Frag), .p (bV p0.Auth), .p (bV p0.HasUser), .p (bV p0.HasPort), .p (bV p0.HasQuery), .p (bV p0.HasFrag)], [.p (sV x1.Scheme), .p (sV x1.User), .p (sV x1.Host), .p (sV x1.Port), .p (sV x1.Path), .p (sV x1.Query), .p (sV x1.Frag), .p (bV x1.Auth), .p (bV x1.HasUser), .p (bV x1.HasPort), .p (bV x1.HasQuery), .p (bV x1.HasFrag)]], []⟩⟩
noncomputable def t_nunciolaw12_awake (y : Bool) : D := .p (bV y)
noncomputable def nunciolaw12_awake_lv : List (Nat × List Nat) := [(0, []), (1, [1, 2]), (2, [1, 2, 3, 4]), (3, [1, 2, 3, 4, 6]), (4, [1, 2, 3, 4, 6, 8]), (5, [0]), (3000005, [])]
noncomputable def nunciolaw12_awake_J0_0 (x1 : uri_Uri × Int) (x2 : uri_Uri × Int) (x3 : uri_Uri × Int) (x4 : uri_Uri × Int) (o5 : Bool) : St := ⟨[(0, .p (bV o5))], ⟨[[.p (sV x1.1.Scheme), .p (sV x1.1.User), .p (sV x1.1.Host), .p (sV x1.1.Port), .p (sV x1.1.Path), .p (sV x1.1.Query), .p (sV x1.1.Frag), .p (bV x1.1.Auth), .p (bV x1.1.HasUser), .p (bV x1.1.HasPort), .p (bV x1.1.HasQuery), .p (bV x1.1.HasFrag)], [.p (sV x2.1.Scheme), .p (sV x2.1.User), .p (sV x2.1.Host), .p (sV x2.1.Port), .p (sV x2.1.Path), .p (sV x2.1.Query), .p (sV x2.1.Frag), .p (bV x2.1.Auth), .p (bV x2.1.HasUser), .p (bV x2.1.HasPort), .p (bV x2.1.HasQuery), .p (bV x2.1.HasFrag)], [.p (sV x3.1.Scheme), .p (sV x3.1.User), .p (sV x3.1.Host), .p (sV x3.1.Port), .p (sV x3.1.Path), .p (sV x3.1.Query), .p (sV x3.1.Frag), .p (bV x3.1.Auth), .p (bV x3.1.HasUser), .p (bV x3.1.HasPort), .p (bV x3.1.HasQuery), .p (bV x3.1.HasFrag)], [.p (sV x4.1.Scheme), .p (sV x4.1.User), .p (sV x4.1.Host), .p (sV x4.1.Port), .p (sV x4.1.Path), .p (sV x4.1.Query), .p (sV x4.1.Frag), .p (bV x4.1.Auth), .p (bV x4.1.HasUser), .p (bV x4.1.HasPort), .p (bV x4.1.HasQuery), .p (bV x4.1.HasFrag)]], []⟩⟩
noncomputable def t_nunciolaw12_few (y : (List UInt8)) : D := .p (sV y)
noncomputable def nunciolaw12_few_lv : List (Nat × List Nat) := [(0, [0]), (1, [2])]
noncomputable def t_nunciolaw12_its (y : R12_Uri) : D := .p (.agg [sV y.Scheme, sV y.User, sV y.Host, sV y.Port, sV y.Path, sV y.Query, sV y.Frag, bV y.Auth, bV y.HasUser, bV y.HasPort, bV y.HasQuery, bV y.HasFrag])
noncomputable def nunciolaw12_its_lv : List (Nat × List Nat) := [(0, [1, 2]), (1, [2])]
noncomputable def t_nunciolaw12_mine (y : uri_Uri) : D := .p (.agg [sV y.Scheme, sV y.User, sV y.Host, sV y.Port, sV y.Path, sV y.Query, sV y.Frag, bV y.Auth, bV y.HasUser, bV y.HasPort, bV y.HasQuery, bV y.HasFrag])
noncomputable def nunciolaw12_mine_lv : List (Nat × List Nat) := [(0, [1, 2]), (1, [2])]
noncomputable def t_strings_Builder_String_2 (y : (List UInt8)) : D := .p (sV y)
noncomputable def t_strings_Builder_WriteString_2 (y : Int × Unit × Bool × (List Int)) : D := .tup [.p (iV y.1), .p (.v .nilIface)]
noncomputable def strings_Builder_WriteString_2_lv : List (Nat × List Nat) := [(0, [0, 1]), (1, [0, 1]), (2, [1]), (3, [4, 5])]
noncomputable def t_strings_Builder_copyCheck_2 (_ : Bool) : D := .tup []
noncomputable def t_strings_Cut (y : (List UInt8) × (List UInt8) × Bool) : D := .tup [.p (sV y.1), .p (sV y.2.1), .p (bV y.2.2)]
noncomputable def strings_Cut_lv : List (Nat × List Nat) := [(0, [0, 1]), (1, [4, 5, 6])]
noncomputable def t_strings_CutPrefix (y : (List UInt8) × Bool) : D := .tup [.p (sV y.1), .p (bV y.2)]
noncomputable def strings_CutPrefix_lv : List (Nat × List Nat) := [(0, [0, 1]), (1, [4, 5])]
noncomputable def t_strings_HasPrefix (y : Bool) : D := .p (bV y)
noncomputable def strings_HasPrefix_lv : List (Nat × List Nat) := [(0, [0, 1]), (1, [4])]
noncomputable def t_strings_IndexAny (y : Int) : D := .p (iV y)
noncomputable def t_strings_IndexByte (y : Int) : D := .p (iV y)
noncomputable def strings_IndexByte_lv : List (Nat × List Nat) := [(0, [0, 1]), (1, [4])]
noncomputable def t_uri_Split (y : uri_Uri × Int) : D := .tup [.p (.agg [sV y.1.Scheme, sV y.1.User, sV y.1.Host, sV y.1.Port, sV y.1.Path, sV y.1.Query, sV y.1.Frag, bV y.1.Auth, bV y.1.HasUser, bV y.1.HasPort, bV y.1.HasQuery, bV y.1.HasFrag]), .p (iV y.2)]
noncomputable def uri_Split_lv : List (Nat × List Nat) := [(0, [0, 2]), (1, [2, 4]), (2, [2, 4, 20, 21, 22]), (3, [2, 4, 20, 21, 22, 23]), (4, [2, 4, 6, 20, 21, 22]), (5, [2, 4, 20, 21, 22, 28]), (6, [2, 3]), (7, [2, 4, 20, 21, 22]), (8, [2, 3]), (1000003, [2, 4, 20, 21, 22])]
noncomputable def uri_Split_L1_r0_st (p0 : (List UInt8)) : St := ⟨[(2, .ptr 0 0), (4, .ptr 1 0), (20, .sf [.fn (.func 33) [.ptr 1 0] [], .fn (.func 34) [.ptr 1 0] [], .fn (.func 35) [.ptr 1 0] [], .fn (.func 36) [.ptr 1 0] [], .fn (.func 37) [.ptr 1 0] []]), (21, .p (iV 5)), (22, .p (iV 0))], ⟨[[.p (sV []), .p (sV []), .p (sV []), .p (sV []), .p (sV []), .p (sV []), .p (sV []), .p (bV false), .p (bV false), .p (bV false), .p (bV false), .p (bV false)], [.p (sV p0), .p (sV []), .p (sV []), .p (sV []), .p (sV []), .p (sV []), .p (sV []), .p (sV []), .p (bV false), .p (bV false), .p (bV false), .p (bV false), .p (bV false)]], []⟩⟩
noncomputable def uri_Split_L1_r1_st (p0 : (List UInt8)) (h1_0 : (List UInt8)) (h1_1 : (List UInt8)) : St := ⟨[(2, .ptr 0 0), (4, .ptr 1 0), (20, .sf [.fn (.func 33) [.ptr 1 0] [], .fn (.func 34) [.ptr 1 0] [], .fn (.func 35) [.ptr 1 0] [], .fn (.func 36) [.ptr 1 0] [], .fn (.func 37) [.ptr 1 0] []]), (21, .p (iV 5)), (22, .p (iV 1))], ⟨[[.p (sV []), .p (sV []), .p (sV []), .p (sV []), .p (sV []), .p (sV []), .p (sV []), .p (bV false), .p (bV false), .p (bV false), .p (bV false), .p (bV false)], [.p (sV h1_0), .p (sV h1_1), .p (sV []), .p (sV []), .p (sV []), .p (sV []), .p (sV []), .p (sV []), .p (bV false), .p (bV false), .p (bV false), .p (bV false), .p (bV false)]], []⟩⟩
noncomputable def uri_Split_L1_r2_st (p0 : (List UInt8)) (h1_0 : (List UInt8)) (h1_1 : (List UInt8)) (h1_2 : (List UInt8)) (h1_3 : (List UInt8)) (h1_4 : (List UInt8)) (h1_8 : Bool) (h1_9 : Bool) (h1_10 : Bool) : St := ⟨[(2, .ptr 0 0), (4, .ptr 1 0), (20, .sf [.fn (.func 33) [.ptr 1 0] [], .fn (.func 34) [.ptr 1 0] [], .fn (.func 35) [.ptr 1 0] [], .fn (.func 36) [.ptr 1 0] [], .fn (.func 37) [.ptr 1 0] []]), (21, .p (iV 5)), (22, .p (iV 2))], ⟨[[.p (sV []), .p (sV []), .p (sV []), .p (sV []), .p (sV []), .p (sV []), .p (sV []), .p (bV false), .p (bV false), .p (bV false), .p (bV false), .p (bV false)], [.p (sV h1_0), .p (sV h1_1), .p (sV h1_2), .p (sV h1_3), .p (sV h1_4), .p (sV []), .p (sV []), .p (sV []), .p (bV h1_8), .p (bV h1_9), .p (bV h1_10), .p (bV false), .p (bV false)]], []⟩⟩
noncomputable def uri_Split_L1_r3_st (p0 : (List UInt8)) (h1_0 : (List UInt8)) (h1_1 : (List UInt8)) (h1_2 : (List UInt8)) (h1_3 : (List UInt8)) (h1_4 : (List UInt8)) (h1_5 : (List UInt8)) (h1_8 : Bool) (h1_9 : Bool) (h1_10 : Bool) : St := ⟨[(2, .ptr 0 0), (4, .ptr 1 0), (20, .sf [.fn (.func 33) [.ptr 1 0] [], .fn (.func 34) [.ptr 1 0] [], .fn (.func 35) [.ptr 1 0] [], .fn (.func 36) [.ptr 1 0] [], .fn (.func 37) [.ptr 1 0] []]), (21, .p (iV 5)), (22, .p (iV 3))], ⟨[[.p (sV []), .p (sV []), .p (sV []), .p (sV []), .p (sV []), .p (sV []), .p (sV []), .p (bV false), .p (bV false), .p (bV false), .p (bV false), .p (bV false)], [.p (sV h1_0), .p (sV h1_1), .p (sV h1_2), .p (sV h1_3), .p (sV h1_4), .p (sV h1_5), .p (sV []), .p (sV []), .p (bV h1_8), .p (bV h1_9), .p (bV h1_10), .p (bV false), .p (bV false)]], []⟩⟩
noncomputable def uri_Split_L1_r4_st (p0 : (List UInt8)) (h1_0 : (List UInt8)) (h1_1 : (List UInt8)) (h1_2 : (List UInt8)) (h1_3 : (List UInt8)) (h1_4 : (List UInt8)) (h1_5 : (List UInt8)) (h1_6 : (List UInt8)) (h1_8 : Bool) (h1_9 : Bool) (h1_10 : Bool) (h1_11 : Bool) : St := ⟨[(2, .ptr 0 0), (4, .ptr 1 0), (20, .sf [.fn (.func 33) [.ptr 1 0] [], .fn (.func 34) [.ptr 1 0] [], .fn (.func 35) [.ptr 1 0] [], .fn (.func 36) [.ptr 1 0] [], .fn (.func 37) [.ptr 1 0] []]), (21, .p (iV 5)), (22, .p (iV 4))], ⟨[[.p (sV []), .p (sV []), .p (sV []), .p (sV []), .p (sV []), .p (sV []), .p (sV []), .p (bV false), .p (bV false), .p (bV false), .p (bV false), .p (bV false)], [.p (sV h1_0), .p (sV h1_1), .p (sV h1_2), .p (sV h1_3), .p (sV h1_4), .p (sV h1_5), .p (sV h1_6), .p (sV []), .p (bV h1_8), .p (bV h1_9), .p (bV h1_10), .p (bV h1_11), .p (bV false)]], []⟩⟩
noncomputable def uri_Split_L1_r5_st (p0 : (List UInt8)) (h1_0 : (List UInt8)) (h1_1 : (List UInt8)) (h1_2 : (List UInt8)) (h1_3 : (List UInt8)) (h1_4 : (List UInt8)) (h1_5 : (List UInt8)) (h1_6 : (List UInt8)) (h1_7 : (List UInt8)) (h1_8 : Bool) (h1_9 : Bool) (h1_10 : Bool) (h1_11 : Bool) (h1_12 : Bool) : St := ⟨[(2, .ptr 0 0), (4, .ptr 1 0), (20, .sf [.fn (.func 33) [.ptr 1 0] [], .fn (.func 34) [.ptr 1 0] [], .fn (.func 35) [.ptr 1 0] [], .fn (.func 36) [.ptr 1 0] [], .fn (.func 37) [.ptr 1 0] []]), (21, .p (iV 5)), (22, .p (iV 5))], ⟨[[.p (sV []), .p (sV []), .p (sV []), .p (sV []), .p (sV []), .p (sV []), .p (sV []), .p (bV false), .p (bV false), .p (bV false), .p (bV false), .p (bV false)], [.p (sV h1_0), .p (sV h1_1), .p (sV h1_2), .p (sV h1_3), .p (sV h1_4), .p (sV h1_5), .p (sV h1_6), .p (sV h1_7), .p (bV h1_8), .p (bV h1_9), .p (bV h1_10), .p (bV h1_11), .p (bV h1_12)]], []⟩⟩
noncomputable def uri_Split_L1_x0 (p0 : (List UInt8)) (y2 : (List UInt8) × (List UInt8) × (List UInt8) × (List UInt8) × (List UInt8) × (List UInt8) × (List UInt8) × (List UInt8) × Bool × Bool × Bool × Bool × Bool) : St := ⟨[(2, .ptr 0 0), (4, .ptr 1 0)], ⟨[[.p (sV []), .p (sV []), .p (sV []), .p (sV []), .p (sV []), .p (sV []), .p (sV []), .p (bV false), .p (bV false), .p (bV false), .p (bV false), .p (bV false)], [.p (sV y2.1), .p (sV y2.2.1), .p (sV y2.2.2.1), .p (sV y2.2.2.2.1), .p (sV y2.2.2.2.2.1), .p (sV y2.2.2.2.2.2.1), .p (sV y2.2.2.2.2.2.2.1), .p (sV y2.2.2.2.2.2.2.2.1), .p (bV y2.2.2.2.2.2.2.2.2.1), .p (bV y2.2.2.2.2.2.2.2.2.2.1), .p (bV y2.2.2.2.2.2.2.2.2.2.2.1), .p (bV y2.2.2.2.2.2.2.2.2.2.2.2.1), .p (bV y2.2.2.2.2.2.2.2.2.2.2.2.2)]], []⟩⟩
noncomputable def uri_Split_L1_x1 (p0 : (List UInt8)) (y3 : (List UInt8) × (List UInt8) × (List UInt8) × (List UInt8) × (List UInt8) × (List UInt8) × (List UInt8) × (List UInt8) × Bool × Bool × Bool × Bool × Bool) : St := ⟨[(2, .ptr 0 0), (3, .p (iV 7))], ⟨[[.p (sV []), .p (sV []), .p (sV []), .p (sV []), .p (sV []), .p (sV []), .p (sV []), .p (bV false), .p (bV false), .p (bV false), .p (bV false), .p (bV false)], [.p (sV y3.1), .p (sV y3.2.1), .p (sV y3.2.2.1), .p (sV y3.2.2.2.1), .p (sV y3.2.2.2.2.1), .p (sV y3.2.2.2.2.2.1), .p (sV y3.2.2.2.2.2.2.1), .p (sV y3.2.2.2.2.2.2.2.1), .p (bV y3.2.2.2.2.2.2.2.2.1), .p (bV y3.2.2.2.2.2.2.2.2.2.1), .p (bV y3.2.2.2.2.2.2.2.2.2.2.1), .p (bV y3.2.2.2.2.2.2.2.2.2.2.2.1), .p (bV y3.2.2.2.2.2.2.2.2.2.2.2.2)]], []⟩⟩
noncomputable def uri_Split_L1_c : Code := ((loopsOf (Try.f11.body.getD .skip)).getD 0 .skip)
noncomputable def t_uri_Text (y : (List UInt8)) : D := .p (sV y)
noncomputable def uri_Text_lv : List (Nat × List Nat) := [(0, [1]), (1, [1, 3]), (2, [1, 3, 4]), (3, [1, 3, 4]), (4, [1, 3, 4]), (5, [1, 3, 4]), (6, [1, 3, 4]), (7, [1, 3, 4]), (8, [1, 3, 4]), (9, [1, 3, 4]), (10, [3]), (11, [2]), (3000005, []), (3000007, [])]
noncomputable def uri_Text_J0_0 (p0 : uri_Uri) (o3 : Bool × (List Int)) : St := ⟨[(1, .ptr 0 0), (3, .ptr 1 0), (4, .fn (.func 43) [] [.ptr 1 0])], ⟨[[.p (sV p0.Scheme), .p (sV p0.User), .p (sV p0.Host), .p (sV p0.Port), .p (sV p0.Path), .p (sV p0.Query), .p (sV p0.Frag), .p (bV p0.Auth), .p (bV p0.HasUser), .p (bV p0.HasPort), .p (bV p0.HasQuery), .p (bV p0.HasFrag)], [.sp Try.prog 67 o3.1 1 0, .own 0 5 1 (o3.2.map (cNum .u8))]], [(o3.2.map (cNum .u8)).length]⟩⟩
noncomputable def uri_Text_J1_0 (p0 : uri_Uri) (o7 : Bool × (List Int)) : St := ⟨[(1, .ptr 0 0), (3, .ptr 1 0), (4, .fn (.func 43) [] [.ptr 1 0])], ⟨[[.p (sV p0.Scheme), .p (sV p0.User), .p (sV p0.Host), .p (sV p0.Port), .p (sV p0.Path), .p (sV p0.Query), .p (sV p0.Frag), .p (bV p0.Auth), .p (bV p0.HasUser), .p (bV p0.HasPort), .p (bV p0.HasQuery), .p (bV p0.HasFrag)], [.sp Try.prog 67 o7.1 1 0, .own 0 5 1 (o7.2.map (cNum .u8))]], [(o7.2.map (cNum .u8)).length]⟩⟩
noncomputable def t_uri_Text_1 (_ : Bool × (List Int)) : D := .tup []
noncomputable def uri_Text_1_lv : List (Nat × List Nat) := [(0, [0, 2, 7, 8, 9]), (1, [0, 2, 7, 8, 9, 10]), (2, [0, 2, 6, 7, 8, 9]), (3, [0, 2, 6, 7, 8, 9, 13]), (4, [0, 2, 7, 8, 9]), (5, [0, 2, 7, 8, 9]), (1000001, [0, 2, 7, 8, 9])]
noncomputable def uri_Text_1_L1_st (p0 : Bool) (p1 : (List (List UInt8))) (v9 : Int) (h0_0_ : Bool) (h0_1 : (List Int)) : St := ⟨[(0, .p (bV p0)), (2, .ptr 0 0), (7, .p (.sl false (p1.map cStr))), (8, .p (iV (p1.length : Int))), (9, .p (iV v9))], ⟨[[.sp Try.prog 67 h0_0_ 0 0, .own 0 5 1 (h0_1.map (cNum .u8))]], [(h0_1.map (cNum .u8)).length]⟩⟩
noncomputable def uri_Text_1_L1_x0 (p0 : Bool) (p1 : (List (List UInt8))) (o1 : Bool × (List Int)) : St := ⟨[], ⟨[[.sp Try.prog 67 o1.1 0 0, .own 0 5 1 (o1.2.map (cNum .u8))]], [(o1.2.map (cNum .u8)).length]⟩⟩
noncomputable def uri_Text_1_L1_c : Code := ((loopsOf (Try.f43.body.getD .skip)).getD 0 .skip)
noncomputable def t_uri_Text_1_2 (_ : Bool × (List Int)) : D := .tup []
noncomputable def uri_Text_1_2_lv : List (Nat × List Nat) := [(0, [0, 2, 7, 8, 9]), (1, [0, 2, 7, 8, 9, 10]), (2, [0, 2, 6, 7, 8, 9]), (3, [0, 2, 6, 7, 8, 9, 13]), (4, [0, 2, 7, 8, 9]), (5, [0, 2, 7, 8, 9]), (1000001, [0, 2, 7, 8, 9])]
noncomputable def uri_Text_1_2_L1_st (p0 : Bool) (p1 : (List (List UInt8))) (v9 : Int) (h0_0_ : Bool) (h0_1_ : (List Int)) : St := ⟨[(0, .p (bV p0)), (2, .ptr 0 0), (7, .p (.sl false (p1.map cStr))), (8, .p (iV (p1.length : Int))), (9, .p (iV v9))], ⟨[[.sp Try.prog 67 h0_0_ 0 0, .own 0 5 1 (h0_1_.map (cNum .u8))]], [(h0_1_.map (cNum .u8)).length]⟩⟩
noncomputable def uri_Text_1_2_L1_x0 (p0 : Bool) (p1 : (List (List UInt8))) (o1 : Bool × (List Int)) : St := ⟨[], ⟨[[.sp Try.prog 67 o1.1 0 0, .own 0 5 1 (o1.2.map (cNum .u8))]], [(o1.2.map (cNum .u8)).length]⟩⟩
noncomputable def uri_Text_1_2_L1_c : Code := ((loopsOf (Try.f43.body.getD .skip)).getD 0 .skip)
noncomputable def t_uri_coded (y : Int × Bool) : D := .tup [.p (nV .u8 y.1), .p (bV y.2)]
noncomputable def uri_coded_lv : List (Nat × List Nat) := [(0, [0, 1]), (1, [0, 1, 14]), (2, [4, 5]), (3, [0, 1, 6, 7]), (4, [6, 7, 8, 9]), (5, [4, 5]), (3000005, [])]
noncomputable def uri_coded_J0_0 (x2 : Int × Bool) (x4 : Int × Bool) (o5 : Bool) : St := ⟨[(4, .p (nV .u8 (bits .or .u8 (IntKind.u8.wrap (x2.1 * 2 ^ (min (4 : Int).toNat (IntKind.u8.bits)))) x4.1))), (5, .p (bV o5))], ⟨[], []⟩⟩
noncomputable def t_uri_digit (y : Bool) : D := .p (bV y)
noncomputable def uri_digit_lv : List (Nat × List Nat) := [(0, [0]), (1, [2]), (3000001, [])]
noncomputable def uri_digit_J0_0  (o1 : Bool) : St := ⟨[(2, .p (bV o1))], ⟨[], []⟩⟩
noncomputable def t_uri_fits_uri_with_1 (y : Bool) : D := .p (bV y)
noncomputable def uri_fits_uri_with_1_lv : List (Nat × List Nat) := [(0, [0, 1]), (1, [0, 1, 5]), (2, [0, 1, 5, 11]), (3, [0, 1, 5]), (4, [0, 1, 5, 17]), (5, [0, 1, 5, 7]), (6, [0, 1, 5, 25]), (7, [4]), (8, [0, 1, 5]), (9, [0, 1, 5, 33]), (10, [4]), (11, [4]), (1000002, [0, 1, 5])]
noncomputable def uri_fits_uri_with_1_L1_st (p0 : (List UInt8)) (p1_0c_0e : (List UInt8)) (v5 : Int) : St := ⟨[(0, .p (sV p0)), (1, .fn (.func 98) [] [.p (.ep [sV p1_0c_0e])]), (5, .p (iV v5))], ⟨[], []⟩⟩
noncomputable def uri_fits_uri_with_1_L1_x0 (p0 : (List UInt8)) (p1_0c_0e : (List UInt8)) (y2 : Unit) : St := ⟨[], ⟨[], []⟩⟩
noncomputable def uri_fits_uri_with_1_L1_x1 (p0 : (List UInt8)) (p1_0c_0e : (List UInt8)) (y3 : Unit) : St := ⟨[(4, .p (bV false))], ⟨[], []⟩⟩
noncomputable def uri_fits_uri_with_1_L1_c : Code := ((loopsOf (Try.f68.body.getD .skip)).getD 0 .skip)
noncomputable def t_uri_letter (y : Bool) : D := .p (bV y)
noncomputable def uri_letter_lv : List (Nat × List Nat) := [(0, [0]), (1, [2]), (3000001, [])]
noncomputable def uri_letter_J0_0  (o1 : Bool) : St := ⟨[(2, .p (bV o1))], ⟨[], []⟩⟩
noncomputable def t_uri_reader_authority (y : Bool × (List UInt8) × (List UInt8) × (List UInt8) × (List UInt8) × Bool × Bool × Bool) : D := .p (bV y.1)
noncomputable def uri_reader_authority_lv : List (Nat × List Nat) := [(0, [0]), (1, [0, 14]), (2, [2]), (3, [0]), (4, [3, 4]), (5, [3, 4]), (6, [3, 4, 5, 6, 7]), (7, [3, 4, 5, 6, 37]), (8, [3, 4]), (9, [3]), (10, [3, 65, 66]), (11, [3, 65, 66, 67]), (12, [3, 8, 65, 66]), (13, [3, 65, 66, 76]), (14, [2]), (15, [3, 65, 66]), (16, [2]), (1000011, [3, 65, 66]), (2006007, []), (3000016, []), (5000004, [4])]
noncomputable def uri_reader_authority_J0_0 (h0_1 : (List UInt8)) (h0_3 : (List UInt8)) (h0_4 : (List UInt8)) (h0_5 : (List UInt8)) (h0_6 : (List UInt8)) (h0_7 : (List UInt8)) (h0_10 : Bool) (h0_11 : Bool) (h0_12 : Bool) (x3 : (List UInt8) × (List UInt8)) (o4 : (List UInt8) × (List UInt8) × Bool) : St := ⟨[(3, .ptr 0 1), (4, .p (sV o4.1))], ⟨[[.p (sV x3.2), .p (sV h0_1), .p (sV o4.2.1), .p (sV h0_3), .p (sV h0_4), .p (sV h0_5), .p (sV h0_6), .p (sV h0_7), .p (bV true), .p (bV o4.2.2), .p (bV h0_10), .p (bV h0_11), .p (bV h0_12)]], []⟩⟩
noncomputable def uri_reader_authority_L1_st (h0_1 : (List UInt8)) (h0_5 : (List UInt8)) (h0_6 : (List UInt8)) (h0_7 : (List UInt8)) (h0_11 : Bool) (h0_12 : Bool) (x3 : (List UInt8) × (List UInt8)) (o4 : (List UInt8) × (List UInt8) × Bool) (x6 : (List UInt8) × (List UInt8) × Bool) (v66 : Int) : St := ⟨[(3, .ptr 0 1), (65, .p (iV (x6.2.1.length : Int))), (66, .p (iV v66))], ⟨[[.p (sV x3.2), .p (sV h0_1), .p (sV o4.2.1), .p (sV x6.1), .p (sV x6.2.1), .p (sV h0_5), .p (sV h0_6), .p (sV h0_7), .p (bV true), .p (bV o4.2.2), .p (bV x6.2.2), .p (bV h0_11), .p (bV h0_12)]], []⟩⟩
noncomputable def uri_reader_authority_L1_x0 (h0_1 : (List UInt8)) (h0_5 : (List UInt8)) (h0_6 : (List UInt8)) (h0_7 : (List UInt8)) (h0_11 : Bool) (h0_12 : Bool) (x3 : (List UInt8) × (List UInt8)) (o4 : (List UInt8) × (List UInt8) × Bool) (x6 : (List UInt8) × (List UInt8) × Bool) (y8 : Unit) : St := ⟨[(3, .ptr 0 1)], ⟨[[.p (sV x3.2), .p (sV h0_1), .p (sV o4.2.1), .p (sV x6.1), .p (sV x6.2.1), .p (sV h0_5), .p (sV h0_6), .p (sV h0_7), .p (bV true), .p (bV o4.2.2), .p (bV x6.2.2), .p (bV h0_11), .p (bV h0_12)]], []⟩⟩
noncomputable def uri_reader_authority_L1_x1 (h0_1 : (List UInt8)) (h0_5 : (List UInt8)) (h0_6 : (List UInt8)) (h0_7 : (List UInt8)) (h0_11 : Bool) (h0_12 : Bool) (x3 : (List UInt8) × (List UInt8)) (o4 : (List UInt8) × (List UInt8) × Bool) (x6 : (List UInt8) × (List UInt8) × Bool) (y9 : Unit) : St := ⟨[(2, .p (bV false))], ⟨[[.p (sV x3.2), .p (sV h0_1), .p (sV o4.2.1), .p (sV x6.1), .p (sV x6.2.1), .p (sV h0_5), .p (sV h0_6), .p (sV h0_7), .p (bV true), .p (bV o4.2.2), .p (bV x6.2.2), .p (bV h0_11), .p (bV h0_12)]], []⟩⟩
noncomputable def uri_reader_authority_L1_c : Code := ((loopsOf (Try.f34.body.getD .skip)).getD 0 .skip)
noncomputable def uri_reader_authority_J1_0 (h0_1 : (List UInt8)) (h0_5 : (List UInt8)) (h0_6 : (List UInt8)) (h0_7 : (List UInt8)) (h0_11 : Bool) (h0_12 : Bool) (x3 : (List UInt8) × (List UInt8)) (o4 : (List UInt8) × (List UInt8) × Bool) (x6 : (List UInt8) × (List UInt8) × Bool) (o12 : Bool) : St := ⟨[(2, .p (bV o12))], ⟨[[.p (sV x3.2), .p (sV h0_1), .p (sV o4.2.1), .p (sV x6.1), .p (sV x6.2.1), .p (sV h0_5), .p (sV h0_6), .p (sV h0_7), .p (bV true), .p (bV o4.2.2), .p (bV x6.2.2), .p (bV h0_11), .p (bV h0_12)]], []⟩⟩
noncomputable def t_uri_reader_frag (y : Bool × (List UInt8) × Bool) : D := .p (bV y.1)
noncomputable def uri_reader_frag_lv : List (Nat × List Nat) := [(0, [0]), (1, [0]), (2, [2])]
noncomputable def t_uri_reader_path (y : Bool × (List UInt8) × (List UInt8)) : D := .p (bV y.1)
noncomputable def uri_reader_path_lv : List (Nat × List Nat) := [(0, [0]), (1, [0]), (2, [2])]
noncomputable def t_uri_reader_query (y : Bool × (List UInt8) × (List UInt8) × Bool) : D := .p (bV y.1)
noncomputable def uri_reader_query_lv : List (Nat × List Nat) := [(0, [0]), (1, [0, 7]), (2, [0]), (3, [0]), (4, [2]), (2001007, [])]
noncomputable def uri_reader_query_J0_0 (h0_1 : (List UInt8)) (h0_2 : (List UInt8)) (h0_3 : (List UInt8)) (h0_4 : (List UInt8)) (h0_5 : (List UInt8)) (h0_7 : (List UInt8)) (h0_8 : Bool) (h0_9 : Bool) (h0_10 : Bool) (h0_12 : Bool) (o1 : (List UInt8) × (List UInt8) × Bool) : St := ⟨[(0, .ptr 0 0)], ⟨[[.p (sV o1.1), .p (sV h0_1), .p (sV h0_2), .p (sV h0_3), .p (sV h0_4), .p (sV h0_5), .p (sV o1.2.1), .p (sV h0_7), .p (bV h0_8), .p (bV h0_9), .p (bV h0_10), .p (bV o1.2.2), .p (bV h0_12)]], []⟩⟩
noncomputable def t_uri_reader_scheme (y : Bool × (List UInt8) × (List UInt8)) : D := .p (bV y.1)
noncomputable def uri_reader_scheme_lv : List (Nat × List Nat) := [(0, [0]), (1, [0, 3]), (2, [0, 3, 22]), (3, [2]), (4, [0, 3, 4]), (5, [0, 3, 4, 29, 30]), (6, [0, 3, 4, 29, 30, 31]), (7, [0, 3, 4, 5, 29, 30]), (8, [0, 3, 4, 5, 6, 29, 30]), (9, [0, 3, 4, 29, 30, 52]), (10, [2]), (11, [0, 3, 4, 29, 30]), (12, [4]), (13, [2]), (1000006, [0, 3, 4, 29, 30]), (3000002, []), (3000009, [])]
noncomputable def uri_reader_scheme_J0_0 (h0_0 : (List UInt8)) (h0_1 : (List UInt8)) (h0_2 : (List UInt8)) (h0_3 : (List UInt8)) (h0_4 : (List UInt8)) (h0_5 : (List UInt8)) (h0_6 : (List UInt8)) (h0_7 : (List UInt8)) (h0_8 : Bool) (h0_9 : Bool) (h0_10 : Bool) (h0_11 : Bool) (h0_12 : Bool) (x1 : Int) (o2 : Bool) : St := ⟨[(0, .ptr 0 0), (3, .p (iV x1)), (22, .p (bV o2))], ⟨[[.p (sV h0_0), .p (sV h0_1), .p (sV h0_2), .p (sV h0_3), .p (sV h0_4), .p (sV h0_5), .p (sV h0_6), .p (sV h0_7), .p (bV h0_8), .p (bV h0_9), .p (bV h0_10), .p (bV h0_11), .p (bV h0_12)]], []⟩⟩
noncomputable def uri_reader_scheme_J1_0 (h0_0 : (List UInt8)) (h0_1 : (List UInt8)) (h0_2 : (List UInt8)) (h0_3 : (List UInt8)) (h0_4 : (List UInt8)) (h0_5 : (List UInt8)) (h0_6 : (List UInt8)) (h0_7 : (List UInt8)) (h0_8 : Bool) (h0_9 : Bool) (h0_10 : Bool) (h0_11 : Bool) (h0_12 : Bool) (x1 : Int) (x4 : (List UInt8)) (v30 : Int) (o9 : Bool) : St := ⟨[(0, .ptr 0 0), (3, .p (iV x1)), (4, .p (sV x4)), (29, .p (iV x1)), (30, .p (iV v30)), (52, .p (bV o9))], ⟨[[.p (sV h0_0), .p (sV h0_1), .p (sV h0_2), .p (sV h0_3), .p (sV h0_4), .p (sV h0_5), .p (sV h0_6), .p (sV h0_7), .p (bV h0_8), .p (bV h0_9), .p (bV h0_10), .p (bV h0_11), .p (bV h0_12)]], []⟩⟩
noncomputable def uri_reader_scheme_L1_st (h0_0 : (List UInt8)) (h0_1 : (List UInt8)) (h0_2 : (List UInt8)) (h0_3 : (List UInt8)) (h0_4 : (List UInt8)) (h0_5 : (List UInt8)) (h0_6 : (List UInt8)) (h0_7 : (List UInt8)) (h0_8 : Bool) (h0_9 : Bool) (h0_10 : Bool) (h0_11 : Bool) (h0_12 : Bool) (x1 : Int) (x4 : (List UInt8)) (v30 : Int) : St := ⟨[(0, .ptr 0 0), (3, .p (iV x1)), (4, .p (sV x4)), (29, .p (iV x1)), (30, .p (iV v30))], ⟨[[.p (sV h0_0), .p (sV h0_1), .p (sV h0_2), .p (sV h0_3), .p (sV h0_4), .p (sV h0_5), .p (sV h0_6), .p (sV h0_7), .p (bV h0_8), .p (bV h0_9), .p (bV h0_10), .p (bV h0_11), .p (bV h0_12)]], []⟩⟩
noncomputable def uri_reader_scheme_L1_x0 (h0_0 : (List UInt8)) (h0_1 : (List UInt8)) (h0_2 : (List UInt8)) (h0_3 : (List UInt8)) (h0_4 : (List UInt8)) (h0_5 : (List UInt8)) (h0_6 : (List UInt8)) (h0_7 : (List UInt8)) (h0_8 : Bool) (h0_9 : Bool) (h0_10 : Bool) (h0_11 : Bool) (h0_12 : Bool) (x1 : Int) (x4 : (List UInt8)) (y6 : Unit) : St := ⟨[(0, .ptr 0 0), (3, .p (iV x1)), (4, .p (sV x4))], ⟨[[.p (sV h0_0), .p (sV h0_1), .p (sV h0_2), .p (sV h0_3), .p (sV h0_4), .p (sV h0_5), .p (sV h0_6), .p (sV h0_7), .p (bV h0_8), .p (bV h0_9), .p (bV h0_10), .p (bV h0_11), .p (bV h0_12)]], []⟩⟩
noncomputable def uri_reader_scheme_L1_x1 (h0_0 : (List UInt8)) (h0_1 : (List UInt8)) (h0_2 : (List UInt8)) (h0_3 : (List UInt8)) (h0_4 : (List UInt8)) (h0_5 : (List UInt8)) (h0_6 : (List UInt8)) (h0_7 : (List UInt8)) (h0_8 : Bool) (h0_9 : Bool) (h0_10 : Bool) (h0_11 : Bool) (h0_12 : Bool) (x1 : Int) (x4 : (List UInt8)) (y7 : Unit) : St := ⟨[(2, .p (bV false))], ⟨[[.p (sV h0_0), .p (sV h0_1), .p (sV h0_2), .p (sV h0_3), .p (sV h0_4), .p (sV h0_5), .p (sV h0_6), .p (sV h0_7), .p (bV h0_8), .p (bV h0_9), .p (bV h0_10), .p (bV h0_11), .p (bV h0_12)]], []⟩⟩
noncomputable def uri_reader_scheme_L1_c : Code := ((loopsOf (Try.f33.body.getD .skip)).getD 0 .skip)
noncomputable def t_uri_reader_upto (y : (List UInt8) × (List UInt8)) : D := .p (sV y.1)
noncomputable def uri_reader_upto_lv : List (Nat × List Nat) := [(0, [0, 1]), (1, [0, 5]), (2, [0, 5, 14]), (3, [0, 5]), (4, [0, 5, 6]), (5, [6]), (6, [4]), (2002005, [])]
noncomputable def uri_reader_upto_J0_0 (h0_0 : (List UInt8)) (h0_1 : (List UInt8)) (h0_2 : (List UInt8)) (h0_3 : (List UInt8)) (h0_4 : (List UInt8)) (h0_5 : (List UInt8)) (h0_6 : (List UInt8)) (h0_7 : (List UInt8)) (h0_8 : Bool) (h0_9 : Bool) (h0_10 : Bool) (h0_11 : Bool) (h0_12 : Bool) (o2 : Int) : St := ⟨[(0, .ptr 0 0), (5, .p (iV o2))], ⟨[[.p (sV h0_0), .p (sV h0_1), .p (sV h0_2), .p (sV h0_3), .p (sV h0_4), .p (sV h0_5), .p (sV h0_6), .p (sV h0_7), .p (bV h0_8), .p (bV h0_9), .p (bV h0_10), .p (bV h0_11), .p (bV h0_12)]], []⟩⟩
noncomputable def t_uri_with (y : (List UInt8)) : D := .fn (.func 98) [] [.p (.ep [sV y])]
noncomputable def uri_with_lv : List (Nat × List Nat) := [(0, [1]), (1, [2])]
noncomputable def t_uri_with_1 (y : Bool) : D := .p (bV y)
noncomputable def uri_with_1_lv : List (Nat × List Nat) := [(0, [0, 1]), (1, [3]), (3000001, [])]
noncomputable def uri_with_1_J0_0  (o1 : Bool) : St := ⟨[(3, .p (bV o1))], ⟨[], []⟩⟩
noncomputable def t_uri_worth (y : Int × Bool) : D := .tup [.p (nV .u8 y.1), .p (bV y.2)]
noncomputable def uri_worth_lv : List (Nat × List Nat) := [(0, [0]), (1, [0, 4]), (2, [2, 3]), (3, [0, 9]), (4, [2, 3]), (5, [2, 3]), (3000003, [])]
noncomputable def uri_worth_J0_0 (p0 : Int) (o2 : Bool) : St := ⟨[(0, .p (nV .u8 p0)), (9, .p (bV o2))], ⟨[], []⟩⟩
noncomputable def R12_Text (p0 : R12_Uri) : Option ((List UInt8)) :=
  ( if (!(p0.Scheme == [])) then
      need (p0.Scheme.length + [58].length ≤ 9223372036854775807) >>= fun _ =>
      some (p0.Scheme ++ [58])
    else
      some [] : Option ((List UInt8))) >>= fun o1 =>
  ( if p0.Auth then
      need (o1.length + [47, 47].length ≤ 9223372036854775807) >>= fun _ =>
      ( if p0.HasUser then
          need ((o1 ++ [47, 47]).length + p0.User.length ≤ 9223372036854775807) >>= fun _ =>
          need (((o1 ++ [47, 47]) ++ p0.User).length + [64].length ≤ 9223372036854775807) >>= fun _ =>
          some (((o1 ++ [47, 47]) ++ p0.User) ++ [64])
        else
          some (o1 ++ [47, 47]) : Option ((List UInt8))) >>= fun o3 =>
      need (o3.length + p0.Host.length ≤ 9223372036854775807) >>= fun _ =>
      if p0.HasPort then
        need ((o3 ++ p0.Host).length + [58].length ≤ 9223372036854775807) >>= fun _ =>
        need (((o3 ++ p0.Host) ++ [58]).length + p0.Port.length ≤ 9223372036854775807) >>= fun _ =>
        some (((o3 ++ p0.Host) ++ [58]) ++ p0.Port)
      else
        some (o3 ++ p0.Host)
    else
      some o1 : Option ((List UInt8))) >>= fun o2 =>
  need (o2.length + p0.Path.length ≤ 9223372036854775807) >>= fun _ =>
  ( if p0.HasQuery then
      need ((o2 ++ p0.Path).length + [63].length ≤ 9223372036854775807) >>= fun _ =>
      need (((o2 ++ p0.Path) ++ [63]).length + p0.Query.length ≤ 9223372036854775807) >>= fun _ =>
      some (((o2 ++ p0.Path) ++ [63]) ++ p0.Query)
    else
      some (o2 ++ p0.Path) : Option ((List UInt8))) >>= fun o4 =>
  if p0.HasFrag then
    need (o4.length + [35].length ≤ 9223372036854775807) >>= fun _ =>
    need ((o4 ++ [35]).length + p0.Frag.length ≤ 9223372036854775807) >>= fun _ =>
    some ((o4 ++ [35]) ++ p0.Frag)
  else
    some o4
set_option maxRecDepth 100000 in
set_option maxHeartbeats 4000000 in
theorem R12_Text_ok : ∀ (p0 : R12_Uri) (o : (List UInt8)), R12_Text p0 = some o → PCall Try.prog 17 [.agg [sV p0.Scheme, sV p0.User, sV p0.Host, sV p0.Port, sV p0.Path, sV p0.Query, sV p0.Frag, bV p0.Auth, bV p0.HasUser, bV p0.HasPort, bV p0.HasQuery, bV p0.HasFrag]] (t_R12_Text o) := by
  intro p0 o h
  unfold R12_Text at h
  refine PCall.ofB mixed tbOk R12_Text_lv Try.func17 rfl (by kernel_rfl) (Nat.le_of_ble_eq_true rfl) ?_
  refine st_bind h (fun o1 ho hk => ?_)
  refine Exists.intro (JP1 _ _ o1 .normal (R12_Text_J0_0 p0)) (And.intro ?_ (join1 ?_))
  · have h := ho
    refine st_test h (fun hb h => ?_) (fun hb h => ?_)
    · refine st_need h (fun h => ?_)
      exact JP1.a h (Le.tow 1 0 rfl (.cons rfl (.refl _) (.cons rfl (.refl _) (.nil))) (.refl _) rfl)
    · exact JP1.a h (Le.tow 1 0 rfl (.cons rfl (.refl _) (.cons rfl (.refl _) (.nil))) (.refl _) rfl)
  · have h := hk
    refine st_bind h (fun o2 ho hk => ?_)
    refine Exists.intro (JP1 _ _ o2 .normal (R12_Text_J1_0 p0)) (And.intro ?_ (join1 ?_))
    · have h := ho
      refine st_test h (fun hb h => ?_) (fun hb h => ?_)
      · refine st_need h (fun h => ?_)
        refine st_bind h (fun o3 ho hk => ?_)
        refine Exists.intro (JP1 _ _ o3 .normal (R12_Text_J2_0 p0)) (And.intro ?_ (join1 ?_))
        · have h := ho
          refine st_test h (fun hb h => ?_) (fun hb h => ?_)
          · refine st_need h (fun h => ?_)
            refine st_need h (fun h => ?_)
            exact JP1.a h (Le.tow 1 0 rfl (.cons rfl (.refl _) (.cons rfl (.refl _) (.nil))) (.refl _) rfl)
          · exact JP1.a h (Le.tow 1 0 rfl (.cons rfl (.refl _) (.cons rfl (.refl _) (.nil))) (.refl _) rfl)
        · have h := hk
          refine st_need h (fun h => ?_)
          refine st_test h (fun hb h => ?_) (fun hb h => ?_)
          · refine st_need h (fun h => ?_)
            refine st_need h (fun h => ?_)
            exact JP1.a h (Le.tow 1 0 rfl (.cons rfl (.refl _) (.cons rfl (.refl _) (.nil))) (.refl _) rfl)
          · exact JP1.a h (Le.tow 1 0 rfl (.cons rfl (.refl _) (.cons rfl (.refl _) (.nil))) (.refl _) rfl)
      · exact JP1.a h (Le.tow 1 0 rfl (.cons rfl (.refl _) (.cons rfl (.refl _) (.nil))) (.refl _) rfl)
    · have h := hk
      refine st_need h (fun h => ?_)
      refine st_bind h (fun o4 ho hk => ?_)
      refine Exists.intro (JP1 _ _ o4 .normal (R12_Text_J3_0 p0)) (And.intro ?_ (join1 ?_))
      · have h := ho
        refine st_test h (fun hb h => ?_) (fun hb h => ?_)
        · refine st_need h (fun h => ?_)
          refine st_need h (fun h => ?_)
          exact JP1.a h (Le.tow 1 0 rfl (.cons rfl (.refl _) (.cons rfl (.refl _) (.nil))) (.refl _) rfl)
        · exact JP1.a h (Le.tow 1 0 rfl (.cons rfl (.refl _) (.cons rfl (.refl _) (.nil))) (.refl _) rfl)
      · have h := hk
        refine st_test h (fun hb h => ?_) (fun hb h => ?_)
        · refine st_need h (fun h => ?_)
          refine st_need h (fun h => ?_)
          refine st_ret (t := t_R12_Text) h ?_
          exact .refl _
        · refine st_ret (t := t_R12_Text) h ?_
          exact .refl _
noncomputable def internal_stringslite_Index (p0 : (List UInt8)) (p1 : (List UInt8)) : Option (Int) :=
  need (p0.length < 4294967281) >>= fun _ =>
  some (Lib.index p0 p1)
set_option maxRecDepth 100000 in
set_option maxHeartbeats 4000000 in
theorem internal_stringslite_Index_ok : ∀ (p0 : (List UInt8)) (p1 : (List UInt8)) (o : Int), internal_stringslite_Index p0 p1 = some o → PCall Try.prog 119 [sV p0, sV p1] (t_internal_stringslite_Index o) := by
  intro p0 p1 o h
  unfold internal_stringslite_Index at h
  obtain ⟨h1, h⟩ := need_some h
  cases h
  exact index_ok _ _ h1
noncomputable def internal_stringslite_Cut (p0 : (List UInt8)) (p1 : (List UInt8)) : Option ((List UInt8) × (List UInt8) × Bool) :=
  internal_stringslite_Index p0 p1 >>= fun x1 =>
  if (decide (x1 ≥ 0)) then
    cutL p0 0 x1 >>= fun x2 =>
    cutL p0 (wr (x1 + (p1.length : Int))) (p0.length : Int) >>= fun x3 =>
    some (x2, x3, true)
  else
    some (p0, [], false)
set_option maxRecDepth 100000 in
set_option maxHeartbeats 4000000 in
theorem internal_stringslite_Cut_ok : ∀ (p0 : (List UInt8)) (p1 : (List UInt8)) (o : (List UInt8) × (List UInt8) × Bool), internal_stringslite_Cut p0 p1 = some o → PCall Try.prog 96 [sV p0, sV p1] (t_internal_stringslite_Cut o) := by
  intro p0 p1 o h
  unfold internal_stringslite_Cut at h
  refine PCall.ofB mixed tbOk internal_stringslite_Cut_lv Try.func96 rfl (by kernel_rfl) (Nat.le_of_ble_eq_true rfl) ?_
  refine st_call [sV p0, sV p1] t_internal_stringslite_Index h (fun x1 hy => (internal_stringslite_Index_ok p0 p1 x1 hy)) (fun x1 hy h => ?_)
  refine st_test h (fun hb h => ?_) (fun hb h => ?_)
  · refine And.intro (by decide +kernel) (And.intro rfl ?_)
    refine st_cuts none (some x1) h (fun x2 hi h => ?_)
    refine vrfl ?_
    refine st_cuts (some (wr (x1 + (p1.length : Int)))) none h (fun x3 hi h => ?_)
    refine st_ret (t := t_internal_stringslite_Cut) h ?_
    exact .refl _
  · refine st_ret (t := t_internal_stringslite_Cut) h ?_
    exact .refl _
noncomputable def internal_stringslite_HasPrefix (p0 : (List UInt8)) (p1 : (List UInt8)) : Option (Bool) :=
  ( if (decide ((p0.length : Int) ≥ (p1.length : Int))) then
      cutL p0 0 (p1.length : Int) >>= fun x2 =>
      some (x2 == p1)
    else
      some false : Option (Bool)) >>= fun o1 =>
  some o1
set_option maxRecDepth 100000 in
set_option maxHeartbeats 4000000 in
theorem internal_stringslite_HasPrefix_ok : ∀ (p0 : (List UInt8)) (p1 : (List UInt8)) (o : Bool), internal_stringslite_HasPrefix p0 p1 = some o → PCall Try.prog 95 [sV p0, sV p1] (t_internal_stringslite_HasPrefix o) := by
  intro p0 p1 o h
  unfold internal_stringslite_HasPrefix at h
  refine PCall.ofB mixed tbOk internal_stringslite_HasPrefix_lv Try.func95 rfl (by kernel_rfl) (Nat.le_of_ble_eq_true rfl) ?_
  refine st_bind h (fun o1 ho hk => ?_)
  refine Exists.intro (JP1 _ _ o1 .normal (internal_stringslite_HasPrefix_J0_0 )) (And.intro ?_ (join1 ?_))
  · have h := ho
    refine vrfl ?_
    refine vrfl ?_
    refine st_test h (fun hb h => ?_) (fun hb h => ?_)
    · refine vrfl ?_
      refine st_cuts none (some (p1.length : Int)) h (fun x2 hi h => ?_)
      exact JP1.a h (Le.tow 0 0 rfl (.cons rfl (.refl _) (.nil)) (.refl _) rfl)
    · exact JP1.a h (Le.tow 0 0 rfl (.cons rfl (.refl _) (.nil)) (.refl _) rfl)
  · have h := hk
    refine st_ret (t := t_internal_stringslite_HasPrefix) h ?_
    exact .refl _
noncomputable def internal_stringslite_CutPrefix (p0 : (List UInt8)) (p1 : (List UInt8)) : Option ((List UInt8) × Bool) :=
  internal_stringslite_HasPrefix p0 p1 >>= fun x1 =>
  if (!x1) then
    some (p0, false)
  else
    cutL p0 (p1.length : Int) (p0.length : Int) >>= fun x2 =>
    some (x2, true)
set_option maxRecDepth 100000 in
set_option maxHeartbeats 4000000 in
theorem internal_stringslite_CutPrefix_ok : ∀ (p0 : (List UInt8)) (p1 : (List UInt8)) (o : (List UInt8) × Bool), internal_stringslite_CutPrefix p0 p1 = some o → PCall Try.prog 99 [sV p0, sV p1] (t_internal_stringslite_CutPrefix o) := by
  intro p0 p1 o h
  unfold internal_stringslite_CutPrefix at h
  refine PCall.ofB mixed tbOk internal_stringslite_CutPrefix_lv Try.func99 rfl (by kernel_rfl) (Nat.le_of_ble_eq_true rfl) ?_
  refine st_call [sV p0, sV p1] t_internal_stringslite_HasPrefix h (fun x1 hy => (internal_stringslite_HasPrefix_ok p0 p1 x1 hy)) (fun x1 hy h => ?_)
  refine st_test h (fun hb h => ?_) (fun hb h => ?_)
  · refine st_ret (t := t_internal_stringslite_CutPrefix) h ?_
    exact .refl _
  · refine vrfl ?_
    refine st_cuts (some (p1.length : Int)) none h (fun x2 hi h => ?_)
    refine st_ret (t := t_internal_stringslite_CutPrefix) h ?_
    exact .refl _
noncomputable def internal_stringslite_IndexByte (p0 : (List UInt8)) (p1 : Int) : Option (Int) :=
  some (Lib.indexByte p0 p1.toNat.toUInt8)
set_option maxRecDepth 100000 in
set_option maxHeartbeats 4000000 in
theorem internal_stringslite_IndexByte_ok : ∀ (p0 : (List UInt8)) (p1 : Int) (o : Int), internal_stringslite_IndexByte p0 p1 = some o → PCall Try.prog 94 [sV p0, nV .u8 p1] (t_internal_stringslite_IndexByte o) := by
  intro p0 p1 o h
  unfold internal_stringslite_IndexByte at h
  cases h
  exact indexByte_ok _ _
noncomputable def uri_Split_L1_r5 (p0 : (List UInt8)) (h1_0 : (List UInt8)) (h1_1 : (List UInt8)) (h1_2 : (List UInt8)) (h1_3 : (List UInt8)) (h1_4 : (List UInt8)) (h1_5 : (List UInt8)) (h1_6 : (List UInt8)) (h1_7 : (List UInt8)) (h1_8 : Bool) (h1_9 : Bool) (h1_10 : Bool) (h1_11 : Bool) (h1_12 : Bool) : Option (((List UInt8) × (List UInt8) × (List UInt8) × (List UInt8) × (List UInt8) × (List UInt8) × (List UInt8) × (List UInt8) × Bool × Bool × Bool × Bool × Bool) ⊕ ((List UInt8) × (List UInt8) × (List UInt8) × (List UInt8) × (List UInt8) × (List UInt8) × (List UInt8) × (List UInt8) × Bool × Bool × Bool × Bool × Bool)) :=
  some (.inl (h1_0, h1_1, h1_2, h1_3, h1_4, h1_5, h1_6, h1_7, h1_8, h1_9, h1_10, h1_11, h1_12))
set_option maxRecDepth 100000 in
set_option maxHeartbeats 4000000 in
theorem uri_Split_L1_r5_ok : ∀ (p0 : (List UInt8)) (h1_0 : (List UInt8)) (h1_1 : (List UInt8)) (h1_2 : (List UInt8)) (h1_3 : (List UInt8)) (h1_4 : (List UInt8)) (h1_5 : (List UInt8)) (h1_6 : (List UInt8)) (h1_7 : (List UInt8)) (h1_8 : Bool) (h1_9 : Bool) (h1_10 : Bool) (h1_11 : Bool) (h1_12 : Bool) (o1 : ((List UInt8) × (List UInt8) × (List UInt8) × (List UInt8) × (List UInt8) × (List UInt8) × (List UInt8) × (List UInt8) × Bool × Bool × Bool × Bool × Bool) ⊕ ((List UInt8) × (List UInt8) × (List UInt8) × (List UInt8) × (List UInt8) × (List UInt8) × (List UInt8) × (List UInt8) × Bool × Bool × Bool × Bool × Bool)), uri_Split_L1_r5 p0 h1_0 h1_1 h1_2 h1_3 h1_4 h1_5 h1_6 h1_7 h1_8 h1_9 h1_10 h1_11 h1_12 = some o1 → TL (0, 0) Try.prog 35 uri_Split_L1_c (JP2 (0, 0) 35 o1 (.exit 0) (uri_Split_L1_x0 p0) .ret (uri_Split_L1_x1 p0)) (uri_Split_L1_r5_st p0 h1_0 h1_1 h1_2 h1_3 h1_4 h1_5 h1_6 h1_7 h1_8 h1_9 h1_10 h1_11 h1_12) := by
  intro p0 h1_0 h1_1 h1_2 h1_3 h1_4 h1_5 h1_6 h1_7 h1_8 h1_9 h1_10 h1_11 h1_12 o1 h
  unfold uri_Split_L1_r5 at h
  refine TL.round (bwp_sound mixed tbOk (lv := uri_Split_lv) _ _ _ ?_)
  refine bF ?_
  exact JP2.a h (Le.tow 2 0 rfl (.cons rfl (.refl _) (.cons rfl (.refl _) (.nil))) (.refl _) rfl)
noncomputable def strings_CutPrefix (p0 : (List UInt8)) (p1 : (List UInt8)) : Option ((List UInt8) × Bool) :=
  internal_stringslite_CutPrefix p0 p1 >>= fun x1 =>
  some (x1.1, x1.2)
set_option maxRecDepth 100000 in
set_option maxHeartbeats 4000000 in
theorem strings_CutPrefix_ok : ∀ (p0 : (List UInt8)) (p1 : (List UInt8)) (o : (List UInt8) × Bool), strings_CutPrefix p0 p1 = some o → PCall Try.prog 70 [sV p0, sV p1] (t_strings_CutPrefix o) := by
  intro p0 p1 o h
  unfold strings_CutPrefix at h
  refine PCall.ofB mixed tbOk strings_CutPrefix_lv Try.func70 rfl (by kernel_rfl) (Nat.le_of_ble_eq_true rfl) ?_
  refine st_call [sV p0, sV p1] t_internal_stringslite_CutPrefix h (fun x1 hy => (internal_stringslite_CutPrefix_ok p0 p1 x1 hy)) (fun x1 hy h => ?_)
  refine st_ret (t := t_strings_CutPrefix) h ?_
  exact .refl _
noncomputable def uri_digit (p0 : Int) : Option (Bool) :=
  ( if (decide (p0 ≥ 48)) then
      some (decide (p0 ≤ 57))
    else
      some false : Option (Bool)) >>= fun o1 =>
  some o1
set_option maxRecDepth 100000 in
set_option maxHeartbeats 4000000 in
theorem uri_digit_ok : ∀ (p0 : Int) (o : Bool), uri_digit p0 = some o → PCall Try.prog 63 [nV .u8 p0] (t_uri_digit o) := by
  intro p0 o h
  unfold uri_digit at h
  refine PCall.ofB mixed tbOk uri_digit_lv Try.func63 rfl (by kernel_rfl) (Nat.le_of_ble_eq_true rfl) ?_
  refine st_bind h (fun o1 ho hk => ?_)
  refine Exists.intro (JP1 _ _ o1 .normal (uri_digit_J0_0 )) (And.intro ?_ (join1 ?_))
  · have h := ho
    refine st_test h (fun hb h => ?_) (fun hb h => ?_)
    · exact JP1.a h (Le.tow 0 0 rfl (.cons rfl (.refl _) (.nil)) (.refl _) rfl)
    · exact JP1.a h (Le.tow 0 0 rfl (.cons rfl (.refl _) (.nil)) (.refl _) rfl)
  · have h := hk
    refine st_ret (t := t_uri_digit) h ?_
    exact .refl _
noncomputable def uri_worth (p0 : Int) : Option (Int × Bool) :=
  uri_digit p0 >>= fun x1 =>
  if x1 then
    some ((IntKind.u8.wrap (p0 - 48)), true)
  else
    ( if (decide ((bits .or .u8 p0 32) ≥ 97)) then
        some (decide ((bits .or .u8 p0 32) ≤ 102))
      else
        some false : Option (Bool)) >>= fun o2 =>
    if o2 then
      some ((IntKind.u8.wrap ((IntKind.u8.wrap ((bits .or .u8 p0 32) - 97)) + 10)), true)
    else
      some (0, false)
set_option maxRecDepth 100000 in
set_option maxHeartbeats 4000000 in
theorem uri_worth_ok : ∀ (p0 : Int) (o : Int × Bool), uri_worth p0 = some o → PCall Try.prog 120 [nV .u8 p0] (t_uri_worth o) := by
  intro p0 o h
  unfold uri_worth at h
  refine PCall.ofB mixed tbOk uri_worth_lv Try.func120 rfl (by kernel_rfl) (Nat.le_of_ble_eq_true rfl) ?_
  refine st_call [nV .u8 p0] t_uri_digit h (fun x1 hy => (uri_digit_ok p0 x1 hy)) (fun x1 hy h => ?_)
  refine st_test h (fun hb h => ?_) (fun hb h => ?_)
  · refine st_ret (t := t_uri_worth) h ?_
    exact .refl _
  · refine st_bind h (fun o2 ho hk => ?_)
    refine Exists.intro (JP1 _ _ o2 .normal (uri_worth_J0_0 p0)) (And.intro ?_ (join1 ?_))
    · have h := ho
      refine st_test h (fun hb h => ?_) (fun hb h => ?_)
      · exact JP1.a h (Le.tow 0 0 rfl (.cons rfl (.refl _) (.cons rfl (.refl _) (.nil))) (.refl _) rfl)
      · exact JP1.a h (Le.tow 0 0 rfl (.cons rfl (.refl _) (.cons rfl (.refl _) (.nil))) (.refl _) rfl)
    · have h := hk
      refine st_test h (fun hb h => ?_) (fun hb h => ?_)
      · refine st_ret (t := t_uri_worth) h ?_
        exact .refl _
      · refine st_ret (t := t_uri_worth) h ?_
        exact .refl _
noncomputable def uri_coded (p0 : (List UInt8)) (p1 : Int) : Option (Int × Bool) :=
  if (decide ((wr ((p0.length : Int) - p1)) < 3)) then
    some (0, false)
  else
    idx p0 (wr (p1 + 1)) >>= fun x1 =>
    uri_worth (x1.toNat : Int) >>= fun x2 =>
    idx p0 (wr (p1 + 2)) >>= fun x3 =>
    uri_worth (x3.toNat : Int) >>= fun x4 =>
    ( if x2.2 then
        some x4.2
      else
        some false : Option (Bool)) >>= fun o5 =>
    some ((bits .or .u8 (IntKind.u8.wrap (x2.1 * 2 ^ (min (4 : Int).toNat (IntKind.u8.bits)))) x4.1), o5)
set_option maxRecDepth 100000 in
set_option maxHeartbeats 4000000 in
theorem uri_coded_ok : ∀ (p0 : (List UInt8)) (p1 : Int) (o : Int × Bool), uri_coded p0 p1 = some o → PCall Try.prog 97 [sV p0, iV p1] (t_uri_coded o) := by
  intro p0 p1 o h
  unfold uri_coded at h
  refine PCall.ofB mixed tbOk uri_coded_lv Try.func97 rfl (by kernel_rfl) (Nat.le_of_ble_eq_true rfl) ?_
  refine vrfl ?_
  refine st_test h (fun hb h => ?_) (fun hb h => ?_)
  · refine st_ret (t := t_uri_coded) h ?_
    exact .refl _
  · refine st_sidx h (fun x1 hi h => ?_)
    refine st_call [nV .u8 (x1.toNat : Int)] t_uri_worth h (fun x2 hy => (uri_worth_ok (x1.toNat : Int) x2 hy)) (fun x2 hy h => ?_)
    refine st_sidx h (fun x3 hi h => ?_)
    refine st_call [nV .u8 (x3.toNat : Int)] t_uri_worth h (fun x4 hy => (uri_worth_ok (x3.toNat : Int) x4 hy)) (fun x4 hy h => ?_)
    refine st_bind h (fun o5 ho hk => ?_)
    refine Exists.intro (JP1 _ _ o5 .normal (uri_coded_J0_0 x2 x4)) (And.intro ?_ (join1 ?_))
    · have h := ho
      refine And.intro (by decide) ?_
      refine st_test h (fun hb h => ?_) (fun hb h => ?_)
      · exact JP1.a h (Le.tow 0 0 rfl (.cons rfl (.refl _) (.cons rfl (.refl _) (.nil))) (.refl _) rfl)
      · exact JP1.a h (Le.tow 0 0 rfl (.cons rfl (.refl _) (.cons rfl (.refl _) (.nil))) (.refl _) rfl)
    · have h := hk
      refine st_ret (t := t_uri_coded) h ?_
      exact .refl _
noncomputable def strings_IndexByte (p0 : (List UInt8)) (p1 : Int) : Option (Int) :=
  internal_stringslite_IndexByte p0 p1 >>= fun x1 =>
  some x1
set_option maxRecDepth 100000 in
set_option maxHeartbeats 4000000 in
theorem strings_IndexByte_ok : ∀ (p0 : (List UInt8)) (p1 : Int) (o : Int), strings_IndexByte p0 p1 = some o → PCall Try.prog 64 [sV p0, nV .u8 p1] (t_strings_IndexByte o) := by
  intro p0 p1 o h
  unfold strings_IndexByte at h
  refine PCall.ofB mixed tbOk strings_IndexByte_lv Try.func64 rfl (by kernel_rfl) (Nat.le_of_ble_eq_true rfl) ?_
  refine st_call [sV p0, nV .u8 p1] t_internal_stringslite_IndexByte h (fun x1 hy => (internal_stringslite_IndexByte_ok p0 p1 x1 hy)) (fun x1 hy h => ?_)
  refine st_ret (t := t_strings_IndexByte) h ?_
  exact .refl _
noncomputable def uri_letter (p0 : Int) : Option (Bool) :=
  ( if (decide ((bits .or .u8 p0 32) ≥ 97)) then
      some (decide ((bits .or .u8 p0 32) ≤ 122))
    else
      some false : Option (Bool)) >>= fun o1 =>
  some o1
set_option maxRecDepth 100000 in
set_option maxHeartbeats 4000000 in
theorem uri_letter_ok : ∀ (p0 : Int) (o : Bool), uri_letter p0 = some o → PCall Try.prog 62 [nV .u8 p0] (t_uri_letter o) := by
  intro p0 o h
  unfold uri_letter at h
  refine PCall.ofB mixed tbOk uri_letter_lv Try.func62 rfl (by kernel_rfl) (Nat.le_of_ble_eq_true rfl) ?_
  refine st_bind h (fun o1 ho hk => ?_)
  refine Exists.intro (JP1 _ _ o1 .normal (uri_letter_J0_0 )) (And.intro ?_ (join1 ?_))
  · have h := ho
    refine st_test h (fun hb h => ?_) (fun hb h => ?_)
    · exact JP1.a h (Le.tow 0 0 rfl (.cons rfl (.refl _) (.nil)) (.refl _) rfl)
    · exact JP1.a h (Le.tow 0 0 rfl (.cons rfl (.refl _) (.nil)) (.refl _) rfl)
  · have h := hk
    refine st_ret (t := t_uri_letter) h ?_
    exact .refl _
noncomputable def uri_with_1 (p0 : Int) (p1_0e : (List UInt8)) : Option (Bool) :=
  ( uri_letter p0 >>= fun x2 =>
    if x2 then
      some true
    else
      uri_digit p0 >>= fun x3 =>
      if x3 then
        some true
      else
        strings_IndexByte [45, 46, 95, 126, 33, 36, 38, 39, 40, 41, 42, 43, 44, 59, 61] p0 >>= fun x4 =>
        if (decide (x4 ≥ 0)) then
          some true
        else
          strings_IndexByte p1_0e p0 >>= fun x5 =>
          some (decide (x5 ≥ 0)) : Option (Bool)) >>= fun o1 =>
  some o1
set_option maxRecDepth 100000 in
set_option maxHeartbeats 4000000 in
theorem uri_with_1_ok : ∀ (p0 : Int) (p1_0e : (List UInt8)) (o : Bool), uri_with_1 p0 p1_0e = some o → CallOK Try.prog 98 [.p (nV .u8 p0), .p (.ep [sV p1_0e])] ⟨[], []⟩ (t_uri_with_1 o) ⟨[], []⟩ := by
  intro p0 p1_0e o h
  unfold uri_with_1 at h
  refine CallOK.ofB mixed tbOk uri_with_1_lv Try.func98 rfl (by kernel_rfl) (Nat.le_of_ble_eq_true rfl) rfl rfl rfl ?_
  refine st_bind h (fun o1 ho hk => ?_)
  refine Exists.intro (JP1 _ _ o1 .normal (uri_with_1_J0_0 )) (And.intro ?_ (join1 ?_))
  · have h := ho
    refine st_call [nV .u8 p0] t_uri_letter h (fun x2 hy => (uri_letter_ok p0 x2 hy)) (fun x2 hy h => ?_)
    refine st_test h (fun hb h => ?_) (fun hb h => ?_)
    · refine bT ?_
      refine bT ?_
      exact JP1.a h (Le.tow 0 0 rfl (.cons rfl (.refl _) (.nil)) (.refl _) rfl)
    · refine st_call [nV .u8 p0] t_uri_digit h (fun x3 hy => (uri_digit_ok p0 x3 hy)) (fun x3 hy h => ?_)
      refine st_test h (fun hb h => ?_) (fun hb h => ?_)
      · refine bT ?_
        exact JP1.a h (Le.tow 0 0 rfl (.cons rfl (.refl _) (.nil)) (.refl _) rfl)
      · refine st_call [sV [45, 46, 95, 126, 33, 36, 38, 39, 40, 41, 42, 43, 44, 59, 61], nV .u8 p0] t_strings_IndexByte h (fun x4 hy => (strings_IndexByte_ok [45, 46, 95, 126, 33, 36, 38, 39, 40, 41, 42, 43, 44, 59, 61] p0 x4 hy)) (fun x4 hy h => ?_)
        refine st_test h (fun hb h => ?_) (fun hb h => ?_)
        · exact JP1.a h (Le.tow 0 0 rfl (.cons rfl (.refl _) (.nil)) (.refl _) rfl)
        · refine st_call [sV p1_0e, nV .u8 p0] t_strings_IndexByte h (fun x5 hy => (strings_IndexByte_ok p1_0e p0 x5 hy)) (fun x5 hy h => ?_)
          exact JP1.a h (Le.tow 0 0 rfl (.cons rfl (.refl _) (.nil)) (.refl _) rfl)
  · have h := hk
    refine Exists.intro _ (And.intro (Le.refl _ _ _) ?_)
    exact st_retc (t := t_uri_with_1) (ss := fun o => ⟨[], []⟩) h ⟨[], rfl, .refl _, .refl _, rfl⟩
noncomputable def uri_fits_uri_with_1_L1 (p0 : (List UInt8)) (p1_0c_0e : (List UInt8)) (v5 : Int) : Option (Unit ⊕ Unit) :=
  if (decide (v5 < (p0.length : Int))) then
    idx p0 v5 >>= fun x4 =>
    if ((x4.toNat : Int) == 37) then
      uri_coded p0 v5 >>= fun x5 =>
      if (!x5.2) then
        some (.inr ())
      else
        uri_fits_uri_with_1_L1 p0 p1_0c_0e (wr ((wr (v5 + 2)) + 1))
    else
      idx p0 v5 >>= fun x6 =>
      uri_with_1 (x6.toNat : Int) p1_0c_0e >>= fun x7 =>
      if (!x7) then
        some (.inr ())
      else
        uri_fits_uri_with_1_L1 p0 p1_0c_0e (wr (v5 + 1))
  else
    some (.inl ())
  partial_fixpoint
set_option maxRecDepth 100000 in
set_option maxHeartbeats 4000000 in
theorem uri_fits_uri_with_1_L1_grp : ∀ (p0 : (List UInt8)) (p1_0c_0e : (List UInt8)), (∀ (v5 : Int) (o1 : Unit ⊕ Unit), uri_fits_uri_with_1_L1 p0 p1_0c_0e v5 = some o1 → TL (0, 0) Try.prog 34 uri_fits_uri_with_1_L1_c (JP2 (0, 0) 34 o1 (.exit 0) (uri_fits_uri_with_1_L1_x0 p0 p1_0c_0e) .ret (uri_fits_uri_with_1_L1_x1 p0 p1_0c_0e)) (uri_fits_uri_with_1_L1_st p0 p1_0c_0e v5)) := by
  intro p0 p1_0c_0e
  refine uri_fits_uri_with_1_L1.partial_correctness p0 p1_0c_0e _ ?_
  intro uri_fits_uri_with_1_L1' ih_uri_fits_uri_with_1_L1 v5 o1 h
  refine TL.round (bwp_sound mixed tbOk (lv := uri_fits_uri_with_1_lv) _ _ _ ?_)
  refine vrfl ?_
  refine st_test h (fun hb h => ?_) (fun hb h => ?_)
  · refine st_sidx h (fun x4 hi h => ?_)
    refine st_test h (fun hb h => ?_) (fun hb h => ?_)
    · refine st_call [sV p0, iV v5] t_uri_coded h (fun x5 hy => (uri_coded_ok p0 v5 x5 hy)) (fun x5 hy h => ?_)
      refine st_test h (fun hb h => ?_) (fun hb h => ?_)
      · exact JP2.b h (Le.tow 0 0 rfl (.cons rfl (.refl _) (.nil)) (.refl _) rfl)
      · refine TL.le (τ := uri_fits_uri_with_1_L1_st p0 p1_0c_0e (wr ((wr (v5 + 2)) + 1))) ?_ ((ih_uri_fits_uri_with_1_L1 (wr ((wr (v5 + 2)) + 1)) _ h))
        exact Le.tow 0 0 rfl (.cons rfl (.refl _) (.cons rfl (.refl _) (.cons rfl (.refl _) (.nil)))) (.refl _) rfl
    · refine st_sidx h (fun x6 hi h => ?_)
      refine st_callc _ _ h (fun x7 hy => ((uri_with_1_ok (x6.toNat : Int) p1_0c_0e x7 hy).fr [] [] rfl rfl rfl)) (fun x7 hy h => ?_)
      refine st_test h (fun hb h => ?_) (fun hb h => ?_)
      · exact JP2.b h (Le.tow 0 0 rfl (.cons rfl (.refl _) (.nil)) (.refl _) rfl)
      · refine TL.le (τ := uri_fits_uri_with_1_L1_st p0 p1_0c_0e (wr (v5 + 1))) ?_ ((ih_uri_fits_uri_with_1_L1 (wr (v5 + 1)) _ h))
        exact Le.tow 0 0 rfl (.cons rfl (.refl _) (.cons rfl (.refl _) (.cons rfl (.refl _) (.nil)))) (.refl _) rfl
  · exact JP2.a h (Le.tow 0 0 rfl (.nil) (.refl _) rfl)
theorem uri_fits_uri_with_1_L1_ok : ∀ (p0 : (List UInt8)) (p1_0c_0e : (List UInt8)) (v5 : Int) (o1 : Unit ⊕ Unit), uri_fits_uri_with_1_L1 p0 p1_0c_0e v5 = some o1 → TL (0, 0) Try.prog 34 uri_fits_uri_with_1_L1_c (JP2 (0, 0) 34 o1 (.exit 0) (uri_fits_uri_with_1_L1_x0 p0 p1_0c_0e) .ret (uri_fits_uri_with_1_L1_x1 p0 p1_0c_0e)) (uri_fits_uri_with_1_L1_st p0 p1_0c_0e v5) := fun p0 p1_0c_0e v5 o1 h => (uri_fits_uri_with_1_L1_grp p0 p1_0c_0e) v5 o1 h
noncomputable def uri_fits_uri_with_1 (p0 : (List UInt8)) (p1_0c_0e : (List UInt8)) : Option (Bool) :=
  (uri_fits_uri_with_1_L1 p0 p1_0c_0e 0) >>= fun o1 =>
  match o1 with
  | .inl y2 =>
    some true
  | .inr y3 =>
    some false
set_option maxRecDepth 100000 in
set_option maxHeartbeats 4000000 in
theorem uri_fits_uri_with_1_ok : ∀ (p0 : (List UInt8)) (p1_0c_0e : (List UInt8)) (o : Bool), uri_fits_uri_with_1 p0 p1_0c_0e = some o → CallOK Try.prog 68 [.p (sV p0), .fn (.func 98) [] [.p (.ep [sV p1_0c_0e])]] ⟨[], []⟩ (t_uri_fits_uri_with_1 o) ⟨[], []⟩ := by
  intro p0 p1_0c_0e o h
  unfold uri_fits_uri_with_1 at h
  refine CallOK.ofB mixed tbOk uri_fits_uri_with_1_lv Try.func68 rfl (by kernel_rfl) (Nat.le_of_ble_eq_true rfl) rfl rfl rfl ?_
  refine st_bind h (fun o1 ho hk => ?_)
  refine Exists.intro (JP2 _ _ o1 (.exit 0) (uri_fits_uri_with_1_L1_x0 p0 p1_0c_0e) .ret (uri_fits_uri_with_1_L1_x1 p0 p1_0c_0e)) (And.intro (T_le (τ := uri_fits_uri_with_1_L1_st p0 p1_0c_0e 0) ?_ (TL.loop (uri_fits_uri_with_1_L1_ok p0 p1_0c_0e 0 o1 ho))) (join2 (fun y2 hy => ?_) (fun y3 hy => ?_)))
  · exact Le.tow 0 0 rfl (.cons rfl (.refl _) (.cons rfl (.refl _) (.cons rfl (.refl _) (.nil)))) (.refl _) rfl
  · have h := (by rw [hy] at hk; exact hk)
    refine Exists.intro _ (And.intro (Le.refl _ _ _) ?_)
    exact st_retc (t := t_uri_fits_uri_with_1) (ss := fun o => ⟨[], []⟩) h ⟨[], rfl, .refl _, .refl _, rfl⟩
  · have h := (by rw [hy] at hk; exact hk)
    refine Exists.intro _ (And.intro (Le.refl _ _ _) ?_)
    exact st_retc (t := t_uri_fits_uri_with_1) (ss := fun o => ⟨[], []⟩) h ⟨[], rfl, .refl _, .refl _, rfl⟩
noncomputable def uri_with (p0 : (List UInt8)) : Option ((List UInt8)) :=
  some p0
set_option maxRecDepth 100000 in
set_option maxHeartbeats 4000000 in
theorem uri_with_ok : ∀ (p0 : (List UInt8)) (o : (List UInt8)), uri_with p0 = some o → PCall Try.prog 69 [sV p0] (t_uri_with o) := by
  intro p0 o h
  unfold uri_with at h
  refine PCall.ofM mixed tbOk uri_with_lv Try.func69 rfl (by kernel_rfl) (Nat.le_of_ble_eq_true rfl) ?_
  refine st_ret (t := t_uri_with) h ?_
  exact .refl _
noncomputable def uri_reader_frag (h0_0 : (List UInt8)) (h0_1 : (List UInt8)) (h0_2 : (List UInt8)) (h0_3 : (List UInt8)) (h0_4 : (List UInt8)) (h0_5 : (List UInt8)) (h0_6 : (List UInt8)) (h0_7 : (List UInt8)) (h0_8 : Bool) (h0_9 : Bool) (h0_10 : Bool) (h0_11 : Bool) (h0_12 : Bool) : Option (Bool × (List UInt8) × Bool) :=
  strings_CutPrefix h0_0 [35] >>= fun x1 =>
  uri_with [58, 64, 47, 63] >>= fun x2 =>
  uri_fits_uri_with_1 x1.1 x2 >>= fun x3 =>
  some (x3, x1.1, x1.2)
set_option maxRecDepth 100000 in
set_option maxHeartbeats 4000000 in
theorem uri_reader_frag_ok : ∀ (h0_0 : (List UInt8)) (h0_1 : (List UInt8)) (h0_2 : (List UInt8)) (h0_3 : (List UInt8)) (h0_4 : (List UInt8)) (h0_5 : (List UInt8)) (h0_6 : (List UInt8)) (h0_7 : (List UInt8)) (h0_8 : Bool) (h0_9 : Bool) (h0_10 : Bool) (h0_11 : Bool) (h0_12 : Bool) (o : Bool × (List UInt8) × Bool), uri_reader_frag h0_0 h0_1 h0_2 h0_3 h0_4 h0_5 h0_6 h0_7 h0_8 h0_9 h0_10 h0_11 h0_12 = some o → CallOK Try.prog 37 [.ptr 0 0] ⟨[[.p (sV h0_0), .p (sV h0_1), .p (sV h0_2), .p (sV h0_3), .p (sV h0_4), .p (sV h0_5), .p (sV h0_6), .p (sV h0_7), .p (bV h0_8), .p (bV h0_9), .p (bV h0_10), .p (bV h0_11), .p (bV h0_12)]], []⟩ (t_uri_reader_frag o) ⟨[[.p (sV h0_0), .p (sV h0_1), .p (sV h0_2), .p (sV h0_3), .p (sV h0_4), .p (sV h0_5), .p (sV h0_6), .p (sV o.2.1), .p (bV h0_8), .p (bV h0_9), .p (bV h0_10), .p (bV h0_11), .p (bV o.2.2)]], []⟩ := by
  intro h0_0 h0_1 h0_2 h0_3 h0_4 h0_5 h0_6 h0_7 h0_8 h0_9 h0_10 h0_11 h0_12 o h
  unfold uri_reader_frag at h
  refine CallOK.ofB mixed tbOk uri_reader_frag_lv Try.func37 rfl (by kernel_rfl) (Nat.le_of_ble_eq_true rfl) rfl rfl rfl ?_
  refine st_call [sV h0_0, sV [35]] t_strings_CutPrefix h (fun x1 hy => (strings_CutPrefix_ok h0_0 [35] x1 hy)) (fun x1 hy h => ?_)
  refine And.intro (by decide +kernel) (And.intro rfl ?_)
  refine st_calld [sV [58, 64, 47, 63]] t_uri_with h (fun x2 hy => (uri_with_ok [58, 64, 47, 63] x2 hy)) (fun x2 hy h => ?_)
  refine st_callq (fun x3 => (t_uri_fits_uri_with_1 x3).ren [] []) h (fun x3 hy => (uri_fits_uri_with_1_ok x1.1 x2 x3 hy).fd rfl rfl [] rfl rfl) (fun x3 hy h => ?_)
  refine Exists.intro _ (And.intro (Le.refl _ _ _) ?_)
  exact st_retc (t := t_uri_reader_frag) (ss := fun o => ⟨[[.p (sV h0_0), .p (sV h0_1), .p (sV h0_2), .p (sV h0_3), .p (sV h0_4), .p (sV h0_5), .p (sV h0_6), .p (sV o.2.1), .p (bV h0_8), .p (bV h0_9), .p (bV h0_10), .p (bV h0_11), .p (bV o.2.2)]], []⟩) h ⟨[], rfl, .refl _, .refl _, rfl⟩
noncomputable def uri_Split_L1_r4 (p0 : (List UInt8)) (h1_0 : (List UInt8)) (h1_1 : (List UInt8)) (h1_2 : (List UInt8)) (h1_3 : (List UInt8)) (h1_4 : (List UInt8)) (h1_5 : (List UInt8)) (h1_6 : (List UInt8)) (h1_8 : Bool) (h1_9 : Bool) (h1_10 : Bool) (h1_11 : Bool) : Option (((List UInt8) × (List UInt8) × (List UInt8) × (List UInt8) × (List UInt8) × (List UInt8) × (List UInt8) × (List UInt8) × Bool × Bool × Bool × Bool × Bool) ⊕ ((List UInt8) × (List UInt8) × (List UInt8) × (List UInt8) × (List UInt8) × (List UInt8) × (List UInt8) × (List UInt8) × Bool × Bool × Bool × Bool × Bool)) :=
  uri_reader_frag h1_0 h1_1 h1_2 h1_3 h1_4 h1_5 h1_6 [] h1_8 h1_9 h1_10 h1_11 false >>= fun x4 =>
  if (!x4.1) then
    some (.inr (h1_0, h1_1, h1_2, h1_3, h1_4, h1_5, h1_6, x4.2.1, h1_8, h1_9, h1_10, h1_11, x4.2.2))
  else
    uri_Split_L1_r5 p0 h1_0 h1_1 h1_2 h1_3 h1_4 h1_5 h1_6 x4.2.1 h1_8 h1_9 h1_10 h1_11 x4.2.2
set_option maxRecDepth 100000 in
set_option maxHeartbeats 4000000 in
theorem uri_Split_L1_r4_ok : ∀ (p0 : (List UInt8)) (h1_0 : (List UInt8)) (h1_1 : (List UInt8)) (h1_2 : (List UInt8)) (h1_3 : (List UInt8)) (h1_4 : (List UInt8)) (h1_5 : (List UInt8)) (h1_6 : (List UInt8)) (h1_8 : Bool) (h1_9 : Bool) (h1_10 : Bool) (h1_11 : Bool) (o1 : ((List UInt8) × (List UInt8) × (List UInt8) × (List UInt8) × (List UInt8) × (List UInt8) × (List UInt8) × (List UInt8) × Bool × Bool × Bool × Bool × Bool) ⊕ ((List UInt8) × (List UInt8) × (List UInt8) × (List UInt8) × (List UInt8) × (List UInt8) × (List UInt8) × (List UInt8) × Bool × Bool × Bool × Bool × Bool)), uri_Split_L1_r4 p0 h1_0 h1_1 h1_2 h1_3 h1_4 h1_5 h1_6 h1_8 h1_9 h1_10 h1_11 = some o1 → TL (0, 0) Try.prog 35 uri_Split_L1_c (JP2 (0, 0) 35 o1 (.exit 0) (uri_Split_L1_x0 p0) .ret (uri_Split_L1_x1 p0)) (uri_Split_L1_r4_st p0 h1_0 h1_1 h1_2 h1_3 h1_4 h1_5 h1_6 h1_8 h1_9 h1_10 h1_11) := by
  intro p0 h1_0 h1_1 h1_2 h1_3 h1_4 h1_5 h1_6 h1_8 h1_9 h1_10 h1_11 o1 h
  unfold uri_Split_L1_r4 at h
  refine TL.round (bwp_sound mixed tbOk (lv := uri_Split_lv) _ _ _ ?_)
  refine bT ?_
  refine Exists.intro _ (And.intro (by decide) (And.intro rfl (And.intro rfl ?_)))
  refine And.intro rfl ?_
  refine st_callc _ _ h (fun x4 hy => ((uri_reader_frag_ok h1_0 h1_1 h1_2 h1_3 h1_4 h1_5 h1_6 [] h1_8 h1_9 h1_10 h1_11 false x4 hy).fr [1] [] rfl rfl rfl)) (fun x4 hy h => ?_)
  refine st_test h (fun hb h => ?_) (fun hb h => ?_)
  · exact JP2.b h (Le.tow 2 0 rfl (.cons rfl (.refl _) (.cons rfl (.refl _) (.nil))) (.refl _) rfl)
  · refine TL.le (τ := uri_Split_L1_r5_st p0 h1_0 h1_1 h1_2 h1_3 h1_4 h1_5 h1_6 x4.2.1 h1_8 h1_9 h1_10 h1_11 x4.2.2) ?_ ((uri_Split_L1_r5_ok p0 h1_0 h1_1 h1_2 h1_3 h1_4 h1_5 h1_6 x4.2.1 h1_8 h1_9 h1_10 h1_11 x4.2.2 _ h))
    exact Le.tow 2 0 rfl (.cons rfl (.refl _) (.cons rfl (.refl _) (.cons rfl (.refl _) (.cons rfl (.refl _) (.cons rfl (.refl _) (.nil)))))) (.refl _) rfl
noncomputable def strings_HasPrefix (p0 : (List UInt8)) (p1 : (List UInt8)) : Option (Bool) :=
  internal_stringslite_HasPrefix p0 p1 >>= fun x1 =>
  some x1
set_option maxRecDepth 100000 in
set_option maxHeartbeats 4000000 in
theorem strings_HasPrefix_ok : ∀ (p0 : (List UInt8)) (p1 : (List UInt8)) (o : Bool), strings_HasPrefix p0 p1 = some o → PCall Try.prog 65 [sV p0, sV p1] (t_strings_HasPrefix o) := by
  intro p0 p1 o h
  unfold strings_HasPrefix at h
  refine PCall.ofB mixed tbOk strings_HasPrefix_lv Try.func65 rfl (by kernel_rfl) (Nat.le_of_ble_eq_true rfl) ?_
  refine st_call [sV p0, sV p1] t_internal_stringslite_HasPrefix h (fun x1 hy => (internal_stringslite_HasPrefix_ok p0 p1 x1 hy)) (fun x1 hy h => ?_)
  refine st_ret (t := t_strings_HasPrefix) h ?_
  exact .refl _
noncomputable def strings_IndexAny (p0 : (List UInt8)) (p1 : (List UInt8)) : Option (Int) :=
  need (p0.length < 4294967281) >>= fun _ =>
  need (p1.length < 4294967281) >>= fun _ =>
  need (p0.all (fun b => decide (b.toNat < 128)) = true) >>= fun _ =>
  need (p1.all (fun b => decide (b.toNat < 128)) = true) >>= fun _ =>
  some (Lib.indexAny p0 p1)
set_option maxRecDepth 100000 in
set_option maxHeartbeats 4000000 in
theorem strings_IndexAny_ok : ∀ (p0 : (List UInt8)) (p1 : (List UInt8)) (o : Int), strings_IndexAny p0 p1 = some o → PCall Try.prog 61 [sV p0, sV p1] (t_strings_IndexAny o) := by
  intro p0 p1 o h
  unfold strings_IndexAny at h
  obtain ⟨h1, h⟩ := need_some h
  obtain ⟨h2, h⟩ := need_some h
  obtain ⟨h3, h⟩ := need_some h
  obtain ⟨h4, h⟩ := need_some h
  cases h
  exact indexAny_ok _ _ h1 h2 h3 h4
noncomputable def uri_reader_upto (p1 : (List UInt8)) (h0_0 : (List UInt8)) (h0_1 : (List UInt8)) (h0_2 : (List UInt8)) (h0_3 : (List UInt8)) (h0_4 : (List UInt8)) (h0_5 : (List UInt8)) (h0_6 : (List UInt8)) (h0_7 : (List UInt8)) (h0_8 : Bool) (h0_9 : Bool) (h0_10 : Bool) (h0_11 : Bool) (h0_12 : Bool) : Option ((List UInt8) × (List UInt8)) :=
  strings_IndexAny h0_0 p1 >>= fun x1 =>
  ( if (decide (x1 < 0)) then
      some (h0_0.length : Int)
    else
      some x1 : Option (Int)) >>= fun o2 =>
  cutL h0_0 0 o2 >>= fun x3 =>
  cutL h0_0 o2 (h0_0.length : Int) >>= fun x4 =>
  some (x3, x4)
set_option maxRecDepth 100000 in
set_option maxHeartbeats 4000000 in
theorem uri_reader_upto_ok : ∀ (p1 : (List UInt8)) (h0_0 : (List UInt8)) (h0_1 : (List UInt8)) (h0_2 : (List UInt8)) (h0_3 : (List UInt8)) (h0_4 : (List UInt8)) (h0_5 : (List UInt8)) (h0_6 : (List UInt8)) (h0_7 : (List UInt8)) (h0_8 : Bool) (h0_9 : Bool) (h0_10 : Bool) (h0_11 : Bool) (h0_12 : Bool) (o : (List UInt8) × (List UInt8)), uri_reader_upto p1 h0_0 h0_1 h0_2 h0_3 h0_4 h0_5 h0_6 h0_7 h0_8 h0_9 h0_10 h0_11 h0_12 = some o → CallOK Try.prog 66 [.ptr 0 0, .p (sV p1)] ⟨[[.p (sV h0_0), .p (sV h0_1), .p (sV h0_2), .p (sV h0_3), .p (sV h0_4), .p (sV h0_5), .p (sV h0_6), .p (sV h0_7), .p (bV h0_8), .p (bV h0_9), .p (bV h0_10), .p (bV h0_11), .p (bV h0_12)]], []⟩ (t_uri_reader_upto o) ⟨[[.p (sV o.2), .p (sV h0_1), .p (sV h0_2), .p (sV h0_3), .p (sV h0_4), .p (sV h0_5), .p (sV h0_6), .p (sV h0_7), .p (bV h0_8), .p (bV h0_9), .p (bV h0_10), .p (bV h0_11), .p (bV h0_12)]], []⟩ := by
  intro p1 h0_0 h0_1 h0_2 h0_3 h0_4 h0_5 h0_6 h0_7 h0_8 h0_9 h0_10 h0_11 h0_12 o h
  unfold uri_reader_upto at h
  refine CallOK.ofB mixed tbOk uri_reader_upto_lv Try.func66 rfl (by kernel_rfl) (Nat.le_of_ble_eq_true rfl) rfl rfl rfl ?_
  refine st_call [sV h0_0, sV p1] t_strings_IndexAny h (fun x1 hy => (strings_IndexAny_ok h0_0 p1 x1 hy)) (fun x1 hy h => ?_)
  refine st_bind h (fun o2 ho hk => ?_)
  refine Exists.intro (JP1 _ _ o2 .normal (uri_reader_upto_J0_0 h0_0 h0_1 h0_2 h0_3 h0_4 h0_5 h0_6 h0_7 h0_8 h0_9 h0_10 h0_11 h0_12)) (And.intro ?_ (join1 ?_))
  · have h := ho
    refine st_test h (fun hb h => ?_) (fun hb h => ?_)
    · refine vrfl ?_
      exact JP1.a h (Le.tow 1 0 rfl (.cons rfl (.refl _) (.cons rfl (.refl _) (.nil))) (.refl _) rfl)
    · exact JP1.a h (Le.tow 1 0 rfl (.cons rfl (.refl _) (.cons rfl (.refl _) (.nil))) (.refl _) rfl)
  · have h := hk
    refine st_cuts none (some o2) h (fun x3 hi h => ?_)
    refine st_cuts (some o2) none h (fun x4 hi h => ?_)
    refine Exists.intro _ (And.intro (Le.refl _ _ _) ?_)
    exact st_retc (t := t_uri_reader_upto) (ss := fun o => ⟨[[.p (sV o.2), .p (sV h0_1), .p (sV h0_2), .p (sV h0_3), .p (sV h0_4), .p (sV h0_5), .p (sV h0_6), .p (sV h0_7), .p (bV h0_8), .p (bV h0_9), .p (bV h0_10), .p (bV h0_11), .p (bV h0_12)]], []⟩) h ⟨[], rfl, .refl _, .refl _, rfl⟩
noncomputable def uri_reader_query (h0_0 : (List UInt8)) (h0_1 : (List UInt8)) (h0_2 : (List UInt8)) (h0_3 : (List UInt8)) (h0_4 : (List UInt8)) (h0_5 : (List UInt8)) (h0_6 : (List UInt8)) (h0_7 : (List UInt8)) (h0_8 : Bool) (h0_9 : Bool) (h0_10 : Bool) (h0_11 : Bool) (h0_12 : Bool) : Option (Bool × (List UInt8) × (List UInt8) × Bool) :=
  ( strings_HasPrefix h0_0 [63] >>= fun x2 =>
    if x2 then
      cutL h0_0 1 (h0_0.length : Int) >>= fun x3 =>
      uri_reader_upto [35] x3 h0_1 h0_2 h0_3 h0_4 h0_5 h0_6 h0_7 h0_8 h0_9 h0_10 h0_11 h0_12 >>= fun x4 =>
      some (x4.2, x4.1, true)
    else
      some (h0_0, h0_6, h0_11) : Option (((List UInt8) × (List UInt8) × Bool))) >>= fun o1 =>
  uri_with [58, 64, 47, 63] >>= fun x5 =>
  uri_fits_uri_with_1 o1.2.1 x5 >>= fun x6 =>
  some (x6, o1.1, o1.2.1, o1.2.2)
set_option maxRecDepth 100000 in
set_option maxHeartbeats 4000000 in
theorem uri_reader_query_ok : ∀ (h0_0 : (List UInt8)) (h0_1 : (List UInt8)) (h0_2 : (List UInt8)) (h0_3 : (List UInt8)) (h0_4 : (List UInt8)) (h0_5 : (List UInt8)) (h0_6 : (List UInt8)) (h0_7 : (List UInt8)) (h0_8 : Bool) (h0_9 : Bool) (h0_10 : Bool) (h0_11 : Bool) (h0_12 : Bool) (o : Bool × (List UInt8) × (List UInt8) × Bool), uri_reader_query h0_0 h0_1 h0_2 h0_3 h0_4 h0_5 h0_6 h0_7 h0_8 h0_9 h0_10 h0_11 h0_12 = some o → CallOK Try.prog 36 [.ptr 0 0] ⟨[[.p (sV h0_0), .p (sV h0_1), .p (sV h0_2), .p (sV h0_3), .p (sV h0_4), .p (sV h0_5), .p (sV h0_6), .p (sV h0_7), .p (bV h0_8), .p (bV h0_9), .p (bV h0_10), .p (bV h0_11), .p (bV h0_12)]], []⟩ (t_uri_reader_query o) ⟨[[.p (sV o.2.1), .p (sV h0_1), .p (sV h0_2), .p (sV h0_3), .p (sV h0_4), .p (sV h0_5), .p (sV o.2.2.1), .p (sV h0_7), .p (bV h0_8), .p (bV h0_9), .p (bV h0_10), .p (bV o.2.2.2), .p (bV h0_12)]], []⟩ := by
  intro h0_0 h0_1 h0_2 h0_3 h0_4 h0_5 h0_6 h0_7 h0_8 h0_9 h0_10 h0_11 h0_12 o h
  unfold uri_reader_query at h
  refine CallOK.ofB mixed tbOk uri_reader_query_lv Try.func36 rfl (by kernel_rfl) (Nat.le_of_ble_eq_true rfl) rfl rfl rfl ?_
  refine st_bind h (fun o1 ho hk => ?_)
  refine Exists.intro (JP1 _ _ o1 .normal (uri_reader_query_J0_0 h0_1 h0_2 h0_3 h0_4 h0_5 h0_7 h0_8 h0_9 h0_10 h0_12)) (And.intro ?_ (join1 ?_))
  · have h := ho
    refine st_call [sV h0_0, sV [63]] t_strings_HasPrefix h (fun x2 hy => (strings_HasPrefix_ok h0_0 [63] x2 hy)) (fun x2 hy h => ?_)
    refine st_test h (fun hb h => ?_) (fun hb h => ?_)
    · refine st_cuts (some 1) none h (fun x3 hi h => ?_)
      refine st_callc _ _ h (fun x4 hy => ((uri_reader_upto_ok [35] x3 h0_1 h0_2 h0_3 h0_4 h0_5 h0_6 h0_7 h0_8 h0_9 h0_10 h0_11 h0_12 x4 hy).fr [0] [] rfl rfl rfl)) (fun x4 hy h => ?_)
      exact JP1.a h (Le.tow 1 0 rfl (.cons rfl (.refl _) (.nil)) (.refl _) rfl)
    · exact JP1.a h (Le.tow 1 0 rfl (.cons rfl (.refl _) (.nil)) (.refl _) rfl)
  · have h := hk
    refine And.intro (by decide +kernel) (And.intro rfl ?_)
    refine st_calld [sV [58, 64, 47, 63]] t_uri_with h (fun x5 hy => (uri_with_ok [58, 64, 47, 63] x5 hy)) (fun x5 hy h => ?_)
    refine st_callq (fun x6 => (t_uri_fits_uri_with_1 x6).ren [] []) h (fun x6 hy => (uri_fits_uri_with_1_ok o1.2.1 x5 x6 hy).fd rfl rfl [] rfl rfl) (fun x6 hy h => ?_)
    refine Exists.intro _ (And.intro (Le.refl _ _ _) ?_)
    exact st_retc (t := t_uri_reader_query) (ss := fun o => ⟨[[.p (sV o.2.1), .p (sV h0_1), .p (sV h0_2), .p (sV h0_3), .p (sV h0_4), .p (sV h0_5), .p (sV o.2.2.1), .p (sV h0_7), .p (bV h0_8), .p (bV h0_9), .p (bV h0_10), .p (bV o.2.2.2), .p (bV h0_12)]], []⟩) h ⟨[], rfl, .refl _, .refl _, rfl⟩
noncomputable def uri_Split_L1_r3 (p0 : (List UInt8)) (h1_0 : (List UInt8)) (h1_1 : (List UInt8)) (h1_2 : (List UInt8)) (h1_3 : (List UInt8)) (h1_4 : (List UInt8)) (h1_5 : (List UInt8)) (h1_8 : Bool) (h1_9 : Bool) (h1_10 : Bool) : Option (((List UInt8) × (List UInt8) × (List UInt8) × (List UInt8) × (List UInt8) × (List UInt8) × (List UInt8) × (List UInt8) × Bool × Bool × Bool × Bool × Bool) ⊕ ((List UInt8) × (List UInt8) × (List UInt8) × (List UInt8) × (List UInt8) × (List UInt8) × (List UInt8) × (List UInt8) × Bool × Bool × Bool × Bool × Bool)) :=
  uri_reader_query h1_0 h1_1 h1_2 h1_3 h1_4 h1_5 [] [] h1_8 h1_9 h1_10 false false >>= fun x5 =>
  if (!x5.1) then
    some (.inr (x5.2.1, h1_1, h1_2, h1_3, h1_4, h1_5, x5.2.2.1, [], h1_8, h1_9, h1_10, x5.2.2.2, false))
  else
    uri_Split_L1_r4 p0 x5.2.1 h1_1 h1_2 h1_3 h1_4 h1_5 x5.2.2.1 h1_8 h1_9 h1_10 x5.2.2.2
set_option maxRecDepth 100000 in
set_option maxHeartbeats 4000000 in
theorem uri_Split_L1_r3_ok : ∀ (p0 : (List UInt8)) (h1_0 : (List UInt8)) (h1_1 : (List UInt8)) (h1_2 : (List UInt8)) (h1_3 : (List UInt8)) (h1_4 : (List UInt8)) (h1_5 : (List UInt8)) (h1_8 : Bool) (h1_9 : Bool) (h1_10 : Bool) (o1 : ((List UInt8) × (List UInt8) × (List UInt8) × (List UInt8) × (List UInt8) × (List UInt8) × (List UInt8) × (List UInt8) × Bool × Bool × Bool × Bool × Bool) ⊕ ((List UInt8) × (List UInt8) × (List UInt8) × (List UInt8) × (List UInt8) × (List UInt8) × (List UInt8) × (List UInt8) × Bool × Bool × Bool × Bool × Bool)), uri_Split_L1_r3 p0 h1_0 h1_1 h1_2 h1_3 h1_4 h1_5 h1_8 h1_9 h1_10 = some o1 → TL (0, 0) Try.prog 35 uri_Split_L1_c (JP2 (0, 0) 35 o1 (.exit 0) (uri_Split_L1_x0 p0) .ret (uri_Split_L1_x1 p0)) (uri_Split_L1_r3_st p0 h1_0 h1_1 h1_2 h1_3 h1_4 h1_5 h1_8 h1_9 h1_10) := by
  intro p0 h1_0 h1_1 h1_2 h1_3 h1_4 h1_5 h1_8 h1_9 h1_10 o1 h
  unfold uri_Split_L1_r3 at h
  refine TL.round (bwp_sound mixed tbOk (lv := uri_Split_lv) _ _ _ ?_)
  refine bT ?_
  refine Exists.intro _ (And.intro (by decide) (And.intro rfl (And.intro rfl ?_)))
  refine And.intro rfl ?_
  refine st_callc _ _ h (fun x5 hy => ((uri_reader_query_ok h1_0 h1_1 h1_2 h1_3 h1_4 h1_5 [] [] h1_8 h1_9 h1_10 false false x5 hy).fr [1] [] rfl rfl rfl)) (fun x5 hy h => ?_)
  refine st_test h (fun hb h => ?_) (fun hb h => ?_)
  · exact JP2.b h (Le.tow 2 0 rfl (.cons rfl (.refl _) (.cons rfl (.refl _) (.nil))) (.refl _) rfl)
  · refine TL.le (τ := uri_Split_L1_r4_st p0 x5.2.1 h1_1 h1_2 h1_3 h1_4 h1_5 x5.2.2.1 h1_8 h1_9 h1_10 x5.2.2.2) ?_ ((uri_Split_L1_r4_ok p0 x5.2.1 h1_1 h1_2 h1_3 h1_4 h1_5 x5.2.2.1 h1_8 h1_9 h1_10 x5.2.2.2 _ h))
    exact Le.tow 2 0 rfl (.cons rfl (.refl _) (.cons rfl (.refl _) (.cons rfl (.refl _) (.cons rfl (.refl _) (.cons rfl (.refl _) (.nil)))))) (.refl _) rfl
noncomputable def uri_reader_path (h0_0 : (List UInt8)) (h0_1 : (List UInt8)) (h0_2 : (List UInt8)) (h0_3 : (List UInt8)) (h0_4 : (List UInt8)) (h0_5 : (List UInt8)) (h0_6 : (List UInt8)) (h0_7 : (List UInt8)) (h0_8 : Bool) (h0_9 : Bool) (h0_10 : Bool) (h0_11 : Bool) (h0_12 : Bool) : Option (Bool × (List UInt8) × (List UInt8)) :=
  uri_reader_upto [63, 35] h0_0 h0_1 h0_2 h0_3 h0_4 h0_5 h0_6 h0_7 h0_8 h0_9 h0_10 h0_11 h0_12 >>= fun x1 =>
  uri_with [58, 64, 47] >>= fun x2 =>
  uri_fits_uri_with_1 x1.1 x2 >>= fun x3 =>
  some (x3, x1.2, x1.1)
set_option maxRecDepth 100000 in
set_option maxHeartbeats 4000000 in
theorem uri_reader_path_ok : ∀ (h0_0 : (List UInt8)) (h0_1 : (List UInt8)) (h0_2 : (List UInt8)) (h0_3 : (List UInt8)) (h0_4 : (List UInt8)) (h0_5 : (List UInt8)) (h0_6 : (List UInt8)) (h0_7 : (List UInt8)) (h0_8 : Bool) (h0_9 : Bool) (h0_10 : Bool) (h0_11 : Bool) (h0_12 : Bool) (o : Bool × (List UInt8) × (List UInt8)), uri_reader_path h0_0 h0_1 h0_2 h0_3 h0_4 h0_5 h0_6 h0_7 h0_8 h0_9 h0_10 h0_11 h0_12 = some o → CallOK Try.prog 35 [.ptr 0 0] ⟨[[.p (sV h0_0), .p (sV h0_1), .p (sV h0_2), .p (sV h0_3), .p (sV h0_4), .p (sV h0_5), .p (sV h0_6), .p (sV h0_7), .p (bV h0_8), .p (bV h0_9), .p (bV h0_10), .p (bV h0_11), .p (bV h0_12)]], []⟩ (t_uri_reader_path o) ⟨[[.p (sV o.2.1), .p (sV h0_1), .p (sV h0_2), .p (sV h0_3), .p (sV h0_4), .p (sV o.2.2), .p (sV h0_6), .p (sV h0_7), .p (bV h0_8), .p (bV h0_9), .p (bV h0_10), .p (bV h0_11), .p (bV h0_12)]], []⟩ := by
  intro h0_0 h0_1 h0_2 h0_3 h0_4 h0_5 h0_6 h0_7 h0_8 h0_9 h0_10 h0_11 h0_12 o h
  unfold uri_reader_path at h
  refine CallOK.ofB mixed tbOk uri_reader_path_lv Try.func35 rfl (by kernel_rfl) (Nat.le_of_ble_eq_true rfl) rfl rfl rfl ?_
  refine st_callc _ _ h (fun x1 hy => ((uri_reader_upto_ok [63, 35] h0_0 h0_1 h0_2 h0_3 h0_4 h0_5 h0_6 h0_7 h0_8 h0_9 h0_10 h0_11 h0_12 x1 hy).fr [0] [] rfl rfl rfl)) (fun x1 hy h => ?_)
  refine And.intro (by decide +kernel) (And.intro rfl ?_)
  refine st_calld [sV [58, 64, 47]] t_uri_with h (fun x2 hy => (uri_with_ok [58, 64, 47] x2 hy)) (fun x2 hy h => ?_)
  refine st_callq (fun x3 => (t_uri_fits_uri_with_1 x3).ren [] []) h (fun x3 hy => (uri_fits_uri_with_1_ok x1.1 x2 x3 hy).fd rfl rfl [] rfl rfl) (fun x3 hy h => ?_)
  refine Exists.intro _ (And.intro (Le.refl _ _ _) ?_)
  exact st_retc (t := t_uri_reader_path) (ss := fun o => ⟨[[.p (sV o.2.1), .p (sV h0_1), .p (sV h0_2), .p (sV h0_3), .p (sV h0_4), .p (sV o.2.2), .p (sV h0_6), .p (sV h0_7), .p (bV h0_8), .p (bV h0_9), .p (bV h0_10), .p (bV h0_11), .p (bV h0_12)]], []⟩) h ⟨[], rfl, .refl _, .refl _, rfl⟩
noncomputable def uri_Split_L1_r2 (p0 : (List UInt8)) (h1_0 : (List UInt8)) (h1_1 : (List UInt8)) (h1_2 : (List UInt8)) (h1_3 : (List UInt8)) (h1_4 : (List UInt8)) (h1_8 : Bool) (h1_9 : Bool) (h1_10 : Bool) : Option (((List UInt8) × (List UInt8) × (List UInt8) × (List UInt8) × (List UInt8) × (List UInt8) × (List UInt8) × (List UInt8) × Bool × Bool × Bool × Bool × Bool) ⊕ ((List UInt8) × (List UInt8) × (List UInt8) × (List UInt8) × (List UInt8) × (List UInt8) × (List UInt8) × (List UInt8) × Bool × Bool × Bool × Bool × Bool)) :=
  uri_reader_path h1_0 h1_1 h1_2 h1_3 h1_4 [] [] [] h1_8 h1_9 h1_10 false false >>= fun x6 =>
  if (!x6.1) then
    some (.inr (x6.2.1, h1_1, h1_2, h1_3, h1_4, x6.2.2, [], [], h1_8, h1_9, h1_10, false, false))
  else
    uri_Split_L1_r3 p0 x6.2.1 h1_1 h1_2 h1_3 h1_4 x6.2.2 h1_8 h1_9 h1_10
set_option maxRecDepth 100000 in
set_option maxHeartbeats 4000000 in
theorem uri_Split_L1_r2_ok : ∀ (p0 : (List UInt8)) (h1_0 : (List UInt8)) (h1_1 : (List UInt8)) (h1_2 : (List UInt8)) (h1_3 : (List UInt8)) (h1_4 : (List UInt8)) (h1_8 : Bool) (h1_9 : Bool) (h1_10 : Bool) (o1 : ((List UInt8) × (List UInt8) × (List UInt8) × (List UInt8) × (List UInt8) × (List UInt8) × (List UInt8) × (List UInt8) × Bool × Bool × Bool × Bool × Bool) ⊕ ((List UInt8) × (List UInt8) × (List UInt8) × (List UInt8) × (List UInt8) × (List UInt8) × (List UInt8) × (List UInt8) × Bool × Bool × Bool × Bool × Bool)), uri_Split_L1_r2 p0 h1_0 h1_1 h1_2 h1_3 h1_4 h1_8 h1_9 h1_10 = some o1 → TL (0, 0) Try.prog 35 uri_Split_L1_c (JP2 (0, 0) 35 o1 (.exit 0) (uri_Split_L1_x0 p0) .ret (uri_Split_L1_x1 p0)) (uri_Split_L1_r2_st p0 h1_0 h1_1 h1_2 h1_3 h1_4 h1_8 h1_9 h1_10) := by
  intro p0 h1_0 h1_1 h1_2 h1_3 h1_4 h1_8 h1_9 h1_10 o1 h
  unfold uri_Split_L1_r2 at h
  refine TL.round (bwp_sound mixed tbOk (lv := uri_Split_lv) _ _ _ ?_)
  refine bT ?_
  refine Exists.intro _ (And.intro (by decide) (And.intro rfl (And.intro rfl ?_)))
  refine And.intro rfl ?_
  refine st_callc _ _ h (fun x6 hy => ((uri_reader_path_ok h1_0 h1_1 h1_2 h1_3 h1_4 [] [] [] h1_8 h1_9 h1_10 false false x6 hy).fr [1] [] rfl rfl rfl)) (fun x6 hy h => ?_)
  refine st_test h (fun hb h => ?_) (fun hb h => ?_)
  · exact JP2.b h (Le.tow 2 0 rfl (.cons rfl (.refl _) (.cons rfl (.refl _) (.nil))) (.refl _) rfl)
  · refine TL.le (τ := uri_Split_L1_r3_st p0 x6.2.1 h1_1 h1_2 h1_3 h1_4 x6.2.2 h1_8 h1_9 h1_10) ?_ ((uri_Split_L1_r3_ok p0 x6.2.1 h1_1 h1_2 h1_3 h1_4 x6.2.2 h1_8 h1_9 h1_10 _ h))
    exact Le.tow 2 0 rfl (.cons rfl (.refl _) (.cons rfl (.refl _) (.cons rfl (.refl _) (.cons rfl (.refl _) (.cons rfl (.refl _) (.nil)))))) (.refl _) rfl
noncomputable def strings_Cut (p0 : (List UInt8)) (p1 : (List UInt8)) : Option ((List UInt8) × (List UInt8) × Bool) :=
  internal_stringslite_Cut p0 p1 >>= fun x1 =>
  some (x1.1, x1.2.1, x1.2.2)
set_option maxRecDepth 100000 in
set_option maxHeartbeats 4000000 in
theorem strings_Cut_ok : ∀ (p0 : (List UInt8)) (p1 : (List UInt8)) (o : (List UInt8) × (List UInt8) × Bool), strings_Cut p0 p1 = some o → PCall Try.prog 67 [sV p0, sV p1] (t_strings_Cut o) := by
  intro p0 p1 o h
  unfold strings_Cut at h
  refine PCall.ofB mixed tbOk strings_Cut_lv Try.func67 rfl (by kernel_rfl) (Nat.le_of_ble_eq_true rfl) ?_
  refine st_call [sV p0, sV p1] t_internal_stringslite_Cut h (fun x1 hy => (internal_stringslite_Cut_ok p0 p1 x1 hy)) (fun x1 hy h => ?_)
  refine st_ret (t := t_strings_Cut) h ?_
  exact .refl _
noncomputable def uri_reader_authority_L1 (h0_1 : (List UInt8)) (h0_5 : (List UInt8)) (h0_6 : (List UInt8)) (h0_7 : (List UInt8)) (h0_11 : Bool) (h0_12 : Bool) (x3 : (List UInt8) × (List UInt8)) (o4 : (List UInt8) × (List UInt8) × Bool) (x6 : (List UInt8) × (List UInt8) × Bool) (v66 : Int) : Option (Unit ⊕ Unit) :=
  if (decide (v66 < (x6.2.1.length : Int))) then
    idx x6.2.1 v66 >>= fun x10 =>
    uri_digit (x10.toNat : Int) >>= fun x11 =>
    if (!x11) then
      some (.inr ())
    else
      uri_reader_authority_L1 h0_1 h0_5 h0_6 h0_7 h0_11 h0_12 x3 o4 x6 (wr (v66 + 1))
  else
    some (.inl ())
  partial_fixpoint
set_option maxRecDepth 100000 in
set_option maxHeartbeats 4000000 in
theorem uri_reader_authority_L1_grp : ∀ (h0_1 : (List UInt8)) (h0_5 : (List UInt8)) (h0_6 : (List UInt8)) (h0_7 : (List UInt8)) (h0_11 : Bool) (h0_12 : Bool) (x3 : (List UInt8) × (List UInt8)) (o4 : (List UInt8) × (List UInt8) × Bool) (x6 : (List UInt8) × (List UInt8) × Bool), (∀ (v66 : Int) (o7 : Unit ⊕ Unit), uri_reader_authority_L1 h0_1 h0_5 h0_6 h0_7 h0_11 h0_12 x3 o4 x6 v66 = some o7 → TL (1, 0) Try.prog 92 uri_reader_authority_L1_c (JP2 (1, 0) 92 o7 (.exit 0) (uri_reader_authority_L1_x0 h0_1 h0_5 h0_6 h0_7 h0_11 h0_12 x3 o4 x6) .ret (uri_reader_authority_L1_x1 h0_1 h0_5 h0_6 h0_7 h0_11 h0_12 x3 o4 x6)) (uri_reader_authority_L1_st h0_1 h0_5 h0_6 h0_7 h0_11 h0_12 x3 o4 x6 v66)) := by
  intro h0_1 h0_5 h0_6 h0_7 h0_11 h0_12 x3 o4 x6
  refine uri_reader_authority_L1.partial_correctness h0_1 h0_5 h0_6 h0_7 h0_11 h0_12 x3 o4 x6 _ ?_
  intro uri_reader_authority_L1' ih_uri_reader_authority_L1 v66 o7 h
  refine TL.round (bwp_sound mixed tbOk (lv := uri_reader_authority_lv) _ _ _ ?_)
  refine st_test h (fun hb h => ?_) (fun hb h => ?_)
  · refine st_sidx h (fun x10 hi h => ?_)
    refine st_call [nV .u8 (x10.toNat : Int)] t_uri_digit h (fun x11 hy => (uri_digit_ok (x10.toNat : Int) x11 hy)) (fun x11 hy h => ?_)
    refine st_test h (fun hb h => ?_) (fun hb h => ?_)
    · exact JP2.b h (Le.tow 1 0 rfl (.cons rfl (.refl _) (.nil)) (.refl _) rfl)
    · refine TL.le (τ := uri_reader_authority_L1_st h0_1 h0_5 h0_6 h0_7 h0_11 h0_12 x3 o4 x6 (wr (v66 + 1))) ?_ ((ih_uri_reader_authority_L1 (wr (v66 + 1)) _ h))
      exact Le.tow 1 0 rfl (.cons rfl (.refl _) (.cons rfl (.refl _) (.cons rfl (.refl _) (.nil)))) (.refl _) rfl
  · exact JP2.a h (Le.tow 1 0 rfl (.cons rfl (.refl _) (.nil)) (.refl _) rfl)
theorem uri_reader_authority_L1_ok : ∀ (h0_1 : (List UInt8)) (h0_5 : (List UInt8)) (h0_6 : (List UInt8)) (h0_7 : (List UInt8)) (h0_11 : Bool) (h0_12 : Bool) (x3 : (List UInt8) × (List UInt8)) (o4 : (List UInt8) × (List UInt8) × Bool) (x6 : (List UInt8) × (List UInt8) × Bool) (v66 : Int) (o7 : Unit ⊕ Unit), uri_reader_authority_L1 h0_1 h0_5 h0_6 h0_7 h0_11 h0_12 x3 o4 x6 v66 = some o7 → TL (1, 0) Try.prog 92 uri_reader_authority_L1_c (JP2 (1, 0) 92 o7 (.exit 0) (uri_reader_authority_L1_x0 h0_1 h0_5 h0_6 h0_7 h0_11 h0_12 x3 o4 x6) .ret (uri_reader_authority_L1_x1 h0_1 h0_5 h0_6 h0_7 h0_11 h0_12 x3 o4 x6)) (uri_reader_authority_L1_st h0_1 h0_5 h0_6 h0_7 h0_11 h0_12 x3 o4 x6 v66) := fun h0_1 h0_5 h0_6 h0_7 h0_11 h0_12 x3 o4 x6 v66 o7 h => (uri_reader_authority_L1_grp h0_1 h0_5 h0_6 h0_7 h0_11 h0_12 x3 o4 x6) v66 o7 h
noncomputable def uri_reader_authority (h0_0 : (List UInt8)) (h0_1 : (List UInt8)) (h0_2 : (List UInt8)) (h0_3 : (List UInt8)) (h0_4 : (List UInt8)) (h0_5 : (List UInt8)) (h0_6 : (List UInt8)) (h0_7 : (List UInt8)) (h0_8 : Bool) (h0_9 : Bool) (h0_10 : Bool) (h0_11 : Bool) (h0_12 : Bool) : Option (Bool × (List UInt8) × (List UInt8) × (List UInt8) × (List UInt8) × Bool × Bool × Bool) :=
  strings_HasPrefix h0_0 [47, 47] >>= fun x1 =>
  if (!x1) then
    some (true, h0_0, h0_2, h0_3, h0_4, h0_8, h0_9, h0_10)
  else
    cutL h0_0 2 (h0_0.length : Int) >>= fun x2 =>
    uri_reader_upto [47, 63, 35] x2 h0_1 h0_2 h0_3 h0_4 h0_5 h0_6 h0_7 h0_8 h0_9 h0_10 h0_11 h0_12 >>= fun x3 =>
    ( strings_Cut x3.1 [64] >>= fun x5 =>
      if x5.2.2 then
        some (x5.2.1, x5.1, true)
      else
        some (x3.1, h0_2, h0_9) : Option (((List UInt8) × (List UInt8) × Bool))) >>= fun o4 =>
    strings_Cut o4.1 [58] >>= fun x6 =>
    (uri_reader_authority_L1 h0_1 h0_5 h0_6 h0_7 h0_11 h0_12 x3 o4 x6 0) >>= fun o7 =>
    match o7 with
    | .inl y8 =>
      ( uri_with [58] >>= fun x13 =>
        uri_fits_uri_with_1 o4.2.1 x13 >>= fun x14 =>
        if x14 then
          uri_with [] >>= fun x15 =>
          uri_fits_uri_with_1 x6.1 x15 >>= fun x16 =>
          some x16
        else
          some false : Option (Bool)) >>= fun o12 =>
      some (o12, x3.2, o4.2.1, x6.1, x6.2.1, true, o4.2.2, x6.2.2)
    | .inr y9 =>
      some (false, x3.2, o4.2.1, x6.1, x6.2.1, true, o4.2.2, x6.2.2)
set_option maxRecDepth 100000 in
set_option maxHeartbeats 4000000 in
theorem uri_reader_authority_ok : ∀ (h0_0 : (List UInt8)) (h0_1 : (List UInt8)) (h0_2 : (List UInt8)) (h0_3 : (List UInt8)) (h0_4 : (List UInt8)) (h0_5 : (List UInt8)) (h0_6 : (List UInt8)) (h0_7 : (List UInt8)) (h0_8 : Bool) (h0_9 : Bool) (h0_10 : Bool) (h0_11 : Bool) (h0_12 : Bool) (o : Bool × (List UInt8) × (List UInt8) × (List UInt8) × (List UInt8) × Bool × Bool × Bool), uri_reader_authority h0_0 h0_1 h0_2 h0_3 h0_4 h0_5 h0_6 h0_7 h0_8 h0_9 h0_10 h0_11 h0_12 = some o → CallOK Try.prog 34 [.ptr 0 0] ⟨[[.p (sV h0_0), .p (sV h0_1), .p (sV h0_2), .p (sV h0_3), .p (sV h0_4), .p (sV h0_5), .p (sV h0_6), .p (sV h0_7), .p (bV h0_8), .p (bV h0_9), .p (bV h0_10), .p (bV h0_11), .p (bV h0_12)]], []⟩ (t_uri_reader_authority o) ⟨[[.p (sV o.2.1), .p (sV h0_1), .p (sV o.2.2.1), .p (sV o.2.2.2.1), .p (sV o.2.2.2.2.1), .p (sV h0_5), .p (sV h0_6), .p (sV h0_7), .p (bV o.2.2.2.2.2.1), .p (bV o.2.2.2.2.2.2.1), .p (bV o.2.2.2.2.2.2.2), .p (bV h0_11), .p (bV h0_12)]], []⟩ := by
  intro h0_0 h0_1 h0_2 h0_3 h0_4 h0_5 h0_6 h0_7 h0_8 h0_9 h0_10 h0_11 h0_12 o h
  unfold uri_reader_authority at h
  refine CallOK.ofB mixed tbOk uri_reader_authority_lv Try.func34 rfl (by kernel_rfl) (Nat.le_of_ble_eq_true rfl) rfl rfl rfl ?_
  refine st_call [sV h0_0, sV [47, 47]] t_strings_HasPrefix h (fun x1 hy => (strings_HasPrefix_ok h0_0 [47, 47] x1 hy)) (fun x1 hy h => ?_)
  refine st_test h (fun hb h => ?_) (fun hb h => ?_)
  · refine Exists.intro _ (And.intro (Le.refl _ _ _) ?_)
    exact st_retc (t := t_uri_reader_authority) (ss := fun o => ⟨[[.p (sV o.2.1), .p (sV h0_1), .p (sV o.2.2.1), .p (sV o.2.2.2.1), .p (sV o.2.2.2.2.1), .p (sV h0_5), .p (sV h0_6), .p (sV h0_7), .p (bV o.2.2.2.2.2.1), .p (bV o.2.2.2.2.2.2.1), .p (bV o.2.2.2.2.2.2.2), .p (bV h0_11), .p (bV h0_12)]], []⟩) h ⟨[], rfl, .refl _, .refl _, rfl⟩
  · refine st_cuts (some 2) none h (fun x2 hi h => ?_)
    refine And.intro (by decide +kernel) (And.intro rfl ?_)
    refine st_callh _ _ h (fun x3 hy => ((uri_reader_upto_ok [47, 63, 35] x2 h0_1 h0_2 h0_3 h0_4 h0_5 h0_6 h0_7 h0_8 h0_9 h0_10 h0_11 h0_12 x3 hy).fr [0] [] rfl rfl rfl)) (fun x3 => Nat.le_of_ble_eq_true rfl) (fun x3 hy h => ?_)
    refine st_bind h (fun o4 ho hk => ?_)
    refine Exists.intro (JP1 _ _ o4 .normal (uri_reader_authority_J0_0 h0_1 h0_3 h0_4 h0_5 h0_6 h0_7 h0_10 h0_11 h0_12 x3)) (And.intro ?_ (join1 ?_))
    · have h := ho
      refine st_call [sV x3.1, sV [64]] t_strings_Cut h (fun x5 hy => (strings_Cut_ok x3.1 [64] x5 hy)) (fun x5 hy h => ?_)
      refine st_test h (fun hb h => ?_) (fun hb h => ?_)
      · exact JP1.a h (Le.tow 1 0 rfl (.cons rfl (.refl _) (.cons rfl (.refl _) (.nil))) (.refl _) rfl)
      · exact JP1.a h (Le.tow 1 0 rfl (.cons rfl (.refl _) (.cons rfl (.refl _) (.nil))) (.refl _) rfl)
    · have h := hk
      refine st_call [sV o4.1, sV [58]] t_strings_Cut h (fun x6 hy => (strings_Cut_ok o4.1 [58] x6 hy)) (fun x6 hy h => ?_)
      refine vrfl ?_
      refine st_bind h (fun o7 ho hk => ?_)
      refine Exists.intro (JP2 _ _ o7 (.exit 0) (uri_reader_authority_L1_x0 h0_1 h0_5 h0_6 h0_7 h0_11 h0_12 x3 o4 x6) .ret (uri_reader_authority_L1_x1 h0_1 h0_5 h0_6 h0_7 h0_11 h0_12 x3 o4 x6)) (And.intro (T_le (τ := uri_reader_authority_L1_st h0_1 h0_5 h0_6 h0_7 h0_11 h0_12 x3 o4 x6 0) ?_ (TL.loop (uri_reader_authority_L1_ok h0_1 h0_5 h0_6 h0_7 h0_11 h0_12 x3 o4 x6 0 o7 ho))) (join2 (fun y8 hy => ?_) (fun y9 hy => ?_)))
      · exact Le.tow 1 0 rfl (.cons rfl (.refl _) (.cons rfl (.refl _) (.cons rfl (.refl _) (.nil)))) (.refl _) rfl
      · have h := (by rw [hy] at hk; exact hk)
        refine st_bind h (fun o12 ho hk => ?_)
        refine Exists.intro (JP1 _ _ o12 .normal (uri_reader_authority_J1_0 h0_1 h0_5 h0_6 h0_7 h0_11 h0_12 x3 o4 x6)) (And.intro ?_ (join1 ?_))
        · have h := ho
          refine And.intro (by decide +kernel) (And.intro rfl ?_)
          refine st_calld [sV [58]] t_uri_with h (fun x13 hy => (uri_with_ok [58] x13 hy)) (fun x13 hy h => ?_)
          refine st_callq (fun x14 => (t_uri_fits_uri_with_1 x14).ren [] []) h (fun x14 hy => (uri_fits_uri_with_1_ok o4.2.1 x13 x14 hy).fd rfl rfl [] rfl rfl) (fun x14 hy h => ?_)
          refine st_test h (fun hb h => ?_) (fun hb h => ?_)
          · refine st_calld [sV []] t_uri_with h (fun x15 hy => (uri_with_ok [] x15 hy)) (fun x15 hy h => ?_)
            refine st_callq (fun x16 => (t_uri_fits_uri_with_1 x16).ren [] []) h (fun x16 hy => (uri_fits_uri_with_1_ok x6.1 x15 x16 hy).fd rfl rfl [] rfl rfl) (fun x16 hy h => ?_)
            exact JP1.a h (Le.tow 1 0 rfl (.cons rfl (.refl _) (.nil)) (.refl _) rfl)
          · exact JP1.a h (Le.tow 1 0 rfl (.cons rfl (.refl _) (.nil)) (.refl _) rfl)
        · have h := hk
          refine Exists.intro _ (And.intro (Le.refl _ _ _) ?_)
          exact st_retc (t := t_uri_reader_authority) (ss := fun o => ⟨[[.p (sV o.2.1), .p (sV h0_1), .p (sV o.2.2.1), .p (sV o.2.2.2.1), .p (sV o.2.2.2.2.1), .p (sV h0_5), .p (sV h0_6), .p (sV h0_7), .p (bV o.2.2.2.2.2.1), .p (bV o.2.2.2.2.2.2.1), .p (bV o.2.2.2.2.2.2.2), .p (bV h0_11), .p (bV h0_12)]], []⟩) h ⟨[], rfl, .refl _, .refl _, rfl⟩
      · have h := (by rw [hy] at hk; exact hk)
        refine Exists.intro _ (And.intro (Le.refl _ _ _) ?_)
        exact st_retc (t := t_uri_reader_authority) (ss := fun o => ⟨[[.p (sV o.2.1), .p (sV h0_1), .p (sV o.2.2.1), .p (sV o.2.2.2.1), .p (sV o.2.2.2.2.1), .p (sV h0_5), .p (sV h0_6), .p (sV h0_7), .p (bV o.2.2.2.2.2.1), .p (bV o.2.2.2.2.2.2.1), .p (bV o.2.2.2.2.2.2.2), .p (bV h0_11), .p (bV h0_12)]], []⟩) h ⟨[], rfl, .refl _, .refl _, rfl⟩
noncomputable def uri_Split_L1_r1 (p0 : (List UInt8)) (h1_0 : (List UInt8)) (h1_1 : (List UInt8)) : Option (((List UInt8) × (List UInt8) × (List UInt8) × (List UInt8) × (List UInt8) × (List UInt8) × (List UInt8) × (List UInt8) × Bool × Bool × Bool × Bool × Bool) ⊕ ((List UInt8) × (List UInt8) × (List UInt8) × (List UInt8) × (List UInt8) × (List UInt8) × (List UInt8) × (List UInt8) × Bool × Bool × Bool × Bool × Bool)) :=
  uri_reader_authority h1_0 h1_1 [] [] [] [] [] [] false false false false false >>= fun x7 =>
  if (!x7.1) then
    some (.inr (x7.2.1, h1_1, x7.2.2.1, x7.2.2.2.1, x7.2.2.2.2.1, [], [], [], x7.2.2.2.2.2.1, x7.2.2.2.2.2.2.1, x7.2.2.2.2.2.2.2, false, false))
  else
    uri_Split_L1_r2 p0 x7.2.1 h1_1 x7.2.2.1 x7.2.2.2.1 x7.2.2.2.2.1 x7.2.2.2.2.2.1 x7.2.2.2.2.2.2.1 x7.2.2.2.2.2.2.2
set_option maxRecDepth 100000 in
set_option maxHeartbeats 4000000 in
theorem uri_Split_L1_r1_ok : ∀ (p0 : (List UInt8)) (h1_0 : (List UInt8)) (h1_1 : (List UInt8)) (o1 : ((List UInt8) × (List UInt8) × (List UInt8) × (List UInt8) × (List UInt8) × (List UInt8) × (List UInt8) × (List UInt8) × Bool × Bool × Bool × Bool × Bool) ⊕ ((List UInt8) × (List UInt8) × (List UInt8) × (List UInt8) × (List UInt8) × (List UInt8) × (List UInt8) × (List UInt8) × Bool × Bool × Bool × Bool × Bool)), uri_Split_L1_r1 p0 h1_0 h1_1 = some o1 → TL (0, 0) Try.prog 35 uri_Split_L1_c (JP2 (0, 0) 35 o1 (.exit 0) (uri_Split_L1_x0 p0) .ret (uri_Split_L1_x1 p0)) (uri_Split_L1_r1_st p0 h1_0 h1_1) := by
  intro p0 h1_0 h1_1 o1 h
  unfold uri_Split_L1_r1 at h
  refine TL.round (bwp_sound mixed tbOk (lv := uri_Split_lv) _ _ _ ?_)
  refine bT ?_
  refine Exists.intro _ (And.intro (by decide) (And.intro rfl (And.intro rfl ?_)))
  refine And.intro rfl ?_
  refine st_callc _ _ h (fun x7 hy => ((uri_reader_authority_ok h1_0 h1_1 [] [] [] [] [] [] false false false false false x7 hy).fr [1] [] rfl rfl rfl)) (fun x7 hy h => ?_)
  refine st_test h (fun hb h => ?_) (fun hb h => ?_)
  · exact JP2.b h (Le.tow 2 0 rfl (.cons rfl (.refl _) (.cons rfl (.refl _) (.nil))) (.refl _) rfl)
  · refine TL.le (τ := uri_Split_L1_r2_st p0 x7.2.1 h1_1 x7.2.2.1 x7.2.2.2.1 x7.2.2.2.2.1 x7.2.2.2.2.2.1 x7.2.2.2.2.2.2.1 x7.2.2.2.2.2.2.2) ?_ ((uri_Split_L1_r2_ok p0 x7.2.1 h1_1 x7.2.2.1 x7.2.2.2.1 x7.2.2.2.2.1 x7.2.2.2.2.2.1 x7.2.2.2.2.2.2.1 x7.2.2.2.2.2.2.2 _ h))
    exact Le.tow 2 0 rfl (.cons rfl (.refl _) (.cons rfl (.refl _) (.cons rfl (.refl _) (.cons rfl (.refl _) (.cons rfl (.refl _) (.nil)))))) (.refl _) rfl
noncomputable def uri_reader_scheme_L1 (h0_0 : (List UInt8)) (h0_1 : (List UInt8)) (h0_2 : (List UInt8)) (h0_3 : (List UInt8)) (h0_4 : (List UInt8)) (h0_5 : (List UInt8)) (h0_6 : (List UInt8)) (h0_7 : (List UInt8)) (h0_8 : Bool) (h0_9 : Bool) (h0_10 : Bool) (h0_11 : Bool) (h0_12 : Bool) (x1 : Int) (x4 : (List UInt8)) (v30 : Int) : Option (Unit ⊕ Unit) :=
  if (decide (v30 < x1)) then
    idx x4 v30 >>= fun x8 =>
    ( uri_letter (x8.toNat : Int) >>= fun x10 =>
      if (!x10) then
        if (v30 == 0) then
          some true
        else
          uri_digit (x8.toNat : Int) >>= fun x11 =>
          if (!x11) then
            strings_IndexByte [43, 45, 46] (x8.toNat : Int) >>= fun x12 =>
            some (decide (x12 < 0))
          else
            some false
      else
        some false : Option (Bool)) >>= fun o9 =>
    if o9 then
      some (.inr ())
    else
      uri_reader_scheme_L1 h0_0 h0_1 h0_2 h0_3 h0_4 h0_5 h0_6 h0_7 h0_8 h0_9 h0_10 h0_11 h0_12 x1 x4 (wr (v30 + 1))
  else
    some (.inl ())
  partial_fixpoint
set_option maxRecDepth 100000 in
set_option maxHeartbeats 4000000 in
theorem uri_reader_scheme_L1_grp : ∀ (h0_0 : (List UInt8)) (h0_1 : (List UInt8)) (h0_2 : (List UInt8)) (h0_3 : (List UInt8)) (h0_4 : (List UInt8)) (h0_5 : (List UInt8)) (h0_6 : (List UInt8)) (h0_7 : (List UInt8)) (h0_8 : Bool) (h0_9 : Bool) (h0_10 : Bool) (h0_11 : Bool) (h0_12 : Bool) (x1 : Int) (x4 : (List UInt8)), (∀ (v30 : Int) (o5 : Unit ⊕ Unit), uri_reader_scheme_L1 h0_0 h0_1 h0_2 h0_3 h0_4 h0_5 h0_6 h0_7 h0_8 h0_9 h0_10 h0_11 h0_12 x1 x4 v30 = some o5 → TL (1, 0) Try.prog 71 uri_reader_scheme_L1_c (JP2 (1, 0) 71 o5 (.exit 0) (uri_reader_scheme_L1_x0 h0_0 h0_1 h0_2 h0_3 h0_4 h0_5 h0_6 h0_7 h0_8 h0_9 h0_10 h0_11 h0_12 x1 x4) .ret (uri_reader_scheme_L1_x1 h0_0 h0_1 h0_2 h0_3 h0_4 h0_5 h0_6 h0_7 h0_8 h0_9 h0_10 h0_11 h0_12 x1 x4)) (uri_reader_scheme_L1_st h0_0 h0_1 h0_2 h0_3 h0_4 h0_5 h0_6 h0_7 h0_8 h0_9 h0_10 h0_11 h0_12 x1 x4 v30)) := by
  intro h0_0 h0_1 h0_2 h0_3 h0_4 h0_5 h0_6 h0_7 h0_8 h0_9 h0_10 h0_11 h0_12 x1 x4
  refine uri_reader_scheme_L1.partial_correctness h0_0 h0_1 h0_2 h0_3 h0_4 h0_5 h0_6 h0_7 h0_8 h0_9 h0_10 h0_11 h0_12 x1 x4 _ ?_
  intro uri_reader_scheme_L1' ih_uri_reader_scheme_L1 v30 o5 h
  refine TL.round (bwp_sound mixed tbOk (lv := uri_reader_scheme_lv) _ _ _ ?_)
  refine st_test h (fun hb h => ?_) (fun hb h => ?_)
  · refine st_sidx h (fun x8 hi h => ?_)
    refine st_bind h (fun o9 ho hk => ?_)
    refine Exists.intro (JP1 _ _ o9 .normal (uri_reader_scheme_J1_0 h0_0 h0_1 h0_2 h0_3 h0_4 h0_5 h0_6 h0_7 h0_8 h0_9 h0_10 h0_11 h0_12 x1 x4 v30)) (And.intro ?_ (join1 ?_))
    · have h := ho
      refine st_call [nV .u8 (x8.toNat : Int)] t_uri_letter h (fun x10 hy => (uri_letter_ok (x8.toNat : Int) x10 hy)) (fun x10 hy h => ?_)
      refine st_test h (fun hb h => ?_) (fun hb h => ?_)
      · refine st_test h (fun hb h => ?_) (fun hb h => ?_)
        · exact JP1.a h (Le.tow 1 0 rfl (.cons rfl (.refl _) (.cons rfl (.refl _) (.cons rfl (.refl _) (.cons rfl (.refl _) (.cons rfl (.refl _) (.cons rfl (.refl _) (.nil))))))) (.refl _) rfl)
        · refine st_call [nV .u8 (x8.toNat : Int)] t_uri_digit h (fun x11 hy => (uri_digit_ok (x8.toNat : Int) x11 hy)) (fun x11 hy h => ?_)
          refine st_test h (fun hb h => ?_) (fun hb h => ?_)
          · refine st_call [sV [43, 45, 46], nV .u8 (x8.toNat : Int)] t_strings_IndexByte h (fun x12 hy => (strings_IndexByte_ok [43, 45, 46] (x8.toNat : Int) x12 hy)) (fun x12 hy h => ?_)
            exact JP1.a h (Le.tow 1 0 rfl (.cons rfl (.refl _) (.cons rfl (.refl _) (.cons rfl (.refl _) (.cons rfl (.refl _) (.cons rfl (.refl _) (.cons rfl (.refl _) (.nil))))))) (.refl _) rfl)
          · exact JP1.a h (Le.tow 1 0 rfl (.cons rfl (.refl _) (.cons rfl (.refl _) (.cons rfl (.refl _) (.cons rfl (.refl _) (.cons rfl (.refl _) (.cons rfl (.refl _) (.nil))))))) (.refl _) rfl)
      · exact JP1.a h (Le.tow 1 0 rfl (.cons rfl (.refl _) (.cons rfl (.refl _) (.cons rfl (.refl _) (.cons rfl (.refl _) (.cons rfl (.refl _) (.cons rfl (.refl _) (.nil))))))) (.refl _) rfl)
    · have h := hk
      refine st_test h (fun hb h => ?_) (fun hb h => ?_)
      · exact JP2.b h (Le.tow 1 0 rfl (.cons rfl (.refl _) (.nil)) (.refl _) rfl)
      · refine TL.le (τ := uri_reader_scheme_L1_st h0_0 h0_1 h0_2 h0_3 h0_4 h0_5 h0_6 h0_7 h0_8 h0_9 h0_10 h0_11 h0_12 x1 x4 (wr (v30 + 1))) ?_ ((ih_uri_reader_scheme_L1 (wr (v30 + 1)) _ h))
        exact Le.tow 1 0 rfl (.cons rfl (.refl _) (.cons rfl (.refl _) (.cons rfl (.refl _) (.cons rfl (.refl _) (.cons rfl (.refl _) (.nil)))))) (.refl _) rfl
  · exact JP2.a h (Le.tow 1 0 rfl (.cons rfl (.refl _) (.cons rfl (.refl _) (.cons rfl (.refl _) (.nil)))) (.refl _) rfl)
theorem uri_reader_scheme_L1_ok : ∀ (h0_0 : (List UInt8)) (h0_1 : (List UInt8)) (h0_2 : (List UInt8)) (h0_3 : (List UInt8)) (h0_4 : (List UInt8)) (h0_5 : (List UInt8)) (h0_6 : (List UInt8)) (h0_7 : (List UInt8)) (h0_8 : Bool) (h0_9 : Bool) (h0_10 : Bool) (h0_11 : Bool) (h0_12 : Bool) (x1 : Int) (x4 : (List UInt8)) (v30 : Int) (o5 : Unit ⊕ Unit), uri_reader_scheme_L1 h0_0 h0_1 h0_2 h0_3 h0_4 h0_5 h0_6 h0_7 h0_8 h0_9 h0_10 h0_11 h0_12 x1 x4 v30 = some o5 → TL (1, 0) Try.prog 71 uri_reader_scheme_L1_c (JP2 (1, 0) 71 o5 (.exit 0) (uri_reader_scheme_L1_x0 h0_0 h0_1 h0_2 h0_3 h0_4 h0_5 h0_6 h0_7 h0_8 h0_9 h0_10 h0_11 h0_12 x1 x4) .ret (uri_reader_scheme_L1_x1 h0_0 h0_1 h0_2 h0_3 h0_4 h0_5 h0_6 h0_7 h0_8 h0_9 h0_10 h0_11 h0_12 x1 x4)) (uri_reader_scheme_L1_st h0_0 h0_1 h0_2 h0_3 h0_4 h0_5 h0_6 h0_7 h0_8 h0_9 h0_10 h0_11 h0_12 x1 x4 v30) := fun h0_0 h0_1 h0_2 h0_3 h0_4 h0_5 h0_6 h0_7 h0_8 h0_9 h0_10 h0_11 h0_12 x1 x4 v30 o5 h => (uri_reader_scheme_L1_grp h0_0 h0_1 h0_2 h0_3 h0_4 h0_5 h0_6 h0_7 h0_8 h0_9 h0_10 h0_11 h0_12 x1 x4) v30 o5 h
noncomputable def uri_reader_scheme (h0_0 : (List UInt8)) (h0_1 : (List UInt8)) (h0_2 : (List UInt8)) (h0_3 : (List UInt8)) (h0_4 : (List UInt8)) (h0_5 : (List UInt8)) (h0_6 : (List UInt8)) (h0_7 : (List UInt8)) (h0_8 : Bool) (h0_9 : Bool) (h0_10 : Bool) (h0_11 : Bool) (h0_12 : Bool) : Option (Bool × (List UInt8) × (List UInt8)) :=
  strings_IndexAny h0_0 [58, 47, 63, 35] >>= fun x1 =>
  ( if (decide (x1 < 0)) then
      some true
    else
      idx h0_0 x1 >>= fun x3 =>
      some ((x3.toNat : Int) != 58) : Option (Bool)) >>= fun o2 =>
  if o2 then
    some (true, h0_0, h0_1)
  else
    cutL h0_0 0 x1 >>= fun x4 =>
    (uri_reader_scheme_L1 h0_0 h0_1 h0_2 h0_3 h0_4 h0_5 h0_6 h0_7 h0_8 h0_9 h0_10 h0_11 h0_12 x1 x4 0) >>= fun o5 =>
    match o5 with
    | .inl y6 =>
      cutL h0_0 (wr (x1 + 1)) (h0_0.length : Int) >>= fun x13 =>
      some ((!(x4 == [])), x13, x4)
    | .inr y7 =>
      some (false, h0_0, h0_1)
set_option maxRecDepth 100000 in
set_option maxHeartbeats 4000000 in
theorem uri_reader_scheme_ok : ∀ (h0_0 : (List UInt8)) (h0_1 : (List UInt8)) (h0_2 : (List UInt8)) (h0_3 : (List UInt8)) (h0_4 : (List UInt8)) (h0_5 : (List UInt8)) (h0_6 : (List UInt8)) (h0_7 : (List UInt8)) (h0_8 : Bool) (h0_9 : Bool) (h0_10 : Bool) (h0_11 : Bool) (h0_12 : Bool) (o : Bool × (List UInt8) × (List UInt8)), uri_reader_scheme h0_0 h0_1 h0_2 h0_3 h0_4 h0_5 h0_6 h0_7 h0_8 h0_9 h0_10 h0_11 h0_12 = some o → CallOK Try.prog 33 [.ptr 0 0] ⟨[[.p (sV h0_0), .p (sV h0_1), .p (sV h0_2), .p (sV h0_3), .p (sV h0_4), .p (sV h0_5), .p (sV h0_6), .p (sV h0_7), .p (bV h0_8), .p (bV h0_9), .p (bV h0_10), .p (bV h0_11), .p (bV h0_12)]], []⟩ (t_uri_reader_scheme o) ⟨[[.p (sV o.2.1), .p (sV o.2.2), .p (sV h0_2), .p (sV h0_3), .p (sV h0_4), .p (sV h0_5), .p (sV h0_6), .p (sV h0_7), .p (bV h0_8), .p (bV h0_9), .p (bV h0_10), .p (bV h0_11), .p (bV h0_12)]], []⟩ := by
  intro h0_0 h0_1 h0_2 h0_3 h0_4 h0_5 h0_6 h0_7 h0_8 h0_9 h0_10 h0_11 h0_12 o h
  unfold uri_reader_scheme at h
  refine CallOK.ofB mixed tbOk uri_reader_scheme_lv Try.func33 rfl (by kernel_rfl) (Nat.le_of_ble_eq_true rfl) rfl rfl rfl ?_
  refine st_call [sV h0_0, sV [58, 47, 63, 35]] t_strings_IndexAny h (fun x1 hy => (strings_IndexAny_ok h0_0 [58, 47, 63, 35] x1 hy)) (fun x1 hy h => ?_)
  refine st_bind h (fun o2 ho hk => ?_)
  refine Exists.intro (JP1 _ _ o2 .normal (uri_reader_scheme_J0_0 h0_0 h0_1 h0_2 h0_3 h0_4 h0_5 h0_6 h0_7 h0_8 h0_9 h0_10 h0_11 h0_12 x1)) (And.intro ?_ (join1 ?_))
  · have h := ho
    refine st_test h (fun hb h => ?_) (fun hb h => ?_)
    · exact JP1.a h (Le.tow 1 0 rfl (.cons rfl (.refl _) (.cons rfl (.refl _) (.cons rfl (.refl _) (.nil)))) (.refl _) rfl)
    · refine st_sidx h (fun x3 hi h => ?_)
      exact JP1.a h (Le.tow 1 0 rfl (.cons rfl (.refl _) (.cons rfl (.refl _) (.cons rfl (.refl _) (.nil)))) (.refl _) rfl)
  · have h := hk
    refine st_test h (fun hb h => ?_) (fun hb h => ?_)
    · refine Exists.intro _ (And.intro (Le.refl _ _ _) ?_)
      exact st_retc (t := t_uri_reader_scheme) (ss := fun o => ⟨[[.p (sV o.2.1), .p (sV o.2.2), .p (sV h0_2), .p (sV h0_3), .p (sV h0_4), .p (sV h0_5), .p (sV h0_6), .p (sV h0_7), .p (bV h0_8), .p (bV h0_9), .p (bV h0_10), .p (bV h0_11), .p (bV h0_12)]], []⟩) h ⟨[], rfl, .refl _, .refl _, rfl⟩
    · refine st_cuts none (some x1) h (fun x4 hi h => ?_)
      refine st_bind h (fun o5 ho hk => ?_)
      refine Exists.intro (JP2 _ _ o5 (.exit 0) (uri_reader_scheme_L1_x0 h0_0 h0_1 h0_2 h0_3 h0_4 h0_5 h0_6 h0_7 h0_8 h0_9 h0_10 h0_11 h0_12 x1 x4) .ret (uri_reader_scheme_L1_x1 h0_0 h0_1 h0_2 h0_3 h0_4 h0_5 h0_6 h0_7 h0_8 h0_9 h0_10 h0_11 h0_12 x1 x4)) (And.intro (T_le (τ := uri_reader_scheme_L1_st h0_0 h0_1 h0_2 h0_3 h0_4 h0_5 h0_6 h0_7 h0_8 h0_9 h0_10 h0_11 h0_12 x1 x4 0) ?_ (TL.loop (uri_reader_scheme_L1_ok h0_0 h0_1 h0_2 h0_3 h0_4 h0_5 h0_6 h0_7 h0_8 h0_9 h0_10 h0_11 h0_12 x1 x4 0 o5 ho))) (join2 (fun y6 hy => ?_) (fun y7 hy => ?_)))
      · exact Le.tow 1 0 rfl (.cons rfl (.refl _) (.cons rfl (.refl _) (.cons rfl (.refl _) (.cons rfl (.refl _) (.cons rfl (.refl _) (.nil)))))) (.refl _) rfl
      · have h := (by rw [hy] at hk; exact hk)
        refine And.intro (by decide +kernel) (And.intro rfl ?_)
        refine st_cuts (some (wr (x1 + 1))) none h (fun x13 hi h => ?_)
        refine Exists.intro _ (And.intro (Le.refl _ _ _) ?_)
        exact st_retc (t := t_uri_reader_scheme) (ss := fun o => ⟨[[.p (sV o.2.1), .p (sV o.2.2), .p (sV h0_2), .p (sV h0_3), .p (sV h0_4), .p (sV h0_5), .p (sV h0_6), .p (sV h0_7), .p (bV h0_8), .p (bV h0_9), .p (bV h0_10), .p (bV h0_11), .p (bV h0_12)]], []⟩) h ⟨[], rfl, .refl _, .refl _, rfl⟩
      · have h := (by rw [hy] at hk; exact hk)
        refine Exists.intro _ (And.intro (Le.refl _ _ _) ?_)
        exact st_retc (t := t_uri_reader_scheme) (ss := fun o => ⟨[[.p (sV o.2.1), .p (sV o.2.2), .p (sV h0_2), .p (sV h0_3), .p (sV h0_4), .p (sV h0_5), .p (sV h0_6), .p (sV h0_7), .p (bV h0_8), .p (bV h0_9), .p (bV h0_10), .p (bV h0_11), .p (bV h0_12)]], []⟩) h ⟨[], rfl, .refl _, .refl _, rfl⟩
noncomputable def uri_Split_L1_r0 (p0 : (List UInt8)) : Option (((List UInt8) × (List UInt8) × (List UInt8) × (List UInt8) × (List UInt8) × (List UInt8) × (List UInt8) × (List UInt8) × Bool × Bool × Bool × Bool × Bool) ⊕ ((List UInt8) × (List UInt8) × (List UInt8) × (List UInt8) × (List UInt8) × (List UInt8) × (List UInt8) × (List UInt8) × Bool × Bool × Bool × Bool × Bool)) :=
  uri_reader_scheme p0 [] [] [] [] [] [] [] false false false false false >>= fun x8 =>
  if (!x8.1) then
    some (.inr (x8.2.1, x8.2.2, [], [], [], [], [], [], false, false, false, false, false))
  else
    uri_Split_L1_r1 p0 x8.2.1 x8.2.2
set_option maxRecDepth 100000 in
set_option maxHeartbeats 4000000 in
theorem uri_Split_L1_r0_ok : ∀ (p0 : (List UInt8)) (o1 : ((List UInt8) × (List UInt8) × (List UInt8) × (List UInt8) × (List UInt8) × (List UInt8) × (List UInt8) × (List UInt8) × Bool × Bool × Bool × Bool × Bool) ⊕ ((List UInt8) × (List UInt8) × (List UInt8) × (List UInt8) × (List UInt8) × (List UInt8) × (List UInt8) × (List UInt8) × Bool × Bool × Bool × Bool × Bool)), uri_Split_L1_r0 p0 = some o1 → TL (0, 0) Try.prog 35 uri_Split_L1_c (JP2 (0, 0) 35 o1 (.exit 0) (uri_Split_L1_x0 p0) .ret (uri_Split_L1_x1 p0)) (uri_Split_L1_r0_st p0) := by
  intro p0 o1 h
  unfold uri_Split_L1_r0 at h
  refine TL.round (bwp_sound mixed tbOk (lv := uri_Split_lv) _ _ _ ?_)
  refine bT ?_
  refine Exists.intro _ (And.intro (by decide) (And.intro rfl (And.intro rfl ?_)))
  refine And.intro rfl ?_
  refine st_callc _ _ h (fun x8 hy => ((uri_reader_scheme_ok p0 [] [] [] [] [] [] [] false false false false false x8 hy).fr [1] [] rfl rfl rfl)) (fun x8 hy h => ?_)
  refine st_test h (fun hb h => ?_) (fun hb h => ?_)
  · exact JP2.b h (Le.tow 2 0 rfl (.cons rfl (.refl _) (.cons rfl (.refl _) (.nil))) (.refl _) rfl)
  · refine TL.le (τ := uri_Split_L1_r1_st p0 x8.2.1 x8.2.2) ?_ ((uri_Split_L1_r1_ok p0 x8.2.1 x8.2.2 _ h))
    exact Le.tow 2 0 rfl (.cons rfl (.refl _) (.cons rfl (.refl _) (.cons rfl (.refl _) (.cons rfl (.refl _) (.cons rfl (.refl _) (.nil)))))) (.refl _) rfl
noncomputable def uri_Split (p0 : (List UInt8)) : Option (uri_Uri × Int) :=
  (uri_Split_L1_r0 p0) >>= fun o1 =>
  match o1 with
  | .inl y2 =>
    some ((uri_Uri.mk y2.2.1 y2.2.2.1 y2.2.2.2.1 y2.2.2.2.2.1 y2.2.2.2.2.2.1 y2.2.2.2.2.2.2.1 y2.2.2.2.2.2.2.2.1 y2.2.2.2.2.2.2.2.2.1 y2.2.2.2.2.2.2.2.2.2.1 y2.2.2.2.2.2.2.2.2.2.2.1 y2.2.2.2.2.2.2.2.2.2.2.2.1 y2.2.2.2.2.2.2.2.2.2.2.2.2), 0)
  | .inr y3 =>
    some ((uri_Uri.mk [] [] [] [] [] [] [] false false false false false), 7)
set_option maxRecDepth 100000 in
set_option maxHeartbeats 4000000 in
theorem uri_Split_ok : ∀ (p0 : (List UInt8)) (o : uri_Uri × Int), uri_Split p0 = some o → PCall Try.prog 11 [sV p0] (t_uri_Split o) := by
  intro p0 o h
  unfold uri_Split at h
  refine PCall.ofB mixed tbOk uri_Split_lv Try.func11 rfl (by kernel_rfl) (Nat.le_of_ble_eq_true rfl) ?_
  refine vrfl ?_
  refine st_bind h (fun o1 ho hk => ?_)
  refine Exists.intro (JP2 _ _ o1 (.exit 0) (uri_Split_L1_x0 p0) .ret (uri_Split_L1_x1 p0)) (And.intro (T_le (τ := uri_Split_L1_r0_st p0) ?_ (TL.loop (uri_Split_L1_r0_ok p0 o1 ho))) (join2 (fun y2 hy => ?_) (fun y3 hy => ?_)))
  · exact Le.tow 2 0 rfl (.cons rfl (.refl _) (.cons rfl (.refl _) (.cons rfl (.refl _) (.cons rfl (.refl _) (.cons rfl (.refl _) (.nil)))))) (.refl _) rfl
  · have h := (by rw [hy] at hk; exact hk)
    refine st_ret (t := t_uri_Split) h ?_
    exact .refl _
  · have h := (by rw [hy] at hk; exact hk)
    refine st_ret (t := t_uri_Split) h ?_
    exact .refl _
noncomputable def nunciolaw12_awake : Option (Bool) :=
  uri_Split [104, 116, 116, 112, 115, 58, 47, 47, 117, 64, 104, 58, 56, 47, 97, 63, 98, 35, 99] >>= fun x1 =>
  uri_Split [97, 58, 98] >>= fun x2 =>
  uri_Split [49, 58, 98] >>= fun x3 =>
  uri_Split [97, 32, 98] >>= fun x4 =>
  ( if (x1.2 == 0) then
      if (x1.1.Scheme == [104, 116, 116, 112, 115]) then
        if (x1.1.User == [117]) then
          if (x1.1.Host == [104]) then
            if (x1.1.Port == [56]) then
              if (x1.1.Path == [47, 97]) then
                if (x1.1.Query == [98]) then
                  if (x1.1.Frag == [99]) then
                    if (x2.2 == 0) then
                      if (x2.1.Scheme == [97]) then
                        if (x2.1.Path == [98]) then
                          if (x3.2 == 7) then
                            some (x4.2 == 7)
                          else
                            some false
                        else
                          some false
                      else
                        some false
                    else
                      some false
                  else
                    some false
                else
                  some false
              else
                some false
            else
              some false
          else
            some false
        else
          some false
      else
        some false
    else
      some false : Option (Bool)) >>= fun o5 =>
  some o5
set_option maxRecDepth 100000 in
set_option maxHeartbeats 4000000 in
theorem nunciolaw12_awake_ok : ∀ (o : Bool), nunciolaw12_awake  = some o → PCall Try.prog 15 [] (t_nunciolaw12_awake o) := by
  intro o h
  unfold nunciolaw12_awake at h
  refine PCall.ofB mixed tbOk nunciolaw12_awake_lv Try.func15 rfl (by kernel_rfl) (Nat.le_of_ble_eq_true rfl) ?_
  refine st_call [sV [104, 116, 116, 112, 115, 58, 47, 47, 117, 64, 104, 58, 56, 47, 97, 63, 98, 35, 99]] t_uri_Split h (fun x1 hy => (uri_Split_ok [104, 116, 116, 112, 115, 58, 47, 47, 117, 64, 104, 58, 56, 47, 97, 63, 98, 35, 99] x1 hy)) (fun x1 hy h => ?_)
  refine st_call [sV [97, 58, 98]] t_uri_Split h (fun x2 hy => (uri_Split_ok [97, 58, 98] x2 hy)) (fun x2 hy h => ?_)
  refine st_call [sV [49, 58, 98]] t_uri_Split h (fun x3 hy => (uri_Split_ok [49, 58, 98] x3 hy)) (fun x3 hy h => ?_)
  refine st_call [sV [97, 32, 98]] t_uri_Split h (fun x4 hy => (uri_Split_ok [97, 32, 98] x4 hy)) (fun x4 hy h => ?_)
  refine st_bind h (fun o5 ho hk => ?_)
  refine Exists.intro (JP1 _ _ o5 .normal (nunciolaw12_awake_J0_0 x1 x2 x3 x4)) (And.intro ?_ (join1 ?_))
  · have h := ho
    refine st_test h (fun hb h => ?_) (fun hb h => ?_)
    · refine st_test h (fun hb h => ?_) (fun hb h => ?_)
      · refine st_test h (fun hb h => ?_) (fun hb h => ?_)
        · refine st_test h (fun hb h => ?_) (fun hb h => ?_)
          · refine st_test h (fun hb h => ?_) (fun hb h => ?_)
            · refine st_test h (fun hb h => ?_) (fun hb h => ?_)
              · refine st_test h (fun hb h => ?_) (fun hb h => ?_)
                · refine st_test h (fun hb h => ?_) (fun hb h => ?_)
                  · refine st_test h (fun hb h => ?_) (fun hb h => ?_)
                    · refine st_test h (fun hb h => ?_) (fun hb h => ?_)
                      · refine st_test h (fun hb h => ?_) (fun hb h => ?_)
                        · refine st_test h (fun hb h => ?_) (fun hb h => ?_)
                          · exact JP1.a h (Le.tow 4 0 rfl (.cons rfl (.refl _) (.nil)) (.refl _) rfl)
                          · exact JP1.a h (Le.tow 4 0 rfl (.cons rfl (.refl _) (.nil)) (.refl _) rfl)
                        · refine bF ?_
                          exact JP1.a h (Le.tow 4 0 rfl (.cons rfl (.refl _) (.nil)) (.refl _) rfl)
                      · refine bF ?_
                        refine bF ?_
                        exact JP1.a h (Le.tow 4 0 rfl (.cons rfl (.refl _) (.nil)) (.refl _) rfl)
                    · refine bF ?_
                      refine bF ?_
                      refine bF ?_
                      exact JP1.a h (Le.tow 4 0 rfl (.cons rfl (.refl _) (.nil)) (.refl _) rfl)
                  · refine bF ?_
                    refine bF ?_
                    refine bF ?_
                    refine bF ?_
                    exact JP1.a h (Le.tow 4 0 rfl (.cons rfl (.refl _) (.nil)) (.refl _) rfl)
                · refine bF ?_
                  refine bF ?_
                  refine bF ?_
                  refine bF ?_
                  refine bF ?_
                  exact JP1.a h (Le.tow 4 0 rfl (.cons rfl (.refl _) (.nil)) (.refl _) rfl)
              · refine bF ?_
                refine bF ?_
                refine bF ?_
                refine bF ?_
                refine bF ?_
                refine bF ?_
                exact JP1.a h (Le.tow 4 0 rfl (.cons rfl (.refl _) (.nil)) (.refl _) rfl)
            · refine bF ?_
              refine bF ?_
              refine bF ?_
              refine bF ?_
              refine bF ?_
              refine bF ?_
              refine bF ?_
              exact JP1.a h (Le.tow 4 0 rfl (.cons rfl (.refl _) (.nil)) (.refl _) rfl)
          · refine bF ?_
            refine bF ?_
            refine bF ?_
            refine bF ?_
            refine bF ?_
            refine bF ?_
            refine bF ?_
            refine bF ?_
            exact JP1.a h (Le.tow 4 0 rfl (.cons rfl (.refl _) (.nil)) (.refl _) rfl)
        · refine bF ?_
          refine bF ?_
          refine bF ?_
          refine bF ?_
          refine bF ?_
          refine bF ?_
          refine bF ?_
          refine bF ?_
          refine bF ?_
          exact JP1.a h (Le.tow 4 0 rfl (.cons rfl (.refl _) (.nil)) (.refl _) rfl)
      · refine bF ?_
        refine bF ?_
        refine bF ?_
        refine bF ?_
        refine bF ?_
        refine bF ?_
        refine bF ?_
        refine bF ?_
        refine bF ?_
        refine bF ?_
        exact JP1.a h (Le.tow 4 0 rfl (.cons rfl (.refl _) (.nil)) (.refl _) rfl)
    · refine bF ?_
      refine bF ?_
      refine bF ?_
      refine bF ?_
      refine bF ?_
      refine bF ?_
      refine bF ?_
      refine bF ?_
      refine bF ?_
      refine bF ?_
      refine bF ?_
      exact JP1.a h (Le.tow 4 0 rfl (.cons rfl (.refl _) (.nil)) (.refl _) rfl)
  · have h := hk
    refine st_ret (t := t_nunciolaw12_awake) h ?_
    exact .refl _
noncomputable def nunciolaw12_its (p0 : uri_Uri) : Option (R12_Uri) :=
  some (R12_Uri.mk p0.Scheme p0.User p0.Host p0.Port p0.Path p0.Query p0.Frag p0.Auth p0.HasUser p0.HasPort p0.HasQuery p0.HasFrag)
set_option maxRecDepth 100000 in
set_option maxHeartbeats 4000000 in
theorem nunciolaw12_its_ok : ∀ (p0 : uri_Uri) (o : R12_Uri), nunciolaw12_its p0 = some o → PCall Try.prog 13 [.agg [sV p0.Scheme, sV p0.User, sV p0.Host, sV p0.Port, sV p0.Path, sV p0.Query, sV p0.Frag, bV p0.Auth, bV p0.HasUser, bV p0.HasPort, bV p0.HasQuery, bV p0.HasFrag]] (t_nunciolaw12_its o) := by
  intro p0 o h
  unfold nunciolaw12_its at h
  refine PCall.ofB mixed tbOk nunciolaw12_its_lv Try.func13 rfl (by kernel_rfl) (Nat.le_of_ble_eq_true rfl) ?_
  refine st_ret (t := t_nunciolaw12_its) h ?_
  exact .refl _
noncomputable def nunciolaw12_few (p0 : (List UInt8)) : Option ((List UInt8)) :=
  cutL p0 0 (if 300 < (p0.length : Int) then 300 else (p0.length : Int)) >>= fun x1 =>
  some x1
set_option maxRecDepth 100000 in
set_option maxHeartbeats 4000000 in
theorem nunciolaw12_few_ok : ∀ (p0 : (List UInt8)) (o : (List UInt8)), nunciolaw12_few p0 = some o → PCall Try.prog 10 [sV p0] (t_nunciolaw12_few o) := by
  intro p0 o h
  unfold nunciolaw12_few at h
  refine PCall.ofB mixed tbOk nunciolaw12_few_lv Try.func10 rfl (by kernel_rfl) (Nat.le_of_ble_eq_true rfl) ?_
  refine vrfl ?_
  refine st_cuts none (some (if 300 < (p0.length : Int) then 300 else (p0.length : Int))) h (fun x1 hi h => ?_)
  refine st_ret (t := t_nunciolaw12_few) h ?_
  exact .refl _
noncomputable def nunciolaw12_mine (p0 : R12_Uri) : Option (uri_Uri) :=
  nunciolaw12_few p0.Scheme >>= fun x1 =>
  nunciolaw12_few p0.User >>= fun x2 =>
  nunciolaw12_few p0.Host >>= fun x3 =>
  nunciolaw12_few p0.Port >>= fun x4 =>
  nunciolaw12_few p0.Path >>= fun x5 =>
  nunciolaw12_few p0.Query >>= fun x6 =>
  nunciolaw12_few p0.Frag >>= fun x7 =>
  some (uri_Uri.mk x1 x2 x3 x4 x5 x6 x7 p0.Auth p0.HasUser p0.HasPort p0.HasQuery p0.HasFrag)
set_option maxRecDepth 100000 in
set_option maxHeartbeats 4000000 in
theorem nunciolaw12_mine_ok : ∀ (p0 : R12_Uri) (o : uri_Uri), nunciolaw12_mine p0 = some o → PCall Try.prog 16 [.agg [sV p0.Scheme, sV p0.User, sV p0.Host, sV p0.Port, sV p0.Path, sV p0.Query, sV p0.Frag, bV p0.Auth, bV p0.HasUser, bV p0.HasPort, bV p0.HasQuery, bV p0.HasFrag]] (t_nunciolaw12_mine o) := by
  intro p0 o h
  unfold nunciolaw12_mine at h
  refine PCall.ofB mixed tbOk nunciolaw12_mine_lv Try.func16 rfl (by kernel_rfl) (Nat.le_of_ble_eq_true rfl) ?_
  refine And.intro (by decide +kernel) (And.intro rfl ?_)
  refine st_calld [sV p0.Scheme] t_nunciolaw12_few h (fun x1 hy => (nunciolaw12_few_ok p0.Scheme x1 hy)) (fun x1 hy h => ?_)
  refine st_calld [sV p0.User] t_nunciolaw12_few h (fun x2 hy => (nunciolaw12_few_ok p0.User x2 hy)) (fun x2 hy h => ?_)
  refine st_calld [sV p0.Host] t_nunciolaw12_few h (fun x3 hy => (nunciolaw12_few_ok p0.Host x3 hy)) (fun x3 hy h => ?_)
  refine st_calld [sV p0.Port] t_nunciolaw12_few h (fun x4 hy => (nunciolaw12_few_ok p0.Port x4 hy)) (fun x4 hy h => ?_)
  refine st_calld [sV p0.Path] t_nunciolaw12_few h (fun x5 hy => (nunciolaw12_few_ok p0.Path x5 hy)) (fun x5 hy h => ?_)
  refine st_calld [sV p0.Query] t_nunciolaw12_few h (fun x6 hy => (nunciolaw12_few_ok p0.Query x6 hy)) (fun x6 hy h => ?_)
  refine st_calld [sV p0.Frag] t_nunciolaw12_few h (fun x7 hy => (nunciolaw12_few_ok p0.Frag x7 hy)) (fun x7 hy h => ?_)
  refine st_ret (t := t_nunciolaw12_mine) h ?_
  exact .refl _
noncomputable def strings_Builder_String_2 (h0_0 : Bool) (h0_1 : (List Int)) : Option ((List UInt8)) :=
  b2s h0_1
set_option maxRecDepth 100000 in
set_option maxHeartbeats 4000000 in
theorem strings_Builder_String_2_ok : ∀ (h0_0 : Bool) (h0_1 : (List Int)) (o : (List UInt8)), strings_Builder_String_2 h0_0 h0_1 = some o → CallOK Try.prog 45 [.ptr 0 0] ⟨[[.sp Try.prog 67 h0_0 0 0, .own 0 5 1 (h0_1.map (cNum .u8))]], [(h0_1.map (cNum .u8)).length]⟩ (t_strings_Builder_String_2 o) ⟨[[.sp Try.prog 67 h0_0 0 0, .p (.sl false (h0_1.map (cNum .u8)))]], [((h0_1.map (cNum .u8)).length + 1)]⟩ := by
  intro h0_0 h0_1 o h
  unfold strings_Builder_String_2 at h
  exact builderString_ok [[.sp Try.prog 67 h0_0 0 0, .own 0 5 1 (h0_1.map (cNum .u8))]] [(h0_1.map (cNum .u8)).length] 0 0 [.sp Try.prog 67 h0_0 0 0, .own 0 5 1 (h0_1.map (cNum .u8))] (h0_1.map (cNum .u8)) rfl rfl rfl (b2s_cells h)
noncomputable def strings_Builder_copyCheck_2 (h0_0 : Bool) (h0_1 : (List Int)) : Option (Bool) :=
  some true
set_option maxRecDepth 100000 in
set_option maxHeartbeats 4000000 in
theorem strings_Builder_copyCheck_2_ok : ∀ (h0_0 : Bool) (h0_1 : (List Int)) (o : Bool), strings_Builder_copyCheck_2 h0_0 h0_1 = some o → CallOK Try.prog 76 [.ptr 0 0] ⟨[[.sp Try.prog 67 h0_0 0 0, .own 0 5 1 (h0_1.map (cNum .u8))]], [(h0_1.map (cNum .u8)).length]⟩ (t_strings_Builder_copyCheck_2 o) ⟨[[.sp Try.prog 67 o 0 0, .own 0 5 1 (h0_1.map (cNum .u8))]], [(h0_1.map (cNum .u8)).length]⟩ := by
  intro h0_0 h0_1 o h
  unfold strings_Builder_copyCheck_2 at h
  cases h
  exact copyCheck_ok [[.sp Try.prog 67 h0_0 0 0, .own 0 5 1 (h0_1.map (cNum .u8))]] _ 0 [.sp Try.prog 67 h0_0 0 0, .own 0 5 1 (h0_1.map (cNum .u8))] rfl rfl
noncomputable def strings_Builder_WriteString_2 (p1 : (List UInt8)) (h0_0 : Bool) (h0_1 : (List Int)) : Option (Int × Unit × Bool × (List Int)) :=
  strings_Builder_copyCheck_2 h0_0 h0_1 >>= fun x1 =>
  appL 1 h0_1 (s2b p1) >>= fun x2 =>
  some ((p1.length : Int), (), x1, x2)
set_option maxRecDepth 100000 in
set_option maxHeartbeats 4000000 in
theorem strings_Builder_WriteString_2_ok : ∀ (p1 : (List UInt8)) (h0_0 : Bool) (h0_1 : (List Int)) (o : Int × Unit × Bool × (List Int)), strings_Builder_WriteString_2 p1 h0_0 h0_1 = some o → CallOK Try.prog 44 [.ptr 0 0, .p (sV p1)] ⟨[[.sp Try.prog 67 h0_0 0 0, .own 0 5 1 (h0_1.map (cNum .u8))]], [(h0_1.map (cNum .u8)).length]⟩ (t_strings_Builder_WriteString_2 o) ⟨[[.sp Try.prog 67 o.2.2.1 0 0, .own 0 5 1 (o.2.2.2.map (cNum .u8))]], [(o.2.2.2.map (cNum .u8)).length]⟩ := by
  intro p1 h0_0 h0_1 o h
  unfold strings_Builder_WriteString_2 at h
  refine CallOK.ofB mixed tbOk strings_Builder_WriteString_2_lv Try.func44 rfl (by kernel_rfl) (Nat.le_of_ble_eq_true rfl) rfl rfl rfl ?_
  refine st_callc _ _ h (fun x1 hy => ((strings_Builder_copyCheck_2_ok h0_0 h0_1 x1 hy).fr [0] [0] rfl rfl rfl)) (fun x1 hy h => ?_)
  refine st_appso (a := h0_1) (b := p1) h rfl (fun x2 hi h => ?_)
  refine vrfl ?_
  refine Exists.intro _ (And.intro (Le.refl _ _ _) ?_)
  exact st_retc (t := t_strings_Builder_WriteString_2) (ss := fun o => ⟨[[.sp Try.prog 67 o.2.2.1 0 0, .own 0 5 1 (o.2.2.2.map (cNum .u8))]], [(o.2.2.2.map (cNum .u8)).length]⟩) h ⟨[0], rfl, .refl _, .refl _, rfl⟩
noncomputable def uri_Text_1_L1 (p0 : Bool) (p1 : (List (List UInt8))) (v9 : Int) (h0_0_ : Bool) (h0_1 : (List Int)) : Option ((Bool × (List Int))) :=
  if (decide (v9 < (p1.length : Int))) then
    idx p1 v9 >>= fun x2 =>
    if p0 then
      strings_Builder_WriteString_2 x2 h0_0_ h0_1 >>= fun x3 =>
      uri_Text_1_L1 p0 p1 (wr (v9 + 1)) x3.2.2.1 x3.2.2.2
    else
      uri_Text_1_L1 p0 p1 (wr (v9 + 1)) h0_0_ h0_1
  else
    some (h0_0_, h0_1)
  partial_fixpoint
set_option maxRecDepth 100000 in
set_option maxHeartbeats 4000000 in
theorem uri_Text_1_L1_grp : ∀ (p0 : Bool) (p1 : (List (List UInt8))), (∀ (v9 : Int) (h0_0_ : Bool) (h0_1 : (List Int)) (o1 : (Bool × (List Int))), uri_Text_1_L1 p0 p1 v9 h0_0_ h0_1 = some o1 → TL (1, 0) Try.prog 17 uri_Text_1_L1_c (JP1 (1, 0) 17 o1 (.exit 0) (uri_Text_1_L1_x0 p0 p1)) (uri_Text_1_L1_st p0 p1 v9 h0_0_ h0_1)) := by
  intro p0 p1
  refine uri_Text_1_L1.partial_correctness p0 p1 _ ?_
  intro uri_Text_1_L1' ih_uri_Text_1_L1 v9 h0_0_ h0_1 o1 h
  refine TL.round (bwp_sound mixed tbOk (lv := uri_Text_1_lv) _ _ _ ?_)
  refine st_test h (fun hb h => ?_) (fun hb h => ?_)
  · refine st_idx (l := p1) (c := cStr) (c' := cStr) h (fun _ => rfl) (fun _ => rfl) (by decide) (fun x2 hi h => ?_)
    refine st_test h (fun hb h => ?_) (fun hb h => ?_)
    · refine st_callc _ _ h (fun x3 hy => ((strings_Builder_WriteString_2_ok x2 h0_0_ h0_1 x3 hy).fr [0] [0] rfl rfl rfl)) (fun x3 hy h => ?_)
      refine TL.le (τ := uri_Text_1_L1_st p0 p1 (wr (v9 + 1)) x3.2.2.1 x3.2.2.2) ?_ ((ih_uri_Text_1_L1 (wr (v9 + 1)) x3.2.2.1 x3.2.2.2 _ h))
      exact Le.tow 1 1 rfl (.cons rfl (.refl _) (.cons rfl (.refl _) (.cons rfl (.refl _) (.cons rfl (.refl _) (.cons rfl (.refl _) (.nil)))))) (.refl _) rfl
    · refine TL.le (τ := uri_Text_1_L1_st p0 p1 (wr (v9 + 1)) h0_0_ h0_1) ?_ ((ih_uri_Text_1_L1 (wr (v9 + 1)) h0_0_ h0_1 _ h))
      exact Le.tow 1 1 rfl (.cons rfl (.refl _) (.cons rfl (.refl _) (.cons rfl (.refl _) (.cons rfl (.refl _) (.cons rfl (.refl _) (.nil)))))) (.refl _) rfl
  · exact JP1.a h (Le.tow 1 1 rfl (.nil) (.refl _) rfl)
theorem uri_Text_1_L1_ok : ∀ (p0 : Bool) (p1 : (List (List UInt8))) (v9 : Int) (h0_0_ : Bool) (h0_1 : (List Int)) (o1 : (Bool × (List Int))), uri_Text_1_L1 p0 p1 v9 h0_0_ h0_1 = some o1 → TL (1, 0) Try.prog 17 uri_Text_1_L1_c (JP1 (1, 0) 17 o1 (.exit 0) (uri_Text_1_L1_x0 p0 p1)) (uri_Text_1_L1_st p0 p1 v9 h0_0_ h0_1) := fun p0 p1 v9 h0_0_ h0_1 o1 h => (uri_Text_1_L1_grp p0 p1) v9 h0_0_ h0_1 o1 h
noncomputable def uri_Text_1 (p0 : Bool) (p1 : (List (List UInt8))) (h0_0 : Bool) : Option (Bool × (List Int)) :=
  (uri_Text_1_L1 p0 p1 0 h0_0 []) >>= fun o1 =>
  some (o1.1, o1.2)
set_option maxRecDepth 100000 in
set_option maxHeartbeats 4000000 in
theorem uri_Text_1_ok : ∀ (p0 : Bool) (p1 : (List (List UInt8))) (h0_0 : Bool) (o : Bool × (List Int)), uri_Text_1 p0 p1 h0_0 = some o → CallOK Try.prog 43 [.p (bV p0), .p (.sl false (p1.map cStr)), .ptr 0 0] ⟨[[.sp Try.prog 67 h0_0 0 0, .p (.sl true [])]], []⟩ (t_uri_Text_1 o) ⟨[[.sp Try.prog 67 o.1 0 0, .own 0 5 1 (o.2.map (cNum .u8))]], [(o.2.map (cNum .u8)).length]⟩ := by
  intro p0 p1 h0_0 o h
  unfold uri_Text_1 at h
  refine CallOK.ofB mixed tbOk uri_Text_1_lv Try.func43 rfl (by kernel_rfl) (Nat.le_of_ble_eq_true rfl) rfl rfl rfl ?_
  refine view (lenMap _ _) rfl ?_
  refine st_bind h (fun o1 ho hk => ?_)
  refine Exists.intro (JP1 _ _ o1 (.exit 0) (uri_Text_1_L1_x0 p0 p1)) (And.intro (T_le (τ := uri_Text_1_L1_st p0 p1 0 h0_0 []) ?_ (TL.loop (uri_Text_1_L1_ok p0 p1 0 h0_0 [] o1 ho))) (join1 ?_))
  · exact (Le.ownH 0 1 5 1 rfl rfl sizeNil).trans (Le.tow 1 1 rfl (.cons rfl (.refl _) (.cons rfl (.refl _) (.cons rfl (.refl _) (.cons rfl (.refl _) (.cons rfl (.refl _) (.nil)))))) (.refl _) rfl)
  have h := hk
  refine Exists.intro _ (And.intro (Le.refl _ _ _) ?_)
  exact st_retc (t := t_uri_Text_1) (ss := fun o => ⟨[[.sp Try.prog 67 o.1 0 0, .own 0 5 1 (o.2.map (cNum .u8))]], [(o.2.map (cNum .u8)).length]⟩) h ⟨[0], rfl, .refl _, .refl _, rfl⟩
noncomputable def uri_Text_1_2_L1 (p0 : Bool) (p1 : (List (List UInt8))) (v9 : Int) (h0_0_ : Bool) (h0_1_ : (List Int)) : Option ((Bool × (List Int))) :=
  if (decide (v9 < (p1.length : Int))) then
    idx p1 v9 >>= fun x2 =>
    if p0 then
      strings_Builder_WriteString_2 x2 h0_0_ h0_1_ >>= fun x3 =>
      uri_Text_1_2_L1 p0 p1 (wr (v9 + 1)) x3.2.2.1 x3.2.2.2
    else
      uri_Text_1_2_L1 p0 p1 (wr (v9 + 1)) h0_0_ h0_1_
  else
    some (h0_0_, h0_1_)
  partial_fixpoint
set_option maxRecDepth 100000 in
set_option maxHeartbeats 4000000 in
theorem uri_Text_1_2_L1_grp : ∀ (p0 : Bool) (p1 : (List (List UInt8))), (∀ (v9 : Int) (h0_0_ : Bool) (h0_1_ : (List Int)) (o1 : (Bool × (List Int))), uri_Text_1_2_L1 p0 p1 v9 h0_0_ h0_1_ = some o1 → TL (1, 1) Try.prog 17 uri_Text_1_2_L1_c (JP1 (1, 1) 17 o1 (.exit 0) (uri_Text_1_2_L1_x0 p0 p1)) (uri_Text_1_2_L1_st p0 p1 v9 h0_0_ h0_1_)) := by
  intro p0 p1
  refine uri_Text_1_2_L1.partial_correctness p0 p1 _ ?_
  intro uri_Text_1_2_L1' ih_uri_Text_1_2_L1 v9 h0_0_ h0_1_ o1 h
  refine TL.round (bwp_sound mixed tbOk (lv := uri_Text_1_2_lv) _ _ _ ?_)
  refine st_test h (fun hb h => ?_) (fun hb h => ?_)
  · refine st_idx (l := p1) (c := cStr) (c' := cStr) h (fun _ => rfl) (fun _ => rfl) (by decide) (fun x2 hi h => ?_)
    refine st_test h (fun hb h => ?_) (fun hb h => ?_)
    · refine st_callc _ _ h (fun x3 hy => ((strings_Builder_WriteString_2_ok x2 h0_0_ h0_1_ x3 hy).fr [0] [0] rfl rfl rfl)) (fun x3 hy h => ?_)
      refine TL.le (τ := uri_Text_1_2_L1_st p0 p1 (wr (v9 + 1)) x3.2.2.1 x3.2.2.2) ?_ ((ih_uri_Text_1_2_L1 (wr (v9 + 1)) x3.2.2.1 x3.2.2.2 _ h))
      exact Le.tow 1 1 rfl (.cons rfl (.refl _) (.cons rfl (.refl _) (.cons rfl (.refl _) (.cons rfl (.refl _) (.cons rfl (.refl _) (.nil)))))) (.refl _) rfl
    · refine TL.le (τ := uri_Text_1_2_L1_st p0 p1 (wr (v9 + 1)) h0_0_ h0_1_) ?_ ((ih_uri_Text_1_2_L1 (wr (v9 + 1)) h0_0_ h0_1_ _ h))
      exact Le.tow 1 1 rfl (.cons rfl (.refl _) (.cons rfl (.refl _) (.cons rfl (.refl _) (.cons rfl (.refl _) (.cons rfl (.refl _) (.nil)))))) (.refl _) rfl
  · exact JP1.a h (Le.tow 1 1 rfl (.nil) (.refl _) rfl)
theorem uri_Text_1_2_L1_ok : ∀ (p0 : Bool) (p1 : (List (List UInt8))) (v9 : Int) (h0_0_ : Bool) (h0_1_ : (List Int)) (o1 : (Bool × (List Int))), uri_Text_1_2_L1 p0 p1 v9 h0_0_ h0_1_ = some o1 → TL (1, 1) Try.prog 17 uri_Text_1_2_L1_c (JP1 (1, 1) 17 o1 (.exit 0) (uri_Text_1_2_L1_x0 p0 p1)) (uri_Text_1_2_L1_st p0 p1 v9 h0_0_ h0_1_) := fun p0 p1 v9 h0_0_ h0_1_ o1 h => (uri_Text_1_2_L1_grp p0 p1) v9 h0_0_ h0_1_ o1 h
noncomputable def uri_Text_1_2 (p0 : Bool) (p1 : (List (List UInt8))) (h0_0 : Bool) (h0_1 : (List Int)) : Option (Bool × (List Int)) :=
  (uri_Text_1_2_L1 p0 p1 0 h0_0 h0_1) >>= fun o1 =>
  some (o1.1, o1.2)
set_option maxRecDepth 100000 in
set_option maxHeartbeats 4000000 in
theorem uri_Text_1_2_ok : ∀ (p0 : Bool) (p1 : (List (List UInt8))) (h0_0 : Bool) (h0_1 : (List Int)) (o : Bool × (List Int)), uri_Text_1_2 p0 p1 h0_0 h0_1 = some o → CallOK Try.prog 43 [.p (bV p0), .p (.sl false (p1.map cStr)), .ptr 0 0] ⟨[[.sp Try.prog 67 h0_0 0 0, .own 0 5 1 (h0_1.map (cNum .u8))]], [(h0_1.map (cNum .u8)).length]⟩ (t_uri_Text_1_2 o) ⟨[[.sp Try.prog 67 o.1 0 0, .own 0 5 1 (o.2.map (cNum .u8))]], [(o.2.map (cNum .u8)).length]⟩ := by
  intro p0 p1 h0_0 h0_1 o h
  unfold uri_Text_1_2 at h
  refine CallOK.ofB mixed tbOk uri_Text_1_2_lv Try.func43 rfl (by kernel_rfl) (Nat.le_of_ble_eq_true rfl) rfl rfl rfl ?_
  refine view (lenMap _ _) rfl ?_
  refine st_bind h (fun o1 ho hk => ?_)
  refine Exists.intro (JP1 _ _ o1 (.exit 0) (uri_Text_1_2_L1_x0 p0 p1)) (And.intro (T_le (τ := uri_Text_1_2_L1_st p0 p1 0 h0_0 h0_1) ?_ (TL.loop (uri_Text_1_2_L1_ok p0 p1 0 h0_0 h0_1 o1 ho))) (join1 ?_))
  · exact Le.tow 1 1 rfl (.cons rfl (.refl _) (.cons rfl (.refl _) (.cons rfl (.refl _) (.cons rfl (.refl _) (.cons rfl (.refl _) (.nil)))))) (.refl _) rfl
  have h := hk
  refine Exists.intro _ (And.intro (Le.refl _ _ _) ?_)
  exact st_retc (t := t_uri_Text_1_2) (ss := fun o => ⟨[[.sp Try.prog 67 o.1 0 0, .own 0 5 1 (o.2.map (cNum .u8))]], [(o.2.map (cNum .u8)).length]⟩) h ⟨[0], rfl, .refl _, .refl _, rfl⟩
noncomputable def uri_Text (p0 : uri_Uri) : Option ((List UInt8)) :=
  uri_Text_1 (!(p0.Scheme == [])) ([p0.Scheme, [58]]) false >>= fun x1 =>
  uri_Text_1_2 p0.Auth ([[47, 47]]) x1.1 x1.2 >>= fun x2 =>
  ( if p0.Auth then
      uri_Text_1_2 p0.HasUser ([p0.User, [64]]) x2.1 x2.2 >>= fun x4 =>
      some (x4.1, x4.2)
    else
      uri_Text_1_2 false ([p0.User, [64]]) x2.1 x2.2 >>= fun x5 =>
      some (x5.1, x5.2) : Option ((Bool × (List Int)))) >>= fun o3 =>
  uri_Text_1_2 p0.Auth [p0.Host] o3.1 o3.2 >>= fun x6 =>
  ( if p0.Auth then
      uri_Text_1_2 p0.HasPort ([[58], p0.Port]) x6.1 x6.2 >>= fun x8 =>
      some (x8.1, x8.2)
    else
      uri_Text_1_2 false ([[58], p0.Port]) x6.1 x6.2 >>= fun x9 =>
      some (x9.1, x9.2) : Option ((Bool × (List Int)))) >>= fun o7 =>
  uri_Text_1_2 true [p0.Path] o7.1 o7.2 >>= fun x10 =>
  uri_Text_1_2 p0.HasQuery ([[63], p0.Query]) x10.1 x10.2 >>= fun x11 =>
  uri_Text_1_2 p0.HasFrag ([[35], p0.Frag]) x11.1 x11.2 >>= fun x12 =>
  strings_Builder_String_2 x12.1 x12.2 >>= fun x13 =>
  some x13
set_option maxRecDepth 100000 in
set_option maxHeartbeats 4000000 in
theorem uri_Text_ok : ∀ (p0 : uri_Uri) (o : (List UInt8)), uri_Text p0 = some o → PCall Try.prog 14 [.agg [sV p0.Scheme, sV p0.User, sV p0.Host, sV p0.Port, sV p0.Path, sV p0.Query, sV p0.Frag, bV p0.Auth, bV p0.HasUser, bV p0.HasPort, bV p0.HasQuery, bV p0.HasFrag]] (t_uri_Text o) := by
  intro p0 o h
  unfold uri_Text at h
  refine PCall.ofB mixed tbOk uri_Text_lv Try.func14 rfl (by kernel_rfl) (Nat.le_of_ble_eq_true rfl) ?_
  refine st_callc _ _ h (fun x1 hy => ((uri_Text_1_ok (!(p0.Scheme == [])) ([p0.Scheme, [58]]) false x1 hy).fr [1] [] rfl rfl rfl).weakC (.cons (.refl _) (.cons (.p (.not)) (.cons (.refl _) (.nil))))) (fun x1 hy h => ?_)
  refine st_callc _ _ h (fun x2 hy => ((uri_Text_1_2_ok p0.Auth ([[47, 47]]) x1.1 x1.2 x2 hy).fr [1] [0] rfl rfl rfl).weakC (.cons (.refl _) (.cons (.p (.not)) (.cons (.refl _) (.nil))))) (fun x2 hy h => ?_)
  refine st_bind h (fun o3 ho hk => ?_)
  refine Exists.intro (JP1 _ _ o3 .normal (uri_Text_J0_0 p0)) (And.intro ?_ (join1 ?_))
  · have h := ho
    refine st_test h (fun hb h => ?_) (fun hb h => ?_)
    · refine st_callc _ _ h (fun x4 hy => ((uri_Text_1_2_ok p0.HasUser ([p0.User, [64]]) x2.1 x2.2 x4 hy).fr [1] [0] rfl rfl rfl).weakC (.cons (.refl _) (.cons (.p (.not)) (.cons (.refl _) (.nil))))) (fun x4 hy h => ?_)
      exact JP1.a h (Le.tow 2 1 rfl (.cons rfl (.refl _) (.cons rfl (.refl _) (.cons rfl (.refl _) (.nil)))) (.refl _) rfl)
    · refine st_callc _ _ h (fun x5 hy => ((uri_Text_1_2_ok false ([p0.User, [64]]) x2.1 x2.2 x5 hy).fr [1] [0] rfl rfl rfl).weakC (.cons (.refl _) (.cons (.p (.not)) (.cons (.refl _) (.nil))))) (fun x5 hy h => ?_)
      exact JP1.a h (Le.tow 2 1 rfl (.cons rfl (.refl _) (.cons rfl (.refl _) (.cons rfl (.refl _) (.nil)))) (.refl _) rfl)
  · have h := hk
    refine st_callc _ _ h (fun x6 hy => ((uri_Text_1_2_ok p0.Auth [p0.Host] o3.1 o3.2 x6 hy).fr [1] [0] rfl rfl rfl).weakC (.cons (.refl _) (.cons (.p (.not)) (.cons (.refl _) (.nil))))) (fun x6 hy h => ?_)
    refine st_bind h (fun o7 ho hk => ?_)
    refine Exists.intro (JP1 _ _ o7 .normal (uri_Text_J1_0 p0)) (And.intro ?_ (join1 ?_))
    · have h := ho
      refine st_test h (fun hb h => ?_) (fun hb h => ?_)
      · refine st_callc _ _ h (fun x8 hy => ((uri_Text_1_2_ok p0.HasPort ([[58], p0.Port]) x6.1 x6.2 x8 hy).fr [1] [0] rfl rfl rfl).weakC (.cons (.refl _) (.cons (.p (.not)) (.cons (.refl _) (.nil))))) (fun x8 hy h => ?_)
        exact JP1.a h (Le.tow 2 1 rfl (.cons rfl (.refl _) (.cons rfl (.refl _) (.cons rfl (.refl _) (.nil)))) (.refl _) rfl)
      · refine st_callc _ _ h (fun x9 hy => ((uri_Text_1_2_ok false ([[58], p0.Port]) x6.1 x6.2 x9 hy).fr [1] [0] rfl rfl rfl).weakC (.cons (.refl _) (.cons (.p (.not)) (.cons (.refl _) (.nil))))) (fun x9 hy h => ?_)
        exact JP1.a h (Le.tow 2 1 rfl (.cons rfl (.refl _) (.cons rfl (.refl _) (.cons rfl (.refl _) (.nil)))) (.refl _) rfl)
    · have h := hk
      refine st_callc _ _ h (fun x10 hy => ((uri_Text_1_2_ok true [p0.Path] o7.1 o7.2 x10 hy).fr [1] [0] rfl rfl rfl).weakC (.cons (.refl _) (.cons (.p (.not)) (.cons (.refl _) (.nil))))) (fun x10 hy h => ?_)
      refine st_callc _ _ h (fun x11 hy => ((uri_Text_1_2_ok p0.HasQuery ([[63], p0.Query]) x10.1 x10.2 x11 hy).fr [1] [0] rfl rfl rfl).weakC (.cons (.refl _) (.cons (.p (.not)) (.cons (.refl _) (.nil))))) (fun x11 hy h => ?_)
      refine st_callc _ _ h (fun x12 hy => ((uri_Text_1_2_ok p0.HasFrag ([[35], p0.Frag]) x11.1 x11.2 x12 hy).fr [1] [0] rfl rfl rfl).weakC (.cons (.refl _) (.cons (.p (.not)) (.cons (.refl _) (.nil))))) (fun x12 hy h => ?_)
      refine st_callc _ _ h (fun x13 hy => ((strings_Builder_String_2_ok x12.1 x12.2 x13 hy).fr [1] [0] rfl rfl rfl)) (fun x13 hy h => ?_)
      refine st_ret (t := t_uri_Text) h ?_
      exact .refl _
noncomputable def nunciolaw12_UriTexts (p0 : R12_Uri) : Option (Bool) :=
  nunciolaw12_mine p0 >>= fun x1 =>
  ( uri_Text x1 >>= fun x3 =>
    nunciolaw12_its x1 >>= fun x4 =>
    R12_Text x4 >>= fun x5 =>
    if (x3 == x5) then
      nunciolaw12_awake >>= fun x6 =>
      some x6
    else
      some false : Option (Bool)) >>= fun o2 =>
  some o2
set_option maxRecDepth 100000 in
set_option maxHeartbeats 4000000 in
theorem nunciolaw12_UriTexts_ok : ∀ (p0 : R12_Uri) (o : Bool), nunciolaw12_UriTexts p0 = some o → PCall Try.prog 4 [.agg [sV p0.Scheme, sV p0.User, sV p0.Host, sV p0.Port, sV p0.Path, sV p0.Query, sV p0.Frag, bV p0.Auth, bV p0.HasUser, bV p0.HasPort, bV p0.HasQuery, bV p0.HasFrag]] (t_nunciolaw12_UriTexts o) := by
  intro p0 o h
  unfold nunciolaw12_UriTexts at h
  refine PCall.ofB mixed tbOk nunciolaw12_UriTexts_lv Try.func4 rfl (by kernel_rfl) (Nat.le_of_ble_eq_true rfl) ?_
  refine st_call [.agg [sV p0.Scheme, sV p0.User, sV p0.Host, sV p0.Port, sV p0.Path, sV p0.Query, sV p0.Frag, bV p0.Auth, bV p0.HasUser, bV p0.HasPort, bV p0.HasQuery, bV p0.HasFrag]] t_nunciolaw12_mine h (fun x1 hy => (nunciolaw12_mine_ok p0 x1 hy)) (fun x1 hy h => ?_)
  refine st_bind h (fun o2 ho hk => ?_)
  refine Exists.intro (JP1 _ _ o2 .normal (nunciolaw12_UriTexts_J0_0 p0 x1)) (And.intro ?_ (join1 ?_))
  · have h := ho
    refine And.intro (by decide +kernel) (And.intro rfl ?_)
    refine st_calld [.agg [sV x1.Scheme, sV x1.User, sV x1.Host, sV x1.Port, sV x1.Path, sV x1.Query, sV x1.Frag, bV x1.Auth, bV x1.HasUser, bV x1.HasPort, bV x1.HasQuery, bV x1.HasFrag]] t_uri_Text h (fun x3 hy => (uri_Text_ok x1 x3 hy)) (fun x3 hy h => ?_)
    refine st_calld [.agg [sV x1.Scheme, sV x1.User, sV x1.Host, sV x1.Port, sV x1.Path, sV x1.Query, sV x1.Frag, bV x1.Auth, bV x1.HasUser, bV x1.HasPort, bV x1.HasQuery, bV x1.HasFrag]] t_nunciolaw12_its h (fun x4 hy => (nunciolaw12_its_ok x1 x4 hy)) (fun x4 hy h => ?_)
    refine st_calld [.agg [sV x4.Scheme, sV x4.User, sV x4.Host, sV x4.Port, sV x4.Path, sV x4.Query, sV x4.Frag, bV x4.Auth, bV x4.HasUser, bV x4.HasPort, bV x4.HasQuery, bV x4.HasFrag]] t_R12_Text h (fun x5 hy => (R12_Text_ok x4 x5 hy)) (fun x5 hy h => ?_)
    refine st_test h (fun hb h => ?_) (fun hb h => ?_)
    · refine st_calld [] t_nunciolaw12_awake h (fun x6 hy => (nunciolaw12_awake_ok x6 hy)) (fun x6 hy h => ?_)
      exact JP1.a h (Le.tow 2 0 rfl (.cons rfl (.refl _) (.nil)) (.refl _) rfl)
    · exact JP1.a h (Le.tow 2 0 rfl (.cons rfl (.refl _) (.nil)) (.refl _) rfl)
  · have h := hk
    refine st_ret (t := t_nunciolaw12_UriTexts) h ?_
    exact .refl _
end Go.Proofs.Ytlhjieapkcnghaa
end

section
namespace Go.Proofs.Ytlhjieapkcnghaa
open Go.RowKit

abbrev mx : Nat := 9223372036854775807
@[simp] theorem idx_nat {α : Type} (l : List α) (i : Nat) : idx l (i : Int) = l[i]? := by
  unfold idx
  rw [if_pos (by omega)]
  rfl
@[simp] theorem idx_0 {α : Type} (l : List α) : idx l 0 = l[0]? := idx_nat l 0
@[simp] theorem idx_1 {α : Type} (l : List α) : idx l 1 = l[1]? := idx_nat l 1
@[simp] theorem bind_some' {α β : Type} (x : α) (f : α → Option β) : (some x >>= f) = f x := rfl
theorem wr_in {n : Int} (h1 : -9223372036854775808 ≤ n) (h2 : n ≤ 9223372036854775807) : wr n = n := w64 h1 h2
theorem wr_succ {i : Nat} (h : i < 9223372036854775807) : wr ((i : Int) + 1) = ((i + 1 : Nat) : Int) := by rw [wr_in (by omega) (by omega)]; rfl
theorem appL_ok {α : Type} {bytes : Nat} {a b : List α} (h : (a.length + b.length) * bytes ≤ 140737488355328) (h2 : a.length + b.length ≤ 9223372036854775807) : appL bytes a b = some (a ++ b) := by
  unfold appL; rw [if_pos ⟨h, h2⟩]
theorem cutL_ok {α : Type} {l : List α} {lo hi : Int} (h1 : 0 ≤ lo) (h2 : lo ≤ hi) (h3 : hi ≤ l.length) : cutL l lo hi = some ((l.take hi.toNat).drop lo.toNat) := by
  unfold cutL; rw [if_pos ⟨h1, h2, h3⟩]
theorem need_ok {p : Prop} [Decidable p] (h : p) : need p = some () := by unfold need; rw [if_pos h]
theorem getE {α : Type} {l : List α} {i : Nat} (h : i < l.length) : l[i]? = some l[i] := List.getElem?_eq_getElem h
theorem ltI (a b : Nat) : decide ((a : Int) < (b : Int)) = decide (a < b) := by
  congr 1; exact propext Int.ofNat_lt
/-- A loop over a list's places: what holds of the tail from i on. -/
theorem upto {α : Type} {l : List α} {φ : Nat → Prop} (h0 : φ l.length) (h : ∀ i, i < l.length → φ (i + 1) → φ i) : ∀ i, i ≤ l.length → φ i := by
  have key : ∀ n i, l.length - i = n → i ≤ l.length → φ i := by
    intro n
    induction n with
    | zero => intro i h1 h2; have : i = l.length := by omega
              subst this; exact h0
    | succ n ih => intro i h1 h2; exact h i (by omega) (ih (i + 1) (by omega) (by omega))
  exact fun i hi => key _ i rfl hi
theorem dropE {α : Type} {l : List α} {i : Nat} (h : i < l.length) : l.drop i = l[i] :: l.drop (i + 1) := List.drop_eq_getElem_cons h
end Go.Proofs.Ytlhjieapkcnghaa
end

section
namespace Go.Proofs.Ytlhjieapkcnghaa
open Go.RowKit

def letB (c : UInt8) : Bool := (decide (97 ≤ c.toNat) && decide (c.toNat ≤ 122)) || (decide (65 ≤ c.toNat) && decide (c.toNat ≤ 90))
def digB (c : UInt8) : Bool := decide (48 ≤ c.toNat) && decide (c.toNat ≤ 57)
def hexB (c : UInt8) : Bool := digB c || (decide (97 ≤ c.toNat) && decide (c.toNat ≤ 102)) || (decide (65 ≤ c.toNat) && decide (c.toNat ≤ 70))
theorem eachB {p : UInt8 → Prop} (h : ∀ n : Fin 256, p (UInt8.ofNat n.1)) (c : UInt8) : p c := by
  have := h ⟨c.toNat, c.toNat_lt⟩
  simpa using this
theorem letE : ∀ c : UInt8, uri_letter (c.toNat : Int) = some (letB c) := eachB (by decide +kernel)
theorem digE : ∀ c : UInt8, uri_digit (c.toNat : Int) = some (digB c) := eachB (by decide +kernel)
theorem worthE : ∀ c : UInt8, (uri_worth (c.toNat : Int)).map (·.2) = some (hexB c) := eachB (by decide +kernel)
theorem idxB (l : List UInt8) (c : UInt8) : strings_IndexByte l (c.toNat : Int) = some (Lib.indexByte l c) := by
  rw [strings_IndexByte, internal_stringslite_IndexByte]
  simp
/-- What may stand in a part: free bytes, and some more. -/
def takesB (more : List UInt8) (c : UInt8) : Bool := letB c || digB c || decide (Lib.indexByte [45, 46, 95, 126, 33, 36, 38, 39, 40, 41, 42, 43, 44, 59, 61] c ≥ 0) || decide (Lib.indexByte more c ≥ 0)
theorem takesE (more : List UInt8) (c : UInt8) : uri_with_1 (c.toNat : Int) more = some (takesB more c) := by
  rw [uri_with_1, letE, digE, idxB, idxB]
  unfold takesB
  cases letB c <;> cases digB c <;> simp only [bind_some', if_true, if_false, Bool.false_eq_true, Bool.true_or, Bool.false_or, Bool.or_true]
  cases decide (Lib.indexByte [45, 46, 95, 126, 33, 36, 38, 39, 40, 41, 42, 43, 44, 59, 61] c ≥ 0) <;> rfl
def fitsP (more : List UInt8) : List UInt8 → Bool
  | [] => true
  | c :: t => if c == 37 then (match t with
    | a :: b :: r => hexB a && hexB b && fitsP more r
    | _ => false) else takesB more c && fitsP more t
theorem fitsP_cons (more : List UInt8) (c : UInt8) (t : List UInt8) : fitsP more (c :: t) = if (c == 37) = true then (match t with
    | a :: b :: r => hexB a && hexB b && fitsP more r
    | _ => false) else (takesB more c && fitsP more t) := by
  cases t with
  | nil => simp [fitsP]
  | cons a t => cases t with
    | nil => simp [fitsP]
    | cons b r => simp [fitsP]
theorem chr37 (c : UInt8) : ((c.toNat : Int) == 37) = (c == 37) := by
  revert c
  exact eachB (by decide +kernel)
theorem codedE (l : List UInt8) (k : Nat) (hk : k < l.length) (hl : l.length ≤ 1000000000) : ∃ v, uri_coded l (k : Int) = some (v, match l.drop (k + 1) with
    | a :: b :: _ => hexB a && hexB b
    | _ => false) := by
  have e1 : wr ((l.length : Int) - k) = ((l.length - k : Nat) : Int) := by rw [wr_in (by omega) (by omega)]; omega
  have e2 : wr ((k : Int) + 1) = ((k + 1 : Nat) : Int) := by rw [wr_in (by omega) (by omega)]; rfl
  have e3 : wr ((k : Int) + 2) = ((k + 2 : Nat) : Int) := by rw [wr_in (by omega) (by omega)]; rfl
  rw [uri_coded, e1, e2, e3]
  by_cases h : l.length - k < 3
  · rw [decide_eq_true (by omega : ((l.length - k : Nat) : Int) < 3), if_pos rfl]
    have hd : (l.drop (k + 1)).length < 2 := by rw [List.length_drop]; omega
    refine ⟨0, ?_⟩
    cases hx : l.drop (k + 1) with
    | nil => rfl
    | cons a t =>
      cases t with
      | nil => rfl
      | cons b r => rw [hx] at hd; simp at hd; omega
  · have h1 : k + 1 < l.length := by omega
    have h2 : k + 2 < l.length := by omega
    rw [decide_eq_false (by omega : ¬ ((l.length - k : Nat) : Int) < 3), if_neg (by simp)]
    simp only [idx_nat, getE h1, getE h2, bind_some']
    obtain ⟨⟨v1, b1⟩, w1, w2⟩ := Option.map_eq_some_iff.1 (worthE l[k + 1])
    obtain ⟨⟨v2, b2⟩, w3, w4⟩ := Option.map_eq_some_iff.1 (worthE l[k + 2])
    simp only at w2 w4
    rw [w1, w3, dropE h1, dropE h2]
    simp only [bind_some', ← w2, ← w4]
    cases b1 <;> exact ⟨_, rfl⟩
theorem fitsL (l more : List UInt8) (hl : l.length ≤ 1000000000) : ∀ n k, k + n = l.length → uri_fits_uri_with_1_L1 l more (k : Int) = some (if fitsP more (l.drop k) then .inl () else .inr ()) := by
  intro n
  induction n using Nat.strongRecOn with
  | ind n ih =>
    intro k hn
    rw [uri_fits_uri_with_1_L1, ltI]
    by_cases hk : k < l.length
    · obtain ⟨v, hv⟩ := codedE l k hk hl
      have e1 : wr (wr ((k : Int) + 2) + 1) = ((k + 3 : Nat) : Int) := by rw [wr_in (n := (k : Int) + 2) (by omega) (by omega), wr_in (by omega) (by omega)]; omega
      rw [decide_eq_true hk, if_pos rfl, idx_nat, getE hk, dropE hk, e1, wr_succ (by omega)]
      simp only [bind_some', chr37, takesE, hv]
      rw [fitsP_cons]
      by_cases h37 : (l[k] == 37) = true
      · rw [if_pos h37, if_pos h37]
        cases hx : l.drop (k + 1) with
        | nil => rfl
        | cons a t =>
          cases t with
          | nil => rfl
          | cons b r =>
            have hlen : k + 3 ≤ l.length := by have := congrArg List.length hx; simp at this; omega
            have hr : r = l.drop (k + 3) := by
              have := congrArg (List.drop 2) hx
              rw [List.drop_drop] at this
              simpa using this.symm
            simp only
            by_cases hab : (hexB a && hexB b) = true
            · simp only [hab, Bool.not_true, Bool.false_eq_true, if_false, Bool.true_and]
              rw [ih (n - 3) (by omega) (k + 3) (by omega), hr]
            · simp only [Bool.eq_false_iff.2 hab, Bool.not_false, if_true, Bool.false_and, Bool.false_eq_true, if_false]
      · rw [if_neg h37, if_neg h37]
        cases ht : takesB more l[k] with
        | false => rfl
        | true =>
          simp only [Bool.not_true, Bool.false_eq_true, if_false, Bool.true_and]
          exact ih (n - 1) (by omega) (k + 1) (by omega)
    · rw [decide_eq_false hk, if_neg (by simp), List.drop_eq_nil_of_le (by omega)]
      rfl
theorem fitsE (l more : List UInt8) (hl : l.length ≤ 1000000000) : uri_fits_uri_with_1 l more = some (fitsP more l) := by
  have := fitsL l more hl l.length 0 (by omega)
  rw [List.drop_zero] at this
  rw [uri_fits_uri_with_1]
  show (uri_fits_uri_with_1_L1 l more ((0 : Nat) : Int) >>= _) = _
  rw [this]
  cases fitsP more l <;> rfl
def schB (i : Nat) (c : UInt8) : Bool := letB c || (decide (0 < i) && (digB c || decide (Lib.indexByte [43, 45, 46] c ≥ 0)))
def schP : List UInt8 → Nat → Bool
  | [], _ => true
  | c :: t, i => schB i c && schP t (i + 1)
theorem schL (a0 a1 a2 a3 a4 a5 a6 a7 : List UInt8) (b0 b1 b2 b3 b4 : Bool) (l : List UInt8) (hl : l.length ≤ 1000000000) : ∀ k, k ≤ l.length → uri_reader_scheme_L1 a0 a1 a2 a3 a4 a5 a6 a7 b0 b1 b2 b3 b4 (l.length : Int) l (k : Int) = some (if schP (l.drop k) k then .inl () else .inr ()) := by
  refine upto ?_ fun k hk ih => ?_
  · rw [uri_reader_scheme_L1]; simp [schP]
  · rw [uri_reader_scheme_L1, ltI, decide_eq_true hk, wr_succ (by omega), dropE hk, schP, ih]
    simp only [if_true, idx_nat, getE hk, bind_some', letE, digE, idxB]
    have e0 : ((k : Int) == 0) = decide (k = 0) := by
      by_cases h : k = 0
      · subst h; rfl
      · rw [decide_eq_false h]; exact beq_eq_false_iff_ne.2 (by omega)
    have e1 : decide (0 < k) = !decide (k = 0) := by
      by_cases h : k = 0
      · subst h; rfl
      · rw [decide_eq_false h, decide_eq_true (by omega)]; rfl
    have e2 : decide (Lib.indexByte [43, 45, 46] l[k] < 0) = !decide (Lib.indexByte [43, 45, 46] l[k] ≥ 0) := by
      by_cases h : Lib.indexByte [43, 45, 46] l[k] < 0
      · rw [decide_eq_true h, decide_eq_false (by omega)]; rfl
      · rw [decide_eq_false h, decide_eq_true (by omega)]; rfl
    rw [e0, e2]
    unfold schB
    rw [e1]
    cases letB l[k] <;> cases decide (k = 0) <;> cases digB l[k] <;> cases decide (Lib.indexByte [43, 45, 46] l[k] ≥ 0) <;> rfl
theorem digL (a b c : List UInt8) (d : List UInt8) (e f : Bool) (x3 : List UInt8 × List UInt8) (o4 x6 : List UInt8 × List UInt8 × Bool) (hl : x6.2.1.length ≤ 1000000000) : ∀ k, k ≤ x6.2.1.length →
    uri_reader_authority_L1 a b c d e f x3 o4 x6 (k : Int) = some (if (x6.2.1.drop k).all digB then .inl () else .inr ()) := by
  refine upto ?_ fun k hk ih => ?_
  · rw [uri_reader_authority_L1]; simp
  · rw [uri_reader_authority_L1, ltI, decide_eq_true hk, wr_succ (by omega), dropE hk, List.all_cons, ih]
    simp only [if_true, idx_nat, getE hk, bind_some', digE]
    cases digB x6.2.1[k] <;> rfl
end Go.Proofs.Ytlhjieapkcnghaa
end

section
namespace Go.Proofs.Ytlhjieapkcnghaa
open Go.RowKit

noncomputable def fitE (l more : List UInt8) : Option Bool := if l.length ≤ 1000000000 then some (fitsP more l) else uri_fits_uri_with_1 l more
theorem fit_eq : uri_fits_uri_with_1 = fitE := by
  funext l more
  unfold fitE
  split
  · rename_i h; exact fitsE l more h
  · rfl
noncomputable def schE (a0 a1 a2 a3 a4 a5 a6 a7 : List UInt8) (b0 b1 b2 b3 b4 : Bool) (x : Int) (l : List UInt8) (v : Int) : Option (Unit ⊕ Unit) :=
  if x = (l.length : Int) ∧ v = 0 ∧ l.length ≤ 1000000000 then some (if schP l 0 then .inl () else .inr ()) else uri_reader_scheme_L1 a0 a1 a2 a3 a4 a5 a6 a7 b0 b1 b2 b3 b4 x l v
theorem sch_eq : uri_reader_scheme_L1 = schE := by
  funext a0 a1 a2 a3 a4 a5 a6 a7 b0 b1 b2 b3 b4 x l v
  unfold schE
  split
  · rename_i h
    obtain ⟨rfl, rfl, h⟩ := h
    have := schL a0 a1 a2 a3 a4 a5 a6 a7 b0 b1 b2 b3 b4 l h 0 (Nat.zero_le _)
    rw [List.drop_zero] at this
    exact this
  · rfl
noncomputable def digE' (a b c : List UInt8) (d : List UInt8) (e f : Bool) (x3 : List UInt8 × List UInt8) (o4 x6 : List UInt8 × List UInt8 × Bool) (v : Int) : Option (Unit ⊕ Unit) :=
  if v = 0 ∧ x6.2.1.length ≤ 1000000000 then some (if x6.2.1.all digB then .inl () else .inr ()) else uri_reader_authority_L1 a b c d e f x3 o4 x6 v
theorem dig_eq : uri_reader_authority_L1 = digE' := by
  funext a b c d e f x3 o4 x6 v
  unfold digE'
  split
  · rename_i h
    obtain ⟨rfl, h⟩ := h
    have := digL a b c d e f x3 o4 x6 h 0 (Nat.zero_le _)
    rw [List.drop_zero] at this
    exact this
  · rfl
set_option maxRecDepth 100000 in
theorem awake12 : nunciolaw12_awake = some true := by
  unfold nunciolaw12_awake uri_Split uri_Split_L1_r0 uri_Split_L1_r1 uri_Split_L1_r2 uri_Split_L1_r3 uri_Split_L1_r4 uri_reader_scheme uri_reader_authority uri_reader_path uri_reader_query uri_reader_frag
  rw [fit_eq, sch_eq, dig_eq]
  kernel_rfl
theorem s2b_app (a b : List UInt8) : s2b (a ++ b) = s2b a ++ s2b b := by simp [s2b]
theorem s2b_len (a : List UInt8) : (s2b a).length = a.length := by simp [s2b]
theorem b2s_s2b (l : List UInt8) : b2s (s2b l) = some l := by
  unfold b2s s2b
  rw [if_pos]
  · rw [List.map_map]
    congr 1
    have : ∀ c : UInt8, ((fun n : Int => UInt8.ofNat n.toNat) ∘ fun c : UInt8 => (c.toNat : Int)) c = c := fun c => by simp
    rw [show ((fun n : Int => UInt8.ofNat n.toNat) ∘ fun c : UInt8 => (c.toNat : Int)) = id from funext this, List.map_id]
  · rw [List.all_eq_true]
    intro n hn
    obtain ⟨c, -, rfl⟩ := List.mem_map.1 hn
    have := c.toNat_lt
    simp only [decide_eq_true_eq]
    omega
def wT (b : Bool) (l : List (List UInt8)) : List UInt8 := if b then l.flatten else []
theorem putL (b : Bool) (l : List (List UInt8)) (hl : l.length < 1000) : ∀ k, k ≤ l.length → ∀ (f : Bool) (acc : List UInt8), acc.length + (l.drop k).flatten.length ≤ 1000000000 → ∃ f', uri_Text_1_2_L1 b l (k : Int) f (s2b acc) = some (f', s2b (acc ++ wT b (l.drop k))) := by
  refine upto ?_ fun k hk ih => ?_
  · intro f acc _
    rw [uri_Text_1_2_L1]
    exact ⟨f, by cases b <;> simp [wT]⟩
  · intro f acc h
    rw [dropE hk, List.flatten_cons, List.length_append] at h
    rw [uri_Text_1_2_L1, wr_succ (by omega), ltI, decide_eq_true hk]
    simp only [if_true, idx_nat, getE hk, bind_some']
    cases b with
    | false =>
      obtain ⟨f', hf⟩ := ih f acc (by omega)
      exact ⟨f', by simpa [wT] using hf⟩
    | true =>
      obtain ⟨f', hf⟩ := ih true (acc ++ l[k]) (by rw [List.length_append]; omega)
      refine ⟨f', ?_⟩
      rw [dropE hk]
      simp only [if_true]
      rw [strings_Builder_WriteString_2, strings_Builder_copyCheck_2, bind_some', appL_ok (by rw [s2b_len, s2b_len]; omega) (by rw [s2b_len, s2b_len]; omega), bind_some', bind_some', ← s2b_app, hf]
      simp only [wT, if_true, List.flatten_cons, List.append_assoc]
theorem putL0 (b : Bool) (l : List (List UInt8)) (hl : l.length < 1000) : ∀ k, k ≤ l.length → ∀ (f : Bool) (acc : List UInt8), acc.length + (l.drop k).flatten.length ≤ 1000000000 → ∃ f', uri_Text_1_L1 b l (k : Int) f (s2b acc) = some (f', s2b (acc ++ wT b (l.drop k))) := by
  refine upto ?_ fun k hk ih => ?_
  · intro f acc _
    rw [uri_Text_1_L1]
    exact ⟨f, by cases b <;> simp [wT]⟩
  · intro f acc h
    rw [dropE hk, List.flatten_cons, List.length_append] at h
    rw [uri_Text_1_L1, wr_succ (by omega), ltI, decide_eq_true hk]
    simp only [if_true, idx_nat, getE hk, bind_some']
    cases b with
    | false =>
      obtain ⟨f', hf⟩ := ih f acc (by omega)
      exact ⟨f', by simpa [wT] using hf⟩
    | true =>
      obtain ⟨f', hf⟩ := ih true (acc ++ l[k]) (by rw [List.length_append]; omega)
      refine ⟨f', ?_⟩
      rw [dropE hk]
      simp only [if_true]
      rw [strings_Builder_WriteString_2, strings_Builder_copyCheck_2, bind_some', appL_ok (by rw [s2b_len, s2b_len]; omega) (by rw [s2b_len, s2b_len]; omega), bind_some', bind_some', ← s2b_app, hf]
      simp only [wT, if_true, List.flatten_cons, List.append_assoc]
theorem put (b : Bool) (l : List (List UInt8)) (f : Bool) (acc : List UInt8) (hl : l.length < 1000) (h : acc.length + l.flatten.length ≤ 1000000000) : ∃ f', uri_Text_1_2 b l f (s2b acc) = some (f', s2b (acc ++ wT b l)) := by
  obtain ⟨f', hf⟩ := putL b l hl 0 (Nat.zero_le _) f acc (by rw [List.drop_zero]; exact h)
  rw [List.drop_zero] at hf
  refine ⟨f', ?_⟩
  rw [uri_Text_1_2]
  show (uri_Text_1_2_L1 b l ((0 : Nat) : Int) f (s2b acc) >>= _) = _
  rw [hf]; rfl
theorem put0 (b : Bool) (l : List (List UInt8)) (f : Bool) (hl : l.length < 1000) (h : l.flatten.length ≤ 1000000000) : ∃ f', uri_Text_1 b l f = some (f', s2b (wT b l)) := by
  obtain ⟨f', hf⟩ := putL0 b l hl 0 (Nat.zero_le _) f [] (by rw [List.drop_zero]; simpa using h)
  rw [List.drop_zero, List.nil_append] at hf
  refine ⟨f', ?_⟩
  rw [uri_Text_1]
  show (uri_Text_1_L1 b l ((0 : Nat) : Int) f (s2b []) >>= _) = _
  rw [hf]; rfl
structure smallU (u : uri_Uri) : Prop where
  h1 : u.Scheme.length ≤ 1000000
  h2 : u.User.length ≤ 1000000
  h3 : u.Host.length ≤ 1000000
  h4 : u.Port.length ≤ 1000000
  h5 : u.Path.length ≤ 1000000
  h6 : u.Query.length ≤ 1000000
  h7 : u.Frag.length ≤ 1000000
/-- An address, put together. -/
def textU (u : uri_Uri) : List UInt8 :=
  wT (!(u.Scheme == [])) [u.Scheme, [58]] ++ wT u.Auth [[47, 47]] ++ wT (u.Auth && u.HasUser) [u.User, [64]] ++ wT u.Auth [u.Host] ++ wT (u.Auth && u.HasPort) [[58], u.Port] ++ u.Path ++ wT u.HasQuery [[63], u.Query] ++ wT u.HasFrag [[35], u.Frag]
theorem wT_len (b : Bool) (l : List (List UInt8)) : (wT b l).length ≤ l.flatten.length := by cases b <;> simp [wT]
theorem tText (u : uri_Uri) (h : smallU u) : uri_Text u = some (textU u) := by
  obtain ⟨h1, h2, h3, h4, h5, h6, h7⟩ := h
  have l1 := wT_len (!(u.Scheme == [])) [u.Scheme, [58]]
  have l2 := wT_len u.Auth [[47, 47]]
  have l3 := wT_len (u.Auth && u.HasUser) [u.User, [64]]
  have l4 := wT_len u.Auth [u.Host]
  have l5 := wT_len (u.Auth && u.HasPort) [[58], u.Port]
  have l6 := wT_len u.HasQuery [[63], u.Query]
  simp only [List.flatten_cons, List.flatten_nil, List.length_append, List.length_cons, List.length_nil] at l1 l2 l3 l4 l5 l6
  rw [uri_Text]
  obtain ⟨f1, e1⟩ := put0 (!(u.Scheme == [])) [u.Scheme, [58]] false (by simp) (by simp; omega)
  rw [e1, bind_some']
  dsimp only
  obtain ⟨a1, ha1⟩ : ∃ a, a = wT (!(u.Scheme == [])) [u.Scheme, [58]] := ⟨_, rfl⟩
  rw [← ha1] at l1 ⊢
  obtain ⟨f2, e2⟩ := put u.Auth [[47, 47]] f1 a1 (by simp) (by simp; omega)
  rw [e2, bind_some']
  dsimp only
  obtain ⟨a2, ha2⟩ : ∃ a, a = a1 ++ wT u.Auth [[47, 47]] := ⟨_, rfl⟩
  have k2 := congrArg List.length ha2
  rw [List.length_append] at k2
  rw [← ha2]
  have e3 : ∃ f', (if u.Auth = true then uri_Text_1_2 u.HasUser [u.User, [64]] f2 (s2b a2) >>= fun x4 => some (x4.1, x4.2) else uri_Text_1_2 false [u.User, [64]] f2 (s2b a2) >>= fun x5 => some (x5.1, x5.2) : Option (Bool × List Int)) = some (f', s2b (a2 ++ wT (u.Auth && u.HasUser) [u.User, [64]])) := by
    cases u.Auth with
    | true =>
      obtain ⟨f', e⟩ := put u.HasUser [u.User, [64]] f2 a2 (by simp) (by simp; omega)
      exact ⟨f', by simp only [if_true, e, bind_some', Bool.true_and]⟩
    | false =>
      obtain ⟨f', e⟩ := put false [u.User, [64]] f2 a2 (by simp) (by simp; omega)
      exact ⟨f', by simp only [Bool.false_eq_true, if_false, e, bind_some', Bool.false_and]⟩
  obtain ⟨f3, e3⟩ := e3
  rw [e3, bind_some']
  dsimp only
  obtain ⟨a3, ha3⟩ : ∃ a, a = a2 ++ wT (u.Auth && u.HasUser) [u.User, [64]] := ⟨_, rfl⟩
  have k3 := congrArg List.length ha3
  rw [List.length_append] at k3
  rw [← ha3]
  obtain ⟨f4, e4⟩ := put u.Auth [u.Host] f3 a3 (by simp) (by simp; omega)
  rw [e4, bind_some']
  dsimp only
  obtain ⟨a4, ha4⟩ : ∃ a, a = a3 ++ wT u.Auth [u.Host] := ⟨_, rfl⟩
  have k4 := congrArg List.length ha4
  rw [List.length_append] at k4
  rw [← ha4]
  have e5 : ∃ f', (if u.Auth = true then uri_Text_1_2 u.HasPort [[58], u.Port] f4 (s2b a4) >>= fun x4 => some (x4.1, x4.2) else uri_Text_1_2 false [[58], u.Port] f4 (s2b a4) >>= fun x5 => some (x5.1, x5.2) : Option (Bool × List Int)) = some (f', s2b (a4 ++ wT (u.Auth && u.HasPort) [[58], u.Port])) := by
    cases u.Auth with
    | true =>
      obtain ⟨f', e⟩ := put u.HasPort [[58], u.Port] f4 a4 (by simp) (by simp; omega)
      exact ⟨f', by simp only [if_true, e, bind_some', Bool.true_and]⟩
    | false =>
      obtain ⟨f', e⟩ := put false [[58], u.Port] f4 a4 (by simp) (by simp; omega)
      exact ⟨f', by simp only [Bool.false_eq_true, if_false, e, bind_some', Bool.false_and]⟩
  obtain ⟨f5, e5⟩ := e5
  rw [e5, bind_some']
  dsimp only
  obtain ⟨a5, ha5⟩ : ∃ a, a = a4 ++ wT (u.Auth && u.HasPort) [[58], u.Port] := ⟨_, rfl⟩
  have k5 := congrArg List.length ha5
  rw [List.length_append] at k5
  rw [← ha5]
  have ep : wT true [u.Path] = u.Path := by simp [wT]
  obtain ⟨f6, e6⟩ := put true [u.Path] f5 a5 (by simp) (by simp; omega)
  rw [ep] at e6
  rw [e6, bind_some']
  dsimp only
  obtain ⟨a6, ha6⟩ : ∃ a, a = a5 ++ u.Path := ⟨_, rfl⟩
  have k6 := congrArg List.length ha6
  rw [List.length_append] at k6
  rw [← ha6]
  obtain ⟨f7, e7⟩ := put u.HasQuery [[63], u.Query] f6 a6 (by simp) (by simp; omega)
  rw [e7, bind_some']
  dsimp only
  obtain ⟨a7, ha7⟩ : ∃ a, a = a6 ++ wT u.HasQuery [[63], u.Query] := ⟨_, rfl⟩
  have k7 := congrArg List.length ha7
  rw [List.length_append] at k7
  rw [← ha7]
  obtain ⟨f8, e8⟩ := put u.HasFrag [[35], u.Frag] f7 a7 (by simp) (by simp; omega)
  rw [e8, bind_some', strings_Builder_String_2, b2s_s2b, ha7, ha6, ha5, ha4, ha3, ha2, ha1]
  rfl
def itsP (u : uri_Uri) : R12_Uri := ⟨u.Scheme, u.User, u.Host, u.Port, u.Path, u.Query, u.Frag, u.Auth, u.HasUser, u.HasPort, u.HasQuery, u.HasFrag⟩
theorem itsE (u : uri_Uri) : nunciolaw12_its u = some (itsP u) := rfl
set_option maxHeartbeats 4000000 in
theorem rText (u : uri_Uri) (h : smallU u) : R12_Text (itsP u) = some (textU u) := by
  obtain ⟨s, us, ho, po, pa, q, f, au, hu, hp, hq, hf⟩ := u
  obtain ⟨h1, h2, h3, h4, h5, h6, h7⟩ := h
  simp only at h1 h2 h3 h4 h5 h6 h7
  rw [R12_Text, textU, itsP]
  simp only
  cases hs : (s == []) <;> cases au <;> cases hu <;> cases hp <;> cases hq <;> cases hf
  all_goals
    simp (disch := (simp only [List.length_append, List.length_cons, List.length_nil]; omega)) only [Bool.not_true, Bool.not_false, Bool.false_eq_true, if_true, if_false, bind_some', wT, need_ok, Bool.and_true, Bool.and_false, Bool.true_and, Bool.false_and, List.flatten_cons, List.flatten_nil, List.append_nil, List.nil_append, List.append_assoc, List.cons_append]
theorem few12 (l : List UInt8) : nunciolaw12_few l = some (l.take 300) := by
  have e : cutL l 0 (if 300 < (l.length : Int) then 300 else (l.length : Int)) = some (l.take 300) := by
    split
    · rw [cutL_ok (by omega) (by omega) (by omega)]; rfl
    · rw [cutL_ok (by omega) (by omega) (by omega)]
      rw [List.take_of_length_le (by omega : l.length ≤ 300)]
      simp
  rw [nunciolaw12_few, e]
  rfl
theorem lawUriTexts (u : R12_Uri) : nunciolaw12_UriTexts u = some true := by
  have h : smallU ⟨u.Scheme.take 300, u.User.take 300, u.Host.take 300, u.Port.take 300, u.Path.take 300, u.Query.take 300, u.Frag.take 300, u.Auth, u.HasUser, u.HasPort, u.HasQuery, u.HasFrag⟩ := by
    constructor <;> (simp only [List.length_take]; omega)
  rw [nunciolaw12_UriTexts, nunciolaw12_mine]
  simp only [few12, bind_some']
  rw [tText _ h, itsE]
  simp only [bind_some', rText _ h, beq_self_eq_true, if_true, awake12]
end Go.Proofs.Ytlhjieapkcnghaa
end

section
namespace Go.Proofs.Ytlhjieapkcnghaa
open Go.ChangeShapes Go.WideShapes Go.ChangeAt Go.RowKit

theorem Try.own : ownKnob Try.prog.godebug = none := by kernel_rfl
end Go.Proofs.Ytlhjieapkcnghaa
end
