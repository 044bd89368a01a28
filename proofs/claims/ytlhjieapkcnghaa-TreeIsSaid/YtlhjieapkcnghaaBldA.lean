/- A strings.Builder's buffer, given away: the row that a token grew belongs to no one any more. -/
import Derived.Test.YtlhjieapkcnghaaDcI
namespace Go.Proofs.Ytlhjieapkcnghaa
open Go.RowKit

/-- A token's row is let go; it may be marked as no longer to be written. -/
theorem retire_stp {G : Gh} {s : S} {w w' : World} (hI : Inv G s w) {t : Nat} {T : Tok} (hT : G.tok[t]? = some T) (hp : T.pro = none) (h1 : w'.os = w.os) (h2 : w'.tape = w.tape) (h3 : w'.output = w.output) (h4 : w.heap.size ≤ w'.heap.size)
    (hold : ∀ b, b < w.heap.size → T.blk ≠ some b → w'.heap[b]? = w.heap[b]?) (hcell : ∀ g, T.blk = some g → ∀ o u, w.cell? ⟨g, o, none⟩ = some u → w'.cell? ⟨g, o, none⟩ = some u) (hsh : ShKept w w') :
    Stp G w { G with tok := G.tok.set t ⟨T.len + 1, none, 0, none⟩ } w' ∧ Inv { G with tok := G.tok.set t ⟨T.len + 1, none, 0, none⟩ } { s with live := s.live.set t (T.len + 1) } w' := by
  obtain ⟨N, hN⟩ : ∃ N : Tok, N = ⟨T.len + 1, none, 0, none⟩ := ⟨_, rfl⟩
  have hNb : ∀ b, ¬ N.has b := fun b hb => by subst hN; exact (nomatch Tok.has_row.1 hb)
  rw [← hN]
  have hTm : T ∈ G.tok := List.mem_of_getElem? hT
  have hlt : t < G.tok.length := (List.getElem?_eq_some_iff.1 hT).1
  have hset : ∀ (t' : Nat) T', (G.tok.set t N)[t']? = some T' → (t' = t ∧ T' = N) ∨ (t' ≠ t ∧ G.tok[t']? = some T') := fun t' T' h => by
    by_cases htt : t' = t
    · subst htt
      rw [List.getElem?_set_self hlt] at h
      exact .inl ⟨rfl, (Option.some.inj h).symm⟩
    · rw [List.getElem?_set_ne (fun e => htt e.symm)] at h
      exact .inr ⟨htt, h⟩
  have hmem : ∀ T', T' ∈ G.tok.set t N → T' = N ∨ ∃ t', t' ≠ t ∧ G.tok[t']? = some T' := fun T' h => by
    obtain ⟨t', ht'⟩ := List.getElem?_of_mem h
    rcases hset t' T' ht' with ⟨-, h⟩ | ⟨h, h'⟩
    · exact .inl h
    · exact .inr ⟨t', h, h'⟩
  have hoth : ∀ (t' : Nat) T' b, t' ≠ t → G.tok[t']? = some T' → T'.has b → w'.heap[b]? = w.heap[b]? := fun t' T' b hne h hb => by
    obtain ⟨k1, -, k3⟩ := hI.tok t' T' b h hb
    exact hold b k1 fun e => hne (k3 t T hT (.inl e)).symm
  have hnm : ∀ b ∈ G.name, w'.heap[b]? = w.heap[b]? := fun b hb => hold b (name_lt hI b hb) fun e => (hI.tok t T b hT (.inl e)).2.1 hb
  have hst : Stp G w { G with tok := G.tok.set t N } w' := by
    refine ⟨⟨h1, h2, h3, h4, fun b o u h hu => ⟨h, ?_⟩, fun b hb _ hn => hold b hb fun e => hn T hTm (.inl e), fun b o h => .inl h, fun b h => ?_, fun _ _ h => h, hsh⟩, fun nm b h => h, fun t' T' h => ?_⟩
    · by_cases hb : T.blk = some b
      · exact hcell b hb o u hu
      · rw [World.cell?_of_block (w := w) (hold b (hI.com b o h).1 hb)]; exact hu
    · rcases h with h | ⟨T', hT', hb⟩
      · exact .inr (.inl h)
      · rcases hmem T' hT' with rfl | ⟨t', -, h⟩
        · exact absurd hb (hNb b)
        · exact .inr (.inr ⟨T', List.mem_of_getElem? h, hb⟩)
    · by_cases htt : t' = t
      · subst htt
        rw [hT] at h
        cases h
        refine ⟨N, List.getElem?_set_self hlt, ⟨by rw [hN]; exact Nat.le_succ _, by rw [hN, hp]⟩, fun e => ?_⟩
        rw [hN] at e
        have e : T.len = T.len + 1 := e
        omega
      · refine ⟨T', ?_, .refl T', fun _ => ⟨rfl, fun b hb => hoth t' T' b htt h hb⟩⟩
        show (G.tok.set t N)[t']? = _
        rw [List.getElem?_set_ne (fun e => htt e.symm)]; exact h
  refine ⟨hst, ⟨fun b o h => ?_, hI.names, hI.nodup, fun i b cs hb hcs => ?_, ?_, fun t' T' b h hb => ?_, fun T' hT' => ?_, hI.glob.mono hst.ext.com⟩⟩
  · obtain ⟨k1, k2, k3⟩ := hI.com b o h
    refine ⟨Nat.lt_of_lt_of_le k1 h4, k2, fun T' hT' => ?_⟩
    rcases hmem T' hT' with rfl | ⟨t', -, h⟩
    · exact ⟨fun hb => absurd (.inl hb) (hNb b), fun hb => absurd (.inr hb) (hNb b)⟩
    · exact k3 T' (List.mem_of_getElem? h)
  · obtain ⟨us, ty, k1, k2, k3⟩ := hI.var i b cs hb hcs
    exact ⟨us, ty, by rw [hnm b (List.mem_of_getElem? hb)]; exact k1, k2, fun j c u hc hu => ⟨(k3 j c u hc hu).1, (k3 j c u hc hu).2.mono hst⟩⟩
  · show (G.tok.set t N).map (·.len) = s.live.set t (T.len + 1)
    rw [List.map_set, hI.live, hN]
  · rcases hset t' T' h with ⟨-, rfl⟩ | ⟨hne, h⟩
    · exact absurd hb (hNb b)
    · obtain ⟨k1, k2, k3⟩ := hI.tok t' T' b h hb
      refine ⟨Nat.lt_of_lt_of_le k1 h4, k2, fun t'' T'' h' hb' => ?_⟩
      rcases hset t'' T'' h' with ⟨-, rfl⟩ | ⟨-, h'⟩
      · exact absurd hb' (hNb b)
      · exact k3 t'' T'' h' hb'
  · rcases hmem T' hT' with rfl | ⟨t', hne, h⟩
    · exact ⟨fun q hq => absurd hq (by rw [hN]; simp), fun b o ⟨q, hq, _⟩ => absurd hq (by rw [hN]; simp)⟩
    · have hm := List.mem_of_getElem? h
      exact ⟨Tok.ok_ext (hI.pro T' hm) hst.ext fun b hb => hoth t' T' b hne h hb, fun b o hr => (hI.pro T' hm).2 b o hr⟩
theorem freeze_heap {w : World} {g n : Nat} {us : Array Value} {e : TypeId} (h : w.heap[g]? = some (.cells us e (0, 0))) (hn : n ≠ 0) : (w.freeze ⟨g, 0, none⟩ n).heap[g]? = some (.cells us e (0, n)) ∧ (∀ b, b ≠ g → (w.freeze ⟨g, 0, none⟩ n).heap[b]? = w.heap[b]?) ∧ (w.freeze ⟨g, 0, none⟩ n).heap.size = w.heap.size ∧
    (w.freeze ⟨g, 0, none⟩ n).os = w.os ∧ (w.freeze ⟨g, 0, none⟩ n).tape = w.tape ∧ (w.freeze ⟨g, 0, none⟩ n).output = w.output := by
  unfold World.freeze
  rw [if_neg hn]
  refine ⟨?_, fun b hb => ?_, by simp, rfl, rfl, rfl⟩
  · simp [Array.getElem?_modify, h]
  · simp [Array.getElem?_modify, Ne.symm hb]
end Go.Proofs.Ytlhjieapkcnghaa
