/- The abstract layer, part 15: cells of variables, weakened; slices there that may be appended to. -/
import Derived.Test.YtlhjieapkcnghaaAbF
namespace Go.Proofs.Ytlhjieapkcnghaa
open Go.RowKit

/-- A slice in a variable's cell that has no room: it may be appended to by a token of its own. -/
theorem Le.ownH {B : Nat × Nat} {N : Nat} {env : Env} {s : S} (nm off e size : Nat) {cs : List D} {es : List (List V)} (h : s.heap[nm]? = some cs) (hc : cs[off]? = some (.p (.sl true es))) (hs : ∀ x ∈ es, x.length = size) (h0 : es = [] := by exact rfl) :
    Le B N ⟨env, s⟩ ⟨env, ⟨s.heap.set nm (cs.set off (.own s.live.length e size es)), s.live ++ [es.length]⟩⟩ := ⟨fun G a w hR => by
  obtain ⟨s1, s2⟩ := addTok_stp hR.inv es.length
  refine ⟨_, s1.ex B, ⟨s2.setCell (s := ⟨s.heap, s.live ++ [es.length]⟩) h (fun u hu => ?_), fun t' d' hd => ?_, hR.size⟩⟩
  · obtain ⟨c, hc', hu⟩ := hu
    rw [hc] at hc'; cases hc'
    have hlive : G.tok.length = s.live.length := by rw [← hR.inv.live]; simp
    cases hu with
    | p _ u hx =>
      obtain ⟨ad, cap, rfl, c1, c2, c3, c4⟩ := hx.isSlice
      have hx' : VRel G.com w (.sl false es) (.slice ad es.length cap) := by
        cases hx with
        | sl _ _ _ _ size b off us g1 g2 g3 g4 g5 g6 g7 g8 => exact .sl false es ad cap size b off us g1 g2 (fun h => by cases h) g4 g5 g6 g7 (fun h => by cases h)
      exact .own _ _ _ _ _ ⟨es.length, none, 0, none⟩ hx' hs (by rw [← hlive]; exact List.getElem?_concat_length) rfl (Nat.le_refl _) (fun _ => ⟨ad, cap, rfl, .inl ⟨by rw [c3 rfl, h0]; rfl, c4 rfl⟩⟩)
  · obtain ⟨k1, k2⟩ := hR.env t' d' hd
    exact ⟨k1, k2.mono s1⟩⟩
/-- A cell of a variable, weakened. -/
theorem Le.ownHW {B : Nat × Nat} {N : Nat} {env : Env} {s : S} (nm off e size : Nat) {cs : List D} {es : List (List V)} (h : s.heap[nm]? = some cs) (hc : cs[off]? = some (.p (.sl true es))) (hs : ∀ x ∈ es, x.length = size) :
    Le B N ⟨env, s⟩ ⟨env, ⟨s.heap.set nm (cs.set off (.own s.live.length (e + 1000000) size es)), s.live ++ [es.length]⟩⟩ := ⟨fun G a w hR => by
  obtain ⟨s1, s2⟩ := addTok_stp hR.inv es.length
  refine ⟨_, s1.ex B, ⟨s2.setCell (s := ⟨s.heap, s.live ++ [es.length]⟩) h (fun u hu => ?_), fun t' d' hd => ?_, hR.size⟩⟩
  · obtain ⟨c, hc', hu⟩ := hu
    rw [hc] at hc'; cases hc'
    have hlive : G.tok.length = s.live.length := by rw [← hR.inv.live]; simp
    cases hu with
    | p _ u hx =>
      obtain ⟨ad, cap, rfl, c1, c2, c3, c4⟩ := hx.isSlice
      have hx' : VRel G.com w (.sl false es) (.slice ad es.length cap) := by
        cases hx with
        | sl _ _ _ _ size b off us g1 g2 g3 g4 g5 g6 g7 g8 => exact .sl false es ad cap size b off us g1 g2 (fun h => by cases h) g4 g5 g6 g7 (fun h => by cases h)
      exact .own _ _ _ _ _ ⟨es.length, none, 0, none⟩ hx' hs (by rw [← hlive]; exact List.getElem?_concat_length) rfl (Nat.le_refl _) (fun _ => ⟨ad, cap, rfl, .inr (.inr ⟨Nat.le_add_left _ _, c3 rfl⟩)⟩)
  · obtain ⟨k1, k2⟩ := hR.env t' d' hd
    exact ⟨k1, k2.mono s1⟩⟩
/-- A cell of a variable, weakened. -/
theorem Le.cell {B : Nat × Nat} {N : Nat} {env : Env} {s : S} (nm off : Nat) {cs : List D} {c d' : D} (h : s.heap[nm]? = some cs) (hc : cs[off]? = some c) (hd : ∀ G w u, DRel G w c u → DRel G w d' u) :
    Le B N ⟨env, s⟩ ⟨env, ⟨s.heap.set nm (cs.set off d'), s.live⟩⟩ := ⟨fun G a w hR => ⟨G, .refl B G w, ⟨hR.inv.setCell h (fun u hu => by
  obtain ⟨c', h1, h2⟩ := hu
  rw [hc] at h1; cases h1
  exact hd G w u h2), hR.env, hR.size⟩⟩⟩
theorem sl_less {G : Gh} {w : World} {b : Bool} {es : List (List V)} {u : Value} (h : DRel G w (.p (.sl b es)) u) : DRel G w (.p (.sl false es)) u := by
  cases h with
  | p _ u hx => exact .p _ _ (lessV_rel hx)
end Go.Proofs.Ytlhjieapkcnghaa
