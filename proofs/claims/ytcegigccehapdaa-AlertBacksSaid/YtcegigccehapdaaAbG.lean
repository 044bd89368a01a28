/- The abstract layer, part 15: cells of variables, weakened; slices there that may be appended to. -/
import Derived.Test.YtcegigccehapdaaAbF
namespace Go.Proofs.Ytcegigccehapdaa
open Go.RowKit

theorem Inv.setCell {G : Gh} {s : S} {w : World} (h : Inv G s w) {nm off : Nat} {cs : List D} {d' : D} (hc : s.heap[nm]? = some cs)
    (hd : ∀ u, (∃ c, cs[off]? = some c ∧ DRel G w c u) → DRel G w d' u) : Inv G ⟨s.heap.set nm (cs.set off d'), s.live⟩ w := by
  refine ⟨h.com, by rw [h.names]; simp, h.nodup, fun i b cs' hb hcs' => ?_, h.live, h.tok, h.pro⟩
  by_cases hi : i = nm
  · subst hi
    have hlt : i < s.heap.length := (List.getElem?_eq_some_iff.1 hc).1
    rw [List.getElem?_set_self (by simpa using hlt)] at hcs'
    cases hcs'
    obtain ⟨us, ty, h1, h2, h3⟩ := h.var i b cs hb hc
    refine ⟨us, ty, h1, by rw [h2]; simp, fun j c u hj hu => ?_⟩
    by_cases hjo : j = off
    · subst hjo
      have hlj : j < cs.length := by have := (List.getElem?_eq_some_iff.1 hj).1; simpa using this
      rw [List.getElem?_set_self (by simpa using hlj)] at hj
      cases hj
      obtain ⟨k1, k2⟩ := h3 j cs[j] u (List.getElem?_eq_getElem hlj) hu
      exact ⟨k1, hd u ⟨cs[j], List.getElem?_eq_getElem hlj, k2⟩⟩
    · rw [List.getElem?_set_ne (fun e => hjo e.symm)] at hj
      exact h3 j c u hj hu
  · rw [List.getElem?_set_ne (fun e => hi e.symm)] at hcs'
    exact h.var i b cs' hb hcs'
/-- A slice in a variable's cell that has no room: it may be appended to by a token of its own. -/
theorem Le.ownH {B : Nat × Nat} {N : Nat} {env : Env} {s : S} (nm off e size : Nat) {cs : List D} {es : List (List V)} (h : s.heap[nm]? = some cs) (hc : cs[off]? = some (.p (.sl true es))) (hs : ∀ x ∈ es, x.length = size) :
    Le B N ⟨env, s⟩ ⟨env, ⟨s.heap.set nm (cs.set off (.own s.live.length e size es)), s.live ++ [es.length]⟩⟩ := ⟨fun G a w hR => by
  obtain ⟨s1, s2⟩ := addTok_stp hR.inv es.length
  refine ⟨_, s1.ex B, ⟨s2.setCell (s := ⟨s.heap, s.live ++ [es.length]⟩) h (fun u hu => ?_), fun t' d' hd => ?_, hR.size⟩⟩
  · obtain ⟨c, hc', hu⟩ := hu
    rw [hc] at hc'; cases hc'
    have hlive : G.tok.length = s.live.length := by rw [← hR.inv.live]; simp
    cases hu with
    | p _ u hx =>
      obtain ⟨ad, cap, rfl, c1, c2, c3⟩ := hx.isSlice
      have hx' : VRel G.com w (.sl false es) (.slice ad es.length cap) := by
        cases hx with
        | sl _ _ _ _ size b off us g1 g2 g3 g4 g5 g6 g7 => exact .sl false es ad cap size b off us g1 g2 (fun h => by cases h) g4 g5 g6 g7
      exact .own _ _ _ _ _ ⟨es.length, none, 0, none⟩ hx' hs (by rw [← hlive]; exact List.getElem?_concat_length) rfl (Nat.le_refl _) (fun _ => ⟨ad, cap, rfl, .inl (c3 rfl)⟩)
  · obtain ⟨k1, k2⟩ := hR.env t' d' hd
    exact ⟨k1, k2.mono s1⟩⟩
/-- A cell of a variable, weakened. -/
theorem Le.cell {B : Nat × Nat} {N : Nat} {env : Env} {s : S} (nm off : Nat) {cs : List D} {c d' : D} (h : s.heap[nm]? = some cs) (hc : cs[off]? = some c) (hd : ∀ G w u, DRel G w c u → DRel G w d' u) :
    Le B N ⟨env, s⟩ ⟨env, ⟨s.heap.set nm (cs.set off d'), s.live⟩⟩ := ⟨fun G a w hR => ⟨G, .refl B G w, ⟨hR.inv.setCell h (fun u hu => by
  obtain ⟨c', h1, h2⟩ := hu
  rw [hc] at h1; cases h1
  exact hd G w u h2), hR.env, hR.size⟩⟩⟩
theorem sl_less {G : Gh} {w : World} {b : Bool} {es : List (List V)} {u : Value} (h : DRel G w (.p (.sl b es)) u) : DRel G w (.p (.sl false es)) u := by
  cases h with
  | p _ u hx => exact .p _ _ (lessV_rel hx)
end Go.Proofs.Ytcegigccehapdaa
