/- The abstract layer, part 2: what the moves of memory do to it: a new variable, a new row, a store, a growing row. -/
import Derived.Test.YtlhjieapkcnghaaAb
namespace Go.Proofs.Ytlhjieapkcnghaa
open Go.RowKit

theorem cellLt {w : World} {b o : Nat} {u : Value} (h : w.cell? ⟨b, o, none⟩ = some u) : b < w.heap.size := World.block_lt_of_cell? w ⟨b, o, none⟩ h

theorem scal_one {u : Value} (h : scal u = true) : u.oneCell' = true := by
  cases u <;> first | rfl | (simp [scal] at h)

/-- The world draws, nothing else. -/
theorem Stp.drewN (G : Gh) (w : World) (k : Nat) : Stp G w G { w with drawn := k } :=
  ⟨⟨rfl, rfl, rfl, Nat.le_refl _, fun _ _ _ h k => ⟨h, k⟩, fun _ _ _ _ => rfl, fun _ _ h => .inl h, fun _ h => .inr h, fun _ _ h => h, fun _ _ h => h⟩, fun _ _ h => h,
    fun _ T h => ⟨T, h, .refl T, fun _ => ⟨rfl, fun _ _ => rfl⟩⟩⟩

theorem Inv.mono {G : Gh} {s : S} {w w' : World} (h : Inv G s w) (k : Stp G w G w') (hn : ∀ b ∈ G.name, w'.heap[b]? = w.heap[b]?) : Inv G s w' := by
  refine ⟨fun b o hc => ?_, h.names, h.nodup, fun i b cs hb hcs => ?_, h.live, fun t T b hT hb => ?_, fun T hT => ⟨Tok.ok_ext (h.pro T hT) k.ext fun b hb => ?_, (h.pro T hT).2⟩, h.glob.mono k.ext.com⟩
  rotate_right
  · obtain ⟨t, ht⟩ := List.getElem?_of_mem hT
    obtain ⟨T', h1, -, h2⟩ := k.tok t T ht
    rw [ht] at h1; cases h1
    exact (h2 rfl).2 b hb
  · obtain ⟨h1, h2⟩ := h.com b o hc
    exact ⟨Nat.lt_of_lt_of_le h1 k.ext.size, h2⟩
  · obtain ⟨us, ty, h1, h2, h3⟩ := h.var i b cs hb hcs
    refine ⟨us, ty, ?_, h2, fun j c u hc hu => ⟨(h3 j c u hc hu).1, (h3 j c u hc hu).2.mono k⟩⟩
    rw [hn b (List.mem_of_getElem? hb)]; exact h1
  · obtain ⟨h1, h2⟩ := h.tok t T b hT hb
    exact ⟨Nat.lt_of_lt_of_le h1 k.ext.size, h2⟩

theorem Inv.drewN {G : Gh} {s : S} {w : World} (h : Inv G s w) (k : Nat) : Inv G s { w with drawn := k } := h.mono (Stp.drewN G w k) fun _ _ => rfl

theorem heapAlloc (w : World) (o : Obj) (k : Nat) : (w.alloc o).heap[k]? = if k = w.heap.size then some o else w.heap[k]? := by
  show (w.heap.push o)[k]? = _
  rw [Array.getElem?_push]

theorem shAlloc (w : World) (o : Obj) : ShKept w (w.alloc o) := fun b sh h => by
  rw [shape_eq (w := w) (by rw [heapAlloc, if_neg (by have := shape_lt h; omega)])]; exact h
theorem cellAlloc (w : World) (o : Obj) (b i : Nat) (h : b < w.heap.size) : (w.alloc o).cell? ⟨b, i, none⟩ = w.cell? ⟨b, i, none⟩ := World.cell?_alloc_lt w o ⟨b, i, none⟩ h

/-- A new block: the ghost grows by it alone. -/
theorem Stp.alloc {G G' : Gh} {w : World} (o : Obj) (hc : ∀ b i, G.com b i → G'.com b i) (hc' : ∀ b i, G'.com b i → G.com b i ∨ b = w.heap.size)
    (hn : ∀ (nm b : Nat), G.name[nm]? = some b → G'.name[nm]? = some b) (hm : ∀ b, b ∈ G'.name → b ∈ G.name ∨ b = w.heap.size)
    (ht : ∀ (t : Nat) T, G.tok[t]? = some T → G'.tok[t]? = some T) (ht' : ∀ T b, T ∈ G'.tok → T.has b → T ∈ G.tok ∨ b = w.heap.size)
    (hb : ∀ (t : Nat) T b, G.tok[t]? = some T → T.has b → b < w.heap.size) : Stp G w G' (w.alloc o) := by
  refine ⟨⟨rfl, rfl, rfl, by simp, fun b i u h hu => ⟨hc b i h, ?_⟩, fun b h _ _ => ?_, fun b i h => ?_, fun b h => ?_, hc, shAlloc w o⟩, hn, fun t T h => ⟨T, ht t T h, .refl T, fun _ => ⟨rfl, fun b hb' => ?_⟩⟩⟩
  · rw [cellAlloc _ _ _ _ (cellLt hu)]; exact hu
  · rw [heapAlloc, if_neg (by omega)]
  · rcases hc' b i h with h | h
    · exact .inl h
    · exact .inr (.inl (by omega))
  · rcases h with h | ⟨T, h, hb'⟩
    · rcases hm b h with h | h
      · exact .inr (.inl h)
      · exact .inl (by omega)
    · rcases ht' T b h hb' with h | h
      · exact .inr (.inr ⟨T, h, hb'⟩)
      · exact .inl (by omega)
  · have := hb t T b h hb'
    rw [heapAlloc, if_neg (by omega)]

theorem Inv.proS {G G' : Gh} {s : S} {w w' : World} (h : Inv G s w) (k : Stp G w G' w') (he : G'.tok = G.tok) : ∀ T ∈ G'.tok, T.ok w' ∧ ∀ b o, T.rel b o → G'.com b o := fun T hT => by
  rw [he] at hT
  refine ⟨Tok.ok_ext (h.pro T hT) k.ext fun b hb => ?_, fun b o hr => k.ext.mono b o ((h.pro T hT).2 b o hr)⟩
  obtain ⟨t, ht⟩ := List.getElem?_of_mem hT
  obtain ⟨T', h1, -, h2⟩ := k.tok t T ht
  rw [he, ht] at h1; cases h1
  exact (h2 rfl).2 b hb
theorem name_lt {G : Gh} {s : S} {w : World} (h : Inv G s w) : ∀ b ∈ G.name, b < w.heap.size := fun b hb => by
  obtain ⟨i, hi⟩ := List.getElem?_of_mem hb
  have hil := (List.getElem?_eq_some_iff.1 hi).1
  have hil2 : i < s.heap.length := by rw [← h.names]; exact hil
  obtain ⟨us, ty, h1, _⟩ := h.var i b s.heap[i] hi (List.getElem?_eq_getElem hil2)
  exact (Array.getElem?_eq_some_iff.1 h1).1

/-- A new variable. -/
theorem newVar_stp {G : Gh} {s : S} {w : World} (h : Inv G s w) (ds : List D) (us : Array Value) (ty : TypeId) (hl : us.size = ds.length)
    (hd : ∀ (j : Nat) c u, ds[j]? = some c → us[j]? = some u → u.oneCell' = true ∧ DRel G w c u) :
    Stp G w { G with name := G.name ++ [w.heap.size] } (w.alloc (.cells us ty)) ∧ Inv { G with name := G.name ++ [w.heap.size] } { s with heap := s.heap ++ [ds] } (w.alloc (.cells us ty)) := by
  have hlt := name_lt h
  have hst : Stp G w { G with name := G.name ++ [w.heap.size] } (w.alloc (.cells us ty)) :=
    Stp.alloc (G' := { G with name := G.name ++ [w.heap.size] }) _ (fun _ _ h => h) (fun _ _ h => .inl h) (fun nm b hb => by
      show (G.name ++ [w.heap.size])[nm]? = some b
      rw [List.getElem?_append_left (List.getElem?_eq_some_iff.1 hb).1]; exact hb)
      (fun b hb => by simpa using hb) (fun _ _ h => h) (fun T b hT _ => .inl hT) (fun t T b hT hb => (h.tok t T b hT hb).1)
  refine ⟨hst, ⟨fun b o hc => ?_, by simp [h.names], ?_, fun i b cs hb hcs => ?_, h.live, fun t T b hT hb => ?_, h.proS hst rfl, h.glob.mono hst.ext.com⟩⟩
  · obtain ⟨h1, h2, h3⟩ := h.com b o hc
    refine ⟨by simp; omega, ?_, h3⟩
    simp only [List.mem_append, List.mem_singleton, not_or]
    exact ⟨h2, by omega⟩
  · rw [List.nodup_append]
    refine ⟨h.nodup, by simp, fun a ha b hb => ?_⟩
    simp only [List.mem_singleton] at hb
    have := hlt a ha
    omega
  · by_cases hi : i < G.name.length
    · rw [List.getElem?_append_left hi] at hb
      rw [List.getElem?_append_left (by rw [← h.names]; exact hi)] at hcs
      obtain ⟨vs, ty', h1, h2, h3⟩ := h.var i b cs hb hcs
      refine ⟨vs, ty', ?_, h2, fun j c u hc hu => ⟨(h3 j c u hc hu).1, (h3 j c u hc hu).2.mono hst⟩⟩
      rw [heapAlloc, if_neg (by have := (Array.getElem?_eq_some_iff.1 h1).1; omega)]; exact h1
    · have hi2 : i = G.name.length := by
        have := (List.getElem?_eq_some_iff.1 hb).1
        simp at this; omega
      subst hi2
      rw [List.getElem?_concat_length] at hb
      rw [h.names, List.getElem?_concat_length] at hcs
      cases hb; cases hcs
      exact ⟨us, ty, by rw [heapAlloc, if_pos rfl], hl, fun j c u hc hu => ⟨(hd j c u hc hu).1, (hd j c u hc hu).2.mono hst⟩⟩
  · obtain ⟨h1, h2, h3⟩ := h.tok t T b hT hb
    refine ⟨by simp; omega, ?_, h3⟩
    simp only [List.mem_append, List.mem_singleton, not_or]
    exact ⟨h2, by omega⟩

/-- A new row that stands for good. -/
def Gh.with (G : Gh) (b : Nat) : Gh := { G with com := fun c o => G.com c o ∨ c = b }
theorem newRow_stp {G : Gh} {s : S} {w : World} (h : Inv G s w) (us : Array Value) (ty : TypeId) (fr : Nat × Nat := (0, 0)) :
    Stp G w (G.with w.heap.size) (w.alloc (.cells us ty fr)) ∧ Inv (G.with w.heap.size) s (w.alloc (.cells us ty fr)) := by
  have hlt := name_lt h
  have hst : Stp G w (G.with w.heap.size) (w.alloc (.cells us ty fr)) :=
    Stp.alloc (G' := G.with w.heap.size) _ (fun _ _ h => .inl h) (fun _ _ h => h) (fun nm b hb => hb) (fun b hb => .inl hb) (fun _ _ h => h) (fun T b hT _ => .inl hT) (fun t T b hT hb => (h.tok t T b hT hb).1)
  refine ⟨hst, ⟨fun b o hc => ?_, h.names, h.nodup, fun i b cs hb hcs => ?_, h.live, fun t T b hT hb => ?_, h.proS hst rfl, h.glob.mono hst.ext.com⟩⟩
  · rcases hc with hc | hc
    · obtain ⟨h1, h2⟩ := h.com b o hc
      exact ⟨by simp; omega, h2⟩
    · subst hc
      have key : ∀ T ∈ G.tok, ¬ T.has w.heap.size := fun T hT hb => by
        obtain ⟨t, ht⟩ := List.getElem?_of_mem hT
        exact absurd (h.tok t T _ ht hb).1 (Nat.lt_irrefl _)
      exact ⟨by simp, fun hm => Nat.lt_irrefl _ (hlt _ hm), fun T hT => ⟨fun hb => absurd (.inl hb) (key T hT), fun hb => absurd (.inr hb) (key T hT)⟩⟩
  · obtain ⟨vs, ty', h1, h2, h3⟩ := h.var i b cs hb hcs
    refine ⟨vs, ty', ?_, h2, fun j c u hc hu => ⟨(h3 j c u hc hu).1, (h3 j c u hc hu).2.mono hst⟩⟩
    rw [heapAlloc, if_neg (by have := (Array.getElem?_eq_some_iff.1 h1).1; omega)]; exact h1
  · obtain ⟨h1, h2⟩ := h.tok t T b hT hb
    exact ⟨by simp; omega, h2⟩

/-- A store into a variable. -/
theorem store_stp {G : Gh} {s : S} {w : World} (h : Inv G s w) (nm b : Nat) (hb : G.name[nm]? = some b) (us : Array Value) (ty : TypeId) (hw : w.heap[b]? = some (.cells us ty (0, 0)))
    (ds : List D) (vs : Array Value) (hl : vs.size = ds.length) (hvs : vs.size = us.size) (hd : ∀ (j : Nat) c u, ds[j]? = some c → vs[j]? = some u → u.oneCell' = true ∧ DRel G w c u) (w' : World)
    (h1 : w'.os = w.os) (h2 : w'.tape = w.tape) (h3 : w'.output = w.output) (h4 : w'.heap.size = w.heap.size) (h5 : w'.heap[b]? = some (.cells vs ty (0, 0))) (h6 : ∀ k, k ≠ b → w'.heap[k]? = w.heap[k]?) :
    Stp G w G w' ∧ Inv G { s with heap := s.heap.set nm ds } w' := by
  have hbm : b ∈ G.name := List.mem_of_getElem? hb
  have hst : Stp G w G w' := by
    refine ⟨⟨h1, h2, h3, by omega, fun c o u hc hu => ⟨hc, ?_⟩, fun c hc hn _ => h6 c (fun e => hn (e ▸ hbm)), fun _ _ h => .inl h, fun _ h => .inr h, fun _ _ h => h, fun k sh hk => ?_⟩, fun _ _ h => h, fun t T hT => ⟨T, hT, .refl T, fun _ => ⟨rfl, fun c hc => ?_⟩⟩⟩
    · have hne : c ≠ b := fun e => (h.com c o hc).2.1 (e ▸ hbm)
      rw [World.cell?_of_block (w := w) (h6 c hne)]; exact hu
    · by_cases hkb : k = b
      · subst hkb
        rw [shape_of hw] at hk
        rw [shape_of h5, hvs]; exact hk
      · rw [shape_eq (h6 k hkb)]; exact hk
    · exact h6 c fun e => (h.tok t T c hT hc).2.1 (e ▸ hbm)
  refine ⟨hst, ⟨fun c o hc => by rw [h4]; exact h.com c o hc, by simp [h.names], h.nodup, fun i c cs hc hcs => ?_, h.live, fun t T c hT hc => by rw [h4]; exact h.tok t T c hT hc, h.proS hst rfl, h.glob.mono hst.ext.com⟩⟩
  by_cases hi : i = nm
  · subst hi
    have hlt : i < s.heap.length := by rw [← h.names]; exact (List.getElem?_eq_some_iff.1 hb).1
    rw [List.getElem?_set_self hlt] at hcs
    rw [hb] at hc
    cases hc; cases hcs
    exact ⟨vs, ty, h5, hl, fun j c u hc hu => ⟨(hd j c u hc hu).1, (hd j c u hc hu).2.mono hst⟩⟩
  · rw [List.getElem?_set_ne (fun e => hi e.symm)] at hcs
    obtain ⟨xs, ty', k1, k2, k3⟩ := h.var i c cs hc hcs
    have hne : c ≠ b := fun e => by
      subst e
      exact hi ((List.getElem?_inj (List.getElem?_eq_some_iff.1 hc).1 h.nodup).1 (hc.trans hb.symm))
    exact ⟨xs, ty', by rw [h6 c hne]; exact k1, k2, fun j d u hd' hu => ⟨(k3 j d u hd' hu).1, (k3 j d u hd' hu).2.mono hst⟩⟩
theorem Inv.setCell {G : Gh} {s : S} {w : World} (h : Inv G s w) {nm off : Nat} {cs : List D} {d' : D} (hc : s.heap[nm]? = some cs)
    (hd : ∀ u, (∃ c, cs[off]? = some c ∧ DRel G w c u) → DRel G w d' u) : Inv G ⟨s.heap.set nm (cs.set off d'), s.live⟩ w := by
  refine ⟨h.com, by rw [h.names]; simp, h.nodup, fun i b cs' hb hcs' => ?_, h.live, h.tok, h.pro, h.glob⟩
  by_cases hi : i = nm
  · subst hi
    have hlt : i < s.heap.length := (List.getElem?_eq_some_iff.1 hc).1
    rw [List.getElem?_set_self (by simpa using hlt)] at hcs'
    cases hcs'
    obtain ⟨us, ty, h1, h2, h3⟩ := h.var i b cs hb hc
    refine ⟨us, ty, h1, by rw [h2]; simp, fun j c u hj hu => ?_⟩
    by_cases hjo : j = off
    · subst hjo
      have hlj : j < cs.length := by have := (List.getElem?_eq_some_iff.1 hj).1; simpa using this
      rw [List.getElem?_set_self (by simpa using hlj)] at hj
      cases hj
      obtain ⟨k1, k2⟩ := h3 j cs[j] u (List.getElem?_eq_getElem hlj) hu
      exact ⟨k1, hd u ⟨cs[j], List.getElem?_eq_getElem hlj, k2⟩⟩
    · rw [List.getElem?_set_ne (fun e => hjo e.symm)] at hj
      exact h3 j c u hj hu
  · rw [List.getElem?_set_ne (fun e => hi e.symm)] at hcs'
    exact h.var i b cs' hb hcs'
end Go.Proofs.Ytlhjieapkcnghaa
