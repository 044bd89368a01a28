/- The abstract layer, part 8: appends. -/
import Derived.Test.YtlhjieapkcnghaaAbU
import Derived.Laws.MakeOwn
import Derived.Lib.AppendStr
namespace Go.Proofs.Ytlhjieapkcnghaa
open Go.RowKit

section
variable {P : Program} {tb : Tbl}
/-- The cells of a slice, one behind the other. -/
theorem VRel.flat {C : Nat → Nat → Prop} {w : World} {full : Bool} {es : List (List V)} {a : Option Addr} {n cap : Nat} (h : VRel C w (.sl full es) (.slice a n cap)) (size : Nat) (hs : ∀ x ∈ es, x.length = size) (hz : 0 < size) :
    ∃ us : List Value, us.length = n * size ∧ (∀ (i k : Nat) e c, es[i]? = some e → e[k]? = some c → ∃ u, us[i * size + k]? = some u ∧ VRel C w c u) ∧ (∀ u ∈ us, u.oneCell' = true) ∧
      (n = 0 ∨ ∃ b off, a = some ⟨b, off, none⟩ ∧ ∀ (j : Nat) u, us[j]? = some u → w.cell? ⟨b, off + j, none⟩ = some u ∧ C b (off + j)) := by
  generalize hn : Value.slice a n cap = v at h
  cases h with
  | sl full es a' cap' sz b off us g1 g2 g3 g4 g5 g6 g7 g8 =>
    cases hn
    have key : ∀ j, j < es.length * size → ∃ e c, es[j / size]? = some e ∧ e[j % size]? = some c ∧ j = j / size * size + j % size := fun j hj => by
      have h1 : j / size < es.length := Nat.div_lt_of_lt_mul (by rw [Nat.mul_comm]; exact hj)
      have h2 : j % size < (es[j / size]).length := by rw [hs _ (List.getElem_mem h1)]; exact Nat.mod_lt _ hz
      exact ⟨_, _, List.getElem?_eq_getElem h1, List.getElem?_eq_getElem h2, by rw [Nat.mul_comm]; exact (Nat.div_add_mod j size).symm⟩
    have hsz : ∀ (i : Nat) e, es[i]? = some e → sz = size := fun i e he => by
      have hm := List.mem_of_getElem? he
      rw [← g4 e hm, hs e hm]
    refine ⟨(List.range (es.length * size)).map us, by simp, fun i k e c he hc => ?_, fun u hu => ?_, ?_⟩
    · have hz2 := hsz i e he
      subst hz2
      have hi := (List.getElem?_eq_some_iff.1 he).1
      have hk : k < sz := by rw [← hs e (List.mem_of_getElem? he)]; exact (List.getElem?_eq_some_iff.1 hc).1
      have hlt : i * sz + k < es.length * sz := by
        have : (i + 1) * sz ≤ es.length * sz := Nat.mul_le_mul_right _ hi
        rw [Nat.add_mul] at this; omega
      exact ⟨us (i * sz + k), by rw [List.getElem?_map, List.getElem?_range hlt]; rfl, g7 i k e c he hc⟩
    · obtain ⟨j, hj, rfl⟩ := List.mem_map.1 hu
      obtain ⟨e, c, he, hc, hj2⟩ := key j (by simpa using hj)
      have hz2 := hsz _ e he
      subst hz2
      rw [hj2]
      exact (g6 _ _ e c he hc).2.2.2
    · cases hl : es with
      | nil => exact .inl rfl
      | cons x r =>
        refine .inr ?_
        have hx : es[0]? = some x := by rw [hl]; rfl
        have hz2 := hsz 0 x hx
        subst hz2
        have hxl : 0 < x.length := by rw [hs x (List.mem_of_getElem? hx)]; exact hz
        obtain ⟨ha, -⟩ := g6 0 0 x x[0] hx (List.getElem?_eq_getElem hxl)
        refine ⟨b, off, ha, fun j u hu => ?_⟩
        have hj : j < es.length * sz := by have := (List.getElem?_eq_some_iff.1 hu).1; simpa [hl] using this
        obtain ⟨e, c, he, hc, hj2⟩ := key j hj
        obtain ⟨-, p2, p3, -⟩ := g6 _ _ e c he hc
        rw [List.getElem?_map, List.getElem?_range (by rw [← hl]; exact hj)] at hu
        cases hu
        have e2 : off + j = off + j / sz * sz + j % sz := by omega
        rw [← hj2] at p3
        rw [e2]
        exact ⟨p3, p2⟩

/-- What an append of something leaves: block g holds the old cells and the new ones; g is new, or the row that could grow. -/
structure Grown (w w' : World) (e : TypeId) (size N : Nat) (cells : List Value) (g cap : Nat) (own : Option Nat) : Prop where
  os : w'.os = w.os
  tape : w'.tape = w.tape
  output : w'.output = w.output
  size_le : w.heap.size ≤ w'.heap.size
  row : ∃ cur : Array Value, w'.heap[g]? = some (.cells cur e (0, 0)) ∧ cur.size = cap * size ∧ cur.toList.take (N * size) = cells
  fits : N ≤ cap
  max : cap ≤ maxLen
  old : ∀ k, k < w.heap.size → k ≠ g → w'.heap[k]? = w.heap[k]?
  which : g = w.heap.size ∨ own = some g
  shp : ShKept w w'
theorem setRow_shp {w : World} {b : Nat} {us vs : Array Value} {ty : TypeId} {fr : Nat × Nat} (h : w.heap[b]? = some (.cells us ty fr)) (hs : vs.size = us.size) : ShKept w (w.setRow b vs) := fun k sh hk => by
  by_cases hkb : k = b
  · subst hkb
    rw [shape_of h] at hk
    rw [shape_of (setRow_heap w k us vs ty fr h), hs]; exact hk
  · rw [shape_eq (setRow_other w b k vs hkb)]; exact hk

theorem grow_new (w : World) (e : TypeId) (size n m old : Nat) (z : Value) (hz : z.cells.size = size) (olds news : List Value) (hl : olds.length = n * size) (hm : news.length = m * size) (hb : n + m ≤ maxLen) (own : Option Nat) :
    Grown w (w.drew.alloc (.cells (olds.toArray ++ news.toArray ++ Builtin.zeroCells z.cells (grownCap w (n + m) old e - (n + m))) e)) e size (n + m) (olds ++ news) w.heap.size (grownCap w (n + m) old e) own := by
  have hge := grownCap_ge w (n + m) old e
  refine ⟨rfl, rfl, rfl, by simp, ⟨_, heap_alloc_new w.drew _, ?_, ?_⟩, hge, grownCap_le_maxLen w _ old e hb, fun k hk _ => Below.heap_alloc w.drew _ k hk, .inl rfl, shAlloc w.drew _⟩
  · simp only [Array.size_append, List.size_toArray, size_zeroCells, hz, hl, hm, ← Nat.add_mul]
    congr 1
    omega
  · simp only [Array.toList_append, List.append_assoc]
    rw [← List.append_assoc, show (n + m) * size = (olds ++ news).length by rw [List.length_append, hl, hm, Nat.add_mul]]
    exact List.take_left
theorem append_run (hT : TblOk P tb) (w : World) {t e : Nat} (ty : TypeId) {ti te : TI} (ht : tb.lookup t = some ti) (hd : ti.d = .slice e) (he : tb.lookup e = some te) (hz : te.zero.cells.size = te.size)
    (a : Option Addr) (n cap : Nat) (olds : List Value) (hol : olds.length = n * te.size) (hold : n = 0 ∨ ∃ b off, a = some ⟨b, off, none⟩ ∧ ∀ (j : Nat) u, olds[j]? = some u → w.cell? ⟨b, off + j, none⟩ = some u)
    (ha : a = none → cap = 0) (hncap : n ≤ cap) (hcap : cap ≤ maxLen)
    (own : Option Nat) (hown : cap = n ∨ ∃ (b : Nat) (us : Array Value), a = some ⟨b, 0, none⟩ ∧ own = some b ∧ w.heap[b]? = some (.cells us e (0, 0)) ∧ us.size = cap * te.size)
    (b' off' m c : Nat) (news : List Value) (hnl : news.length = m * te.size) (hnew : ∀ (j : Nat) u, news[j]? = some u → w.cell? ⟨b', off' + j, none⟩ = some u) (h1 : ∀ u ∈ news, u.oneCell' = true)
    (hm : 0 < m) (hmax : n + m ≤ maxLen) (hbytes : (n + m) * te.bytes ≤ 140737488355328) :
    ∃ g cap' w', (Builtin.append_ #[t, t] ty #[.slice a n cap, .slice (some ⟨b', off', none⟩) m c]).run P w = .ok (.slice (some ⟨g, 0, none⟩) (n + m) cap') w' ∧ Grown w w' e te.size (n + m) (olds ++ news) g cap' own := by
  obtain ⟨_, i, i1, i2, i3, i4, _⟩ := hT e te he
  have hu := hT.und ht
  rw [hd] at hu
  have hnew' : ∀ (j : Nat) u, news[j]? = some u → w.cell? ((⟨b', off', none⟩ : Addr).add j) = some u := fun j u hj => by rw [addAt]; exact hnew j u hj
  have h63 : ((n + m : Nat) : Int) ≤ 9223372036854775807 := by unfold maxLen at hmax; omega
  by_cases hroom : n + m ≤ cap
  · rcases hown with hc | ⟨b, us, rfl, rfl, hb, hus⟩
    · omega
    · have hfit : n * i.size + news.length ≤ us.size := by rw [hnl, hus, i2, ← Nat.add_mul]; exact Nat.mul_le_mul_right _ hroom
      have hr := run_append_room (P := P) w t ty e i hu i1 b n cap us hb ⟨b', off', none⟩ m c news (by rw [i2]; exact hnl) hnew' h1 hroom hfit
      have hol2 : us.toList.take (n * te.size) = olds := by
        apply List.ext_getElem?
        intro j
        rw [List.getElem?_take]
        split
        · rename_i hj
          rcases hold with h0 | ⟨b2, off2, h2, h3⟩
          · subst h0; simp at hj
          · cases h2
            have hj2 : j < olds.length := by omega
            have := h3 j olds[j] (List.getElem?_eq_getElem hj2)
            rw [cell_of_row w b _ us e (0, 0) hb, Nat.zero_add] at this
            rw [List.getElem?_eq_getElem hj2, ← this]; simp
        · rename_i hj
          rw [List.getElem?_eq_none (by omega)]
      refine ⟨b, cap, _, hr, rfl, rfl, rfl, by simp [World.setRow], ⟨_, setRow_heap w b us _ e _ hb, ?_, ?_⟩, hroom, hcap, fun k _ hk => setRow_other w b k _ hk, .inr rfl, setRow_shp hb ?_⟩
      rotate_right
      · simp only [List.size_toArray, List.length_append, List.length_take, List.length_drop, Array.length_toList]; omega
      · simp only [List.size_toArray, List.length_append, List.length_take, List.length_drop, Array.length_toList]
        omega
      · rw [i2, hol2]
        rw [show (n + m) * te.size = (olds ++ news).length by rw [List.length_append, hol, hnl, Nat.add_mul]]
        exact List.take_left
  · have hfits := growslice_fits (need := n + m) (old := cap) (bytes := i.bytes) (by omega) (by rw [i3]; exact hbytes)
    cases a with
    | none =>
      have hc0 := ha rfl
      have hn0 : n = 0 := by omega
      subst hn0; subst hc0
      have hol0 : olds = [] := List.eq_nil_of_length_eq_zero (by simpa using hol)
      subst hol0
      have hr := run_append_nil (P := P) w t ty e i te.zero hu i1 i4 ⟨b', off', none⟩ m c news (by rw [i2]; exact hnl) hnew' hm (by unfold maxLen at hmax; omega) (by rw [i3]; rw [Nat.zero_add] at hbytes; omega)
      have hg := grow_new w e te.size 0 m 0 te.zero hz [] news (by simp) hnl hmax own
      simp only [Nat.zero_add, List.nil_append, Array.empty_append] at hg ⊢
      exact ⟨_, _, _, hr, hg⟩
    | some ad =>
      have holds : ∀ (j : Nat) v, olds[j]? = some v → w.cell? (ad.add j) = some v := fun j v hj => by
        rcases hold with h0 | ⟨b2, off2, h2, h3⟩
        · subst h0
          have : olds = [] := List.eq_nil_of_length_eq_zero (by simpa using hol)
          subst this; simp at hj
        · cases h2; rw [addAt]; exact h3 j v hj
      have hr := run_append_grow (P := P) w t ty e i te.zero hu i1 i4 ad n cap olds (by rw [i2]; exact hol) holds ⟨b', off', none⟩ m c news (by rw [i2]; exact hnl) hnew' (by omega) h63 hfits
      exact ⟨_, _, _, hr, grow_new w e te.size n m cap te.zero hz olds news hol hnl hmax own⟩

/-- The ghost behind an append by token t. -/
def Gh.grow (G : Gh) (t g N size : Nat) : Gh :=
  { com := fun b o => G.com b o ∨ (b = g ∧ o < N * size), name := G.name, tok := G.tok.set t ⟨N, some g, N * size, none⟩ }
theorem grow_stp {G : Gh} {s : S} {w w' : World} (hI : Inv G s w) {t : Nat} {T : Tok} (hT : G.tok[t]? = some T) {e size n m g cap : Nat} {cells : List Value} (hG : Grown w w' e size (n + m) cells g cap T.blk) (hp : T.pro = none) (hn : T.len = n) (hm : 0 < m)
    (hc : T.blk = some g → T.cells = n * size) (hcl : cells.length = (n + m) * size)
    (hold : T.blk = some g → ∀ j u, j < n * size → cells[j]? = some u → w.cell? ⟨g, j, none⟩ = some u) :
    Stp G w (G.grow t g (n + m) size) w' ∧ Inv (G.grow t g (n + m) size) { s with live := s.live.set t (n + m) } w' := by
  have hTm : T ∈ G.tok := List.mem_of_getElem? hT
  obtain ⟨cur, r1, r2, r3⟩ := hG.row
  have hgn : g ∉ G.name := fun hm => by
    rcases hG.which with h | h
    · have := name_lt hI g hm; omega
    · exact (hI.tok t T g hT (.inl h)).2.1 hm
  have hg' : g < w'.heap.size := (Array.getElem?_eq_some_iff.1 r1).1
  have hgt : ∀ (t' : Nat) T', G.tok[t']? = some T' → T'.has g → t' = t := fun t' T' h1 h2 => by
    rcases hG.which with h | h
    · have := (hI.tok t' T' g h1 h2).1; omega
    · exact (hI.tok t T g hT (.inl h)).2.2 t' T' h1 h2
  have hlt : t < G.tok.length := (List.getElem?_eq_some_iff.1 hT).1
  have hlive : G.tok.map (·.len) = s.live := hI.live
  have hst : Stp G w (G.grow t g (n + m) size) w' := by
    refine ⟨⟨hG.os, hG.tape, hG.output, hG.size_le, fun b o u h hu => ⟨.inl h, ?_⟩, fun b h1 h2 h3 => ?_, fun b o h => ?_, fun b h => ?_, fun _ _ h => .inl h, hG.shp⟩, fun nm b h => h, fun t' T' h => ?_⟩
    · have hb := hI.com b o h
      by_cases hbg : b = g
      · subst hbg
        rcases hG.which with h1 | h1
        · omega
        · have ho := (hb.2.2 T hTm).1 h1
          rw [hc h1] at ho
          have hoc : o < cells.length := by rw [hcl, Nat.add_mul]; omega
          have h2 := hold h1 o cells[o] ho (List.getElem?_eq_getElem hoc)
          rw [hu] at h2
          rw [cell_of_row w' b o cur e (0, 0) r1]
          have h3 : cells[o]? = some u := by rw [List.getElem?_eq_getElem hoc]; exact h2.symm
          rw [← r3, List.getElem?_take] at h3
          split at h3
          · simpa using h3
          · cases h3
      · rw [World.cell?_of_block (w := w) (hG.old b hb.1 hbg)]; exact hu
    · refine hG.old b h1 fun e => ?_
      subst e
      rcases hG.which with h | h
      · omega
      · exact h3 T hTm (.inl h)
    · rcases h with h | ⟨rfl, -⟩
      · exact .inl h
      · rcases hG.which with h | h
        · exact .inr (.inl (by omega))
        · exact .inr (.inr (.inr ⟨T, hTm, .inl h⟩))
    · rcases h with h | ⟨T', hT', hb⟩
      · exact .inr (.inl h)
      · have hT' : T' ∈ G.tok.set t ⟨n + m, some g, (n + m) * size, none⟩ := hT'
        rcases List.mem_or_eq_of_mem_set hT' with h | h
        · exact .inr (.inr ⟨T', h, hb⟩)
        · subst h
          have hb := Tok.has_row.1 hb
          cases hb
          rcases hG.which with h | h
          · exact .inl (by omega)
          · exact .inr (.inr ⟨T, hTm, .inl h⟩)
    · by_cases htt : t' = t
      · subst htt
        rw [hT] at h
        cases h
        exact ⟨⟨n + m, some g, (n + m) * size, none⟩, List.getElem?_set_self hlt, ⟨by simp only; omega, by simp [hp]⟩, fun e => by simp only at e; omega⟩
      · refine ⟨T', ?_, .refl T', fun _ => ⟨rfl, fun b hb => hG.old b (hI.tok t' T' b h hb).1 fun e => htt (hgt t' T' h (e ▸ hb))⟩⟩
        show (G.tok.set t _)[t']? = _
        rw [List.getElem?_set_ne (fun e => htt e.symm)]; exact h
  refine ⟨hst, ⟨fun b o h => ?_, hI.names, hI.nodup, fun i b cs hb hcs => ?_, ?_, fun t' T' b h hb => ?_, fun T' hT' => ?_, hI.glob.mono hst.ext.com⟩⟩
  rotate_right
  · have hT' : T' ∈ G.tok.set t ⟨n + m, some g, (n + m) * size, none⟩ := hT'
    obtain ⟨i, hi⟩ := List.getElem?_of_mem hT'
    by_cases hit : t = i
    · subst hit
      rw [List.getElem?_set_self hlt] at hi
      cases hi
      exact ⟨fun q hq => (nomatch hq), fun b o ⟨q, hq, _⟩ => (nomatch hq)⟩
    · rw [List.getElem?_set_ne hit] at hi
      have hm := List.mem_of_getElem? hi
      exact ⟨Tok.ok_ext (hI.pro T' hm) hst.ext fun b hb => hG.old b (hI.tok i T' b hi hb).1 fun e => hit (hgt i T' hi (e ▸ hb)).symm, fun b o hr => .inl ((hI.pro T' hm).2 b o hr)⟩
  · have htok : ∀ T' ∈ G.tok.set t ⟨n + m, some g, (n + m) * size, none⟩, T'.may b o := fun T' hT' => by
      rcases List.mem_or_eq_of_mem_set hT' with h' | h'
      · rcases h with h | ⟨rfl, h⟩
        · exact (hI.com b o h).2.2 T' h'
        · have key : T'.has b → T'.may b o := fun hb => by
            obtain ⟨t', ht'⟩ := List.getElem?_of_mem h'
            have e1 := hgt t' T' ht' hb
            subst e1
            rw [hT] at ht'
            cases ht'
            rcases List.getElem?_of_mem hT' with ⟨i, hi⟩
            by_cases hit : t' = i
            · subst hit
              rw [List.getElem?_set_self hlt] at hi
              cases hi; exact Tok.may_row.2 fun _ => h
            · rw [List.getElem?_set_ne hit] at hi
              exact absurd (hgt i T hi hb).symm hit
          exact ⟨fun hb => (key (.inl hb)).1 hb, fun hb => (key (.inr hb)).2 hb⟩
      · subst h'
        refine Tok.may_row.2 fun hb => ?_
        cases hb
        rcases h with h | ⟨-, h⟩
        · rcases hG.which with h1 | h1
          · have := (hI.com _ o h).1; omega
          · have ho := ((hI.com _ o h).2.2 T hTm).1 h1
            rw [hc h1] at ho
            show o < (n + m) * size
            rw [Nat.add_mul]; omega
        · exact h
    rcases h with h | ⟨rfl, h⟩
    · obtain ⟨h1, h2, -⟩ := hI.com b o h
      exact ⟨Nat.lt_of_lt_of_le h1 hG.size_le, h2, htok⟩
    · exact ⟨hg', hgn, htok⟩
  · obtain ⟨us, ty, h1, h2, h3⟩ := hI.var i b cs hb hcs
    have hbn : b ∈ G.name := List.mem_of_getElem? hb
    refine ⟨us, ty, ?_, h2, fun j c u hc hu => ⟨(h3 j c u hc hu).1, (h3 j c u hc hu).2.mono hst⟩⟩
    rw [hG.old b (name_lt hI b hbn) fun e => hgn (e ▸ hbn)]; exact h1
  · show (G.tok.set t _).map (·.len) = s.live.set t (n + m)
    rw [List.map_set, hlive]
  · have h : (G.tok.set t ⟨n + m, some g, (n + m) * size, none⟩)[t']? = some T' := h
    have hb2 : b < w'.heap.size ∧ b ∉ G.name ∧ (b = g ∨ ∃ T'', G.tok[t']? = some T'' ∧ T''.has b) ∧ (t' = t → b = g) := by
      by_cases htt : t' = t
      · subst htt
        rw [List.getElem?_set_self hlt] at h
        cases h
        have hb := Tok.has_row.1 hb
        cases hb
        exact ⟨hg', hgn, .inl rfl, fun _ => rfl⟩
      · rw [List.getElem?_set_ne (fun e => htt e.symm)] at h
        obtain ⟨h1, h2, -⟩ := hI.tok t' T' b h hb
        exact ⟨Nat.lt_of_lt_of_le h1 hG.size_le, h2, .inr ⟨T', h, hb⟩, fun e => absurd e htt⟩
    refine ⟨hb2.1, hb2.2.1, fun t'' T'' h0 hb'' => ?_⟩
    have h'' : (G.tok.set t ⟨n + m, some g, (n + m) * size, none⟩)[t'']? = some T'' := h0
    clear h0
    by_cases h1 : t'' = t
    · subst h1
      rw [List.getElem?_set_self hlt] at h''
      cases h''
      have hb'' := Tok.has_row.1 hb''
      cases hb''
      by_cases h2 : t' = t''
      · exact h2.symm
      · rw [List.getElem?_set_ne (fun e => h2 e.symm)] at h
        exact absurd (hgt t' T' h hb) h2
    · rw [List.getElem?_set_ne (fun e => h1 e.symm)] at h''
      by_cases h2 : t' = t
      · have := hb2.2.2.2 h2
        subst this
        exact absurd (hgt t'' T'' h'' hb'') h1
      · rw [List.getElem?_set_ne (fun e => h2 e.symm)] at h
        exact (hI.tok t' T' b h hb).2.2 t'' T'' h'' hb''

theorem row_rel2 {C : Nat → Nat → Prop} {w : World} (b : Nat) (arr : Array Value) (ty : TypeId) (fr : Nat × Nat) (hb : w.heap[b]? = some (.cells arr ty fr)) (es : List (List V)) (size cap : Nat) (hC : ∀ o, o < es.length * size → C b o) (full : Bool)
    (h1 : es.length ≤ cap) (h2 : cap ≤ maxLen) (h3 : full = true → cap = es.length) (h4 : ∀ e ∈ es, e.length = size)
    (h : ∀ (i k : Nat) e c, es[i]? = some e → e[k]? = some c → ∃ u, arr[i * size + k]? = some u ∧ u.oneCell' = true ∧ VRel C w c u) : VRel C w (.sl full es) (.slice (some ⟨b, 0, none⟩) es.length cap) := by
  refine .sl full es _ cap size b 0 (fun j => arr.getD j undef) h1 h2 h3 h4 (fun h => by cases h) (fun i k e c he hc => ?_) (fun i k e c he hc => ?_) (fun _ ad had => by cases had; exact (Array.getElem?_eq_some_iff.1 hb).1)
  · obtain ⟨u, hu, ho, _⟩ := h i k e c he hc
    have hg : arr.getD (i * size + k) undef = u := by simp [Array.getD_eq_getD_getElem?, hu]
    have hi := (List.getElem?_eq_some_iff.1 he).1
    have hk : k < size := by rw [← h4 e (List.mem_of_getElem? he)]; exact (List.getElem?_eq_some_iff.1 hc).1
    have hlt : i * size + k < es.length * size := by
      have : (i + 1) * size ≤ es.length * size := Nat.mul_le_mul_right _ hi
      rw [Nat.add_mul] at this; omega
    refine ⟨rfl, by rw [Nat.zero_add]; exact hC _ hlt, ?_, ?_⟩
    · rw [cell_of_row w b _ arr ty fr hb, Nat.zero_add, hg, hu]
    · rw [hg]; exact ho
  · obtain ⟨u, hu, _, hv⟩ := h i k e c he hc
    have hg : arr.getD (i * size + k) undef = u := by simp [Array.getD_eq_getD_getElem?, hu]
    show VRel C w c (arr.getD (i * size + k) undef)
    rw [hg]; exact hv
theorem addTok_stp {G : Gh} {s : S} {w : World} (hI : Inv G s w) (n : Nat) : Stp G w { G with tok := G.tok ++ [⟨n, none, 0, none⟩] } w ∧ Inv { G with tok := G.tok ++ [⟨n, none, 0, none⟩] } { s with live := s.live ++ [n] } w := by
  have key : ∀ (t : Nat) T, G.tok[t]? = some T → (G.tok ++ [⟨n, none, 0, none⟩])[t]? = some T := fun t T h => by
    rw [List.getElem?_append_left (List.getElem?_eq_some_iff.1 h).1]; exact h
  have back : ∀ (t : Nat) T b, (G.tok ++ [⟨n, none, 0, none⟩])[t]? = some T → T.has b → G.tok[t]? = some T := fun t T b h hb => by
    by_cases ht : t < G.tok.length
    · rw [List.getElem?_append_left ht] at h; exact h
    · rw [List.getElem?_append_right (by omega)] at h
      have h2 : T ∈ [(⟨n, none, 0, none⟩ : Tok)] := List.mem_of_getElem? h
      simp at h2
      subst h2
      have hb := Tok.has_row.1 hb
      cases hb
  have hst : Stp G w { G with tok := G.tok ++ [⟨n, none, 0, none⟩] } w := by
    refine ⟨⟨rfl, rfl, rfl, Nat.le_refl _, fun _ _ _ h k => ⟨h, k⟩, fun _ _ _ _ => rfl, fun _ _ h => .inl h, fun b h => ?_, fun _ _ h => h, .refl w⟩, fun _ _ h => h, fun t T h => ⟨T, key t T h, .refl T, fun _ => ⟨rfl, fun _ _ => rfl⟩⟩⟩
    rcases h with h | ⟨T, hT, hb⟩
    · exact .inr (.inl h)
    · obtain ⟨t, ht⟩ := List.getElem?_of_mem hT
      exact .inr (.inr ⟨T, List.mem_of_getElem? (back t T b ht hb), hb⟩)
  refine ⟨hst, ⟨fun b o h => ?_, hI.names, hI.nodup, fun i b cs hb hcs => ?_, by simp [hI.live], fun t T b h hb => ?_, fun T hT => ?_, hI.glob.mono hst.ext.com⟩⟩
  rotate_right
  · obtain ⟨t, ht⟩ := List.getElem?_of_mem hT
    have ht : (G.tok ++ [⟨n, none, 0, none⟩])[t]? = some T := ht
    by_cases hl : t < G.tok.length
    · rw [List.getElem?_append_left hl] at ht
      exact hI.pro T (List.mem_of_getElem? ht)
    · rw [List.getElem?_append_right (by omega)] at ht
      have h2 : T ∈ [(⟨n, none, 0, none⟩ : Tok)] := List.mem_of_getElem? ht
      simp at h2
      subst h2
      exact ⟨fun q hq => (nomatch hq), fun b o ⟨q, hq, _⟩ => (nomatch hq)⟩
  · obtain ⟨h1, h2, h3⟩ := hI.com b o h
    refine ⟨h1, h2, fun T hT => ?_⟩
    obtain ⟨t, ht⟩ := List.getElem?_of_mem hT
    exact ⟨fun hb => (h3 T (List.mem_of_getElem? (back t T b ht (.inl hb)))).1 hb, fun hb => (h3 T (List.mem_of_getElem? (back t T b ht (.inr hb)))).2 hb⟩
  · obtain ⟨us, ty, h1, h2, h3⟩ := hI.var i b cs hb hcs
    exact ⟨us, ty, h1, h2, fun j c u hc hu => ⟨(h3 j c u hc hu).1, (h3 j c u hc hu).2.mono hst⟩⟩
  · obtain ⟨h1, h2, h3⟩ := hI.tok t T b (back t T b h hb) hb
    exact ⟨h1, h2, fun t' T' h' hb' => h3 t' T' (back t' T' b h' hb') hb'⟩
def aApp (tb : Tbl) (t : Nat) (x y : D) (s : S) (K : D → S → Prop) : Prop :=
  match tb.lookup t, unp y with
  | some ti, some (.sl _ fs) => match ti.d with
    | .slice e => match tb.lookup e with
      | some te => if te.zero.cells.size = te.size ∧ 0 < te.size ∧ e < 1000000 then
        match x with
        | .own tk e' sz es => if (e' = e ∨ e' = e + 1000000) ∧ sz = te.size then s.live[tk]? = some es.length ∧ ((∀ x ∈ fs, x.length = te.size) ∧ (es.length + fs.length) * te.bytes ≤ 140737488355328 ∧ es.length + fs.length ≤ 9223372036854775807) ∧
            K (.own tk e' te.size (es ++ fs)) { s with live := s.live.set tk (es ++ fs).length } else False
        | .p (.sl true es) => (es.length = 0 ∨ 0 < fs.length) ∧ (∀ x ∈ es, x.length = te.size) ∧ ((∀ x ∈ fs, x.length = te.size) ∧ (es.length + fs.length) * te.bytes ≤ 140737488355328 ∧ es.length + fs.length ≤ 9223372036854775807) ∧
            K (.own s.live.length e te.size (es ++ fs)) { s with live := s.live ++ [(es ++ fs).length] }
        | _ => False
        else False
      | none => False
    | _ => False
  | _, _ => False
theorem run_append_zero (hT : TblOk P tb) (w : World) {t e : Nat} (ty : TypeId) {ti te : TI} (ht : tb.lookup t = some ti) (hd : ti.d = .slice e) (he : tb.lookup e = some te) (a : Option Addr) (n cap : Nat) (hn : n ≤ cap) (b : Option Addr) (c : Nat) :
    (Builtin.append_ #[t, t] ty #[.slice a n cap, .slice b 0 c]).run P w = .ok (.slice a n cap) w := by
  have hu := hT.und ht
  rw [hd] at hu
  have hf : (Builtin.firstCells te.size 0 (.slice b 0 c)).run P w = .ok #[] w := by
    cases b with
    | none => simp [Builtin.firstCells]
    | some b => simp [Builtin.firstCells, loadCells, loadCellsFrom]
  cases a with
  | none => simp [Builtin.append_, run_underlying hu, hT.sz he, Builtin.lenOf, hn, hf]
  | some a => simp [Builtin.append_, run_underlying hu, hT.sz he, Builtin.lenOf, hn, hf, storeCells]
/-- The append by a token. -/
theorem app_own_core (hT : TblOk P tb) {G : Gh} {w : World} {s : S} (hI : Inv G s w) {K : D → S → Prop} {t e : Nat} (ty : TypeId) {ti te : TI} (ht : tb.lookup t = some ti) (hd : ti.d = .slice e) (he : tb.lookup e = some te) (hz : te.zero.cells.size = te.size) (hz0 : 0 < te.size)
    {tk : Nat} {es fs : List (List V)} {full : Bool} {v : Value} {a : Option Addr} {cap : Nat} {T : Tok} (x1 : VRel G.com w (.sl false es) (.slice a es.length cap)) (x2 : ∀ x ∈ es, x.length = te.size) (x3 : G.tok[tk]? = some T) (x0 : T.pro = none) (hlen : es.length = T.len) {em : Nat} (hem : rowTy em = e) (hO : (cap = es.length ∨ ∃ (b : Nat) (us : Array Value) (T' : Tok), a = some ⟨b, 0, none⟩ ∧ G.tok[tk]? = some T' ∧ T'.blk = some b ∧ T'.cells = es.length * te.size ∧ w.heap[b]? = some (.cells us e (0, 0)) ∧ us.size = cap * te.size)) (hcl0 : fs.length = 0 → DRel G w (.own tk em te.size es) (.slice a es.length cap)) (hy : VRel G.com w (.sl full fs) v) (hl : s.live[tk]? = some es.length) (hfs : ∀ x ∈ fs, x.length = te.size)
    (hby : (es.length + fs.length) * te.bytes ≤ 140737488355328) (hmax : es.length + fs.length ≤ 9223372036854775807) (h : K (.own tk em te.size (es ++ fs)) { s with live := s.live.set tk (es.length + fs.length) }) :
    Out P G w ((Builtin.append_ #[t, t] ty #[.slice a es.length cap, v]).run P w) K := by
  obtain ⟨a2, cap2, e2, c1, c2, -⟩ := x1.isSlice
  cases e2
  obtain ⟨ya, yc, rfl, d1, d2, -⟩ := hy.isSlice
  by_cases hm : fs.length = 0
  · have hfs0 : fs = [] := List.eq_nil_of_length_eq_zero hm
    have hcl1 := hcl0 hm
    subst hfs0
    refine ⟨_, w, G, _, s, run_append_zero hT w ty ht hd he a es.length cap c1 ya yc, .refl G w, hI, hcl1, ?_⟩
    have e1 : s.live.set tk es.length = s.live := List.ext_getElem? fun i => by
      by_cases hi : tk = i
      · subst hi
        rw [List.getElem?_set_self (List.getElem?_eq_some_iff.1 hl).1, hl]
      · rw [List.getElem?_set_ne hi]
    simpa [e1] using h
  · obtain ⟨olds, o1, o2, o3, o4⟩ := x1.flat te.size x2 hz0
    obtain ⟨news, n1, n2, n3, n4⟩ := hy.flat te.size hfs hz0
    rcases n4 with n4 | ⟨b', off', rfl, n4⟩
    · exact absurd n4 hm
    have ha : a = none → cap = 0 := fun h0 => by
      cases x1 with
      | sl _ _ _ _ _ _ _ _ _ _ _ _ g5 => exact g5 h0
    obtain ⟨own, hown, hT1, hT2⟩ : ∃ own : Option Nat, (cap = es.length ∨ ∃ (b : Nat) (us : Array Value), a = some ⟨b, 0, none⟩ ∧ own = some b ∧ w.heap[b]? = some (.cells us e (0, 0)) ∧ us.size = cap * te.size) ∧
        (∀ g, own = some g → T.blk = some g ∧ T.cells = es.length * te.size ∧ a = some ⟨g, 0, none⟩) ∧ True := by
      rcases hO with h0 | ⟨b, us, T', e1, e2, e3, e4, e5, e6⟩
      · exact ⟨none, .inl h0, (fun g hg => by cases hg), trivial⟩
      · rw [x3] at e2
        cases e2
        exact ⟨some b, .inr ⟨b, us, e1, rfl, e5, e6⟩, (fun g hg => by cases hg; exact ⟨e3, e4, e1⟩), trivial⟩
    obtain ⟨g, cap', w', hr, hG⟩ := append_run hT w ty ht hd he hz a es.length cap olds o1 (o4.imp id fun ⟨b, off, q1, q2⟩ => ⟨b, off, q1, fun j u hj => (q2 j u hj).1⟩) ha c1 c2 own hown b' off' fs.length yc news n1 (fun j u hj => (n4 j u hj).1) n3 (by omega) (by unfold maxLen; exact hmax) hby
    have hG2 : Grown w w' e te.size (es.length + fs.length) (olds ++ news) g cap' T.blk := { hG with which := hG.which.imp id fun h0 => (hT1 g h0).1 }
    have hcl : (olds ++ news).length = (es.length + fs.length) * te.size := by rw [List.length_append, o1, n1, Nat.add_mul]
    have hne : T.blk = some g → own = some g := fun h0 => by
      rcases hG.which with h1 | h1
      · have := (hI.tok tk T g x3 (.inl h0)).1; omega
      · exact h1
    obtain ⟨s1, s2⟩ := grow_stp hI x3 hG2 x0 hlen.symm (by omega) (fun h0 => (hT1 g (hne h0)).2.1) hcl (fun h0 j u hj hu => by
      have h1 := (hT1 g (hne h0)).2.2
      rw [List.getElem?_append_left (by rw [o1]; exact hj)] at hu
      rcases o4 with o4 | ⟨b, off, q1, q2⟩
      · rw [o4] at hj; simp at hj
      · rw [q1] at h1
        cases h1
        have := (q2 j u hu).1
        rw [Nat.zero_add] at this; exact this)
    obtain ⟨cur, r1, r2, r3⟩ := hG.row
    have hes : (es ++ fs).length = es.length + fs.length := List.length_append
    have hv : VRel (G.grow tk g (es.length + fs.length) te.size).com w' (.sl false (es ++ fs)) (.slice (some ⟨g, 0, none⟩) (es ++ fs).length cap') := by
      refine row_rel2 g cur e (0, 0) r1 (es ++ fs) te.size cap' (fun o ho => .inr ⟨rfl, by rw [hes] at ho; exact ho⟩) false (by rw [hes]; exact hG.fits) hG.max (fun h0 => by cases h0) (fun x hx => by
        rcases List.mem_append.1 hx with h0 | h0
        · exact x2 x h0
        · exact hfs x h0) (fun i k x c hx hc => ?_)
      have hcur : ∀ j u, (olds ++ news)[j]? = some u → cur[j]? = some u := fun j u hj => by
        rw [← r3, List.getElem?_take] at hj
        split at hj
        · simpa using hj
        · cases hj
      by_cases hi : i < es.length
      · rw [List.getElem?_append_left hi] at hx
        obtain ⟨u, hu, hvu⟩ := o2 i k x c hx hc
        refine ⟨u, hcur _ u ?_, o3 u (List.mem_of_getElem? hu), hvu.mono s1.ext.size s1.ext.com⟩
        rw [List.getElem?_append_left (List.getElem?_eq_some_iff.1 hu).1]; exact hu
      · rw [List.getElem?_append_right (by omega)] at hx
        obtain ⟨u, hu, hvu⟩ := n2 (i - es.length) k x c hx hc
        refine ⟨u, hcur _ u ?_, n3 u (List.mem_of_getElem? hu), hvu.mono s1.ext.size s1.ext.com⟩
        have e1 : i * te.size + k = olds.length + ((i - es.length) * te.size + k) := by
          rw [o1, ← Nat.add_assoc, ← Nat.add_mul]; congr 2; omega
        rw [e1, List.getElem?_append_right (by omega), Nat.add_sub_cancel_left]; exact hu
    have hset : (G.grow tk g (es.length + fs.length) te.size).tok[tk]? = some ⟨es.length + fs.length, some g, (es.length + fs.length) * te.size, none⟩ := List.getElem?_set_self (List.getElem?_eq_some_iff.1 x3).1
    refine ⟨_, w', _, _, _, hr, s1, s2, ?_, h⟩
    rw [hes] at hv
    refine .own tk em te.size (es ++ fs) _ _ hv (fun x hx => ?_) hset rfl (by rw [hes]; exact Nat.le_refl _) (fun _ => ?_)
    · rcases List.mem_append.1 hx with h0 | h0
      · exact x2 x h0
      · exact hfs x h0
    · rw [hes]
      exact ⟨_, cap', rfl, .inr (.inl ⟨g, cur, _, rfl, hset, rfl, rfl, by rw [hem]; exact r1, r2⟩)⟩
theorem app_own (hT : TblOk P tb) {G : Gh} {w : World} {s : S} (hI : Inv G s w) {K : D → S → Prop} {t e : Nat} (ty : TypeId) {ti te : TI} (ht : tb.lookup t = some ti) (hd : ti.d = .slice e) (he : tb.lookup e = some te) (hz : te.zero.cells.size = te.size) (hz0 : 0 < te.size)
    {tk : Nat} {es fs : List (List V)} {full : Bool} {u v : Value} {em : Nat} (hem : rowTy em = e) (hx : DRel G w (.own tk em te.size es) u) (hy : VRel G.com w (.sl full fs) v) (hl : s.live[tk]? = some es.length) (hfs : ∀ x ∈ fs, x.length = te.size)
    (hby : (es.length + fs.length) * te.bytes ≤ 140737488355328) (hmax : es.length + fs.length ≤ 9223372036854775807) (h : K (.own tk em te.size (es ++ fs)) { s with live := s.live.set tk (es.length + fs.length) }) :
    Out P G w ((Builtin.append_ #[t, t] ty #[u, v]).run P w) K := by
  cases hx with
  | own _ _ _ _ u T x1 x2 x3 x0 x4 x5 =>
    have hlen : es.length = T.len := by
      have : (G.tok.map (·.len))[tk]? = some T.len := by rw [List.getElem?_map, x3]; rfl
      rw [hI.live, hl] at this
      exact Option.some.inj this
    obtain ⟨a, cap, rfl, hO⟩ := x5 hlen
    obtain ⟨a2, cap2, e2, c1, -⟩ := x1.isSlice
    cases e2
    exact app_own_core hT hI ty ht hd he hz hz0 x1 x2 x3 x0 hlen hem (hO.elim (fun h0 => .inl (by omega)) fun h => h.elim (fun ⟨b, us, T', h1, h2, h3, h4, h5, h6⟩ => .inr ⟨b, us, T', h1, h2, h3, h4, by rw [hem] at h5; exact h5, h6⟩) fun h => .inl h.2) (fun _ => .own tk em te.size es _ T x1 x2 x3 x0 x4 x5) hy hl hfs hby hmax h
theorem aApp_sound (hT : TblOk P tb) {G : Gh} {w : World} {s : S} (hI : Inv G s w) {K : D → S → Prop} {t : Nat} (ty : TypeId) {x y : D} {u v : Value} (hx : DRel G w x u) (hy : DRel G w y v) (h : aApp tb t x y s K) :
    Out P G w ((Builtin.append_ #[t, t] ty #[u, v]).run P w) K := by
  unfold aApp at h
  split at h
  · rename_i ti full fs ht hyu
    have hy := unp_rel hy hyu
    split at h
    · rename_i e hd
      split at h
      · rename_i te he
        split at h
        · rename_i hz
          split at h
          · rename_i tk e' sz es
            split at h
            · rename_i he'
              obtain ⟨hem, rfl⟩ := he'
              have hem : rowTy e' = e := hem.elim (fun h => by subst h; exact rowTy_lt hz.2.2) fun h => by subst h; exact rowTy_add e
              obtain ⟨h1, ⟨h2, h3, h4⟩, h5⟩ := h
              rw [List.length_append] at h5
              exact app_own hT hI ty ht hd he hz.1 hz.2.1 hem hx hy h1 h2 h3 h4 h5
            · exact h.elim
          · rename_i es
            obtain ⟨h6, h1, ⟨h2, h3, h4⟩, h5⟩ := h
            rw [List.length_append] at h5
            cases hx with
            | p _ u hx =>
              obtain ⟨a, cap, rfl, c1, c2, c3, c4⟩ := hx.isSlice
              obtain ⟨s1, s2⟩ := addTok_stp hI es.length
              have hx' : VRel G.com w (.sl false es) (.slice a es.length cap) := by
                cases hx with
                | sl _ _ _ _ size b off us g1 g2 g3 g4 g5 g6 g7 g8 => exact .sl false es a cap size b off us g1 g2 (fun h => by cases h) g4 g5 g6 g7 (fun h => by cases h)
              have hlive : G.tok.length = s.live.length := by rw [← hI.live]; simp
              have htok : (G.tok ++ [(⟨es.length, none, 0, none⟩ : Tok)])[s.live.length]? = some ⟨es.length, none, 0, none⟩ := by rw [← hlive]; exact List.getElem?_concat_length
              have hd' : es.length = 0 → DRel { G with tok := G.tok ++ [⟨es.length, none, 0, none⟩] } w (.own s.live.length e te.size es) (.slice a es.length cap) := fun h0 =>
                .own _ _ _ _ _ ⟨es.length, none, 0, none⟩ hx' h1 htok rfl (Nat.le_refl _) (fun _ => ⟨a, cap, rfl, .inl ⟨by rw [c3 rfl]; exact h0, c4 rfl⟩⟩)
              obtain ⟨r, w', G', d, s', r1, r2, r3, r4, r5⟩ := app_own_core (K := K) (T := ⟨es.length, none, 0, none⟩) hT s2 ty ht hd he hz.1 hz.2.1 hx' h1 htok rfl rfl (rowTy_lt hz.2.2) (.inl (c3 rfl)) (fun h0 => hd' (h6.elim id fun h7 => by omega)) (hy.mono s1.ext.size s1.ext.com) List.getElem?_concat_length h2 h3 h4 (by
                have e1 : (s.live ++ [es.length]).set s.live.length (es.length + fs.length) = s.live ++ [es.length + fs.length] := by simp
                simpa only [e1] using h5)
              exact ⟨r, w', G', d, s', r1, s1.trans r2, r3, r4, r5⟩
          · exact h.elim
        · exact h.elim
      · exact h.elim
    · exact h.elim
  · exact h.elim
/-! ### a string's bytes behind a row -/
theorem run_append_zero_str (hT : TblOk P tb) (w : World) {t t' e : Nat} (ty : TypeId) {ti te : TI} (ht : tb.lookup t = some ti) (hd : ti.d = .slice e) (hus : P.underlying t' = some .string) (he : tb.lookup e = some te) (a : Option Addr) (n cap : Nat) (hn : n ≤ cap) (z : ByteArray) (hz : z.size = 0) :
    (Builtin.append_ #[t, t'] ty #[.slice a n cap, .string z]).run P w = .ok (.slice a n cap) w := by
  have hu := hT.und ht
  rw [hd] at hu
  have hf : (Builtin.firstCells te.size 0 (.string z)).run P w = .ok #[] w := by
    have := Lib.run_firstCells_string (P := P) w te.size z
    rw [hz] at this
    rw [this]
    have h0 : Lib.strCells z = [] := List.eq_nil_of_length_eq_zero (by rw [Lib.strCells_length]; exact hz)
    rw [h0]
  cases a with
  | none => simp [Builtin.append_, run_underlying hu, run_underlying hus, hT.sz he, Builtin.lenOf, hz, hn, hf]
  | some a => simp [Builtin.append_, run_underlying hu, run_underlying hus, hT.sz he, Builtin.lenOf, hz, hn, hf, storeCells]
theorem append_run_str (hT : TblOk P tb) (w : World) {t t' e : Nat} (ty : TypeId) {ti te : TI} (ht : tb.lookup t = some ti) (hd : ti.d = .slice e) (hus : P.underlying t' = some .string) (he : tb.lookup e = some te) (hz : te.zero.cells.size = te.size) (hs1 : te.size = 1)
    (a : Option Addr) (n cap : Nat) (olds : List Value) (hol : olds.length = n * te.size) (hold : n = 0 ∨ ∃ b off, a = some ⟨b, off, none⟩ ∧ ∀ (j : Nat) u, olds[j]? = some u → w.cell? ⟨b, off + j, none⟩ = some u)
    (ha : a = none → cap = 0) (hncap : n ≤ cap) (hcap : cap ≤ maxLen)
    (own : Option Nat) (hown : cap = n ∨ ∃ (b : Nat) (us : Array Value), a = some ⟨b, 0, none⟩ ∧ own = some b ∧ w.heap[b]? = some (.cells us e (0, 0)) ∧ us.size = cap * te.size)
    (z : ByteArray) (hm : 0 < z.size) (hmax : n + z.size ≤ maxLen) (hbytes : (n + z.size) * te.bytes ≤ 140737488355328) :
    ∃ g cap' w', (Builtin.append_ #[t, t'] ty #[.slice a n cap, .string z]).run P w = .ok (.slice (some ⟨g, 0, none⟩) (n + z.size) cap') w' ∧ Grown w w' e te.size (n + z.size) (olds ++ Lib.strCells z) g cap' own := by
  obtain ⟨_, i, i1, i2, i3, i4, _⟩ := hT e te he
  have hu := hT.und ht
  rw [hd] at hu
  have hnl : (Lib.strCells z).length = z.size * te.size := by rw [Lib.strCells_length, hs1, Nat.mul_one]
  have h63 : ((n + z.size : Nat) : Int) ≤ 9223372036854775807 := by unfold maxLen at hmax; omega
  by_cases hroom : n + z.size ≤ cap
  · rcases hown with hc | ⟨b, us, rfl, rfl, hb, hus2⟩
    · omega
    · have hr := Lib.run_append_room_string (P := P) w t t' ty e i hu hus i1 (by rw [i2]; exact hs1) b n cap us hb z hroom (by rw [hus2, hs1, Nat.mul_one]; exact hroom)
      have hol2 : us.toList.take (n * te.size) = olds := by
        apply List.ext_getElem?
        intro j
        rw [List.getElem?_take]
        split
        · rename_i hj
          rcases hold with h0 | ⟨b2, off2, h2, h3⟩
          · subst h0; simp at hj
          · cases h2
            have hj2 : j < olds.length := by omega
            have := h3 j olds[j] (List.getElem?_eq_getElem hj2)
            rw [cell_of_row w b _ us e (0, 0) hb, Nat.zero_add] at this
            rw [List.getElem?_eq_getElem hj2, ← this]; simp
        · rename_i hj
          rw [List.getElem?_eq_none (by omega)]
      rw [hs1, Nat.mul_one] at hol2
      refine ⟨b, cap, _, hr, rfl, rfl, rfl, by simp [World.setRow], ⟨_, setRow_heap w b us _ e _ hb, ?_, ?_⟩, hroom, hcap, fun k _ hk => setRow_other w b k _ hk, .inr rfl, setRow_shp hb ?_⟩
      rotate_right
      · simp only [List.size_toArray, List.length_append, List.length_take, List.length_drop, Array.length_toList, Lib.strCells_length]; rw [hus2, hs1]; omega
      · rw [hs1, Nat.mul_one] at hus2 ⊢
        simp only [List.size_toArray, List.length_append, List.length_take, List.length_drop, Array.length_toList, Lib.strCells_length]
        omega
      · rw [hol2]
        rw [show (n + z.size) * te.size = (olds ++ Lib.strCells z).length by rw [List.length_append, hol, hnl, Nat.add_mul]]
        exact List.take_left
  · have hfits := growslice_fits (need := n + z.size) (old := cap) (bytes := i.bytes) (by omega) (by rw [i3]; exact hbytes)
    cases a with
    | none =>
      have hc0 := ha rfl
      have hn0 : n = 0 := by omega
      subst hn0; subst hc0
      have hol0 : olds = [] := List.eq_nil_of_length_eq_zero (by simpa using hol)
      subst hol0
      have hr := run_append_nil_string (P := P) w t t' ty e i te.zero hu hus i1 i4 z hm (by unfold maxLen at hmax; omega) (by rw [i3]; rw [Nat.zero_add] at hbytes; omega)
      have hg := grow_new w e te.size 0 z.size 0 te.zero hz [] (Lib.strCells z) (by simp) hnl hmax own
      have hsc : z.data.map (fun b => Value.int .u8 b.toNat) = (Lib.strCells z).toArray := by
        unfold Lib.strCells
        apply Array.ext'
        simp
      rw [hsc] at hr
      simp only [Nat.zero_add, List.nil_append, Array.empty_append] at hg ⊢
      exact ⟨_, _, _, hr, hg⟩
    | some ad =>
      have holds : ∀ (j : Nat) v, olds[j]? = some v → w.cell? (ad.add j) = some v := fun j v hj => by
        rcases hold with h0 | ⟨b2, off2, h2, h3⟩
        · subst h0
          have : olds = [] := List.eq_nil_of_length_eq_zero (by simpa using hol)
          subst this; simp at hj
        · cases h2; rw [addAt]; exact h3 j v hj
      have hr := Lib.run_append_grow_string (P := P) w t t' ty e i te.zero hu hus i1 i4 ad n cap olds (by rw [i2]; exact hol) holds z (by omega) h63 hfits
      exact ⟨_, _, _, hr, grow_new w e te.size n z.size cap te.zero hz olds (Lib.strCells z) hol hnl hmax own⟩
/-- The append of a string's bytes by a token. -/
theorem app_own_str_core (hT : TblOk P tb) {G : Gh} {w : World} {s : S} (hI : Inv G s w) {K : D → S → Prop} {t t' e : Nat} (ty : TypeId) {ti te : TI} (ht : tb.lookup t = some ti) (hd : ti.d = .slice e) (hus : P.underlying t' = some .string) (hs1 : te.size = 1) (he : tb.lookup e = some te) (hz : te.zero.cells.size = te.size) (hz0 : 0 < te.size)
    {tk : Nat} {es fs : List (List V)} {z : ByteArray} (hfz : fs = (bytesOf z).map byteV) {a : Option Addr} {cap : Nat} {T : Tok} (x1 : VRel G.com w (.sl false es) (.slice a es.length cap)) (x2 : ∀ x ∈ es, x.length = te.size) (x3 : G.tok[tk]? = some T) (x0 : T.pro = none) (hlen : es.length = T.len) {em : Nat} (hem : rowTy em = e) (hO : (cap = es.length ∨ ∃ (b : Nat) (us : Array Value) (T' : Tok), a = some ⟨b, 0, none⟩ ∧ G.tok[tk]? = some T' ∧ T'.blk = some b ∧ T'.cells = es.length * te.size ∧ w.heap[b]? = some (.cells us e (0, 0)) ∧ us.size = cap * te.size)) (hcl0 : fs.length = 0 → DRel G w (.own tk em te.size es) (.slice a es.length cap)) (hl : s.live[tk]? = some es.length)
    (hby : (es.length + fs.length) * te.bytes ≤ 140737488355328) (hmax : es.length + fs.length ≤ 9223372036854775807) (h : K (.own tk em te.size (es ++ fs)) { s with live := s.live.set tk (es.length + fs.length) }) :
    Out P G w ((Builtin.append_ #[t, t'] ty #[.slice a es.length cap, .string z]).run P w) K := by
  have hflen : fs.length = z.size := by rw [hfz, List.length_map]; rfl
  have hfs : ∀ x ∈ fs, x.length = te.size := fun x hx => by
    rw [hfz] at hx
    obtain ⟨c, -, rfl⟩ := List.mem_map.1 hx
    rw [hs1]; rfl
  obtain ⟨a2, cap2, e2, c1, c2, -⟩ := x1.isSlice
  cases e2
  by_cases hm : fs.length = 0
  · have hfs0 : fs = [] := List.eq_nil_of_length_eq_zero hm
    have hcl1 := hcl0 hm
    subst hfs0
    refine ⟨_, w, G, _, s, run_append_zero_str hT w ty ht hd hus he a es.length cap c1 z (by rw [← hflen]; exact hm), .refl G w, hI, hcl1, ?_⟩
    have e1 : s.live.set tk es.length = s.live := List.ext_getElem? fun i => by
      by_cases hi : tk = i
      · subst hi
        rw [List.getElem?_set_self (List.getElem?_eq_some_iff.1 hl).1, hl]
      · rw [List.getElem?_set_ne hi]
    simpa [e1] using h
  · obtain ⟨olds, o1, o2, o3, o4⟩ := x1.flat te.size x2 hz0
    obtain ⟨news, hnews⟩ : ∃ news, news = Lib.strCells z := ⟨_, rfl⟩
    have n1 : news.length = fs.length * te.size := by rw [hnews, Lib.strCells_length, hflen, hs1, Nat.mul_one]
    have n3 : ∀ u ∈ news, u.oneCell' = true := by rw [hnews]; exact Lib.strCells_oneCell z
    have n2 : ∀ (i k : Nat) x c, fs[i]? = some x → x[k]? = some c → ∃ u, news[i * te.size + k]? = some u ∧ VRel G.com w c u := fun i k x c hx hc => by
      rw [hfz, List.getElem?_map] at hx
      obtain ⟨y, hy, rfl⟩ := Option.map_eq_some_iff.1 hx
      have hk : k = 0 := by have := (List.getElem?_eq_some_iff.1 hc).1; simpa [byteV] using this
      subst hk
      have hcv : c = .v (.int .u8 y.toNat) := by simpa [byteV] using hc.symm
      subst hcv
      refine ⟨.int .u8 y.toNat, ?_, .v _ rfl⟩
      rw [hnews, hs1, Nat.mul_one, Nat.add_zero]
      unfold Lib.strCells
      unfold bytesOf at hy
      simp only [List.getElem?_map, hy, Option.map_some]
    have ha : a = none → cap = 0 := fun h0 => by
      cases x1 with
      | sl _ _ _ _ _ _ _ _ _ _ _ _ g5 => exact g5 h0
    obtain ⟨own, hown, hT1, hT2⟩ : ∃ own : Option Nat, (cap = es.length ∨ ∃ (b : Nat) (us : Array Value), a = some ⟨b, 0, none⟩ ∧ own = some b ∧ w.heap[b]? = some (.cells us e (0, 0)) ∧ us.size = cap * te.size) ∧
        (∀ g, own = some g → T.blk = some g ∧ T.cells = es.length * te.size ∧ a = some ⟨g, 0, none⟩) ∧ True := by
      rcases hO with h0 | ⟨b, us, T', e1, e2, e3, e4, e5, e6⟩
      · exact ⟨none, .inl h0, (fun g hg => by cases hg), trivial⟩
      · rw [x3] at e2
        cases e2
        exact ⟨some b, .inr ⟨b, us, e1, rfl, e5, e6⟩, (fun g hg => by cases hg; exact ⟨e3, e4, e1⟩), trivial⟩
    obtain ⟨g, cap', w', hr, hG⟩ := append_run_str hT w ty ht hd hus he hz hs1 a es.length cap olds o1 (o4.imp id fun ⟨b, off, q1, q2⟩ => ⟨b, off, q1, fun j u hj => (q2 j u hj).1⟩) ha c1 c2 own hown z (by rw [← hflen]; omega) (by rw [← hflen]; unfold maxLen; exact hmax) (by rw [← hflen]; exact hby)
    rw [← hflen, ← hnews] at hG
    rw [← hflen] at hr
    have hG2 : Grown w w' e te.size (es.length + fs.length) (olds ++ news) g cap' T.blk := { hG with which := hG.which.imp id fun h0 => (hT1 g h0).1 }
    have hcl : (olds ++ news).length = (es.length + fs.length) * te.size := by rw [List.length_append, o1, n1, Nat.add_mul]
    have hne : T.blk = some g → own = some g := fun h0 => by
      rcases hG.which with h1 | h1
      · have := (hI.tok tk T g x3 (.inl h0)).1; omega
      · exact h1
    obtain ⟨s1, s2⟩ := grow_stp hI x3 hG2 x0 hlen.symm (by omega) (fun h0 => (hT1 g (hne h0)).2.1) hcl (fun h0 j u hj hu => by
      have h1 := (hT1 g (hne h0)).2.2
      rw [List.getElem?_append_left (by rw [o1]; exact hj)] at hu
      rcases o4 with o4 | ⟨b, off, q1, q2⟩
      · rw [o4] at hj; simp at hj
      · rw [q1] at h1
        cases h1
        have := (q2 j u hu).1
        rw [Nat.zero_add] at this; exact this)
    obtain ⟨cur, r1, r2, r3⟩ := hG.row
    have hes : (es ++ fs).length = es.length + fs.length := List.length_append
    have hv : VRel (G.grow tk g (es.length + fs.length) te.size).com w' (.sl false (es ++ fs)) (.slice (some ⟨g, 0, none⟩) (es ++ fs).length cap') := by
      refine row_rel2 g cur e (0, 0) r1 (es ++ fs) te.size cap' (fun o ho => .inr ⟨rfl, by rw [hes] at ho; exact ho⟩) false (by rw [hes]; exact hG.fits) hG.max (fun h0 => by cases h0) (fun x hx => by
        rcases List.mem_append.1 hx with h0 | h0
        · exact x2 x h0
        · exact hfs x h0) (fun i k x c hx hc => ?_)
      have hcur : ∀ j u, (olds ++ news)[j]? = some u → cur[j]? = some u := fun j u hj => by
        rw [← r3, List.getElem?_take] at hj
        split at hj
        · simpa using hj
        · cases hj
      by_cases hi : i < es.length
      · rw [List.getElem?_append_left hi] at hx
        obtain ⟨u, hu, hvu⟩ := o2 i k x c hx hc
        refine ⟨u, hcur _ u ?_, o3 u (List.mem_of_getElem? hu), hvu.mono s1.ext.size s1.ext.com⟩
        rw [List.getElem?_append_left (List.getElem?_eq_some_iff.1 hu).1]; exact hu
      · rw [List.getElem?_append_right (by omega)] at hx
        obtain ⟨u, hu, hvu⟩ := n2 (i - es.length) k x c hx hc
        refine ⟨u, hcur _ u ?_, n3 u (List.mem_of_getElem? hu), hvu.mono s1.ext.size s1.ext.com⟩
        have e1 : i * te.size + k = olds.length + ((i - es.length) * te.size + k) := by
          rw [o1, ← Nat.add_assoc, ← Nat.add_mul]; congr 2; omega
        rw [e1, List.getElem?_append_right (by omega), Nat.add_sub_cancel_left]; exact hu
    have hset : (G.grow tk g (es.length + fs.length) te.size).tok[tk]? = some ⟨es.length + fs.length, some g, (es.length + fs.length) * te.size, none⟩ := List.getElem?_set_self (List.getElem?_eq_some_iff.1 x3).1
    refine ⟨_, w', _, _, _, hr, s1, s2, ?_, h⟩
    rw [hes] at hv
    refine .own tk em te.size (es ++ fs) _ _ hv (fun x hx => ?_) hset rfl (by rw [hes]; exact Nat.le_refl _) (fun _ => ?_)
    · rcases List.mem_append.1 hx with h0 | h0
      · exact x2 x h0
      · exact hfs x h0
    · rw [hes]
      exact ⟨_, cap', rfl, .inr (.inl ⟨g, cur, _, rfl, hset, rfl, rfl, by rw [hem]; exact r1, r2⟩)⟩
theorem app_own_str (hT : TblOk P tb) {G : Gh} {w : World} {s : S} (hI : Inv G s w) {K : D → S → Prop} {t t' e : Nat} (ty : TypeId) {ti te : TI} (ht : tb.lookup t = some ti) (hd : ti.d = .slice e) (hus : P.underlying t' = some .string) (hs1 : te.size = 1) (he : tb.lookup e = some te) (hz : te.zero.cells.size = te.size) (hz0 : 0 < te.size)
    {tk : Nat} {es fs : List (List V)} {u : Value} {z : ByteArray} (hfz : fs = (bytesOf z).map byteV) {em : Nat} (hem : rowTy em = e) (hx : DRel G w (.own tk em te.size es) u) (hl : s.live[tk]? = some es.length)
    (hby : (es.length + fs.length) * te.bytes ≤ 140737488355328) (hmax : es.length + fs.length ≤ 9223372036854775807) (h : K (.own tk em te.size (es ++ fs)) { s with live := s.live.set tk (es.length + fs.length) }) :
    Out P G w ((Builtin.append_ #[t, t'] ty #[u, .string z]).run P w) K := by
  have hflen : fs.length = z.size := by rw [hfz, List.length_map]; rfl
  have hfs : ∀ x ∈ fs, x.length = te.size := fun x hx => by
    rw [hfz] at hx
    obtain ⟨c, -, rfl⟩ := List.mem_map.1 hx
    rw [hs1]; rfl
  cases hx with
  | own _ _ _ _ u T x1 x2 x3 x0 x4 x5 =>
    have hlen : es.length = T.len := by
      have : (G.tok.map (·.len))[tk]? = some T.len := by rw [List.getElem?_map, x3]; rfl
      rw [hI.live, hl] at this
      exact Option.some.inj this
    obtain ⟨a, cap, rfl, hO⟩ := x5 hlen
    obtain ⟨a2, cap2, e2, c1, -⟩ := x1.isSlice
    cases e2
    exact app_own_str_core hT hI ty ht hd hus hs1 he hz hz0 hfz x1 x2 x3 x0 hlen hem (hO.elim (fun h0 => .inl (by omega)) fun h => h.elim (fun ⟨b, us, T', h1, h2, h3, h4, h5, h6⟩ => .inr ⟨b, us, T', h1, h2, h3, h4, by rw [hem] at h5; exact h5, h6⟩) fun h => .inl h.2) (fun _ => .own tk em te.size es _ T x1 x2 x3 x0 x4 x5) hl hby hmax h
def aAppS (tb : Tbl) (t t' : Nat) (x y : D) (s : S) (K : D → S → Prop) : Prop :=
  match tb.lookup t, tb.lookup t', y with
  | some ti, some tu, .p (.v (.string z)) => match ti.d, tu.d with
    | .slice e, .string => match tb.lookup e with
      | some te => if te.zero.cells.size = te.size ∧ te.size = 1 ∧ e < 1000000 then
        match x with
        | .own tk e' sz es => if (e' = e ∨ e' = e + 1000000) ∧ sz = te.size then s.live[tk]? = some es.length ∧ ((es.length + (bytesOf z).length) * te.bytes ≤ 140737488355328 ∧ es.length + (bytesOf z).length ≤ 9223372036854775807) ∧
            K (.own tk e' te.size (es ++ (bytesOf z).map byteV)) { s with live := s.live.set tk (es ++ (bytesOf z).map byteV).length } else False
        | .p (.sl true es) => (es.length = 0 ∨ 0 < (bytesOf z).length) ∧ (∀ x ∈ es, x.length = te.size) ∧ ((es.length + (bytesOf z).length) * te.bytes ≤ 140737488355328 ∧ es.length + (bytesOf z).length ≤ 9223372036854775807) ∧
            K (.own s.live.length e te.size (es ++ (bytesOf z).map byteV)) { s with live := s.live ++ [(es ++ (bytesOf z).map byteV).length] }
        | _ => False
        else False
      | none => False
    | _, _ => False
  | _, _, _ => False
theorem aAppS_sound (hT : TblOk P tb) {G : Gh} {w : World} {s : S} (hI : Inv G s w) {K : D → S → Prop} {t t' : Nat} (ty : TypeId) {x y : D} {u v : Value} (hx : DRel G w x u) (hy : DRel G w y v) (h : aAppS tb t t' x y s K) :
    Out P G w ((Builtin.append_ #[t, t'] ty #[u, v]).run P w) K := by
  unfold aAppS at h
  split at h
  · rename_i ti tu z ht htu
    have hv : v = .string z := by cases hy with | p _ _ h => cases h; rfl
    subst hv
    have hb : ((bytesOf z).map byteV).length = (bytesOf z).length := List.length_map _
    split at h
    · rename_i e hd hdu
      have hus := hT.und htu
      rw [hdu] at hus
      split at h
      · rename_i te he
        split at h
        · rename_i hz
          split at h
          · rename_i tk e' sz es
            split at h
            · rename_i he'
              obtain ⟨hem, rfl⟩ := he'
              have hem : rowTy e' = e := hem.elim (fun h => by subst h; exact rowTy_lt hz.2.2) fun h => by subst h; exact rowTy_add e
              obtain ⟨h1, ⟨h3, h4⟩, h5⟩ := h
              rw [List.length_append] at h5
              exact app_own_str hT hI ty ht hd hus hz.2.1 he hz.1 (by omega) rfl hem hx h1 (by rw [hb]; exact h3) (by rw [hb]; exact h4) h5
            · exact h.elim
          · rename_i es
            obtain ⟨h6, h1, ⟨h3, h4⟩, h5⟩ := h
            rw [List.length_append] at h5
            cases hx with
            | p _ u hx =>
              obtain ⟨a, cap, rfl, c1, c2, c3, c4⟩ := hx.isSlice
              obtain ⟨s1, s2⟩ := addTok_stp hI es.length
              have hx' : VRel G.com w (.sl false es) (.slice a es.length cap) := by
                cases hx with
                | sl _ _ _ _ size b off us g1 g2 g3 g4 g5 g6 g7 g8 => exact .sl false es a cap size b off us g1 g2 (fun h => by cases h) g4 g5 g6 g7 (fun h => by cases h)
              have hlive : G.tok.length = s.live.length := by rw [← hI.live]; simp
              have htok : (G.tok ++ [(⟨es.length, none, 0, none⟩ : Tok)])[s.live.length]? = some ⟨es.length, none, 0, none⟩ := by rw [← hlive]; exact List.getElem?_concat_length
              have hd' : es.length = 0 → DRel { G with tok := G.tok ++ [⟨es.length, none, 0, none⟩] } w (.own s.live.length e te.size es) (.slice a es.length cap) := fun h0 =>
                .own _ _ _ _ _ ⟨es.length, none, 0, none⟩ hx' h1 htok rfl (Nat.le_refl _) (fun _ => ⟨a, cap, rfl, .inl ⟨by rw [c3 rfl]; exact h0, c4 rfl⟩⟩)
              obtain ⟨r, w', G', d, s', r1, r2, r3, r4, r5⟩ := app_own_str_core (K := K) (T := ⟨es.length, none, 0, none⟩) hT s2 ty ht hd hus hz.2.1 he hz.1 (by omega) rfl hx' h1 htok rfl rfl (rowTy_lt hz.2.2) (.inl (c3 rfl)) (fun h0 => hd' (h6.elim id fun h7 => by rw [hb] at h0; omega)) List.getElem?_concat_length (by rw [hb]; exact h3) (by rw [hb]; exact h4) (by
                have e1 : (s.live ++ [es.length]).set s.live.length (es.length + ((bytesOf z).map byteV).length) = s.live ++ [es.length + ((bytesOf z).map byteV).length] := by simp
                simpa only [e1] using h5)
              exact ⟨r, w', G', d, s', r1, s1.trans r2, r3, r4, r5⟩
          · exact h.elim
        · exact h.elim
      · exact h.elim
    · exact h.elim
  · exact h.elim
/-! ### make -/
def aMakeSlice (tb : Tbl) (t : Nat) (l c : D) (s : S) (K : D → S → Prop) : Prop :=
  match tb.lookup t, l, c with
  | some ti, .p (.v (.int _ n)), .p (.v (.int _ m)) => match ti.d with
    | .slice e => match tb.lookup e with
      | some te => match absV te.zero with
        | some x => match (dcells (.p x)).bind unps with
          | some zs => (zs.length = te.size ∧ 0 < te.size) ∧ (0 ≤ n ∧ m = n ∧ n * te.bytes ≤ 140737488355328 ∧ n ≤ 9223372036854775807) ∧ K (.p (.sl true (List.replicate n.toNat zs))) s
          | none => False
        | none => False
      | none => False
    | _ => False
  | _, _, _ => False
theorem aMakeSlice_sound (hT : TblOk P tb) {G : Gh} {w : World} {s : S} (hI : Inv G s w) {K : D → S → Prop} {t : Nat} {l c : D} {u v : Value} (hl : DRel G w l u) (hc : DRel G w c v) (h : aMakeSlice tb t l c s K) :
    Out P G w ((Instr.makeSlice t u v).run P w) K := by
  unfold aMakeSlice at h
  split at h
  · rename_i ti k n k' m ht
    have e1 : u = .int k n := by cases hl with | p _ _ h => cases h; rfl
    have e2 : v = .int k' m := by cases hc with | p _ _ h => cases h; rfl
    subst e1; subst e2
    split at h
    · rename_i e hd
      split at h
      · rename_i te he
        split at h
        · rename_i x hx
          split at h
          · rename_i zs hzs
            obtain ⟨⟨z1, z2⟩, ⟨h1, h2, h3, h4⟩, hK⟩ := h
            subst h2
            obtain ⟨z, hz, hzu⟩ := Option.bind_eq_some_iff.1 hzs
            have hu := hT.und ht
            rw [hd] at hu
            obtain ⟨_, i, i1, i2, i3, i4, _⟩ := hT e te he
            have hzr : CellsRel G w z te.zero.cells := dcells_rel (.p x _ (absV_rel hx)) hz
            obtain ⟨q1, q2⟩ := unps_rel (G := G) (w := w) z zs hzu
            have hzsz : te.zero.cells.size = te.size := by rw [hzr.1, ← q1]; exact z1
            obtain ⟨N, rfl⟩ : ∃ N : Nat, m = (N : Int) := ⟨m.toNat, by omega⟩
            have hr := run_make (P := P) w t e i te.zero hu i1 i4 k k' (N : Int) (N : Int) h1 (Int.le_refl _) (by rw [i3, Int.mul_comm]; omega) h4
            rw [Int.toNat_natCast, i2] at hr
            obtain ⟨s1, s2⟩ := newRow_stp hI (madeCells te.zero.cells (N * te.size)) e
            have hrow : VRel (G.with w.heap.size).com (w.alloc (.cells (madeCells te.zero.cells (N * te.size)) e)) (.sl true (List.replicate N zs)) (.slice (some ⟨w.heap.size, 0, none⟩) (List.replicate N zs).length N) := by
              refine row_rel2 w.heap.size (madeCells te.zero.cells (N * te.size)) e (0, 0) (World.alloc_heap_new w _) (List.replicate N zs) te.size N (fun o _ => .inr rfl) true (by simp) (by unfold maxLen; omega) (fun _ => by simp) (fun y hy => by rw [(List.mem_replicate.1 hy).2]; exact z1) (fun a b y c hy hc => ?_)
              have hy2 : y = zs := (List.mem_replicate.1 (List.mem_of_getElem? hy)).2
              subst hy2
              have ha : a < N := by have := (List.getElem?_eq_some_iff.1 hy).1; simpa using this
              have hb : b < te.size := by rw [← z1]; exact (List.getElem?_eq_some_iff.1 hc).1
              have hlt : a * te.size + b < N * te.size := by
                have : (a + 1) * te.size ≤ N * te.size := Nat.mul_le_mul_right _ ha
                rw [Nat.add_mul] at this; omega
              have hmod : (a * te.size + b) % te.size = b := by rw [Nat.mul_comm, Nat.mul_add_mod]; exact Nat.mod_eq_of_lt hb
              have hbs : b < te.zero.cells.size := by omega
              obtain ⟨d, d1, d2⟩ := q2 b c hc
              have hcell := hzr.2 b d te.zero.cells[b] d1 (Array.getElem?_eq_getElem hbs)
              refine ⟨te.zero.cells[b], ?_, hcell.1, (unp_rel hcell.2 d2).mono s1.ext.size s1.ext.com⟩
              unfold madeCells
              rw [Array.getElem?_map, Array.getElem?_range, if_pos hlt]
              simp only [Option.map_some, hzsz, hmod, Option.some.injEq]
              simp [hbs]
            rw [List.length_replicate] at hrow
            rw [Int.toNat_natCast] at hK
            exact ⟨_, _, _, _, s, hr, s1, s2, .p _ _ hrow, hK⟩
          · exact h.elim
        · exact h.elim
      · exact h.elim
    · exact h.elim
  · exact h.elim
end
end Go.Proofs.Ytlhjieapkcnghaa
