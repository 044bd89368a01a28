/- The abstract layer, part 6: cuts, structs and rows that are built, appends. -/
import Derived.Test.YtlhjieapkcnghaaAbQ
namespace Go.Proofs.Ytlhjieapkcnghaa
open Go.RowKit

section
variable {P : Program} {tb : Tbl}
/-! ### cuts -/
def bnd : Option D → Option (Option Int)
  | none => some none
  | some (.p (.v (.int _ n))) => some (some n)
  | _ => none
def evo (ev : Operand → Option D) : Option Operand → Option (Option D)
  | none => some none
  | some x => match ev x with
    | some d => some (some d)
    | none => none
/-- From l to h of n: what the cut asks. -/
def cutOk (l h : Option Int) (n : Nat) : Prop := 0 ≤ l.getD 0 ∧ l.getD 0 ≤ h.getD n ∧ h.getD n ≤ n
def aSlice (tb : Tbl) (t : Nat) (x : D) (lo hi : Option D) (s : S) (K : D → S → Prop) : Prop :=
  match tb.lookup t, bnd lo, bnd hi with
  | some ti, some l, some h => match ti.d, x with
    | .string, .p (.v (.string z)) => cutOk l h (bytesOf z).length ∧ K (.p (.v (strOf (((bytesOf z).take (h.getD (bytesOf z).length).toNat).drop (l.getD 0).toNat)))) s
    | .slice e, .p (.sl full es) => match tb.lookup e with
      | some te => cutOk l h es.length ∧ (l = none ∨ ∀ x ∈ es, x.length = te.size) ∧ K (.p (.sl (full && h.isNone) ((es.take (h.getD es.length).toNat).drop (l.getD 0).toNat))) s
      | none => False
    | .slice e, .own _ _ _ es => match tb.lookup e with
      | some te => cutOk l h es.length ∧ (l = none ∨ ∀ x ∈ es, x.length = te.size) ∧ K (.p (.sl false ((es.take (h.getD es.length).toNat).drop (l.getD 0).toNat))) s
      | none => False
    | _, _ => False
  | _, _, _ => False
def OptRel (G : Gh) (w : World) (x : Option D) (v : Option Value) : Prop :=
  match x, v with
  | some d, some u => DRel G w d u
  | none, none => True
  | _, _ => False
theorem bnd_rel {G : Gh} {w : World} {x : Option D} {v : Option Value} (h : OptRel G w x v) {l : Option Int} (hb : bnd x = some l) :
    (l = none ∧ v = none) ∨ ∃ k n, l = some n ∧ v = some (.int k n) := by
  unfold bnd at hb
  split at hb
  · cases hb
    cases v with
    | none => exact .inl ⟨rfl, rfl⟩
    | some u => exact h.elim
  · rename_i k n
    cases hb
    cases v with
    | none => exact h.elim
    | some u =>
      have h : DRel G w (.p (.v (.int k n))) u := h
      cases h with
      | p x u h => cases h; exact .inr ⟨k, n, rfl, rfl⟩
  · cases hb
theorem run_bounds {isSlice : Bool} {len cap : Nat} {l h : Option Int} {lo hi : Option Value} (hl : (l = none ∧ lo = none) ∨ ∃ k n, l = some n ∧ lo = some (.int k n)) (hh : (h = none ∧ hi = none) ∨ ∃ k n, h = some n ∧ hi = some (.int k n))
    (hc : cutOk l h len) (hcap : len ≤ cap) (w : World) : (Instr.sliceBounds isSlice len cap lo hi none).run P w = .ok ((l.getD 0).toNat, (h.getD len).toNat, cap) w := by
  obtain ⟨c1, c2, c3⟩ := hc
  rcases hl with ⟨rfl, rfl⟩ | ⟨k, n, rfl, rfl⟩ <;> rcases hh with ⟨rfl, rfl⟩ | ⟨k', m, rfl, rfl⟩
  · simp [Instr.sliceBounds]
  · simp only [Option.getD_some, Option.getD_none] at c1 c2 c3
    simp [Instr.sliceBounds, run_sliceBound w k' m cap _ c2 (by omega)]
  · simp only [Option.getD_some, Option.getD_none] at c1 c2 c3
    simp [Instr.sliceBounds, run_sliceBound w k n len _ c1 (by omega)]
  · simp only [Option.getD_some] at c1 c2 c3
    simp [Instr.sliceBounds, run_sliceBound w k' m cap _ (by omega) (by omega), run_sliceBound w k n m.toNat _ c1 (by omega)]
theorem addBlock (a : Addr) (n : Nat) : (a.add n).block = a.block := by unfold Addr.add; split <;> rfl
theorem VRel.cut {C : Nat → Nat → Prop} {w : World} {full : Bool} {es : List (List V)} {a : Option Addr} {n cap : Nat} (h : VRel C w (.sl full es) (.slice a n cap)) (l m sz : Nat) (h1 : l ≤ m) (h2 : m ≤ n) (full' : Bool) (hf : full' = true → full = true ∧ m = n)
    (hs : l = 0 ∨ ∀ x ∈ es, x.length = sz) : VRel C w (.sl full' ((es.take m).drop l)) (.slice (if cap = l then a else a.map (·.add (l * sz))) (m - l) (cap - l)) := by
  generalize hn : Value.slice a n cap = u at h
  cases h with
  | sl full es a' cap' size b off us g1 g2 g3 g4 g5 g6 g7 g8 =>
    cases hn
    have hlen : ((es.take m).drop l).length = m - l := by simp; omega
    rw [← hlen]
    have key : ∀ (i k : Nat) e c, ((es.take m).drop l)[i]? = some e → e[k]? = some c → es[l + i]? = some e ∧ (l = 0 ∨ size = sz) := fun i k e c he hc => by
      rw [List.getElem?_drop, List.getElem?_take] at he
      split at he
      · refine ⟨he, hs.imp id fun hs => ?_⟩
        have hm := List.mem_of_getElem? he
        rw [← g4 e hm, hs e hm]
      · cases he
    refine .sl full' _ _ (cap - l) size b (off + l * size) (fun j => us (l * size + j)) (by rw [hlen]; omega) (by omega) (fun hf' => ?_) (fun e he => g4 e (List.mem_of_mem_take (List.mem_of_mem_drop he))) (fun ha => ?_) (fun i k e c he hc => ?_) (fun i k e c he hc => ?_) (fun hf' ad had => ?_)
    · obtain ⟨f1, f2⟩ := hf hf'
      rw [hlen, g3 f1]; omega
    · split at ha
      · omega
      · cases a with
        | none => have := g5 rfl; omega
        | some a => simp at ha
    · obtain ⟨he2, hz⟩ := key i k e c he hc
      obtain ⟨p1, p2, p3, p4⟩ := g6 (l + i) k e c he2 hc
      have e1 : (l + i) * size = l * size + i * size := Nat.add_mul _ _ _
      rw [e1] at p2 p3 p4
      have e2 : off + l * size + i * size + k = off + (l * size + i * size) + k := by omega
      have e3 : l * size + (i * size + k) = l * size + i * size + k := by omega
      refine ⟨?_, by rw [e2]; exact p2, by rw [e2, e3]; exact p3, by rw [e3]; exact p4⟩
      have hlt := (List.getElem?_eq_some_iff.1 he2).1
      rw [if_neg (by omega), p1]
      simp only [Option.map_some, addAt]
      rcases hz with hz | hz
      · subst hz; simp
      · subst hz; rfl
    · obtain ⟨he2, hz⟩ := key i k e c he hc
      have := g7 (l + i) k e c he2 hc
      have e1 : (l + i) * size = l * size + i * size := Nat.add_mul _ _ _
      rw [e1] at this
      have e3 : l * size + (i * size + k) = l * size + i * size + k := by omega
      show VRel C w c (us (l * size + (i * size + k)))
      rw [e3]; exact this
    · split at had
      · exact g8 (hf hf').1 ad had
      · cases a with
        | none => simp at had
        | some a => simp only [Option.map_some, Option.some.injEq] at had; subst had; rw [addBlock]; exact g8 (hf hf').1 a rfl
theorem extract_bytes (z : ByteArray) (a b : Nat) : Value.string (z.extract a b) = strOf (((bytesOf z).take b).drop a) := by
  unfold strOf bytesOf
  congr 1
  apply ByteArray.ext
  apply Array.ext'
  simp [ByteArray.data_extract, Array.toList_extract, List.drop_take]
theorem aSlice_sl (hT : TblOk P tb) {G : Gh} {w : World} {s : S} (hI : Inv G s w) {K : D → S → Prop} {t e : Nat} {ti te : TI} (ht : tb.lookup t = some ti) (hd : ti.d = .slice e) (he : tb.lookup e = some te) {full full' : Bool} {es : List (List V)} {u : Value} (hx : VRel G.com w (.sl full es) u)
    {l h : Option Int} {lv hv : Option Value} (hl : (l = none ∧ lv = none) ∨ ∃ k n, l = some n ∧ lv = some (.int k n)) (hh : (h = none ∧ hv = none) ∨ ∃ k n, h = some n ∧ hv = some (.int k n))
    (h1 : cutOk l h es.length) (h2 : l = none ∨ ∀ x ∈ es, x.length = te.size) (hf : full' = true → full = true ∧ h = none)
    (hK : K (.p (.sl full' ((es.take (h.getD es.length).toNat).drop (l.getD 0).toNat))) s) : Out P G w ((Instr.sliceAt t u lv hv none).run P w) K := by
  have hu := hT.und ht
  rw [hd] at hu
  obtain ⟨a, cap, rfl, c1, c2, c3, c4⟩ := hx.isSlice
  have hb := run_bounds (P := P) (isSlice := true) hl hh h1 c1 w
  refine .pure hI _ ?_ (.p _ _ (hx.cut (l.getD 0).toNat (h.getD es.length).toNat te.size ?_ ?_ full' ?_ ?_)) hK
  · simp [Instr.sliceAt, Instr.slice, run_underlying hu, hb, hT.sz he]
  · have := h1.2.1; omega
  · have := h1.2.2; omega
  · intro hf'
    obtain ⟨f1, f2⟩ := hf hf'
    exact ⟨f1, by rw [f2]; simp⟩
  · exact h2.imp (fun e => by rw [e]; rfl) id
theorem aSlice_sound (hT : TblOk P tb) {G : Gh} {w : World} {s : S} (hI : Inv G s w) {K : D → S → Prop} {t : Nat} {x : D} {lo hi : Option D} {u : Value} {lv hv : Option Value} (hx : DRel G w x u)
    (hl : OptRel G w lo lv) (hh : OptRel G w hi hv) (h : aSlice tb t x lo hi s K) :
    Out P G w ((Instr.sliceAt t u lv hv none).run P w) K := by
  unfold aSlice at h
  split at h
  · rename_i ti l m ht hbl hbh
    have hl := bnd_rel hl hbl
    have hh := bnd_rel hh hbh
    split at h
    · rename_i z hd
      obtain ⟨h1, hK⟩ := h
      have hu := hT.und ht
      rw [hd] at hu
      have e : u = .string z := by cases hx with | p x u hx => cases hx; rfl
      subst e
      have hb := run_bounds (P := P) (isSlice := false) hl hh h1 (Nat.le_refl _) w
      refine .pure hI _ ?_ (.p _ _ (.v _ rfl)) hK
      have hz : z.size = (bytesOf z).length := by simp [bytesOf]
      rw [← extract_bytes z]
      rw [← hz] at hb ⊢
      simp [Instr.sliceAt, Instr.slice, run_underlying hu, hb]
    · rename_i e full es hd
      split at h
      · rename_i te he
        cases hx with
        | p x u hx => exact aSlice_sl hT hI ht hd he hx hl hh h.1 h.2.1 (fun hf => by simpa using hf) h.2.2
      · exact h.elim
    · rename_i e t' e' sz es hd
      split at h
      · rename_i te he
        cases hx with
        | own _ _ _ _ u T hx => exact aSlice_sl hT hI ht hd he hx hl hh h.1 h.2.1 (fun hf => by cases hf) h.2.2
      · exact h.elim
    · exact h.elim
  · exact h.elim

/-! ### several values, functions, pointers that are there -/
def aExtract (x : D) (i : Nat) (s : S) (K : D → S → Prop) : Prop :=
  match x with
  | .tup cs => match cs[i]? with
    | some c => K c s
    | none => False
  | _ => False
theorem aExtract_sound {G : Gh} {w : World} {s : S} (hI : Inv G s w) {K : D → S → Prop} {x : D} {i : Nat} {u : Value} (hx : DRel G w x u) (h : aExtract x i s K) : Out P G w ((Instr.extract u i).run P w) K := by
  unfold aExtract at h
  split at h
  · rename_i cs
    split at h
    · rename_i c hc
      cases hx with
      | tup cs us h1 h2 =>
        have hlt : i < us.size := by rw [← h1]; exact (List.getElem?_eq_some_iff.1 hc).1
        refine .pure hI c ?_ (h2 i c us[i] hc (Array.getElem?_eq_getElem hlt)) h
        simp [Instr.extract, hlt]
    · exact h.elim
  · exact h.elim
def aMakeFunc (f : Fn) (first cap : Option (List D)) (s : S) (K : D → S → Prop) : Prop :=
  match first, cap with
  | some a, some b => K (.fn f a b) s
  | _, _ => False
theorem aMakeFunc_sound {G : Gh} {w : World} {s : S} (hI : Inv G s w) {K : D → S → Prop} {ev : Operand → Option D} {a : Act} (hev : ∀ x d, ev x = some d → DRel G w d (a.eval x)) (f : Fn) (xs ys : Array Operand)
    (h : aMakeFunc f (evs ev xs.toList) (evs ev ys.toList) s K) : Out P G w ((Instr.makeFunc f (xs.map a.eval) (ys.map a.eval)).run P w) K := by
  unfold aMakeFunc at h
  split at h
  · rename_i l m hl hm
    obtain ⟨a1, a2⟩ := evs_rel hev _ _ hl
    obtain ⟨b1, b2⟩ := evs_rel hev _ _ hm
    refine .pure hI _ rfl (.fn f l m _ _ (by simpa using a1) (by simpa using b1) (fun j c u hc hu => a2 j c u hc (by simpa using hu)) (fun j c u hc hu => b2 j c u hc (by simpa using hu))) h
  · exact h.elim
def aNilCheck (x : D) (s : S) (K : D → S → Prop) : Prop :=
  match x with
  | .p (.ep cs) => K (.p (.ep cs)) s
  | .p (.opt b cs) => b = true ∧ K (.p (.ep cs)) s
  | .ptr nm off => K (.ptr nm off) s
  | .fn (.func f) a b => K (.fn (.func f) a b) s
  | _ => False

/-! ### what is built -/
/-- A list, its spine reckoned out. -/
def forceL {β : Type} : List D → (List D → Option β) → Option β
  | [], k => k []
  | c :: r, k => forceL r fun r' => k (c :: r')
theorem forceL_eq {β : Type} : ∀ (l : List D) (k : List D → Option β), forceL l k = k l
  | [], _ => rfl
  | _ :: r, _ => forceL_eq r _
def fillD (places : Nat → Option (Nat × Nat)) (cells : List D) : List (Nat × D) → Option (List D)
  | [] => some cells
  | (i, d) :: r => match places i, dcells d with
    | some (off, size), some cs => if cs.length = size ∧ off + cs.length ≤ cells.length then forceL (cells.take off ++ cs ++ cells.drop (off + cs.length)) fun cells' => fillD places cells' r else none
    | _, _ => none
theorem foldSet (off : Nat) : ∀ (vs : List Value) (k : Nat) (cells : Array Value), off + k + vs.length ≤ cells.size →
    ((vs.zipIdx k).foldl (fun cs (x : Value × Nat) => cs.setIfInBounds (off + x.2) x.1) cells).toList = cells.toList.take (off + k) ++ vs ++ cells.toList.drop (off + k + vs.length)
  | [], k, cells, _ => by simp
  | v :: r, k, cells, h => by
    simp only [List.length_cons] at h
    rw [List.zipIdx_cons, List.foldl_cons, foldSet off r (k + 1) _ (by simp; omega)]
    simp only [Array.toList_setIfInBounds, List.length_cons]
    have hk : off + k < cells.toList.length := by simp; omega
    apply List.ext_getElem?
    intro j
    have e1 : (List.take (off + (k + 1)) (cells.toList.set (off + k) v)).length = off + k + 1 := by simp; omega
    have e2 : (List.take (off + k) cells.toList).length = off + k := by simp; omega
    by_cases h1 : j < off + k
    · rw [List.append_assoc, List.append_assoc, List.getElem?_append_left (by omega), List.getElem?_append_left (by omega), List.getElem?_take, List.getElem?_take, if_pos (by omega), if_pos h1, List.getElem?_set_ne (by omega)]
    · by_cases h2 : j = off + k
      · subst h2
        rw [List.append_assoc, List.append_assoc, List.getElem?_append_left (by omega), List.getElem?_append_right (by omega), e2, Nat.sub_self, List.getElem?_take, if_pos (by omega), List.getElem?_set_self hk]
        rfl
      · have e3 : j - (off + k) = j - (off + k + 1) + 1 := by omega
        have eL : (List.take (off + (k + 1)) (cells.toList.set (off + k) v) ++ (r ++ List.drop (off + (k + 1) + r.length) (cells.toList.set (off + k) v)))[j]? = (r ++ List.drop (off + (k + 1) + r.length) (cells.toList.set (off + k) v))[j - (off + k + 1)]? := by
          rw [List.getElem?_append_right (by omega), e1]
        have eR : (List.take (off + k) cells.toList ++ (v :: r ++ List.drop (off + k + (r.length + 1)) cells.toList))[j]? = (r ++ List.drop (off + k + (r.length + 1)) cells.toList)[j - (off + k + 1)]? := by
          rw [List.getElem?_append_right (by omega), e2, e3, List.cons_append, List.getElem?_cons_succ]
        rw [List.append_assoc, List.append_assoc, eL, eR]
        by_cases h3 : j - (off + k + 1) < r.length
        · rw [List.getElem?_append_left h3, List.getElem?_append_left h3]
        · rw [List.getElem?_append_right (by omega), List.getElem?_append_right (by omega), List.getElem?_drop, List.getElem?_drop, List.getElem?_set_ne (by omega)]
          congr 1; omega
theorem CellsRel.splice {G : Gh} {w : World} {ds cs : List D} {us vs : Array Value} (h : CellsRel G w ds us) (k : CellsRel G w cs vs) (off : Nat) (hl : off + cs.length ≤ ds.length) (zs : Array Value)
    (hz : zs.toList = us.toList.take off ++ vs.toList ++ us.toList.drop (off + vs.size)) : CellsRel G w (ds.take off ++ cs ++ ds.drop (off + cs.length)) zs := by
  have hu := h.1
  have hv := k.1
  rw [hv] at hz
  have hvl : vs.toList.length = cs.length := by simpa using hv
  have t1 : (us.toList.take off).length = off := by simp; omega
  have t2 : (ds.take off).length = off := by simp; omega
  refine ⟨?_, fun j c u hc hu' => ?_⟩
  · have : zs.toList.length = _ := congrArg List.length hz
    simp only [List.length_append, List.length_drop, t1, hvl, Array.length_toList] at this
    simp only [List.length_append, List.length_drop, t2, this, hu]
  · have hu2 : zs.toList[j]? = some u := by simpa using hu'
    rw [hz, List.append_assoc] at hu2
    rw [List.append_assoc] at hc
    by_cases h1 : j < off
    · rw [List.getElem?_append_left (by omega), List.getElem?_take, if_pos h1] at hu2 hc
      exact h.2 j c u hc (by simpa using hu2)
    · rw [List.getElem?_append_right (by omega), t1] at hu2
      rw [List.getElem?_append_right (by omega), t2] at hc
      by_cases h2 : j - off < cs.length
      · rw [List.getElem?_append_left (by omega)] at hu2 hc
        exact k.2 _ c u hc (by simpa using hu2)
      · rw [List.getElem?_append_right (by omega), hvl, List.getElem?_drop] at hu2
        rw [List.getElem?_append_right (by omega), List.getElem?_drop] at hc
        exact h.2 _ c u hc (by simpa using hu2)
theorem fillD_rel {G : Gh} {w : World} {ev : Operand → Option D} {a : Act} (hev : ∀ x d, ev x = some d → DRel G w d (a.eval x)) (places : Nat → Option (Nat × Nat)) : ∀ (l : List (Nat × Operand)) (ps : List (Nat × D)) (ds : List D) (us : Array Value) (cs : List D),
    evps ev l = some ps → CellsRel G w ds us → fillD places ds ps = some cs → ∃ zs, Instr.fill places us (l.map fun (i, x) => (i, a.eval x)) = some zs ∧ CellsRel G w cs zs
  | [], ps, ds, us, cs, h, hd, hf => by
    simp only [evps, Option.some.injEq] at h
    subst h
    simp only [fillD, Option.some.injEq] at hf
    subst hf
    exact ⟨us, rfl, hd⟩
  | (i, x) :: r, ps, ds, us, cs, h, hd, hf => by
    unfold evps at h
    split at h
    · rename_i d l hx hl
      cases h
      unfold fillD at hf
      simp only [forceL_eq] at hf
      split at hf
      · rename_i off size ks hp hk
        split at hf
        · rename_i hc
          have hr := dcells_rel (hev x d hx) hk
          have hsz : (a.eval x).cells.size = ks.length := hr.1
          have hus : us.size = ds.length := hd.1
          have hfo := foldSet off (a.eval x).cells.toList 0 us (by simp; omega)
          rw [Nat.add_zero] at hfo
          obtain ⟨zs, hz, hc2⟩ := fillD_rel hev places r l _ ((a.eval x).cells.zipIdx.foldl (fun cs (c, j) => cs.setIfInBounds (off + j) c) us) cs hl (hd.splice hr off hc.2 _ (by
            rw [← Array.foldl_toList, Array.toList_zipIdx]
            simpa using hfo)) hf
          refine ⟨zs, ?_, hc2⟩
          simp only [List.map_cons]
          unfold Instr.fill
          simp only [hp]
          rw [if_neg (by
            simp only [Bool.or_eq_true, decide_eq_true_eq, not_or, ne_eq, Decidable.not_not, Nat.not_lt, gt_iff_lt]
            omega)]
          exact hz
        · cases hf
      · cases hf
    · cases h
end
end Go.Proofs.Ytlhjieapkcnghaa
