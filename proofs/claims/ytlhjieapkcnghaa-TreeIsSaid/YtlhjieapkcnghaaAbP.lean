/- The abstract layer, part 4: stores, places, cuts, numbers and strings. -/
import Derived.Test.YtlhjieapkcnghaaAbO
import Derived.Lib.Strings
import Derived.Laws.IdiomStrings
namespace Go.Proofs.Ytlhjieapkcnghaa
open Go.RowKit

section
variable {P : Program} {tb : Tbl}

/-! ### stores -/
def aStore (tb : Tbl) (t : Nat) (x y : D) (s : S) (K : D → S → Prop) : Prop :=
  match tb.lookup t, x, dcells y with
  | some ti, .ptr nm off, some cs => match s.heap[nm]? with
    | some ds => if cs.length = ti.size ∧ off + cs.length ≤ ds.length then K .undef { s with heap := s.heap.set nm (ds.take off ++ cs ++ ds.drop (off + cs.length)) } else False
    | none => False
  | _, _, _ => False
theorem aStore_sound (hT : TblOk P tb) {G : Gh} {w : World} {s : S} (hI : Inv G s w) {K : D → S → Prop} {t : Nat} {x y : D} {u v : Value} (hx : DRel G w x u) (hy : DRel G w y v) (h : aStore tb t x y s K) :
    ∃ w' G' s', (Instr.storeAt t u v).run P w = .ok () w' ∧ Stp G w G' w' ∧ Inv G' s' w' ∧ K .undef s' := by
  unfold aStore at h
  split at h
  · rename_i ti nm off cs ht hc
    split at h
    · rename_i ds hs
      split at h
      · rename_i hl
        cases hx with
        | ptr nm off b hb =>
          obtain ⟨us, ty, h1, h2, h3⟩ := hI.var nm b ds hb hs
          have hr := dcells_rel hy hc
          have hlen : v.cells.toList.length = cs.length := by simpa using hr.1
          have hst := run_storeCells_at P b off ty v.cells.toList 0 us w h1 (by rw [hlen, h2]; omega) (fun x hx => by
            obtain ⟨j, hj⟩ := List.getElem?_of_mem hx
            have hj2 : j < cs.length := by rw [← hlen]; exact (List.getElem?_eq_some_iff.1 hj).1
            exact (hr.2 j cs[j] x (List.getElem?_eq_getElem hj2) (by simpa using hj)).1)
          simp only [Nat.add_zero] at hst
          have hrun : (Instr.storeAt t (.pointer (some ⟨b, off, none⟩)) v).run P w = .ok () (w.setRow b (us.toList.take off ++ v.cells.toList ++ us.toList.drop (off + v.cells.toList.length)).toArray) := by
            have e : v.cells.size = ti.size := by rw [hr.1]; exact hl.1
            simp only [Instr.storeAt, Instr.sureAddr, storeVar, Sem.run_bind, Sem.run_pure, Result.andThen_ok, hT.sz ht, e]
            simpa using hst
          obtain ⟨k1, k2⟩ := store_stp hI nm b hb us ty h1 (ds.take off ++ cs ++ ds.drop (off + cs.length)) (us.toList.take off ++ v.cells.toList ++ us.toList.drop (off + v.cells.toList.length)).toArray
            (by simp only [List.size_toArray, List.length_append, List.length_take, List.length_drop, hlen, Array.length_toList]; rw [h2])
            (by simp only [List.size_toArray, List.length_append, List.length_take, List.length_drop, hlen, Array.length_toList]; omega)
            (fun j c u hc hu => by
              have hu' : (us.toList.take off ++ v.cells.toList ++ us.toList.drop (off + v.cells.toList.length))[j]? = some u := by simpa using hu
              rw [hlen] at hu'
              have ht1 : (us.toList.take off).length = off := by simp; omega
              have ht2 : (ds.take off).length = off := by simp; omega
              rw [List.append_assoc] at hu' hc
              by_cases hj : j < off
              · rw [List.getElem?_append_left (by omega), List.getElem?_take, if_pos hj] at hu' hc
                exact h3 j c u hc (by simpa using hu')
              · rw [List.getElem?_append_right (by omega), ht1] at hu'
                rw [List.getElem?_append_right (by omega), ht2] at hc
                by_cases hj2 : j - off < cs.length
                · rw [List.getElem?_append_left (by omega)] at hu' hc
                  exact hr.2 _ c u hc (by simpa using hu')
                · rw [List.getElem?_append_right (by omega), hlen, List.getElem?_drop] at hu'
                  rw [List.getElem?_append_right (by omega), List.getElem?_drop] at hc
                  exact h3 _ c u hc (by simpa using hu'))
            (w.setRow b (us.toList.take off ++ v.cells.toList ++ us.toList.drop (off + v.cells.toList.length)).toArray) rfl rfl rfl (by simp [World.setRow]) (setRow_heap w b us _ ty _ h1) (fun k hk => setRow_other w b k _ hk)
          exact ⟨_, G, _, hrun, k1, k2, h⟩
      · exact h.elim
    · exact h.elim
  · exact h.elim

/-! ### places -/
theorem VRel.epDrop {C : Nat → Nat → Prop} {w : World} {cs : List V} {b off : Nat} (h : VRel C w (.ep cs) (.pointer (some ⟨b, off, none⟩))) (n : Nat) : VRel C w (.ep (cs.drop n)) (.pointer (some ⟨b, off + n, none⟩)) := by
  cases h with
  | ep cs b off us h1 h2 =>
    refine .ep _ b (off + n) (fun k => us (n + k)) (fun k c hc => ?_) (fun k c hc => ?_)
    · rw [List.getElem?_drop] at hc
      have := h1 _ c hc
      rw [← Nat.add_assoc] at this
      exact this
    · rw [List.getElem?_drop] at hc
      exact h2 _ c hc
theorem VRel.ep_ptr {C : Nat → Nat → Prop} {w : World} {cs : List V} {u : Value} (h : VRel C w (.ep cs) u) : ∃ b off, u = .pointer (some ⟨b, off, none⟩) := by
  cases h; exact ⟨_, _, rfl⟩
/-- A place n cells on. -/
def aPlace (x : D) (n : Nat) (s : S) (K : D → S → Prop) : Prop :=
  match x with
  | .p (.ep cs) => K (.p (.ep (cs.drop n))) s
  | .ptr nm off => K (.ptr nm (off + n)) s
  | _ => False
theorem aPlace_sound {G : Gh} {w : World} {s : S} {K : D → S → Prop} {x : D} {n : Nat} {u : Value} (hx : DRel G w x u) (h : aPlace x n s K) : ∃ a d, u = .pointer (some a) ∧ DRel G w d (.pointer (some (a.add n))) ∧ K d s := by
  unfold aPlace at h
  split at h
  · cases hx with
    | p x u hx =>
      obtain ⟨b, off, rfl⟩ := hx.ep_ptr
      refine ⟨_, _, rfl, .p _ _ ?_, h⟩
      rw [addAt]; exact hx.epDrop n
  · cases hx with
    | ptr nm off b hb => exact ⟨_, _, rfl, by rw [addAt]; exact .ptr _ _ b hb, h⟩
  · exact h.elim
def aFieldAddr (tb : Tbl) (t : Nat) (x : D) (f : Nat) (s : S) (K : D → S → Prop) : Prop :=
  match tb.lookup t with
  | some ti => match ti.d with
    | .struct fields => match fields[f]? with
      | some fd => match tb.lookup fd.type with
        | some tf => if tf.size = 0 then False else aPlace x fd.offset s K
        | none => False
      | none => False
    | _ => False
  | none => False
theorem aFieldAddr_sound (hT : TblOk P tb) {G : Gh} {w : World} {s : S} (hI : Inv G s w) {K : D → S → Prop} {t f : Nat} {x : D} {u : Value} (hx : DRel G w x u) (h : aFieldAddr tb t x f s K) :
    Out P G w ((Instr.fieldAt t u f).run P w) K := by
  unfold aFieldAddr at h
  split at h
  · rename_i ti ht
    split at h
    · rename_i fields hd
      split at h
      · rename_i fd hf
        split at h
        · rename_i tf htf
          split at h
          · exact h.elim
          · rename_i hz
            obtain ⟨a, d, rfl, hd2, hK⟩ := aPlace_sound hx h
            refine .pure hI d ?_ hd2 hK
            have hu := hT.und ht
            rw [hd] at hu
            simp [Instr.fieldAt, run_underlying hu, hf, Instr.sureAddr, fieldPlace, hT.sz htf, hz]
        · exact h.elim
      · exact h.elim
    · exact h.elim
  · exact h.elim
/-- A part of a struct or array that is a value. -/
def aPart (ti : TI) (x : D) (off : Nat) (s : S) (K : D → S → Prop) : Prop :=
  match dcells x with
  | some cs => match isAggD ti.d with
    | true => if off + ti.size ≤ cs.length then K (aggD ((cs.drop off).take ti.size)) s else False
    | false => match cs[off]? with
      | some c => K c s
      | none => False
  | none => False
theorem aPart_sound (hT : TblOk P tb) {G : Gh} {w : World} {s : S} (hI : Inv G s w) {K : D → S → Prop} {t off : Nat} {ti : TI} (ht : tb.lookup t = some ti) {x : D} {us : Array Value} (hx : DRel G w x (.agg us)) (h : aPart ti x off s K) :
    Out P G w ((part t us off).run P w) K := by
  unfold aPart at h
  split at h
  · rename_i cs hcs
    have hc := dcells_rel hx hcs
    split at h
    · rename_i ha
      split at h
      · rename_i hl
        refine .pure hI _ ?_ ?_ h (u := .agg (us.extract off (off + ti.size)))
        · simp [part, hT.agg ht, ha, hT.sz ht]
        · have h1 : us.size = cs.length := hc.1
          refine CellsRel.agg ⟨by simp [h1]; omega, fun j c u hc' hu => ?_⟩
          simp only [List.getElem?_take, List.getElem?_drop] at hc'
          rw [Array.getElem?_extract] at hu
          split at hc'
          · split at hu
            · exact hc.2 _ c u hc' hu
            · cases hu
          · cases hc'
      · exact h.elim
    · rename_i ha
      split at h
      · rename_i c hcc
        have hlt : off < us.size := by
          have h1 : us.size = cs.length := hc.1
          rw [h1]; exact (List.getElem?_eq_some_iff.1 hcc).1
        refine .pure hI c ?_ (hc.2 off c us[off] hcc (Array.getElem?_eq_getElem hlt)).2 h
        simp [part, hT.agg ht, ha, hlt]
      · exact h.elim
  · exact h.elim
def isAggV : D → Bool
  | .agg _ | .p (.agg _) => true
  | _ => false
theorem isAggV_agg {G : Gh} {w : World} {x : D} {u : Value} (hx : DRel G w x u) (h : isAggV x = true) : ∃ us, u = .agg us := by
  unfold isAggV at h
  split at h
  · cases hx; exact ⟨_, rfl⟩
  · cases hx with
    | p x u hx => cases hx; exact ⟨_, rfl⟩
  · cases h
def aField (tb : Tbl) (t : Nat) (x : D) (f : Nat) (s : S) (K : D → S → Prop) : Prop :=
  match tb.lookup t, isAggV x with
  | some ti, true => match ti.d with
    | .struct fields => match fields[f]? with
      | some fd => match tb.lookup fd.type with
        | some tf => aPart tf x fd.offset s K
        | none => False
      | none => False
    | _ => False
  | _, _ => False
theorem aField_sound (hT : TblOk P tb) {G : Gh} {w : World} {s : S} (hI : Inv G s w) {K : D → S → Prop} {t f : Nat} {x : D} {u : Value} (hx : DRel G w x u) (h : aField tb t x f s K) :
    Out P G w ((Instr.field t u f).run P w) K := by
  unfold aField at h
  split at h
  · rename_i ti ht ha
    obtain ⟨us, rfl⟩ := isAggV_agg hx ha
    split at h
    · rename_i fields hd
      split at h
      · rename_i fd hf
        split at h
        · rename_i tf htf
          obtain ⟨u, w', r⟩ := aPart_sound hT hI htf hx h
          refine ⟨u, w', ?_⟩
          have hu := hT.und ht
          rw [hd] at hu
          simpa [Instr.field, run_underlying hu, hf, asAgg] using r
        · exact h.elim
      · exact h.elim
    · exact h.elim
  · exact h.elim

/-! ### elements -/
def aIndexAddr (tb : Tbl) (t : Nat) (x i : D) (s : S) (K : D → S → Prop) : Prop :=
  match tb.lookup t, i with
  | some ti, .p (.v (.int _ n)) => match ti.d with
    | .slice e => match tb.lookup e, x with
      | some te, .p (.sl _ es) => ∃ c, 0 ≤ n ∧ es[n.toNat]? = some c ∧ c.length = te.size ∧ 0 < te.size ∧ K (.p (.ep c)) s
      | some te, .own _ _ _ es => ∃ c, 0 ≤ n ∧ es[n.toNat]? = some c ∧ c.length = te.size ∧ 0 < te.size ∧ K (.p (.ep c)) s
      | _, _ => False
    | .array len e => match tb.lookup e with
      | some te => 0 ≤ n ∧ n < len ∧ aPlace x (n.toNat * te.size) s K
      | none => False
    | _ => False
  | _, _ => False
theorem VRel.elem {C : Nat → Nat → Prop} {w : World} {full : Bool} {es : List (List V)} {u : Value} (h : VRel C w (.sl full es) u) {i : Nat} {c : List V} (hi : es[i]? = some c) (hc : 0 < c.length) :
    ∃ a cap, u = .slice (some a) es.length cap ∧ VRel C w (.ep c) (.pointer (some (a.add (i * c.length)))) := by
  cases h with
  | sl full es a cap size b off us h1 h2 h3 h4 h5 h6 h7 h8 =>
    have hsz : c.length = size := h4 c (List.mem_of_getElem? hi)
    obtain ⟨rfl, _⟩ := h6 i 0 c c[0] hi (List.getElem?_eq_getElem hc)
    refine ⟨_, cap, rfl, ?_⟩
    rw [addAt, hsz]
    refine .ep c b (off + i * size) (fun k => us (i * size + k)) (fun k x hk => ?_) (fun k x hk => h7 i k c x hi hk)
    exact (h6 i k c x hi hk).2
theorem VRel.isSlice {C : Nat → Nat → Prop} {w : World} {full : Bool} {es : List (List V)} {u : Value} (h : VRel C w (.sl full es) u) : ∃ a cap, u = .slice a es.length cap ∧ es.length ≤ cap ∧ cap ≤ maxLen ∧ (full = true → cap = es.length) ∧ (full = true → ∀ ad, a = some ad → ad.block < w.heap.size) := by
  cases h with
  | sl full es a cap size b off us h1 h2 h3 h4 h5 h6 h7 h8 => exact ⟨a, cap, rfl, h1, h2, h3, h8⟩
theorem aIndex_slice (hT : TblOk P tb) {G : Gh} {w : World} {s : S} (hI : Inv G s w) {K : D → S → Prop} {t e : Nat} {ti te : TI} (ht : tb.lookup t = some ti) (hd : ti.d = .slice e) (he : tb.lookup e = some te)
    {full : Bool} {es : List (List V)} {u : Value} (hx : VRel G.com w (.sl full es) u) {k : IntKind} {n : Int} (h : ∃ c, 0 ≤ n ∧ es[n.toNat]? = some c ∧ c.length = te.size ∧ 0 < te.size ∧ K (.p (.ep c)) s) :
    Out P G w ((Instr.indexAt t u (.int k n)).run P w) K := by
  obtain ⟨c, h0, hc, hl, hz, hK⟩ := h
  obtain ⟨a, cap, rfl, hr⟩ := hx.elem hc (by omega)
  have hu := hT.und ht
  rw [hd] at hu
  have hlt : n < es.length := by have := (List.getElem?_eq_some_iff.1 hc).1; omega
  refine .pure hI _ ?_ (.p _ _ hr) hK
  simp [Instr.indexAt, run_underlying hu, asIntOf, h0, hlt, hT.sz he, hl]
theorem aIndexAddr_sound (hT : TblOk P tb) {G : Gh} {w : World} {s : S} (hI : Inv G s w) {K : D → S → Prop} {t : Nat} {x i : D} {u v : Value} (hx : DRel G w x u) (hi : DRel G w i v) (h : aIndexAddr tb t x i s K) :
    Out P G w ((Instr.indexAt t u v).run P w) K := by
  unfold aIndexAddr at h
  split at h
  · rename_i ti k n ht
    have hv : v = .int k n := by
      cases hi with
      | p x u hi => cases hi; rfl
    subst hv
    split at h
    · rename_i e hd
      split at h
      · rename_i te full es he
        cases hx with
        | p x u hx => exact aIndex_slice hT hI ht hd he hx h
      · rename_i te t' e' sz es he
        cases hx with
        | own t e sz es u T hx => exact aIndex_slice hT hI ht hd he hx h
      · exact h.elim
    · rename_i len e hd
      split at h
      · rename_i te he
        obtain ⟨h0, h1, h⟩ := h
        obtain ⟨a, d, rfl, hd2, hK⟩ := aPlace_sound hx h
        have hu := hT.und ht
        rw [hd] at hu
        refine .pure hI d ?_ hd2 hK
        simp [Instr.indexAt, run_underlying hu, asIntOf, h0, h1, hT.sz he, Instr.sureAddr]
      · exact h.elim
    · exact h.elim
  · exact h.elim
/-- A byte of a string, an element of an array that is a value. -/
def aIndex (tb : Tbl) (t : Nat) (x i : D) (s : S) (K : D → S → Prop) : Prop :=
  match tb.lookup t, i with
  | some ti, .p (.v (.int _ n)) => match ti.d, x with
    | .string, .p (.v (.string z)) => ∃ c, 0 ≤ n ∧ z.data.toList[n.toNat]? = some c ∧ K (.p (.v (.int .u8 c.toNat))) s
    | .array len e, x => match tb.lookup e, isAggV x with
      | some te, true => 0 ≤ n ∧ n < len ∧ aPart te x (n.toNat * te.size) s K
      | _, _ => False
    | _, _ => False
  | _, _ => False
theorem aIndex_sound (hT : TblOk P tb) {G : Gh} {w : World} {s : S} (hI : Inv G s w) {K : D → S → Prop} {t : Nat} {x i : D} {u v : Value} (hx : DRel G w x u) (hi : DRel G w i v) (h : aIndex tb t x i s K) :
    Out P G w ((Instr.index t u v).run P w) K := by
  unfold aIndex at h
  split at h
  · rename_i ti k n ht
    have hv : v = .int k n := by
      cases hi with
      | p x u hi => cases hi; rfl
    subst hv
    split at h
    · rename_i z hd
      obtain ⟨c, h0, hc, hK⟩ := h
      have hu := hT.und ht
      rw [hd] at hu
      have hz : u = .string z := by
        cases hx with
        | p x u hx => cases hx; rfl
      subst hz
      refine .pure hI _ ?_ (.p _ _ (.v _ rfl)) hK
      have hlt : n.toNat < z.size := by have := (List.getElem?_eq_some_iff.1 hc).1; simpa using this
      have hg : z[n.toNat]? = some c := by
        rw [getElem?_pos z n.toNat hlt]
        have h2 := (List.getElem?_eq_some_iff.1 hc).2
        rw [← h2]; rfl
      simp [Instr.index, run_underlying hu, asIntOf, h0, hg]
    · rename_i len e x hd
      split at h
      · rename_i te he ha
        obtain ⟨us, rfl⟩ := isAggV_agg hx ha
        obtain ⟨h0, h1, h⟩ := h
        obtain ⟨u, w', r⟩ := aPart_sound hT hI he hx h
        refine ⟨u, w', ?_⟩
        have hu := hT.und ht
        rw [hd] at hu
        simpa [Instr.index, run_underlying hu, asIntOf, h0, h1, hT.sz he] using r
      · exact h.elim
    · exact h.elim
  · exact h.elim
end
end Go.Proofs.Ytlhjieapkcnghaa
