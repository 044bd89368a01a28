/- The abstract layer, part 3: what each operation does to abstract values. -/
import Derived.Test.YtlhjieapkcnghaaAbS
namespace Go.Proofs.Ytlhjieapkcnghaa
open Go.RowKit

structure TI where
  d : TypeDesc
  size : Nat
  bytes : Nat
  zero : Value
  cmp : Bool
  bld : List (Program × Nat × Nat)
abbrev Tbl := List (Nat × TI)
/-- A struct whose fields may be compared one by one. -/
def cmpOk (P : Program) (t : Nat) : Bool := !P.stoodInHeld t && !P.eqGuardType P.depth t && (P.fieldsOf t).toList.all (fun f => f.name != "_")
def TblOk (P : Program) (tb : Tbl) : Prop := ∀ t ti, tb.lookup t = some ti → P.underlying t = some ti.d ∧ ∃ i, P.info? t = some i ∧ i.size = ti.size ∧ i.bytes = ti.bytes ∧ i.zero = some ti.zero ∧ (ti.cmp = true → cmpOk P t = true) ∧ ∀ q ∈ ti.bld, q.2.2 < ti.zero.cells.size ∧ liesAt q.1 q.1.depth t (ti.zero.cells.size / q.1.cellsOf t) q.2.2 q.2.1 1 = true
def isAggD : TypeDesc → Bool
  | .struct _ | .array _ _ => true
  | _ => false

def absC (u : Value) : Option V :=
  match u with
  | .slice none 0 0 => some (.sl true [])
  | u => if scal u then some (.v u) else none
def absL : List Value → Option (List V)
  | [] => some []
  | u :: r => match absC u, absL r with
    | some x, some y => some (x :: y)
    | _, _ => none
def absV (u : Value) : Option V :=
  match u with
  | .agg cs => (absL cs.toList).map .agg
  | u => absC u

def dcells : D → Option (List D)
  | .p (.agg cs) => some (cs.map .p)
  | .agg cs => some cs
  | .tup _ | .undef => none
  | d => some [d]
def unp : D → Option V
  | .p x => some x
  | .own _ _ _ es => some (.sl false es)
  | .sp _ _ _ _ _ | .agg _ | .ptr _ _ | .fn _ _ _ | .yld _ _ _ | .tup _ | .undef => none
def unps : List D → Option (List V)
  | [] => some []
  | d :: r => match unp d, unps r with
    | some x, some y => some (x :: y)
    | _, _ => none
def aggD (cs : List D) : D := match unps cs with | some vs => .p (.agg vs) | none => .agg cs
def evs (ev : Operand → Option D) : List Operand → Option (List D)
  | [] => some []
  | x :: r => match ev x, evs ev r with
    | some d, some l => some (d :: l)
    | _, _ => none
def evps (ev : Operand → Option D) : List (Nat × Operand) → Option (List (Nat × D))
  | [] => some []
  | (i, x) :: r => match ev x, evps ev r with
    | some d, some l => some ((i, d) :: l)
    | _, _ => none

/-! ### relations of parts -/
theorem DRel.vOne {G : Gh} {w : World} {d : D} {u : Value} (h : DRel G w d u) (h1 : ∀ cs, d ≠ .agg cs) (h2 : ∀ cs, d ≠ .tup cs) (h3 : d ≠ .undef) (h4 : ∀ cs, d ≠ .p (.agg cs)) : u.oneCell' = true := by
  cases h with
  | p x u h =>
    cases h with
    | v u h => exact scal_one h
    | agg cs us => exact absurd rfl (h4 cs)
    | sl => rfl
    | ep => rfl
    | opt b cs u h1 h2 =>
      cases b with
      | false => rw [h1 rfl]; rfl
      | true => have := h2 rfl; cases this; rfl
  | ptr => rfl
  | own _ _ _ _ _ _ h => cases h; rfl
  | fn => rfl
  | yld => rfl
  | sp P u b nm off k e n v _ _ _ _ h1 h2 =>
    cases b with
    | false => rw [h1 rfl]; rfl
    | true => rw [h2 rfl]; rfl
  | agg cs => exact absurd rfl (h1 cs)
  | tup cs => exact absurd rfl (h2 cs)
  | undef => exact absurd rfl h3
def CellsRel (G : Gh) (w : World) (ds : List D) (us : Array Value) : Prop := us.size = ds.length ∧ ∀ (j : Nat) c u, ds[j]? = some c → us[j]? = some u → u.oneCell' = true ∧ DRel G w c u
theorem cells_one (u : Value) (h : u.oneCell' = true) : u.cells = #[u] := by
  cases u <;> first | rfl | (simp [Value.oneCell'] at h)
theorem CellsRel.single {G : Gh} {w : World} {d : D} {u : Value} (h : DRel G w d u) (h1 : u.oneCell' = true) : CellsRel G w [d] u.cells := by
  rw [cells_one u h1]
  refine ⟨rfl, fun j c x hc hx => ?_⟩
  cases j with
  | zero => simp at hc hx; subst hc hx; exact ⟨h1, h⟩
  | succ j => simp at hc
theorem dcells_rel {G : Gh} {w : World} {d : D} {u : Value} {ds : List D} (h : DRel G w d u) (hd : dcells d = some ds) : CellsRel G w ds u.cells := by
  unfold dcells at hd
  split at hd
  · cases h with
    | p x u h =>
      cases h with
      | agg cs us h1 h2 h3 =>
        cases hd
        refine ⟨by simp [Value.cells, h1], fun j c u hc hu => ?_⟩
        rw [List.getElem?_map] at hc
        obtain ⟨x, hx, rfl⟩ := Option.map_eq_some_iff.1 hc
        exact ⟨h2 j x u hx hu, .p x u (h3 j x u hx hu)⟩
  · cases hd
    cases h with
    | agg cs us h1 h2 h3 => exact ⟨h1.symm, fun j c u hc hu => ⟨h2 j c u hc hu, h3 j c u hc hu⟩⟩
  · cases hd
  · cases hd
  · rename_i h1 h2 h3 h4
    cases hd
    exact .single h (h.vOne h2 h3 h4 h1)
theorem unp_rel {G : Gh} {w : World} {d : D} {u : Value} {x : V} (h : DRel G w d u) (hd : unp d = some x) : VRel G.com w x u := by
  cases h <;> simp [unp] at hd
  · subst hd; assumption
  · subst hd; assumption
theorem unps_rel {G : Gh} {w : World} : ∀ (ds : List D) (xs : List V), unps ds = some xs → xs.length = ds.length ∧ ∀ (j : Nat) x, xs[j]? = some x → ∃ d, ds[j]? = some d ∧ unp d = some x
  | [], xs, h => by simp [unps] at h; subst h; exact ⟨rfl, fun j x hx => by simp at hx⟩
  | d :: r, xs, h => by
    unfold unps at h
    split at h
    · rename_i x y hx hy
      cases h
      obtain ⟨h1, h2⟩ := unps_rel (G := G) (w := w) r y hy
      refine ⟨by simp [h1], fun j z hz => ?_⟩
      cases j with
      | zero => simp at hz; subst hz; exact ⟨d, rfl, hx⟩
      | succ j => exact h2 j z hz
    · cases h
theorem CellsRel.agg {G : Gh} {w : World} {ds : List D} {us : Array Value} (h : CellsRel G w ds us) : DRel G w (aggD ds) (.agg us) := by
  unfold aggD
  split
  · rename_i vs hv
    obtain ⟨h1, h2⟩ := unps_rel (G := G) (w := w) ds vs hv
    refine .p _ _ (.agg _ _ (by rw [h1, h.1]) (fun j c u hc hu => ?_) (fun j c u hc hu => ?_))
    · obtain ⟨d, hd, _⟩ := h2 j c hc; exact (h.2 j d u hd hu).1
    · obtain ⟨d, hd, hx⟩ := h2 j c hc; exact unp_rel (h.2 j d u hd hu).2 hx
  · exact .agg _ _ h.1.symm (fun j c u hc hu => (h.2 j c u hc hu).1) (fun j c u hc hu => (h.2 j c u hc hu).2)
theorem absC_rel {C : Nat → Nat → Prop} {w : World} {u : Value} {x : V} (h : absC u = some x) : VRel C w x u ∧ u.oneCell' = true := by
  unfold absC at h
  split at h
  · cases h
    exact ⟨.sl true [] none 0 0 0 0 (fun _ => undef) (Nat.le_refl _) (by unfold maxLen; omega) (fun _ => rfl) (fun e he => by simp at he) (fun _ => rfl) (fun i k e c he => by simp at he) (fun i k e c he => by simp at he) (fun _ _ h => by cases h), rfl⟩
  · split at h
    · cases h; rename_i h; exact ⟨.v _ h, scal_one h⟩
    · cases h
theorem absL_rel {C : Nat → Nat → Prop} {w : World} : ∀ (us : List Value) (xs : List V), absL us = some xs → xs.length = us.length ∧ ∀ (j : Nat) x u, xs[j]? = some x → us[j]? = some u → VRel C w x u ∧ u.oneCell' = true
  | [], xs, h => by simp [absL] at h; subst h; exact ⟨rfl, fun j x u hx => by simp at hx⟩
  | u :: r, xs, h => by
    unfold absL at h
    split at h
    · rename_i x y hx hy
      cases h
      obtain ⟨h1, h2⟩ := absL_rel (C := C) (w := w) r y hy
      refine ⟨by simp [h1], fun j z v hz hv => ?_⟩
      cases j with
      | zero => simp at hz hv; subst hz hv; exact absC_rel hx
      | succ j => exact h2 j z v hz hv
    · cases h
theorem absV_rel {C : Nat → Nat → Prop} {w : World} {u : Value} {x : V} (h : absV u = some x) : VRel C w x u := by
  unfold absV at h
  split at h
  · rename_i cs
    cases hl : absL cs.toList with
    | none => simp [hl] at h
    | some xs =>
      simp [hl] at h
      subst h
      obtain ⟨h1, h2⟩ := absL_rel (C := C) (w := w) cs.toList xs hl
      exact .agg xs cs (by simpa using h1) (fun j c u hc hu => (h2 j c u hc (by simpa using hu)).2) (fun j c u hc hu => (h2 j c u hc (by simpa using hu)).1)
  · exact (absC_rel h).1
theorem evs_rel {ev : Operand → Option D} {G : Gh} {w : World} {a : Act} (hev : ∀ x d, ev x = some d → DRel G w d (a.eval x)) : ∀ (l : List Operand) (ds : List D), evs ev l = some ds → ds.length = l.length ∧
    ∀ (j : Nat) d u, ds[j]? = some d → (l.map a.eval)[j]? = some u → DRel G w d u
  | [], ds, h => by simp [evs] at h; subst h; exact ⟨rfl, fun j d u hd => by simp at hd⟩
  | x :: r, ds, h => by
    unfold evs at h
    split at h
    · rename_i d l hd hl
      cases h
      obtain ⟨h1, h2⟩ := evs_rel hev r l hl
      refine ⟨by simp [h1], fun j z u hz hu => ?_⟩
      cases j with
      | zero => simp at hz hu; subst hz hu; exact hev x d hd
      | succ j => exact h2 j z u hz (by simpa using hu)
    · cases h

/-! ### outcomes -/
/-- The operation's run comes to a value (or to nothing) that d stands for, in a state that K allows. -/
def Out (_P : Program) (G : Gh) (w : World) (r : Result Value) (K : D → S → Prop) : Prop :=
  ∃ u w' G' d s', r = .ok u w' ∧ Stp G w G' w' ∧ Inv G' s' w' ∧ DRel G' w' d u ∧ K d s'
theorem Out.pure {P : Program} {G : Gh} {w : World} {s : S} (hI : Inv G s w) {r : Result Value} {u : Value} {K : D → S → Prop} (d : D) (hr : r = .ok u w) (hd : DRel G w d u) (hK : K d s) : Out P G w r K :=
  ⟨u, w, G, d, s, hr, .refl G w, hI, hd, hK⟩

section
variable {P : Program} {tb : Tbl}
theorem TblOk.und (hT : TblOk P tb) {t : Nat} {ti : TI} (h : tb.lookup t = some ti) : P.underlying t = some ti.d := (hT t ti h).1
theorem TblOk.sz (hT : TblOk P tb) {t : Nat} {ti : TI} (h : tb.lookup t = some ti) (w : World) : (sizeOf t).run P w = .ok ti.size w := by
  obtain ⟨_, i, h1, h2, _⟩ := hT t ti h
  simp [sizeOf, typeInfo, h1, h2]
theorem TblOk.zr (hT : TblOk P tb) {t : Nat} {ti : TI} (h : tb.lookup t = some ti) (w : World) : (zeroValue t).run P w = .ok ti.zero w := by
  obtain ⟨_, i, h1, _, _, h2, -⟩ := hT t ti h
  simp [zeroValue, typeInfo, h1, h2]
theorem TblOk.agg (hT : TblOk P tb) {t : Nat} {ti : TI} (h : tb.lookup t = some ti) (w : World) : (isAgg t).run P w = .ok (isAggD ti.d) w := by
  have := run_underlying (hT.und h) w
  unfold isAgg
  simp only [Sem.run_bind, this, Result.andThen_ok]
  cases ti.d <;> rfl

theorem run_newVar (w : World) (t : TypeId) (v : Value) : (newVar t v).run P w = .ok ⟨w.heap.size, 0, none⟩ (w.alloc (.cells v.cells t)) := rfl

/-! ### variables -/
/-- Cells that point at their own variable, or nowhere: a strings.Builder's first. -/
def spAt (nm : Nat) : List (Program × Nat × Nat) → List D → List D
  | [], ds => ds
  | (Q, u, o) :: r, ds => spAt nm r (match ds[o]? with | some (.p (.v (.pointer none))) => ds.set o (.sp Q u false nm o) | _ => ds)
theorem spAt_inv {G : Gh} {w : World} {live : List Nat} {hp : List (List D)} {k e n : Nat} (hk : G.name[hp.length]? = some k) (hs : w.shape? k = some (e, n)) : ∀ (l : List (Program × Nat × Nat)) (ds : List D), (∀ q ∈ l, q.2.2 < n ∧ liesAt q.1 q.1.depth e (n / q.1.cellsOf e) q.2.2 q.2.1 1 = true) →
    Inv G ⟨hp ++ [ds], live⟩ w → Inv G ⟨hp ++ [spAt hp.length l ds], live⟩ w
  | [], ds, _, h => h
  | (Q, u, o) :: r, ds, hq, h => by
    unfold spAt
    refine spAt_inv hk hs r _ (fun q hm => hq q (List.mem_cons_of_mem _ hm)) ?_
    split
    · rename_i ho
      obtain ⟨q1, q2⟩ := hq (Q, u, o) (by simp)
      have := h.setCell (nm := hp.length) (off := o) (cs := ds) (d' := .sp Q u false hp.length o) (by simp) (fun v ⟨c, hc, hr⟩ => by
        rw [ho] at hc
        cases hc
        refine .sp Q u false _ o k e n v hk hs q1 q2 (fun _ => ?_) (fun h => by cases h)
        cases hr with | p _ _ hr => cases hr; rfl)
      simpa using this
    · exact h
def bldOf (tb : Tbl) (e n : Nat) : List (Program × Nat × Nat) :=
  match tb.lookup e with
  | some ti => match ti.bld with
    | [] => []
    | q :: r => if n = ti.zero.cells.size then q :: r else []
  | none => []
def aBox (tb : Tbl) (e : Nat) (d : D) (s : S) (K : D → S → Prop) : Prop :=
  match dcells d with
  | some ds => K (.ptr s.heap.length 0) { s with heap := s.heap ++ [spAt s.heap.length (bldOf tb e ds.length) ds] }
  | none => False
theorem aBox_sound (hT : TblOk P tb) {G : Gh} {w : World} {s : S} (hI : Inv G s w) {K : D → S → Prop} (e : TypeId) {d : D} {u : Value} (hd : DRel G w d u) (h : aBox tb e d s K) :
    Out P G w ((Instr.box e u).run P w) K := by
  unfold aBox at h
  split at h
  · rename_i ds hds
    have hc := dcells_rel hd hds
    obtain ⟨h1, h2⟩ := newVar_stp hI ds u.cells e hc.1 hc.2
    have hnm : (G.name ++ [w.heap.size])[s.heap.length]? = some w.heap.size := by rw [← hI.names, List.getElem?_concat_length]
    have hsh : (w.alloc (.cells u.cells e)).shape? w.heap.size = some (e, u.cells.size) := shape_of (World.alloc_heap_new w _)
    have h3 := spAt_inv (G := { G with name := G.name ++ [w.heap.size] }) (hp := s.heap) (live := s.live) hnm hsh (bldOf tb e ds.length) ds (fun q hq => by
      unfold bldOf at hq
      split at hq
      · rename_i ti hti
        split at hq
        · cases hq
        · rename_i q0 r hb0
          split at hq
          · rename_i hn
            obtain ⟨-, i, -, -, -, -, -, hb⟩ := hT e ti hti
            rw [hc.1, hn]
            exact hb q (by rw [hb0]; exact hq)
          · cases hq
      · cases hq) h2
    exact ⟨_, _, _, _, _, rfl, h1, h3, .ptr _ _ _ hnm, h⟩
  · exact h.elim
def aAlloc (tb : Tbl) (e : TypeId) (s : S) (K : D → S → Prop) : Prop :=
  match tb.lookup e with
  | some ti => match absV ti.zero with
    | some x => match dcells (.p x) with
      | some ds => K (.ptr s.heap.length 0) { s with heap := s.heap ++ [spAt s.heap.length ti.bld ds] }
      | none => False
    | none => False
  | none => False
theorem aAlloc_sound (hT : TblOk P tb) {G : Gh} {w : World} {s : S} (hI : Inv G s w) {K : D → S → Prop} (e : TypeId) (h : aAlloc tb e s K) :
    Out P G w ((Instr.alloc e true (.tuple #[])).run P w) K := by
  unfold aAlloc at h
  split at h
  · rename_i ti hti
    split at h
    · rename_i x hx
      split at h
      · rename_i ds hds
        have hc := dcells_rel (.p x _ (absV_rel (C := G.com) (w := w) hx)) hds
        obtain ⟨h1, h2⟩ := newVar_stp hI ds ti.zero.cells e hc.1 hc.2
        have hnm : (G.name ++ [w.heap.size])[s.heap.length]? = some w.heap.size := by rw [← hI.names, List.getElem?_concat_length]
        have hsh : (w.alloc (.cells ti.zero.cells e)).shape? w.heap.size = some (e, ti.zero.cells.size) := shape_of (World.alloc_heap_new w _)
        obtain ⟨-, i, -, -, -, -, -, hb⟩ := hT e ti hti
        have h3 := spAt_inv (G := { G with name := G.name ++ [w.heap.size] }) (hp := s.heap) (live := s.live) hnm hsh ti.bld ds hb h2
        refine ⟨_, _, _, _, _, ?_, h1, h3, .ptr _ _ _ hnm, h⟩
        simp [Instr.alloc, hT.zr hti, Instr.box, run_newVar]
      · exact h.elim
    · exact h.elim
  · exact h.elim

/-! ### loads -/
def aLoadV (ti : TI) (cs : List V) (K : V → Prop) : Prop :=
  match isAggD ti.d with
  | true => if ti.size ≤ cs.length then K (.agg (cs.take ti.size)) else False
  | false => match cs with
    | c :: _ => K c
    | [] => False
def aLoadD (ti : TI) (cs : List D) (K : D → Prop) : Prop :=
  match isAggD ti.d with
  | true => if ti.size ≤ cs.length then K (aggD (cs.take ti.size)) else False
  | false => match cs with
    | c :: _ => K c
    | [] => False
theorem addAt (b o j : Nat) : (⟨b, o, none⟩ : Addr).add j = ⟨b, o + j, none⟩ := by
  unfold Addr.add; split
  · subst_vars; rfl
  · rfl
theorem run_loadAt (hT : TblOk P tb) {t : Nat} {ti : TI} (h : tb.lookup t = some ti) (w : World) (b off : Nat) (us : List Value) (hc : ∀ (j : Nat) u, us[j]? = some u → w.cell? ⟨b, off + j, none⟩ = some u) :
    (isAggD ti.d = true → ti.size ≤ us.length → (Instr.loadAt t (.pointer (some ⟨b, off, none⟩))).run P w = .ok (.agg (us.take ti.size).toArray) w) ∧
    (isAggD ti.d = false → ∀ u, us[0]? = some u → (Instr.loadAt t (.pointer (some ⟨b, off, none⟩))).run P w = .ok u w) := by
  constructor
  · intro ha hl
    have := run_loadCells_list (P := P) w ⟨b, off, none⟩ (us.take ti.size) (fun j v hv => by
      rw [addAt]
      rw [List.getElem?_take] at hv
      split at hv
      · exact hc j v hv
      · cases hv)
    rw [List.length_take, Nat.min_eq_left hl] at this
    simp [Instr.loadAt, Instr.sureAddr, loadVar, hT.agg h, ha, hT.sz h, this]
  · intro ha u hu
    have := hc 0 u hu
    rw [Nat.add_zero] at this
    simp [Instr.loadAt, Instr.sureAddr, loadVar, hT.agg h, ha, this]
theorem aLoadV_sound (hT : TblOk P tb) {G : Gh} {w : World} {s : S} (hI : Inv G s w) {K : D → S → Prop} {t : Nat} {ti : TI} (ht : tb.lookup t = some ti) {cs : List V} {u : Value} (hd : VRel G.com w (.ep cs) u)
    (h : aLoadV ti cs fun v => K (.p v) s) : Out P G w ((Instr.loadAt t u).run P w) K := by
  cases hd with
  | ep cs b off us h1 h2 =>
    have hc : ∀ (j : Nat) u, ((List.range cs.length).map us)[j]? = some u → w.cell? ⟨b, off + j, none⟩ = some u := fun j u hu => by
      rw [List.getElem?_map] at hu
      cases hr : (List.range cs.length)[j]? with
      | none => simp [hr] at hu
      | some i =>
        simp [hr] at hu
        obtain ⟨hj, rfl⟩ := List.getElem?_eq_some_iff.1 hr
        simp at hu hj
        subst hu
        exact (h1 j cs[j] (List.getElem?_eq_getElem hj)).2.1
    obtain ⟨r1, r2⟩ := run_loadAt hT ht w b off _ hc
    unfold aLoadV at h
    split at h
    · rename_i ha
      split at h
      · rename_i hl
        refine .pure hI _ (r1 ha (by simpa using hl)) ?_ h
        refine .p _ _ (.agg _ _ (by simp) (fun j c u hc' hu => ?_) (fun j c u hc' hu => ?_))
        all_goals
          rw [List.getElem?_take] at hc'
          split at hc'
          · have e : u = us j := by
              have hj := (List.getElem?_eq_some_iff.1 hc').1
              simp [*] at hu
              exact hu.symm
            subst e
            first
              | exact (h1 j c hc').2.2
              | exact h2 j c hc'
          · cases hc'
      · exact h.elim
    · rename_i ha
      split at h
      · rename_i c r
        refine .pure hI _ (r2 ha (us 0) ?_) (.p _ _ (h2 0 c rfl)) h
        rw [List.getElem?_map, List.getElem?_range (by simp)]; rfl
      · exact h.elim
theorem aLoadD_val (hT : TblOk P tb) {G : Gh} {w : World} {s : S} (hI : Inv G s w) {K : D → Prop} {t : Nat} {ti : TI} (ht : tb.lookup t = some ti) {nm off : Nat} {u : Value} (hd : DRel G w (.ptr nm off) u)
    {ds : List D} (hs : s.heap[nm]? = some ds) (h : aLoadD ti (ds.drop off) K) : ∃ v d, (Instr.loadAt t u).run P w = .ok v w ∧ DRel G w d v ∧ K d := by
  cases hd with
  | ptr nm off b hb =>
    obtain ⟨us, ty, h1, h2, h3⟩ := hI.var nm b ds hb hs
    have hc : ∀ (j : Nat) u, (us.toList.drop off)[j]? = some u → w.cell? ⟨b, off + j, none⟩ = some u := fun j u hu => by
      rw [cell_of_row w b _ us ty (0, 0) h1]
      rw [List.getElem?_drop] at hu
      simpa using hu
    obtain ⟨r1, r2⟩ := run_loadAt hT ht w b off _ hc
    unfold aLoadD at h
    split at h
    · rename_i ha
      split at h
      · rename_i hl
        refine ⟨_, _, r1 ha (by simp at hl ⊢; omega), ?_, h⟩
        refine CellsRel.agg ⟨by simp [h2], fun j c u hc' hu => ?_⟩
        simp only [List.getElem?_take, List.getElem?_drop, List.getElem?_toArray] at hc' hu
        split at hc'
        · rename_i hj
          rw [if_pos hj] at hu
          exact h3 _ c u hc' (by simpa using hu)
        · cases hc'
      · exact h.elim
    · rename_i ha
      split at h
      · rename_i c r hr
        have hc0 : ds[off]? = some c := by
          have : (ds.drop off)[0]? = some c := by rw [hr]; rfl
          rw [List.getElem?_drop] at this; simpa using this
        have hlt : off < us.size := by rw [h2]; exact (List.getElem?_eq_some_iff.1 hc0).1
        refine ⟨_, _, r2 ha us[off] ?_, (h3 off c _ hc0 (Array.getElem?_eq_getElem hlt)).2, h⟩
        rw [List.getElem?_drop]; simp [hlt]
      · exact h.elim
theorem aLoadD_sound (hT : TblOk P tb) {G : Gh} {w : World} {s : S} (hI : Inv G s w) {K : D → S → Prop} {t : Nat} {ti : TI} (ht : tb.lookup t = some ti) {nm off : Nat} {u : Value} (hd : DRel G w (.ptr nm off) u)
    {ds : List D} (hs : s.heap[nm]? = some ds) (h : aLoadD ti (ds.drop off) fun v => K v s) : Out P G w ((Instr.loadAt t u).run P w) K := by
  obtain ⟨v, d, h1, h2, h3⟩ := aLoadD_val hT hI ht hd hs h
  exact .pure hI d h1 h2 h3
end
end Go.Proofs.Ytlhjieapkcnghaa
