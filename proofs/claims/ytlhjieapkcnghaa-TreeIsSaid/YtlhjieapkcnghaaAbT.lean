/- The abstract layer, part 9: an operation, a region in the text's order. -/
import Derived.Test.YtlhjieapkcnghaaAbA
namespace Go.Proofs.Ytlhjieapkcnghaa
open Go.RowKit

abbrev Env := List (Nat × D)
structure St where
  env : Env
  s : S
def ev (env : Env) : Operand → Option D
  | .tmp t => env.lookup t
  | .const u => (absV u).map .p
  | .func f => some (.fn (.func f) [] [])
  | .global _ => none
structure Rel (N : Nat) (G : Gh) (σ : St) (a : Act) (w : World) : Prop where
  inv : Inv G σ.s w
  env : EnvRel G w σ.env a
  size : a.tmps.size = N
theorem ev_rel {G : Gh} {w : World} {env : Env} {a : Act} (h : EnvRel G w env a) (x : Operand) (d : D) (hx : ev env x = some d) : DRel G w d (a.eval x) := by
  cases x with
  | tmp t => exact (h t d hx).2
  | const u =>
    simp only [ev, Option.map_eq_some_iff] at hx
    obtain ⟨v, hv, rfl⟩ := hx
    exact .p v u (absV_rel hv)
  | func f =>
    simp only [ev, Option.some.injEq] at hx
    subst hx
    exact .fn _ _ _ #[] #[] rfl rfl (fun j c u h => by simp at h) (fun j c u h => by simp at h)
  | global g => simp [ev] at hx

/-! ### calls that only reckon with data -/
def isFn (P : Program) (f : FuncId) : Bool :=
  match P.funcs[f]? with
  | some fn => fn.name != "runtime.NumGoroutine" && fn.body.isSome
  | none => false
/-- The function, handed data, hands back r and leaves all that was as it was. -/
structure PCall (P : Program) (f : FuncId) (args : List V) (r : D) : Prop where
  fn : isFn P f = true
  out : ∀ (C : Nat → Nat → Prop) (w : World) (us : Array Value), GlobOk C w → us.size = args.length → (∀ (j : Nat) x u, args[j]? = some x → us[j]? = some u → VRel C w x u) →
    Calls P f us w fun e w' => ∃ u, e = .returned u ∧ DRel ⟨fun b o => C b o ∨ w.heap.size ≤ b, [], []⟩ w' r u ∧ Below w.heap.size w w'

def aOp (tb : Tbl) (o : Op) (e : Operand → Option D) (s : S) (K : D → S → Prop) : Prop :=
  match o with
  | .move x => match e x with | some d => K d s | none => False
  | .assign x => match e x with | some d => K d s | none => False
  | .pick c x y => match e c with
    | some (.p (.v (.bool true))) => match e x with | some d => K d s | none => False
    | some (.p (.v (.bool false))) => match e y with | some d => K d s | none => False
    | _ => False
  | .alloc t => aAlloc tb t s K
  | .box t x => match e x with | some d => aBox tb t d s K | none => False
  | .build t ps => aBuild tb t (evps e ps.toList) s K
  | .buildSlice t n ps => aBuildSlice tb t n (evps e ps.toList) s K
  | .makeSlice t x y => match e x, e y with | some a, some b => aMakeSlice tb t a b s K | _, _ => False
  | .load t x => match tb.lookup t, e x with
    | some ti, some (.p (.ep cs)) => aLoadV ti cs fun v => K (.p v) s
    | some ti, some (.ptr nm off) => match s.heap[nm]? with
      | some ds => aLoadD ti (ds.drop off) fun d => K d s
      | none => False
    | _, _ => False
  | .store t x y => match e x, e y with | some a, some b => aStore tb t a b s K | _, _ => False
  | .nilCheck x => match e x with | some d => aNilCheck d s K | none => False
  | .binOp op t x y _ => match e x, e y with | some a, some b => aBinOp tb op t a b s K | _, _ => False
  | .unOp op _ x => match e x with | some d => aUn op d s K | none => False
  | .convert src dst x => match e x with | some d => aConv tb src dst d s K | none => False
  | .makeFunc f xs ys => aMakeFunc f (evs e xs.toList) (evs e ys.toList) s K
  | .slice t x lo hi none => match e x, evo e lo, evo e hi with | some d, some l, some h => aSlice tb t d l h s K | _, _, _ => False
  | .fieldAddr t x f => match e x with | some d => aFieldAddr tb t d f s K | none => False
  | .field t x f => match e x with | some d => aField tb t d f s K | none => False
  | .indexAddr t x i => match e x, e i with | some a, some b => aIndexAddr tb t a b s K | _, _ => False
  | .index t x i => match e x, e i with | some a, some b => aIndex tb t a b s K | _, _ => False
  | .extract x i => match e x with | some d => aExtract d i s K | none => False
  | .call c => match c.callee, evs e c.args.toList, c.argTypes.toList with
    | .builtin .len, some [x], [t] => aLen tb t x s K
    | .builtin .append, some [x, y], [t, t'] => if t = t' then aApp tb t x y s K else aAppS tb t t' x y s K
    | .builtin .min, some [x, y], _ => aMinMax false x y s K
    | .builtin .max, some [x, y], _ => aMinMax true x y s K
    | .builtin .max, some [x, y, z], _ => aMinMax3 true x y z s K
    | _, _, _ => False
  | _ => False
/-- Ownership of a slice stays behind where it is handed on. -/
def dn : D → D
  | .own _ _ _ es => .p (.sl false es)
  | d => d
/-- The function, handed args where memory is s, hands back r and leaves memory as s'. -/
structure CallOK (P : Program) (f : FuncId) (args : List D) (s : S) (r : D) (s' : S) : Prop where
  fn : isFn P f = true
  out : ∀ (G : Gh) (w : World) (us : Array Value), Inv G s w → us.size = args.length → (∀ (j : Nat) d u, args[j]? = some d → us[j]? = some u → DRel G w d u) →
    Calls P f us w fun e w' => ∃ u G', e = .returned u ∧ Stp G w G' w' ∧ Inv G' s' w' ∧ DRel G' w' r u
/-- Whatever reads as xs reads as ys. -/
def RelL (xs ys : List V) : Prop := ∀ C w (us : Array Value), us.size = xs.length → (∀ (j : Nat) c u, xs[j]? = some c → us[j]? = some u → VRel C w c u) → us.size = ys.length ∧ ∀ (j : Nat) c u, ys[j]? = some c → us[j]? = some u → VRel C w c u
/-- An element handed to the loop: it takes it, or says no. -/
def aYield (t : Nat) (xs : List (List V)) (ds : List D) (s : S) (K : D → S → Prop) : Prop :=
  ∃ k x vs, s.live[t]? = some k ∧ xs[k]? = some x ∧ unps ds = some vs ∧ RelL vs x ∧ K (.p (.v (.bool true))) ⟨s.heap, s.live.set t (k + 1)⟩ ∧ K (.p (.v (.bool false))) ⟨s.heap, s.live.set t (xs.length + 1)⟩
/-- What a call must be: any (gn), or one that turns no memory and looks at no token. -/
structure CallC (gn : Bool) (P : Program) (f : FuncId) (args : List D) (s : S) (r : D) (s' : S) : Prop where
  ok : CallOK P f args s r s'
  quiet : gn = false → s' = s ∧ ∀ live, CallOK P f args ⟨s.heap, live⟩ r ⟨s.heap, live⟩
def aCall (gn : Bool) (P : Program) (c : Call) (e : Operand → Option D) (s : S) (K : D → S → Prop) : Prop :=
  match c.callee with
  | .value f => match e f, evs e c.args.toList with
    | some (.fn (.func g) first cap), some ds => ∃ r s', CallC gn P g ((first ++ ds ++ cap).map dn) s r s' ∧ K r s'
    | some (.yld P' t xs), some ds => gn = true ∧ P' = P ∧ aYield t xs ds s K
    | _, _ => False
  | _ => False
def isCall : Op → Option Call
  | .call c => match c.callee with | .value _ => some c | _ => none
  | _ => none
def aStep (gn : Bool) (P : Program) (tb : Tbl) (o : Op) (e : Operand → Option D) (s : S) (K : D → S → Prop) : Prop :=
  match isCall o with
  | some c => aCall gn P c e s K
  | none => aOp tb o e s K

/-- What an operation's run comes to. -/
def Res (_P : Program) (G : Gh) (w : World) (r : Result Next) (K : D → S → Prop) : Prop :=
  ∃ u w' G' d s', (r = .ok (.value u) w' ∨ (r = .ok .skip w' ∧ u = undef)) ∧ Stp G w G' w' ∧ Inv G' s' w' ∧ DRel G' w' d u ∧ K d s'
section
variable {P : Program} {tb : Tbl}
theorem Out.res {G : Gh} {w : World} {sem : Sem Value} {K : D → S → Prop} (h : Out P G w (sem.run P w) K) : Res P G w ((sem >>= fun x => Pure.pure (Next.value x) : Sem Next).run P w) K := by
  obtain ⟨u, w', G', d, s', hr, r⟩ := h
  exact ⟨u, w', G', d, s', .inl (by simp [hr]), r⟩
theorem evo_rel {G : Gh} {w : World} {e : Operand → Option D} {a : Act} (hev : ∀ x d, e x = some d → DRel G w d (a.eval x)) (x : Option Operand) (l : Option D) (h : evo e x = some l) : OptRel G w l (x.map a.eval) := by
  cases x with
  | none => simp [evo] at h; subst h; trivial
  | some x =>
    unfold evo at h
    split at h
    · rename_i h0; cases h0
    · rename_i x' h0
      cases h0
      split at h
      · rename_i d hd; cases h; exact hev _ d hd
      · cases h
set_option maxHeartbeats 1000000 in
theorem aOp_sound (hT : TblOk P tb) {G : Gh} {w : World} {s : S} (hI : Inv G s w) {K : D → S → Prop} {e : Operand → Option D} {a : Act} (hev : ∀ x d, e x = some d → DRel G w d (a.eval x)) (o : Oper) (h : aOp tb o.op e s K) :
    Res P G w ((execOp a.eval o).run P w) K := by
  unfold execOp
  unfold aOp at h
  split at h
  · -- move
    rename_i x ho
    simp only [ho]
    split at h
    · rename_i d hd
      exact ⟨_, w, G, d, s, .inl rfl, .refl G w, hI, hev _ d hd, h⟩
    · exact h.elim
  · rename_i x ho
    simp only [ho]
    split at h
    · rename_i d hd
      exact ⟨_, w, G, d, s, .inl rfl, .refl G w, hI, hev _ d hd, h⟩
    · exact h.elim
  · rename_i c x y ho
    simp only [ho]
    split at h
    · rename_i hc
      have hb := hev c _ hc
      have hbv : a.eval c = .bool true := by
        generalize a.eval c = q at hb
        cases hb with | p _ _ hb => cases hb; rfl
      split at h
      · rename_i d hd
        exact ⟨_, w, G, d, s, .inl (by simp [hbv, asBool]), .refl G w, hI, hev _ d hd, h⟩
      · exact h.elim
    · rename_i hc
      have hb := hev c _ hc
      have hbv : a.eval c = .bool false := by
        generalize a.eval c = q at hb
        cases hb with | p _ _ hb => cases hb; rfl
      split at h
      · rename_i d hd
        exact ⟨_, w, G, d, s, .inl (by simp [hbv, asBool]), .refl G w, hI, hev _ d hd, h⟩
      · exact h.elim
    · exact h.elim
  · rename_i t ho
    simp only [ho]
    exact (aAlloc_sound hT hI t h).res
  · rename_i t x ho
    simp only [ho]
    split at h
    · rename_i d hd
      exact (aBox_sound hT hI t (hev _ d hd) h).res
    · exact h.elim
  · rename_i t ps ho
    simp only [ho]
    exact (aBuild_sound hT hI hev t ps h).res
  · rename_i t n ps ho
    simp only [ho]
    exact (aBuildSlice_sound hT hI hev t n ps h).res
  · rename_i t x y ho
    simp only [ho]
    split at h
    · rename_i p q hp hq
      exact (aMakeSlice_sound hT hI (hev _ _ hp) (hev _ _ hq) h).res
    · exact h.elim
  · rename_i t x ho
    simp only [ho]
    split at h
    · rename_i ti cs ht hx
      have := hev x _ hx
      generalize a.eval x = q at this
      cases this with
      | p _ _ hq => exact (aLoadV_sound hT hI ht hq h).res
    · rename_i ti nm off ht hx
      split at h
      · rename_i ds hds
        exact (aLoadD_sound hT hI ht (hev x _ hx) hds h).res
      · exact h.elim
    · exact h.elim
  · rename_i t x y ho
    simp only [ho]
    split at h
    · rename_i p q hp hq
      obtain ⟨w', G', s', hr, r1, r2, r3⟩ := aStore_sound hT hI (hev _ _ hp) (hev _ _ hq) h
      exact ⟨undef, w', G', .undef, s', .inr ⟨by simp [hr], rfl⟩, r1, r2, .undef, r3⟩
    · exact h.elim
  · rename_i x ho
    simp only [ho]
    split at h
    · rename_i d hd
      have hr := hev _ d hd
      unfold aNilCheck at h
      split at h
      · cases hr2 : a.eval x with
        | pointer p =>
          rw [hr2] at hr
          cases p with
          | none => cases hr with | p _ _ hr => cases hr
          | some p => exact ⟨_, w, G, _, s, .inl rfl, .refl G w, hI, hr, h⟩
        | _ => rw [hr2] at hr; cases hr with | p _ _ hr => cases hr
      · rename_i b cs
        obtain ⟨hb, h⟩ := h
        subst hb
        have hr : VRel G.com w (.ep cs) (a.eval x) := by cases hr with | p _ _ hr => cases hr with | opt _ _ _ _ h2 => exact h2 rfl
        cases hr2 : a.eval x with
        | pointer p =>
          rw [hr2] at hr
          cases p with
          | none => cases hr
          | some p => exact ⟨_, w, G, _, s, .inl rfl, .refl G w, hI, .p _ _ hr, h⟩
        | _ => rw [hr2] at hr; cases hr
      · cases hr2 : a.eval x with
        | pointer p =>
          rw [hr2] at hr
          cases p with
          | none => cases hr
          | some p => exact ⟨_, w, G, _, s, .inl rfl, .refl G w, hI, hr, h⟩
        | _ => rw [hr2] at hr; cases hr
      · cases hr2 : a.eval x with
        | func f us vs =>
          rw [hr2] at hr
          have hr3 := hr
          cases hr
          exact ⟨_, w, G, _, s, .inl rfl, .refl G w, hI, hr3, h⟩
        | _ => rw [hr2] at hr; cases hr
      · exact h.elim
    · exact h.elim
  · rename_i op t x y t' ho
    simp only [ho]
    split at h
    · rename_i p q hp hq
      exact (aBinOp_sound hT hI (hev _ _ hp) (hev _ _ hq) x y h).res
    · exact h.elim
  · rename_i op t x ho
    simp only [ho]
    split at h
    · rename_i d hd
      exact (aUn_sound hI (hev _ _ hd) h).res
    · exact h.elim
  · rename_i src dst x ho
    simp only [ho]
    split at h
    · rename_i d hd
      exact (aConv_sound hT hI (hev _ _ hd) h).res
    · exact h.elim
  · rename_i f xs ys ho
    simp only [ho]
    exact (aMakeFunc_sound hI hev f xs ys h).res
  · rename_i t x lo hi ho
    simp only [ho]
    split at h
    · rename_i d l m hd hl hm
      exact (aSlice_sound hT hI (hev _ _ hd) (evo_rel hev lo l hl) (evo_rel hev hi m hm) h).res
    · exact h.elim
  · rename_i t x f ho
    simp only [ho]
    split at h
    · rename_i d hd
      exact (aFieldAddr_sound hT hI (hev _ _ hd) h).res
    · exact h.elim
  · rename_i t x f ho
    simp only [ho]
    split at h
    · rename_i d hd
      exact (aField_sound hT hI (hev _ _ hd) h).res
    · exact h.elim
  · rename_i t x i ho
    simp only [ho]
    split at h
    · rename_i p q hp hq
      exact (aIndexAddr_sound hT hI (hev _ _ hp) (hev _ _ hq) h).res
    · exact h.elim
  · rename_i t x i ho
    simp only [ho]
    split at h
    · rename_i p q hp hq
      exact (aIndex_sound hT hI (hev _ _ hp) (hev _ _ hq) h).res
    · exact h.elim
  · rename_i x i ho
    simp only [ho]
    split at h
    · rename_i d hd
      exact (aExtract_sound hI (hev _ _ hd) h).res
    · exact h.elim
  · rename_i c ho
    simp only [ho]
    split at h
    · rename_i x t hc hx ht
      obtain ⟨e1, e2⟩ := evs_rel hev _ _ hx
      have hargs : ∃ x1, c.args = #[x1] := by
        have : c.args.toList.length = 1 := by rw [← e1]; rfl
        match h : c.args.toList, this with
        | [x1], _ => exact ⟨x1, by rw [← Array.toArray_toList (xs := c.args), h]⟩
      obtain ⟨x1, hargs⟩ := hargs
      have htys : c.argTypes = #[t] := by rw [← Array.toArray_toList (xs := c.argTypes), ht]
      have hd := e2 0 x (a.eval x1) rfl (by rw [hargs]; rfl)
      obtain ⟨u, w', G', d, s', hr, r⟩ := aLen_sound (ty := o.type) hT hI hd h
      refine ⟨u, w', G', d, s', .inl ?_, r⟩
      simp [resolve, hc, invoke, builtin, hargs, htys, hr]
    · rename_i x y t t' hc hx ht
      split at h
      · rename_i htt
        subst htt
        obtain ⟨e1, e2⟩ := evs_rel hev _ _ hx
        have hargs : ∃ x1 y1, c.args = #[x1, y1] := by
          have : c.args.toList.length = 2 := by rw [← e1]; rfl
          match h : c.args.toList, this with
          | [x1, y1], _ => exact ⟨x1, y1, by rw [← Array.toArray_toList (xs := c.args), h]⟩
        obtain ⟨x1, y1, hargs⟩ := hargs
        have htys : c.argTypes = #[t, t] := by rw [← Array.toArray_toList (xs := c.argTypes), ht]
        have hd := e2 0 x (a.eval x1) rfl (by rw [hargs]; rfl)
        have hd2 := e2 1 y (a.eval y1) rfl (by rw [hargs]; rfl)
        obtain ⟨u, w', G', d, s', hr, r⟩ := aApp_sound hT hI o.type hd hd2 h
        refine ⟨u, w', G', d, s', .inl ?_, r⟩
        simp [resolve, hc, invoke, builtin, hargs, htys, hr]
      · obtain ⟨e1, e2⟩ := evs_rel hev _ _ hx
        have hargs : ∃ x1 y1, c.args = #[x1, y1] := by
          have : c.args.toList.length = 2 := by rw [← e1]; rfl
          match h : c.args.toList, this with
          | [x1, y1], _ => exact ⟨x1, y1, by rw [← Array.toArray_toList (xs := c.args), h]⟩
        obtain ⟨x1, y1, hargs⟩ := hargs
        have htys : c.argTypes = #[t, t'] := by rw [← Array.toArray_toList (xs := c.argTypes), ht]
        have hd := e2 0 x (a.eval x1) rfl (by rw [hargs]; rfl)
        have hd2 := e2 1 y (a.eval y1) rfl (by rw [hargs]; rfl)
        obtain ⟨u, w', G', d, s', hr, r⟩ := aAppS_sound hT hI o.type hd hd2 h
        refine ⟨u, w', G', d, s', .inl ?_, r⟩
        simp [resolve, hc, invoke, builtin, hargs, htys, hr]
    · rename_i x y hc hx
      obtain ⟨e1, e2⟩ := evs_rel hev _ _ hx
      have hargs : ∃ x1 y1, c.args = #[x1, y1] := by
        have : c.args.toList.length = 2 := by rw [← e1]; rfl
        match h : c.args.toList, this with
        | [x1, y1], _ => exact ⟨x1, y1, by rw [← Array.toArray_toList (xs := c.args), h]⟩
      obtain ⟨x1, y1, hargs⟩ := hargs
      have hd := e2 0 x (a.eval x1) rfl (by rw [hargs]; rfl)
      have hd2 := e2 1 y (a.eval y1) rfl (by rw [hargs]; rfl)
      obtain ⟨u, w', G', d, s', hr, r⟩ := aMinMax_sound (P := P) hI hd hd2 c.argTypes o.type h
      refine ⟨u, w', G', d, s', .inl ?_, r⟩
      simp at hr
      simp [resolve, hc, invoke, builtin, hargs, hr]
    · rename_i x y hc hx
      obtain ⟨e1, e2⟩ := evs_rel hev _ _ hx
      have hargs : ∃ x1 y1, c.args = #[x1, y1] := by
        have : c.args.toList.length = 2 := by rw [← e1]; rfl
        match h : c.args.toList, this with
        | [x1, y1], _ => exact ⟨x1, y1, by rw [← Array.toArray_toList (xs := c.args), h]⟩
      obtain ⟨x1, y1, hargs⟩ := hargs
      have hd := e2 0 x (a.eval x1) rfl (by rw [hargs]; rfl)
      have hd2 := e2 1 y (a.eval y1) rfl (by rw [hargs]; rfl)
      obtain ⟨u, w', G', d, s', hr, r⟩ := aMinMax_sound (P := P) hI hd hd2 c.argTypes o.type h
      refine ⟨u, w', G', d, s', .inl ?_, r⟩
      simp at hr
      simp [resolve, hc, invoke, builtin, hargs, hr]
    · rename_i x y z hc hx
      obtain ⟨e1, e2⟩ := evs_rel hev _ _ hx
      have hargs : ∃ x1 y1 z1, c.args = #[x1, y1, z1] := by
        have : c.args.toList.length = 3 := by rw [← e1]; rfl
        match h : c.args.toList, this with
        | [x1, y1, z1], _ => exact ⟨x1, y1, z1, by rw [← Array.toArray_toList (xs := c.args), h]⟩
      obtain ⟨x1, y1, z1, hargs⟩ := hargs
      have hd := e2 0 x (a.eval x1) rfl (by rw [hargs]; rfl)
      have hd2 := e2 1 y (a.eval y1) rfl (by rw [hargs]; rfl)
      have hd3 := e2 2 z (a.eval z1) rfl (by rw [hargs]; rfl)
      obtain ⟨u, w', G', d, s', hr, r⟩ := aMinMax3_sound (P := P) hI hd hd2 hd3 c.argTypes o.type h
      refine ⟨u, w', G', d, s', .inl ?_, r⟩
      simp at hr
      simp [resolve, hc, invoke, builtin, hargs, hr]
    · exact h.elim
  · exact h.elim
end
end Go.Proofs.Ytlhjieapkcnghaa
