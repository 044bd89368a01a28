/- The abstract layer, part 20: data read less closely; operations with a view; regions. -/
import Derived.Test.YtlhjieapkcnghaaAbG
namespace Go.Proofs.Ytlhjieapkcnghaa
open Go.RowKit

/-- y is x, known less closely: a slice of which it is not told that it is full. -/
inductive LeV : V → V → Prop where
  | refl (x : V) : LeV x x
  | agg (xs ys : List V) : xs.length = ys.length → (∀ (j : Nat) x y, xs[j]? = some x → ys[j]? = some y → LeV x y) → LeV (.agg xs) (.agg ys)
  | sl (f f' : Bool) (es es' : List (List V)) : (f' = true → f = true) → es.length = es'.length → (∀ (i : Nat) e e', es[i]? = some e → es'[i]? = some e' → e.length = e'.length) →
      (∀ (i : Nat) e e', es[i]? = some e → es'[i]? = some e' → ∀ (k : Nat) c c', e[k]? = some c → e'[k]? = some c' → LeV c c') → LeV (.sl f es) (.sl f' es')
  | ep (xs ys : List V) : xs.length = ys.length → (∀ (j : Nat) x y, xs[j]? = some x → ys[j]? = some y → LeV x y) → LeV (.ep xs) (.ep ys)
  | none (ys : List V) : LeV (.v (.pointer none)) (.opt false ys)
  | opt (xs ys : List V) : xs.length = ys.length → (∀ (j : Nat) x y, xs[j]? = some x → ys[j]? = some y → LeV x y) → LeV (.ep xs) (.opt true ys)
theorem getLen {α β : Type} {a : List α} {b : List β} (h : a.length = b.length) {i : Nat} {x : β} (hx : b[i]? = some x) : ∃ y, a[i]? = some y := by
  have := (List.getElem?_eq_some_iff.1 hx).1
  exact ⟨a[i], List.getElem?_eq_getElem (by omega)⟩
theorem VRel.le {C : Nat → Nat → Prop} {w : World} {x y : V} (h : LeV x y) : ∀ {u : Value}, VRel C w x u → VRel C w y u := by
  induction h with
  | refl x => exact fun h => h
  | agg xs ys hl _ ih =>
    intro u h
    cases h with
    | agg _ us h1 h2 h3 =>
      refine .agg _ _ (by omega) (fun j c u hc hu => ?_) (fun j c u hc hu => ?_)
      · obtain ⟨x, hx⟩ := getLen hl hc
        exact h2 j x u hx hu
      · obtain ⟨x, hx⟩ := getLen hl hc
        exact ih j x c hx hc (h3 j x u hx hu)
  | sl f f' es es' hf hl hk _ ih =>
    intro u h
    cases h with
    | sl _ _ a cap size b off us g1 g2 g3 g4 g5 g6 g7 g8 =>
      rw [hl] at g1 g3 ⊢
      refine .sl f' es' a cap size b off us g1 g2 (fun h => g3 (hf h)) (fun e he => ?_) g5 (fun i k e c he hc => ?_) (fun i k e c he hc => ?_) (fun h => g8 (hf h))
      · obtain ⟨i, hi⟩ := List.getElem?_of_mem he
        obtain ⟨x, hx⟩ := getLen hl hi
        rw [← hk i x e hx hi]
        exact g4 x (List.mem_of_getElem? hx)
      · obtain ⟨x, hx⟩ := getLen hl he
        obtain ⟨y, hy⟩ := getLen (hk i x e hx he) hc
        exact g6 i k x y hx hy
      · obtain ⟨x, hx⟩ := getLen hl he
        obtain ⟨y, hy⟩ := getLen (hk i x e hx he) hc
        exact ih i x e hx he k y c hy hc (g7 i k x y hx hy)
  | ep xs ys hl _ ih =>
    intro u h
    cases h with
    | ep _ b off us h1 h2 =>
      refine .ep _ b off us (fun k c hc => ?_) (fun k c hc => ?_)
      · obtain ⟨x, hx⟩ := getLen hl hc
        exact h1 k x hx
      · obtain ⟨x, hx⟩ := getLen hl hc
        exact ih k x c hx hc (h2 k x hx)
  | none ys =>
    intro u h
    cases h
    exact .opt _ _ _ (fun _ => rfl) (fun h => nomatch h)
  | opt xs ys hl _ ih =>
    intro u h
    refine .opt _ _ _ (fun h => nomatch h) (fun _ => ?_)
    cases h with
    | ep _ b off us h1 h2 =>
      refine .ep _ b off us (fun k c hc => ?_) (fun k c hc => ?_)
      · obtain ⟨x, hx⟩ := getLen hl hc
        exact h1 k x hx
      · obtain ⟨x, hx⟩ := getLen hl hc
        exact ih k x c hx hc (h2 k x hx)
theorem LeV.eq {x y : V} (h : x = y) : LeV x y := h ▸ .refl x
/-- Cell by cell. -/
def LeL (xs ys : List V) : Prop := xs.length = ys.length ∧ ∀ (j : Nat) x y, xs[j]? = some x → ys[j]? = some y → LeV x y
theorem LeL.refl (xs : List V) : LeL xs xs := ⟨rfl, fun j x y hx hy => by rw [hx] at hy; cases hy; exact .refl x⟩
theorem LeL.eq {xs ys : List V} (h : xs = ys) : LeL xs ys := h ▸ .refl xs
theorem LeL.nil : LeL [] [] := .refl _
theorem LeL.cons {x y : V} {xs ys : List V} (h : LeV x y) (k : LeL xs ys) : LeL (x :: xs) (y :: ys) := by
  refine ⟨by simp [k.1], fun j a b ha hb => ?_⟩
  cases j with
  | zero => simp at ha hb; subst ha; subst hb; exact h
  | succ j => exact k.2 j a b ha hb
theorem LeL.relL {xs ys : List V} (h : LeL xs ys) : RelL xs ys := fun C w us hs hr => ⟨by rw [hs]; exact h.1, fun j c u hc hu => by
  obtain ⟨x, hx⟩ := getLen h.1 hc
  exact (hr j x u hx hu).le (h.2 j x c hx hc)⟩
/-- Element by element, cell by cell. -/
def LeLL (es es' : List (List V)) : Prop := es.length = es'.length ∧ ∀ (i : Nat) e e', es[i]? = some e → es'[i]? = some e' → LeL e e'
theorem LeLL.refl (es : List (List V)) : LeLL es es := ⟨rfl, fun i e e' h h' => by rw [h] at h'; cases h'; exact .refl e⟩
theorem LeLL.eq {xs ys : List (List V)} (h : xs = ys) : LeLL xs ys := h ▸ .refl xs
theorem LeLL.nil : LeLL [] [] := .refl _
theorem LeLL.cons {x y : List V} {xs ys : List (List V)} (h : LeL x y) (k : LeLL xs ys) : LeLL (x :: xs) (y :: ys) := by
  refine ⟨by simp [k.1], fun j a b ha hb => ?_⟩
  cases j with
  | zero => simp at ha hb; subst ha; subst hb; exact h
  | succ j => exact k.2 j a b ha hb
theorem LeLL.app {a a' b b' : List (List V)} (h : LeLL a a') (k : LeLL b b') : LeLL (a ++ b) (a' ++ b') := by
  refine ⟨by simp [h.1, k.1], fun i e e' he he' => ?_⟩
  by_cases hi : i < a.length
  · rw [List.getElem?_append_left hi] at he
    rw [List.getElem?_append_left (by rw [← h.1]; exact hi)] at he'
    exact h.2 i e e' he he'
  · rw [List.getElem?_append_right (by omega)] at he
    rw [List.getElem?_append_right (by rw [← h.1]; omega), ← h.1] at he'
    exact k.2 _ e e' he he'
theorem LeV.agg' {xs ys : List V} (h : LeL xs ys) : LeV (.agg xs) (.agg ys) := .agg _ _ h.1 h.2
theorem LeV.ep' {xs ys : List V} (h : LeL xs ys) : LeV (.ep xs) (.ep ys) := .ep _ _ h.1 h.2
theorem LeV.opt' {xs ys : List V} (h : LeL xs ys) : LeV (.ep xs) (.opt true ys) := .opt _ _ h.1 h.2
theorem LeV.sl' {f f' : Bool} {es es' : List (List V)} (hf : f' = true → f = true) (h : LeLL es es') : LeV (.sl f es) (.sl f' es') :=
  .sl _ _ _ _ hf h.1 (fun i e e' he he' => (h.2 i e e' he he').1) (fun i e e' he he' => (h.2 i e e' he he').2)
/-- Whatever it was, now it is a slice of which it is not told that it is full. -/
theorem LeV.no {f : Bool} {es es' : List (List V)} (h : LeLL es es') : LeV (.sl f es) (.sl false es') := .sl' (fun h => nomatch h) h
theorem LeV.not {f : Bool} {es : List (List V)} : LeV (.sl f es) (.sl false es) := .no (.refl es)

/-- A slot's content, known less closely. -/
inductive LeD : D → D → Prop where
  | refl (d : D) : LeD d d
  | p {x y : V} : LeV x y → LeD (.p x) (.p y)
  | own {t e size : Nat} {es es' : List (List V)} : LeLL es es' → LeD (.own t e size es) (.own t e size es')
  | drop {t e size : Nat} {f : Bool} {es es' : List (List V)} : f = false → LeLL es es' → LeD (.own t e size es) (.p (.sl f es'))
  | tup {xs ys : List V} : LeL xs ys → LeD (.tup (xs.map .p)) (.tup (ys.map .p))
theorem LeD.eq {x y : D} (h : x = y) : LeD x y := h ▸ .refl x
theorem DRel.le {G : Gh} {w : World} {d d' : D} {u : Value} (h : DRel G w d u) (k : LeD d d') : DRel G w d' u := by
  cases k with
  | refl => exact h
  | p k => cases h with | p _ _ h => exact .p _ _ (h.le k)
  | @own t e size es es' k =>
    cases h with
    | own _ _ _ _ _ T h1 h2 h3 h0 h4 h5 =>
      refine .own t e size es' u T (h1.le (.no k)) (fun x hx => ?_) h3 h0 (by rw [← k.1]; exact h4) (by rw [← k.1]; exact h5)
      obtain ⟨i, hi⟩ := List.getElem?_of_mem hx
      obtain ⟨y, hy⟩ := getLen k.1 hi
      rw [← (k.2 i y x hy hi).1]
      exact h2 y (List.mem_of_getElem? hy)
  | drop hf k => cases h with | own _ _ _ _ _ T h1 => subst hf; exact .p _ _ (h1.le (.no k))
  | @tup xs ys k =>
    cases h with
    | tup _ us h1 h2 =>
      refine .tup _ _ (by simpa [k.1] using h1) (fun j c u hc hu => ?_)
      rw [List.getElem?_map] at hc
      obtain ⟨y, hy, rfl⟩ := Option.map_eq_some_iff.1 hc
      obtain ⟨x, hx⟩ := getLen k.1 hy
      have := h2 j (.p x) u (by rw [List.getElem?_map, hx]; rfl) hu
      cases this with | p _ _ h => exact .p _ _ (h.le (k.2 j x y hx hy))

/-! ### operations with a view -/
def viewed : Op → Bool
  | .call c => match c.callee with | .builtin .len => true | .builtin .append => true | _ => false
  | .slice _ _ _ _ _ => true
  | .convert _ _ _ => true
  | _ => false
/-- Behind some operations the content may be put in other words. -/
def vw (o : Op) (K : D → S → Prop) (d : D) (s : S) : Prop := match viewed o with
  | true => ∃ d' live, LeD d d' ∧ live = s.live ∧ K d' ⟨s.heap, live⟩
  | false => K d s
section
variable {P : Program} {tb : Tbl}
def bStep (gn : Bool) (P : Program) (tb : Tbl) (o : Op) (e : Operand → Option D) (s : S) (K : D → S → Prop) : Prop := aStep gn P tb o e s (vw o K)
theorem put_defers (a : Act) (dst : Option Nat) (u : Value) : (a.put dst u).defers = a.defers := by cases dst <;> rfl
theorem bStep_sound (hT : TblOk P tb) {rd : Option Nat} {gn : Bool} {N : Nat} {G : Gh} {σ : St} {a : Act} {w : World} (hR : Rel N G σ a w) {o : Oper} {K : D → S → Prop} (h : bStep gn P tb o.op (ev σ.env) σ.s K)
    {next : Act → World → Prop} {Q : Exit → Act → World → Prop} (hn : ∀ u w' G' d s', Stp G w G' w' → Inv G' s' w' → DRel G' w' d u → K d s' → next (a.put o.dst u) w') : o.wpIn (FW rd) 0 P a w next Q := by
  refine aStep_sound hT hR h fun u w' G' d s' h1 h2 h3 h4 => ?_
  unfold vw at h4
  split at h4
  · obtain ⟨d', live, hd, rfl, hk⟩ := h4
    exact hn u w' G' d' s' h1 h2 (h3.le hd) hk
  · exact hn u w' G' d s' h1 h2 h3 h4
theorem bStep_loc {P : Program} (o : Op) (e : Operand → Option D) : Loc (flags o) fun s K => bStep false P tb o e s K := by
  intro s K h
  obtain ⟨d, s1, h1, h2, h3, h4⟩ := aStep_loc (tb := tb) o e s _ h
  cases hv : viewed o with
  | false =>
    have e : ∀ K d s, vw o K d s = K d s := fun K d s => by unfold vw; rw [hv]
    rw [e] at h1
    refine ⟨d, s1, h1, h2, h3, fun s' K' e1 e2 hk => h4 s' _ e1 e2 ?_⟩
    rw [e]; exact hk
  | true =>
    have e : ∀ K d (s : S), vw o K d s = ∃ d' live, LeD d d' ∧ live = s.live ∧ K d' ⟨s.heap, live⟩ := fun K d s => by unfold vw; rw [hv]
    rw [e] at h1
    obtain ⟨d', live, hd, rfl, hk⟩ := h1
    refine ⟨d', s1, hk, h2, h3, fun s' K' e1 e2 hk' => h4 s' _ e1 e2 ?_⟩
    rw [e]; exact ⟨d', _, hd, rfl, hk'⟩
theorem bStep_congr {gn : Bool} (o : Op) {e e' : Operand → Option D} (h : ∀ x ∈ o.operands.toList, e x = e' x) (s : S) (K : D → S → Prop) : bStep gn P tb o e s K = bStep gn P tb o e' s K := aStep_congr o h s _

/-! ### regions -/
def bOne (gn : Bool) (P : Program) (tb : Tbl) (N : Nat) (ops : List Oper) (i : Nat) (σ : St) (K : St → Prop) : Prop :=
  match ops[i]? with
  | none => K σ
  | some o => match aWant ops σ.env o.guard with
    | some true => bStep gn P tb o.op (ev σ.env) σ.s fun d s' => splitB (isGuard ops i) d fun d => putE N σ.env o.dst d fun env' => K ⟨env', s'⟩
    | some false => putE N σ.env o.dst .undef fun env' => K ⟨env', σ.s⟩
    | none => False
def bOps (gn : Bool) (P : Program) (tb : Tbl) (N : Nat) (ops : List Oper) : List Nat → St → (St → Prop) → Prop
  | [], σ, K => K σ
  | i :: r, σ, K => bOne gn P tb N ops i σ fun σ' => bOps gn P tb N ops r σ' K
theorem bOne_sound (hT : TblOk P tb) {rd : Option Nat} {gn : Bool} {N : Nat} {G : Gh} {σ : St} {a : Act} {w : World} (hR : Rel N G σ a w) {ops : List Oper} {i : Nat} {K : St → Prop} (h : bOne gn P tb N ops i σ K)
    {next : Act → World → Prop} {Q : Exit → Act → World → Prop} (hn : ∀ a' w' G' σ', Stp G w G' w' → Rel N G' σ' a' w' → a'.defers = a.defers → K σ' → next a' w') : wpOpIn (FW rd) 0 P ops.toArray Q i next a w := by
  unfold bOne at h
  unfold wpOpIn
  split at h
  · rename_i ho
    simp only [List.getElem?_toArray, ho]
    exact hn a w G σ (.refl G w) hR rfl h
  · rename_i o ho
    simp only [List.getElem?_toArray, ho]
    split at h
    · rename_i hw
      rw [if_pos (aWant_rel hR ops o true hw)]
      refine bStep_sound hT hR h fun u w' G' d s' r1 r2 r3 r4 => ?_
      obtain ⟨env', q1, q2⟩ := putE_rel hR r1 r2 r3 (splitB_elim r4)
      exact hn _ _ _ _ r1 q1 (put_defers _ _ _) q2
    · rename_i hw
      rw [if_neg (by rw [aWant_rel hR ops o false hw]; simp)]
      refine ⟨fun f _ => FW_fn _ _, ?_⟩
      obtain ⟨env', q1, q2⟩ := putE_rel hR (.refl G w) hR.inv .undef h
      exact hn _ _ _ _ (.refl G w) q1 (put_defers _ _ _) q2
    · exact h.elim
theorem bOps_sound (hT : TblOk P tb) {rd : Option Nat} {gn : Bool} {N : Nat} {ops : List Oper} {Q : Exit → Act → World → Prop} {K : St → Prop} {B : Nat × Nat} {G0 : Gh} {w0 : World} {ds : List Deferred} (hQ : ∀ a w G σ, Ex B G0 w0 G w → Rel N G σ a w → a.defers = ds → K σ → Q .normal a w) :
    ∀ (l : List Nat) (σ : St) (a : Act) (w : World) (G : Gh), Ex B G0 w0 G w → Rel N G σ a w → a.defers = ds → bOps gn P tb N ops l σ K → wpOpsIn (FW rd) 0 P ops.toArray Q l a w
  | [], σ, a, w, G, hE, hR, hd, h => hQ a w G σ hE hR hd h
  | i :: r, σ, a, w, G, hE, hR, hd, h => by
    rw [wpOpsIn_cons]
    exact bOne_sound hT hR h fun a' w' G' σ' s1 r1 d1 h1 => bOps_sound hT hQ r σ' a' w' G' (hE.trans (s1.ex B)) r1 (d1.trans hd) h1
/-- A step: what it puts and what memory becomes hang on just the slots that it looks at and the memory that its flags name. -/
theorem bOne_loc {N : Nat} {ops : List Oper} {i : Nat} {σ : St} {K : St → Prop} (h : bOne false P tb N ops i σ K) :
    ∃ d s1, K ⟨fset (dstOf ops i) d σ.env, s1⟩ ∧ ((flagsAt ops i).wr = false → s1.heap = σ.s.heap) ∧ ((flagsAt ops i).tk = false → s1.live = σ.s.live) ∧
      ∀ (τ : St) (K' : St → Prop), (∀ t ∈ looksAt ops i, σ.env.lookup t = τ.env.lookup t) → ((flagsAt ops i).rd = true → τ.s.heap = σ.s.heap) → ((flagsAt ops i).tk = true → τ.s.live = σ.s.live) →
        K' ⟨fset (dstOf ops i) d τ.env, ⟨if (flagsAt ops i).wr then s1.heap else τ.s.heap, if (flagsAt ops i).tk then s1.live else τ.s.live⟩⟩ → bOne false P tb N ops i τ K' := by
  unfold bOne at h ⊢
  cases ho : ops[i]? with
  | none =>
    simp only [ho] at h
    refine ⟨.undef, σ.s, ?_, fun _ => rfl, fun _ => rfl, fun τ K' _ _ _ hk => ?_⟩
    · simp only [dstOf, ho, Option.bind_none, fset]; exact h
    · simp only [dstOf, ho, Option.bind_none, fset, flagsAt] at hk ⊢; exact hk
  | some o =>
    have hd : dstOf ops i = o.dst := by simp [dstOf, ho]
    have hf : flagsAt ops i = flags o.op := by simp [flagsAt, ho]
    have hl : looksAt ops i = looks ops o := by simp [looksAt, ho]
    simp only [ho] at h ⊢
    rw [hd, hf, hl]
    split at h
    · rename_i hw
      obtain ⟨d, s1, hk, h1, h2, h3⟩ := bStep_loc (tb := tb) (P := P) o.op (ev σ.env) σ.s _ h
      obtain ⟨k1, k2⟩ := splitB_det hk
      obtain ⟨p1, p2⟩ := putE_iff.1 k1
      refine ⟨d, s1, p2, h1, h2, fun τ K' e1 e2 e3 hk' => ?_⟩
      rw [← aWant_congr e1, hw]
      simp only
      rw [bStep_congr o.op fun x hx => (ev_congr e1 x hx).symm]
      exact h3 τ.s _ e2 e3 (k2 _ (putE_iff.2 ⟨p1, hk'⟩))
    · rename_i hw
      obtain ⟨p1, p2⟩ := putE_iff.1 h
      refine ⟨.undef, σ.s, p2, fun _ => rfl, fun _ => rfl, fun τ K' e1 e2 e3 hk' => ?_⟩
      rw [← aWant_congr e1, hw]
      refine putE_iff.2 ⟨p1, ?_⟩
      have e : (⟨if (flags o.op).wr then σ.s.heap else τ.s.heap, if (flags o.op).tk then σ.s.live else τ.s.live⟩ : S) = τ.s := by
        have a1 : (if (flags o.op).wr then σ.s.heap else τ.s.heap) = τ.s.heap := by
          split
          · rename_i h; exact (e2 (flags_wr o.op h)).symm
          · rfl
        have a2 : (if (flags o.op).tk then σ.s.live else τ.s.live) = τ.s.live := by
          split
          · rename_i h; exact (e3 h).symm
          · rfl
        rw [a1, a2]
      rw [e] at hk'; exact hk'
    · exact h.elim
theorem bOne_mono {N : Nat} {ops : List Oper} {i : Nat} {σ : St} {K K' : St → Prop} (hK : ∀ τ, K τ → K' τ) (h : bOne false P tb N ops i σ K) : bOne false P tb N ops i σ K' := by
  obtain ⟨d, s1, k, h1, h2, h3⟩ := bOne_loc h
  refine h3 σ K' (fun _ _ => rfl) (fun _ => rfl) (fun _ => rfl) ?_
  have e : (⟨if (flagsAt ops i).wr then s1.heap else σ.s.heap, if (flagsAt ops i).tk then s1.live else σ.s.live⟩ : S) = s1 := by
    refine S.ext' ?_ ?_
    · show (if (flagsAt ops i).wr then s1.heap else σ.s.heap) = s1.heap
      split
      · rfl
      · rename_i hw; exact (h1 (by simpa using hw)).symm
    · show (if (flagsAt ops i).tk then s1.live else σ.s.live) = s1.live
      split
      · rfl
      · rename_i hw; exact (h2 (by simpa using hw)).symm
  rw [e]; exact hK _ k
theorem bOne_eqv {N : Nat} {ops : List Oper} {i : Nat} {σ τ : St} {K : St → Prop} (hK : Closed K) (he : Eqv σ τ) (h : bOne false P tb N ops i σ K) : bOne false P tb N ops i τ K := by
  obtain ⟨d, s1, k, h1, h2, h3⟩ := bOne_loc h
  refine h3 τ K (fun t _ => he.1 t) (fun _ => by rw [he.2]) (fun _ => by rw [he.2]) (hK _ _ ⟨fun t => ?_, ?_⟩ k)
  · simp only [fset_look]; rw [he.1 t]
  · refine S.ext' ?_ ?_
    · show s1.heap = if (flagsAt ops i).wr then s1.heap else τ.s.heap
      split
      · rfl
      · rename_i hw; rw [h1 (by simpa using hw), he.2]
    · show s1.live = if (flagsAt ops i).tk then s1.live else τ.s.live
      split
      · rfl
      · rename_i hw; rw [h2 (by simpa using hw), he.2]
theorem bOps_eqv {N : Nat} {ops : List Oper} {K : St → Prop} (hK : Closed K) : ∀ l : List Nat, Closed fun σ => bOps false P tb N ops l σ K
  | [], σ, τ, he, h => hK σ τ he h
  | _ :: r, _, _, he, h => bOne_eqv (bOps_eqv hK r) he h
theorem bOne_swap {N : Nat} {ops : List Oper} {i j : Nat} (hi : indep ops i j = true) {σ : St} {K : St → Prop} (hK : Closed K) (h : bOne false P tb N ops i σ fun σ1 => bOne false P tb N ops j σ1 K) :
    bOne false P tb N ops j σ fun σ1 => bOne false P tb N ops i σ1 K := by
  obtain ⟨p1, p2, p3, p4, p5, p6⟩ := indep_spec hi
  obtain ⟨d, s1, k, h1, h2, h3⟩ := bOne_loc h
  obtain ⟨d', s2, k', h1', h2', h3'⟩ := bOne_loc k
  have flip : ∀ {a b : Bool}, (a = true → b = false) → b = true → a = false := fun {a b} f hb => by
    cases a
    · rfl
    · rw [f rfl] at hb; cases hb
  refine h3' σ _ (fun t ht => ?_) (fun hr => ?_) (fun ht => ?_) ?_
  · rw [fset_look, if_neg fun e => p1 t e ht]
  · exact (h1 (flip p4 hr)).symm
  · exact (h2 (flip p6 ht)).symm
  refine h3 _ K (fun t ht => ?_) (fun hr => ?_) (fun ht => ?_) ?_
  · rw [fset_look, if_neg fun e => p2 t e ht]
  · show (if (flagsAt ops j).wr then s2.heap else σ.s.heap) = σ.s.heap
    rw [flip p5 hr]; rfl
  · show (if (flagsAt ops j).tk then s2.live else σ.s.live) = σ.s.live
    rw [p6 ht]; rfl
  refine hK _ _ ⟨fun t => ?_, S.ext' ?_ ?_⟩ k'
  · simp only [fset_look]
    by_cases e1 : dstOf ops j = some t
    · have e2 : dstOf ops i ≠ some t := fun e => p3 t e e1
      rw [if_pos e1, if_neg e2, if_pos e1]
    · rw [if_neg e1, if_neg e1]
  · show s2.heap = if (flagsAt ops i).wr then s1.heap else if (flagsAt ops j).wr then s2.heap else σ.s.heap
    cases hwi : (flagsAt ops i).wr
    · cases hwj : (flagsAt ops j).wr
      · rw [h1' hwj]; exact h1 hwi
      · rfl
    · have hwj : (flagsAt ops j).wr = false := by
        cases hw : (flagsAt ops j).wr
        · rfl
        · have := flagsAt_wr ops j hw; rw [p4 hwi] at this; cases this
      exact h1' hwj
  · show s2.live = if (flagsAt ops i).tk then s1.live else if (flagsAt ops j).tk then s2.live else σ.s.live
    cases hwi : (flagsAt ops i).tk
    · cases hwj : (flagsAt ops j).tk
      · rw [h2' hwj]; exact h2 hwi
      · rfl
    · exact h2' (p6 hwi)
theorem bOps_front {N : Nat} {ops : List Oper} {x : Nat} {B : List Nat} {K : St → Prop} (hK : Closed K) : ∀ (A : List Nat) (σ : St), (∀ a ∈ A, indep ops a x = true) → bOps false P tb N ops (A ++ x :: B) σ K → bOne false P tb N ops x σ fun σ1 => bOps false P tb N ops (A ++ B) σ1 K
  | [], σ, _, h => h
  | a :: A, σ, hA, h => by
    have h1 : bOne false P tb N ops a σ fun σ1 => bOne false P tb N ops x σ1 fun σ2 => bOps false P tb N ops (A ++ B) σ2 K :=
      bOne_mono (fun τ hτ => bOps_front hK A τ (fun b hb => hA b (by simp [hb])) hτ) h
    exact bOne_swap (hA a (by simp)) (bOps_eqv hK (A ++ B)) h1
end
end Go.Proofs.Ytlhjieapkcnghaa
